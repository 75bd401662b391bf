/- Lemmas and walks for the proof. -/
import Derived.Test.YtkpohmhenegkiaaGreatDoorFe
import Derived.Test.YtkpohmhenegkiaaGreatDoorProg
import Derived.ProofKit
import Derived.OpenShut
import Derived.ChangeStays
import Derived.Deep.Slices
import Derived.JoinedCond
import Derived.KernelRfl
set_option maxRecDepth 100000
set_option maxHeartbeats 8000000
namespace Go.Proofs.YtkpohmhenegkiaaGreatDoor
open Go.W
mutual
theorem M0:∀ v:Vl,b7 v<=v.h
  | .mk k n s l f=>by
    rw [b7,Vl.h]
    have h1:=XD l 0
    have h2:=W4 f (fX 0 l)
    cases kV (.mk k n s l f) with
    | true=>rw [Bool.cond_true]; omega
    | false=>rw [Bool.cond_false]; omega
theorem XD:∀ (l:List Vl) (d:Int),fX d l<=max d (Vl.hl l)
  | [],d=>by rw [fX,Vl.hl]; omega
  | v :: r,d=>by
    rw [fX,Vl.hl]
    have h1:=M0 v
    have h2:=XD r (max d (b7 v))
    omega
theorem W4:∀ (l:List (Int × Vl)) (d:Int),iL d l<=max d (Vl.hf l)
  | [],d=>by rw [iL,Vl.hf]; omega
  | (i,v) :: r,d=>by
    rw [iL,Vl.hf]
    have h1:=M0 v
    have h2:=W4 r (max d (b7 v))
    omega
end
def DV (N:Nat):List S->Prop:=fun av=>match av with
  | [.va (.gs r)]=>qJ r/\(C.vv r).h<=N/\N<=1000000
  | _=>False
theorem lZ {N:Nat} {av:List S} (h:DV N av):∃ v,av=[.va (.gs (aV v))]/\VlOk v/\v.h<=N/\N<=1000000:=by
  unfold DV at h
  split at h
  · obtain ⟨⟨v,rfl,hv⟩,h1,h2⟩:=h; rw [kY] at h1; exact ⟨v,rfl,hv,h1,h2⟩
  · exact h.elim
noncomputable def UE:List S->A:=fun av=>match av with
  | [.va (.gs r)]=>iA .i64 (b7 (C.vv r))
  | _=>.gs []
noncomputable def MT (N:Nat):Fun:=⟨DV N,UE,fun av h=>by obtain ⟨_,rfl,_⟩:=lZ h; trivial⟩
attribute [go_sem] MT DV UE
theorem GM:∀ N,Meets Tryz.prog 66 (MT N).sp
  | 0=>⟨by kernel_rfl,by rintro xs vs E ro w K _ _ _ ⟨⟨h,_⟩,_⟩; obtain ⟨v,_,_,h,_⟩:=lZ h; have:=v.h_pos; omega⟩
  | N + 1=>by
    refine aF Tryz.func66 aHP 1 (by rw [Tryz.ntmps66]; decide) (aG (GM N) (aA _)) (fun av H K h=>by obtain ⟨_,rfl,_⟩:=lZ h.1.1; rfl) ?_
    rintro av H K ⟨⟨h,rfl⟩,hK⟩
    obtain ⟨v,rfl,hv,hh,hN⟩:=lZ h
    have hK:K (iS .i64 (b7 v)) []:=by
      have:(MT (N + 1)).val [.va (.gs (aV v))]=iA .i64 (b7 v):=by show iA .i64 (b7 (C.vv (aV v)))=_; rw [kY]
      rw [this] at hK; exact hK
    have fin:∀ (z:Int) (R:Hp),b7 v=z->W.Fin 0 K (iS .i64 z) R:=fun z R h=>by
      rw [h] at hK; exact .sel [] (by simp) (by simp) rfl (.done (by simpa [go_sem] using hK))
    clear hK h
    have hvh:=M0 v
    rw [zB] at fin hvh
    have hll:=hv.ll
    have hlf:=hv.lf
    have hs:∀ b:Bool,kV v=b->((v.k != 5) && (v.k != 6) && ((v.l.length:Int) == 0) && ((v.f.length:Int) == 0))=b:=fun b h=>h
    have tail:(∀ (z:Int) (R:Hp),1 + iL (fX 0 v.l) v.f=z->W.Fin 0 K (iS .i64 z) R)->1 + iL (fX 0 v.l) v.f<=1000001->vc [(66,.f (MT N))] 0 pcL66_3.ungh (eG [(1,.va (.c1 (.pt 0 0)))]) [.cells [.vl (.int .i64 v.k),.vl (.int .i64 v.n),.vl (.string v.s),.fz (v.l.map aV),.fz (v.f.map aY)] 32] (jL 0 xC K):=fun fin hb=>by
      simp (maxSteps:=1000000) -dsimp only [go_sem,pcL66_3,xC]
      refine aK (α:=Nat × Int) (fun x=>[(1,.va (.c1 (.pt 0 0))),(3,iS .i64 x.2),(4,iS .i64 x.1)]) (fun _=>[.cells [.vl (.int .i64 v.k),.vl (.int .i64 v.n),.vl (.string v.s),.fz (v.l.map aV),.fz (v.f.map aY)] 32])
        (fun x=>x.1<=v.l.length/\fX x.2 (v.l.drop x.1)=fX 0 v.l) (fun x=>v.l.length - x.1) (0,0) 1 ⟨Nat.zero_le _,rfl⟩ ?_ ?_ ?_
      · simp -dsimp only [go_sem]<;>simp
      · simp -dsimp only [go_sem]<;>simp
      rintro ⟨i,m⟩ ⟨hi,ho⟩
      simp only at hi ho
      rcases Nat.lt_or_ge i v.l.length with hlt | hge
      · have hg:decide ((i:Int) < (v.l.length:Int))=true:=by simp; omega
        have hx:v.l[i]? = some v.l[i]:=List.getElem?_eq_getElem hlt
        have q2:=aO (row:=aV) hx
        rw [List.drop_eq_getElem_cons hlt,fX] at ho
        have hxo:=hv.l _ (List.getElem_mem hlt)
        have hxh:=Vl.h_l (List.getElem_mem hlt)
        generalize v.l[i]=x at *
        have j1:=cE hxo
        have j2:=eR x
        have j3:(x.h<=N)=True:=eq_true (by omega)
        have j4:(N<=1000000)=True:=eq_true (by omega)
        cases hz:decide (m < b7 x) with
        | true=>
          have:=of_decide_eq_true hz
          rw [show max m (b7 x)=b7 x by omega] at ho
          simp (maxSteps:=1000000) -dsimp only [go_sem,hg,↓q2,aI x,List.take_succ_cons,List.take_zero,List.length_cons,List.length_nil,j1,j2,j3,j4,hz]
          refine ⟨⟨by omega,by omega⟩,⟨by omega,by omega⟩,aC (i + 1,b7 x) 1 ⟨by simp only; omega,ho⟩ (by simp only; omega) ?_ ?_⟩
          · simp -dsimp only [go_sem]<;>simp
          · simp -dsimp only [go_sem]<;>simp
        | false=>
          have:=of_decide_eq_false hz
          rw [show max m (b7 x)=m by omega] at ho
          simp (maxSteps:=1000000) -dsimp only [go_sem,hg,↓q2,aI x,List.take_succ_cons,List.take_zero,List.length_cons,List.length_nil,j1,j2,j3,j4,hz]
          refine ⟨⟨by omega,by omega⟩,⟨by omega,by omega⟩,aC (i + 1,m) 1 ⟨by simp only; omega,ho⟩ (by simp only; omega) ?_ ?_⟩
          · simp -dsimp only [go_sem]<;>simp
          · simp -dsimp only [go_sem]<;>simp
      · have hg:decide ((i:Int) < (v.l.length:Int))=false:=by simp; omega
        have:v.l.drop i=[]:=List.drop_eq_nil_iff.2 (by omega)
        rw [this,fX] at ho
        simp (maxSteps:=1000000) -dsimp only [go_sem,hg]
        clear hg this hi hge
        subst ho
        refine aK (α:=Nat × Int) (fun x=>[(1,.va (.c1 (.pt 0 0))),(3,iS .i64 x.2),(6,iS .i64 x.1)]) (fun _=>[.cells [.vl (.int .i64 v.k),.vl (.int .i64 v.n),.vl (.string v.s),.fz (v.l.map aV),.fz (v.f.map aY)] 32])
          (fun x=>x.1<=v.f.length/\iL x.2 (v.f.drop x.1)=iL (fX 0 v.l) v.f) (fun x=>v.f.length - x.1) (0,fX 0 v.l) 1 ⟨Nat.zero_le _,rfl⟩ ?_ ?_ ?_
        · simp -dsimp only [go_sem]<;>simp
        · simp -dsimp only [go_sem]<;>simp
        rintro ⟨j,m⟩ ⟨hj,ho⟩
        simp only at hj ho
        rcases Nat.lt_or_ge j v.f.length with hlt | hge
        · have hg:decide ((j:Int) < (v.f.length:Int))=true:=by simp; omega
          have hx:v.f[j]? = some v.f[j]:=List.getElem?_eq_getElem hlt
          have q2:=kN hx
          rw [List.drop_eq_getElem_cons hlt] at ho
          have hxo:=hv.f _ (List.getElem_mem hlt)
          have hxh:=Vl.h_f (List.getElem_mem hlt)
          generalize v.f[j]=x at *
          obtain ⟨n,x⟩:=x
          rw [iL] at ho
          simp only at hxo hxh q2
          have j1:=cE hxo
          have j2:=eR x
          have j3:(x.h<=N)=True:=eq_true (by omega)
          have j4:(N<=1000000)=True:=eq_true (by omega)
          cases hz:decide (m < b7 x) with
          | true=>
            have:=of_decide_eq_true hz
            rw [show max m (b7 x)=b7 x by omega] at ho
            simp (maxSteps:=1000000) -dsimp only [go_sem,hg,↓q2,List.take_succ_cons,List.take_zero,List.length_cons,List.length_nil,j1,j2,j3,j4,hz]
            refine ⟨⟨by omega,by omega⟩,⟨by omega,by omega⟩,aC (j + 1,b7 x) 1 ⟨by simp only; omega,ho⟩ (by simp only; omega) ?_ ?_⟩
            · simp -dsimp only [go_sem]<;>simp
            · simp -dsimp only [go_sem]<;>simp
          | false=>
            have:=of_decide_eq_false hz
            rw [show max m (b7 x)=m by omega] at ho
            simp (maxSteps:=1000000) -dsimp only [go_sem,hg,↓q2,List.take_succ_cons,List.take_zero,List.length_cons,List.length_nil,j1,j2,j3,j4,hz]
            refine ⟨⟨by omega,by omega⟩,⟨by omega,by omega⟩,aC (j + 1,m) 1 ⟨by simp only; omega,ho⟩ (by simp only; omega) ?_ ?_⟩
            · simp -dsimp only [go_sem]<;>simp
            · simp -dsimp only [go_sem]<;>simp
        · have hg:decide ((j:Int) < (v.f.length:Int))=false:=by simp; omega
          have:v.f.drop j=[]:=List.drop_eq_nil_iff.2 (by omega)
          rw [this,iL] at ho
          have hm0:0<=iL (fX 0 v.l) v.f:=Int.le_trans (tL v.l 0) (o7 v.f _)
          simp (maxSteps:=1000000) -dsimp only [go_sem,hg]
          exact ⟨⟨by omega,by omega⟩,fin _ _ (by omega)⟩
    cases h0:kV v with
    | true=>
      have hs:=hs true h0
      rw [h0,Bool.cond_true] at fin
      simp only [Bool.and_eq_true] at hs
      obtain ⟨⟨⟨a1,a2⟩,a3⟩,a4⟩:=hs
      simp (maxSteps:=1000000) -dsimp only [go_sem,aI v,L3,xC,a1,a2,a3,a4]
      exact fin 0 _ rfl
    | false=>
      have hs:=hs false h0
      rw [h0,Bool.cond_false] at fin hvh
      cases a1:v.k != 5<;>cases a2:v.k != 6<;>cases a3:(v.l.length:Int) == 0<;>cases a4:(v.f.length:Int) == 0 <;>
      first
        | (exfalso; rw [a1,a2,a3,a4] at hs; exact absurd hs (by decide))
        | (simp (maxSteps:=1000000) -dsimp only [go_sem,aI v,L3,xC,a1,a2,a3,a4]
           refine dY 1 (tail fin (by omega)) ?_ ?_
           · simp -dsimp only [go_sem]<;>simp
           · simp -dsimp only [go_sem]<;>simp)
end Go.Proofs.YtkpohmhenegkiaaGreatDoor
namespace Go.Proofs.YtkpohmhenegkiaaGreatDoor
open Go.W
theorem YX (N:Nat) (hN:N<=1000000):Meets Tryz.prog 25 (cQ (qW N) fun s t v=>.int .i64 (dQ s t v)).sp:=by
  refine aF Tryz.func25 aN2 3 (by rw [Tryz.ntmps25]; decide) (aG (GM N) (aG (JR N) (aA _))) eE ?_
  intro av H K h
  obtain ⟨s,t,v,rfl,rfl,hs,ht,hv,hh,hK⟩:=dH h
  clear h
  have fin:∀ (z:Int) (R:Hp),dQ s t v=z->W.Fin 0 K (iS .i64 z) R:=fun z R h=>by
    have hK:K (iS .i64 (dQ s t v)) []:=hK
    rw [h] at hK; exact .sel [] (by simp) (by simp) rfl (.done (by simpa [go_sem] using hK))
  clear hK
  unfold dQ at fin
  rw [KG,<-H5] at fin
  have k1:=cE hv
  have k2:=eR v
  have k4:=cL ht
  have k5:=fN t
  have k6:=dV hs
  have k7:=hM s
  have k8:(v.h<=N)=True:=eq_true hh
  have k9:(N<=1000000)=True:=eq_true hN
  have k10:qW N s t v:=hh
  cases h1:decide (6 < b7 v) with
  | true=>
    rw [h1] at fin
    simp (maxSteps:=1000000) -dsimp only [go_sem,aE,aH t,aI v,TA,RE,k1,k2,k8,k9,h1]
    exact fin 9 _ rfl
  | false=>
    rw [h1] at fin
    simp (maxSteps:=1000000) -dsimp only [go_sem,aE,aH t,aI v,TA,RE,k1,k2,k4,k5,k6,k7,k8,k9,h1]
    exact fin _ _ rfl
end Go.Proofs.YtkpohmhenegkiaaGreatDoor
namespace Go.Proofs.YtkpohmhenegkiaaGreatDoor
open Go.W
def IF:PC:=.seq (.reg [.e 3 (.bx 25 (.t 0)),.e 4 (.bx 28 (.t 1)),.e 5 (.bx 32 (.t 2)),.q 6 (.mv (.k (.string (mk []))))]) (.seq (.seq (.reg [.l 8 (.ldn 3 (.t 3)),.l 9 (.ldn 4 (.t 4)),.l 10 (.ldn 5 (.t 5)),.a 11 (.cq 25 [(.t 8),(.t 9),(.t 10)]),.q 12 (.bin .neq true (.t 11) (.i 0)),.v 13 12,⟨some 14,(some (13,false)),.l (.ldn 5 (.t 5))⟩,⟨some 15,(some (13,false)),.cq 26 [(.t 14)]⟩,⟨some 16,(some (13,false)),.q (.not (.t 15))⟩,.a 17 (.pick (.t 13) (.k (.bool true)) (.t 16))]) (.cond (.t 17) (.seq (.reg [.q 6 (.mv (.k (.string (mk []))))]) .ret) .skip)) (.seq (.reg [.l 18 (.ldn 3 (.t 3)),.l 19 (.ldn 4 (.t 4)),.l 20 (.ldn 5 (.t 5)),.a 21 (.cq 27 [(.t 18),(.t 19),(.t 20)]),.v 7 21]) (.seq (.seq (.reg [.v 22 7,.q 23 (.lnS (.t 22)),.q 24 (.bin .gtr true (.t 23) (.i 4000))]) (.cond (.t 24) (.seq (.reg [.q 6 (.mv (.k (.string (mk []))))]) .ret) .skip)) (.seq (.reg [.v 25 7,.v 6 25]) .ret))))
def EX:List RV:=[.mv (.t 6)]
theorem aKL:aN Tryz.prog true ⟨fun r k=>if r=1/\k=3 then .q else if r=1/\k=7 then .q else if r=3/\k=3 then .q else .own [],fun _=>false⟩ Tryz.f12=some (IF,EX):=by kernel_rfl
def SB:PC:=.seq (.reg [.e 1 (.bx 32 (.t 0)),.q 2 (.mv (.k (.bool false)))]) (.seq (.seq (.reg [.q 6 (.fa 2 (.t 1)),.l 7 (.ld1 (.t 6)),.q 8 (.lnS (.t 7)),.q 9 (.bin .gtr true (.t 8) (.i 200))]) (.cond (.t 9) (.seq (.reg [.q 2 (.mv (.k (.bool false)))]) .ret) .skip)) (.seq (.seq (.reg [.q 3 (.mv (.i 0))]) (.block 0 (.loop (.seq (.seq (.reg [.v 10 3,.q 11 (.fa 2 (.t 1)),.l 12 (.ld1 (.t 11)),.q 13 (.lnS (.t 12)),.q 14 (.bin .lss true (.t 10) (.t 13))]) (.cond (.t 14) .skip (.exit 0))) (.seq (.block 1 (.seq (.reg [.q 17 (.fa 2 (.t 1)),.l 18 (.ld1 (.t 17)),.v 19 3,.a 20 (.ix (.t 18) (.t 19)),.q 21 (.bin .lss true (.t 20) (.k (.int .u8 32))),.v 22 21,⟨some 23,(some (22,false)),.q (.fa 2 (.t 1))⟩,⟨some 24,(some (22,false)),.l (.ld1 (.t 23))⟩,⟨some 25,(some (22,false)),.q (.mv (.t 3))⟩,⟨some 26,(some (22,false)),.ix (.t 24) (.t 25)⟩,⟨some 27,(some (22,false)),.q (.bin .gtr true (.t 26) (.k (.int .u8 126)))⟩,.a 28 (.pick (.t 22) (.k (.bool true)) (.t 27))]) (.cond (.t 28) (.seq (.reg [.q 2 (.mv (.k (.bool false)))]) .ret) .skip))) (.reg [.v 15 3,.q 16 (.bin .add true (.t 15) (.i 1)),.v 3 16])))))) (.seq (.seq (.reg [.q 4 (.mv (.i 0))]) (.block 2 (.loop (.seq (.seq (.reg [.v 29 4,.q 30 (.fa 3 (.t 1)),.l 31 (.ld1 (.t 30)),.q 32 (.lnL (.t 31)),.q 33 (.bin .lss true (.t 29) (.t 32))]) (.cond (.t 33) .skip (.exit 2))) (.seq (.block 3 (.seq (.reg [.q 36 (.fa 3 (.t 1)),.l 37 (.ld1 (.t 36)),.v 38 4,.l 39 (.ia 5 (.t 37) (.t 38)),.l 40 (.ldn 5 (.t 39)),.a 41 (.cq 26 [(.t 40)]),.q 42 (.not (.t 41))]) (.cond (.t 42) (.seq (.reg [.q 2 (.mv (.k (.bool false)))]) .ret) .skip))) (.reg [.v 34 4,.q 35 (.bin .add true (.t 34) (.i 1)),.v 4 35])))))) (.seq (.seq (.reg [.q 5 (.mv (.i 0))]) (.block 4 (.loop (.seq (.seq (.reg [.v 43 5,.q 44 (.fa 4 (.t 1)),.l 45 (.ld1 (.t 44)),.q 46 (.lnL (.t 45)),.q 47 (.bin .lss true (.t 43) (.t 46))]) (.cond (.t 47) .skip (.exit 4))) (.seq (.block 5 (.seq (.reg [.q 50 (.fa 4 (.t 1)),.l 51 (.ld1 (.t 50)),.v 52 5,.l 53 (.ia 6 (.t 51) (.t 52)),.q 54 (.fa 1 (.t 53)),.l 55 (.ldn 5 (.t 54)),.a 56 (.cq 26 [(.t 55)]),.q 57 (.not (.t 56))]) (.cond (.t 57) (.seq (.reg [.q 2 (.mv (.k (.bool false)))]) .ret) .skip))) (.reg [.v 48 5,.q 49 (.bin .add true (.t 48) (.i 1)),.v 5 49])))))) (.seq (.reg [.q 2 (.mv (.k (.bool true)))]) .ret)))))
def RZ:List RV:=[.mv (.t 2)]
theorem aMQ:aN Tryz.prog true ⟨fun r k=>if r=11/\k=5 then .q else if r=16/\k=6 then .q else .own [],fun _=>false⟩ Tryz.f26=some (SB,RZ):=by kernel_rfl
def tD:PC:=.gh (.reg [.v 48 7,.l 49 (.ldn 3 (.t 3)),.q 50 (.fa 3 (.t 4)),.l 51 (.ld1 (.t 50)),.l 52 (.ia 4 (.t 51) (.i 0)),.l 53 (.ldn 4 (.t 52)),.q 54 (.fa 3 (.t 5)),.l 55 (.ld1 (.t 54)),.v 56 8,.l 57 (.ia 5 (.t 55) (.t 56)),.l 58 (.ldn 5 (.t 57)),.a 59 (.cq 27 [(.t 49),(.t 53),(.t 58)]),.q 60 (.bin .add true (.t 48) (.t 59)),.v 7 60])
@[go_sem ↓] theorem aJQ:aT tD:=aU _
def sR:PC:=.gh (.reg [.v 94 11,.q 95 (.fa 1 (.t 13)),.l 96 (.ld1 (.t 95)),.q 97 (.bin .add true (.t 94) (.t 96)),.q 98 (.bin .add true (.t 97) (.k (.string (mk [32,61,32])))),.l 99 (.ldn 3 (.t 3)),.q 100 (.fa 2 (.t 13)),.l 101 (.ldn 4 (.t 100)),.q 102 (.fa 4 (.t 5)),.l 103 (.ld1 (.t 102)),.v 104 12,.l 105 (.ia 6 (.t 103) (.t 104)),.q 106 (.fa 1 (.t 105)),.l 107 (.ldn 5 (.t 106)),.a 108 (.cq 27 [(.t 99),(.t 101),(.t 107)]),.q 109 (.bin .add true (.t 98) (.t 108)),.v 11 109])
@[go_sem ↓] theorem aJO:aT sR:=aU _
def tT:PC:=.seq (.gh (.ord  [.q (.l 84 (.ldn 2 (.t 9))),.q (.q 85 (.fa 4 (.t 5))),.q (.l 86 (.ld1 (.t 85))),.q (.v 87 12),.q (.l 88 (.ia 6 (.t 86) (.t 87))),.q (.q 89 (.fa 0 (.t 88))),.q (.l 90 (.ld1 (.t 89))),.m (.a 91 (.cl 70 [(.t 84),(.t 90)] [])),.q (.v 83 91),.q (.q 92 (.ex (.t 83) 0)),.q (.q 93 (.ex (.t 83) 1)),.m (.e 13 (.al (.agg #[(.int .i64 0),(.string (mk [])),(.int .i64 0),(.int .i64 0),(.string (mk [])),(.slice none 0 0),(.bool false)]) 97)),.rc (.v 83 91),.rc (.q 92 (.ex (.t 83) 0)),.rc (.q 93 (.ex (.t 83) 1)),.m (.s (.st 7 (.t 13) (.t 92))),.rc (.q 93 (.ex (.t 83) 1)),.m (.v 14 93)])) (sR)
@[go_sem ↓] theorem aJA:aT tT:=aU _
def AQ:PC:=.seq (.gh (.reg [.q 11 (.mv (.k (.string (mk [123]))))])) (.seq (.seq (.reg [.q 12 (.mv (.i 0))]) (.block 3 (.loop (.seq (.seq (.reg [.v 72 12,.q 73 (.fa 4 (.t 5)),.l 74 (.ld1 (.t 73)),.q 75 (.lnL (.t 74)),.q 76 (.bin .lss true (.t 72) (.t 75))]) (.cond (.t 76) .skip (.exit 3))) (.seq (.block 4 (.seq (.seq (.reg [.v 79 12,.q 80 (.bin .gtr true (.t 79) (.i 0))]) (.cond (.t 80) (.reg [.v 81 11,.q 82 (.bin .add true (.t 81) (.k (.string (mk [44,32])))),.v 11 82]) .skip)) (tT))) (.reg [.v 77 12,.q 78 (.bin .add true (.t 77) (.i 1)),.v 12 78])))))) (.seq (.reg [.v 110 11,.q 111 (.bin .add true (.t 110) (.k (.string (mk [125])))),.v 6 111]) .ret))
@[go_sem ↓] theorem aI3:aT AQ:=aU _
def rV:PC:=.seq (.reg [.e 3 (.bx 25 (.t 0)),.e 4 (.bx 28 (.t 1)),.e 5 (.bx 32 (.t 2)),.q 6 (.mv (.k (.string (mk []))))]) (.seq (.seq (.reg [.q 15 (.fa 0 (.t 4)),.l 16 (.ld1 (.t 15))]) (.block 0 (.seq (.reg [.q 18 (.bin .eql true (.t 16) (.i 1)),.v 17 18]) (.cond (.t 17) (.seq (.seq (.reg [.q 19 (.fa 1 (.t 5)),.l 20 (.ld1 (.t 19)),.q 21 (.bin .eql true (.t 20) (.i 1))]) (.cond (.t 21) (.seq (.reg [.q 6 (.mv (.k (.string (mk [116,114,117,101]))))]) .ret) .skip)) (.seq (.reg [.q 6 (.mv (.k (.string (mk [102,97,108,115,101]))))]) .ret)) (.seq (.reg [.q 23 (.bin .eql true (.t 16) (.i 4)),.v 22 23]) (.cond (.t 22) (.seq (.reg [.q 24 (.fa 2 (.t 5)),.l 25 (.ld1 (.t 24)),.a 26 (.cq 44 [(.t 25)]),.v 6 26]) .ret) (.seq (.reg [.q 28 (.bin .eql true (.t 16) (.i 7)),.v 27 28]) (.cond (.t 27) (.seq (.reg [.l 29 (.ldn 3 (.t 3)),.q 30 (.fa 2 (.t 4)),.l 31 (.ld1 (.t 30)),.q 32 (.fa 1 (.t 5)),.l 33 (.ld1 (.t 32)),.a 34 (.cq 68 [(.t 29),(.t 31),(.t 33)]),.v 6 34]) .ret) (.seq (.reg [.q 36 (.bin .eql true (.t 16) (.i 5)),.v 35 36]) (.cond (.t 35) (.seq (.reg [.q 7 (.mv (.k (.string (mk [91]))))]) (.seq (.seq (.reg [.q 8 (.mv (.i 0))]) (.block 1 (.loop (.seq (.seq (.reg [.v 37 8,.q 38 (.fa 3 (.t 5)),.l 39 (.ld1 (.t 38)),.q 40 (.lnL (.t 39)),.q 41 (.bin .lss true (.t 37) (.t 40))]) (.cond (.t 41) .skip (.exit 1))) (.seq (.block 2 (.seq (.seq (.reg [.v 44 8,.q 45 (.bin .gtr true (.t 44) (.i 0))]) (.cond (.t 45) (.reg [.v 46 7,.q 47 (.bin .add true (.t 46) (.k (.string (mk [44,32])))),.v 7 47]) .skip)) (tD))) (.reg [.v 42 8,.q 43 (.bin .add true (.t 42) (.i 1)),.v 8 43])))))) (.seq (.reg [.v 61 7,.q 62 (.bin .add true (.t 61) (.k (.string (mk [93])))),.v 6 62]) .ret))) (.seq (.reg [.q 64 (.bin .eql true (.t 16) (.i 6)),.v 63 64]) (.cond (.t 63) (.seq (.reg [.l 66 (.ldn 3 (.t 3)),.q 67 (.fa 2 (.t 4)),.l 68 (.ld1 (.t 67)),.a 69 (.cl 69 [(.t 66),(.t 68)] []),.v 65 69,.q 70 (.ex (.t 65) 0),.q 71 (.ex (.t 65) 1),.e 9 (.al (.agg #[(.string (mk [])),(.slice none 0 0)]) 95),.s (.st 2 (.t 9) (.t 70)),.v 10 71]) (AQ)) .skip)))))))))))) (.seq (.reg [.q 112 (.fa 1 (.t 5)),.l 113 (.ld1 (.t 112)),.a 114 (.cq 43 [(.t 113)]),.v 6 114]) .ret))
def rE:List RV:=[.mv (.t 6)]
theorem aJ6:aN Tryz.prog true ⟨fun r k=>if r=7/\k=2 then .q else if r=9/\k=5 then .q else if r=17/\k=11 then .q else if r=28/\k=14 then .q else if r=30/\k=2 then .q else .own [],fun r=>[21,27,17,28].contains r⟩ Tryz.f27=some (rV,rE):=by kernel_rfl
def aCH:PC:=.seq (.reg [.e 3 (.bx 25 (.t 0)),.q 6 (.mv (.k (.string (mk []))))]) (.seq (.reg [.l 11 (.ldn 3 (.t 3)),.v 12 1,.a 13 (.cl 76 [(.t 11),(.t 12)] []),.v 10 13,.q 14 (.ex (.t 10) 0),.q 15 (.ex (.t 10) 1),.e 7 (.al (.agg #[(.string (mk [])),(.slice none 0 0),(.slice none 0 0)]) 92),.s (.st 3 (.t 7) (.t 14)),.v 8 15]) (.seq (.seq (.reg [.q 9 (.mv (.i 0))]) (.block 0 (.loop (.seq (.seq (.reg [.v 16 9,.q 17 (.fa 1 (.t 7)),.l 18 (.ld1 (.t 17)),.q 19 (.lnL (.t 18)),.q 20 (.bin .lss true (.t 16) (.t 19))]) (.cond (.t 20) .skip (.exit 0))) (.seq (.block 1 (.seq (.reg [.q 23 (.fa 2 (.t 7)),.l 24 (.ld1 (.t 23)),.v 25 9,.l 26 (.ia 1 (.t 24) (.t 25)),.l 27 (.ld1 (.t 26)),.v 28 2,.q 29 (.bin .eql true (.t 27) (.t 28))]) (.cond (.t 29) (.seq (.reg [.q 30 (.fa 1 (.t 7)),.l 31 (.ld1 (.t 30)),.v 32 9,.l 33 (.ia 1 (.t 31) (.t 32)),.l 34 (.ld1 (.t 33)),.v 6 34]) .ret) .skip))) (.reg [.v 21 9,.q 22 (.bin .add true (.t 21) (.i 1)),.v 9 22])))))) (.seq (.reg [.q 6 (.mv (.k (.string (mk []))))]) .ret)))
def aFG:List RV:=[.mv (.t 6)]
theorem aMU:aN Tryz.prog true ⟨fun _ _=>.own [],fun _=>false⟩ Tryz.f68=some (aCH,aFG):=by kernel_rfl
end Go.Proofs.YtkpohmhenegkiaaGreatDoor
namespace Go.Proofs.YtkpohmhenegkiaaGreatDoor
open Go.W
mutual
def iO:Vl->Bool
  | .mk _ _ s l f=>(decide ((bl s).length<=200) && (bl s).all gB) && (qU l && oI f)
def qU:List Vl->Bool
  | []=>true
  | v :: r=>iO v && qU r
def oI:List (Int × Vl)->Bool
  | []=>true
  | (_,v) :: r=>iO v && oI r
end
theorem zW (v:Vl):iO v=((decide ((bl v.s).length<=200) && (bl v.s).all gB) && (qU v.l && oI v.f)):=by cases v; rw [iO]; rfl
theorem GJ (x:Int × Vl) (r:List (Int × Vl)):oI (x :: r)=(iO x.2 && oI r):=by cases x; rw [oI]
theorem FC (c:UInt8):decide ((c.toNat:Int) < 32)=!decide (32<=c):=by
  have:decide (32<=c)=decide (32<=c.toNat):=by rw [decide_eq_decide,UInt8.le_iff_toNat_le]; rfl
  rw [this,<-decide_not,decide_eq_decide]; omega
theorem EJ (c:UInt8):decide (126 < (c.toNat:Int))=!decide (c<=126):=by
  have:decide (c<=126)=decide (c.toNat<=126):=by rw [decide_eq_decide,UInt8.le_iff_toNat_le]; rfl
  rw [this,<-decide_not,decide_eq_decide]; omega
def EL (N:Nat):List S->Prop:=fun av=>match av with
  | [.va (.gs r)]=>qJ r/\(C.vv r).h<=N
  | _=>False
theorem lY {N:Nat} {av:List S} (h:EL N av):∃ v,av=[.va (.gs (aV v))]/\VlOk v/\v.h<=N:=by
  unfold EL at h
  split at h
  · obtain ⟨⟨v,rfl,hv⟩,h1⟩:=h; rw [kY] at h1; exact ⟨v,rfl,hv,h1⟩
  · exact h.elim
noncomputable def T8:List S->A:=fun av=>match av with
  | [.va (.gs r)]=>bA (iO (C.vv r))
  | _=>.gs []
noncomputable def GY (N:Nat):Fun:=⟨EL N,T8,fun av h=>by obtain ⟨_,rfl,_⟩:=lY h; trivial⟩
attribute [go_sem] GY EL T8
theorem wT:∀ N,Meets Tryz.prog 26 (GY N).sp
  | 0=>⟨by kernel_rfl,by rintro xs vs E ro w K _ _ _ ⟨⟨h,_⟩,_⟩; obtain ⟨v,_,_,h⟩:=lY h; have:=v.h_pos; omega⟩
  | N + 1=>by
    refine aF Tryz.func26 aMQ 1 (by rw [Tryz.ntmps26]; decide) (aG (wT N) (aA _)) (fun av H K h=>by obtain ⟨_,rfl,_⟩:=lY h.1.1; rfl) ?_
    rintro av H K ⟨⟨h,rfl⟩,hK⟩
    obtain ⟨v,rfl,hv,hh⟩:=lY h
    have hK:K (bS (iO v)) []:=by
      have:(GY (N + 1)).val [.va (.gs (aV v))]=bA (iO v):=by show bA (iO (C.vv (aV v)))=_; rw [kY]
      rw [this] at hK; exact hK
    have fin:∀ (b:Bool) (R:Hp),iO v=b->W.Fin 0 K (bS b) R:=fun b R h=>by
      rw [h] at hK; exact .sel [] (by simp) (by simp) rfl (.done (by simpa [go_sem] using hK))
    clear hK h
    rw [zW] at fin
    have hll:=hv.ll
    have hlf:=hv.lf
    have hs:=hv.s
    rw [gO] at hs
    cases h1:decide (200 < ((bl v.s).length:Int)) with
    | true=>
      have:decide ((bl v.s).length<=200)=false:=by have:=of_decide_eq_true h1; simp; omega
      rw [this,Bool.false_and,Bool.false_and] at fin
      simp (maxSteps:=1000000) -dsimp only [go_sem,aI v,SB,RZ,h1]
      exact fin _ _ rfl
    | false=>
    have:decide ((bl v.s).length<=200)=true:=by have:=of_decide_eq_false h1; simp; omega
    rw [this,Bool.true_and] at fin
    simp (maxSteps:=1000000) -dsimp only [go_sem,aI v,SB,RZ,h1]
    refine aK (α:=Nat) (fun i=>[(1,.va (.c1 (.pt 0 0))),(3,iS .i64 i)]) (fun _=>[.cells [.vl (.int .i64 v.k),.vl (.int .i64 v.n),.vl (.string v.s),.fz (v.l.map aV),.fz (v.f.map aY)] 32])
      (fun i=>i<=(bl v.s).length/\((bl v.s).drop i).all gB=(bl v.s).all gB) (fun i=>(bl v.s).length - i) 0 1 ⟨Nat.zero_le _,rfl⟩ ?_ ?_ ?_
    · simp -dsimp only [go_sem]<;>simp
    · simp -dsimp only [go_sem]<;>simp
    rintro i ⟨hi,ho⟩
    rcases Nat.lt_or_ge i (bl v.s).length with hlt | hge
    · have hg:decide ((i:Int) < ((bl v.s).length:Int))=true:=by simp; omega
      obtain ⟨c,hc⟩:∃ c,(bl v.s)[i]? = some c:=⟨_,List.getElem?_eq_getElem hlt⟩
      rw [EV hc] at ho
      cases h2:gB c with
      | false=>
        rw [h2,Bool.false_and] at ho
        rw [<-ho,Bool.false_and] at fin
        unfold gB at h2
        cases c1:decide (32<=c) with
        | false=>
          have g1:decide ((c.toNat:Int) < 32)=true:=by rw [FC,c1]; rfl
          simp (maxSteps:=1000000) -dsimp only [go_sem,hg,hc,Option.some.injEq,forall_eq',g1,Bool.true_or]
          exact ⟨by omega,fin _ _ rfl⟩
        | true=>
          rw [c1,Bool.true_and] at h2
          have g1:decide ((c.toNat:Int) < 32)=false:=by rw [FC,c1]; rfl
          have g2:decide (126 < (c.toNat:Int))=true:=by rw [EJ,h2]; rfl
          simp (maxSteps:=1000000) -dsimp only [go_sem,hg,hc,Option.some.injEq,forall_eq',g1,g2,Bool.false_or]
          exact ⟨by omega,by omega,fin _ _ rfl⟩
      | true=>
        rw [h2,Bool.true_and] at ho
        unfold gB at h2
        obtain ⟨c1,c2⟩:decide (32<=c)=true/\decide (c<=126)=true:=by simpa only [Bool.and_eq_true] using h2
        have g1:decide ((c.toNat:Int) < 32)=false:=by rw [FC,c1]; rfl
        have g2:decide (126 < (c.toNat:Int))=false:=by rw [EJ,c2]; rfl
        simp (maxSteps:=1000000) -dsimp only [go_sem,hg,hc,Option.some.injEq,forall_eq',g1,g2,Bool.false_or]
        refine ⟨by omega,by omega,by omega,aC (i + 1) 1 ⟨by omega,ho⟩ (by omega) ?_ ?_⟩
        · simp -dsimp only [go_sem]<;>simp
        · simp -dsimp only [go_sem]<;>simp
    · have hg:decide ((i:Int) < ((bl v.s).length:Int))=false:=by simp; omega
      obtain rfl:i=(bl v.s).length:=by omega
      rw [List.drop_length] at ho
      rw [<-ho,List.all_nil,Bool.true_and] at fin
      clear ho hi hge
      simp (maxSteps:=1000000) -dsimp only [go_sem,hg]
      clear hg
      refine aK (α:=Nat) (fun i=>[(1,.va (.c1 (.pt 0 0))),(4,iS .i64 i)]) (fun _=>[.cells [.vl (.int .i64 v.k),.vl (.int .i64 v.n),.vl (.string v.s),.fz (v.l.map aV),.fz (v.f.map aY)] 32])
        (fun i=>i<=v.l.length/\qU (v.l.drop i)=qU v.l) (fun i=>v.l.length - i) 0 1 ⟨Nat.zero_le _,rfl⟩ ?_ ?_ ?_
      · simp -dsimp only [go_sem]<;>simp
      · simp -dsimp only [go_sem]<;>simp
      rintro i ⟨hi,ho⟩
      rcases Nat.lt_or_ge i v.l.length with hlt | hge
      · have hg:decide ((i:Int) < (v.l.length:Int))=true:=by simp; omega
        have hx:v.l[i]? = some v.l[i]:=List.getElem?_eq_getElem hlt
        have q2:=aO (row:=aV) hx
        rw [List.drop_eq_getElem_cons hlt,qU] at ho
        have hxo:=hv.l _ (List.getElem_mem hlt)
        have hxh:=Vl.h_l (List.getElem_mem hlt)
        generalize v.l[i]=x at *
        have j1:=cE hxo
        have j2:=eR x
        have j3:(x.h<=N)=True:=eq_true (by omega)
        cases h2:iO x with
        | false=>
          rw [h2,Bool.false_and] at ho
          rw [<-ho,Bool.false_and] at fin
          simp (maxSteps:=1000000) -dsimp only [go_sem,hg,↓q2,aI x,j1,j2,j3,h2,Bool.not_false]
          exact ⟨by omega,fin _ _ rfl⟩
        | true=>
          rw [h2,Bool.true_and] at ho
          simp (maxSteps:=1000000) -dsimp only [go_sem,hg,↓q2,aI x,j1,j2,j3,h2,Bool.not_true]
          refine ⟨by omega,by omega,aC (i + 1) 1 ⟨by omega,ho⟩ (by omega) ?_ ?_⟩
          · simp -dsimp only [go_sem]<;>simp
          · simp -dsimp only [go_sem]<;>simp
      · have hg:decide ((i:Int) < (v.l.length:Int))=false:=by simp; omega
        obtain rfl:i=v.l.length:=by omega
        rw [List.drop_length,qU] at ho
        rw [<-ho,Bool.true_and] at fin
        clear ho hi hge
        simp (maxSteps:=1000000) -dsimp only [go_sem,hg]
        clear hg
        refine aK (α:=Nat) (fun i=>[(1,.va (.c1 (.pt 0 0))),(5,iS .i64 i)]) (fun _=>[.cells [.vl (.int .i64 v.k),.vl (.int .i64 v.n),.vl (.string v.s),.fz (v.l.map aV),.fz (v.f.map aY)] 32])
          (fun i=>i<=v.f.length/\oI (v.f.drop i)=oI v.f) (fun i=>v.f.length - i) 0 1 ⟨Nat.zero_le _,rfl⟩ ?_ ?_ ?_
        · simp -dsimp only [go_sem]<;>simp
        · simp -dsimp only [go_sem]<;>simp
        rintro i ⟨hi,ho⟩
        rcases Nat.lt_or_ge i v.f.length with hlt | hge
        · have hg:decide ((i:Int) < (v.f.length:Int))=true:=by simp; omega
          have hx:v.f[i]? = some v.f[i]:=List.getElem?_eq_getElem hlt
          have q2:=kN hx
          rw [List.drop_eq_getElem_cons hlt,GJ] at ho
          have hxo:=hv.f _ (List.getElem_mem hlt)
          have hxh:=Vl.h_f (List.getElem_mem hlt)
          generalize v.f[i]=x at *
          have j1:=cE hxo
          have j2:=eR x.2
          have j3:(x.2.h<=N)=True:=eq_true (by omega)
          cases h2:iO x.2 with
          | false=>
            rw [h2,Bool.false_and] at ho
            rw [<-ho] at fin
            simp (maxSteps:=1000000) -dsimp only [go_sem,hg,↓q2,j1,j2,j3,h2,Bool.not_false]
            exact ⟨by omega,fin _ _ rfl⟩
          | true=>
            rw [h2,Bool.true_and] at ho
            simp (maxSteps:=1000000) -dsimp only [go_sem,hg,↓q2,j1,j2,j3,h2,Bool.not_true]
            refine ⟨by omega,by omega,aC (i + 1) 1 ⟨by omega,ho⟩ (by omega) ?_ ?_⟩
            · simp -dsimp only [go_sem]<;>simp
            · simp -dsimp only [go_sem]<;>simp
        · have hg:decide ((i:Int) < (v.f.length:Int))=false:=by simp; omega
          obtain rfl:i=v.f.length:=by omega
          rw [List.drop_length,oI] at ho
          rw [<-ho] at fin
          simp (maxSteps:=1000000) -dsimp only [go_sem,hg]
          exact fin _ _ rfl
end Go.Proofs.YtkpohmhenegkiaaGreatDoor
namespace Go.Proofs.YtkpohmhenegkiaaGreatDoor
open Go.W
def G7 (s:Sc):Prop:=∀ e ∈ s.es,e.ns.length=e.vs.length
def DW:List S->Prop:=fun av=>match av with
  | [.va (.gs r),.va (.c1 (.vl (.string _))),.va (.c1 (.vl (.int .i64 _)))]=>iU r/\G7 (C.sc r)
  | _=>False
theorem qL {av:List S} (h:DW av):∃ s x n,av=[.va (.gs (aE s)),tS x,iS .i64 n]/\s.fit/\G7 s:=by
  unfold DW at h
  split at h
  · obtain ⟨⟨s,rfl,hs⟩,h⟩:=h; rw [dW] at h; exact ⟨s,_,_,rfl,hs,h⟩
  · exact h.elim
noncomputable def XP:List S->A:=fun av=>match av with
  | [.va (.gs r),.va (.c1 (.vl (.string x))),.va (.c1 (.vl (.int _ n)))]=>tA (iI ((bX (C.sc r).es x).getD default).ns n ((bX (C.sc r).es x).getD default).vs 0)
  | _=>.gs []
noncomputable def n0Fn:Fun:=⟨DW,XP,fun av h=>by obtain ⟨_,_,_,rfl,_⟩:=qL h; trivial⟩
attribute [go_sem] n0Fn DW XP
theorem ZP {s:Sc} (h:G7 s) (x:ByteArray):((bX s.es x).getD default).ns.length=((bX s.es x).getD default).vs.length:=by
  cases h1:bX s.es x with
  | none=>rfl
  | some e=>exact h e (List.mem_of_find?_eq_some h1)
theorem aCZ {s:Sc} (hs:s.fit) (x:ByteArray):((bX s.es x).getD default).ok:=by
  cases h:bX s.es x with
  | none=>exact ⟨by decide,by decide,by decide,fun _ h=>(by cases h),fun _ h=>(by cases h)⟩
  | some e=>exact hs.ok.es e (List.mem_of_find?_eq_some h)
theorem aB4:Meets Tryz.prog 68 n0Fn.sp:=by
  refine aF Tryz.func68 aMU 3 (by rw [Tryz.ntmps68]; decide) (aB GS (aA _)) (fun av H K h=>by obtain ⟨_,_,_,rfl,_⟩:=qL h.1.1; rfl) ?_
  rintro av H K ⟨⟨h,rfl⟩,hK⟩
  obtain ⟨s,x,n,rfl,hs,hq⟩:=qL h
  have hK:K (tS (iI ((bX s.es x).getD default).ns n ((bX s.es x).getD default).vs 0)) []:=by
    have:n0Fn.val [.va (.gs (aE s)),tS x,iS .i64 n]=tA (iI ((bX s.es x).getD default).ns n ((bX s.es x).getD default).vs 0):=by
      show tA (iI ((bX (C.sc (aE s)).es x).getD default).ns n ((bX (C.sc (aE s)).es x).getD default).vs 0)=_
      rw [dW]
    rw [this] at hK; exact hK
  clear h
  have hl:=ZP hq x
  have he:=aCZ hs x
  simp (maxSteps:=1000000) -dsimp only [go_sem,aE,aCH,aFG]
  refine jA hs ?_
  generalize (bX s.es x).getD default=e at *
  have fin:∀ (y:ByteArray) (R:Hp),iI e.ns n e.vs 0=y->W.Fin 0 K (tS y) R:=fun y R h=>by
    rw [h] at hK; exact .sel [] (by simp) (by simp) rfl (.done (by simpa [go_sem] using hK))
  clear hK
  have hlv:=he.lv
  have hln:=he.ln
  simp (maxSteps:=1000000) -dsimp only [go_sem,aX]
  refine aK (α:=Nat) (fun i=>[(2,iS .i64 n),(7,.va (.c1 (.pt 1 0))),(9,iS .i64 i)]) (fun _=>[.cells [.vl (.int .i64 s.ver),.fz (s.es.map aX),.fz (s.ss.map aL)] 25,.cells [.vl (.string e.nm),.fz (e.ns.map bB),.fz (e.vs.map bU)] 92])
    (fun i=>i<=e.ns.length/\iI e.ns n (e.vs.drop i) i=iI e.ns n e.vs 0) (fun i=>e.ns.length - i) 0 2 ⟨Nat.zero_le _,rfl⟩ ?_ ?_ ?_
  · simp -dsimp only [go_sem]<;>simp
  · simp -dsimp only [go_sem]<;>simp
  rintro i ⟨hi,ho⟩
  rcases Nat.lt_or_ge i e.ns.length with hlt | hge
  · have hg:decide ((i:Int) < (e.ns.length:Int))=true:=by simp; omega
    have hlt2:i < e.vs.length:=by omega
    have hx:e.vs[i]? = some e.vs[i]:=List.getElem?_eq_getElem hlt2
    have hy:e.ns[i]? = some e.ns[i]:=List.getElem?_eq_getElem hlt
    have q1:=aO (row:=bU) hx
    have q2:=aO (row:=bB) hy
    have hgd:e.ns.getD i (mk [])=e.ns[i]:=by simp [List.getD_eq_getElem?_getD,hy]
    rw [List.drop_eq_getElem_cons hlt2,iI,hg,Bool.and_true,hgd] at ho
    generalize e.vs[i]=m at *
    generalize e.ns[i]=y at *
    cases hc:m == n with
    | true=>
      rw [hc,Bool.cond_true] at ho
      simp (maxSteps:=1000000) -dsimp only [go_sem,hg,↓q1,↓q2,hc]
      exact ⟨by omega,by omega,fin _ _ ho.symm⟩
    | false=>
      rw [hc,Bool.cond_false] at ho
      simp (maxSteps:=1000000) -dsimp only [go_sem,hg,↓q1,hc]
      refine ⟨by omega,by omega,aC (i + 1) 2 ⟨by omega,ho⟩ (by omega) ?_ ?_⟩
      · simp -dsimp only [go_sem]<;>simp
      · simp -dsimp only [go_sem]<;>simp
  · have hg:decide ((i:Int) < (e.ns.length:Int))=false:=by simp; omega
    have:e.vs.drop i=[]:=List.drop_eq_nil_iff.2 (by omega)
    rw [this,iI] at ho
    simp (maxSteps:=1000000) -dsimp only [go_sem,hg]
    exact fin _ _ ho.symm
end Go.Proofs.YtkpohmhenegkiaaGreatDoor
namespace Go.Proofs.YtkpohmhenegkiaaGreatDoor
open Go.W
def G0 (N:Nat) (s:Sc) (t:Ty) (v:Vl):Prop:=dF N s t v/\(fP N s t v).2=false/\G7 s
noncomputable def rA (N:Nat):Fun:=cQ (G0 N) fun s t v=>.string (mk (fP N s t v).1)
noncomputable def GW (N:Nat):bY:=[(27,.f (rA N)),(44,.f quoFn),(43,.f decFn),(68,.f n0Fn),(69,.s jK),(70,.s kM)]
theorem xH (N:Nat):eV (GW N) 27=some (rA N):=rfl
theorem Z4 (N:Nat):eV (GW N) 44=some quoFn:=rfl
theorem aFC (N:Nat):eV (GW N) 43=some decFn:=rfl
theorem aDO (N:Nat):eV (GW N) 68=some n0Fn:=rfl
theorem aDG (N:Nat):sp (GW N) 69=jK:=rfl
theorem O7 (N:Nat):sp (GW N) 70=kM:=rfl
theorem NZ:∀ N,Meets Tryz.prog 27 (rA N).sp
  | 0=>⟨by kernel_rfl,by rintro xs vs E ro w K _ _ _ ⟨⟨h,_⟩,_⟩; obtain ⟨_,_,_,_,_,_,_,h,_⟩:=l7 h; exact h.elim⟩
  | N + 1=>by
    refine aF (Γ:=GW N) Tryz.func27 aJ6 3 (by rw [Tryz.ntmps27]; decide) (aG (NZ N) (aG RX (aG OI (aG aB4 (aB vX (aB O5 (aA _))))))) eE ?_
    intro av H K h
    obtain ⟨s,t,v,rfl,rfl,hs,ht,hv,⟨hD,hb,hq⟩,hK⟩:=dH h
    clear h
    have fin:∀ (x:List UInt8) (R:Hp),(fP (N + 1) s t v).1=x->W.Fin 0 K (tS (mk x)) R:=fun x R h=>by
      rw [h] at hK; exact .sel [] (by simp) (by simp) rfl (.done (by simpa [go_sem] using hK))
    clear hK
    obtain ⟨hD4,hD5,hD6,hlen⟩:=hD
    rw [iC] at fin hb hlen
    have hn:=hv.n
    have hn1:=hn.1
    have hn2:=hn.2
    have k4:=cL ht
    have k5:=fN t
    have k6:=dV hs
    have k7:=hM s
    cases h1:t.k == 1 with
    | true=>
      rw [h1,Bool.cond_true] at fin
      cases h2:v.n == 1 with
      | true=>
        simp (maxSteps:=1000000) -dsimp only [go_sem,aE,aH t,aI v,rV,rE,h1,h2]
        exact fin _ _ (by simp only [CG,h2]; rfl)
      | false=>
        simp (maxSteps:=1000000) -dsimp only [go_sem,aE,aH t,aI v,rV,rE,h1,h2]
        exact fin _ _ (by simp only [CG,h2]; rfl)
    | false=>
    rw [h1,Bool.cond_false] at fin hb hlen
    cases h4:t.k == 4 with
    | true=>
      rw [h4,Bool.cond_true] at fin hb hlen
      have hD4:=hD4 h4
      have hq:lU (bl v.s)=lK (bl v.s):=by
        unfold lU at hb ⊢
        cases hp:decide ((bl v.s).length<=200) && (bl v.s).all gB with
        | true=>rfl
        | false=>rw [hp] at hb; cases hb
      simp (maxSteps:=1000000) -dsimp only [go_sem,aE,aH t,aI v,rV,rE,h1,h4,Z4]
      exact ⟨by omega,fin _ _ hq⟩
    | false=>
    rw [h4,Bool.cond_false] at fin hb hlen
    cases h7:t.k == 7 with
    | true=>
      rw [h7,Bool.cond_true] at fin hb hlen
      simp (maxSteps:=1000000) -dsimp only [go_sem,aE,aH t,aI v,rV,rE,h1,h4,h7,aDO,k6,k7,hq]
      have:=fin _ [.cells [.vl (.int .i64 s.ver),.fz (s.es.map aX),.fz (s.ss.map aL)] 25,.cells [.vl (.int .i64 t.k),.vl (.int .i64 t.s),.vl (.string t.n),.fz (t.e.map aM)] 28,.cells [.vl (.int .i64 v.k),.vl (.int .i64 v.n),.vl (.string v.s),.fz (v.l.map aV),.fz (v.f.map aY)] 32] rfl
      rw [kD] at this
      exact this
    | false=>
    rw [h7,Bool.cond_false] at fin hb hlen
    cases h5:t.k == 5 with
    | true=>
      rw [h5,Bool.cond_true] at fin hb hlen
      obtain ⟨u,he,hu,hD5⟩:=hD5 h5
      rw [he,List.headD_cons] at fin hb hlen
      have hb:=jC hb
      have hll:=hv.ll
      have hvl:=hv.l
      unfold mA at fin hlen
      simp only [List.length_append,List.length_singleton] at hlen fin
      have u4:=cL hu
      have u5:=fN u
      simp (maxSteps:=1000000) -dsimp only [go_sem,aE,aH t,aI v,rV,rE,h1,h4,h7,h5]
      refine aK (α:=Nat) (fun i=>[(3,.va (.c1 (.pt 0 0))),(4,.va (.c1 (.pt 1 0))),(5,.va (.c1 (.pt 2 0))),(7,tS (mk ([91] ++ cX false ((v.l.take i).map fun x=>(fP N s u x).1)))),(8,iS .i64 i)])
        (fun i=>[.cells [.vl (.int .i64 s.ver),.fz (s.es.map aX),.fz (s.ss.map aL)] 25,.cells [.vl (.int .i64 t.k),.vl (.int .i64 t.s),.vl (.string t.n),.fz (t.e.map aM)] 28,.cells [.vl (.int .i64 v.k),.vl (.int .i64 v.n),.vl (.string v.s),.fz (v.l.map aV),.fz (v.f.map aY)] 32])
        (fun i=>i<=v.l.length) (fun i=>v.l.length - i) 0 3 (Nat.zero_le _) ?_ ?_ ?_
      · simp -dsimp only [go_sem]<;>simp [cX]
      · simp -dsimp only [go_sem]<;>simp
      intro i hi
      have hci:=gA (fun x=>(fP N s u x).1) v.l i
      rcases Nat.lt_or_ge i v.l.length with hlt | hge
      · have hg:decide ((i:Int) < (v.l.length:Int))=true:=by simp; omega
        have hx:v.l[i]? = some v.l[i]:=List.getElem?_eq_getElem hlt
        have q2:=aO (row:=aV) hx
        have hxo:=hvl _ (List.getElem_mem hlt)
        have hxD:G0 N s u v.l[i]:=⟨hD5 _ (List.getElem_mem hlt),hb _ (List.getElem_mem hlt),hq⟩
        have hcn:=nS (fun x=>(fP N s u x).1) hx
        have hc1:=gA (fun x=>(fP N s u x).1) v.l (i + 1)
        generalize v.l[i]=x at *
        have j1:=cE hxo
        have j2:=eR x
        have j3:G0 N s u x=True:=eq_true hxD
        have z0:(0:Int) < ((1:Nat):Int):=by decide
        have z1:(0:Int)<=0:=by decide
        cases hc:decide (0 < (i:Int)) with
        | true=>
          rw [hc,Bool.cond_true] at hcn
          rw [hcn] at hc1
          simp only [List.length_append] at hc1
          simp (maxSteps:=1000000) -dsimp only [go_sem,hg,hc]
          refine ⟨by omega,aD rfl (.done ?_)⟩
          simp (maxSteps:=1000000) -dsimp only [go_sem,tD,rA,he,aH u,↓q2,aI x,xH,k6,k7,u4,u5,j1,j2,j3,forall_eq',z0,z1,List.length_cons,List.length_nil,List.take_succ_cons,List.take_zero]
          refine ⟨⟨by omega,by omega⟩,by simp only [List.length_cons,List.length_nil] at hc1; omega,⟨by omega,by omega⟩,aC (i + 1) 3 (by omega) (by omega) ?_ ?_⟩
          · simp -dsimp only [go_sem,hcn,u5]<;>simp
          · simp -dsimp only [go_sem]<;>simp [he,aH u]
        | false=>
          rw [hc,Bool.cond_false] at hcn
          rw [hcn] at hc1
          simp only [List.length_append] at hc1
          simp (maxSteps:=1000000) -dsimp only [go_sem,hg,hc]
          refine aD rfl (.done ?_)
          simp (maxSteps:=1000000) -dsimp only [go_sem,tD,rA,he,aH u,↓q2,aI x,xH,k6,k7,u4,u5,j1,j2,j3,forall_eq',z0,z1,List.length_cons,List.length_nil,List.take_succ_cons,List.take_zero]
          refine ⟨⟨by omega,by omega⟩,by simp only [List.length_nil] at hc1; omega,⟨by omega,by omega⟩,aC (i + 1) 3 (by omega) (by omega) ?_ ?_⟩
          · simp -dsimp only [go_sem,hcn,u5]<;>simp
          · simp -dsimp only [go_sem]<;>simp [he,aH u]
      · have hg:decide ((i:Int) < (v.l.length:Int))=false:=by simp; omega
        rw [List.take_of_length_le hge] at hci ⊢
        simp (maxSteps:=1000000) -dsimp only [go_sem,hg]
        refine ⟨by omega,?_⟩
        have:=fin _ [.cells [.vl (.int .i64 s.ver),.fz (s.es.map aX),.fz (s.ss.map aL)] 25,.cells [.vl (.int .i64 t.k),.vl (.int .i64 t.s),.vl (.string t.n),.fz (t.e.map aM)] 28,.cells [.vl (.int .i64 v.k),.vl (.int .i64 v.n),.vl (.string v.s),.fz (v.l.map aV),.fz (v.f.map aY)] 32] rfl
        simpa using this
    | false=>
    rw [h5,Bool.cond_false] at fin hb hlen
    cases h6:t.k == 6 with
    | false=>
      rw [h6,Bool.cond_false] at fin hb hlen
      simp (maxSteps:=1000000) -dsimp only [go_sem,aE,aH t,aI v,rV,rE,h1,h4,h7,h5,h6,aFC]
      exact ⟨⟨hn1,hn2⟩,fin _ _ rfl⟩
    | true=>
      rw [h6,Bool.cond_true] at fin hb hlen
      simp (maxSteps:=1000000) -dsimp only [go_sem,aE,aH t,aI v,rV,rE,h1,h4,h7,h5,h6,aDG]
      refine gP hs ?_
      rw [show (fS s.ss t.n).getD default=stOf s t from rfl]
      have hok:=iZ hs t
      have hsu:=uY hs t
      have hD6:=hD6 h6
      generalize stOf s t=u at *
      have hb:=jC hb
      have hll:=hv.lf
      have hvl:=hv.f
      have hvn:=hv.fn
      unfold iD at fin hlen
      simp only [List.length_append,List.length_singleton] at hlen fin
      simp (maxSteps:=1000000) -dsimp only [go_sem,aL]
      refine aD rfl (.done ?_)
      simp (maxSteps:=1000000) -dsimp only [go_sem,AQ]
      refine aK (α:=Nat) (fun i=>[(3,.va (.c1 (.pt 0 0))),(4,.va (.c1 (.pt 1 0))),(5,.va (.c1 (.pt 2 0))),(9,.va (.c1 (.pt 3 0))),(11,tS (mk ([123] ++ cX false ((v.f.take i).map (nK (fP N) s u))))),(12,iS .i64 i)])
        (fun i=>[.cells [.vl (.int .i64 s.ver),.fz (s.es.map aX),.fz (s.ss.map aL)] 25,.cells [.vl (.int .i64 t.k),.vl (.int .i64 t.s),.vl (.string t.n),.fz (t.e.map aM)] 28,.cells [.vl (.int .i64 v.k),.vl (.int .i64 v.n),.vl (.string v.s),.fz (v.l.map aV),.fz (v.f.map aY)] 32,.cells [.vl (.string u.nm),.fz (u.fs.map aR)] 95])
        (fun i=>i<=v.f.length) (fun i=>v.f.length - i) 0 4 (Nat.zero_le _) ?_ ?_ ?_
      · simp -dsimp only [go_sem]<;>simp [cX]
      · simp -dsimp only [go_sem]<;>simp
      intro i hi
      have hci:=gA (nK (fP N) s u) v.f i
      rcases Nat.lt_or_ge i v.f.length with hlt | hge
      · have hg:decide ((i:Int) < (v.f.length:Int))=true:=by simp; omega
        have hx:v.f[i]? = some v.f[i]:=List.getElem?_eq_getElem hlt
        have q2:=kN hx
        have hxo:=hvl _ (List.getElem_mem hlt)
        have hxD:G0 N s (cK u v.f[i].1).ty v.f[i].2:=⟨hD6 _ (List.getElem_mem hlt),hb _ (List.getElem_mem hlt),hq⟩
        have hcn:=nS (nK (fP N) s u) hx
        have hc1:=gA (nK (fP N) s u) v.f (i + 1)
        generalize v.f[i]=x at *
        obtain ⟨n,x⟩:=x
        have hdo:=s0 hok n
        have hit:nK (fP N) s u (n,x)=bl (cK u n).nm ++ [32,61,32] ++ (fP N s (cK u n).ty x).1:=rfl
        simp only at hxo hxD q2
        have j1:=cE hxo
        have j2:=eR x
        have j3:G0 N s (cK u n).ty x=True:=eq_true hxD
        have u4:=cL hdo.ty
        have u5:=fN (cK u n).ty
        rw [hit] at hcn
        cases hc:decide (0 < (i:Int)) with
        | true=>
          rw [hc,Bool.cond_true] at hcn
          rw [hcn] at hc1
          simp only [List.length_append,List.length_cons,List.length_nil] at hc1
          simp (maxSteps:=1000000) -dsimp only [go_sem,hg,hc]
          refine ⟨by omega,aD rfl (.done ?_)⟩
          simp (maxSteps:=1000000) -dsimp only [go_sem,tT,↓q2,O7]
          refine ⟨⟨by omega,by omega⟩,jZ hok hsu ?_⟩
          generalize cK u n=d at *
          simp (maxSteps:=1000000) -dsimp only [go_sem,aR]
          refine aD rfl (.done ?_)
          simp (maxSteps:=1000000) -dsimp only [go_sem,sR,rA,↓q2,xH,k6,k7,u4,u5,j1,j2,j3,List.length_cons,List.length_nil,List.take_succ_cons,List.take_zero]
          refine ⟨by omega,by omega,⟨by omega,by omega⟩,by omega,⟨by omega,by omega⟩,aC (i + 1) 4 (by omega) (by omega) ?_ ?_⟩
          · simp -dsimp only [go_sem,hcn]<;>simp
          · simp -dsimp only [go_sem]<;>simp
        | false=>
          rw [hc,Bool.cond_false] at hcn
          rw [hcn] at hc1
          simp only [List.length_append,List.length_cons,List.length_nil] at hc1
          simp (maxSteps:=1000000) -dsimp only [go_sem,hg,hc]
          refine aD rfl (.done ?_)
          simp (maxSteps:=1000000) -dsimp only [go_sem,tT,↓q2,O7]
          refine ⟨⟨by omega,by omega⟩,jZ hok hsu ?_⟩
          generalize cK u n=d at *
          simp (maxSteps:=1000000) -dsimp only [go_sem,aR]
          refine aD rfl (.done ?_)
          simp (maxSteps:=1000000) -dsimp only [go_sem,sR,rA,↓q2,xH,k6,k7,u4,u5,j1,j2,j3,List.length_cons,List.length_nil,List.take_succ_cons,List.take_zero]
          refine ⟨by omega,by omega,⟨by omega,by omega⟩,by omega,⟨by omega,by omega⟩,aC (i + 1) 4 (by omega) (by omega) ?_ ?_⟩
          · simp -dsimp only [go_sem,hcn]<;>simp
          · simp -dsimp only [go_sem]<;>simp
      · have hg:decide ((i:Int) < (v.f.length:Int))=false:=by simp; omega
        rw [List.take_of_length_le hge] at hci ⊢
        simp (maxSteps:=1000000) -dsimp only [go_sem,hg]
        refine ⟨by omega,?_⟩
        have:=fin _ [.cells [.vl (.int .i64 s.ver),.fz (s.es.map aX),.fz (s.ss.map aL)] 25,.cells [.vl (.int .i64 t.k),.vl (.int .i64 t.s),.vl (.string t.n),.fz (t.e.map aM)] 28,.cells [.vl (.int .i64 v.k),.vl (.int .i64 v.n),.vl (.string v.s),.fz (v.l.map aV),.fz (v.f.map aY)] 32,.cells [.vl (.string u.nm),.fz (u.fs.map aR)] 95] rfl
        simpa using this
end Go.Proofs.YtkpohmhenegkiaaGreatDoor
namespace Go.Proofs.YtkpohmhenegkiaaGreatDoor
open Go.W
def NU (N:Nat) (s:Sc) (t:Ty) (v:Vl):Prop:=v.h<=N/\(dQ s t v=0->iO v=true->G0 N s t v)
def FA (N:Nat) (s:Sc) (t:Ty) (v:Vl):List UInt8:=bif dQ s t v != 0 || !iO v then [] else bif decide (4000 < ((fP N s t v).1.length:Int)) then [] else (fP N s t v).1
noncomputable def UN (N:Nat):bY:=[(25,.f (cQ (qW N) fun s t v=>.int .i64 (dQ s t v))),(26,.f (GY N)),(27,.f (rA N))]
theorem x8 (N:Nat):eV (UN N) 25=some (cQ (qW N) fun s t v=>.int .i64 (dQ s t v)):=rfl
theorem yP (N:Nat):eV (UN N) 26=some (GY N):=rfl
theorem N7 (N:Nat):eV (UN N) 27=some (rA N):=rfl
theorem SF (N:Nat) (hN:N<=1000000):Meets Tryz.prog 12 (cQ (NU N) fun s t v=>.string (mk (FA N s t v))).sp:=by
  refine aF (Γ:=UN N) Tryz.func12 aKL 3 (by rw [Tryz.ntmps12]; decide) (aG (YX N hN) (aG (wT N) (aG (NZ N) (aA _)))) eE ?_
  intro av H K h
  obtain ⟨s,t,v,rfl,rfl,hs,ht,hv,⟨hh,hD⟩,hK⟩:=dH h
  clear h
  have fin:∀ (x:List UInt8) (R:Hp),FA N s t v=x->W.Fin 0 K (tS (mk x)) R:=fun x R h=>by
    rw [h] at hK; exact .sel [] (by simp) (by simp) rfl (.done (by simpa [go_sem] using hK))
  clear hK
  unfold FA at fin
  have k1:=cE hv
  have k2:=eR v
  have k4:=cL ht
  have k5:=fN t
  have k6:=dV hs
  have k7:=hM s
  have k8:(v.h<=N)=True:=eq_true hh
  have k10:qW N s t v=True:=eq_true hh
  cases h1:dQ s t v != 0 with
  | true=>
    rw [h1,Bool.true_or] at fin
    simp (maxSteps:=1000000) -dsimp only [go_sem,aE,aH t,aI v,IF,EX,x8,yP,k1,k2,k4,k5,k6,k7,k8,h1]
    exact fin [] _ rfl
  | false=>
  have h0:dQ s t v=0:=by simpa using h1
  rw [h1,Bool.false_or] at fin
  cases h2:iO v with
  | false=>
    rw [h2] at fin
    simp (maxSteps:=1000000) -dsimp only [go_sem,aE,aH t,aI v,IF,EX,x8,yP,k1,k2,k4,k5,k6,k7,k8,h1,h2,Bool.not_false]
    exact fin [] _ rfl
  | true=>
    have k11:G0 N s t v=True:=eq_true (hD h0 h2)
    rw [h2,Bool.not_true,Bool.cond_false] at fin
    cases h3:decide (4000 < ((fP N s t v).1.length:Int)) with
    | true=>
      rw [h3] at fin
      simp (maxSteps:=1000000) -dsimp only [go_sem,aE,aH t,aI v,IF,EX,x8,yP,N7,rA,k1,k2,k4,k5,k6,k7,k8,k11,h1,h2,h3,Bool.not_true]
      exact fin [] _ rfl
    | false=>
      rw [h3] at fin
      simp (maxSteps:=1000000) -dsimp only [go_sem,aE,aH t,aI v,IF,EX,x8,yP,N7,rA,k1,k2,k4,k5,k6,k7,k8,k11,h1,h2,h3,Bool.not_true]
      exact fin _ _ rfl
end Go.Proofs.YtkpohmhenegkiaaGreatDoor
namespace Go.Proofs.YtkpohmhenegkiaaGreatDoor
open Go.W
structure NSt (ss:List St) (es:List En) (u:St):Prop where
  l:u.fs.length<=16
  n:∀ f ∈ u.fs,1<=f.num/\f.num<=127
  m:∀ f ∈ u.fs,cH (bl f.nm)=true
  v:∀ f ∈ u.fs,valF ss es f.ty=true
  a:∀ k f g,0 < k->u.fs[k - 1]? = some g->u.fs[k]? = some f->g.num < f.num
  d:∀ k f,u.fs[k]? = some f->(u.fs.take k).any (fun g=>decide (g.nm=f.nm))=false
structure NEn (e:En):Prop where
  l:e.ns.length=e.vs.length
  s:e.ns.length<=16
  m:∀ n ∈ e.ns,cH (bl n)=true
  d:∀ k x,e.ns[k]? = some x->cS (e.ns.take k) x=false
  a:∀ k x y,0 < k->e.vs[k - 1]? = some x->e.vs[k]? = some y->x < y
  n:∀ x ∈ e.vs,0<=x/\x<=127
structure Nice (s:Sc):Prop where
  st:∀ u ∈ s.ss,NSt s.ss s.es u
  en:∀ e ∈ s.es,NEn e
theorem gL {b:Bool} {x y:Int} (h:(bif b then x else y)=0) (hx:x ≠ 0):b=false/\y=0:=by
  cases b with
  | true=>exact absurd h hx
  | false=>exact ⟨rfl,h⟩
theorem OV {x y:Int} (h:(bif x != 0 then x else y)=0):x=0/\y=0:=by
  by_cases c:x=0
  · subst c; exact ⟨rfl,h⟩
  · rw [show (x != 0)=true by simpa using c] at h; exact absurd h c
theorem OM {ss:List St} {es:List En} {t:St} {k:Nat} {f:Fl} (hx:t.fs[k]? = some f) (h:n9 ss es t k=0) :
    (1<=f.num/\f.num<=127)/\(∀ g,0 < k->t.fs[k - 1]? = some g->g.num < f.num)/\cH (bl f.nm)=true/\(t.fs.take k).any (fun g=>decide (g.nm=f.nm))=false/\valF ss es f.ty=true:=by
  unfold n9 at h
  rw [hx] at h
  simp only at h
  obtain ⟨c1,h⟩:=gL h (by decide)
  obtain ⟨c2,h⟩:=gL h (by decide)
  obtain ⟨c3,h⟩:=gL h (by decide)
  obtain ⟨c4,h⟩:=gL h (by decide)
  obtain ⟨c5,h⟩:=gL h (by decide)
  simp only [Bool.or_eq_false_iff,decide_eq_false_iff_not] at c1
  refine ⟨⟨by omega,by omega⟩,fun g hk hg=>?_,by simpa using c3,c4,by simpa using c5⟩
  rw [hg] at c2
  simp only at c2
  rw [show decide (0 < (k:Int))=true by simp; omega,Bool.true_and] at c2
  have:=of_decide_eq_false c2
  omega
theorem PH {e:En} {k:Nat} {x:ByteArray} {n:Int} (hx:e.ns[k]? = some x) (hn:e.vs[k]? = some n) (h:jI e k=0) :
    cH (bl x)=true/\cS (e.ns.take k) x=false/\(0<=n/\n<=127)/\(k=0->n=0)/\∀ m,0 < k->e.vs[k - 1]? = some m->m < n:=by
  unfold jI at h
  rw [hx,hn] at h
  simp only at h
  obtain ⟨c3,h⟩:=gL h (by decide)
  obtain ⟨c4,h⟩:=gL h (by decide)
  obtain ⟨c1,h⟩:=gL h (by decide)
  obtain ⟨c2,h⟩:=gL h (by decide)
  rw [Bool.or_eq_false_iff] at c1 c2
  have a1:=of_decide_eq_false c1.1
  have a2:=of_decide_eq_false c1.2
  refine ⟨by simpa using c3,c4,⟨by omega,by omega⟩,fun hk=>?_,fun m hk hm=>?_⟩
  · have c2:=c2.1
    rw [show decide ((k:Int)=0)=true by simp; omega,Bool.true_and] at c2
    exact Decidable.of_not_not (of_decide_eq_false c2)
  · have c2:=c2.2
    rw [hm] at c2
    simp only at c2
    rw [show decide (0 < (k:Int))=true by simp; omega,Bool.true_and] at c2
    have:=of_decide_eq_false c2
    omega
theorem YM {e:En} (h:DK e=0):0 < e.ns.length/\e.ns.length=e.vs.length/\∀ k < e.ns.length,jI e k=0:=by
  unfold DK at h
  obtain ⟨c1,h⟩:=gL h (by decide)
  simp only [Bool.or_eq_false_iff,decide_eq_false_iff_not] at c1
  exact ⟨by omega,by omega,fun k hk=>mQ (m:=e.ns.length) (by rw [Nat.sub_zero]; exact h) k hk⟩
theorem NJ {s:Sc} (h:eX s=0):dX s=false/\G1 s=0/\C9 s=0/\yY s.ss=0:=by
  unfold eX at h
  obtain ⟨_,h⟩:=gL h (by decide)
  obtain ⟨c2,h⟩:=gL h (by decide)
  obtain ⟨c3,h⟩:=OV h
  obtain ⟨c4,h⟩:=OV h
  exact ⟨c2,c3,c4,h⟩
theorem ZC {s:Sc} (h:eX s=0):Nice s:=by
  obtain ⟨c2,c3,c4,_⟩:=NJ h
  obtain ⟨l1,l2,l3,l4⟩:=uO c2
  refine ⟨fun u hu=>?_,fun e he=>?_⟩
  · obtain ⟨i,hi⟩:=List.mem_iff_getElem?.1 hu
    have hc:=(K6 hi (mQ c4 i (List.getElem?_eq_some_iff.1 hi).1)).2
    have key:=fun k f (hx:u.fs[k]? = some f)=>OM hx (mQ hc k (List.getElem?_eq_some_iff.1 hx).1)
    have mem:∀ f ∈ u.fs,∃ k,u.fs[k]? = some f:=fun f hf=>List.mem_iff_getElem?.1 hf
    exact ⟨l4 u hu,fun f hf=>(mem f hf).elim fun k hx=>(key k f hx).1,fun f hf=>(mem f hf).elim fun k hx=>(key k f hx).2.2.1,fun f hf=>(mem f hf).elim fun k hx=>(key k f hx).2.2.2.2,
      fun k f g hk hg hf=>(key k f hf).2.1 g hk hg,fun k f hf=>(key k f hf).2.2.2.1⟩
  · obtain ⟨i,hi⟩:=List.mem_iff_getElem?.1 he
    obtain ⟨hp,hl,hc⟩:=YM (YD hi (mQ c3 i (List.getElem?_eq_some_iff.1 hi).1)).2.2
    have key:=fun k x n (hx:e.ns[k]? = some x) (hn:e.vs[k]? = some n)=>PH hx hn (hc k (List.getElem?_eq_some_iff.1 hx).1)
    have oth:∀ k x,e.ns[k]? = some x->∃ n,e.vs[k]? = some n:=fun k x hx=>⟨_,List.getElem?_eq_getElem (hl ▸ (List.getElem?_eq_some_iff.1 hx).1)⟩
    have oth2:∀ k n,e.vs[k]? = some n->∃ x,e.ns[k]? = some x:=fun k x hx=>⟨_,List.getElem?_eq_getElem (hl ▸ (List.getElem?_eq_some_iff.1 hx).1)⟩
    refine ⟨hl,l3 e he,fun x hx=>?_,fun k x hx=>?_,fun k x y hk hx hy=>?_,fun n hn=>?_⟩
    · obtain ⟨k,hk⟩:=List.mem_iff_getElem?.1 hx
      obtain ⟨n,hn⟩:=oth k x hk
      exact (key k x n hk hn).1
    · obtain ⟨n,hn⟩:=oth k x hx
      exact (key k x n hx hn).2.1
    · obtain ⟨z,hz⟩:=oth2 k y hy
      exact (key k z y hz hy).2.2.2.2 x hk hx
    · obtain ⟨k,hk⟩:=List.mem_iff_getElem?.1 hn
      obtain ⟨z,hz⟩:=oth2 k n hk
      exact (key k z n hz hk).2.2.1
theorem Nice.stOf {s:Sc} (h:Nice s) (t:Ty):NSt s.ss s.es (stOf s t):=by
  unfold Proofs.YtkpohmhenegkiaaGreatDoor.stOf
  cases h1:fS s.ss t.n with
  | none=>exact ⟨by decide,fun _ h=>(by cases h),fun _ h=>(by cases h),fun _ h=>(by cases h),fun _ _ _ _ h=>(by cases h),fun _ _ h=>(by cases h)⟩
  | some u=>exact h.st u (List.mem_of_find?_eq_some h1)
theorem Nice.enOf {s:Sc} (h:Nice s) (t:Ty):NEn (enOf s t):=by
  unfold Proofs.YtkpohmhenegkiaaGreatDoor.enOf
  cases h1:bX s.es t.n with
  | none=>exact ⟨rfl,by decide,fun _ h=>(by cases h),fun _ _ h=>(by cases h),fun _ _ _ _ h=>(by cases h),fun _ h=>(by cases h)⟩
  | some u=>exact h.en u (List.mem_of_find?_eq_some h1)
theorem Nice.eq {s:Sc} (h:Nice s):G7 s:=fun e he=>(h.en e he).l
theorem uU {x:List UInt8} (h:cH x=true):x.length<=16:=by
  rcases Nat.lt_or_ge 16 x.length with h1 | h1
  · rw [rK h1] at h; cases h
  · exact h1
end Go.Proofs.YtkpohmhenegkiaaGreatDoor
namespace Go.Proofs.YtkpohmhenegkiaaGreatDoor
open Go.W
structure Ck (s:Sc) (t:Ty) (v:Vl):Prop where
  va:valF s.ss s.es t=true
  kk:v.k=t.k
  tx:(t.k == 4)=true->v.n=0/\v.l=[]/\v.f=[]/\((bl v.s).length:Int)<=t.s
  ls:(t.k == 5)=true->v.n=0/\bl v.s=[]/\v.f=[]/\(v.l.length:Int)<=t.s/\∀ x ∈ v.l,fL s (t.e.headD default) x=0
  st:(t.k == 6)=true->v.n=0/\bl v.s=[]/\v.l=[]/\cN (stOf s t).fs v.f=true/\∀ x ∈ v.f,fL s (cK (stOf s t) x.1).ty x.2=0
  nu:(t.k == 4)=false->(t.k == 5)=false->(t.k == 6)=false->bl v.s=[]/\v.l=[]/\v.f=[]/\FX s t v.n=true
theorem H8 {s:Sc} {t:Ty}:∀ {l:List Vl},jT s t l=0->∀ x ∈ l,fL s t x=0
  | [],_,_,h=>by cases h
  | y :: l,h,x,hx=>by
    rw [jT] at h
    by_cases c:fL s t y=0
    · rw [c] at h
      rcases List.mem_cons.1 hx with rfl | hx
      · exact c
      · exact H8 h x hx
    · rw [show (fL s t y != 0)=true by simpa using c] at h; exact absurd h c
theorem IU {s:Sc} {fs:List Fl}:∀ {l:List (Int × Vl)},jV s fs l=0->∀ x ∈ l,fL s ((fF fs x.1).getD default).ty x.2=0
  | [],_,_,h=>by cases h
  | y :: l,h,x,hx=>by
    rw [H0] at h
    by_cases c:fL s ((fF fs y.1).getD default).ty y.2=0
    · rw [c] at h
      rcases List.mem_cons.1 hx with rfl | hx
      · exact c
      · exact IU h x hx
    · rw [show (fL s ((fF fs y.1).getD default).ty y.2 != 0)=true by simpa using c] at h; exact absurd h c
theorem mG {α:Type} {l:List α} (h:¬ 0 < (l.length:Int)):l=[]:=List.eq_nil_of_length_eq_zero (by omega)
theorem jF {k a b:Int} (h:(k == a)=true) (hab:a ≠ b):(k == b)=false:=by
  have:=eq_of_beq h; simp; omega
theorem BH {s:Sc} {t:Ty} {v:Vl} (h:fL s t v=0):Ck s t v:=by
  rw [N9] at h
  cases c1:!(valF s.ss s.es t) || v.k != t.k with
  | true=>rw [c1] at h; simp at h
  | false=>
  rw [c1,Bool.cond_false] at h
  rw [Bool.or_eq_false_iff] at c1
  have va:valF s.ss s.es t=true:=by simpa using c1.1
  have kk:v.k=t.k:=by simpa using c1.2
  cases c4:t.k == 4 with
  | true=>
    rw [c4,Bool.cond_true] at h
    unfold p5 at h
    cases d1:v.n != 0 || decide (0 < (v.l.length:Int)) || decide (0 < (v.f.length:Int)) with
    | true=>rw [d1] at h; simp at h
    | false=>
      rw [d1,Bool.cond_false] at h
      cases d2:decide (t.s < ((bl v.s).length:Int)) with
      | true=>rw [d2] at h; simp at h
      | false=>
        simp only [Bool.or_eq_false_iff,decide_eq_false_iff_not,bne_eq_false_iff_eq] at d1 d2
        refine ⟨va,kk,fun _=>⟨d1.1.1,mG d1.1.2,mG d1.2,by omega⟩,fun h=>?_,fun h=>?_,fun h _ _=>?_⟩
        · rw [jF c4 (by decide)] at h; cases h
        · rw [jF c4 (by decide)] at h; cases h
        · rw [c4] at h; cases h
  | false=>
  rw [c4,Bool.cond_false] at h
  cases c5:t.k == 5 with
  | true=>
    rw [c5,Bool.cond_true] at h
    cases d1:v.n != 0 || !(bl v.s == []) || decide (0 < (v.f.length:Int)) with
    | true=>rw [d1] at h; simp at h
    | false=>
      rw [d1,Bool.cond_false] at h
      cases d2:decide (t.s < (v.l.length:Int)) with
      | true=>rw [d2] at h; simp at h
      | false=>
        rw [d2,Bool.cond_false] at h
        simp only [Bool.or_eq_false_iff,decide_eq_false_iff_not,bne_eq_false_iff_eq,Bool.not_eq_false'] at d1 d2
        refine ⟨va,kk,fun h=>?_,fun _=>⟨d1.1.1,eq_of_beq d1.1.2,mG d1.2,by omega,H8 h⟩,fun h=>?_,fun _ h _=>?_⟩
        · rw [c4] at h; cases h
        · rw [jF c5 (by decide)] at h; cases h
        · rw [c5] at h; cases h
  | false=>
  rw [c5,Bool.cond_false] at h
  cases c6:t.k == 6 with
  | true=>
    rw [c6,Bool.cond_true] at h
    cases d1:v.n != 0 || !(bl v.s == []) || decide (0 < (v.l.length:Int)) || !(cN ((fS s.ss t.n).getD default).fs v.f) with
    | true=>rw [d1] at h; simp at h
    | false=>
      rw [d1,Bool.cond_false] at h
      simp only [Bool.or_eq_false_iff,decide_eq_false_iff_not,bne_eq_false_iff_eq,Bool.not_eq_false'] at d1
      refine ⟨va,kk,fun h=>?_,fun h=>?_,fun _=>⟨d1.1.1.1,eq_of_beq d1.1.1.2,mG d1.1.2,d1.2,IU h⟩,fun _ _ h=>?_⟩
      · rw [c4] at h; cases h
      · rw [c5] at h; cases h
      · rw [c6] at h; cases h
  | false=>
  rw [c6,Bool.cond_false] at h
  unfold pL at h
  cases d1:!(bl v.s == []) || decide (0 < (v.l.length:Int)) || decide (0 < (v.f.length:Int)) with
  | true=>rw [d1] at h; simp at h
  | false=>
    rw [d1,Bool.cond_false] at h
    cases d2:FX s t v.n with
    | false=>rw [d2] at h; simp at h
    | true=>
      simp only [Bool.or_eq_false_iff,decide_eq_false_iff_not,Bool.not_eq_false'] at d1
      refine ⟨va,kk,fun h=>?_,fun h=>?_,fun h=>?_,fun _ _ _=>⟨eq_of_beq d1.1.1,mG d1.1.2,mG d1.2,d2⟩⟩
      · rw [c4] at h; cases h
      · rw [c5] at h; cases h
      · rw [c6] at h; cases h
theorem OR {p:Vl->Bool}:∀ {l:List Vl},(∀ x ∈ l,p x=!iO x)->l.any p=!qU l
  | [],_=>by rw [qU]; rfl
  | x :: l,h=>by
    rw [List.any_cons,qU,h x (List.mem_cons_self ..),OR fun y hy=>h y (List.mem_cons_of_mem _ hy),Bool.not_and]
theorem O3 {p:Int × Vl->Bool}:∀ {l:List (Int × Vl)},(∀ x ∈ l,p x=!iO x.2)->l.any p=!oI l
  | [],_=>by rw [oI]; rfl
  | x :: l,h=>by
    rw [List.any_cons,GJ,h x (List.mem_cons_self ..),O3 fun y hy=>h y (List.mem_cons_of_mem _ hy),Bool.not_and]
theorem GV {v:Vl} (h1:v.l=[]) (h2:v.f=[]):iO v=(decide ((bl v.s).length<=200) && (bl v.s).all gB):=by
  rw [zW,h1,h2,qU,oI,Bool.and_true,Bool.and_true]
theorem ZX (x:List UInt8):(lK x == [])=false:=by unfold lK; rfl
theorem DY:∀ (N:Nat) (s:Sc) (t:Ty) (v:Vl),v.h<=N->fL s t v=0->(fP N s t v).2=!iO v
  | 0,_,_,v,h,_=>by have:=v.h_pos; omega
  | N + 1,s,t,v,hh,h0=>by
    have hc:=BH h0
    have flat:bl v.s=[]->v.l=[]->v.f=[]->false=!iO v:=fun e1 e2 e3=>by rw [GV e2 e3,e1]; rfl
    rw [iC]
    cases c4:t.k == 4 with
    | true=>
      obtain ⟨_,e1,e2,_⟩:=hc.tx c4
      rw [jF c4 (b:=1) (by decide),Bool.cond_false,Bool.cond_true,GV e1 e2]
      unfold lU
      cases decide ((bl v.s).length<=200) && (bl v.s).all gB with
      | true=>rw [Bool.cond_true,ZX]; rfl
      | false=>rfl
    | false=>
    cases c5:t.k == 5 with
    | true=>
      obtain ⟨_,e1,e2,_,e3⟩:=hc.ls c5
      rw [jF c5 (b:=1) (by decide),jF c5 (b:=7) (by decide),Bool.cond_false,Bool.cond_false,Bool.cond_false,Bool.cond_true,zW,e1,e2]
      show (v.l.any fun x=>(fP N s (t.e.headD default) x).2)=_
      rw [OR fun x hx=>DY N s _ x (by have:=Vl.h_l hx; omega) (e3 x hx),oI]
      simp
    | false=>
    cases c6:t.k == 6 with
    | true=>
      obtain ⟨_,e1,e2,_,e3⟩:=hc.st c6
      rw [jF c6 (b:=1) (by decide),jF c6 (b:=7) (by decide),Bool.cond_false,Bool.cond_false,Bool.cond_false,Bool.cond_false,Bool.cond_true,zW,e1,e2]
      show (v.f.any fun x=>(fP N s (cK (stOf s t) x.1).ty x.2).2)=_
      rw [O3 fun x hx=>DY N s _ x.2 (by have:=Vl.h_f hx; omega) (e3 x hx),qU]
      simp
    | false=>
      obtain ⟨e1,e2,e3,_⟩:=hc.nu c4 c5 c6
      have:=flat e1 e2 e3
      cases t.k == 1<;>cases t.k == 7<;>exact this
def dR:Nat->Nat
  | 0=>500
  | m + 1=>40 * dR m
theorem x7:∀ m,500<=dR m
  | 0=>Nat.le_refl _
  | m + 1=>by have:=x7 m; rw [dR]; omega
theorem wO {B:Nat}:∀ (c:Bool) (l:List (List UInt8)),(∀ x ∈ l,x.length<=B)->(cX c l).length<=l.length * (B + 2)
  | _,[],_=>by simp [cX]
  | c,x :: r,h=>by
    have h1:=wO true r fun y hy=>h y (List.mem_cons_of_mem _ hy)
    have h2:=h x (List.mem_cons_self ..)
    rw [cX,List.length_append,List.length_append,List.length_cons,Nat.succ_mul]
    have:(bif c then ([44,32]:List UInt8) else []).length<=2:=by cases c<;>simp
    omega
theorem JW:∀ x:List UInt8,(x.flatMap mV).length<=2 * x.length
  | []=>by simp
  | c :: x=>by
    have:=JW x
    rw [List.flatMap_cons,List.length_append,List.length_cons]
    have h:(mV c).length<=2:=by unfold mV; cases (c == 34 || c == 92)<;>simp
    omega
theorem XW (x:List UInt8):(lU x).length<=402:=by
  unfold lU
  cases h:decide (x.length<=200) && x.all gB with
  | false=>simp
  | true=>
    rw [Bool.and_eq_true] at h
    have h1:=of_decide_eq_true h.1
    have h2:=JW x
    rw [Bool.cond_true,lK,List.length_append,List.length_cons,List.length_singleton]
    omega
theorem CU {α:Type} {p q:α->Bool} (hq:∀ x,q x=true->p x=true):∀ {l:List α} {a:α},a ∈ l->p a=true->q a=false->(l.filter q).length < (l.filter p).length
  | [],_,h,_,_=>by cases h
  | x :: l,a,h,ha,hb=>by
    have le:∀ l:List α,(l.filter q).length<=(l.filter p).length:=fun l=>by
      induction l with
      | nil=>simp
      | cons y l ih=>
        rw [List.filter_cons,List.filter_cons]
        cases h1:q y with
        | true=>rw [hq y h1]; simpa using ih
        | false=>cases p y<;>simp<;>omega
    rw [List.filter_cons,List.filter_cons]
    rcases List.mem_cons.1 h with rfl | h
    · rw [ha,hb]
      have:=le l
      simp; omega
    · have:=CU hq h ha hb
      cases h1:q x with
      | true=>rw [hq x h1]; simpa using this
      | false=>cases p x<;>simp<;>omega
theorem O8 {fs:List Fl}:∀ (l:List (Int × Vl)) (p:Option Int),ftA fs p l=true->l.length<=(fs.filter fun f=>IJ p f.num).length
  | [],_,_=>Nat.zero_le _
  | x :: r,p,h=>by
    rw [vH,Bool.and_eq_true,Bool.and_eq_true] at h
    obtain ⟨⟨h1,h2⟩,h3⟩:=h
    have ih:=O8 r (some x.1) h3
    obtain ⟨f,hf⟩:=Option.isSome_iff_exists.1 h1
    have hm:=List.mem_of_find?_eq_some hf
    have hn:f.num=x.1:=by have:=List.find?_some hf; simpa using this
    have hlt:=CU (p:=fun f=>IJ p f.num) (q:=fun f=>IJ (some x.1) f.num) (l:=fs) (a:=f) (fun g hg=>by
      cases p with
      | none=>rfl
      | some q=>
        have a1:q < x.1:=of_decide_eq_true h2
        have a2:x.1 < g.num:=of_decide_eq_true hg
        exact decide_eq_true (by omega)) hm (by rw [hn]; exact h2) (by rw [hn]; exact decide_eq_false (by omega))
    rw [List.length_cons]
    omega
theorem RC {fs:List Fl} {l:List (Int × Vl)} (h:cN fs l=true):l.length<=fs.length:=by
  unfold cN at h
  rw [Bool.and_eq_true] at h
  exact Nat.le_trans (O8 l none h.1) (List.length_filter_le _ _)
theorem K7:∀ {l:List Vl} {x:Vl} (d:Int),x ∈ l->b7 x<=fX d l
  | y :: l,x,d,h=>by
    rw [fX]
    rcases List.mem_cons.1 h with rfl | h
    · have:=tL l (max d (b7 x)); omega
    · exact K7 _ h
theorem K5:∀ {l:List (Int × Vl)} {x:Int × Vl} (d:Int),x ∈ l->b7 x.2<=iL d l
  | (i,y) :: l,x,d,h=>by
    rw [iL]
    rcases List.mem_cons.1 h with rfl | h
    · have:=o7 l (max d (b7 y)); simp only; omega
    · exact K5 _ h
theorem S3 {v x:Vl} {m:Nat} (hm:b7 v<=m) (hx:x ∈ v.l):∃ j,m=j + 1/\b7 x<=j:=by
  have hs:kV v=false:=by
    unfold kV
    have:((v.l.length:Int) == 0)=false:=by
      have:=List.length_pos_of_mem hx
      simp; intro h; rw [h] at hx; cases hx
    rw [this,Bool.and_false,Bool.false_and]
  rw [zB,hs,Bool.cond_false] at hm
  have h1:=K7 0 hx
  have h2:=o7 v.f (fX 0 v.l)
  have h3:=BB x
  exact ⟨m - 1,by omega,by omega⟩
theorem TD {v:Vl} {x:Int × Vl} {m:Nat} (hm:b7 v<=m) (hx:x ∈ v.f):∃ j,m=j + 1/\b7 x.2<=j:=by
  have hs:kV v=false:=by
    unfold kV
    have:((v.f.length:Int) == 0)=false:=by
      simp; intro h; rw [h] at hx; cases hx
    rw [this,Bool.and_false]
  rw [zB,hs,Bool.cond_false] at hm
  have h1:=K5 (fX 0 v.l) hx
  have h3:=BB x.2
  exact ⟨m - 1,by omega,by omega⟩
theorem va5 {ss:List St} {es:List En} {t:Ty} (h:valF ss es t=true) (hk:(t.k == 5)=true):t.s<=32:=by
  obtain ⟨k,s,n,e⟩:=t
  have hk:k=5:=eq_of_beq hk
  subst hk
  rw [valF.eq_def] at h
  simp at h
  show s<=32
  omega
theorem va4 {ss:List St} {es:List En} {t:Ty} (h:valF ss es t=true) (hk:(t.k == 4)=true):t.s<=2000:=by
  obtain ⟨k,s,n,e⟩:=t
  have hk:k=4:=eq_of_beq hk
  subst hk
  rw [valF.eq_def] at h
  simp at h
  show s<=2000
  omega
theorem J9 (ns:List ByteArray) (n:Int):∀ (l:List Int) (i:Nat),iI ns n l i=mk []\/iI ns n l i ∈ ns
  | [],_=>.inl rfl
  | m :: l,i=>by
    rw [iI]
    cases h:m == n && decide ((i:Int) < (ns.length:Int)) with
    | false=>exact J9 ns n l (i + 1)
    | true=>
      rw [Bool.and_eq_true] at h
      have h2:=of_decide_eq_true h.2
      right
      rw [Bool.cond_true,List.getD_eq_getElem?_getD,List.getElem?_eq_getElem (show i < ns.length by omega)]
      exact List.getElem_mem _
theorem R3 {u:St} {n:Int}:cK u n ∈ u.fs\/cK u n=default:=by
  unfold cK
  cases h:fF u.fs n with
  | none=>exact .inr rfl
  | some f=>exact .inl (List.mem_of_find?_eq_some h)
theorem GE:∀ (N:Nat) (s:Sc) (t:Ty) (v:Vl) (m:Nat),Nice s->VlOk v->v.h<=N->fL s t v=0->b7 v<=m->(fP N s t v).1.length<=dR m
  | 0,_,_,v,_,_,_,h,_,_=>by have:=v.h_pos; omega
  | N + 1,s,t,v,m,hn,hv,hh,h0,hm=>by
    have hc:=BH h0
    have hb:=x7 m
    rw [iC]
    cases c1:t.k == 1 with
    | true=>
      rw [Bool.cond_true]
      have:(CG v.n).length<=5:=by unfold CG; cases v.n == 1<;>decide
      simp only; omega
    | false=>
    rw [Bool.cond_false]
    cases c4:t.k == 4 with
    | true=>
      rw [Bool.cond_true]
      have:=XW (bl v.s)
      simp only; omega
    | false=>
    rw [Bool.cond_false]
    cases c7:t.k == 7 with
    | true=>
      rw [Bool.cond_true]
      have:(bl (iI (enOf s t).ns v.n (enOf s t).vs 0)).length<=16:=by
        rcases J9 (enOf s t).ns v.n (enOf s t).vs 0 with h | h
        · rw [h]; exact Nat.zero_le _
        · exact uU ((hn.enOf t).m _ h)
      simp only; omega
    | false=>
    rw [Bool.cond_false]
    cases c5:t.k == 5 with
    | true=>
      rw [Bool.cond_true]
      obtain ⟨_,e1,e2,e4,e3⟩:=hc.ls c5
      have hs:=va5 hc.va c5
      show ([91] ++ cX false (v.l.map fun x=>(fP N s (t.e.headD default) x).1) ++ [93]).length<=_
      rcases Nat.eq_zero_or_pos v.l.length with h | h
      · rw [List.eq_nil_of_length_eq_zero h]; simp [cX]; omega
      · obtain ⟨y,hy⟩:∃ y,y ∈ v.l:=⟨_,List.getElem_mem h⟩
        obtain ⟨j,rfl,_⟩:=S3 hm hy
        have hb2:=x7 j
        have:=wO (B:=dR j) false (v.l.map fun x=>(fP N s (t.e.headD default) x).1) fun z hz=>by
          obtain ⟨x,hx,rfl⟩:=List.mem_map.1 hz
          obtain ⟨j',hj,hr⟩:=S3 hm hx
          obtain rfl:j=j':=by omega
          exact GE N s _ x j hn (hv.l x hx) (by have:=Vl.h_l hx; omega) (e3 x hx) hr
        rw [List.length_map] at this
        have h2:v.l.length * (dR j + 2)<=32 * (dR j + 2):=Nat.mul_le_mul_right _ (by omega)
        rw [List.length_append,List.length_append,List.length_singleton,List.length_singleton,dR]
        omega
    | false=>
    rw [Bool.cond_false]
    cases c6:t.k == 6 with
    | true=>
      rw [Bool.cond_true]
      obtain ⟨_,e1,e2,e4,e3⟩:=hc.st c6
      have hu:=hn.stOf t
      have hl:=Nat.le_trans (RC e4) hu.l
      show ([123] ++ cX false (v.f.map (nK (fP N) s (stOf s t))) ++ [125]).length<=_
      rcases Nat.eq_zero_or_pos v.f.length with h | h
      · rw [List.eq_nil_of_length_eq_zero h]; simp [cX]; omega
      · obtain ⟨y,hy⟩:∃ y,y ∈ v.f:=⟨_,List.getElem_mem h⟩
        obtain ⟨j,rfl,_⟩:=TD hm hy
        have hb2:=x7 j
        have:=wO (B:=dR j + 19) false (v.f.map (nK (fP N) s (stOf s t))) fun z hz=>by
          obtain ⟨x,hx,rfl⟩:=List.mem_map.1 hz
          obtain ⟨j',hj,hr⟩:=TD hm hx
          obtain rfl:j=j':=by omega
          have h1:=GE N s _ x.2 j hn (hv.f x hx) (by have:=Vl.h_f hx; omega) (e3 x hx) hr
          have h2:(bl (cK (stOf s t) x.1).nm).length<=16:=by
            rcases R3 (u:=stOf s t) (n:=x.1) with h | h
            · exact uU (hu.m _ h)
            · rw [h]; exact Nat.zero_le _
          unfold nK
          rw [List.length_append,List.length_append]
          simp only [List.length_cons,List.length_nil]
          omega
        rw [List.length_map] at this
        have h2:v.f.length * (dR j + 19 + 2)<=16 * (dR j + 19 + 2):=Nat.mul_le_mul_right _ (by omega)
        rw [List.length_append,List.length_append,List.length_singleton,List.length_singleton,dR]
        omega
    | false=>
      rw [Bool.cond_false]
      have:=FJ hv.n.1 hv.n.2
      simp only; omega
theorem EG:∀ (N:Nat) (s:Sc) (t:Ty) (v:Vl),s.fit->Nice s->TyOk t->VlOk v->v.h<=N->fL s t v=0->b7 v<=6->dF N s t v
  | 0,_,_,v,_,_,_,_,h,_,_=>by have:=v.h_pos; omega
  | N + 1,s,t,v,hs,hn,ht,hv,hh,h0,hm=>by
    have hc:=BH h0
    refine ⟨fun c4=>?_,fun c5=>?_,fun c6 x hx=>?_,?_⟩
    · have h1:=va4 hc.va c4
      have h2:=(hc.tx c4).2.2.2
      omega
    · obtain ⟨_,e1,e2,e4,e3⟩:=hc.ls c5
      obtain ⟨u,he,_⟩:=Q8 hc.va c5
      rw [he,List.headD_cons] at e3
      have hu:=ht.e u (by rw [he]; exact List.mem_singleton.2 rfl)
      refine ⟨u,he,hu,fun x hx=>EG N s u x hs hn hu (hv.l x hx) (by have:=Vl.h_l hx; omega) (e3 x hx) ?_⟩
      obtain ⟨j,hj,hr⟩:=S3 (m:=6) hm hx
      omega
    · obtain ⟨_,e1,e2,e4,e3⟩:=hc.st c6
      refine EG N s _ x.2 hs hn (s0 (iZ hs t) x.1).ty (hv.f x hx) (by have:=Vl.h_f hx; omega) (e3 x hx) ?_
      obtain ⟨j,hj,hr⟩:=TD (m:=6) hm hx
      omega
    · refine Nat.le_trans (GE (N + 1) s t v 6 hn hv hh h0 hm) ?_
      decide
theorem qC {s:Sc} {t:Ty} {v:Vl} (h:dQ s t v=0):fL s t v=0/\b7 v<=6:=by
  unfold dQ at h
  rw [KG] at h
  cases c:decide (6 < b7 v) with
  | true=>rw [c] at h; simp at h
  | false=>rw [c] at h; exact ⟨h,by have:=of_decide_eq_false c; omega⟩
theorem aGK {N:Nat} {s:Sc} {t:Ty} {v:Vl} (hh:v.h<=N):vB (fP N) s t v=FA N s t v:=by
  unfold vB FA
  by_cases h:dQ s t v=0
  · rw [h,show ((0:Int) != 0)=false from rfl,Bool.cond_false,Bool.false_or,DY N s t v hh (qC h).1]
    cases iO v<;>rfl
  · rw [show (dQ s t v != 0)=true by simpa using h,Bool.cond_true,Bool.true_or,Bool.cond_true]
theorem aET {N:Nat} {s:Sc} {t:Ty} {v:Vl} (hs:s.fit) (hn:Nice s) (ht:TyOk t) (hv:VlOk v) (hh:v.h<=N):NU N s t v:=by
  refine ⟨hh,fun h hp=>?_⟩
  obtain ⟨h1,h2⟩:=qC h
  refine ⟨EG N s t v hs hn ht hv hh h1 h2,by rw [DY N s t v hh h1,hp]; rfl,hn.eq⟩
end Go.Proofs.YtkpohmhenegkiaaGreatDoor
namespace Go.Proofs.YtkpohmhenegkiaaGreatDoor
open Go.W
def TV:PC:=.seq (.reg [.e 3 (.bx 25 (.t 0)),.e 4 (.bx 28 (.t 1)),.e 5 (.bx 32 (.t 2)),.q 6 (.mv (.k (.bool false)))]) (.seq (.seq (.reg [.l 7 (.ldn 3 (.t 3)),.l 8 (.ldn 4 (.t 4)),.a 9 (.cq 8 [(.t 7),(.t 8)]),.q 10 (.not (.t 9)),.v 11 10,⟨some 12,(some (11,false)),.l (.ldn 5 (.t 5))⟩,⟨some 13,(some (11,false)),.cq 9 [(.t 12)]⟩,⟨some 14,(some (11,false)),.q (.not (.t 13))⟩,.a 15 (.pick (.t 11) (.k (.bool true)) (.t 14))]) (.cond (.t 15) (.seq (.reg [.a 16 (.cq 10 []),.v 6 16]) .ret) .skip)) (.seq (.reg [.l 17 (.ldn 3 (.t 3)),.l 18 (.ldn 4 (.t 4)),.l 19 (.ldn 5 (.t 5)),.a 20 (.cq 11 [(.t 17),(.t 18),(.t 19)]),.l 21 (.ldn 3 (.t 3)),.l 22 (.ldn 4 (.t 4)),.l 23 (.ldn 5 (.t 5)),.a 24 (.cq 12 [(.t 21),(.t 22),(.t 23)]),.q 25 (.bin .eql true (.t 20) (.t 24)),.v 26 25,⟨some 27,(some (26,true)),.cq 10 []⟩,.a 28 (.pick (.t 26) (.t 27) (.k (.bool false))),.v 6 28]) .ret))
def XB:List RV:=[.mv (.t 6)]
theorem ok3:aN Tryz.prog true ⟨fun r k=>if r=1/\k=2 then .q else if r=1/\k=6 then .q else if r=2/\k=0 then .q else if r=3/\k=3 then .q else if r=3/\k=7 then .q else if r=3/\k=10 then .q else .own [],fun _=>false⟩ Tryz.f3=some (TV,XB):=by kernel_rfl
def VE:PC:=.seq (.reg [.e 2 (.bx 25 (.t 0)),.e 3 (.bx 28 (.t 1)),.q 4 (.mv (.k (.bool false)))]) (.seq (.reg [.l 5 (.ldn 3 (.t 2)),.a 6 (.cq 18 [(.t 5)]),.v 7 6,⟨some 8,(some (7,true)),.l (.ldn 4 (.t 3))⟩,⟨some 9,(some (7,true)),.cq 19 [(.t 8)]⟩,.a 10 (.pick (.t 7) (.t 9) (.k (.bool false))),.v 11 10,⟨some 12,(some (11,true)),.l (.ldn 3 (.t 2))⟩,⟨some 13,(some (11,true)),.cq 20 [(.t 12)]⟩,⟨some 14,(some (11,true)),.q (.bin .eql true (.t 13) (.i 0))⟩,.a 15 (.pick (.t 11) (.t 14) (.k (.bool false))),.v 4 15]) .ret)
def XS:List RV:=[.mv (.t 4)]
theorem ok8:aN Tryz.prog true ⟨fun r k=>if r=1/\k=1 then .q else if r=1/\k=4 then .q else if r=1/\k=8 then .q else .own [],fun _=>false⟩ Tryz.f8=some (VE,XS):=by kernel_rfl
def LK:PC:=.seq (.gh (.reg [.v 10 3,.q 11 (.bin .leq true (.t 10) (.i 500)),.v 12 11,⟨some 13,(some (12,true)),.q (.mv (.t 4))⟩,⟨some 14,(some (12,true)),.q (.bin .leq true (.t 13) (.i 12))⟩,.a 15 (.pick (.t 12) (.t 14) (.k (.bool false))),.v 2 15])) .ret
@[go_sem ↓] theorem aPO:aT LK:=aU _
def pc9:PC:=.seq (.reg [.e 1 (.bx 32 (.t 0)),.q 2 (.mv (.k (.bool false)))]) (.seq (.reg [.l 6 (.ldn 5 (.t 1)),.a 7 (.cl 21 [(.t 6),(.i 0)] []),.v 5 7,.q 8 (.ex (.t 5) 0),.q 9 (.ex (.t 5) 1),.v 3 8,.v 4 9]) (LK))
def rs9:List RV:=[.mv (.t 2)]
theorem ok9:aN Tryz.prog true ⟨fun _ _=>.own [],fun r=>[2].contains r⟩ Tryz.f9=some (pc9,rs9):=by kernel_rfl
def GH:PC:=.seq (.gh (.reg [.v 49 5,.q 50 (.bin .eql true (.t 49) (.i 0)),.v 51 50,⟨some 52,(some (51,true)),.l (.ldn 3 (.t 1))⟩,⟨some 53,(some (51,true)),.l (.ldn 4 (.t 2))⟩,⟨some 54,(some (51,true)),.l (.ldn 5 (.t 4))⟩,⟨some 55,(some (51,true)),.cq 11 [(.t 52),(.t 53),(.t 54)]⟩,⟨some 56,(some (51,true)),.q (.mv (.t 3))⟩,⟨some 57,(some (51,true)),.q (.bin .eql true (.t 55) (.t 56))⟩,.a 58 (.pick (.t 51) (.t 57) (.k (.bool false))),.v 59 58,⟨some 60,(some (59,true)),.q (.fa 4 (.t 4))⟩,⟨some 61,(some (59,true)),.l (.ld1 (.t 60))⟩,⟨some 62,(some (59,true)),.q (.lnL (.t 61))⟩,⟨some 63,(some (59,true)),.q (.bin .eql true (.t 62) (.i 3))⟩,.a 64 (.pick (.t 59) (.t 63) (.k (.bool false))),.v 65 64,⟨some 66,(some (65,true)),.q (.fa 4 (.t 4))⟩,⟨some 67,(some (65,true)),.l (.ld1 (.t 66))⟩,⟨some 68,(some (65,true)),.l (.ia 6 (.t 67) (.i 1))⟩,⟨some 69,(some (65,true)),.q (.fa 0 (.t 68))⟩,⟨some 70,(some (65,true)),.l (.ld1 (.t 69))⟩,⟨some 71,(some (65,true)),.q (.bin .eql true (.t 70) (.i 4))⟩,.a 72 (.pick (.t 65) (.t 71) (.k (.bool false))),.v 73 72,⟨some 74,(some (73,true)),.q (.fa 4 (.t 4))⟩,⟨some 75,(some (73,true)),.l (.ld1 (.t 74))⟩,⟨some 76,(some (73,true)),.l (.ia 6 (.t 75) (.i 1))⟩,⟨some 77,(some (73,true)),.q (.fa 1 (.t 76))⟩,⟨some 78,(some (73,true)),.q (.fa 1 (.t 77))⟩,⟨some 79,(some (73,true)),.l (.ld1 (.t 78))⟩,⟨some 80,(some (73,true)),.q (.bin .eql true (.t 79) (.i 3))⟩,.a 81 (.pick (.t 73) (.t 80) (.k (.bool false))),.v 82 81,⟨some 83,(some (82,true)),.q (.mv (.t 8))⟩,⟨some 84,(some (82,true)),.q (.bin .eql true (.t 83) (.i 4))⟩,.a 85 (.pick (.t 82) (.t 84) (.k (.bool false))),.v 86 85,⟨some 87,(some (86,true)),.q (.mv (.t 9))⟩,⟨some 88,(some (86,true)),.q (.bin .eql true (.t 87) (.i 0))⟩,.a 89 (.pick (.t 86) (.t 88) (.k (.bool false))),.v 90 89,⟨some 91,(some (90,true)),.q (.mv (.t 11))⟩,⟨some 92,(some (90,true)),.q (.bin .eql true (.t 91) (.i 2))⟩,.a 93 (.pick (.t 90) (.t 92) (.k (.bool false))),.v 94 93,⟨some 95,(some (94,true)),.q (.mv (.t 12))⟩,⟨some 96,(some (94,true)),.q (.bin .eql true (.t 95) (.i 13))⟩,.a 97 (.pick (.t 94) (.t 96) (.k (.bool false))),.v 98 97,⟨some 99,(some (98,true)),.q (.mv (.t 14))⟩,⟨some 100,(some (98,true)),.q (.bin .eql true (.t 99) (.i 2))⟩,.a 101 (.pick (.t 98) (.t 100) (.k (.bool false))),.v 102 101,⟨some 103,(some (102,true)),.q (.mv (.t 15))⟩,⟨some 104,(some (102,true)),.q (.bin .eql true (.t 103) (.i 15))⟩,.a 105 (.pick (.t 102) (.t 104) (.k (.bool false))),.v 0 105])) .ret
@[go_sem ↓] theorem aOH:aT GH:=aU _
def HV:PC:=.seq (.gh (.reg [.l 43 (.ldn 3 (.t 1)),.l 44 (.ldn 4 (.t 2)),.a 45 (.cl 13 [(.t 43),(.t 44),(.k (.string (mk [123,120,32,61,32,49,44,32,109,111,100,101,32,61,32,115,116,111,112,44,32,108,32,61,32,91,93,125])))] []),.v 42 45,.q 46 (.ex (.t 42) 0),.q 47 (.ex (.t 42) 1),.q 48 (.ex (.t 42) 2),.e 13 (.al (.agg #[(.int .i64 0),(.int .i64 0),(.string (mk [])),(.slice none 0 0),(.slice none 0 0)]) 32),.s (.st 5 (.t 13) (.t 46)),.v 14 47,.v 15 48])) (GH)
@[go_sem ↓] theorem aM6:aT HV:=aU _
def F1:PC:=.seq (.gh (.reg [.l 36 (.ldn 3 (.t 1)),.l 37 (.ldn 4 (.t 2)),.a 38 (.cl 13 [(.t 36),(.t 37),(.k (.string (mk [123,109,111,100,101,32,61,32,114,117,110,44,32,120,32,61,32,49,125])))] []),.v 35 38,.q 39 (.ex (.t 35) 0),.q 40 (.ex (.t 35) 1),.q 41 (.ex (.t 35) 2),.e 10 (.al (.agg #[(.int .i64 0),(.int .i64 0),(.string (mk [])),(.slice none 0 0),(.slice none 0 0)]) 32),.s (.st 5 (.t 10) (.t 39)),.v 11 40,.v 12 41])) (HV)
@[go_sem ↓] theorem aLN:aT F1:=aU _
def IX:PC:=.seq (.gh (.reg [.l 29 (.ldn 3 (.t 1)),.l 30 (.ldn 4 (.t 2)),.a 31 (.cl 13 [(.t 29),(.t 30),(.k (.string (mk [123,120,32,61,32,50,48,48,44,32,109,111,100,101,32,61,32,114,117,110,44,32,108,32,61,32,91,93,125])))] []),.v 28 31,.q 32 (.ex (.t 28) 0),.q 33 (.ex (.t 28) 1),.q 34 (.ex (.t 28) 2),.e 7 (.al (.agg #[(.int .i64 0),(.int .i64 0),(.string (mk [])),(.slice none 0 0),(.slice none 0 0)]) 32),.s (.st 5 (.t 7) (.t 32)),.v 8 33,.v 9 34])) (F1)
@[go_sem ↓] theorem aM9:aT IX:=aU _
def H3:PC:=.seq (.gh (.reg [.l 21 (.ldn 3 (.t 1)),.l 22 (.ldn 4 (.t 2)),.v 23 3,.a 24 (.cl 13 [(.t 21),(.t 22),(.t 23)] []),.v 20 24,.q 25 (.ex (.t 20) 0),.q 26 (.ex (.t 20) 1),.q 27 (.ex (.t 20) 2),.e 4 (.al (.agg #[(.int .i64 0),(.int .i64 0),(.string (mk [])),(.slice none 0 0),(.slice none 0 0)]) 32),.s (.st 5 (.t 4) (.t 25)),.v 5 26,.v 6 27])) (IX)
@[go_sem ↓] theorem aOJ:aT H3:=aU _
def IE:PC:=.seq (.gh (.reg [.q 3 (.mv (.k (.string (mk [123,120,32,61,32,45,53,44,32,109,111,100,101,32,61,32,114,117,110,44,32,108,32,61,32,91,116,114,117,101,44,32,102,97,108,115,101,93,125]))))])) (H3)
@[go_sem ↓] theorem aN4:aT IE:=aU _
def aBT:PC:=.seq (.reg [.q 0 (.mv (.k (.bool false)))]) (.seq (.reg [.a 17 (.cl 22 [] []),.v 16 17,.q 18 (.ex (.t 16) 0),.q 19 (.ex (.t 16) 1),.e 1 (.al (.agg #[(.int .i64 0),(.slice none 0 0),(.slice none 0 0)]) 25),.e 2 (.al (.agg #[(.int .i64 0),(.int .i64 0),(.string (mk [])),(.slice none 0 0)]) 28),.s (.st 3 (.t 1) (.t 18)),.s (.st 4 (.t 2) (.t 19))]) (IE))
def aDI:List RV:=[.mv (.t 0)]
theorem aNM:aN Tryz.prog true ⟨fun r k=>if r=7/\k=6 then .q else .own [],fun r=>[2,3,4,5,6,7].contains r⟩ Tryz.f10=some (aBT,aDI):=by kernel_rfl
def IH:PC:=.gh (.reg [.v 37 6,.v 38 9,.q 39 (.bin .add false (.t 37) (.t 38)),.v 40 7,.v 41 10,.q 42 (.mx true (.t 40) (.t 41)),.v 6 39,.v 7 42])
@[go_sem ↓] theorem aNP:aT IH:=aU _
def A5:PC:=.gh (.reg [.v 62 6,.v 63 12,.q 64 (.bin .add false (.t 62) (.t 63)),.v 65 7,.v 66 13,.q 67 (.mx true (.t 65) (.t 66)),.v 6 64,.v 7 67])
@[go_sem ↓] theorem aI9:aT A5:=aU _
def RL:PC:=.seq (.reg [.e 2 (.bx 32 (.t 0)),.q 4 (.mv (.i 0)),.q 5 (.mv (.i 0))]) (.seq (.reg [.v 14 1,.q 6 (.mv (.i 1)),.v 7 14]) (.seq (.seq (.reg [.v 15 1,.q 16 (.bin .gtr false (.t 15) (.i 20))]) (.cond (.t 16) (.seq (.reg [.v 17 6,.v 18 1,.v 4 17,.v 5 18]) .ret) .skip)) (.seq (.seq (.reg [.q 8 (.mv (.i 0))]) (.block 0 (.loop (.seq (.seq (.reg [.v 19 8,.q 20 (.fa 3 (.t 2)),.l 21 (.ld1 (.t 20)),.q 22 (.lnL (.t 21)),.q 23 (.bin .lss false (.t 19) (.t 22))]) (.cond (.t 23) .skip (.exit 0))) (.seq (.block 1 (.seq (.reg [.q 27 (.fa 3 (.t 2)),.l 28 (.ld1 (.t 27)),.v 29 8,.l 30 (.ia 5 (.t 28) (.t 29)),.l 31 (.ldn 5 (.t 30)),.v 32 1,.q 33 (.bin .add false (.t 32) (.i 1)),.a 34 (.cl 21 [(.t 31),(.t 33)] []),.v 26 34,.q 35 (.ex (.t 26) 0),.q 36 (.ex (.t 26) 1),.v 9 35,.v 10 36]) (IH))) (.reg [.v 24 8,.q 25 (.bin .add false (.t 24) (.i 1)),.v 8 25])))))) (.seq (.seq (.reg [.q 11 (.mv (.i 0))]) (.block 2 (.loop (.seq (.seq (.reg [.v 43 11,.q 44 (.fa 4 (.t 2)),.l 45 (.ld1 (.t 44)),.q 46 (.lnL (.t 45)),.q 47 (.bin .lss false (.t 43) (.t 46))]) (.cond (.t 47) .skip (.exit 2))) (.seq (.block 3 (.seq (.reg [.q 51 (.fa 4 (.t 2)),.l 52 (.ld1 (.t 51)),.v 53 11,.l 54 (.ia 6 (.t 52) (.t 53)),.q 55 (.fa 1 (.t 54)),.l 56 (.ldn 5 (.t 55)),.v 57 1,.q 58 (.bin .add false (.t 57) (.i 1)),.a 59 (.cl 21 [(.t 56),(.t 58)] []),.v 50 59,.q 60 (.ex (.t 50) 0),.q 61 (.ex (.t 50) 1),.v 12 60,.v 13 61]) (A5))) (.reg [.v 48 11,.q 49 (.bin .add false (.t 48) (.i 1)),.v 11 49])))))) (.seq (.reg [.v 68 6,.v 69 7,.v 4 68,.v 5 69]) .ret)))))
def RB:List RV:=[.mv (.t 4),.mv (.t 5)]
theorem aOB:aN Tryz.prog false ⟨fun _ _=>.own [],fun r=>[8,13].contains r⟩ Tryz.f21=some (RL,RB):=by kernel_rfl
def aEL:PC:=.seq (.reg [.e 0 (.al (.agg #[(.int .i64 0),(.slice none 0 0),(.slice none 0 0)]) 25),.e 1 (.al (.agg #[(.int .i64 0),(.int .i64 0),(.string (mk [])),(.slice none 0 0)]) 28)]) (.seq (.reg [.q 5 (.bd [(.int .i64 0),(.int .i64 0),(.string (mk [])),(.slice none 0 0)] [(0,1,(.i 1))]),.e 6 (.bsl 28 4 [(.t 5)]),.q 7 (.bd [(.int .i64 0),(.int .i64 0),(.string (mk [])),(.slice none 0 0)] [(0,1,(.i 5)),(1,1,(.i 2)),(3,1,(.t 6))]),.e 2 (.al (.agg #[(.int .i64 0),(.int .i64 0),(.string (mk [])),(.slice none 0 0)]) 28),.s (.st 4 (.t 2) (.t 7))]) (.seq (.reg [.q 8 (.bd [(.int .i64 0),(.int .i64 0),(.string (mk [])),(.slice none 0 0)] [(0,1,(.i 2)),(1,1,(.i 8))]),.q 9 (.bd [(.int .i64 0),(.string (mk [])),(.int .i64 0),(.int .i64 0),(.string (mk [])),(.slice none 0 0),(.bool false)] [(0,1,(.i 1)),(1,1,(.k (.string (mk [120])))),(2,4,(.t 8))]),.q 10 (.bd [(.int .i64 0),(.int .i64 0),(.string (mk [])),(.slice none 0 0)] [(0,1,(.i 4)),(1,1,(.i 5))]),.q 11 (.bd [(.int .i64 0),(.string (mk [])),(.int .i64 0),(.int .i64 0),(.string (mk [])),(.slice none 0 0),(.bool false)] [(0,1,(.i 2)),(1,1,(.k (.string (mk [110,97,109,101])))),(2,4,(.t 10)),(6,1,(.k (.bool true)))]),.q 12 (.bd [(.int .i64 0),(.int .i64 0),(.string (mk [])),(.slice none 0 0)] [(0,1,(.i 7)),(2,1,(.k (.string (mk [77,111,100,101]))))]),.q 13 (.bd [(.int .i64 0),(.string (mk [])),(.int .i64 0),(.int .i64 0),(.string (mk [])),(.slice none 0 0),(.bool false)] [(0,1,(.i 4)),(1,1,(.k (.string (mk [109,111,100,101])))),(2,4,(.t 12))]),.l 14 (.ldn 4 (.t 2)),.q 15 (.bd [(.int .i64 0),(.string (mk [])),(.int .i64 0),(.int .i64 0),(.string (mk [])),(.slice none 0 0),(.bool false)] [(0,1,(.i 5)),(1,1,(.k (.string (mk [108])))),(2,4,(.t 14))]),.e 16 (.bslx 97 7 [(.t 9),(.t 11),(.t 13),(.t 15)]),.v 3 16]) (.seq (.reg [.e 17 (.bsl 9 1 [(.k (.string (mk [105,100,108,101]))),(.k (.string (mk [114,117,110])))]),.e 18 (.bsl 3 1 [(.i 0),(.i 3)]),.q 19 (.bd [(.string (mk [])),(.slice none 0 0),(.slice none 0 0)] [(0,1,(.k (.string (mk [77,111,100,101])))),(1,1,(.t 17)),(2,1,(.t 18))]),.e 20 (.bslx 92 3 [(.t 19)]),.v 21 3,.q 22 (.bd [(.string (mk [])),(.slice none 0 0)] [(0,1,(.k (.string (mk [80,111,115,101])))),(1,1,(.t 21))]),.e 23 (.bslx 95 2 [(.t 22)]),.q 24 (.bd [(.int .i64 0),(.slice none 0 0),(.slice none 0 0)] [(0,1,(.i 1)),(1,1,(.t 20)),(2,1,(.t 23))]),.e 4 (.al (.agg #[(.int .i64 0),(.slice none 0 0),(.slice none 0 0)]) 25),.s (.st 3 (.t 4) (.t 24))]) (.seq (.reg [.l 25 (.ldn 3 (.t 4)),.q 26 (.bd [(.int .i64 0),(.int .i64 0),(.string (mk [])),(.slice none 0 0)] [(0,1,(.i 6)),(2,1,(.k (.string (mk [80,111,115,101]))))]),.s (.st 3 (.t 0) (.t 25)),.s (.st 4 (.t 1) (.t 26))]) .ret))))
def aCO:List RV:=[.ld (.ldn 3 (.t 0)),.ld (.ldn 4 (.t 1))]
theorem aM0:aN Tryz.prog true ⟨fun r k=>if r=2/\k=8 then .q else if r=3/\k=3 then .q else if r=3/\k=6 then .q else .own [],fun _=>false⟩ Tryz.f22=some (aEL,aCO):=by kernel_rfl
end Go.Proofs.YtkpohmhenegkiaaGreatDoor
namespace Go.Proofs.YtkpohmhenegkiaaGreatDoor
open Go.W
def kR (a b:Int × Int):Int × Int:=(IntKind.i64.wrap (a.1 + b.1),max a.2 b.2)
mutual
def fY:Vl->Int->Int × Int
  | .mk _ _ _ l f,lev=>bif decide (20 < lev) then (1,lev) else nM f (lev + 1) (nF l (lev + 1) (1,lev))
def nF:List Vl->Int->Int × Int->Int × Int
  | [],_,a=>a
  | v :: r,lev,a=>nF r lev (kR a (fY v lev))
def nM:List (Int × Vl)->Int->Int × Int->Int × Int
  | [],_,a=>a
  | (_,v) :: r,lev,a=>nM r lev (kR a (fY v lev))
end
theorem aA3 (v:Vl) (lev:Int):fY v lev=bif decide (20 < lev) then (1,lev) else nM v.f (lev + 1) (nF v.l (lev + 1) (1,lev)):=by cases v; rw [fY]; rfl
theorem SG (x:Int × Vl) (r:List (Int × Vl)) (lev:Int) (a:Int × Int):nM (x :: r) lev a=nM r lev (kR a (fY x.2 lev)):=by cases x; rw [nM]
mutual
theorem ZS:∀ (v:Vl) (lev:Int),lev<=(fY v lev).2
  | .mk k n s l f,lev=>by
    rw [fY]
    cases decide (20 < lev) with
    | true=>exact Int.le_refl _
    | false=>
      have h1:=s8 l (lev + 1) (1,lev)
      have h2:=s4 f (lev + 1) (nF l (lev + 1) (1,lev))
      rw [Bool.cond_false]
      simp only at h1
      omega
theorem s8:∀ (l:List Vl) (lev:Int) (a:Int × Int),a.2<=(nF l lev a).2
  | [],_,_=>by rw [nF]; exact Int.le_refl _
  | v :: r,lev,a=>by
    have h:=s8 r lev (kR a (fY v lev))
    rw [nF]
    unfold kR at h ⊢
    simp only at h
    omega
theorem s4:∀ (l:List (Int × Vl)) (lev:Int) (a:Int × Int),a.2<=(nM l lev a).2
  | [],_,_=>by rw [nM]; exact Int.le_refl _
  | (i,v) :: r,lev,a=>by
    have h:=s4 r lev (kR a (fY v lev))
    rw [nM]
    unfold kR at h ⊢
    simp only at h
    omega
end
mutual
theorem MY:∀ (v:Vl) (lev:Int),(fY v lev).2<=12->lev + v.h<=13
  | .mk k n s l f,lev,h=>by
    have h0:=ZS (.mk k n s l f) lev
    rw [fY] at h h0
    cases c:decide (20 < lev) with
    | true=>have:=of_decide_eq_true c; rw [c,Bool.cond_true] at h; simp only at h; omega
    | false=>
      rw [c,Bool.cond_false] at h h0
      have h1:=s8 l (lev + 1) (1,lev)
      have h2:=s4 f (lev + 1) (nF l (lev + 1) (1,lev))
      have h3:=WZ f (lev + 1) (nF l (lev + 1) (1,lev)) h
      have h4:=U1 l (lev + 1) (1,lev) (by omega)
      rw [Vl.h]
      simp only at h1
      omega
theorem U1:∀ (l:List Vl) (lev:Int) (a:Int × Int),(nF l lev a).2<=12->Vl.hl l=0\/lev + Vl.hl l<=13
  | [],_,_,_=>.inl (by rw [Vl.hl])
  | v :: r,lev,a,h=>by
    rw [nF] at h
    have h1:=s8 r lev (kR a (fY v lev))
    have h2:(fY v lev).2<=(kR a (fY v lev)).2:=by unfold kR; simp only; omega
    have h3:=MY v lev (by omega)
    have h4:=U1 r lev _ h
    rw [Vl.hl]
    omega
theorem WZ:∀ (l:List (Int × Vl)) (lev:Int) (a:Int × Int),(nM l lev a).2<=12->Vl.hf l=0\/lev + Vl.hf l<=13
  | [],_,_,_=>.inl (by rw [Vl.hf])
  | (i,v) :: r,lev,a,h=>by
    rw [nM] at h
    have h1:=s4 r lev (kR a (fY v lev))
    have h2:(fY v lev).2<=(kR a (fY v lev)).2:=by unfold kR; simp only; omega
    have h3:=MY v lev (by omega)
    have h4:=WZ r lev _ h
    rw [Vl.hf]
    omega
end
def aD1 (N:Nat):W.Spec:=fun av H K=>∃ (v:Vl) (lev:Int),av=[.va (.gs (aV v)),iS .i64 lev]/\H=[]/\VlOk v/\0<=lev/\lev<=21/\22<=lev + N/\K (.tu [iA .i64 (fY v lev).1,iA .i64 (fY v lev).2]) []
theorem FW {N:Nat} {v:Vl} {lev:Int} {K:S->Hp->Prop} (h1:VlOk v) (h2:0<=lev) (h3:lev<=21) (h4:22<=lev + N) (hK:K (.tu [iA .i64 (fY v lev).1,iA .i64 (fY v lev).2]) []) :
    aD1 N [.va (.gs [.vl (.int .i64 v.k),.vl (.int .i64 v.n),.vl (.string v.s),.fz (v.l.map aV),.fz (v.f.map aY)]),iS .i64 lev] [] K:=⟨v,lev,by rw [aI],rfl,h1,h2,h3,h4,hK⟩
theorem J6:∀ N,Meets Tryz.prog 21 (aD1 N)
  | 0=>⟨by kernel_rfl,by rintro xs vs E ro w K _ _ _ ⟨v,lev,_,_,_,h1,h2,h3,_⟩; omega⟩
  | N + 1=>by
    refine aF Tryz.func21 aOB 2 (by rw [Tryz.ntmps21]; decide) (aB (J6 N) (aA _)) (fun av H K h=>by obtain ⟨_,_,rfl,_⟩:=h; rfl) ?_
    rintro av H K ⟨v,lev,rfl,rfl,hv,h0,h21,hN,hK⟩
    have fin:∀ (x:Int × Int) (R:Hp),fY v lev=x->W.Fin 0 K (.tu [iA .i64 x.1,iA .i64 x.2]) R:=fun x R h=>by
      rw [h] at hK; exact .sel [] (by simp) (by simp) rfl (.done (by simpa [go_sem] using hK))
    clear hK
    rw [aA3] at fin
    have hll:=hv.ll
    have hlf:=hv.lf
    cases h1:decide (20 < lev) with
    | true=>
      rw [h1,Bool.cond_true] at fin
      simp (maxSteps:=1000000) -dsimp only [go_sem,aI v,RL,RB,h1]
      exact fin _ _ rfl
    | false=>
    have h20:=of_decide_eq_false h1
    rw [h1,Bool.cond_false] at fin
    have hw:IntKind.i64.wrap (lev + 1)=lev + 1:=A1 (by omega) (by omega)
    simp (maxSteps:=1000000) -dsimp only [go_sem,aI v,RL,RB,h1]
    refine aK (α:=Nat × (Int × Int)) (fun x=>[(1,iS .i64 lev),(2,.va (.c1 (.pt 0 0))),(6,iS .i64 x.2.1),(7,iS .i64 x.2.2),(8,iS .i64 x.1)]) (fun _=>[.cells [.vl (.int .i64 v.k),.vl (.int .i64 v.n),.vl (.string v.s),.fz (v.l.map aV),.fz (v.f.map aY)] 32])
      (fun x=>x.1<=v.l.length/\nF (v.l.drop x.1) (lev + 1) x.2=nF v.l (lev + 1) (1,lev)) (fun x=>v.l.length - x.1) (0,(1,lev)) 1 ⟨Nat.zero_le _,rfl⟩ ?_ ?_ ?_
    · simp -dsimp only [go_sem]<;>simp
    · simp -dsimp only [go_sem]<;>simp
    rintro ⟨i,a⟩ ⟨hi,ho⟩
    simp only at hi ho
    rcases Nat.lt_or_ge i v.l.length with hlt | hge
    · have hg:decide ((i:Int) < (v.l.length:Int))=true:=by simp; omega
      have hwi:IntKind.i64.wrap ((i:Int) + 1)=(i:Int) + 1:=A1 (by omega) (by omega)
      have hx:v.l[i]? = some v.l[i]:=List.getElem?_eq_getElem hlt
      have q2:=aO (row:=aV) hx
      rw [List.drop_eq_getElem_cons hlt,nF] at ho
      have hxo:=hv.l _ (List.getElem_mem hlt)
      generalize v.l[i]=x at *
      simp (maxSteps:=1000000) -dsimp only [go_sem,hg,↓q2,aI x,hw]
      refine ⟨by omega,FW hxo (by omega) (by omega) (by omega) ?_⟩
      simp (maxSteps:=1000000) -dsimp only [go_sem]
      refine aD rfl (.done ?_)
      simp (maxSteps:=1000000) -dsimp only [go_sem,IH,hwi]
      refine aC (i + 1,kR a (fY x (lev + 1))) 1 ⟨by simp only; omega,ho⟩ (by simp only; omega) ?_ ?_
      · simp -dsimp only [go_sem,kR]<;>simp
      · simp -dsimp only [go_sem]<;>simp
    · have hg:decide ((i:Int) < (v.l.length:Int))=false:=by simp; omega
      obtain rfl:i=v.l.length:=by omega
      rw [List.drop_length,nF] at ho
      rw [<-ho] at fin
      clear ho hi hge
      simp (maxSteps:=1000000) -dsimp only [go_sem,hg]
      clear hg
      refine aK (α:=Nat × (Int × Int)) (fun x=>[(1,iS .i64 lev),(2,.va (.c1 (.pt 0 0))),(6,iS .i64 x.2.1),(7,iS .i64 x.2.2),(11,iS .i64 x.1)]) (fun _=>[.cells [.vl (.int .i64 v.k),.vl (.int .i64 v.n),.vl (.string v.s),.fz (v.l.map aV),.fz (v.f.map aY)] 32])
        (fun x=>x.1<=v.f.length/\nM (v.f.drop x.1) (lev + 1) x.2=nM v.f (lev + 1) a) (fun x=>v.f.length - x.1) (0,a) 1 ⟨Nat.zero_le _,rfl⟩ ?_ ?_ ?_
      · simp -dsimp only [go_sem]<;>simp
      · simp -dsimp only [go_sem]<;>simp
      rintro ⟨i,b⟩ ⟨hi,ho⟩
      simp only at hi ho
      rcases Nat.lt_or_ge i v.f.length with hlt | hge
      · have hg:decide ((i:Int) < (v.f.length:Int))=true:=by simp; omega
        have hwi:IntKind.i64.wrap ((i:Int) + 1)=(i:Int) + 1:=A1 (by omega) (by omega)
        have hx:v.f[i]? = some v.f[i]:=List.getElem?_eq_getElem hlt
        have q2:=kN hx
        rw [List.drop_eq_getElem_cons hlt,SG] at ho
        have hxo:=hv.f _ (List.getElem_mem hlt)
        generalize v.f[i]=x at *
        simp (maxSteps:=1000000) -dsimp only [go_sem,hg,↓q2,hw]
        refine ⟨by omega,FW hxo (by omega) (by omega) (by omega) ?_⟩
        simp (maxSteps:=1000000) -dsimp only [go_sem]
        refine aD rfl (.done ?_)
        simp (maxSteps:=1000000) -dsimp only [go_sem,A5,hwi]
        refine aC (i + 1,kR b (fY x.2 (lev + 1))) 1 ⟨by simp only; omega,ho⟩ (by simp only; omega) ?_ ?_
        · simp -dsimp only [go_sem,kR]<;>simp
        · simp -dsimp only [go_sem]<;>simp
      · have hg:decide ((i:Int) < (v.f.length:Int))=false:=by simp; omega
        obtain rfl:i=v.f.length:=by omega
        rw [List.drop_length,nM] at ho
        rw [<-ho] at fin
        simp (maxSteps:=1000000) -dsimp only [go_sem,hg]
        exact fin _ _ rfl
def B5 (v:Vl):Bool:=decide ((fY v 0).1<=500) && decide ((fY v 0).2<=12)
theorem aF7 {v:Vl} (h:B5 v=true):v.h<=13:=by
  unfold B5 at h
  rw [Bool.and_eq_true] at h
  have:=MY v 0 (of_decide_eq_true h.2)
  omega
noncomputable def liFn:Fun:=rZ qJ C.vv fun v=>.bool (B5 v)
attribute [go_sem] liFn
theorem aER:Meets Tryz.prog 9 liFn.sp:=by
  refine aF Tryz.func9 ok9 1 (by rw [Tryz.ntmps9]; decide) (aB (J6 22) (aA _)) oT ?_
  rintro av H K ⟨⟨h,rfl⟩,hK⟩
  obtain ⟨_,rfl,v,rfl,hv⟩:=f7 h
  have hK:K (bS (B5 v)) []:=by
    have:liFn.val [.va (.gs (aV v))]=bA (B5 v):=by simp -dsimp only [go_sem]
    rw [this] at hK; exact hK
  clear h
  have fin:∀ (b:Bool) (R:Hp),B5 v=b->W.Fin 0 K (bS b) R:=fun b R h=>by
    rw [h] at hK; exact .sel [] (by simp) (by simp) rfl (.done (by simpa [go_sem] using hK))
  clear hK
  unfold B5 at fin
  simp (maxSteps:=1000000) -dsimp only [go_sem,aI v,pc9,rs9]
  refine FW hv (by decide) (by decide) (by decide) ?_
  generalize fY v 0=r at *
  simp (maxSteps:=1000000) -dsimp only [go_sem]
  refine aD rfl (.done ?_)
  cases h1:decide (r.1<=500)<;>cases h2:decide (r.2<=12)<;>rw [h1,h2] at fin <;>
  · simp (maxSteps:=1000000) -dsimp only [go_sem,LK,h1,h2]
    exact fin _ _ rfl
def zG (s:Sc) (t:Ty):Bool:=kB s && fewT t && eX s == 0
def D8:List S->Prop:=fun av=>match av with
  | [.va (.gs r),.va (.gs q)]=>pX r/\eK q
  | _=>False
theorem pV {av:List S} (h:D8 av):∃ s t,av=[.va (.gs (aE s)),.va (.gs (aM t))]/\s.ok/\TyOk t:=by
  unfold D8 at h
  split at h
  · obtain ⟨⟨s,rfl,h1⟩,⟨t,rfl,h2⟩⟩:=h; exact ⟨s,t,rfl,h1,h2⟩
  · exact h.elim
noncomputable def WU:List S->A:=fun av=>match av with
  | [.va (.gs r),.va (.gs q)]=>bA (zG (C.sc r) (C.ty q))
  | _=>.gs []
noncomputable def feFn:Fun:=⟨D8,WU,fun av h=>by obtain ⟨_,_,rfl,_⟩:=pV h; trivial⟩
attribute [go_sem] feFn D8 WU
theorem JS {s:Sc} (h:s.ok):pX [.vl (.int .i64 s.ver),.fz (s.es.map aX),.fz (s.ss.map aL)]:=J3 h
theorem aFD:Meets Tryz.prog 8 feFn.sp:=by
  refine aF Tryz.func8 ok8 2 (by rw [Tryz.ntmps8]; decide) (aG aNS (aG FK (aG ZR (aA _)))) (fun av H K h=>by obtain ⟨_,_,rfl,_⟩:=pV h.1.1; rfl) ?_
  rintro av H K ⟨⟨h,rfl⟩,hK⟩
  obtain ⟨s,t,rfl,hs,ht⟩:=pV h
  have hK:K (bS (zG s t)) []:=by
    have:feFn.val [.va (.gs (aE s)),.va (.gs (aM t))]=bA (zG s t):=by
      show bA (zG (C.sc (aE s)) (C.ty (aM t)))=_
      rw [dW,eH]
    rw [this] at hK; exact hK
  clear h
  have fin:∀ (b:Bool) (R:Hp),zG s t=b->W.Fin 0 K (bS b) R:=fun b R h=>by
    rw [h] at hK; exact .sel [] (by simp) (by simp) rfl (.done (by simpa [go_sem] using hK))
  clear hK
  unfold zG at fin
  have k4:=cL ht
  have k5:=fN t
  have k6:=JS hs
  have k7:=hM s
  cases h1:kB s with
  | false=>
    rw [h1,Bool.false_and,Bool.false_and] at fin
    simp (maxSteps:=1000000) -dsimp only [go_sem,aE,aH t,VE,XS,k4,k5,k6,k7,h1]
    exact fin _ _ rfl
  | true=>
  have k8:=dV (B4 hs h1)
  cases h2:fewT t with
  | false=>
    rw [h1,h2,Bool.and_false,Bool.false_and] at fin
    simp (maxSteps:=1000000) -dsimp only [go_sem,aE,aH t,VE,XS,f0Fn,k4,k5,k6,k7,k8,h1,h2]
    exact fin _ _ rfl
  | true=>
    rw [h1,h2,Bool.and_true,Bool.true_and] at fin
    cases h3:eX s == 0<;>rw [h3] at fin <;>
    · simp (maxSteps:=1000000) -dsimp only [go_sem,aE,aH t,VE,XS,f0Fn,k4,k5,k6,k7,k8,h1,h2,h3]
      exact fin _ _ rfl
theorem YU {s:Sc} {t:Ty} (hs:s.ok) (h:zG s t=true):s.fit/\Nice s:=by
  unfold zG at h
  rw [Bool.and_eq_true,Bool.and_eq_true] at h
  exact ⟨B4 hs h.1.1,ZC (eq_of_beq h.2)⟩
end Go.Proofs.YtkpohmhenegkiaaGreatDoor
namespace Go.Proofs.YtkpohmhenegkiaaGreatDoor
open Go.W
theorem rT:∀ (m:Nat) (r:List UInt8) (i:Nat) (out:List UInt8) (z:Nat) (o:List UInt8),r.length<=m->out.all gB=true->quoL i r out=(z,some o)->o.all gB=true
  | _,[],i,out,z,o,_,_,h=>by rw [qE] at h; cases h
  | 0,c :: r,i,out,z,o,hm,_,_=>by simp at hm
  | m + 1,c :: r,i,out,z,o,hm,ho,h=>by
    rw [lA] at h
    have app:∀ d:UInt8,gB d=true->(out ++ [d]).all gB=true:=fun d hd=>by rw [List.all_append,ho]; simp [hd]
    cases c1:decide (c < 32) || decide (126 < c) with
    | true=>rw [c1] at h; cases h
    | false=>
    rw [c1,Bool.cond_false] at h
    have hp:gB c=true:=by
      unfold gB
      simp only [Bool.or_eq_false_iff,decide_eq_false_iff_not,UInt8.not_lt] at c1
      simp [c1.1,c1.2]
    cases c2:c == 34 with
    | true=>
      rw [c2] at h
      simp only [Bool.cond_true,Prod.mk.injEq,Option.some.injEq] at h
      rw [<-h.2]; exact ho
    | false=>
    rw [c2,Bool.cond_false] at h
    cases c3:c == 92 with
    | false=>
      rw [c3,Bool.cond_false] at h
      exact rT m r _ _ z o (by simp at hm; omega) (app c hp) h
    | true=>
      rw [c3,Bool.cond_true] at h
      cases r with
      | nil=>cases h
      | cons d r=>
        simp only at h
        cases c4:d == 34 || d == 92 with
        | false=>rw [c4] at h; cases h
        | true=>
          rw [c4,Bool.cond_true] at h
          refine rT m r _ _ z o (by simp at hm; omega) (app d ?_) h
          rw [Bool.or_eq_true] at c4
          rcases c4 with e | e<;>rw [eq_of_beq e]<;>decide
structure Gtk (k:Int) (x:List UInt8) (n:Int):Prop where
  e:k=0->x=[]/\n=0
  o:k ≠ 0->m3 k x n=true
  i:bJ n
theorem N8 {l:List UInt8} {p:Nat} {k n:Int} {x:List UInt8} {z:Nat} (h:iV l p=.ok k x n z):Gtk k x n:=by
  have z0:bJ 0:=⟨by decide,by decide⟩
  unfold iV at h
  split at h
  · simp only [R.ok.injEq] at h
    obtain ⟨rfl,rfl,rfl,_⟩:=h
    exact ⟨fun _=>⟨rfl,rfl⟩,fun h=>absurd rfl h,z0⟩
  · rename_i c hc
    cases c1:a8 c.toNat with
    | true=>
      rw [c1,Bool.cond_true] at h
      unfold jM at h
      simp only at h
      cases d1:decide (16 < bL aW l p - p) with
      | true=>rw [d1] at h; cases h
      | false=>
        rw [d1,Bool.cond_false] at h
        cases d2:l[bL aW l p]? == some 45 with
        | true=>rw [d2] at h; cases h
        | false=>
          rw [d2,Bool.cond_false] at h
          simp only [R.ok.injEq] at h
          obtain ⟨rfl,rfl,rfl,rfl⟩:=h
          refine ⟨fun h=>absurd h (by decide),fun _=>?_,z0⟩
          have hx:cH ((l.take (bL aW l p)).drop p)=true:=by
            have hlt:=(List.getElem?_eq_some_iff.1 hc).1
            have hw:aW c=true:=by
              have:=cP (p:=fun c=>!a8 c.toNat || aW c) (by decide +kernel) c
              rw [c1] at this; exact this
            have hg:p + 1<=bL aW l p:=by rw [<-lB hc hw]; exact BU
            refine (Q2 _).2 ⟨c,?_,?_,c1,fun d hd=>u6 d hd⟩
            · rw [List.getElem?_drop,Nat.add_zero,List.getElem?_take_of_lt (by omega),hc]
            · have:=of_decide_eq_false d1
              simp only [List.length_drop,List.length_take]; omega
          show ((0:Int) == 0 && cH _)=true
          rw [hx]; rfl
    | false=>
    rw [c1,Bool.cond_false] at h
    cases c2:bK c || c == 45 with
    | true=>
      rw [c2,Bool.cond_true] at h
      unfold lQ at h
      simp only at h
      have hd:∀ d ∈ (l.take (bL bK l (bif l[p]? == some 45 then p + 1 else p))).drop (bif l[p]? == some 45 then p + 1 else p),bK d=true:=fun d hd=>u6 d hd
      generalize (l.take (bL bK l (bif l[p]? == some 45 then p + 1 else p))).drop (bif l[p]? == some 45 then p + 1 else p)=s at *
      generalize (l[p]? == some 45)=neg at *
      cases d1:s == [] || (s[0]? == some 48 && (decide (1 < s.length) || neg)) with
      | true=>rw [d1] at h; cases h
      | false=>
      rw [d1,Bool.cond_false] at h
      cases hv:gY (dU neg) 0 s with
      | none=>rw [hv] at h; cases h
      | some m=>
      rw [hv] at h
      simp only at h
      have hm:=KR (lim:=dU neg) (by cases neg<;>decide) (Nat.zero_le _) hd hv
      cases d2:vU l (bL bK l (bif neg then p + 1 else p)) with
      | true=>rw [d2] at h; cases h
      | false=>
        rw [d2,Bool.cond_false] at h
        simp only [R.ok.injEq] at h
        obtain ⟨rfl,rfl,rfl,rfl⟩:=h
        refine ⟨fun h=>absurd h (by decide),fun _=>rfl,?_⟩
        cases neg with
        | true=>have hm:m<=9223372036854775808:=hm; show bJ (-(m:Int)); unfold bJ; omega
        | false=>have hm:m<=9223372036854775807:=hm; show bJ (m:Int); unfold bJ; omega
    | false=>
    rw [c2,Bool.cond_false] at h
    cases c3:c == 34 with
    | true=>
      rw [c3,Bool.cond_true] at h
      unfold iQ at h
      split at h
      · cases h
      · rename_i z' o ho
        cases d1:decide (200 < o.length) with
        | true=>rw [d1] at h; cases h
        | false=>
          rw [d1,Bool.cond_false] at h
          simp only [R.ok.injEq] at h
          obtain ⟨rfl,rfl,rfl,rfl⟩:=h
          refine ⟨fun h=>absurd h (by decide),fun _=>?_,z0⟩
          have h1:=rT _ _ _ [] _ _ (Nat.le_refl _) rfl ho
          have h2:decide (o.length<=200)=true:=by have:=of_decide_eq_false d1; simp; omega
          show ((0:Int) == 0 && (decide (o.length<=200) && o.all gB))=true
          rw [h1,h2]; rfl
    | false=>
    rw [c3,Bool.cond_false] at h
    cases c4:fZ c.toNat with
    | false=>rw [c4] at h; cases h
    | true=>
      rw [c4,Bool.cond_true] at h
      simp only [R.ok.injEq] at h
      obtain ⟨rfl,rfl,rfl,rfl⟩:=h
      refine ⟨fun h=>absurd h (by decide),fun _=>?_,z0⟩
      show ((0:Int) == 0 && fZ c.toNat)=true
      rw [c4]; rfl
theorem zV {l:List UInt8}:∀ (f a:Nat) (ts:List Tk),fV f l a=.ok ts->∀ t ∈ ts,Gtk t.k t.x t.n
  | 0,a,ts,h=>by cases h; intro t ht; cases ht
  | f + 1,a,ts,h=>by
    rw [fV] at h
    split at h
    · cases h
    · rename_i k x n z hR
      have hg:=N8 hR
      cases hk:k == 0 with
      | true=>
        rw [hk] at h
        simp only [Bool.cond_true,SR.ok.injEq] at h
        subst h
        intro t ht
        rw [List.mem_singleton.1 ht]; exact hg
      | false=>
        rw [hk] at h
        cases hr:fV f l z with
        | bad e t=>rw [hr] at h; cases h
        | ok us=>
          rw [hr] at h
          simp only [Bool.cond_false,SR.cons,SR.ok.injEq] at h
          subst h
          intro t ht
          rcases List.mem_cons.1 ht with rfl | ht
          · exact hg
          · exact zV f z us hr t ht
theorem L6 (l:List UInt8):∀ t ∈ (a7 l).toks,Gtk t.k t.x t.n:=by
  unfold a7
  cases h:decide (4000 < l.length) with
  | true=>intro t ht; cases ht
  | false=>
    rw [Bool.cond_false]
    cases hr:fV (l.length + 1) l 0 with
    | bad e t=>intro t ht; cases ht
    | ok ts=>exact zV _ _ _ hr
theorem ZG {k:Int} {x:List UInt8} {n:Int} (h:m3 k x n=true):x.length<=200:=by
  unfold m3 at h
  cases c1:k == 1 with
  | true=>rw [c1,Bool.cond_true,Bool.and_eq_true] at h; have:=uU h.2; omega
  | false=>
  rw [c1,Bool.cond_false] at h
  cases c2:k == 2 with
  | true=>rw [c2,Bool.cond_true] at h; rw [eq_of_beq h]; exact Nat.zero_le _
  | false=>
  rw [c2,Bool.cond_false] at h
  cases c3:k == 3 with
  | true=>rw [c3,Bool.cond_true,Bool.and_eq_true,Bool.and_eq_true] at h; exact of_decide_eq_true h.2.1
  | false=>
  rw [c3,Bool.cond_false] at h
  cases c4:k == 4 with
  | false=>rw [c4] at h; cases h
  | true=>
    rw [c4,Bool.cond_true,Bool.and_eq_true] at h
    match x,h with
    | [],_=>exact Nat.zero_le _
    | [_],_=>exact (by decide:1<=200)
    | _ :: _ :: _,h=>exact absurd h.2 (by simp)
theorem Gtk.len {k:Int} {x:List UInt8} {n:Int} (h:Gtk k x n):x.length<=200:=by
  by_cases hk:k=0
  · rw [(h.e hk).1]; exact Nat.zero_le _
  · exact ZG (h.o hk)
theorem OD {l:List UInt8} {ts:List Tk} (h:rQ l 0 ts) (hl:l.length<=4000):Ends ts:=
  ⟨KU h,by have:=FM h; omega,fun i t ht=>(KF h ht).2.2.2.1⟩
theorem PU {l:List UInt8}:∀ {a:Nat} {ts:List Tk},rQ l a ts->∀ t ∈ ts,t.a<=l.length
  | _,[],_=>fun t ht=>by cases ht
  | _,t :: ts,⟨_,h2,z,_,h4,h5⟩=>fun u hu=>by
    rcases List.mem_cons.1 hu with rfl | hu
    · exact h2
    · by_cases h0:t.k=0
      · rw [h4 h0] at hu; cases hu
      · exact PU (h5 h0) u hu
theorem aAS {l:List UInt8} (h:(a7 l).err=0):Tks (a7 l).toks:=by
  rcases MW l with ⟨h1,_⟩ | ⟨_,_,h3,h4⟩
  · exact absurd h h1
  · have hg:=L6 l
    exact ⟨OD h4 h3,fun t ht=>(hg t ht).i,fun t ht=>by have:=(hg t ht).len; omega,fun t ht=>by have:=PU h4 t ht; omega⟩
end Go.Proofs.YtkpohmhenegkiaaGreatDoor
namespace Go.Proofs.YtkpohmhenegkiaaGreatDoor
open Go.W
def aLI:Ty:=.mk 2 8 (mk []) []
def xTx:Ty:=.mk 4 5 (mk []) []
def xMo:Ty:=.mk 7 0 (mk [77,111,100,101]) []
def xBo:Ty:=.mk 1 0 (mk []) []
def xLi:Ty:=.mk 5 2 (mk []) [xBo]
def xF1:Fl:=⟨1,mk [120],aLI,false⟩
def xF2:Fl:=⟨2,mk [110,97,109,101],xTx,true⟩
def xF4:Fl:=⟨4,mk [109,111,100,101],xMo,false⟩
def xF5:Fl:=⟨5,mk [108],xLi,false⟩
def WM:St:=⟨mk [80,111,115,101],[xF1,xF2,xF4,xF5]⟩
def xEn:En:=⟨mk [77,111,100,101],[mk [105,100,108,101],mk [114,117,110]],[0,3]⟩
def xS:Sc:=⟨1,[xEn],[WM]⟩
def xT:Ty:=.mk 6 0 (mk [80,111,115,101]) []
def xSp:W.Spec:=fun av H K=>av=[]/\H=[]/\K (.tu [.gs (aE xS),.gs (aM xT)]) []
theorem M8:Meets Tryz.prog 22 xSp:=by
  refine aF Tryz.func22 aM0 0 (by rw [Tryz.ntmps22]; decide) (aA _) (fun av H K h=>by obtain ⟨rfl,_⟩:=h; rfl) ?_
  rintro av H K ⟨rfl,rfl,hK⟩
  simp (maxSteps:=1000000) -dsimp only [go_sem,aEL,aCO]
  refine .opn 2 _ _ _ rfl (.nfr 2 _ _ _ rfl (.shu 2 _ _ _ rfl ?_ (.pub 2 _ _ _ rfl ?_)))
  · simp [C.nf,C.shut]
  simp -dsimp only [go_sem,cF,C.nf,C.pub]
  refine .nfr 4 _ _ _ rfl (.shu 4 _ _ _ rfl ?_ (.pub 4 _ _ _ rfl ?_))
  · simp [C.nf,C.shut]
  simp -dsimp only [go_sem,cF,C.nf,C.pub]
  refine .pub 5 _ _ _ rfl (.pub 6 _ _ _ rfl ?_)
  simp -dsimp only [go_sem,cF,C.pub]
  refine .shu 7 _ _ _ rfl ?_ (.pub 7 _ _ _ rfl ?_)
  · simp [C.shut]
  simp -dsimp only [go_sem,cF,C.pub]
  refine .shu 8 _ _ _ rfl ?_ (.pub 8 _ _ _ rfl ?_)
  · simp [C.shut]
  simp -dsimp only [go_sem,cF,C.pub]
  refine .sel [] (by simp) (by simp) rfl (.done ?_)
  simp -dsimp only [go_sem]
  exact hK
end Go.Proofs.YtkpohmhenegkiaaGreatDoor
namespace Go.Proofs.YtkpohmhenegkiaaGreatDoor
open Go.W
def x1:List UInt8:=[123,120,32,61,32,45,53,44,32,109,111,100,101,32,61,32,114,117,110,44,32,108,32,61,32,91,116,114,117,101,44,32,102,97,108,115,101,93,125]
def x2:List UInt8:=[123,120,32,61,32,50,48,48,44,32,109,111,100,101,32,61,32,114,117,110,44,32,108,32,61,32,91,93,125]
def x3:List UInt8:=[123,109,111,100,101,32,61,32,114,117,110,44,32,120,32,61,32,49,125]
def x4:List UInt8:=[123,120,32,61,32,49,44,32,109,111,100,101,32,61,32,115,116,111,112,44,32,108,32,61,32,91,93,125]
def lE (k n:Int):Vl:=.mk k n (mk []) [] []
def xL:Vl:=.mk 5 0 (mk []) [lE 1 1,lE 1 0] []
def xV:Vl:=.mk 6 0 (mk []) [] [(1,lE 2 (-5)),(4,lE 7 3),(5,xL)]
theorem e1:kC (pP 10) xS xT x1=(xV,0,0):=by kernel_rfl
theorem e2:kC (pP 10) xS xT x2=(v0,4,0):=by kernel_rfl
theorem e3:kC (pP 10) xS xT x3=(v0,2,13):=by kernel_rfl
theorem e4:kC (pP 10) xS xT x4=(v0,2,15):=by kernel_rfl
theorem e0:dQ xS xT xV=0:=by kernel_rfl
theorem e5:vB (fP 10) xS xT xV=x1:=by kernel_rfl
theorem IM (k s:Int) (n:ByteArray) (h1:bJ k) (h2:bJ s) (h3:n.size<=9223372036854775807):TyOk (.mk k s n []):=.mk h1 h2 h3 (Nat.zero_le _) (fun t h=>by cases h)
theorem TT:TyOk xT:=IM _ _ _ ⟨by decide,by decide⟩ ⟨by decide,by decide⟩ (by decide)
theorem aD8:TyOk xLi:=.mk ⟨by decide,by decide⟩ ⟨by decide,by decide⟩ (by decide) (by decide) fun t ht=>by
  rw [List.mem_singleton.1 ht]; exact IM _ _ _ ⟨by decide,by decide⟩ ⟨by decide,by decide⟩ (by decide)
theorem aGY:xS.ok:=by
  refine ⟨⟨by decide,by decide⟩,by decide,by decide,fun e he=>?_,fun u hu=>?_⟩
  · rw [List.mem_singleton.1 he]
    refine ⟨by decide,by decide,by decide,fun n hn=>?_,fun n hn=>?_⟩
    · have:n=mk [105,100,108,101]\/n=mk [114,117,110]:=by simpa [xEn] using hn
      rcases this with rfl | rfl<;>decide
    · have:n=0\/n=3:=by simpa [xEn] using hn
      rcases this with rfl | rfl<;>exact ⟨by decide,by decide⟩
  · rw [List.mem_singleton.1 hu]
    refine ⟨by decide,by decide,fun f hf=>?_⟩
    have:f=xF1\/f=xF2\/f=xF4\/f=xF5:=by simpa [WM] using hf
    rcases this with rfl | rfl | rfl | rfl
    · exact ⟨⟨by decide,by decide⟩,by decide,IM _ _ _ ⟨by decide,by decide⟩ ⟨by decide,by decide⟩ (by decide)⟩
    · exact ⟨⟨by decide,by decide⟩,by decide,IM _ _ _ ⟨by decide,by decide⟩ ⟨by decide,by decide⟩ (by decide)⟩
    · exact ⟨⟨by decide,by decide⟩,by decide,IM _ _ _ ⟨by decide,by decide⟩ ⟨by decide,by decide⟩ (by decide)⟩
    · exact ⟨⟨by decide,by decide⟩,by decide,aD8⟩
theorem aB8:kB xS=true:=by kernel_rfl
theorem OS:xS.fit:=B4 aGY aB8
theorem tV {N:Nat} {s:Sc} {t:Ty} (h5:(t.k == 5)=false) (h6:(t.k == 6)=false):dP (N + 1) s t:=⟨fun h=>(by rw [h5] at h; cases h),fun h=>(by rw [h6] at h; cases h)⟩
theorem NV:stOf xS xT=WM:=by kernel_rfl
theorem xD:dP 10 xS xT:=by
  refine ⟨fun h=>(nomatch h),fun _ f hf=>?_⟩
  rw [NV] at hf
  have:f=xF1\/f=xF2\/f=xF4\/f=xF5:=by simpa [WM] using hf
  rcases this with rfl | rfl | rfl | rfl
  · exact tV rfl rfl
  · exact tV rfl rfl
  · exact tV rfl rfl
  · exact ⟨fun _=>⟨xBo,rfl,IM _ _ _ ⟨by decide,by decide⟩ ⟨by decide,by decide⟩ (by decide),tV rfl rfl⟩,fun h=>(nomatch h)⟩
theorem xDF:dF 10 xS xT xV:=by
  have hl:∀ N t v,(fP N xS t v).1.length<=1000->(t.k == 5)=false->(t.k == 6)=false->bl v.s=[]->N=N - 1 + 1->dF N xS t v:=fun N t v h1 h2 h3 h4 h5=>by
    rw [h5] at h1 ⊢
    refine ⟨fun _=>by rw [h4]; decide,fun h=>?_,fun h=>?_,Nat.le_trans h1 (by decide)⟩
    · rw [h2] at h; cases h
    · rw [h3] at h; cases h
  refine ⟨fun h=>(nomatch h),fun h=>(nomatch h),fun _ x hx=>?_,by decide +kernel⟩
  have:x=(1,lE 2 (-5))\/x=(4,lE 7 3)\/x=(5,xL):=by simpa [xV,Vl.f] using hx
  rw [NV]
  rcases this with rfl | rfl | rfl
  · exact hl _ _ _ (by decide +kernel) rfl rfl rfl rfl
  · exact hl _ _ _ (by decide +kernel) rfl rfl rfl rfl
  · refine ⟨fun h=>(nomatch h),fun _=>⟨xBo,rfl,IM _ _ _ ⟨by decide,by decide⟩ ⟨by decide,by decide⟩ (by decide),fun y hy=>?_⟩,fun h=>(nomatch h),by decide +kernel⟩
    have:y=lE 1 1\/y=lE 1 0:=by simpa [xL,Vl.l] using hy
    rcases this with rfl | rfl
    · exact hl _ _ _ (by decide +kernel) rfl rfl rfl rfl
    · exact hl _ _ _ (by decide +kernel) rfl rfl rfl rfl
noncomputable def FP (N:Nat):Fun:=cQ (fun s t v=>dQ s t v=0->dF N s t v) fun s t v=>.string (mk (vB (fP N) s t v))
theorem FY (N:Nat):Meets Tryz.prog 11 (FP N).sp:=eM (0:Nat) (fun (_:Nat)=>Y6 (aAJ N)) fun av H K h=>by
  obtain ⟨s,t,v,rfl,rfl,hs,ht,hv,hp,hK⟩:=dH h
  exact ⟨0,s,t,v,rfl,rfl,hs,ht,hv,hp,hK⟩
theorem ZV (N:Nat):Meets Tryz.prog 13 (BO (dP N) (pP N)):=aEX (WC N) (AP N) fun _s _ts t z hs hts ht hD hn=>MI hs hts N t z ht hD hn
theorem aCW {N:Nat} {s:Sc} {t:Ty} {x:ByteArray} {K:S->Hp->Prop} (hs:s.fit) (ht:TyOk t) (hD:HK s t=true->dP N s t) (hK:K (.tu [.gs (aV (kC (pP N) s t (bl x)).1),iA .i64 (kC (pP N) s t (bl x)).2.1,iA .i64 (kC (pP N) s t (bl x)).2.2]) []) :
    BO (dP N) (pP N) [.va (.gs [.vl (.int .i64 s.ver),.fz (s.es.map aX),.fz (s.ss.map aL)]),.va (.gs [.vl (.int .i64 t.k),.vl (.int .i64 t.s),.vl (.string t.n),.fz (t.e.map aM)]),tS x] [] K:=
  ⟨s,t,x,by rw [aH]; rfl,rfl,hs,ht,hD,aAS,hK⟩
theorem LR {x:List UInt8} {v:Vl} {e a:Int} {K:S->Hp->Prop} (h:kC (pP 10) xS xT x=(v,e,a)) (hK:K (.tu [.gs (aV v),iA .i64 e,iA .i64 a]) []) :
    BO (dP 10) (pP 10) [.va (.gs [.vl (.int .i64 xS.ver),.fz (xS.es.map aX),.fz (xS.ss.map aL)]),.va (.gs [.vl (.int .i64 xT.k),.vl (.int .i64 xT.s),.vl (.string xT.n),.fz (xT.e.map aM)]),tS (mk x)] [] K:=
  aCW OS TT (fun _=>xD) (by rw [M3,h]; exact hK)
noncomputable def W2:bY:=[(22,.s xSp),(13,.s (BO (dP 10) (pP 10))),(11,.f (FP 10))]
theorem aCU:sp W2 22=xSp:=rfl
theorem z6:sp W2 13=BO (dP 10) (pP 10):=rfl
theorem Z3:eV W2 11=some (FP 10):=rfl
theorem SY:Meets Tryz.prog 10 qTrue.sp:=by
  refine aF (Γ:=W2) Tryz.func10 aNM 0 (by rw [Tryz.ntmps10]; decide) (aB M8 (aB (ZV 10) (aG (FY 10) (aA _)))) N3 ?_
  rintro av H K ⟨⟨h,rfl⟩,hK⟩
  obtain rfl:av=[]:=h
  have hK:K (bS true) []:=hK
  have fin:∀ R:Hp,W.Fin 0 K (bS true) R:=fun R=>.sel [] (by simp) (by simp) rfl (.done (by simpa [go_sem] using hK))
  clear hK
  have k1:=cE (show VlOk xV from by
    have hf:∀ k n:Int,bJ k->bJ n->VlOk (lE k n):=fun k n h1 h2=>wF h1 h2 (by decide)
    refine .mk ⟨by decide,by decide⟩ ⟨by decide,by decide⟩ (by decide) (by decide) (by decide) (fun x h=>by cases h) (fun x hx=>?_) (fun x hx=>?_)
    · have:x=(1,lE 2 (-5))\/x=(4,lE 7 3)\/x=(5,xL):=by simpa using hx
      rcases this with rfl | rfl | rfl<;>exact ⟨by decide,by decide⟩
    · have:x=(1,lE 2 (-5))\/x=(4,lE 7 3)\/x=(5,xL):=by simpa using hx
      rcases this with rfl | rfl | rfl
      · exact hf _ _ ⟨by decide,by decide⟩ ⟨by decide,by decide⟩
      · exact hf _ _ ⟨by decide,by decide⟩ ⟨by decide,by decide⟩
      · refine .mk ⟨by decide,by decide⟩ ⟨by decide,by decide⟩ (by decide) (by decide) (by decide) (fun y hy=>?_) (fun x h=>by cases h) (fun x h=>by cases h)
        have:y=lE 1 1\/y=lE 1 0:=by simpa using hy
        rcases this with rfl | rfl<;>exact hf _ _ ⟨by decide,by decide⟩ ⟨by decide,by decide⟩)
  have k2:=eR xV
  have k4:=cL TT
  have k5:=fN xT
  have k6:=dV OS
  have k7:=hM xS
  have k8:(dQ xS xT xV=0->dF 10 xS xT xV)=True:=eq_true fun _=>xDF
  have g0:(x1 == [123,120,32,61,32,45,53,44,32,109,111,100,101,32,61,32,114,117,110,44,32,108,32,61,32,91,116,114,117,101,44,32,102,97,108,115,101,93,125])=true:=by decide +kernel
  have g1:((xV.f.length:Int) == 3)=true:=rfl
  have q1:=fun p=>HC (l:=xV.f) (n:=1) (x:=(4,lE 7 3)) rfl p
  have g2:((4:Int) == 4)=true:=rfl
  have g3:((3:Int) == 3)=true:=rfl
  have g4:((0:Int) == 0)=true:=rfl
  have g5:((2:Int) == 2)=true:=rfl
  have g6:((13:Int) == 13)=true:=rfl
  have g7:((15:Int) == 15)=true:=rfl
  have g8:(1:Int) < (xV.f.length:Int):=by decide
  have g9:(lE 7 3).n=3:=rfl
  simp (maxSteps:=1000000) -dsimp only [go_sem,aBT,aDI,aCU]
  refine ⟨rfl,rfl,?_⟩
  simp (maxSteps:=1000000) -dsimp only [go_sem,aE,aH xT]
  refine aD rfl (.done ?_)
  simp (maxSteps:=1000000) -dsimp only [go_sem,IE]
  refine aD rfl (.done ?_)
  simp (maxSteps:=1000000) -dsimp only [go_sem,H3,z6]
  refine LR e1 ?_
  simp (maxSteps:=1000000) -dsimp only [go_sem,aI xV]
  refine aD rfl (.done ?_)
  simp (maxSteps:=1000000) -dsimp only [go_sem,IX,z6]
  refine LR e2 ?_
  simp (maxSteps:=1000000) -dsimp only [go_sem,aI v0]
  refine aD rfl (.done ?_)
  simp (maxSteps:=1000000) -dsimp only [go_sem,F1,z6]
  refine LR e3 ?_
  simp (maxSteps:=1000000) -dsimp only [go_sem,aI v0]
  refine aD rfl (.done ?_)
  simp (maxSteps:=1000000) -dsimp only [go_sem,HV,z6]
  refine LR e4 ?_
  simp (maxSteps:=1000000) -dsimp only [go_sem,aI v0]
  refine aD rfl (.done ?_)
  simp (maxSteps:=1000000) -dsimp only [go_sem,GH,Z3,FP,k1,k2,k4,k5,k6,k7,k8,e5,g0,g1,g2,g4,g5,g6,g7,↓q1,beq_self_eq_true]
  exact ⟨⟨by omega,by omega⟩,⟨by omega,by omega⟩,fin _⟩
end Go.Proofs.YtkpohmhenegkiaaGreatDoor
namespace Go.Proofs.YtkpohmhenegkiaaGreatDoor
open Go.W
def DX:List S->Prop:=fun av=>match av with
  | [.va (.gs r),.va (.gs q),.va (.gs p)]=>pX r/\eK q/\qJ p
  | _=>False
theorem xF {av:List S} (h:DX av):∃ s t v,av=[.va (.gs (aE s)),.va (.gs (aM t)),.va (.gs (aV v))]/\s.ok/\TyOk t/\VlOk v:=by
  unfold DX at h
  split at h
  · obtain ⟨⟨s,rfl,h1⟩,⟨t,rfl,h2⟩,⟨v,rfl,h3⟩⟩:=h; exact ⟨s,t,v,rfl,h1,h2,h3⟩
  · exact h.elim
def l3Fn:Fun:=⟨DX,fun _=>bA true,fun _ _=>trivial⟩
attribute [go_sem] l3Fn DX
noncomputable def J4:bY:=[(8,.f feFn),(9,.f liFn),(10,.f qTrue),(11,.f (FP 13)),(12,.f (cQ (NU 13) fun s t v=>.string (mk (FA 13 s t v))))]
theorem FO:eV J4 8=some feFn:=rfl
theorem G8:eV J4 9=some liFn:=rfl
theorem G6:eV J4 10=some qTrue:=rfl
theorem aAI:eV J4 11=some (FP 13):=rfl
theorem aDC:eV J4 12=some (cQ (NU 13) fun s t v=>.string (mk (FA 13 s t v))):=rfl
theorem I0:Meets Tryz.prog 3 l3Fn.sp:=by
  refine aF (Γ:=J4) Tryz.func3 ok3 3 (by rw [Tryz.ntmps3]; decide) (aG aFD (aG aER (aG SY (aG (FY 13) (aG (SF 13 (by decide)) (aA _)))))) (fun av H K h=>by obtain ⟨_,_,_,rfl,_⟩:=xF h.1.1; rfl) ?_
  rintro av H K ⟨⟨h,rfl⟩,hK⟩
  obtain ⟨s,t,v,rfl,hs,ht,hv⟩:=xF h
  have hK:K (bS true) []:=hK
  clear h
  have fin:∀ R:Hp,W.Fin 0 K (bS true) R:=fun R=>.sel [] (by simp) (by simp) rfl (.done (by simpa [go_sem] using hK))
  clear hK
  have k1:=cE hv
  have k2:=eR v
  have k4:=cL ht
  have k5:=fN t
  have k6:=JS hs
  have k7:=hM s
  cases h1:zG s t with
  | false=>
    simp (maxSteps:=1000000) -dsimp only [go_sem,aE,aH t,aI v,TV,XB,FO,G8,G6,k1,k2,k4,k5,k6,k7,h1]
    exact fin _
  | true=>
  cases h2:B5 v with
  | false=>
    simp (maxSteps:=1000000) -dsimp only [go_sem,aE,aH t,aI v,TV,XB,FO,G8,G6,k1,k2,k4,k5,k6,k7,h1,h2]
    exact fin _
  | true=>
    obtain ⟨hf,hn⟩:=YU hs h1
    have hh:=aF7 h2
    have k8:=dV hf
    have k9:(dQ s t v=0->dF 13 s t v)=True:=eq_true fun h=>EG 13 s t v hf hn ht hv hh (qC h).1 (qC h).2
    have k10:NU 13 s t v=True:=eq_true (aET hf hn ht hv hh)
    have k11:=aGK (s:=s) (t:=t) hh
    simp (maxSteps:=1000000) -dsimp only [go_sem,aE,aH t,aI v,TV,XB,FO,G8,G6,aAI,aDC,FP,k1,k2,k4,k5,k6,k7,k8,k9,k10,k11,h1,h2,beq_self_eq_true]
    exact fin _
end Go.Proofs.YtkpohmhenegkiaaGreatDoor
namespace Go.W
open Go.RowKit
structure Stay (w w':World):Prop where
  os:w'.os=w.os
  out:w'.output=w.output
  size:w.heap.size<=w'.heap.size
  keep:∀ b:Nat,b < w.heap.size->w'.heap[b]? = w.heap[b]?
theorem Stay.kept {w w':World} (h:Stay w w') (may:MemPlace->Prop):w.keptBut w' may:=by
  refine ⟨h.os,h.out,fun i hi=>?_⟩
  rw [h.keep i hi]
  split
  · rename_i h1 h2; rw [h1] at h2; cases h2; exact ⟨rfl,rfl,rfl,fun _ _=>rfl⟩
  · rename_i h1 h2; rw [h1] at h2; cases h2; exact Or.inr ⟨rfl,rfl⟩
  · rfl
theorem Stay.frozen {w w':World} (h:Stay w w') {a:Addr} (ha:a.block < w.heap.size):w'.frozen? a=w.frozen? a:=by
  unfold World.frozen?; rw [h.keep _ ha]
theorem Stay.cell {w w':World} (h:Stay w w') {a:Addr} (ha:a.block < w.heap.size):w'.cell? a=w.cell? a:=by
  unfold World.cell?; rw [h.keep _ ha]
theorem YG {w:World} {ro:RO} (h:∀ (b off:Nat) (v:Value),ro b off=some v->w.cell? ⟨b,off,none⟩=some v):Rel ⟨w,dC [],ro,gm []⟩ [] ro w where
  own:=fun n g blk h=>by simp at h
  inj:=fun n m gn gm bn bm b h=>by simp at h
  apart:=fun b off v _ n g blk h=>by simp at h
  rd:=h
  ro0:=fun _ _ _ h=>h
  rob:=fun b off v h=>.inl h
  par:=fun n b g blk h=>by simp at h
  gx:=.refl _
  sz:=Nat.le_refl _
  keep:=fun b _ _=>rfl
  os:=rfl
  tape:=rfl
  output:=rfl
theorem Meets.run {P:Program} {f:FuncId} {s:Fun} (hm:Meets P f s.sp) {av:List S} {vs:List Value} {ro:RO} {w:World} {x:A} (hpre:s.pre av) (hval:s.val av=x) (hl:av.length=vs.length)
    (hrel:∀ (i:Nat) (x:S) (v:Value),av[i]? = some x->vs[i]? = some v->x.rel (gm []) ro v) (hro:∀ (b off:Nat) (v:Value),ro b off=some v->w.cell? ⟨b,off,none⟩=some v) (hG:GR P ro w) :
    Calls P f vs.toArray w fun e w'=>∃ v γ ro',e=.returned v/\S.rel γ ro' (.va x) v/\Stay w w':=by
  subst hval
  refine (hm.2 av vs [] ro w (fun r H=>r=.va (s.val av)/\H=[]) hl hrel (YG hro) ⟨⟨hpre,rfl⟩,rfl,rfl⟩ hG).mono ?_
  rintro e w' ⟨r,v,E',ro',rfl,h1,⟨rfl,h2⟩,h3⟩
  exact ⟨v,_,ro',rfl,h1,h3.os,h3.output,h3.sz,fun b hb=>h3.keep b hb (by simp [dC])⟩
theorem Meets.yes {P:Program} {f:FuncId} {s:Fun} (hm:Meets P f s.sp) {av:List S} {vs:List Value} {ro:RO} {w:World} (hpre:s.pre av) (hval:s.val av=.c1 (.vl (.bool true))) (hl:av.length=vs.length)
    (hrel:∀ (i:Nat) (x:S) (v:Value),av[i]? = some x->vs[i]? = some v->x.rel (gm []) ro v) (hro:∀ (b off:Nat) (v:Value),ro b off=some v->w.cell? ⟨b,off,none⟩=some v) (hG:GR P ro w) :
    Calls P f vs.toArray w fun e w'=>e=.returned (.bool true)/\Stay w w':=by
  refine (hm.run hpre hval hl hrel hro hG).mono ?_
  rintro e w' ⟨v,γ,ro',rfl,h1,h2⟩
  have:v=.bool true:=h1
  exact ⟨by rw [this],h2⟩
section
variable {H:Type} {enc:TypeId × Value->H} {P:Program}
theorem G3 {f:Func} {s:ChangeSpec} {apart fresh handsOn again:Bool} {W W':World} {args:Array Value} {v:Value} {ds gs:List (DataW H)} {before pa pv:List MemPlace}
    (hW:DataW.Whole enc P f.params.toList s.vars apart W args.toList ds gs before)
    (hres:∀ (b:Nat) (sp:Nat->Bool) (hd:Bool),DataW.TrodAll enc P W' b sp hd f.resultTypes.toList (v.resultList f.resultTypes.size) (s.fn H (ds ++ gs)).results [])
    (hargs:∀ sp:Nat->Bool,(∀ p ∈ before,sp p.block=true)->DataW.TrodAll enc P W' 0 sp true f.params.toList args.toList (s.fn H (ds ++ gs)).args pa)
    (hvars:∀ sp:Nat->Bool,(∀ p ∈ before,sp p.block=true)->DataW.TrodVars enc P W' sp s.vars (s.fn H (ds ++ gs)).vars pv)
    (hps:before=pa ++ pv) (hs:Stay W W')
    (hok:∀ (j:Nat) (t:TypeId) (r:Value),f.resultTypes[j]? = some t->(v.resultList f.resultTypes.size)[j]? = some r->Value.okWide P W' .any 0 t r) :
    s.post enc P f apart fresh handsOn again W args v W':=by
  have hlt:∀ p ∈ before,p.block < W.heap.size:=fun p hp=>hW.lt p hp
  have hsp:∀ p ∈ before,(fun b=>decide (b < W.heap.size)) p.block=true:=fun p hp=>by simpa using hlt p hp
  have hall:∀ p ∈ before,(fun _:Nat=>true) p.block=true:=fun _ _=>rfl
  obtain ⟨_,_,_,_,_,hz,hn⟩:=id hW
  refine ⟨ds,gs,before,[],pa,pv,hW,hres _ _ _,hargs _ hsp,hvars _ hsp,World.keptBut_mono (fun p hp=>⟨hp,.inr ?_⟩) (hs.kept (· ∈ before)),fun _=>⟨hok,_,_,([] ++ pa) ++ pv,
    ⟨[] ++ pa,pv,ChangeShapes.trodAll_append (hargs _ hall) (hres _ _ _),hvars _ hall,rfl,fun b off hp=>?_,fun ha=>?_⟩,fun p hp _=>?_⟩⟩
  · rw [hps,List.mem_append] at hp; exact hp
  · have hb:MemPlace.cell b off ∈ before:=by rw [hps]; simpa using hp
    rw [hs.frozen (hlt _ hb)]
    exact hz b off hb
  · have:=hn ha
    rw [hps] at this
    simpa using this
  · rw [hps]
    simpa using hp
end
end Go.W
namespace Go.W
open Go.RowKit
def jR (W:World):RO:=fun b off=>W.cell? ⟨b,off,none⟩
theorem aBE (W:World):∀ (b off:Nat) (v:Value),jR W b off=some v->W.cell? ⟨b,off,none⟩=some v:=fun _ _ _ h=>h
theorem P2 (ro:RO):FzR ro [] (.slice none 0 0):=
  FzR.mk [] 1 none none (fun h=>absurd rfl h) 0 (fun _=>.bool true) (by simp) (by simp) (by simp) (by simp) (by simp) (by simp) (by simp)
def pY (P:Program):Bool:=(List.range P.types.size).all fun t=>match P.underlying t with | some (.slice e)=>decide (0 < P.cellsOf e) | _=>true
section
variable {H:Type} {enc:TypeId × Value->H} {P:Program}
theorem P8 {W W':World} (h:Stay W W') {p:MemPlace} (hp:p.block < W.heap.size):W.sameAt W' p:=by
  cases p with
  | cell b off=>exact h.cell (a:=⟨b,off,none⟩) hp
  | map b=>exact h.keep b hp
theorem rO {W W':World} {sp:Nat->Bool} (hl:laidOutB P=true) (hm:mapsRowed P=true) (hs:pY P=true) (hst:Stay W W') :
    ∀ {ts:List TypeId} {vs:List Value} {ds:List (DataW H)} {ps:List MemPlace},(∀ t ∈ ts,t < P.types.size)->DataW.TrodAll enc P W 0 (fun _=>true) true ts vs ds ps->(∀ p ∈ ps,p.block < W.heap.size)->(∀ p ∈ ps,sp p.block=true)->
      DataW.TrodAll enc P W' 0 sp true ts vs ds ps
  | [],[],[],ps,_,h,_,_=>h
  | t :: ts,v :: vs,d :: ds,ps,ht,h,hb,hp=>by
    obtain ⟨p,q,⟨n,h1⟩,h2,rfl⟩:=h
    have hsz:∀ {t e:TypeId},t < P.types.size->P.underlying t=some (.slice e)->0 < P.cellsOf e:=fun {t e} ht hu=>by
      have:=List.all_eq_true.1 hs t (List.mem_range.2 ht)
      rw [hu] at this
      simpa using this
    exact ⟨p,q,⟨n,DataW.trod_stays (T:=(· < P.types.size)) (kids_rows hl hm) hsz (fun h=>by cases h) (ht t (by simp)) h1 (fun x hx=>P8 hst (hb x (by simp [hx]))) (fun x hx=>hp x (by simp [hx]))⟩,
      rO hl hm hs hst (fun u hu=>ht u (by simp [hu])) h2 (fun x hx=>hb x (by simp [hx])) (fun x hx=>hp x (by simp [hx])),rfl⟩
  | [],_ :: _,_,_,_,h,_,_=>h.elim
  | [],[],_ :: _,_,_,h,_,_=>h.elim
  | _ :: _,[],_,_,_,h,_,_=>h.elim
  | _ :: _,_ :: _,[],_,_,h,_,_=>h.elim
theorem RR {f:Func} {s:ChangeSpec} {apart fresh handsOn again:Bool} {W W':World} {args:Array Value} {ds gs:List (DataW H)} {before:List MemPlace} {tb:TypeId}
    (hl:laidOutB P=true) (hm:mapsRowed P=true) (hsr:pY P=true) (hps:∀ t ∈ f.params.toList,t < P.types.size) (hrt:f.resultTypes=#[tb]) (htb:P.underlying tb=some .bool)
    (hvars:s.vars=[]) (hW:DataW.Whole enc P f.params.toList s.vars apart W args.toList ds gs before) (hfn:s.fn H (ds ++ gs)={ results:=[.lit (.bool true)],args:=ds,vars:=[] }) (hst:Stay W W') :
    s.post enc P f apart fresh handsOn again W args (.bool true) W':=by
  have hlt:∀ p ∈ before,p.block < W.heap.size:=fun p hp=>hW.lt p hp
  obtain ⟨p,q,hA,hV,hb,_,_⟩:=id hW
  have hq:q=[]:=by
    rw [hvars] at hV
    cases gs with
    | nil=>exact hV
    | cons g gs=>exact hV.elim
  subst hq
  have hbp:before=p:=by rw [hb]; simp
  refine G3 (pa:=p) (pv:=[]) hW (fun b sp hd=>?_) (fun sp hsp=>?_) (fun sp hsp=>?_) hb hst ?_
  · rw [hrt,hfn]
    exact ⟨[],[],⟨1,by simp [DataW.trod,Value.cells,htb]⟩,rfl,rfl⟩
  · rw [hfn]
    rw [hbp] at hlt hsp
    exact rO hl hm hsr hst hps hA hlt hsp
  · rw [hfn,hvars]; rfl
  · intro j t r h1 h2
    rw [hrt] at h1 h2
    match j with
    | 0=>
      cases h1
      cases h2
      simp [Value.okWide,Cell.okWide,Cell.ok,htb]
    | j + 1=>cases h1
end
end Go.W
namespace Go.W
open Go.RowKit
inductive Fit (P:Program):TypeId->List C->Prop
  | int {t:TypeId} {k:IntKind} {n:Int}:P.underlying t=some (.int k)->(Lit.int k n).wf=true->Fit P t [.vl (.int k n)]
  | bool {t:TypeId} {b:Bool}:P.underlying t=some .bool->Fit P t [.vl (.bool b)]
  | str {t:TypeId} {s:ByteArray}:P.underlying t=some .string->s.size<=maxLen->Fit P t [.vl (.string s)]
  | sl {t e:TypeId} {xs:List (List C)}:P.underlying t=some (.slice e)->xs.length<=maxLen->(∀ r ∈ xs,Fit P e r)->Fit P t [.fz xs]
  | st {t:TypeId} {fs:Array Field} {parts:List (List C)}:P.underlying t=some (.struct fs)->parts.length=fs.size->(∀ (i:Nat) (f:Field) (p:List C),fs[i]? = some f->parts[i]? = some p->Fit P f.type p)->Fit P t parts.flatten
section
variable {P:Program} {t e:TypeId} {xs:List C}
theorem Fit.inv_int {k:IntKind} (ht:P.underlying t=some (.int k)) (h:Fit P t xs):∃ n:Int,xs=[.vl (.int k n)]/\(Lit.int k n).wf=true:=by
  cases h with
  | int h1 h2=>rw [ht] at h1; cases h1; exact ⟨_,rfl,h2⟩
  | bool h1=>rw [ht] at h1; cases h1
  | str h1=>rw [ht] at h1; cases h1
  | sl h1=>rw [ht] at h1; cases h1
  | st h1=>rw [ht] at h1; cases h1
theorem Fit.inv_bool (ht:P.underlying t=some .bool) (h:Fit P t xs):∃ b:Bool,xs=[.vl (.bool b)]:=by
  cases h with
  | int h1 h2=>rw [ht] at h1; cases h1
  | bool h1=>exact ⟨_,rfl⟩
  | str h1=>rw [ht] at h1; cases h1
  | sl h1=>rw [ht] at h1; cases h1
  | st h1=>rw [ht] at h1; cases h1
theorem Fit.inv_str (ht:P.underlying t=some .string) (h:Fit P t xs):∃ s:ByteArray,xs=[.vl (.string s)]/\s.size<=maxLen:=by
  cases h with
  | int h1 h2=>rw [ht] at h1; cases h1
  | bool h1=>rw [ht] at h1; cases h1
  | str h1 h2=>exact ⟨_,rfl,h2⟩
  | sl h1=>rw [ht] at h1; cases h1
  | st h1=>rw [ht] at h1; cases h1
theorem Fit.inv_sl (ht:P.underlying t=some (.slice e)) (h:Fit P t xs):∃ ys:List (List C),xs=[.fz ys]/\ys.length<=maxLen/\∀ r ∈ ys,Fit P e r:=by
  cases h with
  | int h1 h2=>rw [ht] at h1; cases h1
  | bool h1=>rw [ht] at h1; cases h1
  | str h1=>rw [ht] at h1; cases h1
  | sl h1 h2 h3=>rw [ht] at h1; cases h1; exact ⟨_,rfl,h2,h3⟩
  | st h1=>rw [ht] at h1; cases h1
theorem Fit.inv_st {fs:Array Field} (ht:P.underlying t=some (.struct fs)) (h:Fit P t xs):∃ parts:List (List C),xs=parts.flatten/\parts.length=fs.size/\∀ (i:Nat) (f:Field) (p:List C),fs[i]? = some f->parts[i]? = some p->Fit P f.type p:=by
  cases h with
  | int h1 h2=>rw [ht] at h1; cases h1
  | bool h1=>rw [ht] at h1; cases h1
  | str h1=>rw [ht] at h1; cases h1
  | sl h1=>rw [ht] at h1; cases h1
  | st h1 h2 h3=>rw [ht] at h1; cases h1; exact ⟨_,rfl,h2,h3⟩
end
theorem Fit.rows {P:Program} {e:TypeId} {α:Type} {row:α->List C} {Q:α->Prop} {ys:List (List C)} (hi:∀ r,Fit P e r->∃ a,r=row a/\Q a) (h:∀ r ∈ ys,Fit P e r):∃ l:List α,ys=l.map row/\∀ a ∈ l,Q a:=by
  induction ys with
  | nil=>exact ⟨[],rfl,fun a h=>by cases h⟩
  | cons r ys ih=>
    obtain ⟨l,h1,h2⟩:=ih fun r hr=>h r (List.mem_cons_of_mem _ hr)
    obtain ⟨a,h3,h4⟩:=hi r (h r (by simp))
    refine ⟨a :: l,by rw [h1,h3]; rfl,fun x hx=>?_⟩
    rcases List.mem_cons.1 hx with rfl | hx
    · exact h4
    · exact h2 x hx
def FU (P:Program):Nat->List Field->Option Nat
  | o,[]=>some o
  | o,f :: r=>if f.offset=o then FU P (o + P.cellsOf f.type) r else none
def z8 (P:Program) (ts:List TypeId):Bool:=ts.all fun t=>match P.underlying t with
  | some (.int _) | some .bool | some .string=>true
  | some (.slice e)=>ts.contains e && decide (0 < P.cellsOf e)
  | some (.struct fs)=>fs.toList.all (fun f=>ts.contains f.type) && FU P 0 fs.toList == some (P.cellsOf t)
  | _=>false
theorem QZ {P:Program} {R:C->Value->Prop} {Q:Field->List C->Prop} {cs:List Value}:∀ (fs:List Field) (o:Nat),FU P o fs=some cs.length->
    (∀ (i:Nat) (f:Field),fs[i]? = some f->∃ p,Q f p/\All2 R p ((cs.drop f.offset).take (P.cellsOf f.type)))->
    ∃ parts:List (List C),parts.length=fs.length/\(∀ (i:Nat) (f:Field) (p:List C),fs[i]? = some f->parts[i]? = some p->Q f p)/\All2 R parts.flatten (cs.drop o)
  | [],o,ho,_=>by
    simp only [FU,Option.some.injEq] at ho
    subst ho
    exact ⟨[],rfl,fun i f p h=>by simp at h,by simpa using All2.nil⟩
  | f :: fs,o,ho,h=>by
    simp only [FU] at ho
    split at ho
    · rename_i hf
      obtain ⟨parts,h1,h2,h3⟩:=QZ fs _ ho fun i f hf=>h (i + 1) f (by simpa using hf)
      obtain ⟨p,h4,h5⟩:=h 0 f rfl
      refine ⟨p :: parts,by simp [h1],fun i g q hg hq=>?_,?_⟩
      · cases i with
        | zero=>simp at hg hq; subst hg hq; exact h4
        | succ i=>exact h2 i g q (by simpa using hg) (by simpa using hq)
      · have:cs.drop o=(cs.drop f.offset).take (P.cellsOf f.type) ++ cs.drop (o + P.cellsOf f.type):=by
          rw [hf,<-List.drop_drop,List.take_append_drop]
        rw [List.flatten_cons,this]
        exact h5.app h3
    · cases ho
section
variable {H:Type} {enc:TypeId × Value->H} {P:Program} {W:World} {ts:List TypeId}
theorem x9 {b off len cap sz:Nat} {oa:Option Addr} (hoa:len ≠ 0->oa=some ⟨b,off,none⟩) (hsz:0 < sz) (X:Nat->List C) (hl:∀ i,i < len->(X i).length=sz) (hc:len<=cap)
    (h:∀ i,i < len->∀ j c,(X i)[j]? = some c->∃ v,W.cell? ⟨b,off + (i * sz + j),none⟩=some v/\c.fv (jR W) v/\c.shut=true) :
    FzR (jR W) ((List.range len).map X) (.slice oa len cap):=by
  have hz:∀ x ∈ (List.range len).map X,x.length=sz:=fun x hx=>by
    obtain ⟨i,hi,rfl⟩:=List.mem_map.1 hx
    exact hl i (List.mem_range.1 hi)
  have hfl:∀ k c,((List.range len).map X).flatten[k]? = some c->∃ v,W.cell? ⟨b,off + k,none⟩=some v/\c.fv (jR W) v/\c.shut=true:=fun k c hk=>by
    have hkl:k < len * sz:=by
      have h1:=(List.getElem?_eq_some_iff.1 hk).1
      rw [wN _ hz] at h1
      simpa using h1
    have hi:k / sz < len:=(Nat.div_lt_iff_lt_mul hsz).2 hkl
    have hj:=Nat.mod_lt k hsz
    have hg:=nG hz (i:=k / sz) (j:=k % sz) (by simpa using hi) hj
    rw [Nat.mul_comm,Nat.div_add_mod,hk] at hg
    have hxi:((List.range len).map X)[k / sz]? = some (X (k / sz)):=by simp [hi]
    rw [hxi,Option.bind_some] at hg
    have:=h (k / sz) hi (k % sz) c hg.symm
    rwa [Nat.mul_comm,Nat.div_add_mod] at this
  have hr:=FzR.mk (ro:=jR W) ((List.range len).map X) sz (some (b,off)) oa (fun hne=>hoa (fun e=>by subst e; simp at hne)) cap (fun k=>(W.cell? ⟨b,off + k,none⟩).getD undef) hz (by simpa using hc) (fun _=>rfl)
    (fun k c hk=>by
      obtain ⟨v,h2,_⟩:=hfl k c hk
      simp [jR,h2])
    (fun k v hk=>by
      obtain ⟨u,h1,h2,_⟩:=hfl k _ hk
      have:u=v:=h2
      simp [h1,this])
    (fun k ys hk=>by
      obtain ⟨u,h1,h2,_⟩:=hfl k _ hk
      have:FzR (jR W) ys u:=h2
      simpa [h1] using this)
    (fun c hc=>by
      obtain ⟨k,hk⟩:=List.mem_iff_getElem?.1 hc
      obtain ⟨u,_,_,h3⟩:=hfl k c hk
      exact h3)
  simpa using hr
theorem n8 (hok:z8 P ts=true):∀ (n:Nat) (t:TypeId) (cs:List Value) (y:DataW H × List MemPlace),t ∈ ts->DataW.trod enc P W 0 (fun _=>true) true n t cs=some y->
    ∃ xs,Fit P t xs/\All2 (C.fv (jR W)) xs cs/\∀ c ∈ xs,c.shut=true
  | 0,t,cs,y,_,h=>by simp [DataW.trod] at h
  | n + 1,t,cs,y,ht,h=>by
    have h1:=List.all_eq_true.1 hok t ht
    split at h1
    · rename_i k hu
      obtain ⟨m,rfl,_,hw⟩:=DataW.trod_int hu h
      exact ⟨_,.int hu hw,.cons rfl .nil,fun c hc=>by simp at hc; subst hc; rfl⟩
    · rename_i hu
      obtain ⟨b,rfl,_⟩:=DataW.trod_bool hu h
      exact ⟨_,.bool hu,.cons rfl .nil,fun c hc=>by simp at hc; subst hc; rfl⟩
    · rename_i hu
      obtain ⟨s,rfl,_,hs⟩:=DataW.trod_string hu h
      exact ⟨_,.str hu hs,.cons rfl .nil,fun c hc=>by simp at hc; subst hc; rfl⟩
    · rename_i e hu
      simp only [Bool.and_eq_true,List.contains_iff_mem,decide_eq_true_eq] at h1
      obtain ⟨he,hpos⟩:=h1
      rcases DataW.trod_slice hu h with ⟨rfl,_⟩ | ⟨a,len,cap,elems,rest,n',hn',rfl,_,_,hl,hm,hel,hi,_⟩
      · exact ⟨_,.sl hu (Nat.zero_le _) (fun r hr=>by cases hr),.cons (P2 _) .nil,fun c hc=>by simp at hc; subst hc; rfl⟩
      · obtain rfl:n=n':=by omega
        have hall:∀ i,i < len->∃ x:List C,Fit P e x/\x.length=P.cellsOf e/\(∀ j c,x[j]? = some c->∃ v,W.cell? ((a.add (i * P.cellsOf e)).add j)=some v/\c.fv (jR W) v/\c.shut=true):=fun i hil=>by
          have h1:=hi i hil
          rw [List.getElem?_eq_getElem (by omega)] at h1
          obtain ⟨cs',h2,h3⟩:=Option.bind_eq_some_iff.1 h1
          obtain ⟨x,h4,h5,h6⟩:=n8 hok n e cs' _ he h3
          obtain ⟨_,h7,h8⟩:=World.cells?_some h2
          refine ⟨x,h4,h5.1.trans h7,fun j c hj=>?_⟩
          obtain ⟨v,h9,h10⟩:=h5.get hj
          have hjl:j < P.cellsOf e:=by rw [<-h7,<-h5.1]; exact (List.getElem?_eq_some_iff.1 hj).1
          refine ⟨v,?_,h10,h6 c (List.mem_of_getElem? hj)⟩
          have:=h8 j hjl
          rwa [h9] at this
        by_cases h0:len=0
        · subst h0
          refine ⟨[.fz []],.sl hu (Nat.zero_le _) (fun r hr=>by cases hr),.cons ?_ .nil,fun c hc=>by simp at hc; subst hc; rfl⟩
          exact x9 (b:=0) (off:=0) (fun h=>absurd rfl h) hpos (fun _=>[]) (fun i hi=>by omega) (Nat.zero_le _) (fun i hi=>by omega)
        · obtain ⟨x0,_,hx0l,hx0⟩:=hall 0 (by omega)
          have hsp:a.spot=none:=by
            have hx:∃ c,x0[0]? = some c:=⟨_,List.getElem?_eq_getElem (by omega)⟩
            obtain ⟨c,hc⟩:=hx
            obtain ⟨v,hv,_⟩:=hx0 0 c hc
            unfold World.cell? at hv
            split at hv
            · split at hv
              · cases hv
              · rename_i hs; simpa [Addr.add] using hs
            · cases hv
          obtain ⟨b,off,spot⟩:=a
          obtain rfl:spot=none:=hsp
          haveI:Inhabited (List C):=⟨[]⟩
          obtain ⟨X,hX⟩:=Go.Deep.choose_lt hall
          refine ⟨[.fz ((List.range len).map X)],.sl hu (by simp; omega) (fun r hr=>?_),.cons ?_ .nil,fun c hc=>by simp at hc; subst hc; rfl⟩
          · obtain ⟨i,hi,rfl⟩:=List.mem_map.1 hr
            exact (hX i (List.mem_range.1 hi)).1
          · exact x9 (fun _=>rfl) hpos X (fun i hi=>(hX i hi).2.1) hl (fun i hi j c hj=>by
              obtain ⟨v,h2,h3⟩:=(hX i hi).2.2 j c hj
              exact ⟨v,by simpa [Go.WideShapes.add_plain,Nat.add_assoc] using h2,h3⟩)
    · rename_i fs hu
      simp only [Bool.and_eq_true,List.all_eq_true,List.contains_iff_mem,beq_iff_eq] at h1
      obtain ⟨hft,hof⟩:=h1
      obtain ⟨ys,n',hn,_,hcl,hyl,hf⟩:=DataW.trod_struct hu h
      obtain rfl:n=n':=by omega
      obtain ⟨parts,k1,k2,k3⟩:=QZ (P:=P) (R:=fun c v=>C.fv (jR W) c v/\c.shut=true) (Q:=fun f p=>Fit P f.type p) (cs:=cs) fs.toList 0 (by rw [hcl]; exact hof) (fun i f hfi=>by
        have hfi':fs[i]? = some f:=by simpa using hfi
        have h2:=hf i f hfi'
        have hil:i < fs.size:=(Array.getElem?_eq_some_iff.1 hfi').1
        rw [List.getElem?_eq_getElem (by omega)] at h2
        obtain ⟨x,h4,h5,h6⟩:=n8 hok n f.type _ _ (hft f (List.mem_of_getElem? hfi)) h2
        exact ⟨x,h4,⟨h5.1,fun j c v hc hv=>⟨h5.2 j c v hc hv,h6 c (List.mem_of_getElem? hc)⟩⟩⟩)
      refine ⟨parts.flatten,.st hu (by simpa using k1) (fun i f p hfi hp=>k2 i f p (by simpa using hfi) hp),?_,fun c hc=>?_⟩
      · simpa using k3.imp (fun _ _ h=>h.1)
      · obtain ⟨j,hj⟩:=List.mem_iff_getElem?.1 hc
        obtain ⟨v,_,_,h3⟩:=k3.get hj
        exact h3
    · cases h1
theorem yF (hok:z8 P ts=true) {t:TypeId} {v:Value} {d:DataW H} {ps:List MemPlace} (ht:t ∈ ts) (h:DataW.Trod enc P W 0 (fun _=>true) true t v d ps):∃ xs,Fit P t xs/\All2 (C.fv (jR W)) xs v.cells.toList/\∀ c ∈ xs,c.shut=true:=by
  obtain ⟨n,h⟩:=h
  exact n8 hok n t _ _ ht h
theorem HE {cs:List C} {vs:Array Value} (h:All2 (C.fv (jR W)) cs (Value.agg vs).cells.toList) (hs:∀ c ∈ cs,c.shut=true):(S.va (.gs cs)).rel (gm []) (jR W) (.agg vs):=
  ⟨vs.toList,by simp,⟨by simpa [Value.cells] using h.1,fun i c v hc hv=>(C.rel_shut (hs c (List.mem_of_getElem? hc))).2 (h.2 i c v hc (by simpa [Value.cells] using hv))⟩⟩
end
end Go.W
namespace Go.Proofs.YtkpohmhenegkiaaGreatDoor
open Go.W
theorem v3:Tryz.prog.underlying 3=some (.int .i64):=by kernel_rfl
theorem v4:Tryz.prog.underlying 4=some .bool:=by kernel_rfl
theorem v9:Tryz.prog.underlying 9=some .string:=by kernel_rfl
theorem v22:Tryz.prog.underlying 22=some (.slice 92):=by kernel_rfl
theorem v23:Tryz.prog.underlying 23=some (.slice 95):=by kernel_rfl
theorem v30:Tryz.prog.underlying 93=some (.slice 97):=by kernel_rfl
theorem v35:Tryz.prog.underlying 89=some (.slice 9):=by kernel_rfl
theorem OL:Tryz.prog.underlying 26=some (.slice 28):=by kernel_rfl
theorem v45:Tryz.prog.underlying 90=some (.slice 3):=by kernel_rfl
theorem NS:Tryz.prog.underlying 28=some (.struct #[⟨"Kind",3,0,false,"","",0⟩,⟨"Size",3,1,false,"","",8⟩,⟨"Name",9,2,false,"","",16⟩,⟨"Elem",26,3,false,"","",32⟩]):=by kernel_rfl
theorem v53:Tryz.prog.underlying 97=some (.struct #[⟨"Number",3,0,false,"","",0⟩,⟨"Name",9,1,false,"","",8⟩,⟨"Type",28,2,false,"","",24⟩,⟨"Optional",4,6,false,"","",80⟩]):=by kernel_rfl
theorem v32:Tryz.prog.underlying 95=some (.struct #[⟨"Name",9,0,false,"","",0⟩,⟨"Fields",93,1,false,"","",16⟩]):=by kernel_rfl
theorem v47:Tryz.prog.underlying 92=some (.struct #[⟨"Name",9,0,false,"","",0⟩,⟨"Names",89,1,false,"","",16⟩,⟨"Numbers",90,2,false,"","",40⟩]):=by kernel_rfl
theorem v25:Tryz.prog.underlying 25=some (.struct #[⟨"Version",3,0,false,"","",0⟩,⟨"Enums",22,1,false,"","",8⟩,⟨"Structs",23,2,false,"","",32⟩]):=by kernel_rfl
theorem i6 {α:Type} {row:α->List C} {Q:α->Prop} {ys:List (List C)} (h:∀ r ∈ ys,∃ a,r=row a/\Q a):∃ l:List α,ys=l.map row/\∀ a ∈ l,Q a:=by
  induction ys with
  | nil=>exact ⟨[],rfl,fun a h=>by cases h⟩
  | cons r ys ih=>
    obtain ⟨l,h1,h2⟩:=ih fun r hr=>h r (List.mem_cons_of_mem _ hr)
    obtain ⟨a,h3,h4⟩:=h r List.mem_cons_self
    refine ⟨a :: l,by rw [h1,h3]; rfl,fun x hx=>?_⟩
    rcases List.mem_cons.1 hx with rfl | hx
    · exact h4
    · exact h2 x hx
theorem sD {n:Int} (h:(Lit.int .i64 n).wf=true):bJ n:=by simpa [bJ,Lit.wf,IntKind.min,IntKind.max,IntKind.signed,IntKind.bits] using h
theorem lN {n:Nat} (h:n<=maxLen):n<=9223372036854775807:=by unfold maxLen at h; exact h
theorem aLY:∀ {t:TypeId} {cs:List C},Fit Tryz.prog t cs->(t=28->∃ a,cs=aM a/\TyOk a)/\(t=26->∃ l:List Ty,cs=[.fz (l.map aM)]/\l.length<=9223372036854775807/\∀ a ∈ l,TyOk a):=by
  intro t cs h
  induction h with
  | int h1 _=>exact ⟨fun e=>(by rw [e,NS] at h1; cases h1),fun e=>(by rw [e,OL] at h1; cases h1)⟩
  | bool h1=>exact ⟨fun e=>(by rw [e,NS] at h1; cases h1),fun e=>(by rw [e,OL] at h1; cases h1)⟩
  | str h1 _=>exact ⟨fun e=>(by rw [e,NS] at h1; cases h1),fun e=>(by rw [e,OL] at h1; cases h1)⟩
  | @sl t e xs h1 h2 h3 ih=>
    refine ⟨fun e=>(by rw [e,NS] at h1; cases h1),fun e=>?_⟩
    subst e
    rw [OL] at h1
    cases h1
    obtain ⟨l,rfl,hl⟩:=i6 (row:=aM) (Q:=TyOk) fun r hr=>(ih r hr).1 rfl
    exact ⟨l,rfl,by have:=lN h2; simpa using this,hl⟩
  | @st t fs parts h1 h2 h3 ih=>
    refine ⟨fun e=>?_,fun e=>(by rw [e,OL] at h1; cases h1)⟩
    subst e
    rw [NS] at h1
    cases h1
    match parts,h2 with
    | [p0,p1,p2,p3],_=>
      obtain ⟨k,rfl,hk⟩:=Fit.inv_int v3 (h3 0 _ p0 rfl rfl)
      obtain ⟨s,rfl,hs⟩:=Fit.inv_int v3 (h3 1 _ p1 rfl rfl)
      obtain ⟨n,rfl,hn⟩:=Fit.inv_str v9 (h3 2 _ p2 rfl rfl)
      obtain ⟨l,rfl,hl,ho⟩:=(ih 3 _ p3 rfl rfl).2 rfl
      exact ⟨.mk k s n l,by rw [aM,aS]; rfl,.mk (sD hk) (sD hs) (lN hn) hl ho⟩
theorem UK {cs:List C} (h:Fit Tryz.prog 28 cs):∃ a,cs=aM a/\TyOk a:=(aLY h).1 rfl
theorem aG2 {cs:List C} (h:Fit Tryz.prog 97 cs):∃ a:Fl,cs=aR a/\a.ok:=by
  obtain ⟨parts,rfl,h2,h3⟩:=Fit.inv_st v53 h
  match parts,h2 with
  | [p0,p1,p2,p3],_=>
    obtain ⟨k,rfl,hk⟩:=Fit.inv_int v3 (h3 0 _ p0 rfl rfl)
    obtain ⟨n,rfl,hn⟩:=Fit.inv_str v9 (h3 1 _ p1 rfl rfl)
    obtain ⟨t,rfl,ht⟩:=UK (h3 2 _ p2 rfl rfl)
    obtain ⟨b,rfl⟩:=Fit.inv_bool v4 (h3 3 _ p3 rfl rfl)
    exact ⟨⟨k,n,t,b⟩,by rw [aH]; rfl,sD hk,lN hn,ht⟩
theorem aF0 {cs:List C} (h:Fit Tryz.prog 95 cs):∃ a:St,cs=aL a/\a.ok:=by
  obtain ⟨parts,rfl,h2,h3⟩:=Fit.inv_st v32 h
  match parts,h2 with
  | [p0,p1],_=>
    obtain ⟨n,rfl,hn⟩:=Fit.inv_str v9 (h3 0 _ p0 rfl rfl)
    obtain ⟨ys,rfl,hl,hy⟩:=Fit.inv_sl v30 (h3 1 _ p1 rfl rfl)
    obtain ⟨l,rfl,ho⟩:=i6 (row:=aR) (Q:=Fl.ok) fun r hr=>aG2 (hy r hr)
    exact ⟨⟨n,l⟩,rfl,lN hn,by have:=lN hl; simpa using this,ho⟩
theorem aIB {cs:List C} (h:Fit Tryz.prog 92 cs):∃ a:En,cs=aX a/\a.ok:=by
  obtain ⟨parts,rfl,h2,h3⟩:=Fit.inv_st v47 h
  match parts,h2 with
  | [p0,p1,p2],_=>
    obtain ⟨n,rfl,hn⟩:=Fit.inv_str v9 (h3 0 _ p0 rfl rfl)
    obtain ⟨ys,rfl,hl,hy⟩:=Fit.inv_sl v35 (h3 1 _ p1 rfl rfl)
    obtain ⟨zs,rfl,hl2,hz⟩:=Fit.inv_sl v45 (h3 2 _ p2 rfl rfl)
    obtain ⟨l,rfl,ho⟩:=i6 (row:=bB) (Q:=fun b=>b.size<=9223372036854775807) fun r hr=>by
      obtain ⟨s,rfl,hs⟩:=Fit.inv_str v9 (hy r hr); exact ⟨s,rfl,lN hs⟩
    obtain ⟨m,rfl,hm⟩:=i6 (row:=bU) (Q:=bJ) fun r hr=>by
      obtain ⟨s,rfl,hs⟩:=Fit.inv_int v3 (hz r hr); exact ⟨s,rfl,sD hs⟩
    exact ⟨⟨n,l,m⟩,rfl,lN hn,by have:=lN hl; simpa using this,by have:=lN hl2; simpa using this,ho,hm⟩
theorem aIG (cs:List C) (h:Fit Tryz.prog 25 cs):∃ a:Sc,cs=aE a/\a.ok:=by
  obtain ⟨parts,rfl,h2,h3⟩:=Fit.inv_st v25 h
  match parts,h2 with
  | [p0,p1,p2],_=>
    obtain ⟨n,rfl,hn⟩:=Fit.inv_int v3 (h3 0 _ p0 rfl rfl)
    obtain ⟨ys,rfl,hl,hy⟩:=Fit.inv_sl v22 (h3 1 _ p1 rfl rfl)
    obtain ⟨zs,rfl,hl2,hz⟩:=Fit.inv_sl v23 (h3 2 _ p2 rfl rfl)
    obtain ⟨l,rfl,ho⟩:=i6 (row:=aX) (Q:=En.ok) fun r hr=>aIB (hy r hr)
    obtain ⟨m,rfl,hm⟩:=i6 (row:=aL) (Q:=St.ok) fun r hr=>aF0 (hz r hr)
    exact ⟨⟨n,l,m⟩,rfl,sD hn,by have:=lN hl; simpa using this,by have:=lN hl2; simpa using this,ho,hm⟩
theorem aEF (cs:List C) (h:Fit Tryz.prog 28 cs):∃ a,cs=aM a/\TyOk a:=UK h
end Go.Proofs.YtkpohmhenegkiaaGreatDoor
namespace Go.W
inductive FitW (P:Program):TypeId->List C->Prop
  | int {t:TypeId} {k:IntKind} {n:Int}:P.underlying t=some (.int k)->(Lit.int k n).wf=true->FitW P t [.vl (.int k n)]
  | bool {t:TypeId} {b:Bool}:P.underlying t=some .bool->FitW P t [.vl (.bool b)]
  | str {t:TypeId} {s:ByteArray}:P.underlying t=some .string->s.size<=maxLen->FitW P t [.vl (.string s)]
  | sl {t e:TypeId} {xs:List (List C)}:P.underlying t=some (.slice e)->xs.length<=maxLen->xs.length * P.bytesOf e<=reachBytes->(∀ r ∈ xs,FitW P e r)->FitW P t [.fz xs]
  | st {t:TypeId} {fs:Array Field} {parts:List (List C)}:P.underlying t=some (.struct fs)->parts.length=fs.size->(∀ (i:Nat) (f:Field) (p:List C),fs[i]? = some f->parts[i]? = some p->FitW P f.type p)->FitW P t parts.flatten
theorem FitW.fit {P:Program} {t:TypeId} {xs:List C} (h:FitW P t xs):Fit P t xs:=by
  induction h with
  | int h1 h2=>exact .int h1 h2
  | bool h1=>exact .bool h1
  | str h1 h2=>exact .str h1 h2
  | sl h1 h2 _ _ ih=>exact .sl h1 h2 ih
  | st h1 h2 _ ih=>exact .st h1 h2 ih
section
variable {P:Program} {t e:TypeId} {xs:List C}
theorem FitW.inv_sl (ht:P.underlying t=some (.slice e)) (h:FitW P t xs):∃ ys:List (List C),xs=[.fz ys]/\ys.length<=maxLen/\ys.length * P.bytesOf e<=reachBytes/\∀ r ∈ ys,FitW P e r:=by
  cases h with
  | int h1 h2=>rw [ht] at h1; cases h1
  | bool h1=>rw [ht] at h1; cases h1
  | str h1=>rw [ht] at h1; cases h1
  | sl h1 h2 h3 h4=>rw [ht] at h1; cases h1; exact ⟨_,rfl,h2,h3,h4⟩
  | st h1 h2 h3=>rw [ht] at h1; cases h1
theorem FitW.inv_st {fs:Array Field} (ht:P.underlying t=some (.struct fs)) (h:FitW P t xs):∃ parts:List (List C),xs=parts.flatten/\parts.length=fs.size/\∀ (i:Nat) (f:Field) (p:List C),fs[i]? = some f->parts[i]? = some p->FitW P f.type p:=by
  cases h with
  | int h1 h2=>rw [ht] at h1; cases h1
  | bool h1=>rw [ht] at h1; cases h1
  | str h1=>rw [ht] at h1; cases h1
  | sl h1=>rw [ht] at h1; cases h1
  | st h1 h2 h3=>rw [ht] at h1; cases h1; exact ⟨_,rfl,h2,h3⟩
end
section
variable {H:Type} {enc:TypeId × Value->H} {P:Program} {W:World} {ts:List TypeId}
theorem uF {e:TypeId}:∀ {l:List (DataW H)} {d:DataW H} {m:Nat},d ∈ l->m ∈ d.weights P e->m ∈ DataW.weightsAll P e l
  | x :: l,d,m,h,hm=>by
    rw [DataW.weightsAll,List.mem_append]
    rcases List.mem_cons.1 h with rfl | h
    · exact .inl hm
    · exact .inr (uF h hm)
theorem m5:∀ {ts:List TypeId} {l:List (DataW H)} {i:Nat} {t:TypeId} {d:DataW H} {m:Nat},ts[i]? = some t->l[i]? = some d->m ∈ d.weights P t->m ∈ DataW.weightsEach P ts l
  | [],_,i,t,d,m,h,_,_=>by simp at h
  | _ :: _,[],i,t,d,m,_,h,_=>by simp at h
  | u :: ts,x :: l,0,t,d,m,h1,h2,hm=>by
    simp at h1 h2
    subst h1 h2
    rw [DataW.weightsEach,List.mem_append]; exact .inl hm
  | u :: ts,x :: l,i + 1,t,d,m,h1,h2,hm=>by
    rw [DataW.weightsEach,List.mem_append]
    exact .inr (m5 (i:=i) (by simpa using h1) (by simpa using h2) hm)
theorem nC (hok:z8 P ts=true):∀ (n:Nat) (t:TypeId) (cs:List Value) (y:DataW H × List MemPlace),t ∈ ts->DataW.trod enc P W 0 (fun _=>true) true n t cs=some y->(∀ m ∈ y.1.weights P t,m<=reachBytes)->
    ∃ xs,FitW P t xs/\All2 (C.fv (jR W)) xs cs/\∀ c ∈ xs,c.shut=true
  | 0,t,cs,y,_,h,_=>by simp [DataW.trod] at h
  | n + 1,t,cs,y,ht,h,hw0=>by
    have h1:=List.all_eq_true.1 hok t ht
    split at h1
    · rename_i k hu
      obtain ⟨m,rfl,_,hw⟩:=DataW.trod_int hu h
      exact ⟨_,.int hu hw,.cons rfl .nil,fun c hc=>by simp at hc; subst hc; rfl⟩
    · rename_i hu
      obtain ⟨b,rfl,_⟩:=DataW.trod_bool hu h
      exact ⟨_,.bool hu,.cons rfl .nil,fun c hc=>by simp at hc; subst hc; rfl⟩
    · rename_i hu
      obtain ⟨s,rfl,_,hs⟩:=DataW.trod_string hu h
      exact ⟨_,.str hu hs,.cons rfl .nil,fun c hc=>by simp at hc; subst hc; rfl⟩
    · rename_i e hu
      simp only [Bool.and_eq_true,List.contains_iff_mem,decide_eq_true_eq] at h1
      obtain ⟨he,hpos⟩:=h1
      rcases DataW.trod_slice hu h with ⟨rfl,_⟩ | ⟨a,len,cap,elems,rest,n',hn',rfl,hy,_,hl,hm,hel,hi,_⟩
      · exact ⟨_,.sl hu (Nat.zero_le _) (by simp) (fun r hr=>by cases hr),.cons (P2 _) .nil,fun c hc=>by simp at hc; subst hc; rfl⟩
      · obtain rfl:n=n':=by omega
        subst hy
        rw [show DataW.weights P t (DataW.slice (elems.map (·.1)) (rest.map (·.1)))=((elems.map (·.1)).length + (rest.map (·.1)).length) * P.bytesOf e :: (DataW.weightsAll P e (elems.map (·.1)) ++ DataW.weightsAll P e (rest.map (·.1))) from by simp [DataW.weights,hu]] at hw0
        have hwl:len * P.bytesOf e<=reachBytes:=by
          have h1:=hw0 _ (List.mem_cons_self)
          rw [List.length_map,List.length_map,hel] at h1
          exact Nat.le_trans (Nat.mul_le_mul_right _ (Nat.le_add_right _ _)) h1
        have hall:∀ i,i < len->∃ x:List C,FitW P e x/\x.length=P.cellsOf e/\(∀ j c,x[j]? = some c->∃ v,W.cell? ((a.add (i * P.cellsOf e)).add j)=some v/\c.fv (jR W) v/\c.shut=true):=fun i hil=>by
          have h1:=hi i hil
          rw [List.getElem?_eq_getElem (by omega)] at h1
          obtain ⟨cs',h2,h3⟩:=Option.bind_eq_some_iff.1 h1
          obtain ⟨x,h4,h5,h6⟩:=nC hok n e cs' _ he h3 (fun m hm=>hw0 m (List.mem_cons_of_mem _ (List.mem_append_left _ (uF (List.mem_map_of_mem (List.getElem_mem _)) hm))))
          obtain ⟨_,h7,h8⟩:=World.cells?_some h2
          refine ⟨x,h4,h5.1.trans h7,fun j c hj=>?_⟩
          obtain ⟨v,h9,h10⟩:=h5.get hj
          have hjl:j < P.cellsOf e:=by rw [<-h7,<-h5.1]; exact (List.getElem?_eq_some_iff.1 hj).1
          refine ⟨v,?_,h10,h6 c (List.mem_of_getElem? hj)⟩
          have:=h8 j hjl
          rwa [h9] at this
        by_cases h0:len=0
        · subst h0
          refine ⟨[.fz []],.sl hu (Nat.zero_le _) (by simp) (fun r hr=>by cases hr),.cons ?_ .nil,fun c hc=>by simp at hc; subst hc; rfl⟩
          exact x9 (b:=0) (off:=0) (fun h=>absurd rfl h) hpos (fun _=>[]) (fun i hi=>by omega) (Nat.zero_le _) (fun i hi=>by omega)
        · obtain ⟨x0,_,hx0l,hx0⟩:=hall 0 (by omega)
          have hsp:a.spot=none:=by
            have hx:∃ c,x0[0]? = some c:=⟨_,List.getElem?_eq_getElem (by omega)⟩
            obtain ⟨c,hc⟩:=hx
            obtain ⟨v,hv,_⟩:=hx0 0 c hc
            unfold World.cell? at hv
            split at hv
            · split at hv
              · cases hv
              · rename_i hs; simpa [Addr.add] using hs
            · cases hv
          obtain ⟨b,off,spot⟩:=a
          obtain rfl:spot=none:=hsp
          haveI:Inhabited (List C):=⟨[]⟩
          obtain ⟨X,hX⟩:=Go.Deep.choose_lt hall
          refine ⟨[.fz ((List.range len).map X)],.sl hu (by simp; omega) (by simpa using hwl) (fun r hr=>?_),.cons ?_ .nil,fun c hc=>by simp at hc; subst hc; rfl⟩
          · obtain ⟨i,hi,rfl⟩:=List.mem_map.1 hr
            exact (hX i (List.mem_range.1 hi)).1
          · exact x9 (fun _=>rfl) hpos X (fun i hi=>(hX i hi).2.1) hl (fun i hi j c hj=>by
              obtain ⟨v,h2,h3⟩:=(hX i hi).2.2 j c hj
              exact ⟨v,by simpa [Go.WideShapes.add_plain,Nat.add_assoc] using h2,h3⟩)
    · rename_i fs hu
      simp only [Bool.and_eq_true,List.all_eq_true,List.contains_iff_mem,beq_iff_eq] at h1
      obtain ⟨hft,hof⟩:=h1
      obtain ⟨ys,n',hn,hy,hcl,hyl,hf⟩:=DataW.trod_struct hu h
      obtain rfl:n=n':=by omega
      subst hy
      rw [show DataW.weights P t (DataW.agg (ys.map (·.1)))=DataW.weightsEach P (fs.toList.map (·.type)) (ys.map (·.1)) from by simp [DataW.weights,hu]] at hw0
      obtain ⟨parts,k1,k2,k3⟩:=QZ (P:=P) (R:=fun c v=>C.fv (jR W) c v/\c.shut=true) (Q:=fun f p=>FitW P f.type p) (cs:=cs) fs.toList 0 (by rw [hcl]; exact hof) (fun i f hfi=>by
        have hfi':fs[i]? = some f:=by simpa using hfi
        have h2:=hf i f hfi'
        have hil:i < fs.size:=(Array.getElem?_eq_some_iff.1 hfi').1
        rw [List.getElem?_eq_getElem (by omega)] at h2
        obtain ⟨x,h4,h5,h6⟩:=nC hok n f.type _ _ (hft f (List.mem_of_getElem? hfi)) h2 (fun m hm=>hw0 m (m5 (i:=i) (by rw [List.getElem?_map,hfi]; rfl) (by rw [List.getElem?_map,List.getElem?_eq_getElem (by omega)]; rfl) hm))
        exact ⟨x,h4,⟨h5.1,fun j c v hc hv=>⟨h5.2 j c v hc hv,h6 c (List.mem_of_getElem? hc)⟩⟩⟩)
      refine ⟨parts.flatten,.st hu (by simpa using k1) (fun i f p hfi hp=>k2 i f p (by simpa using hfi) hp),?_,fun c hc=>?_⟩
      · simpa using k3.imp (fun _ _ h=>h.1)
      · obtain ⟨j,hj⟩:=List.mem_iff_getElem?.1 hc
        obtain ⟨v,_,_,h3⟩:=k3.get hj
        exact h3
    · cases h1
theorem I5 (hok:z8 P ts=true) {t:TypeId} {v:Value} {d:DataW H} {ps:List MemPlace} (ht:t ∈ ts) (h:DataW.Trod enc P W 0 (fun _=>true) true t v d ps) (hw:∀ m ∈ d.weights P t,m<=reachBytes):∃ xs,FitW P t xs/\All2 (C.fv (jR W)) xs v.cells.toList/\∀ c ∈ xs,c.shut=true:=by
  obtain ⟨n,h⟩:=h
  exact nC hok n t _ _ ht h hw
end
end Go.W
namespace Go.Proofs.YtkpohmhenegkiaaGreatDoor
open Go.W
theorem yV:Tryz.prog.underlying 32=some (.struct #[⟨"Kind",3,0,false,"","",0⟩,⟨"N",2,1,false,"","",8⟩,⟨"S",9,2,false,"","",16⟩,⟨"L",29,3,false,"","",32⟩,⟨"F",30,4,false,"","",56⟩]):=by kernel_rfl
theorem yE:Tryz.prog.underlying 57=some (.struct #[⟨"Number",3,0,false,"","",0⟩,⟨"Value",32,1,false,"","",8⟩]):=by kernel_rfl
theorem PQ:Tryz.prog.underlying 29=some (.slice 32):=by kernel_rfl
theorem PW:Tryz.prog.underlying 30=some (.slice 57):=by kernel_rfl
theorem yI:Tryz.prog.underlying 2=some (.int .i64):=by kernel_rfl
theorem bV:Tryz.prog.bytesOf 32=80:=by kernel_rfl
theorem bE:Tryz.prog.bytesOf 57=88:=by kernel_rfl
theorem aMR:∀ {t:TypeId} {cs:List C},FitW Tryz.prog t cs->(t=32->∃ a,cs=aV a/\VlOk a)/\(t=29->∃ l:List Vl,cs=[.fz (l.map aV)]/\l.length * 80<=140737488355328/\∀ a ∈ l,VlOk a)/\
    (t=57->∃ x:Int × Vl,cs=aY x/\(bJ x.1/\VlOk x.2))/\(t=30->∃ l:List (Int × Vl),cs=[.fz (l.map aY)]/\l.length * 88<=140737488355328/\∀ x ∈ l,bJ x.1/\VlOk x.2):=by
  intro t cs h
  induction h with
  | int h1 _=>exact ⟨fun e=>(by rw [e,yV] at h1; cases h1),fun e=>(by rw [e,PQ] at h1; cases h1),fun e=>(by rw [e,yE] at h1; cases h1),fun e=>(by rw [e,PW] at h1; cases h1)⟩
  | bool h1=>exact ⟨fun e=>(by rw [e,yV] at h1; cases h1),fun e=>(by rw [e,PQ] at h1; cases h1),fun e=>(by rw [e,yE] at h1; cases h1),fun e=>(by rw [e,PW] at h1; cases h1)⟩
  | str h1 _=>exact ⟨fun e=>(by rw [e,yV] at h1; cases h1),fun e=>(by rw [e,PQ] at h1; cases h1),fun e=>(by rw [e,yE] at h1; cases h1),fun e=>(by rw [e,PW] at h1; cases h1)⟩
  | @sl t e xs h1 h2 h3 h4 ih=>
    refine ⟨fun e=>(by rw [e,yV] at h1; cases h1),fun e=>?_,fun e=>(by rw [e,yE] at h1; cases h1),fun e=>?_⟩
    · subst e
      rw [PQ] at h1
      cases h1
      obtain ⟨l,rfl,hl⟩:=i6 (row:=aV) (Q:=VlOk) fun r hr=>(ih r hr).1 rfl
      rw [bV] at h3
      exact ⟨l,rfl,by simp [reachBytes] at h3; omega,hl⟩
    · subst e
      rw [PW] at h1
      cases h1
      obtain ⟨l,rfl,hl⟩:=i6 (row:=aY) (Q:=fun x:Int × Vl=>bJ x.1/\VlOk x.2) fun r hr=>(ih r hr).2.2.1 rfl
      rw [bE] at h3
      exact ⟨l,rfl,by simp [reachBytes] at h3; omega,hl⟩
  | @st t fs parts h1 h2 h3 ih=>
    refine ⟨fun e=>?_,fun e=>(by rw [e,PQ] at h1; cases h1),fun e=>?_,fun e=>(by rw [e,PW] at h1; cases h1)⟩
    · subst e
      rw [yV] at h1
      cases h1
      match parts,h2 with
      | [p0,p1,p2,p3,p4],_=>
        obtain ⟨k,rfl,hk⟩:=Fit.inv_int v3 (h3 0 _ p0 rfl rfl).fit
        obtain ⟨n,rfl,hn⟩:=Fit.inv_int yI (h3 1 _ p1 rfl rfl).fit
        obtain ⟨s,rfl,hs⟩:=Fit.inv_str v9 (h3 2 _ p2 rfl rfl).fit
        obtain ⟨l,rfl,hl,ho⟩:=(ih 3 _ p3 rfl rfl).2.1 rfl
        obtain ⟨f,rfl,hf,hp⟩:=(ih 4 _ p4 rfl rfl).2.2.2 rfl
        exact ⟨.mk k n s l f,by rw [aV,vC,wH]; rfl,.mk (sD hk) (sD hn) (lN hs) hl hf ho (fun x hx=>(hp x hx).1) (fun x hx=>(hp x hx).2)⟩
    · subst e
      rw [yE] at h1
      cases h1
      match parts,h2 with
      | [p0,p1],_=>
        obtain ⟨k,rfl,hk⟩:=Fit.inv_int v3 (h3 0 _ p0 rfl rfl).fit
        obtain ⟨v,rfl,hv⟩:=(ih 1 _ p1 rfl rfl).1 rfl
        exact ⟨(k,v),by simp [aY],sD hk,hv⟩
theorem aF1 (cs:List C) (h:FitW Tryz.prog 32 cs):∃ a,cs=aV a/\VlOk a:=(aMR h).1 rfl
end Go.Proofs.YtkpohmhenegkiaaGreatDoor
