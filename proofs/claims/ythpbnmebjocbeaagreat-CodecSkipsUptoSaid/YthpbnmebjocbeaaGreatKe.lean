/- Lemmas and walks for the proof. -/
import Derived.Test.YthpbnmebjocbeaaGreatKd
import Derived.Test.YthpbnmebjocbeaaGreatProg
set_option maxRecDepth 100000
set_option maxHeartbeats 8000000
namespace Go.Proofs.YthpbnmebjocbeaaGreat
open Go.W
def VC:PC:=.seq (.reg [.e 2 (.bx 29 (.t 0)),.e 3 (.bx 29 (.t 1)),.q 4 (.mv (.k (.bool false)))]) (.seq (.reg [.l 5 (.ldn 5 (.t 2)),.l 6 (.ldn 5 (.t 3)),.a 7 (.cl 32 [(.t 5),(.t 6)] []),.q 8 (.bin .eql true (.t 7) (.i 0)),.v 4 8]) .ret)
def R5:List RV:=[.mv (.t 4)]
theorem aGP:aP Tryz.prog true ⟨fun r k=>if r=1/\k=2 then .own [] else .own [],fun _=>false⟩ Tryz.f14=some (VC,R5):=by kernel_rfl
def nT:PC:=.seq (.gh (.reg [.q 136 (.fa 4 (.t 2)),.l 137 (.ld1 (.t 136)),.q 138 (.lnL (.t 137)),.q 139 (.fa 4 (.t 3)),.l 140 (.ld1 (.t 139)),.q 141 (.lnL (.t 140)),.a 142 (.cq 58 [(.t 138),(.t 141)]),.v 4 142])) .ret
@[go_sem ↓] theorem aHC:aL nT:=aM _
def tN:PC:=.seq (.seq (.gh (.reg [.q 8 (.mv (.i 0))])) (.block 2 (.loop (.seq (.seq (.reg [.v 80 8,.q 81 (.fa 4 (.t 2)),.l 82 (.ld1 (.t 81)),.q 83 (.lnL (.t 82)),.q 84 (.bin .lss true (.t 80) (.t 83)),.v 85 84,⟨some 86,(some (85,true)),.q (.mv (.t 8))⟩,⟨some 87,(some (85,true)),.q (.fa 4 (.t 3))⟩,⟨some 88,(some (85,true)),.l (.ld1 (.t 87))⟩,⟨some 89,(some (85,true)),.q (.lnL (.t 88))⟩,⟨some 90,(some (85,true)),.q (.bin .lss true (.t 86) (.t 89))⟩,.a 91 (.pick (.t 85) (.t 90) (.k (.bool false)))]) (.cond (.t 91) .skip (.exit 2))) (.seq (.block 3 (.seq (.seq (.reg [.q 94 (.fa 4 (.t 2)),.l 95 (.ld1 (.t 94)),.v 96 8,.l 97 (.ia 6 (.t 95) (.t 96)),.q 98 (.fa 0 (.t 97)),.l 99 (.ld1 (.t 98)),.q 100 (.fa 4 (.t 3)),.l 101 (.ld1 (.t 100)),.v 102 8,.l 103 (.ia 6 (.t 101) (.t 102)),.q 104 (.fa 0 (.t 103)),.l 105 (.ld1 (.t 104)),.q 106 (.bin .neq true (.t 99) (.t 105))]) (.cond (.t 106) (.seq (.reg [.q 107 (.fa 4 (.t 2)),.l 108 (.ld1 (.t 107)),.v 109 8,.l 110 (.ia 6 (.t 108) (.t 109)),.q 111 (.fa 0 (.t 110)),.l 112 (.ld1 (.t 111)),.q 113 (.fa 4 (.t 3)),.l 114 (.ld1 (.t 113)),.v 115 8,.l 116 (.ia 6 (.t 114) (.t 115)),.q 117 (.fa 0 (.t 116)),.l 118 (.ld1 (.t 117)),.a 119 (.cq 58 [(.t 112),(.t 118)]),.v 4 119]) .ret) .skip)) (.seq (.reg [.q 120 (.fa 4 (.t 2)),.l 121 (.ld1 (.t 120)),.v 122 8,.l 123 (.ia 6 (.t 121) (.t 122)),.q 124 (.fa 1 (.t 123)),.l 125 (.ldn 5 (.t 124)),.q 126 (.fa 4 (.t 3)),.l 127 (.ld1 (.t 126)),.v 128 8,.l 129 (.ia 6 (.t 127) (.t 128)),.q 130 (.fa 1 (.t 129)),.l 131 (.ldn 5 (.t 130)),.a 132 (.cl 32 [(.t 125),(.t 131)] []),.v 9 132]) (.seq (.reg [.v 133 9,.q 134 (.bin .neq true (.t 133) (.i 0))]) (.cond (.t 134) (.seq (.reg [.v 135 9,.v 4 135]) .ret) .skip))))) (.reg [.v 92 8,.q 93 (.bin .add true (.t 92) (.i 1)),.v 8 93])))))) (nT)
@[go_sem ↓] theorem aGQ:aL tN:=aM _
def lY:PC:=.seq (.seq (.gh (.reg [.q 66 (.fa 3 (.t 2)),.l 67 (.ld1 (.t 66)),.q 68 (.lnL (.t 67)),.q 69 (.fa 3 (.t 3)),.l 70 (.ld1 (.t 69)),.q 71 (.lnL (.t 70)),.q 72 (.bin .neq true (.t 68) (.t 71))])) (.cond (.t 72) (.seq (.reg [.q 73 (.fa 3 (.t 2)),.l 74 (.ld1 (.t 73)),.q 75 (.lnL (.t 74)),.q 76 (.fa 3 (.t 3)),.l 77 (.ld1 (.t 76)),.q 78 (.lnL (.t 77)),.a 79 (.cq 58 [(.t 75),(.t 78)]),.v 4 79]) .ret) .skip)) (tN)
@[go_sem ↓] theorem aG7:aL lY:=aM _
def tW:PC:=.seq (.seq (.gh (.reg [.q 6 (.mv (.i 0))])) (.block 0 (.loop (.seq (.seq (.reg [.v 38 6,.q 39 (.fa 3 (.t 2)),.l 40 (.ld1 (.t 39)),.q 41 (.lnL (.t 40)),.q 42 (.bin .lss true (.t 38) (.t 41)),.v 43 42,⟨some 44,(some (43,true)),.q (.mv (.t 6))⟩,⟨some 45,(some (43,true)),.q (.fa 3 (.t 3))⟩,⟨some 46,(some (43,true)),.l (.ld1 (.t 45))⟩,⟨some 47,(some (43,true)),.q (.lnL (.t 46))⟩,⟨some 48,(some (43,true)),.q (.bin .lss true (.t 44) (.t 47))⟩,.a 49 (.pick (.t 43) (.t 48) (.k (.bool false)))]) (.cond (.t 49) .skip (.exit 0))) (.seq (.block 1 (.seq (.reg [.q 52 (.fa 3 (.t 2)),.l 53 (.ld1 (.t 52)),.v 54 6,.l 55 (.ia 5 (.t 53) (.t 54)),.l 56 (.ldn 5 (.t 55)),.q 57 (.fa 3 (.t 3)),.l 58 (.ld1 (.t 57)),.v 59 6,.l 60 (.ia 5 (.t 58) (.t 59)),.l 61 (.ldn 5 (.t 60)),.a 62 (.cl 32 [(.t 56),(.t 61)] []),.v 7 62]) (.seq (.reg [.v 63 7,.q 64 (.bin .neq true (.t 63) (.i 0))]) (.cond (.t 64) (.seq (.reg [.v 65 7,.v 4 65]) .ret) .skip)))) (.reg [.v 50 6,.q 51 (.bin .add true (.t 50) (.i 1)),.v 6 51])))))) (lY)
@[go_sem ↓] theorem aHX:aL tW:=aM _
def sB:PC:=.seq (.seq (.gh (.reg [.q 30 (.fa 2 (.t 2)),.l 31 (.ld1 (.t 30)),.q 32 (.fa 2 (.t 3)),.l 33 (.ld1 (.t 32)),.a 34 (.cq 59 [(.t 31),(.t 33)]),.v 5 34])) (.seq (.reg [.v 35 5,.q 36 (.bin .neq true (.t 35) (.i 0))]) (.cond (.t 36) (.seq (.reg [.v 37 5,.v 4 37]) .ret) .skip))) (tW)
@[go_sem ↓] theorem aJH:aL sB:=aM _
def mT:PC:=.seq (.seq (.gh (.reg [.q 20 (.fa 1 (.t 2)),.l 21 (.ld1 (.t 20)),.q 22 (.fa 1 (.t 3)),.l 23 (.ld1 (.t 22)),.q 24 (.bin .lss true (.t 21) (.t 23))])) (.cond (.t 24) (.seq (.reg [.q 4 (.mv (.i (-1)))]) .ret) .skip)) (.seq (.seq (.reg [.q 25 (.fa 1 (.t 2)),.l 26 (.ld1 (.t 25)),.q 27 (.fa 1 (.t 3)),.l 28 (.ld1 (.t 27)),.q 29 (.bin .gtr true (.t 26) (.t 28))]) (.cond (.t 29) (.seq (.reg [.q 4 (.mv (.i 1))]) .ret) .skip)) (sB))
@[go_sem ↓] theorem aIK:aL mT:=aM _
def JZ:PC:=.seq (.reg [.e 2 (.bx 29 (.t 0)),.e 3 (.bx 29 (.t 1)),.q 4 (.mv (.i 0))]) (.seq (.seq (.reg [.q 10 (.fa 0 (.t 2)),.l 11 (.ld1 (.t 10)),.q 12 (.fa 0 (.t 3)),.l 13 (.ld1 (.t 12)),.q 14 (.bin .neq true (.t 11) (.t 13))]) (.cond (.t 14) (.seq (.reg [.q 15 (.fa 0 (.t 2)),.l 16 (.ld1 (.t 15)),.q 17 (.fa 0 (.t 3)),.l 18 (.ld1 (.t 17)),.a 19 (.cq 58 [(.t 16),(.t 18)]),.v 4 19]) .ret) .skip)) (mT))
def I1:List RV:=[.mv (.t 4)]
theorem aH0:aP Tryz.prog true ⟨fun r k=>if r=2/\k=4 then .q else if r=7/\k=4 then .q else if r=13/\k=10 then .own [] else if r=17/\k=6 then .q else if r=22/\k=12 then .q else if r=23/\k=12 then .own [] else if r=26/\k=6 then .q else .own [],fun r=>[3,7,10,16,18,26].contains r⟩ Tryz.f32=some (JZ,I1):=by kernel_rfl
def BU:List S->Prop:=fun av=>match av with
 | [.va (.c1 (.vl (.string a))),.va (.c1 (.vl (.string b)))]=>a.size<=9223372036854775807/\b.size<=9223372036854775807
 | _=>False
theorem oU {av:List S} (h:BU av):∃ a b:List UInt8,av=[tS (mk a),tS (mk b)]/\a.length<=9223372036854775807/\b.length<=9223372036854775807:=by
 unfold BU at h
 split at h
 · rename_i a b
   rw [cJ,cJ] at h
   exact ⟨bl a,bl b,by rw [fJ,fJ],h.1,h.2⟩
 · exact h.elim
def soFn:Fun:=⟨BU,J0,fun av h=>by obtain ⟨a,b,rfl,_⟩:=oU h; trivial⟩
theorem PD:∀ av H K,soFn.sp av H K->av.length=2:=fun av H K h=>by obtain ⟨a,b,rfl,_⟩:=oU h.1.1; rfl
attribute [go_sem] soFn BU
theorem NJ (x y:UInt8) (a b:List UInt8):Lib.compareBytes (x :: a) (y :: b)=if x < y then -1 else if y < x then 1 else Lib.compareBytes a b:=by rw [Lib.compareBytes]
theorem aBA (x y:UInt8):decide ((x.toNat:Int) < (y.toNat:Int))=decide (x < y):=by
 rw [Bool.eq_iff_iff,decide_eq_true_iff,decide_eq_true_iff,UInt8.lt_iff_toNat_lt]; omega
theorem XG:Meets Tryz.prog 59 soFn.sp:=by
 refine aD Tryz.func59 aN9 2 (by rw [Tryz.ntmps59]; decide) (aH S6 (aB _)) PD ?_
 rintro av H K ⟨⟨h,rfl⟩,hK⟩
 obtain ⟨a,b,rfl,ha,hb⟩:=oU h
 have hK:K (iS .i64 (Lib.compareBytes a b)) []:=hK
 clear h
 have fin:∀ (r:Int) (R:Hp),Lib.compareBytes a b=r->W.Fin 0 K (iS .i64 r) R:=fun r R h=>by
  rw [h] at hK; exact .sel [] (by simp) (by simp) rfl (.done (by simpa [go_sem] using hK))
 clear hK
 simp (maxSteps:=1000000) -dsimp only [go_sem,ZC,Y9]
 refine aU (α:=Nat) (fun i=>[(0,tS (mk a)),(1,tS (mk b)),(5,iS .i64 i)]) (fun _=>[])
  (fun i=>i<=a.length/\i<=b.length/\Lib.compareBytes (a.drop i) (b.drop i)=Lib.compareBytes a b) (fun i=>a.length - i) 0 0 ⟨Nat.zero_le _,Nat.zero_le _,rfl⟩ ?_ ?_ ?_
 · simp -dsimp only [go_sem]<;>simp
 · simp -dsimp only [go_sem]<;>simp
 rintro i ⟨hi,hib,ho⟩
 rcases a8 i a.length with hlt | hge
 · have hg:decide ((i:Int) < (a.length:Int))=true:=by simp; omega
   obtain ⟨x,hx⟩:∃ c,a[i]? = some c:=⟨_,aV hlt⟩
   have hdx:a.drop i=x :: a.drop (i + 1):=by
    obtain ⟨h,rfl⟩:=bB.1 hx
    exact List.drop_eq_getElem_cons h
   rcases a8 i b.length with hlt2 | hge2
   · have hg2:decide ((i:Int) < (b.length:Int))=true:=by simp; omega
     obtain ⟨y,hy⟩:∃ c,b[i]? = some c:=⟨_,aV hlt2⟩
     have hdy:b.drop i=y :: b.drop (i + 1):=by
      obtain ⟨h,rfl⟩:=bB.1 hy
      exact List.drop_eq_getElem_cons h
     rw [hdx,hdy,NJ] at ho
     simp (maxSteps:=1000000) -dsimp only [go_sem,hg,hg2,hx,hy,aF,forall_eq',aBA]
     refine ⟨by omega,by omega,fun h1=>fin _ _ ?_,fun h1=>⟨by omega,by omega,fun h2=>fin _ _ ?_,fun h2=>?_⟩⟩
     · rw [<-ho,if_pos (of_decide_eq_true h1)]
     · rw [<-ho,if_neg (of_decide_eq_false h1),if_pos (of_decide_eq_true h2)]
     · rw [if_neg (of_decide_eq_false h1),if_neg (of_decide_eq_false h2)] at ho
       refine ⟨by omega,aE (i + 1) 0 ⟨by omega,by omega,ho⟩ (by omega) ?_ ?_⟩
       · simp -dsimp only [go_sem]<;>simp
       · simp -dsimp only [go_sem]<;>simp
   · have hg2:decide ((i:Int) < (b.length:Int))=false:=by simp; omega
     have hdy:b.drop i=[]:=List.drop_eq_nil_iff.2 hge2
     rw [hdx,hdy,Lib.compareBytes] at ho
     simp (maxSteps:=1000000) -dsimp only [go_sem,hg,hg2]
     exact fin _ _ (by rw [<-ho]; unfold jY; rw [decide_eq_false (by omega),decide_eq_true (by omega)]; rfl)
 · have hg:decide ((i:Int) < (a.length:Int))=false:=by simp; omega
   have hdx:a.drop i=[]:=List.drop_eq_nil_iff.2 hge
   rw [hdx] at ho
   simp (maxSteps:=1000000) -dsimp only [go_sem,hg]
   refine fin _ _ ?_
   rw [<-ho]
   unfold jY
   rcases a8 i b.length with hlt2 | hge2
   · obtain ⟨y,hy⟩:∃ c,b[i]? = some c:=⟨_,aV hlt2⟩
     have hdy:b.drop i=y :: b.drop (i + 1):=by
      obtain ⟨h,rfl⟩:=bB.1 hy
      exact List.drop_eq_getElem_cons h
     rw [hdy,Lib.compareBytes,decide_eq_true (by omega)]; rfl
   · have hdy:b.drop i=[]:=List.drop_eq_nil_iff.2 hge2
     rw [hdy,Lib.compareBytes,decide_eq_false (by omega),decide_eq_false (by omega)]; rfl
theorem AY:∀ N,Meets Tryz.prog 32 (zV N)
 | 0=>⟨by kernel_rfl,by rintro xs vs E ro w K _ _ _ ⟨a,_,_,_,_,_,h,_⟩; have:=a.h_pos; omega⟩
 | N + 1=>by
  refine aD Tryz.func32 aH0 2 (by rw [Tryz.ntmps32]; decide) (aC (AY N) (aH S6 (aH XG (aB _)))) (fun av H K h=>by obtain ⟨_,_,rfl,_⟩:=h; rfl) ?_
  rintro av H K ⟨a,b,rfl,rfl,ha,hb,hh,hK⟩
  have hE:=LM a b
  have fin:∀ (r:Int) (R:Hp),(r == 0)=cZ a b->W.Fin 0 K (iS .i64 r) R:=fun r R h=>.sel [] (by simp) (by simp) rfl (.done (by simpa [go_sem] using hK r h))
  clear hK
  have hs1:=lT a.k b.k
  have hs3:=DK (bl a.s) (bl b.s)
  have hs5:=lT (a.l.length:Int) (b.l.length:Int)
  have hla:=ha.ll
  have hlb:=hb.ll
  have hfa:=ha.lf
  have hfb:=hb.lf
  have hsa:(a.s.size<=9223372036854775807)=True:=eq_true ha.s
  have hsb:(b.s.size<=9223372036854775807)=True:=eq_true hb.s
  cases c1:a.k == b.k with
  | false=>
   have c1':(a.k != b.k)=true:=by rw [bne,c1]; rfl
   rw [c1] at hs1 hE
   simp (maxSteps:=1000000) -dsimp only [go_sem,aK a,aK b,JZ,I1,c1']
   exact fin _ _ (by rw [hs1,hE]; rfl)
  | true=>
  have c1':(a.k != b.k)=false:=by rw [bne,c1]; rfl
  rw [c1,Bool.true_and] at hE
  simp (maxSteps:=1000000) -dsimp only [go_sem,aK a,aK b,JZ,I1,c1']
  refine aA rfl (.done ?_)
  cases c2:decide (a.n < b.n) with
  | true=>
   have c2':=of_decide_eq_true c2
   rw [show (a.n == b.n)=false by simp; omega] at hE
   simp (maxSteps:=1000000) -dsimp only [go_sem,mT,c2]
   exact fin _ _ (by rw [hE]; rfl)
  | false=>
  cases c3:decide (b.n < a.n) with
  | true=>
   have c3':=of_decide_eq_true c3
   rw [show (a.n == b.n)=false by simp; omega] at hE
   simp (maxSteps:=1000000) -dsimp only [go_sem,mT,c2,c3]
   exact fin _ _ (by rw [hE]; rfl)
  | false=>
  have c2':=of_decide_eq_false c2
  have c3':=of_decide_eq_false c3
  rw [show (a.n == b.n)=true by simp; omega,Bool.true_and] at hE
  simp (maxSteps:=1000000) -dsimp only [go_sem,mT,c2,c3]
  refine aA rfl (.done ?_)
  cases c4:Lib.compareBytes (bl a.s) (bl b.s) == 0 with
  | false=>
   have c4':(Lib.compareBytes (bl a.s) (bl b.s) != 0)=true:=by rw [bne,c4]; rfl
   rw [c4] at hs3
   rw [<-hs3] at hE
   simp (maxSteps:=1000000) -dsimp only [go_sem,sB,hsa,hsb,c4']
   exact fin _ _ (by rw [hE,c4]; rfl)
  | true=>
  have c4':(Lib.compareBytes (bl a.s) (bl b.s) != 0)=false:=by rw [bne,c4]; rfl
  rw [c4] at hs3
  rw [<-hs3,Bool.true_and] at hE
  simp (maxSteps:=1000000) -dsimp only [go_sem,sB,hsa,hsb,c4']
  refine aA rfl (.done ?_)
  simp (maxSteps:=1000000) -dsimp only [go_sem,tW]
  refine aU (α:=Nat) (fun i=>[(2,.va (.c1 (.pt 0 0))),(3,.va (.c1 (.pt 1 0))),(6,iS .i64 i)]) (fun _=>[.cells (bE a) 29,.cells (bE b) 29])
   (fun i=>i<=a.l.length/\i<=b.l.length/\eQ (a.l.drop i) (b.l.drop i)=eQ a.l b.l) (fun i=>a.l.length - i) 0 2 ⟨Nat.zero_le _,Nat.zero_le _,rfl⟩ ?_ ?_ ?_
  · simp -dsimp only [go_sem]<;>simp
  · simp -dsimp only [go_sem,bE]<;>simp
  rintro i ⟨hi,hib,ho⟩
  have more:∀ (x y:Vl),a.l[i]? = some x->b.l[i]? = some y->eQ (a.l.drop i) (b.l.drop i)=(cZ x y && eQ (a.l.drop (i + 1)) (b.l.drop (i + 1))):=fun x y hx hy=>by
   obtain ⟨h1,rfl⟩:=bB.1 hx
   obtain ⟨h2,rfl⟩:=bB.1 hy
   rw [List.drop_eq_getElem_cons h1,List.drop_eq_getElem_cons h2,FF]
  rcases a8 i a.l.length with hlt | hge
  · rcases a8 i b.l.length with hlt2 | hge2
    · have hg:decide ((i:Int) < (a.l.length:Int))=true:=by simp; omega
      have hg2:decide ((i:Int) < (b.l.length:Int))=true:=by simp; omega
      have hx:a.l[i]? = some a.l[i]:=aV hlt
      have hy:b.l[i]? = some b.l[i]:=aV hlt2
      have q1:=mH hx
      have q2:=mH hy
      have hxm:=List.getElem_mem hlt
      have hym:=List.getElem_mem hlt2
      rw [more _ _ hx hy] at ho
      have hxh:=Vl.h_l hxm
      have hxo:=ha.l _ hxm
      have hyo:=hb.l _ hym
      generalize a.l[i]=x at *
      generalize b.l[i]=y at *
      simp (maxSteps:=1000000) -dsimp only [go_sem,bE,hg,hg2,↓q1,↓q2]
      refine ⟨by omega,by omega,m1 hxo hyo (by omega) fun r hr=>?_⟩
      rw [<-hr] at ho
      simp (maxSteps:=1000000) -dsimp only [go_sem]
      refine ⟨fun h1=>fin r _ ?_,fun h1=>?_⟩
      · have h2:(r == 0)=false:=by simpa using h1
        rw [h2,Bool.false_and] at ho
        rw [h2,hE,<-ho]; rfl
      · have h2:(r == 0)=true:=by simpa using h1
        rw [h2,Bool.true_and] at ho
        refine ⟨by omega,aE (i + 1) 2 ⟨by omega,by omega,ho⟩ (by omega) ?_ ?_⟩
        · simp -dsimp only [go_sem]<;>simp
        · simp -dsimp only [go_sem,bE]<;>simp [bE]
    · have hg:decide ((i:Int) < (a.l.length:Int))=true:=by simp; omega
      have hg2:decide ((i:Int) < (b.l.length:Int))=false:=by simp; omega
      have hne:((a.l.length:Int) != (b.l.length:Int))=true:=by simp; omega
      rw [List.drop_eq_nil_iff.2 hge2,List.drop_eq_getElem_cons hlt,eQ] at ho
      simp (maxSteps:=1000000) -dsimp only [go_sem,bE,hg,hg2]
      refine aA rfl (.done ?_)
      simp (maxSteps:=1000000) -dsimp only [go_sem,lY,hne]
      refine fin _ _ ?_
      rw [hs5,hE,<-ho]
      simp; omega
  · have hg:decide ((i:Int) < (a.l.length:Int))=false:=by simp; omega
    obtain rfl:i=a.l.length:=by omega
    rw [List.drop_length] at ho
    simp (maxSteps:=1000000) -dsimp only [go_sem,bE,hg]
    refine aA rfl (.done ?_)
    rcases a8 a.l.length b.l.length with hlt2 | hge2
    · have hne:((a.l.length:Int) != (b.l.length:Int))=true:=by simp; omega
      rw [List.drop_eq_getElem_cons hlt2,eQ] at ho
      simp (maxSteps:=1000000) -dsimp only [go_sem,lY,hne]
      refine fin _ _ ?_
      rw [hs5,hE,<-ho]
      simp; omega
    · have hle:a.l.length=b.l.length:=by omega
      have hne:((a.l.length:Int) != (b.l.length:Int))=false:=by simp; omega
      rw [List.drop_eq_nil_iff.2 hge2,eQ] at ho
      rw [<-ho,Bool.true_and] at hE
      simp (maxSteps:=1000000) -dsimp only [go_sem,lY,hne]
      refine aA rfl (.done ?_)
      simp (maxSteps:=1000000) -dsimp only [go_sem,tN]
      clear ho more hi hib hge hg hs5 hne hle hge2
      have hs6:=lT (a.f.length:Int) (b.f.length:Int)
      refine aU (α:=Nat) (fun i=>[(2,.va (.c1 (.pt 0 0))),(3,.va (.c1 (.pt 1 0))),(8,iS .i64 i)]) (fun _=>[.cells (bE a) 29,.cells (bE b) 29])
       (fun i=>i<=a.f.length/\i<=b.f.length/\eE (a.f.drop i) (b.f.drop i)=eE a.f b.f) (fun i=>a.f.length - i) 0 2 ⟨Nat.zero_le _,Nat.zero_le _,rfl⟩ ?_ ?_ ?_
      · simp -dsimp only [go_sem]<;>simp
      · simp -dsimp only [go_sem,bE]<;>simp [bE]
      rintro i ⟨hi,hib,ho⟩
      rcases a8 i a.f.length with hlt | hge
      · rcases a8 i b.f.length with hlt2 | hge2
        · have hg:decide ((i:Int) < (a.f.length:Int))=true:=by simp; omega
          have hg2:decide ((i:Int) < (b.f.length:Int))=true:=by simp; omega
          have hx:a.f[i]? = some a.f[i]:=aV hlt
          have hy:b.f[i]? = some b.f[i]:=aV hlt2
          have q1:=iF hx
          have q2:=iF hy
          have hxm:=List.getElem_mem hlt
          have hym:=List.getElem_mem hlt2
          rw [List.drop_eq_getElem_cons hlt,List.drop_eq_getElem_cons hlt2,FT] at ho
          have hxh:=Vl.h_f hxm
          have hxo:=ha.f _ hxm
          have hyo:=hb.f _ hym
          generalize a.f[i]=x at *
          generalize b.f[i]=y at *
          have hs7:=lT x.1 y.1
          cases c7:x.1 == y.1 with
          | false=>
           have c7':(x.1 != y.1)=true:=by rw [bne,c7]; rfl
           rw [c7,Bool.false_and] at ho
           rw [c7] at hs7
           simp (maxSteps:=1000000) -dsimp only [go_sem,bE,hg,hg2,↓q1,↓q2,c7']
           refine ⟨by omega,by omega,by omega,by omega,fin _ _ (by rw [hs7,hE,<-ho])⟩
          | true=>
           have c7':(x.1 != y.1)=false:=by rw [bne,c7]; rfl
           rw [c7,Bool.true_and] at ho
           simp (maxSteps:=1000000) -dsimp only [go_sem,bE,hg,hg2,↓q1,↓q2,c7',List.take_succ_cons,List.take_zero,List.length_cons,List.length_nil]
           refine ⟨by omega,by omega,by omega,by omega,m1 hxo hyo (by omega) fun r hr=>?_⟩
           rw [<-hr] at ho
           simp (maxSteps:=1000000) -dsimp only [go_sem]
           refine ⟨fun h1=>fin r _ ?_,fun h1=>?_⟩
           · have h2:(r == 0)=false:=by simpa using h1
             rw [h2,Bool.false_and] at ho
             rw [h2,hE,<-ho]
           · have h2:(r == 0)=true:=by simpa using h1
             rw [h2,Bool.true_and] at ho
             refine ⟨by omega,aE (i + 1) 2 ⟨by omega,by omega,ho⟩ (by omega) ?_ ?_⟩
             · simp -dsimp only [go_sem]<;>simp
             · simp -dsimp only [go_sem,bE]<;>simp [bE]
        · have hg:decide ((i:Int) < (a.f.length:Int))=true:=by simp; omega
          have hg2:decide ((i:Int) < (b.f.length:Int))=false:=by simp; omega
          have he:∀ x:Int × Vl,eE (x :: a.f.drop (i + 1)) []=false:=fun x=>by obtain ⟨j,x⟩:=x; rw [eE]
          rw [List.drop_eq_nil_iff.2 hge2,List.drop_eq_getElem_cons hlt,he] at ho
          simp (maxSteps:=1000000) -dsimp only [go_sem,bE,hg,hg2]
          refine aA rfl (.done ?_)
          simp (maxSteps:=1000000) -dsimp only [go_sem,nT]
          refine fin _ _ ?_
          rw [hs6,hE,<-ho]
          simp; omega
      · have hg:decide ((i:Int) < (a.f.length:Int))=false:=by simp; omega
        obtain rfl:i=a.f.length:=by omega
        rw [List.drop_length] at ho
        simp (maxSteps:=1000000) -dsimp only [go_sem,bE,hg]
        refine aA rfl (.done ?_)
        simp (maxSteps:=1000000) -dsimp only [go_sem,nT]
        refine fin _ _ ?_
        rw [hs6,hE,<-ho]
        rcases a8 a.f.length b.f.length with hlt2 | hge2
        · have he:∀ x:Int × Vl,eE [] (x :: b.f.drop (a.f.length + 1))=false:=fun x=>by obtain ⟨j,x⟩:=x; rw [eE]
          rw [List.drop_eq_getElem_cons hlt2,he]
          simp; omega
        · rw [List.drop_eq_nil_iff.2 hge2,eE]
          simp; omega
theorem N9 (N:Nat):Meets Tryz.prog 14 (fun av H K=>∃ a b:Vl,av=[.va (.gs (aQ a)),.va (.gs (aQ b))]/\H=[]/\VlOk a/\VlOk b/\a.h<=N/\K (bS (cZ a b)) []):=by
 refine aD Tryz.func14 aGP 2 (by rw [Tryz.ntmps14]; decide) (aC (AY N) (aB _)) (fun av H K h=>by obtain ⟨_,_,rfl,_⟩:=h; rfl) ?_
 rintro av H K ⟨a,b,rfl,rfl,ha,hb,hh,hK⟩
 simp (maxSteps:=1000000) -dsimp only [go_sem,aK a,aK b,VC,R5]
 refine m1 ha hb hh fun r hr=>?_
 simp (maxSteps:=1000000) -dsimp only [go_sem]
 exact .sel [] (by simp) (by simp) rfl (.done (by rw [hr]; simpa [go_sem] using hK))
theorem HZ:Meets Tryz.prog 14 eqFn2.sp:=d5 (0:Nat) N9 fun av H K h=>by
 obtain ⟨⟨h,e⟩,hK⟩:=h
 obtain ⟨a,b,rfl,ha,hb⟩:=nV h
 have hK:K (bS (cZ (C.vv (aQ a)) (C.vv (aQ b)))) []:=hK
 rw [gJ,gJ] at hK
 exact ⟨a.h,a,b,rfl,e,ha,hb,Nat.le_refl _,hK⟩
def BP:PC:=.seq (.gh (.reg [.l 29 (.ldn 3 (.t 3)),.l 30 (.ldn 2 (.t 8)),.l 31 (.ldn 5 (.t 5)),.a 32 (.cq 26 [(.t 29),(.t 30),(.t 31)]),.v 11 32])) (.seq (.seq (.reg [.v 33 11,.q 34 (.lnS (.t 33)),.q 35 (.bin .gtr true (.t 34) (.i 2000))]) (.cond (.t 35) (.seq (.reg [.q 6 (.mv (.k (.string (mk [])))),.q 7 (.mv (.i 3))]) .ret) .skip)) (.seq (.reg [.v 36 11,.v 6 36,.q 7 (.mv (.i 0))]) .ret))
@[go_sem ↓] theorem aPH:aL BP:=aM _
def CR:PC:=.seq (.seq (.gh (.ord  [.q (.l 21 (.ldn 3 (.t 3))),.q (.v 22 1),.q (.l 24 (.ldn 5 (.t 5))),.m (.a 23 (.cl 25 [(.t 22)] [])),.rc (.l 21 (.ldn 3 (.t 3))),.rc (.l 24 (.ldn 5 (.t 5))),.m (.a 25 (.cq 24 [(.t 21),(.t 23),(.t 24)])),.m (.v 10 25)])) (.seq (.reg [.v 26 10,.q 27 (.bin .neq true (.t 26) (.i 0))]) (.cond (.t 27) (.seq (.reg [.v 28 10,.q 6 (.mv (.k (.string (mk [])))),.v 7 28]) .ret) .skip))) (BP)
@[go_sem ↓] theorem aQK:aL CR:=aM _
def qU:PC:=.seq (.seq (.gh (.reg [.v 18 9,.q 19 (.bin .neq true (.t 18) (.i 0))])) (.cond (.t 19) (.seq (.reg [.v 20 9,.q 6 (.mv (.k (.string (mk [])))),.v 7 20]) .ret) .skip)) (CR)
@[go_sem ↓] theorem aQP:aL qU:=aM _
def pc9:PC:=.seq (.reg [.e 3 (.bx 25 (.t 0)),.e 5 (.bx 29 (.t 2)),.q 6 (.mv (.k (.string (mk [])))),.q 7 (.mv (.i 0))]) (.seq (.reg [.l 13 (.ldn 3 (.t 3)),.v 14 1,.a 15 (.cl 23 [(.t 13),(.t 14)] []),.v 12 15,.q 16 (.ex (.t 12) 0),.q 17 (.ex (.t 12) 1),.e 8 (.al (.agg #[(.string (mk [])),(.slice none 0 0)]) 48),.s (.st 2 (.t 8) (.t 16)),.v 9 17]) (qU))
def rs9:List RV:=[.mv (.t 6),.mv (.t 7)]
theorem ok9:aP Tryz.prog true ⟨fun r k=>if r=4/\k=4 then .q else if r=7/\k=3 then .q else .own [],fun r=>[2,4,7].contains r⟩ Tryz.f9=some (pc9,rs9):=by kernel_rfl
def DZ:PC:=.seq (.gh (.reg [.l 24 (.ldn 3 (.t 3)),.l 25 (.ldn 2 (.t 8)),.v 26 2,.a 27 (.cl 30 [(.t 24),(.t 25),(.t 26)] []),.q 28 (.ex (.t 27) 0),.q 29 (.ex (.t 27) 1),.s (.st 5 (.t 6) (.t 28)),.v 7 29])) .ret
@[go_sem ↓] theorem aMJ:aL DZ:=aM _
def nJ:PC:=.seq (.seq (.gh (.reg [.v 16 9,.q 17 (.bin .neq true (.t 16) (.i 0))])) (.cond (.t 17) (.seq (.reg [.q 18 (.bd [(.int .i64 0),(.int .i64 0),(.string (mk [])),(.slice none 0 0),(.slice none 0 0)] []),.v 19 9,.s (.st 5 (.t 6) (.t 18)),.v 7 19]) .ret) .skip)) (.seq (.seq (.reg [.v 20 2,.q 21 (.lnS (.t 20)),.q 22 (.bin .gtr true (.t 21) (.i 2000))]) (.cond (.t 22) (.seq (.reg [.q 23 (.bd [(.int .i64 0),(.int .i64 0),(.string (mk [])),(.slice none 0 0),(.slice none 0 0)] []),.s (.st 5 (.t 6) (.t 23)),.q 7 (.mv (.i 3))]) .ret) .skip)) (DZ))
@[go_sem ↓] theorem aO1:aL nJ:=aM _
def aDY:PC:=.seq (.reg [.e 3 (.bx 25 (.t 0)),.e 6 (.al (.agg #[(.int .i64 0),(.int .i64 0),(.string (mk [])),(.slice none 0 0),(.slice none 0 0)]) 29),.q 7 (.mv (.i 0))]) (.seq (.reg [.l 11 (.ldn 3 (.t 3)),.v 12 1,.a 13 (.cl 23 [(.t 11),(.t 12)] []),.v 10 13,.q 14 (.ex (.t 10) 0),.q 15 (.ex (.t 10) 1),.e 8 (.al (.agg #[(.string (mk [])),(.slice none 0 0)]) 48),.s (.st 2 (.t 8) (.t 14)),.v 9 15]) (nJ))
def aA6:List RV:=[.ld (.ldn 5 (.t 6)),.mv (.t 7)]
theorem aOW:aP Tryz.prog true ⟨fun _ _=>.own [],fun r=>[2,6].contains r⟩ Tryz.f12=some (aDY,aA6):=by kernel_rfl
def u1:PC:=.seq (.seq (.gh (.reg [.v 18 7,.q 19 (.bin .neq true (.t 18) (.i 0))])) (.cond (.t 19) (.seq (.reg [.q 4 (.mv (.k (.string (mk [])))),.q 5 (.mv (.k (.bool false)))]) .ret) .skip)) (.seq (.seq (.reg [.v 20 6,.q 21 (.lnL (.t 20)),.q 22 (.mv (.i 0))]) (.block 0 (.loop (.seq (.reg [.q 23 (.bin .lss true (.t 22) (.t 21))]) (.seq (.cond (.t 23) .skip (.exit 0)) (.seq (.block 1 (.seq (.reg [.l 24 (.ia 2 (.t 20) (.t 22)),.l 25 (.ldn 2 (.t 24)),.e 9 (.al (.agg #[(.int .i64 0),(.string (mk []))]) 89),.s (.st 2 (.t 9) (.t 25))]) (.seq (.reg [.q 26 (.fa 0 (.t 9)),.l 27 (.ld1 (.t 26)),.v 28 1,.q 29 (.bin .eql true (.t 27) (.t 28))]) (.cond (.t 29) (.seq (.reg [.q 30 (.fa 1 (.t 9)),.l 31 (.ld1 (.t 30)),.v 4 31,.q 5 (.mv (.k (.bool true)))]) .ret) .skip)))) (.reg [.q 32 (.bin .add true (.t 22) (.i 1)),.v 22 32]))))))) (.seq (.reg [.q 4 (.mv (.k (.string (mk [])))),.q 5 (.mv (.k (.bool false)))]) .ret))
@[go_sem ↓] theorem aN5:aL u1:=aM _
def PU:PC:=.seq (.reg [.q 4 (.mv (.k (.string (mk [])))),.q 5 (.mv (.k (.bool false)))]) (.seq (.seq (.reg [.v 10 0,.q 11 (.lnS (.t 10)),.q 12 (.bin .gtr true (.t 11) (.i 2000))]) (.cond (.t 12) (.seq (.reg [.q 4 (.mv (.k (.string (mk [])))),.q 5 (.mv (.k (.bool false)))]) .ret) .skip)) (.seq (.reg [.v 14 0,.a 15 (.cl 38 [(.t 14)] []),.v 13 15,.q 16 (.ex (.t 13) 0),.q 17 (.ex (.t 13) 1),.v 6 16,.v 7 17]) (u1)))
def OQ:List RV:=[.mv (.t 4),.mv (.t 5)]
theorem aMK:aP Tryz.prog true ⟨fun _ _=>.own [],fun r=>[4].contains r⟩ Tryz.f21=some (PU,OQ):=by kernel_rfl
def u2:PC:=.seq (.gh (.reg [.v 11 6,.q 12 (.bin .neq true (.t 11) (.i 0))])) (.cond (.t 12) (.seq (.reg [.q 13 (.bd [(.string (mk [])),(.slice none 0 0)] []),.v 14 6,.s (.st 2 (.t 4) (.t 13)),.v 5 14]) .ret) .skip)
@[go_sem ↓] theorem aK7:aL u2:=aM _
def uU:PC:=.seq (.seq (.gh (.reg [.v 21 8,.q 22 (.not (.t 21))])) (.cond (.t 22) (.seq (.reg [.q 23 (.bd [(.string (mk [])),(.slice none 0 0)] []),.s (.st 2 (.t 4) (.t 23)),.q 5 (.mv (.i 6))]) .ret) .skip)) (.seq (.reg [.l 24 (.ldn 2 (.t 7)),.s (.st 2 (.t 4) (.t 24)),.q 5 (.mv (.i 0))]) .ret)
@[go_sem ↓] theorem aMT:aL uU:=aM _
def DL:PC:=.seq (.gh (.reg [.l 16 (.ldn 3 (.t 2)),.v 17 1,.a 18 (.cl 40 [(.t 16),(.t 17)] []),.v 15 18,.q 19 (.ex (.t 15) 0),.q 20 (.ex (.t 15) 1),.e 7 (.al (.agg #[(.string (mk [])),(.slice none 0 0)]) 48),.s (.st 2 (.t 7) (.t 19)),.v 8 20])) (uU)
@[go_sem ↓] theorem aN7:aL DL:=aM _
def aB3:PC:=.seq (.reg [.e 2 (.bx 25 (.t 0)),.e 4 (.al (.agg #[(.string (mk [])),(.slice none 0 0)]) 48),.q 5 (.mv (.i 0))]) (.seq (.seq (.reg [.l 9 (.ldn 3 (.t 2)),.a 10 (.cq 39 [(.t 9)]),.v 6 10]) (u2)) (DL))
def aB6:List RV:=[.ld (.ldn 2 (.t 4)),.mv (.t 5)]
theorem aO5:aP Tryz.prog true ⟨fun r k=>if r=1/\k=1 then .q else .own [],fun r=>[2,4,5].contains r⟩ Tryz.f23=some (aB3,aB6):=by kernel_rfl
def aEP:PC:=.seq (.reg [.e 2 (.al (.agg #[(.int .i64 0),(.int .i64 0),(.string (mk [])),(.slice none 0 0)]) 42)]) (.seq (.reg [.v 3 0,.q 4 (.bd [(.int .i64 0),(.int .i64 0),(.string (mk [])),(.slice none 0 0)] [(0,1,(.i 6)),(2,1,(.t 3))]),.s (.st 4 (.t 2) (.t 4))]) .ret)
def ZL:List RV:=[.ld (.ldn 4 (.t 2))]
theorem aOZ:aP Tryz.prog true ⟨fun _ _=>.own [],fun _=>false⟩ Tryz.f25=some (aEP,ZL):=by kernel_rfl
def wZ:PC:=.gh (.reg [.v 41 7,.q 42 (.fa 0 (.t 9)),.l 43 (.ld1 (.t 42)),.q 44 (.cvt .u64 (.t 43)),.a 45 (.cq 46 [(.t 44)]),.l 46 (.ldn 3 (.t 3)),.q 47 (.fa 2 (.t 9)),.l 48 (.ldn 4 (.t 47)),.l 49 (.ldn 5 (.t 10)),.a 50 (.cq 48 [(.t 46),(.t 48),(.t 49)]),.a 51 (.cq 47 [(.t 50)]),.q 52 (.bin .add true (.t 45) (.t 51)),.q 53 (.bin .add true (.t 41) (.t 52)),.v 7 53])
@[go_sem ↓] theorem aM3:aL wZ:=aM _
def pZ:PC:=.seq (.seq (.gh (.ord  [.q (.v 26 11),.q (.q 27 (.not (.t 26))),.q (.v 28 27),.q ⟨some 29,(some (28,false)),.q (.fa 6 (.t 9))⟩,.q ⟨some 30,(some (28,false)),.l (.ld1 (.t 29))⟩,.q ⟨some 31,(some (28,false)),.q (.not (.t 30))⟩,.q ⟨some 32,(some (28,false)),.q (.mv (.t 31))⟩,.q ⟨some 33,(some (32,true)),.l (.ldn 5 (.t 10))⟩,.q ⟨some 34,(some (32,true)),.l (.ldn 3 (.t 3))⟩,.q ⟨some 35,(some (32,true)),.q (.fa 2 (.t 9))⟩,.q ⟨some 36,(some (32,true)),.l (.ldn 4 (.t 35))⟩,.m ⟨some 37,(some (32,true)),.cl 45 [(.t 34),(.t 36)] []⟩,.rc ⟨some 33,(some (32,true)),.l (.ldn 5 (.t 10))⟩,.m ⟨some 38,(some (32,true)),.cq 44 [(.t 33),(.t 37)]⟩,.q ⟨some 39,(some (28,false)),.pick (.t 32) (.t 38) (.k (.bool false))⟩,.q (.a 40 (.pick (.t 28) (.k (.bool true)) (.t 39)))])) (.cond (.t 40) (.exit 1) .skip)) (wZ)
@[go_sem ↓] theorem aMB:aL pZ:=aM _
def aBT:PC:=.seq (.reg [.e 3 (.bx 25 (.t 0)),.e 4 (.bx 48 (.t 1)),.e 5 (.bx 29 (.t 2)),.q 6 (.mv (.k (.string (mk []))))]) (.seq (.reg [.q 7 (.mv (.k (.string (mk []))))]) (.seq (.seq (.reg [.q 12 (.fa 1 (.t 4)),.l 13 (.ld1 (.t 12)),.q 14 (.lnL (.t 13)),.q 15 (.mv (.i 0))]) (.block 0 (.loop (.seq (.reg [.q 16 (.bin .lss true (.t 15) (.t 14))]) (.seq (.cond (.t 16) .skip (.exit 0)) (.seq (.block 1 (.seq (.reg [.l 17 (.ia 7 (.t 13) (.t 15)),.l 18 (.ldn 7 (.t 17)),.e 9 (.al (.agg #[(.int .i64 0),(.string (mk [])),(.int .i64 0),(.int .i64 0),(.string (mk [])),(.slice none 0 0),(.bool false)]) 52),.s (.st 7 (.t 9) (.t 18))]) (.seq (.reg [.l 20 (.ldn 5 (.t 5)),.q 21 (.fa 0 (.t 9)),.l 22 (.ld1 (.t 21)),.a 23 (.cl 43 [(.t 20),(.t 22)] []),.v 19 23,.q 24 (.ex (.t 19) 0),.q 25 (.ex (.t 19) 1),.e 10 (.al (.agg #[(.int .i64 0),(.int .i64 0),(.string (mk [])),(.slice none 0 0),(.slice none 0 0)]) 29),.s (.st 5 (.t 10) (.t 24)),.v 11 25]) (pZ)))) (.reg [.q 54 (.bin .add true (.t 15) (.i 1)),.v 15 54]))))))) (.seq (.reg [.v 55 7,.v 6 55]) .ret)))
def aDV:List RV:=[.mv (.t 6)]
theorem aO9:aP Tryz.prog true ⟨fun r k=>if r=6/\k=12 then .q else if r=7/\k=4 then .q else if r=7/\k=9 then .q else if r=7/\k=10 then .q else .own [],fun r=>[6,7].contains r⟩ Tryz.f26=some (aBT,aDV):=by kernel_rfl
def gS:List OJ:=[.rc ⟨some 64,(some (63,true)),.l (.ldn 5 (.t 15))⟩,.m ⟨some 69,(some (63,true)),.cq 44 [(.t 64),(.t 68)]⟩,.q (.a 70 (.pick (.t 63) (.t 69) (.k (.bool false)))),.q (.v 71 70),.q ⟨some 72,(some (71,true)),.q (.fa 2 (.t 13))⟩,.q ⟨some 73,(some (71,true)),.q (.fa 0 (.t 72))⟩,.q ⟨some 74,(some (71,true)),.l (.ld1 (.t 73))⟩,.q ⟨some 75,(some (71,true)),.q (.bin .neq true (.t 74) (.i 6))⟩,.q ⟨some 76,(some (71,true)),.q (.mv (.t 75))⟩,.q ⟨some 77,(some (76,false)),.q (.fa 1 (.t 10))⟩,.q ⟨some 78,(some (76,false)),.l (.ld1 (.t 77))⟩,.q ⟨some 79,(some (76,false)),.q (.bin .eql true (.t 78) (.k (.string (mk []))))⟩,.q ⟨some 80,(some (71,true)),.pick (.t 76) (.k (.bool true)) (.t 79)⟩,.q (.a 81 (.pick (.t 71) (.t 80) (.k (.bool false))))]
def nD:PC:=.gh (.reg [.v 86 8,.q 87 (.fa 0 (.t 10)),.l 88 (.ld1 (.t 87)),.l 89 (.ldn 5 (.t 15)),.s (.mu (.int .i64) (.t 86) (.t 88) (.t 89))])
@[go_sem ↓] theorem aJB:aL nD:=aM _
def gW:PC:=.seq (.seq (.gh (.reg [.v 82 12,.q 83 (.bin .neq true (.t 82) (.i 0))])) (.cond (.t 83) (.seq (.reg [.q 84 (.bd [(.int .i64 0),(.int .i64 0),(.string (mk [])),(.slice none 0 0),(.slice none 0 0)] []),.v 85 12,.s (.st 5 (.t 6) (.t 84)),.v 7 85]) .ret) .skip)) (nD)
@[go_sem ↓] theorem aIY:aL gW:=aM _
def nQ:PC:=.seq (.seq (.gh (.ord  (.q (.v 56 12) :: .q (.q 57 (.bin .eql true (.t 56) (.i 0))) :: .q (.v 58 57) :: .q ⟨some 59,(some (58,true)),.q (.fa 6 (.t 13))⟩ :: .q ⟨some 60,(some (58,true)),.l (.ld1 (.t 59))⟩ :: .q ⟨some 61,(some (58,true)),.q (.not (.t 60))⟩ :: .q (.a 62 (.pick (.t 58) (.t 61) (.k (.bool false)))) :: .q (.v 63 62) :: .q ⟨some 64,(some (63,true)),.l (.ldn 5 (.t 15))⟩ :: .q ⟨some 65,(some (63,true)),.l (.ldn 3 (.t 3))⟩ :: .q ⟨some 66,(some (63,true)),.q (.fa 2 (.t 13))⟩ :: .q ⟨some 67,(some (63,true)),.l (.ldn 4 (.t 66))⟩ :: .m ⟨some 68,(some (63,true)),.cl 45 [(.t 65),(.t 67)] []⟩ :: gS))) (.cond (.t 81) (.reg [.q 12 (.mv (.i 2))]) .skip)) (gW)
@[go_sem ↓] theorem aJQ:aL nQ:=aM _
def y1:PC:=.seq (.gh (.reg [.l 48 (.ldn 3 (.t 3)),.q 49 (.fa 2 (.t 13)),.l 50 (.ldn 4 (.t 49)),.q 51 (.fa 1 (.t 10)),.l 52 (.ld1 (.t 51)),.a 53 (.cl 55 [(.t 48),(.t 50),(.t 52)] []),.v 47 53,.q 54 (.ex (.t 47) 0),.q 55 (.ex (.t 47) 1),.e 15 (.al (.agg #[(.int .i64 0),(.int .i64 0),(.string (mk [])),(.slice none 0 0),(.slice none 0 0)]) 29),.s (.st 5 (.t 15) (.t 54)),.v 12 55])) (nQ)
@[go_sem ↓] theorem aKK:aL y1:=aM _
def uR:PC:=.seq (.seq (.gh (.reg [.v 45 14,.q 46 (.not (.t 45))])) (.cond (.t 46) (.exit 1) .skip)) (y1)
@[go_sem ↓] theorem aOR:aL uR:=aM _
def F9:PC:=.seq (.gh (.reg [.l 39 (.ldn 2 (.t 4)),.q 40 (.fa 0 (.t 10)),.l 41 (.ld1 (.t 40)),.a 42 (.cl 54 [(.t 39),(.t 41)] []),.v 38 42,.q 43 (.ex (.t 38) 0),.q 44 (.ex (.t 38) 1),.e 13 (.al (.agg #[(.int .i64 0),(.string (mk [])),(.int .i64 0),(.int .i64 0),(.string (mk [])),(.slice none 0 0),(.bool false)]) 52),.s (.st 7 (.t 13) (.t 43)),.v 14 44])) (uR)
@[go_sem ↓] theorem aL4:aL F9:=aM _
def DP:PC:=.seq (.gh (.reg [.q 35 (.fa 0 (.t 10)),.l 36 (.ld1 (.t 35)),.v 37 11,.v 9 36,.v 2 37])) (F9)
@[go_sem ↓] theorem aOF:aL DP:=aM _
def wF:PC:=.seq (.seq (.gh (.reg [.v 31 12,.q 32 (.bin .neq true (.t 31) (.i 0))])) (.cond (.t 32) (.seq (.reg [.q 33 (.bd [(.int .i64 0),(.int .i64 0),(.string (mk [])),(.slice none 0 0),(.slice none 0 0)] []),.v 34 12,.s (.st 5 (.t 6) (.t 33)),.v 7 34]) .ret) .skip)) (DP)
@[go_sem ↓] theorem aLM:aL wF:=aM _
def F4:PC:=.seq (.gh (.reg [.v 25 2,.v 26 9,.a 27 (.cl 53 [(.t 25),(.t 26)] []),.v 24 27,.q 28 (.ex (.t 24) 0),.q 29 (.ex (.t 24) 1),.q 30 (.ex (.t 24) 2),.e 10 (.al (.agg #[(.int .i64 0),(.string (mk []))]) 89),.s (.st 2 (.t 10) (.t 28)),.v 11 29,.v 12 30])) (wF)
@[go_sem ↓] theorem aOP:aL F4:=aM _
def yU:PC:=.gh (.reg [.l 113 (.ldn 3 (.t 3)),.q 114 (.fa 2 (.t 18)),.l 115 (.ldn 4 (.t 114)),.a 116 (.cl 45 [(.t 113),(.t 115)] []),.s (.st 5 (.t 19) (.t 116))])
@[go_sem ↓] theorem aJY:aL yU:=aM _
def sJ:PC:=.gh (.reg [.q 117 (.fa 4 (.t 16)),.l 118 (.ld1 (.t 117)),.q 119 (.fa 0 (.t 18)),.l 120 (.ld1 (.t 119)),.l 121 (.ldn 5 (.t 19)),.q 122 (.bd [(.int .i64 0),(.int .i64 0),(.int .i64 0),(.string (mk [])),(.slice none 0 0),(.slice none 0 0)] [(0,1,(.t 120)),(1,5,(.t 121))]),.e 123 (.bsl 76 6 [(.t 122)]),.e 124 (.ap 76 6 88 (.t 118) (.t 123)),.q 125 (.fa 4 (.t 16)),.s (.st 1 (.t 125) (.t 124))])
@[go_sem ↓] theorem aJ0:aL sJ:=aM _
def rI:PC:=.seq (.seq (.gh (.reg [.v 111 20,.q 112 (.not (.t 111))])) (.cond (.t 112) (yU) .skip)) (sJ)
@[go_sem ↓] theorem aIM:aL rI:=aM _
def nP:PC:=.seq (.seq (.gh (.reg [.v 105 20,.q 106 (.not (.t 105)),.v 107 106,⟨some 108,(some (107,true)),.q (.fa 6 (.t 18))⟩,⟨some 109,(some (107,true)),.l (.ld1 (.t 108))⟩,.a 110 (.pick (.t 107) (.t 109) (.k (.bool false)))])) (.cond (.t 110) (.exit 3) .skip)) (rI)
@[go_sem ↓] theorem aJT:aL nP:=aM _
def sN:PC:=.seq (.gh (.reg [.v 99 8,.q 100 (.fa 0 (.t 18)),.l 101 (.ld1 (.t 100)),.l 102 (.lk (.int .i64) (.agg #[(.int .i64 0),(.int .i64 0),(.string (mk [])),(.slice none 0 0),(.slice none 0 0)]) true (.t 99) (.t 101)),.v 98 102,.q 103 (.ex (.t 98) 0),.q 104 (.ex (.t 98) 1),.e 19 (.al (.agg #[(.int .i64 0),(.int .i64 0),(.string (mk [])),(.slice none 0 0),(.slice none 0 0)]) 29),.s (.st 5 (.t 19) (.t 103)),.v 20 104])) (nP)
@[go_sem ↓] theorem aIU:aL sN:=aM _
def zU:PC:=.seq (.seq (.gh (.reg [.q 91 (.fa 1 (.t 4)),.l 92 (.ld1 (.t 91)),.q 93 (.lnL (.t 92)),.q 94 (.mv (.i 0))])) (.block 2 (.loop (.seq (.reg [.q 95 (.bin .lss true (.t 94) (.t 93))]) (.seq (.cond (.t 95) .skip (.exit 2)) (.seq (.block 3 (.seq (.reg [.l 96 (.ia 7 (.t 92) (.t 94)),.l 97 (.ldn 7 (.t 96)),.e 18 (.al (.agg #[(.int .i64 0),(.string (mk [])),(.int .i64 0),(.int .i64 0),(.string (mk [])),(.slice none 0 0),(.bool false)]) 52),.s (.st 7 (.t 18) (.t 97))]) (sN))) (.reg [.q 126 (.bin .add true (.t 94) (.i 1)),.v 94 126]))))))) (.seq (.reg [.l 127 (.ldn 5 (.t 16)),.s (.st 5 (.t 6) (.t 127)),.q 7 (.mv (.i 0))]) .ret)
@[go_sem ↓] theorem aJ1:aL zU:=aM _
def yH:PC:=.seq (.gh (.reg [.q 90 (.bd [(.int .i64 0),(.int .i64 0),(.string (mk [])),(.slice none 0 0),(.slice none 0 0)] [(0,1,(.i 6))]),.e 16 (.al (.agg #[(.int .i64 0),(.int .i64 0),(.string (mk [])),(.slice none 0 0),(.slice none 0 0)]) 29),.s (.st 5 (.t 16) (.t 90))])) (zU)
@[go_sem ↓] theorem aKL:aL yH:=aM _
def aBX:PC:=.seq (.reg [.e 3 (.bx 25 (.t 0)),.e 4 (.bx 48 (.t 1)),.e 6 (.al (.agg #[(.int .i64 0),(.int .i64 0),(.string (mk [])),(.slice none 0 0),(.slice none 0 0)]) 29),.q 7 (.mv (.i 0))]) (.seq (.reg [.e 21 (.mm (.int .i64)),.v 8 21]) (.seq (.reg [.q 9 (.mv (.i 0))]) (.seq (.block 0 (.loop (.seq (.seq (.reg [.v 22 2,.q 23 (.bin .neq true (.t 22) (.k (.string (mk []))))]) (.cond (.t 23) .skip (.exit 0))) (.block 1 (F4))))) (yH))))
def YR:List RV:=[.ld (.ldn 5 (.t 6)),.mv (.t 7)]
theorem aK5:aP Tryz.prog true ⟨fun r k=>if r=11/\k=13 then .q else .own [],fun r=>[4,5,7,8,9,10,11,13,16,17,20,21,22,15,23,24].contains r⟩ Tryz.f30=some (aBX,YR):=by kernel_rfl
def u5:PC:=.seq (.seq (.gh (.reg [.v 18 8,.q 19 (.bin .neq true (.t 18) (.i 0))])) (.cond (.t 19) (.seq (.reg [.v 20 8,.q 2 (.mv (.k (.slice none 0 0))),.v 3 20]) .ret) .skip)) (.seq (.reg [.v 21 4,.l 22 (.ldn 2 (.t 6)),.e 23 (.bsl 89 2 [(.t 22)]),.e 24 (.ap 89 2 24 (.t 21) (.t 23)),.v 4 24]) (.reg [.q 25 (.fa 0 (.t 6)),.l 26 (.ld1 (.t 25)),.v 27 7,.v 5 26,.v 0 27]))
@[go_sem ↓] theorem aLH:aL u5:=aM _
def E5:PC:=.seq (.gh (.reg [.v 28 4,.v 2 28,.q 3 (.mv (.i 0))])) .ret
@[go_sem ↓] theorem aMZ:aL E5:=aM _
def Y1:PC:=.seq (.reg [.q 2 (.mv (.k (.slice none 0 0))),.q 3 (.mv (.i 0))]) (.seq (.reg [.q 4 (.mv (.k (.slice none 0 0)))]) (.seq (.reg [.q 5 (.mv (.i 0))]) (.seq (.block 0 (.loop (.seq (.seq (.reg [.v 9 0,.q 10 (.bin .neq true (.t 9) (.k (.string (mk []))))]) (.cond (.t 10) .skip (.exit 0))) (.block 1 (.seq (.reg [.v 12 0,.v 13 5,.a 14 (.cl 53 [(.t 12),(.t 13)] []),.v 11 14,.q 15 (.ex (.t 11) 0),.q 16 (.ex (.t 11) 1),.q 17 (.ex (.t 11) 2),.e 6 (.al (.agg #[(.int .i64 0),(.string (mk []))]) 89),.s (.st 2 (.t 6) (.t 15)),.v 7 16,.v 8 17]) (u5)))))) (E5))))
def YT:List RV:=[.mv (.t 2),.mv (.t 3)]
theorem aLX:aP Tryz.prog true ⟨fun _ _=>.own [],fun r=>[5,9].contains r⟩ Tryz.f38=some (Y1,YT):=by kernel_rfl
def yZ:PC:=.gh (.reg [.v 47 8,.l 48 (.ldn 5 (.t 10)),.a 49 (.ca (.t 47) [(.t 48)] [3,0,1])])
@[go_sem ↓] theorem aI8:aL yZ:=aM _
def zN:PC:=.seq (.gh (.reg [.l 51 (.ld1 (.t 7)),.v 6 51])) .ret
@[go_sem ↓] theorem aIQ:aL zN:=aM _
def yG:PC:=.seq (.gh (.reg [.q 34 (.fa 3 (.t 5)),.l 35 (.ld1 (.t 34)),.q 36 (.lnL (.t 35)),.q 37 (.cvt .u64 (.t 36)),.a 38 (.cq 46 [(.t 37)]),.e 7 (.al (.string (mk [])) 9),.s (.st 1 (.t 7) (.t 38))])) (.seq (.reg [.q 39 (.mf 85 [(.t 7),(.t 3),(.t 4)]),.v 8 39]) (.seq (.seq (.reg [.q 40 (.fa 3 (.t 5)),.l 41 (.ld1 (.t 40)),.q 42 (.lnL (.t 41)),.q 43 (.mv (.i 0))]) (.block 1 (.loop (.seq (.reg [.q 44 (.bin .lss true (.t 43) (.t 42))]) (.seq (.cond (.t 44) .skip (.exit 1)) (.seq (.block 2 (.seq (.reg [.l 45 (.ia 5 (.t 41) (.t 43)),.l 46 (.ldn 5 (.t 45)),.e 10 (.al (.agg #[(.int .i64 0),(.int .i64 0),(.string (mk [])),(.slice none 0 0),(.slice none 0 0)]) 29),.s (.st 5 (.t 10) (.t 46))]) (yZ))) (.reg [.q 50 (.bin .add true (.t 43) (.i 1)),.v 43 50]))))))) (zN)))
@[go_sem ↓] theorem aJV:aL yG:=aM _
def lD:PC:=.seq (.seq (.gh (.reg [.q 16 (.bin .eql true (.t 14) (.i 1)),.v 15 16])) (.cond (.t 15) .skip (.seq (.reg [.q 17 (.bin .eql true (.t 14) (.i 3)),.v 15 17]) (.cond (.t 15) .skip (.reg [.q 18 (.bin .eql true (.t 14) (.i 7)),.v 15 18]))))) (.cond (.t 15) (.seq (.reg [.q 19 (.fa 1 (.t 5)),.l 20 (.ld1 (.t 19)),.q 21 (.cvt .u64 (.t 20)),.a 22 (.cq 46 [(.t 21)]),.v 6 22]) .ret) (.seq (.reg [.q 24 (.bin .eql true (.t 14) (.i 2)),.v 23 24]) (.cond (.t 23) (.seq (.reg [.q 25 (.fa 1 (.t 5)),.l 26 (.ld1 (.t 25)),.a 27 (.cq 84 [(.t 26)]),.v 6 27]) .ret) (.seq (.reg [.q 29 (.bin .eql true (.t 14) (.i 4)),.v 28 29]) (.cond (.t 28) (.seq (.reg [.q 30 (.fa 2 (.t 5)),.l 31 (.ld1 (.t 30)),.v 6 31]) .ret) (.seq (.reg [.q 33 (.bin .eql true (.t 14) (.i 5)),.v 32 33]) (.cond (.t 32) (yG) .skip)))))))
@[go_sem ↓] theorem aOB:aL lD:=aM _
def x5:PC:=.seq (.gh (.reg [.l 59 (.ldn 3 (.t 3)),.l 60 (.ldn 2 (.t 11)),.l 61 (.ldn 5 (.t 5)),.a 62 (.cq 26 [(.t 59),(.t 60),(.t 61)]),.v 6 62])) .ret
@[go_sem ↓] theorem aJE:aL x5:=aM _
def xF:PC:=.seq (.gh (.reg [.l 53 (.ldn 3 (.t 3)),.q 54 (.fa 2 (.t 4)),.l 55 (.ld1 (.t 54)),.a 56 (.cl 40 [(.t 53),(.t 55)] []),.v 52 56,.q 57 (.ex (.t 52) 0),.q 58 (.ex (.t 52) 1),.e 11 (.al (.agg #[(.string (mk [])),(.slice none 0 0)]) 48),.s (.st 2 (.t 11) (.t 57)),.v 12 58])) (x5)
@[go_sem ↓] theorem aJM:aL xF:=aM _
def Z2:PC:=.seq (.reg [.e 3 (.bx 25 (.t 0)),.e 4 (.bx 42 (.t 1)),.e 5 (.bx 29 (.t 2)),.q 6 (.mv (.k (.string (mk []))))]) (.seq (.seq (.reg [.q 13 (.fa 0 (.t 4)),.l 14 (.ld1 (.t 13))]) (.block 0 (lD))) (xF))
def aEU:List RV:=[.mv (.t 6)]
theorem aO3:aP Tryz.prog true ⟨fun r k=>if r=5/\k=3 then .q else if r=7/\k=2 then .q else if r=11/\k=4 then .q else if r=16/\k=2 then .own [3,0,1] else if r=20/\k=3 then .q else .own [],fun r=>[2,11,18,19,20,16].contains r⟩ Tryz.f48=some (Z2,aEU):=by kernel_rfl
def DS:PC:=.seq (.gh (.reg [.v 38 7,.q 39 (.cvt .i64 (.t 38)),.v 40 10,.q 41 (.bd [(.int .i64 0),(.string (mk []))] [(0,1,(.t 39)),(1,1,(.t 40))]),.v 42 8,.v 43 9,.s (.st 2 (.t 4) (.t 41)),.v 5 42,.v 6 43])) .ret
@[go_sem ↓] theorem aLW:aL DS:=aM _
def aC8:PC:=.seq (.reg [.e 4 (.al (.agg #[(.int .i64 0),(.string (mk []))]) 89),.q 5 (.mv (.k (.string (mk [])))),.q 6 (.mv (.i 0))]) (.seq (.reg [.v 12 0,.a 13 (.cl 94 [(.t 12)] []),.v 11 13,.q 14 (.ex (.t 11) 0),.q 15 (.ex (.t 11) 1),.q 16 (.ex (.t 11) 2),.v 7 14,.v 8 15,.v 9 16]) (.seq (.block 0 (.seq (.reg [.v 18 9,.q 19 (.bin .neq true (.t 18) (.i 0)),.v 17 19]) (.cond (.t 17) (.seq (.reg [.q 20 (.bd [(.int .i64 0),(.string (mk []))] []),.v 21 9,.s (.st 2 (.t 4) (.t 20)),.q 5 (.mv (.k (.string (mk [])))),.v 6 21]) .ret) (.seq (.reg [.v 23 7,.q 24 (.bin .gtr true (.t 23) (.k (.int .u64 2147483647))),.v 22 24]) (.cond (.t 22) (.seq (.reg [.q 25 (.bd [(.int .i64 0),(.string (mk []))] []),.s (.st 2 (.t 4) (.t 25)),.q 5 (.mv (.k (.string (mk [])))),.q 6 (.mv (.i 4))]) .ret) (.seq (.reg [.v 27 7,.q 28 (.cvt .i64 (.t 27)),.v 29 1,.q 30 (.bin .leq true (.t 28) (.t 29)),.v 26 30]) (.cond (.t 26) (.seq (.reg [.q 31 (.bd [(.int .i64 0),(.string (mk []))] []),.s (.st 2 (.t 4) (.t 31)),.q 5 (.mv (.k (.string (mk [])))),.q 6 (.mv (.i 2))]) .ret) .skip))))))) (.seq (.reg [.v 33 8,.a 34 (.cl 95 [(.t 33)] []),.v 32 34,.q 35 (.ex (.t 32) 0),.q 36 (.ex (.t 32) 1),.q 37 (.ex (.t 32) 2),.v 10 35,.v 8 36,.v 9 37]) (DS))))
def aDF:List RV:=[.ld (.ldn 2 (.t 4)),.mv (.t 5),.mv (.t 6)]
theorem aL1:aP Tryz.prog true ⟨fun _ _=>.own [],fun r=>[9].contains r⟩ Tryz.f53=some (aC8,aDF):=by kernel_rfl
def jR:PC:=.seq (.gh (.reg [.q 13 (.bin .eql true (.t 11) (.i 1)),.v 12 13])) (.cond (.t 12) (.seq (.reg [.v 14 2,.a 15 (.cl 97 [(.t 14)] []),.q 16 (.ex (.t 15) 0),.q 17 (.ex (.t 15) 1),.s (.st 5 (.t 6) (.t 16)),.v 7 17]) .ret) (.seq (.seq (.reg [.q 19 (.bin .eql true (.t 11) (.i 2)),.v 18 19]) (.cond (.t 18) .skip (.seq (.reg [.q 20 (.bin .eql true (.t 11) (.i 3)),.v 18 20]) (.cond (.t 18) .skip (.reg [.q 21 (.bin .eql true (.t 11) (.i 7)),.v 18 21]))))) (.cond (.t 18) (.seq (.reg [.l 22 (.ldn 3 (.t 3)),.l 23 (.ldn 4 (.t 4)),.v 24 2,.a 25 (.cl 98 [(.t 22),(.t 23),(.t 24)] []),.q 26 (.ex (.t 25) 0),.q 27 (.ex (.t 25) 1),.s (.st 5 (.t 6) (.t 26)),.v 7 27]) .ret) (.seq (.reg [.q 29 (.bin .eql true (.t 11) (.i 4)),.v 28 29]) (.cond (.t 28) (.seq (.seq (.reg [.v 30 2,.q 31 (.lnS (.t 30)),.q 32 (.fa 1 (.t 4)),.l 33 (.ld1 (.t 32)),.q 34 (.bin .gtr true (.t 31) (.t 33))]) (.cond (.t 34) (.seq (.reg [.q 35 (.bd [(.int .i64 0),(.int .i64 0),(.string (mk [])),(.slice none 0 0),(.slice none 0 0)] []),.s (.st 5 (.t 6) (.t 35)),.q 7 (.mv (.i 3))]) .ret) .skip)) (.seq (.reg [.v 36 2,.q 37 (.bd [(.int .i64 0),(.int .i64 0),(.string (mk [])),(.slice none 0 0),(.slice none 0 0)] [(0,1,(.i 4)),(2,1,(.t 36))]),.s (.st 5 (.t 6) (.t 37)),.q 7 (.mv (.i 0))]) .ret)) (.seq (.reg [.q 39 (.bin .eql true (.t 11) (.i 5)),.v 38 39]) (.cond (.t 38) (.seq (.reg [.l 40 (.ldn 3 (.t 3)),.l 41 (.ldn 4 (.t 4)),.v 42 2,.a 43 (.cl 99 [(.t 40),(.t 41),(.t 42)] []),.q 44 (.ex (.t 43) 0),.q 45 (.ex (.t 43) 1),.s (.st 5 (.t 6) (.t 44)),.v 7 45]) .ret) .skip)))))))
@[go_sem ↓] theorem aKS:aL jR:=aM _
def zT:PC:=.seq (.gh (.reg [.l 53 (.ldn 3 (.t 3)),.l 54 (.ldn 2 (.t 8)),.v 55 2,.a 56 (.cl 30 [(.t 53),(.t 54),(.t 55)] []),.q 57 (.ex (.t 56) 0),.q 58 (.ex (.t 56) 1),.s (.st 5 (.t 6) (.t 57)),.v 7 58])) .ret
@[go_sem ↓] theorem aI6:aL zT:=aM _
def y2:PC:=.seq (.gh (.reg [.l 47 (.ldn 3 (.t 3)),.q 48 (.fa 2 (.t 4)),.l 49 (.ld1 (.t 48)),.a 50 (.cl 40 [(.t 47),(.t 49)] []),.v 46 50,.q 51 (.ex (.t 46) 0),.q 52 (.ex (.t 46) 1),.e 8 (.al (.agg #[(.string (mk [])),(.slice none 0 0)]) 48),.s (.st 2 (.t 8) (.t 51)),.v 9 52])) (zT)
@[go_sem ↓] theorem aKH:aL y2:=aM _
def aDZ:PC:=.seq (.reg [.e 3 (.bx 25 (.t 0)),.e 4 (.bx 42 (.t 1)),.e 6 (.al (.agg #[(.int .i64 0),(.int .i64 0),(.string (mk [])),(.slice none 0 0),(.slice none 0 0)]) 29),.q 7 (.mv (.i 0))]) (.seq (.seq (.reg [.q 10 (.fa 0 (.t 4)),.l 11 (.ld1 (.t 10))]) (.block 0 (jR))) (y2))
def Y3:List RV:=[.ld (.ldn 5 (.t 6)),.mv (.t 7)]
theorem aOL:aP Tryz.prog true ⟨fun _ _=>.own [],fun r=>[2,14,15].contains r⟩ Tryz.f55=some (aDZ,Y3):=by kernel_rfl
def aD7:PC:=.seq (.reg [.e 4 (.bx 29 (.t 0))]) (.reg [.l 5 (.ld1 (.t 1)),.l 6 (.ldn 3 (.t 2)),.q 7 (.fa 3 (.t 3)),.l 8 (.ld1 (.t 7)),.l 9 (.ia 4 (.t 8) (.i 0)),.l 10 (.ldn 4 (.t 9)),.l 11 (.ldn 5 (.t 4)),.a 12 (.cq 48 [(.t 6),(.t 10),(.t 11)]),.a 13 (.cq 47 [(.t 12)]),.q 14 (.bin .add true (.t 5) (.t 13)),.s (.st 1 (.t 1) (.t 14))])
def aCE:List RV:=[]
theorem aLS:aP Tryz.prog true ⟨fun r k=>if r=1/\k=7 then .q else if r=1/\k=8 then .q else .own [],fun _=>false⟩ Tryz.f85=some (aD7,aCE):=by kernel_rfl
def w6:PC:=.seq (.gh (.reg [.v 14 7,.q 15 (.bin .neq true (.t 14) (.i 0))])) (.cond (.t 15) (.seq (.reg [.v 16 7,.q 2 (.mv (.k (.int .u64 0))),.q 3 (.mv (.k (.string (mk [])))),.v 4 16]) .ret) .skip)
@[go_sem ↓] theorem aMR:aL w6:=aM _
def EK:PC:=.seq (.gh (.ord  [.q (.v 17 6),.q (.v 18 0),.q (.v 19 0),.q (.q 20 (.lnS (.t 19))),.q (.v 21 5),.m (.a 22 (.cl 136 [(.t 21)] [0])),.rc (.v 17 6),.rc (.v 18 0),.rc (.v 19 0),.rc (.q 20 (.lnS (.t 19))),.q (.q 23 (.bin .sub true (.t 20) (.t 22))),.q (.q 24 (.ss (.t 18) (some (.t 23)) none)),.m (.v 2 17),.rc (.v 18 0),.rc (.v 19 0),.rc (.q 20 (.lnS (.t 19))),.rc (.q 23 (.bin .sub true (.t 20) (.t 22))),.rc (.q 24 (.ss (.t 18) (some (.t 23)) none)),.m (.v 3 24),.m (.q 4 (.mv (.i 0)))])) .ret
@[go_sem ↓] theorem aKY:aL EK:=aM _
def DG:PC:=.seq (.seq (.gh (.reg [.v 12 5,.a 13 (.cl 135 [(.t 12)] [0]),.v 7 13])) (w6)) (EK)
@[go_sem ↓] theorem aNI:aL DG:=aM _
def D1:PC:=.seq (.gh (.reg [.v 10 5,.a 11 (.cl 134 [(.t 10)] [0]),.v 6 11])) (DG)
@[go_sem ↓] theorem aN1:aL D1:=aM _
def aEC:PC:=.seq (.reg [.q 2 (.mv (.k (.int .u64 0))),.q 3 (.mv (.k (.string (mk [])))),.q 4 (.mv (.i 0))]) (.seq (.reg [.v 8 0,.a 9 (.cl 133 [(.t 8)] []),.v 5 9]) (D1))
def ZH:List RV:=[.mv (.t 2),.mv (.t 3),.mv (.t 4)]
theorem aLK:aP Tryz.prog true ⟨fun r k=>if r=2/\k=1 then .own [0] else if r=3/\k=1 then .own [0] else if r=6/\k=5 then .own [0] else .own [],fun r=>[2,3,4,6].contains r⟩ Tryz.f94=some (aEC,ZH):=by kernel_rfl
def qF:PC:=.seq (.seq (.gh (.reg [.v 12 4,.q 13 (.bin .neq true (.t 12) (.i 0))])) (.cond (.t 13) (.seq (.reg [.v 14 4,.q 2 (.mv (.k (.string (mk [])))),.q 3 (.mv (.k (.string (mk [])))),.v 4 14]) .ret) .skip)) (.seq (.seq (.reg [.v 15 5,.v 16 0,.q 17 (.lnS (.t 16)),.q 18 (.cvt .u64 (.t 17)),.q 19 (.bin .gtr true (.t 15) (.t 18))]) (.cond (.t 19) (.seq (.reg [.q 2 (.mv (.k (.string (mk [])))),.q 3 (.mv (.k (.string (mk [])))),.q 4 (.mv (.i 1))]) .ret) .skip)) (.seq (.reg [.v 20 0,.v 21 5,.q 22 (.ss (.t 20) none (some (.t 21))),.v 23 0,.v 24 5,.q 25 (.ss (.t 23) (some (.t 24)) none),.v 2 22,.v 3 25,.q 4 (.mv (.i 0))]) .ret))
@[go_sem ↓] theorem aM4:aL qF:=aM _
def YH:PC:=.seq (.reg [.q 2 (.mv (.k (.string (mk [])))),.q 3 (.mv (.k (.string (mk [])))),.q 4 (.mv (.i 0))]) (.seq (.reg [.v 7 0,.a 8 (.cl 94 [(.t 7)] []),.v 6 8,.q 9 (.ex (.t 6) 0),.q 10 (.ex (.t 6) 1),.q 11 (.ex (.t 6) 2),.v 5 9,.v 0 10,.v 4 11]) (qF))
def aC3:List RV:=[.mv (.t 2),.mv (.t 3),.mv (.t 4)]
theorem aLC:aP Tryz.prog true ⟨fun _ _=>.own [],fun r=>[2].contains r⟩ Tryz.f95=some (YH,aC3):=by kernel_rfl
def P4:PC:=.seq (.reg [.e 2 (.al (.agg #[(.int .i64 0),(.int .i64 0),(.string (mk [])),(.slice none 0 0),(.slice none 0 0)]) 29),.q 3 (.mv (.i 0))]) (.seq (.block 0 (.seq (.reg [.v 5 0,.q 6 (.bin .eql true (.t 5) (.k (.string (mk [])))),.v 4 6]) (.cond (.t 4) (.seq (.reg [.q 7 (.bd [(.int .i64 0),(.int .i64 0),(.string (mk [])),(.slice none 0 0),(.slice none 0 0)] []),.s (.st 5 (.t 2) (.t 7)),.q 3 (.mv (.i 1))]) .ret) (.seq (.reg [.v 9 0,.a 10 (.ix (.t 9) (.i 0)),.q 11 (.bin .gtr true (.t 10) (.k (.int .u8 1))),.v 12 11,⟨some 13,(some (12,false)),.q (.mv (.t 0))⟩,⟨some 14,(some (12,false)),.q (.lnS (.t 13))⟩,⟨some 15,(some (12,false)),.q (.bin .gtr true (.t 14) (.i 1))⟩,.a 16 (.pick (.t 12) (.k (.bool true)) (.t 15)),.v 8 16]) (.cond (.t 8) (.seq (.reg [.q 17 (.bd [(.int .i64 0),(.int .i64 0),(.string (mk [])),(.slice none 0 0),(.slice none 0 0)] []),.s (.st 5 (.t 2) (.t 17)),.q 3 (.mv (.i 2))]) .ret) .skip))))) (.seq (.reg [.v 18 0,.a 19 (.ix (.t 18) (.i 0)),.q 20 (.cvt .i64 (.t 19)),.q 21 (.bd [(.int .i64 0),(.int .i64 0),(.string (mk [])),(.slice none 0 0),(.slice none 0 0)] [(0,1,(.i 1)),(1,1,(.t 20))]),.s (.st 5 (.t 2) (.t 21)),.q 3 (.mv (.i 0))]) .ret))
def OH:List RV:=[.ld (.ldn 5 (.t 2)),.mv (.t 3)]
theorem aNP:aP Tryz.prog true ⟨fun _ _=>.own [],fun _=>false⟩ Tryz.f97=some (P4,OH):=by kernel_rfl
def vM:PC:=.gh (.reg [.q 19 (.fa 1 (.t 4)),.l 20 (.ld1 (.t 19)),.q 21 (.bin .eql true (.t 20) (.i 64)),.v 22 21,⟨some 23,(some (22,false)),.q (.mv (.t 9))⟩,⟨some 24,(some (22,false)),.q (.fa 1 (.t 4))⟩,⟨some 25,(some (22,false)),.l (.ld1 (.t 24))⟩,⟨some 26,(some (22,false)),.q (.bin .sub true (.t 25) (.i 1))⟩,⟨some 27,(some (22,false)),.q (.bin .shl true (.i (-1)) (.t 26))⟩,⟨some 28,(some (22,false)),.q (.bin .geq true (.t 23) (.t 27))⟩,⟨some 29,(some (22,false)),.q (.mv (.t 28))⟩,⟨some 30,(some (29,true)),.q (.mv (.t 9))⟩,⟨some 31,(some (29,true)),.q (.fa 1 (.t 4))⟩,⟨some 32,(some (29,true)),.l (.ld1 (.t 31))⟩,⟨some 33,(some (29,true)),.q (.bin .sub true (.t 32) (.i 1))⟩,⟨some 34,(some (29,true)),.q (.bin .shl true (.i 1) (.t 33))⟩,⟨some 35,(some (29,true)),.q (.bin .lss true (.t 30) (.t 34))⟩,⟨some 36,(some (22,false)),.pick (.t 29) (.t 35) (.k (.bool false))⟩,.a 37 (.pick (.t 22) (.k (.bool true)) (.t 36)),.v 10 37])
@[go_sem ↓] theorem aO6:aL vM:=aM _
def rU:PC:=.gh (.reg [.v 48 10,.v 49 48,⟨some 50,(some (49,true)),.q (.mv (.t 9))⟩,⟨some 51,(some (49,true)),.q (.fa 1 (.t 4))⟩,⟨some 52,(some (49,true)),.l (.ld1 (.t 51))⟩,⟨some 53,(some (49,true)),.q (.bin .shl true (.i 1) (.t 52))⟩,⟨some 54,(some (49,true)),.q (.bin .lss true (.t 50) (.t 53))⟩,.a 55 (.pick (.t 49) (.t 54) (.k (.bool false))),.v 10 55])
@[go_sem ↓] theorem aIP:aL rU:=aM _
def rO:PC:=.gh (.reg [.v 56 10,.v 57 56,⟨some 58,(some (57,true)),.l (.ldn 3 (.t 3))⟩,⟨some 59,(some (57,true)),.q (.fa 2 (.t 4))⟩,⟨some 60,(some (57,true)),.l (.ld1 (.t 59))⟩,⟨some 61,(some (57,true)),.q (.mv (.t 9))⟩,⟨some 62,(some (57,true)),.cq 139 [(.t 58),(.t 60),(.t 61)]⟩,.a 63 (.pick (.t 57) (.t 62) (.k (.bool false))),.v 10 63])
@[go_sem ↓] theorem aIS:aL rO:=aM _
def kK:PC:=.seq (.gh (.reg [.q 45 (.fa 0 (.t 4)),.l 46 (.ld1 (.t 45)),.q 47 (.bin .eql true (.t 46) (.i 3))])) (.cond (.t 47) (rU) (rO))
@[go_sem ↓] theorem aKC:aL kK:=aM _
def EF:PC:=.seq (.gh (.reg [.v 42 11,.q 43 (.bin .and true (.t 42) (.k (.int .u64 4294967295))),.q 44 (.cvt .i64 (.t 43)),.v 9 44])) (kK)
@[go_sem ↓] theorem aLZ:aL EF:=aM _
def DJ:PC:=.seq (.gh (.reg [.v 40 11,.q 41 (.bin .lss true (.t 40) (.k (.int .u64 4294967296))),.v 10 41])) (EF)
@[go_sem ↓] theorem aNA:aL DJ:=aM _
def rL:PC:=.seq (.gh (.reg [.v 77 10,.q 78 (.not (.t 77)),.v 76 78])) (.cond (.t 76) (.seq (.reg [.q 79 (.bd [(.int .i64 0),(.int .i64 0),(.string (mk [])),(.slice none 0 0),(.slice none 0 0)] []),.s (.st 5 (.t 6) (.t 79)),.q 7 (.mv (.i 4))]) .ret) .skip)
@[go_sem ↓] theorem aIJ:aL rL:=aM _
def yL:PC:=.seq (.gh (.reg [.v 72 8,.a 73 (.cl 136 [(.t 72)] [3]),.q 74 (.bin .gtr true (.t 73) (.i 0)),.v 71 74])) (.cond (.t 71) (.seq (.reg [.q 75 (.bd [(.int .i64 0),(.int .i64 0),(.string (mk [])),(.slice none 0 0),(.slice none 0 0)] []),.s (.st 5 (.t 6) (.t 75)),.q 7 (.mv (.i 2))]) .ret) (rL))
@[go_sem ↓] theorem aJ6:aL yL:=aM _
def pc98_13:PC:=.seq (.gh (.reg [.v 65 8,.a 66 (.cl 135 [(.t 65)] [3]),.q 67 (.bin .neq true (.t 66) (.i 0)),.v 64 67])) (.cond (.t 64) (.seq (.reg [.q 68 (.bd [(.int .i64 0),(.int .i64 0),(.string (mk [])),(.slice none 0 0),(.slice none 0 0)] []),.v 69 8,.a 70 (.cl 135 [(.t 69)] [3]),.s (.st 5 (.t 6) (.t 68)),.v 7 70]) .ret) (yL))
@[go_sem ↓] theorem aIW:aL pc98_13:=aM _
def m5:PC:=.seq (.gh (.reg [.q 80 (.fa 0 (.t 4)),.l 81 (.ld1 (.t 80)),.v 82 9,.q 83 (.bd [(.int .i64 0),(.int .i64 0),(.string (mk [])),(.slice none 0 0),(.slice none 0 0)] [(0,1,(.t 81)),(1,1,(.t 82))]),.s (.st 5 (.t 6) (.t 83)),.q 7 (.mv (.i 0))])) .ret
@[go_sem ↓] theorem aI0:aL m5:=aM _
def vB:PC:=.seq (.seq (.gh (.reg [.q 14 (.fa 0 (.t 4)),.l 15 (.ld1 (.t 14)),.q 16 (.bin .eql true (.t 15) (.i 2))])) (.cond (.t 16) (.seq (.reg [.v 17 8,.a 18 (.cl 138 [(.t 17)] [3]),.v 9 18]) (vM)) (.seq (.reg [.v 38 8,.a 39 (.cl 134 [(.t 38)] [3]),.v 11 39]) (DJ)))) (.seq (.block 0 (pc98_13)) (m5))
@[go_sem ↓] theorem aL2:aL vB:=aM _
def EN:PC:=.seq (.gh (.reg [.q 10 (.mv (.k (.bool true)))])) (vB)
@[go_sem ↓] theorem aK3:aL EN:=aM _
def DO:PC:=.seq (.gh (.reg [.q 9 (.mv (.i 0))])) (EN)
@[go_sem ↓] theorem aLR:aL DO:=aM _
def aAR:PC:=.seq (.reg [.e 3 (.bx 25 (.t 0)),.e 4 (.bx 42 (.t 1)),.e 6 (.al (.agg #[(.int .i64 0),(.int .i64 0),(.string (mk [])),(.slice none 0 0),(.slice none 0 0)]) 29),.q 7 (.mv (.i 0))]) (.seq (.reg [.v 12 2,.a 13 (.cl 133 [(.t 12)] []),.v 8 13]) (DO))
def p9:List RV:=[.ld (.ldn 5 (.t 6)),.mv (.t 7)]
theorem aOA:aP Tryz.prog true ⟨fun r k=>if r=5/\k=1 then .own [3] else if r=7/\k=1 then .own [3] else if r=12/\k=6 then .q else if r=13/\k=1 then .own [3] else if r=14/\k=2 then .own [3] else if r=15/\k=1 then .own [3] else .own [],fun r=>[2,3,4,6,8,9,10,13,15,17,19,6,11,12].contains r⟩ Tryz.f98=some (aAR,p9):=by kernel_rfl
def xJ:PC:=.seq (.gh (.reg [.q 59 (.fa 3 (.t 10)),.l 60 (.ld1 (.t 59)),.l 61 (.ldn 5 (.t 14)),.e 62 (.bsl 29 5 [(.t 61)]),.e 63 (.ap 29 5 80 (.t 60) (.t 62)),.q 64 (.fa 3 (.t 10)),.s (.st 1 (.t 64) (.t 63))])) (.reg [.v 65 12,.v 2 65])
@[go_sem ↓] theorem aJS:aL xJ:=aM _
def sD:PC:=.seq (.seq (.gh (.reg [.v 55 13,.q 56 (.bin .neq true (.t 55) (.i 0))])) (.cond (.t 56) (.seq (.reg [.q 57 (.bd [(.int .i64 0),(.int .i64 0),(.string (mk [])),(.slice none 0 0),(.slice none 0 0)] []),.v 58 13,.s (.st 5 (.t 6) (.t 57)),.v 7 58]) .ret) .skip)) (xJ)
@[go_sem ↓] theorem aJ3:aL sD:=aM _
def zI:PC:=.seq (.gh (.ord  [.q (.l 46 (.ldn 3 (.t 3))),.q (.q 47 (.fa 3 (.t 4))),.q (.l 48 (.ld1 (.t 47))),.q (.l 49 (.ia 4 (.t 48) (.i 0))),.q (.l 50 (.ldn 4 (.t 49))),.q (.v 51 11),.m (.a 52 (.cl 55 [(.t 46),(.t 50),(.t 51)] [])),.q (.v 45 52),.q (.q 53 (.ex (.t 45) 0)),.q (.q 54 (.ex (.t 45) 1)),.m (.e 14 (.al (.agg #[(.int .i64 0),(.int .i64 0),(.string (mk [])),(.slice none 0 0),(.slice none 0 0)]) 29)),.rc (.v 45 52),.rc (.q 53 (.ex (.t 45) 0)),.rc (.q 54 (.ex (.t 45) 1)),.m (.s (.st 5 (.t 14) (.t 53))),.rc (.q 54 (.ex (.t 45) 1)),.m (.v 13 54)])) (sD)
@[go_sem ↓] theorem aJ8:aL zI:=aM _
def sL:PC:=.seq (.seq (.gh (.reg [.v 41 13,.q 42 (.bin .neq true (.t 41) (.i 0))])) (.cond (.t 42) (.seq (.reg [.q 43 (.bd [(.int .i64 0),(.int .i64 0),(.string (mk [])),(.slice none 0 0),(.slice none 0 0)] []),.v 44 13,.s (.st 5 (.t 6) (.t 43)),.v 7 44]) .ret) .skip)) (zI)
@[go_sem ↓] theorem aI3:aL sL:=aM _
def FC:PC:=.seq (.gh (.reg [.v 36 2,.a 37 (.cl 95 [(.t 36)] []),.v 35 37,.q 38 (.ex (.t 35) 0),.q 39 (.ex (.t 35) 1),.q 40 (.ex (.t 35) 2),.v 11 38,.v 12 39,.v 13 40])) (sL)
@[go_sem ↓] theorem aN2:aL FC:=aM _
def sH:PC:=.seq (.seq (.gh (.reg [.v 67 2,.q 68 (.bin .neq true (.t 67) (.k (.string (mk []))))])) (.cond (.t 68) (.seq (.reg [.q 69 (.bd [(.int .i64 0),(.int .i64 0),(.string (mk [])),(.slice none 0 0),(.slice none 0 0)] []),.s (.st 5 (.t 6) (.t 69)),.q 7 (.mv (.i 2))]) .ret) .skip)) (.seq (.reg [.l 70 (.ldn 5 (.t 10)),.s (.st 5 (.t 6) (.t 70)),.q 7 (.mv (.i 0))]) .ret)
@[go_sem ↓] theorem aJN:aL sH:=aM _
def FG:PC:=.seq (.seq (.gh (.reg [.v 32 8,.q 33 (.mv (.k (.int .u64 0)))])) (.block 0 (.loop (.seq (.reg [.q 34 (.bin .lss true (.t 33) (.t 32))]) (.seq (.cond (.t 34) .skip (.exit 0)) (.seq (.block 1 (FC)) (.reg [.q 66 (.bin .add true (.t 33) (.k (.int .u64 1))),.v 33 66]))))))) (sH)
@[go_sem ↓] theorem aLL:aL FG:=aM _
def DE:PC:=.seq (.gh (.reg [.q 31 (.bd [(.int .i64 0),(.int .i64 0),(.string (mk [])),(.slice none 0 0),(.slice none 0 0)] [(0,1,(.i 5))]),.e 10 (.al (.agg #[(.int .i64 0),(.int .i64 0),(.string (mk [])),(.slice none 0 0),(.slice none 0 0)]) 29),.s (.st 5 (.t 10) (.t 31))])) (FG)
@[go_sem ↓] theorem aL9:aL DE:=aM _
def vX:PC:=.seq (.seq (.gh (.reg [.v 25 8,.q 26 (.fa 1 (.t 4)),.l 27 (.ld1 (.t 26)),.q 28 (.cvt .u64 (.t 27)),.q 29 (.bin .gtr true (.t 25) (.t 28))])) (.cond (.t 29) (.seq (.reg [.q 30 (.bd [(.int .i64 0),(.int .i64 0),(.string (mk [])),(.slice none 0 0),(.slice none 0 0)] []),.s (.st 5 (.t 6) (.t 30)),.q 7 (.mv (.i 3))]) .ret) .skip)) (DE)
@[go_sem ↓] theorem aNL:aL vX:=aM _
def vT:PC:=.seq (.seq (.gh (.reg [.v 21 9,.q 22 (.bin .neq true (.t 21) (.i 0))])) (.cond (.t 22) (.seq (.reg [.q 23 (.bd [(.int .i64 0),(.int .i64 0),(.string (mk [])),(.slice none 0 0),(.slice none 0 0)] []),.v 24 9,.s (.st 5 (.t 6) (.t 23)),.v 7 24]) .ret) .skip)) (vX)
@[go_sem ↓] theorem aK8:aL vT:=aM _
def aE2:PC:=.seq (.reg [.e 3 (.bx 25 (.t 0)),.e 4 (.bx 42 (.t 1)),.e 6 (.al (.agg #[(.int .i64 0),(.int .i64 0),(.string (mk [])),(.slice none 0 0),(.slice none 0 0)]) 29),.q 7 (.mv (.i 0))]) (.seq (.reg [.v 16 2,.a 17 (.cl 94 [(.t 16)] []),.v 15 17,.q 18 (.ex (.t 15) 0),.q 19 (.ex (.t 15) 1),.q 20 (.ex (.t 15) 2),.v 8 18,.v 2 19,.v 9 20]) (vT))
def aBS:List RV:=[.ld (.ldn 5 (.t 6)),.mv (.t 7)]
theorem aNV:aP Tryz.prog true ⟨fun _ _=>.own [],fun r=>[2,4,6,7,9,10,12,13,15,18].contains r⟩ Tryz.f99=some (aE2,aBS):=by kernel_rfl
def xY:PC:=.seq (.seq (.gh (.reg [.q 17 (.fa 2 (.t 7)),.l 18 (.ld1 (.t 17)),.q 19 (.lnL (.t 18)),.q 20 (.mv (.i 0))])) (.block 0 (.loop (.seq (.reg [.q 21 (.bin .lss true (.t 20) (.t 19))]) (.seq (.cond (.t 21) .skip (.exit 0)) (.seq (.block 1 (.seq (.reg [.l 22 (.ia 1 (.t 18) (.t 20)),.l 23 (.ld1 (.t 22)),.v 10 23]) (.seq (.reg [.v 24 10,.v 25 2,.q 26 (.bin .eql true (.t 24) (.t 25))]) (.cond (.t 26) (.seq (.reg [.q 6 (.mv (.k (.bool true)))]) .ret) .skip)))) (.reg [.q 27 (.bin .add true (.t 20) (.i 1)),.v 20 27]))))))) (.seq (.reg [.q 6 (.mv (.k (.bool false)))]) .ret)
@[go_sem ↓] theorem aI7:aL xY:=aM _
def U6:PC:=.seq (.reg [.e 3 (.bx 25 (.t 0)),.q 6 (.mv (.k (.bool false)))]) (.seq (.reg [.l 12 (.ldn 3 (.t 3)),.v 13 1,.a 14 (.cl 113 [(.t 12),(.t 13)] []),.v 11 14,.q 15 (.ex (.t 11) 0),.q 16 (.ex (.t 11) 1),.e 7 (.al (.agg #[(.string (mk [])),(.slice none 0 0),(.slice none 0 0)]) 118),.s (.st 3 (.t 7) (.t 15)),.v 8 16]) (xY))
def R3:List RV:=[.mv (.t 6)]
theorem aGC:aP Tryz.prog true ⟨fun _ _=>.own [],fun r=>[2].contains r⟩ Tryz.f139=some (U6,R3):=by kernel_rfl
abbrev uA (n:Nat):A:=.c1 (.vl (.int .u64 n))
theorem aB0:∀ x:Nat,x < 256->IntKind.u8.wrap ((BitVec.ofInt IntKind.u8.bits (x:Int) &&& BitVec.ofInt IntKind.u8.bits 127).toNat:Int)=((x % 128:Nat):Int):=by decide +kernel
theorem VS (c:UInt8):IntKind.u8.wrap ((BitVec.ofInt IntKind.u8.bits (c.toNat:Int) &&& BitVec.ofInt IntKind.u8.bits 127).toNat:Int)=((c.toNat % 128:Nat):Int):=aB0 _ c.toNat_lt
theorem iJ {n:Nat} (h:n < 18446744073709551616):IntKind.u64.wrap (n:Int)=n:=by
 have h2:IntKind.u64.wrap (n:Int)=(n:Int) % 18446744073709551616:=by simp [IntKind.wrap,IntKind.signed,IntKind.bits]
 rw [h2]; omega
theorem aB9 {n m i:Nat} (hn:n < 128 ^ i) (hs:n + m * 128 ^ i < 18446744073709551616) (hi:i<=9) :
 IntKind.u64.wrap ((BitVec.ofInt IntKind.u64.bits (n:Int) ||| BitVec.ofInt IntKind.u64.bits (IntKind.u64.wrap ((m:Int) * 2 ^ (min ((7:Int) * (i:Int)).toNat 64)))).toNat:Int)=((n + m * 128 ^ i:Nat):Int):=by
 have hb:IntKind.u64.bits=64:=rfl
 have e1:((7:Int) * (i:Int)).toNat=7 * i:=by omega
 have e2:min (7 * i) 64=7 * i:=by omega
 have e3:(2:Nat) ^ (7 * i)=128 ^ i:=by rw [Nat.pow_mul]
 have e4:(m:Int) * 2 ^ (7 * i)=((m * 128 ^ i:Nat):Int):=by
  rw [<-e3]; simp
 rw [hb,e1,e2,e4,iJ (n:=m * 128 ^ i) (by omega)]
 have e5:(BitVec.ofInt 64 (n:Int)).toNat=n:=by
  rw [BitVec.ofInt_natCast,BitVec.toNat_ofNat]; exact Nat.mod_eq_of_lt (by omega)
 have e6:(BitVec.ofInt 64 ((m * 128 ^ i:Nat):Int)).toNat=m * 128 ^ i:=by
  rw [BitVec.ofInt_natCast,BitVec.toNat_ofNat]; exact Nat.mod_eq_of_lt (by omega)
 rw [BitVec.toNat_or,e5,e6]
 have e7:n ||| m * 128 ^ i=n + m * 128 ^ i:=by
  rw [Nat.or_comm,<-e3,<-Nat.shiftLeft_eq,<-Nat.shiftLeft_add_eq_or_of_lt (by rw [e3]; exact hn),Nat.add_comm]
 rw [e7,iJ hs]
def aAU:W.Spec:=fun av H K=>∃ x:ByteArray,av=[tS x]/\H=[]/\x.size<=9223372036854775807/\K (.tu [uA (vr (bl x)).1,iA .i64 (vr (bl x)).2.1,iA .i64 (vr (bl x)).2.2]) []
theorem aDA {x:ByteArray} {K:S->Hp->Prop} (h:x.size<=9223372036854775807) (hK:K (.tu [uA (vr (bl x)).1,iA .i64 (vr (bl x)).2.1,iA .i64 (vr (bl x)).2.2]) []):aAU [tS x] [] K:=⟨x,rfl,rfl,h,hK⟩
theorem N0:Meets Tryz.prog 156 aAU:=by
 refine aD Tryz.func156 aH9 1 (by rw [Tryz.ntmps156]; decide) (aB _) (fun av H K h=>by obtain ⟨_,rfl,_⟩:=h; rfl) ?_
 rintro av H K ⟨x,rfl,rfl,hx,hK⟩
 obtain ⟨l,rfl⟩:∃ l,x=mk l:=⟨bl x,(fJ x).symm⟩
 rw [cJ,kI] at hx
 rw [kI] at hK
 have fin:∀ (n k:Nat) (e:Int),vr l=(n,k,e)->W.Fin 0 K (.tu [uA n,iA .i64 k,iA .i64 e]) []:=fun n k e h=>by
  rw [h] at hK; exact .done hK
 clear hK
 simp (maxSteps:=1000000) -dsimp only [go_sem,TW,SD]
 refine aU (α:=Nat × Nat) (fun z=>[(0,tS (mk l)),(5,iS .u64 z.2),(8,iS .i64 z.1)]) (fun _=>[])
  (fun z=>z.1<=9/\z.2 < 128 ^ z.1/\z.1<=l.length/\nA z.1 z.2 (l.drop z.1)=vr l) (fun z=>10 - z.1) (0,0) 0 ⟨by decide,by decide,Nat.zero_le _,rfl⟩ ?_ ?_ ?_
 · simp -dsimp only [go_sem]<;>simp
 · simp [go_sem]
 rintro ⟨i,n⟩ ⟨hi,hn,hil,ho⟩
 simp only at hi hn hil ho ⊢
 have hg:decide ((i:Int) < 10)=true:=by simp; omega
 rcases a8 i l.length with hlt | hge
 · have hg2:((i:Int) == (l.length:Int))=false:=by simp; omega
   obtain ⟨c,hc⟩:∃ c,l[i]? = some c:=⟨_,aV hlt⟩
   have hd:l.drop i=c :: l.drop (i + 1):=by
    obtain ⟨h,rfl⟩:=bB.1 hc
    exact List.drop_eq_getElem_cons h
   rw [hd,lP] at ho
   have e9:((i:Int) == 9)=(i == 9):=by rw [Bool.eq_iff_iff]; simp; omega
   have e1:decide ((1:Int) < (c.toNat:Int))=decide (1 < c.toNat):=by rw [Bool.eq_iff_iff]; simp; omega
   have e128:decide ((128:Int)<=(c.toNat:Int))=decide (128<=c.toNat):=by rw [Bool.eq_iff_iff]; simp; omega
   have e0:((c.toNat:Int) == 0)=(c.toNat == 0):=by rw [Bool.eq_iff_iff]; simp
   have ei:decide ((0:Int) < (i:Int))=decide (0 < i):=by rw [Bool.eq_iff_iff]; simp
   have hc256:=c.toNat_lt
   cases c1:i == 9 && decide (1 < c.toNat) with
   | true=>
    rw [c1] at ho
    rw [Bool.and_eq_true] at c1
    simp (maxSteps:=1000000) -dsimp only [go_sem,hg,hg2,hc,aF,forall_eq',e9,e1,c1.1,c1.2]
    exact ⟨by omega,fin 0 0 2 ho.symm⟩
   | false=>
    rw [c1,cond_false] at ho
    have key:n + c.toNat % 128 * 128 ^ i < 18446744073709551616:=by
     rcases a8 i 9 with h9 | h9
     · have h1:128 ^ (i + 1)<=128 ^ 9:=Nat.pow_le_pow_right (by decide) (by omega)
       have h2:c.toNat % 128 * 128 ^ i<=127 * 128 ^ i:=Nat.mul_le_mul_right _ (by omega)
       have h3:(128:Nat) ^ 9=9223372036854775808:=by decide
       have h4:128 ^ (i + 1)=128 * 128 ^ i:=by rw [Nat.pow_succ,Nat.mul_comm]
       omega
     · obtain rfl:i=9:=by omega
       rw [show ((9:Nat) == 9)=true from rfl,Bool.true_and] at c1
       have h1:=of_decide_eq_false c1
       have h3:(128:Nat) ^ 9=9223372036854775808:=by decide
       rw [h3] at hn ⊢
       have:c.toNat % 128<=1:=by omega
       have h2:c.toNat % 128 * 9223372036854775808<=1 * 9223372036854775808:=Nat.mul_le_mul_right _ this
       omega
    have hos:=aB9 hn key hi
    have c1':((i == 9)=false\/decide (1 < c.toNat)=false):=by rw [Bool.and_eq_false_iff] at c1; exact c1
    have g9:∀ (P Q:Prop),(((bif i == 9 then decide (1 < c.toNat) else false)=true->P)/\((bif i == 9 then decide (1 < c.toNat) else false)=false->Q))=Q:=fun P Q=>by
     have:(bif i == 9 then decide (1 < c.toNat) else false)=false:=by rw [E9]; exact c1
     rw [this]; simp
    simp (maxSteps:=1000000) -dsimp only [go_sem,hg,hg2,hc,aF,forall_eq',e9,e1,c1,VS,e128,e0,ei]
    have hw:IntKind.u64.wrap ((c.toNat % 128:Nat):Int)=((c.toNat % 128:Nat):Int):=iJ (by omega)
    simp only [hw,hos]
    refine ⟨by omega,by omega,by omega,fun h1=>?_,fun h1=>⟨fun h2=>?_,fun h2=>?_⟩⟩
    · rw [h1,cond_true] at ho
      have h128:=of_decide_eq_true h1
      have hi9:i ≠ 9:=fun e=>by
       subst e
       rcases c1' with h | h
       · cases h
       · have:=of_decide_eq_false h; omega
      have hm:c.toNat % 128 * 128 ^ i<=127 * 128 ^ i:=Nat.mul_le_mul_right _ (by omega)
      have hp:128 ^ (i + 1)=128 * 128 ^ i:=by rw [Nat.pow_succ,Nat.mul_comm]
      refine ⟨by omega,aE (i + 1,n + c.toNat % 128 * 128 ^ i) 0 ⟨by simp only; omega,by simp only; rw [hp]; omega,by simp only; omega,ho⟩ (by simp only; omega) ?_ ?_⟩
      · simp -dsimp only [go_sem,hw,hos]<;>simp [hw,hos]
      · simp [go_sem]
    · rw [h1,cond_false,h2,cond_true] at ho
      exact fin 0 0 2 ho.symm
    · rw [h1,cond_false,h2,cond_false] at ho
      refine ⟨by omega,fin (n + c.toNat % 128 * 128 ^ i) (i + 1) 0 ho.symm⟩
 · have hg2:((i:Int) == (l.length:Int))=true:=by simp; omega
   have hd:l.drop i=[]:=List.drop_eq_nil_iff.2 hge
   rw [hd,yB] at ho
   simp (maxSteps:=1000000) -dsimp only [go_sem,hg,hg2]
   exact fin 0 0 1 ho.symm
def cW (x:List UInt8) (a:Nat) (e:Int):List C:=[.vl (.string (mk x)),.vl (.int .i64 a),.vl (.int .i64 e)]
abbrev fN (x:List UInt8) (a:Nat) (e:Int):B:=.cells (cW x a e) 199
abbrev AN (n:Nat):B:=.cells [.vl (.int .u64 n)] 83
def J1:W.Spec:=fun av H K=>∃ x:List UInt8,av=[tS (mk x)]/\H=[]/\K (.va (.c1 (.pt 0 0))) [fN x 0 0]
theorem NH {x:List UInt8} {K:S->Hp->Prop} (hK:K (.va (.c1 (.pt 0 0))) [fN x 0 0]):J1 [tS (mk x)] [] K:=⟨x,rfl,rfl,hK⟩
theorem wV:Meets Tryz.prog 133 J1:=by
 refine aD Tryz.func133 aF5 1 (by rw [Tryz.ntmps133]; decide) (aB _) (fun av H K h=>by obtain ⟨_,rfl,_⟩:=h; rfl) ?_
 rintro av H K ⟨x,rfl,rfl,hK⟩
 simp (maxSteps:=1000000) -dsimp only [go_sem,SY,Q7]
 exact .done hK
def CD:W.Spec:=fun av H K=>∃ (x:List UInt8) (a:Nat) (e:Int),av=[.va (.c1 (.pt 0 0))]/\H=[fN x a e]/\K (iS .i64 e) [fN x a e]
theorem yD {x:List UInt8} {a:Nat} {e:Int} {K:S->Hp->Prop} (hK:K (iS .i64 e) [fN x a e]):CD [.va (.c1 (.pt 0 0))] [fN x a e] K:=⟨x,a,e,rfl,rfl,hK⟩
theorem aD9:Meets Tryz.prog 135 CD:=by
 refine aD Tryz.func135 aHN 1 (by rw [Tryz.ntmps135]; decide) (aB _) (fun av H K h=>by obtain ⟨_,_,_,rfl,_⟩:=h; rfl) ?_
 rintro av H K ⟨x,a,e,rfl,rfl,hK⟩
 simp (maxSteps:=1000000) -dsimp only [go_sem,cW,UP,RF]
 exact .done hK
def B9:W.Spec:=fun av H K=>∃ (x:List UInt8) (a:Nat) (e:Int),av=[.va (.c1 (.pt 0 0))]/\H=[fN x a e]/\a<=x.length/\x.length<=9223372036854775807/\K (iS .i64 ((x.length:Int) - a)) [fN x a e]
theorem IQ {x:List UInt8} {a:Nat} {e:Int} {K:S->Hp->Prop} (h1:a<=x.length) (h2:x.length<=9223372036854775807) (hK:K (iS .i64 ((x.length:Int) - a)) [fN x a e]):B9 [.va (.c1 (.pt 0 0))] [fN x a e] K:=⟨x,a,e,rfl,rfl,h1,h2,hK⟩
theorem Q1:Meets Tryz.prog 136 B9:=by
 refine aD Tryz.func136 aHV 1 (by rw [Tryz.ntmps136]; decide) (aB _) (fun av H K h=>by obtain ⟨_,_,_,rfl,_⟩:=h; rfl) ?_
 rintro av H K ⟨x,a,e,rfl,rfl,h1,h2,hK⟩
 simp (maxSteps:=1000000) -dsimp only [go_sem,cW,RN,VI]
 exact ⟨by omega,.done hK⟩
def aCO:W.Spec:=fun av H K=>∃ (x:List UInt8) (m:Nat),av=[tS (mk x),.va (.c1 (.pt 0 0))]/\H=[AN m]/\x.length<=9223372036854775807/\K (.tu [iA .i64 (vr x).2.1,iA .i64 (vr x).2.2]) [AN (vr x).1]
theorem aCP {x:List UInt8} {m:Nat} {K:S->Hp->Prop} (h:x.length<=9223372036854775807) (hK:K (.tu [iA .i64 (vr x).2.1,iA .i64 (vr x).2.2]) [AN (vr x).1]):aCO [tS (mk x),.va (.c1 (.pt 0 0))] [AN m] K:=⟨x,m,rfl,rfl,h,hK⟩
theorem aAH:Meets Tryz.prog 155 aCO:=by
 refine aD Tryz.func155 aID 2 (by rw [Tryz.ntmps155]; decide) (aC N0 (aB _)) (fun av H K h=>by obtain ⟨_,_,rfl,_⟩:=h; rfl) ?_
 rintro av H K ⟨x,m,rfl,rfl,h,hK⟩
 simp (maxSteps:=1000000) -dsimp only [go_sem,S1,SB]
 refine aDA (by rw [cJ,kI]; exact h) ?_
 rw [kI]
 simp (maxSteps:=1000000) -dsimp only [go_sem]
 refine aA rfl (.done ?_)
 simp (maxSteps:=1000000) -dsimp only [go_sem,yQ]
 exact .done hK
def ST:W.Spec:=fun av H K=>∃ (x:List UInt8) (m:Nat),av=[.va (.c1 (.pt 0 0)),.va (.c1 (.fn 155 [(false,[.pt 1 0])]))]/\H=[fN x 0 0,AN m]/\x.length<=9223372036854775807/\K (.tu []) [fN x (vr x).2.1 (vr x).2.2,AN (vr x).1]
theorem XX {x:List UInt8} {m:Nat} {K:S->Hp->Prop} (h:x.length<=9223372036854775807) (hK:K (.tu []) [fN x (vr x).2.1 (vr x).2.2,AN (vr x).1]):ST [.va (.c1 (.pt 0 0)),.va (.c1 (.fn 155 [(false,[.pt 1 0])]))] [fN x 0 0,AN m] K:=⟨x,m,rfl,rfl,h,hK⟩
theorem aCT:Meets Tryz.prog 154 ST:=by
 refine aD Tryz.func154 aG9 2 (by rw [Tryz.ntmps154]; decide) (aC aAH (aB _)) (fun av H K h=>by obtain ⟨_,_,rfl,_⟩:=h; rfl) ?_
 rintro av H K ⟨x,m,rfl,rfl,h,hK⟩
 simp (maxSteps:=1000000) -dsimp only [go_sem,cW,RA,VF,bne_self_eq_false]
 refine aA rfl (.done ?_)
 have z0:(0:Int)<=((0:Nat):Int):=by decide
 have z1:((0:Nat):Int)<=(x.length:Int):=by omega
 simp (maxSteps:=1000000) -dsimp only [go_sem,cW,zQ,List.take_length,List.drop_zero,z0,z1]
 refine ⟨by omega,aCP h ?_⟩
 simp (maxSteps:=1000000) -dsimp only [go_sem]
 refine aA rfl (.done ?_)
 rcases gO x with ⟨h0,h1,h2,_⟩ | ⟨h0,h1,h2,h3,_,_⟩
 · have hne:((vr x).2.2 != 0)=true:=by simpa using h0
   rw [h1,h2] at hK ⊢
   simp (maxSteps:=1000000) -dsimp only [go_sem,cW,sG,hne]
   exact .done hK
 · rw [h0] at hK ⊢
   simp (maxSteps:=1000000) -dsimp only [go_sem,cW,sG,bne_self_eq_false]
   refine ⟨by omega,.done ?_⟩
   rw [show ((0:Nat):Int) + ((vr x).2.1:Int)=((vr x).2.1:Int) by omega]
   exact hK
def JW:W.Spec:=fun av H K=>∃ x:List UInt8,av=[.va (.c1 (.pt 0 0))]/\H=[fN x 0 0]/\x.length<=9223372036854775807/\K (iS .u64 (vr x).1) [fN x (vr x).2.1 (vr x).2.2]
theorem FA {x:List UInt8} {K:S->Hp->Prop} (h:x.length<=9223372036854775807) (hK:K (iS .u64 (vr x).1) [fN x (vr x).2.1 (vr x).2.2]):JW [.va (.c1 (.pt 0 0))] [fN x 0 0] K:=⟨x,rfl,rfl,h,hK⟩
theorem D3:Meets Tryz.prog 134 JW:=by
 refine aD Tryz.func134 aGT 1 (by rw [Tryz.ntmps134]; decide) (aC aCT (aB _)) (fun av H K h=>by obtain ⟨_,rfl,_⟩:=h; rfl) ?_
 rintro av H K ⟨x,rfl,rfl,h,hK⟩
 simp (maxSteps:=1000000) -dsimp only [go_sem,RL,UX]
 refine aA rfl (.done ?_)
 simp (maxSteps:=1000000) -dsimp only [go_sem,xU]
 refine XX (m:=0) h ?_
 simp (maxSteps:=1000000) -dsimp only [go_sem]
 refine aA rfl (.done ?_)
 simp (maxSteps:=1000000) -dsimp only [go_sem,xZ]
 refine .sel [0] (by simp) (by simp) rfl (.done ?_)
 simp -dsimp only [go_sem,cW]
 exact hK
theorem aMQ (n:Nat):IntKind.u64.wrap ((BitVec.ofInt IntKind.u64.bits (n:Int) &&& BitVec.ofInt IntKind.u64.bits 1).toNat:Int)=((n % 2:Nat):Int):=by
 have hb:IntKind.u64.bits=64:=rfl
 have e:(BitVec.ofInt 64 (n:Int) &&& BitVec.ofInt 64 1).toNat=n % 2:=by
  rw [BitVec.toNat_and,BitVec.ofInt_natCast,BitVec.toNat_ofNat,show (BitVec.ofInt 64 1).toNat=1 from rfl,Nat.and_one_is_mod]
  omega
 rw [hb,e,iJ (by omega)]
theorem qN {n:Int} (h:bM n):IntKind.i64.wrap n=n:=by
 unfold bM at h
 exact tO (aHP h.1 h.2)
theorem P6 (n:Nat) (h:n < 18446744073709551616):IntKind.i64.wrap (n:Int)=if n < 9223372036854775808 then (n:Int) else (n:Int) - 18446744073709551616:=by
 simp [IntKind.wrap,IntKind.signed,IntKind.bits]
 split<;>omega
theorem Z8 {n:Nat} (h:n < 18446744073709551616):IntKind.i64.wrap ((BitVec.ofInt IntKind.i64.bits (IntKind.i64.wrap ((n:Int).fdiv (2 ^ min 1 64))) ^^^ BitVec.ofInt IntKind.i64.bits (IntKind.i64.wrap (0 - IntKind.i64.wrap ((n % 2:Nat):Int)))).toNat:Int)=pW n:=by
 have hb:IntKind.i64.bits=64:=rfl
 have e1:(n:Int).fdiv (2 ^ min 1 64)=((n / 2:Nat):Int):=by
  rw [show (2:Int) ^ min 1 64=2 from rfl,Int.fdiv_eq_ediv_of_nonneg _ (by decide)]; omega
 have e2:IntKind.i64.wrap ((n / 2:Nat):Int)=((n / 2:Nat):Int):=qN ⟨by omega,by omega⟩
 have e3:IntKind.i64.wrap ((n % 2:Nat):Int)=((n % 2:Nat):Int):=qN ⟨by omega,by omega⟩
 have e4:IntKind.i64.wrap (0 - ((n % 2:Nat):Int))=0 - ((n % 2:Nat):Int):=qN ⟨by omega,by omega⟩
 rw [hb,e1,e2,e3,e4]
 have e5:BitVec.ofInt 64 ((n / 2:Nat):Int)=BitVec.ofNat 64 (n / 2):=BitVec.ofInt_natCast ..
 rw [e5]
 unfold pW
 rcases Nat.mod_two_eq_zero_or_one n with h0 | h0
 · rw [h0,if_neg (by decide),show (0:Int) - ((0:Nat):Int)=0 from rfl,show BitVec.ofInt 64 0=0#64 from rfl,BitVec.xor_zero,BitVec.toNat_ofNat,Nat.mod_eq_of_lt (by omega)]
   exact e2
 · rw [h0,if_pos rfl,show (0:Int) - ((1:Nat):Int)=-1 from rfl,show BitVec.ofInt 64 (-1)=BitVec.allOnes 64 from rfl,BitVec.xor_allOnes,BitVec.toNat_not,BitVec.toNat_ofNat,Nat.mod_eq_of_lt (show n / 2 < 2 ^ 64 by omega),P6 _ (by omega)]
   rw [if_neg (by omega)]
   omega
theorem YO {n:Int} (h:bM n):IntKind.u64.wrap ((BitVec.ofInt IntKind.u64.bits (IntKind.u64.wrap (IntKind.u64.wrap n * 2 ^ min 1 64)) ^^^ BitVec.ofInt IntKind.u64.bits (IntKind.u64.wrap (n.fdiv (2 ^ min 63 64)))).toNat:Int)=(pM n:Int):=by
 unfold bM at h
 have hb:IntKind.u64.bits=64:=rfl
 have hw:∀ x:Int,IntKind.u64.wrap x=x % 18446744073709551616:=fun x=>by simp [IntKind.wrap,IntKind.signed,IntKind.bits]
 have hp:(2:Int) ^ min 63 64=9223372036854775808:=by decide
 rw [hb,hp,show (2:Int) ^ min 1 64=2 from rfl,Int.fdiv_eq_ediv_of_nonneg _ (by decide)]
 unfold pM
 by_cases h0:n < 0
 · have e1:n / 9223372036854775808=-1:=by omega
   have e2:IntKind.u64.wrap (IntKind.u64.wrap n * 2)=((n * 2 + 18446744073709551616).toNat:Int):=by rw [hw,hw]; omega
   rw [if_pos h0,e1,e2,show BitVec.ofInt 64 (IntKind.u64.wrap (-1))=BitVec.allOnes 64 from rfl,BitVec.xor_allOnes,BitVec.toNat_not,BitVec.ofInt_natCast,BitVec.toNat_ofNat,Nat.mod_eq_of_lt (show (n * 2 + 18446744073709551616).toNat < 2 ^ 64 by omega),iJ (by omega)]
   omega
 · have e1:n / 9223372036854775808=0:=by omega
   have e2:IntKind.u64.wrap (IntKind.u64.wrap n * 2)=((n * 2).toNat:Int):=by rw [hw,hw]; omega
   rw [if_neg h0,e1,e2,show BitVec.ofInt 64 (IntKind.u64.wrap 0)=0#64 from rfl,BitVec.xor_zero,BitVec.ofInt_natCast,BitVec.toNat_ofNat,Nat.mod_eq_of_lt (show (n * 2).toNat < 2 ^ 64 by omega),iJ (by omega)]
   omega
def CA:W.Spec:=fun av H K=>∃ x:List UInt8,av=[.va (.c1 (.pt 0 0))]/\H=[fN x 0 0]/\x.length<=9223372036854775807/\K (iS .i64 (pW (vr x).1)) [fN x (vr x).2.1 (vr x).2.2]
theorem XJ {x:List UInt8} {K:S->Hp->Prop} (h:x.length<=9223372036854775807) (hK:K (iS .i64 (pW (vr x).1)) [fN x (vr x).2.1 (vr x).2.2]):CA [.va (.c1 (.pt 0 0))] [fN x 0 0] K:=⟨x,rfl,rfl,h,hK⟩
theorem aHA:Meets Tryz.prog 138 CA:=by
 refine aD Tryz.func138 aHG 1 (by rw [Tryz.ntmps138]; decide) (aC D3 (aB _)) (fun av H K h=>by obtain ⟨_,rfl,_⟩:=h; rfl) ?_
 rintro av H K ⟨x,rfl,rfl,h,hK⟩
 simp (maxSteps:=1000000) -dsimp only [go_sem,R4,RQ]
 refine FA h ?_
 simp (maxSteps:=1000000) -dsimp only [go_sem]
 refine aA rfl (.done ?_)
 simp (maxSteps:=1000000) -dsimp only [go_sem,yJ,aMQ]
 have hlt:(vr x).1 < 18446744073709551616:=by
  rcases gO x with ⟨_,h,_⟩ | ⟨_,_,_,_,_,h⟩
  · rw [h]; decide
  · exact h
 rw [Z8 hlt]
 refine ⟨by decide,.done ?_⟩
 simp -dsimp only [go_sem,cW]
 exact hK
def BT:List S->Prop:=fun av=>match av with
 | [.va (.c1 (.vl (.int .i64 n)))]=>bM n
 | _=>False
theorem oD {av:List S} (h:BT av):∃ n:Int,av=[iS .i64 n]/\bM n:=by
 unfold BT at h
 split at h
 · exact ⟨_,rfl,h⟩
 · exact h.elim
def QE (f:Int->Value):Fun:=⟨BT,RY f,fun av h=>by obtain ⟨n,rfl,_⟩:=oD h; trivial⟩
theorem QN {f:Int->Value}:∀ av H K,(QE f).sp av H K->av.length=1:=fun av H K h=>by obtain ⟨n,rfl,_⟩:=oD h.1.1; rfl
attribute [go_sem] QE BT
theorem aGK:Meets Tryz.prog 84 (QE fun n=>.string (mk (vi (pM n)))).sp:=by
 refine aD Tryz.func84 aM6 1 (by rw [Tryz.ntmps84]; decide) (aH wO (aB _)) QN ?_
 rintro av H K ⟨⟨h,rfl⟩,hK⟩
 obtain ⟨n,rfl,hn⟩:=oD h
 have hK:K (tS (mk (vi (pM n)))) []:=hK
 clear h
 simp (maxSteps:=1000000) -dsimp only [go_sem,Z6,aDN]
 have hz:pM n < 18446744073709551616:=by
  unfold bM at hn
  unfold pM
  split<;>omega
 rw [YO hn]
 exact ⟨by decide,by decide,by omega,.done hK⟩
def S3:W.Spec:=fun av H K=>∃ x:List UInt8,av=[tS (mk x)]/\H=[]/\x.length<=9223372036854775807/\K (.tu [uA (aZ x).1,tA (mk (aZ x).2.1),iA .i64 (aZ x).2.2]) []
theorem xC {x:List UInt8} {K:S->Hp->Prop} (h:x.length<=9223372036854775807) (hK:K (.tu [uA (aZ x).1,tA (mk (aZ x).2.1),iA .i64 (aZ x).2.2]) []):S3 [tS (mk x)] [] K:=⟨x,rfl,rfl,h,hK⟩
theorem tK:Meets Tryz.prog 94 S3:=by
 refine aD Tryz.func94 aLK 1 (by rw [Tryz.ntmps94]; decide) (aC wV (aC D3 (aC aD9 (aC Q1 (aB _))))) (fun av H K h=>by obtain ⟨_,rfl,_⟩:=h; rfl) ?_
 rintro av H K ⟨x,rfl,rfl,hx,hK⟩
 have fin:∀ (n:Nat) (r:List UInt8) (e:Int) (R:Hp),aZ x=(n,r,e)->W.Fin 0 K (.tu [uA n,tA (mk r),iA .i64 e]) R:=fun n r e R h=>by
  rw [h] at hK; exact .sel [] (by simp) (by simp) rfl (.done (by simpa [go_sem] using hK))
 clear hK
 unfold aZ at fin
 simp (maxSteps:=1000000) -dsimp only [go_sem,aEC,ZH]
 refine NH ?_
 simp (maxSteps:=1000000) -dsimp only [go_sem,cW]
 refine aA rfl (.done ?_)
 simp (maxSteps:=1000000) -dsimp only [go_sem,D1]
 refine FA hx ?_
 simp (maxSteps:=1000000) -dsimp only [go_sem,cW]
 refine aA rfl (.done ?_)
 simp (maxSteps:=1000000) -dsimp only [go_sem,DG]
 refine yD ?_
 simp (maxSteps:=1000000) -dsimp only [go_sem,cW]
 refine aA rfl (.done ?_)
 have hlt:=gO x
 cases c1:(vr x).2.2 != 0 with
 | true=>
  rw [c1,cond_true] at fin
  simp (maxSteps:=1000000) -dsimp only [go_sem,w6,c1]
  exact fin _ _ _ _ rfl
 | false=>
  rw [c1,cond_false] at fin
  simp (maxSteps:=1000000) -dsimp only [go_sem,w6,c1]
  obtain ⟨h0,h1,h2,h3,_⟩:(vr x).2.2=0/\(vr x).2.1=(vi (vr x).1).length/\0 < (vr x).2.1/\(vr x).2.1<=x.length/\True:=by
   rcases hlt with ⟨h,_⟩ | ⟨a,b,c,d,_⟩
   · exact absurd (fT c1) h
   · exact ⟨a,b,c,d,trivial⟩
  have e1:((x.length:Int) - ((x.length:Int) - ((vr x).2.1:Int)))=((vr x).2.1:Int):=by omega
  refine aA rfl (.done ?_)
  simp (maxSteps:=1000000) -dsimp only [go_sem,EK]
  refine IQ h3 hx ?_
  simp (maxSteps:=1000000) -dsimp only [go_sem,cW,e1,List.take_length]
  refine ⟨by omega,by omega,by omega,by omega,?_⟩
  exact fin _ _ _ _ rfl
def TD:W.Spec:=fun av H K=>∃ x:List UInt8,av=[tS (mk x)]/\H=[]/\x.length<=9223372036854775807/\K (.tu [tA (mk (bG x).1),tA (mk (bG x).2.1),iA .i64 (bG x).2.2]) []
theorem HM {x:List UInt8} {K:S->Hp->Prop} (h:x.length<=9223372036854775807) (hK:K (.tu [tA (mk (bG x).1),tA (mk (bG x).2.1),iA .i64 (bG x).2.2]) []):TD [tS (mk x)] [] K:=⟨x,rfl,rfl,h,hK⟩
theorem LE:Meets Tryz.prog 95 TD:=by
 refine aD Tryz.func95 aLC 1 (by rw [Tryz.ntmps95]; decide) (aC tK (aB _)) (fun av H K h=>by obtain ⟨_,rfl,_⟩:=h; rfl) ?_
 rintro av H K ⟨x,rfl,rfl,hx,hK⟩
 have fin:∀ (n r:List UInt8) (e:Int) (R:Hp),bG x=(n,r,e)->W.Fin 0 K (.tu [tA (mk n),tA (mk r),iA .i64 e]) R:=fun n r e R h=>by
  rw [h] at hK; exact .sel [] (by simp) (by simp) rfl (.done (by simpa [go_sem] using hK))
 clear hK
 unfold bG at fin
 have hl:=(qP x).1
 simp (maxSteps:=1000000) -dsimp only [go_sem,YH,aC3]
 refine xC hx ?_
 simp (maxSteps:=1000000) -dsimp only [go_sem]
 refine aA rfl (.done ?_)
 generalize aZ x=z at *
 obtain ⟨n,r,e⟩:=z
 simp only at fin hl ⊢
 cases c1:e != 0 with
 | true=>
  rw [c1,cond_true] at fin
  simp (maxSteps:=1000000) -dsimp only [go_sem,qF,c1]
  exact fin _ _ _ _ rfl
 | false=>
 rw [c1,cond_false] at fin
 have hu:IntKind.u64.wrap (r.length:Int)=(r.length:Int):=iJ (by omega)
 have hd:decide ((r.length:Int) < (n:Int))=decide (r.length < n):=by rw [Bool.eq_iff_iff]; simp
 cases c2:decide (r.length < n) with
 | true=>
  rw [c2,cond_true] at fin
  simp (maxSteps:=1000000) -dsimp only [go_sem,qF,c1,hu,hd,c2]
  exact fin _ _ _ _ rfl
 | false=>
  rw [c2,cond_false] at fin
  have c2':=of_decide_eq_false c2
  simp (maxSteps:=1000000) -dsimp only [go_sem,qF,c1,hu,hd,c2,List.drop_zero,List.take_length]
  refine ⟨by omega,by omega,?_⟩
  exact fin _ _ _ _ rfl
def cD (x:Int × List UInt8):List C:=[.vl (.int .i64 x.1),.vl (.string (mk x.2))]
def B7:W.Spec:=fun av H K=>∃ (x:List UInt8) (last:Int),av=[tS (mk x),iS .i64 last]/\H=[]/\x.length<=9223372036854775807/\K (.tu [.gs (cD (aT x last).1),tA (mk (aT x last).2.1),iA .i64 (aT x last).2.2]) []
theorem IS {x:List UInt8} {last:Int} {K:S->Hp->Prop} (h:x.length<=9223372036854775807) (hK:K (.tu [.gs [.vl (.int .i64 (aT x last).1.1),.vl (.string (mk (aT x last).1.2))],tA (mk (aT x last).2.1),iA .i64 (aT x last).2.2]) []):B7 [tS (mk x),iS .i64 last] [] K:=⟨x,last,rfl,rfl,h,hK⟩
theorem HK:Meets Tryz.prog 53 B7:=by
 refine aD Tryz.func53 aL1 2 (by rw [Tryz.ntmps53]; decide) (aC tK (aC LE (aB _))) (fun av H K h=>by obtain ⟨_,_,rfl,_⟩:=h; rfl) ?_
 rintro av H K ⟨x,last,rfl,rfl,hx,hK⟩
 have fin:∀ (a:Int) (c r:List UInt8) (e:Int) (R:Hp),aT x last=((a,c),r,e)->W.Fin 0 K (.tu [.gs [.vl (.int .i64 a),.vl (.string (mk c))],tA (mk r),iA .i64 e]) R:=fun a c r e R h=>by
  rw [h] at hK; exact .sel [] (by simp) (by simp) rfl (.done (by simpa [go_sem,cD] using hK))
 clear hK
 unfold aT at fin
 have hl:=(qP x).1
 simp (maxSteps:=1000000) -dsimp only [go_sem,aC8,aDF]
 refine xC hx ?_
 generalize aZ x=z at *
 obtain ⟨n,r,e⟩:=z
 simp only at fin hl ⊢
 have hd:decide ((2147483647:Int) < (n:Int))=decide (2147483647 < n):=by rw [Bool.eq_iff_iff]; simp; omega
 cases c1:e != 0 with
 | true=>
  rw [c1,cond_true] at fin
  simp (maxSteps:=1000000) -dsimp only [go_sem,c1]
  exact fin _ _ _ _ _ rfl
 | false=>
 rw [c1,cond_false] at fin
 cases c2:decide (2147483647 < n) with
 | true=>
  rw [c2,cond_true] at fin
  simp (maxSteps:=1000000) -dsimp only [go_sem,c1,hd,c2]
  exact fin _ _ _ _ _ rfl
 | false=>
 rw [c2,cond_false] at fin
 have c2':=of_decide_eq_false c2
 have hw:IntKind.i64.wrap (n:Int)=(n:Int):=qN ⟨by omega,by omega⟩
 cases c3:decide ((n:Int)<=last) with
 | true=>
  rw [c3,cond_true] at fin
  simp (maxSteps:=1000000) -dsimp only [go_sem,c1,hd,c2,hw,c3]
  exact fin _ _ _ _ _ rfl
 | false=>
  rw [c3,cond_false] at fin
  simp (maxSteps:=1000000) -dsimp only [go_sem,c1,hd,c2,hw,c3]
  refine HM (by omega) ?_
  simp (maxSteps:=1000000) -dsimp only [go_sem]
  refine aA rfl (.done ?_)
  simp (maxSteps:=1000000) -dsimp only [go_sem,DS,hw]
  exact fin _ _ _ _ _ rfl
def VN:W.Spec:=fun av H K=>∃ x:List UInt8,av=[tS (mk x)]/\H=[]/\x.length<=1000000000/\K (.tu [.c1 (.fz ((bY x.length 0 x).1.map cD)),iA .i64 (bY x.length 0 x).2]) []
theorem W7 {x:List UInt8} {K:S->Hp->Prop} (h:x.length<=1000000000) (hK:K (.tu [.c1 (.fz ((bY x.length 0 x).1.map cD)),iA .i64 (bY x.length 0 x).2]) []):VN [tS (mk x)] [] K:=⟨x,rfl,rfl,h,hK⟩
theorem N1:Meets Tryz.prog 38 VN:=by
 refine aD Tryz.func38 aLX 1 (by rw [Tryz.ntmps38]; decide) (aC HK (aB _)) (fun av H K h=>by obtain ⟨_,rfl,_⟩:=h; rfl) ?_
 rintro av H K ⟨x,rfl,rfl,hx,hK⟩
 have key:∀ (L:List (Int × List UInt8)) (e:Int),bY x.length 0 x=(L,e)->K (.tu [.c1 (.fz (L.map cD)),iA .i64 e]) []:=fun L e h=>by rw [h] at hK; exact hK
 clear hK
 simp (maxSteps:=1000000) -dsimp only [go_sem,Y1,YT]
 refine cM (α:=Nat × Int × List UInt8 × List (Int × List UInt8)) (fun z=>[(0,tS (mk z.2.2.1)),(4,.va (.c1 (.sl 0 z.2.2.2.length))),(5,iS .i64 z.2.1)]) (fun z=>[.row (z.2.2.2.map cD) 89 2])
  (fun z=>z.2.2.1.length<=z.1/\z.2.2.1.length + z.2.2.2.length<=x.length/\hY z.2.2.2 (bY z.1 z.2.1 z.2.2.1)=bY x.length 0 x) (fun z=>z.1) (.nil 4 89 2 rfl (jJ (x.length,0,x,[]) 1 ⟨Nat.le_refl _,Nat.le_refl _,x6 (FL _ _ _)⟩ ?_ ?_)) ?_
 · simp -dsimp only [go_sem]<;>simp
 · simp -dsimp only [go_sem]<;>simp
 rintro ⟨g,last,b,acc⟩ ⟨hg,hl,ho⟩
 simp only at hg hl ho ⊢
 by_cases hb:b=[]
 · subst hb
   have e0:(([]:List UInt8) == [])=true:=rfl
   rw [uK,DW,List.append_nil] at ho
   simp (maxSteps:=1000000) -dsimp only [go_sem,e0,Bool.not_true]
   refine aA rfl (.done ?_)
   simp (maxSteps:=1000000) -dsimp only [go_sem,E5]
   refine .pub 0 _ _ _ rfl (.sel [] (by simp) (by simp [cG]) rfl (.done ?_))
   simp -dsimp only [go_sem,cG]
   simpa using key _ _ ho.symm
 · have e0:(b == [])=false:=by simpa using hb
   obtain ⟨g,rfl⟩:∃ k,g=k + 1:=⟨g - 1,by have:=List.length_pos_iff.2 hb; omega⟩
   rw [jP hb] at ho
   have hfl:=mR b last
   simp (maxSteps:=1000000) -dsimp only [go_sem,e0,Bool.not_false]
   refine IS (by omega) ?_
   generalize aT b last=z at *
   obtain ⟨⟨a,c⟩,r,e⟩:=z
   simp only at ho hfl ⊢
   simp (maxSteps:=1000000) -dsimp only [go_sem]
   refine aA rfl (.done ?_)
   cases c1:e != 0 with
   | true=>
    rw [c1,cond_true,mU acc c1] at ho
    simp (maxSteps:=1000000) -dsimp only [go_sem,u5,c1]
    refine .sel [] (by simp) (by simp) rfl (.done ?_)
    simp -dsimp only [go_sem]
    exact key _ _ ho.symm
   | false=>
    rw [c1,cond_false,FO] at ho
    have hlt:=hfl.2.2 (fT c1)
    simp (maxSteps:=1000000) -dsimp only [go_sem,u5,c1]
    refine ⟨by omega,aE (g,a,r,acc ++ [(a,c)]) 1 ⟨by simp only; omega,by simp only [List.length_append,List.length_singleton]; omega,ho⟩ (by simp only; omega) ?_ ?_⟩
    · simp -dsimp only [go_sem]<;>simp
    · simp -dsimp only [go_sem]<;>simp [cD]
def nM (L:List (Int × List UInt8)) (k:Int):Option (Int × List UInt8):=L.find? fun y=>decide (y.1=k)
def KG:W.Spec:=fun av H K=>∃ (x:List UInt8) (k:Int),av=[tS (mk x),iS .i64 k]/\H=[]/\x.length<=9223372036854775807/\
 (2000 < x.length->K (.tu [tA (mk []),bA false]) [])/\(x.length<=2000->K (.tu [tA (mk (((nM (bY x.length 0 x).1 k).map (·.2)).getD [])),bA (nM (bY x.length 0 x).1 k).isSome]) [])
theorem aH3:Meets Tryz.prog 21 KG:=by
 refine aD Tryz.func21 aMK 2 (by rw [Tryz.ntmps21]; decide) (aC N1 (aB _)) (fun av H K h=>by obtain ⟨_,_,rfl,_⟩:=h; rfl) ?_
 rintro av H K ⟨x,k,rfl,rfl,hx,hK1,hK2⟩
 rcases a8 2000 x.length with hlt | hge
 · have g0:decide ((2000:Int) < (x.length:Int))=true:=by simp; omega
   simp (maxSteps:=1000000) -dsimp only [go_sem,PU,OQ,g0]
   exact .done (hK1 hlt)
 · have g0:decide ((2000:Int) < (x.length:Int))=false:=by simp; omega
   have hK:=hK2 hge
   clear hK1 hK2
   simp (maxSteps:=1000000) -dsimp only [go_sem,PU,OQ,g0]
   refine W7 (by omega) ?_
   have hen:=FL x.length 0 x
   have hln:(bY x.length 0 x).1.length<=x.length:=uP _ _ _
   generalize bY x.length 0 x=z at *
   obtain ⟨L,e⟩:=z
   simp only at hK hen hln ⊢
   simp (maxSteps:=1000000) -dsimp only [go_sem]
   refine aA rfl (.done ?_)
   cases c1:e != 0 with
   | true=>
    rw [hen (nG c1)] at hK
    simp (maxSteps:=1000000) -dsimp only [go_sem,u1,c1]
    exact .done hK
   | false=>
    simp (maxSteps:=1000000) -dsimp only [go_sem,u1,c1]
    refine aU (α:=Nat) (fun i=>[(1,iS .i64 k),(20,.va (.c1 (.fz (L.map cD)))),(21,iS .i64 L.length),(22,iS .i64 i)]) (fun _=>[])
     (fun i=>i<=L.length/\nM (L.drop i) k=nM L k) (fun i=>L.length - i) 0 0 ⟨Nat.zero_le _,rfl⟩ ?_ ?_ ?_
    · simp -dsimp only [go_sem]<;>simp
    · simp -dsimp only [go_sem]<;>simp
    rintro i ⟨hi,ho⟩
    rcases a8 i L.length with hlt | hge2
    · have hg:decide ((i:Int) < (L.length:Int))=true:=by simp; omega
      have hy:L[i]? = some L[i]:=aV hlt
      have q2:=aY (row:=cD) hy
      rw [List.drop_eq_getElem_cons hlt] at ho
      unfold nM at ho
      rw [List.find?_cons] at ho
      generalize L[i]=y at *
      have hq:(y.1 == k)=decide (y.1=k):=rfl
      cases hc:decide (y.1=k) with
      | true=>
       rw [hc] at ho
       have ho':nM L k=some y:=ho.symm
       rw [ho'] at hK
       simp (maxSteps:=1000000) -dsimp only [go_sem,hg,↓q2,cD,hq,hc]
       exact ⟨by omega,.sel [] (by simp) (by simp) rfl (.done (by simpa [go_sem] using hK))⟩
      | false=>
       rw [hc] at ho
       simp (maxSteps:=1000000) -dsimp only [go_sem,hg,↓q2,cD,hq,hc]
       refine ⟨by omega,by omega,aE (i + 1) 0 ⟨by omega,ho⟩ (by omega) ?_ ?_⟩
       · simp -dsimp only [go_sem]<;>simp
       · simp -dsimp only [go_sem]<;>simp
    · have hg:decide ((i:Int) < (L.length:Int))=false:=by simp; omega
      have hd:L.drop i=[]:=List.drop_eq_nil_iff.2 hge2
      rw [hd] at ho
      have ho':nM L k=none:=ho.symm
      rw [ho'] at hK
      simp (maxSteps:=1000000) -dsimp only [go_sem,hg]
      exact .done hK
def aEF:W.Spec:=fun av H K=>∃ b:List UInt8,av=[tS (mk b)]/\H=[]/\b.length<=9223372036854775807/\K (.tu [.gs (aQ (pD b).1),iA .i64 (pD b).2]) []
theorem aEZ {b:List UInt8} {K:S->Hp->Prop} (h:b.length<=9223372036854775807) (hK:K (.tu [.gs (aQ (pD b).1),iA .i64 (pD b).2]) []):aEF [tS (mk b)] [] K:=⟨b,rfl,rfl,h,hK⟩
theorem GF:Meets Tryz.prog 97 aEF:=by
 refine aD Tryz.func97 aNP 1 (by rw [Tryz.ntmps97]; decide) (aB _) (fun av H K h=>by obtain ⟨_,rfl,_⟩:=h; rfl) ?_
 rintro av H K ⟨b,rfl,rfl,hb,hK⟩
 have fin:∀ (v:Vl) (e:Int) (R:Hp),pD b=(v,e)->W.Fin 0 K (.tu [.gs (aQ v),iA .i64 e]) R:=fun v e R h=>by
  rw [h] at hK; exact .sel [] (by simp) (by simp) rfl (.done (by rw [aK] at hK ⊢; simpa [go_sem] using hK))
 clear hK
 unfold pD at fin
 cases b with
 | nil=>
  have e0:(([]:List UInt8) == [])=true:=rfl
  simp (maxSteps:=1000000) -dsimp only [go_sem,P4,OH,e0]
  exact fin v0 1 _ rfl
 | cons c r=>
  have e0:(c :: r == [])=false:=rfl
  rw [e0,cond_false,List.headD_cons,List.length_cons] at fin
  have e1:decide ((1:Int) < (c.toNat:Int))=decide (1 < c.toNat):=by rw [Bool.eq_iff_iff]; simp; omega
  have e2:decide ((1:Int) < ((r.length + 1:Nat):Int))=decide (1 < r.length + 1):=by rw [Bool.eq_iff_iff]; simp; omega
  have e3:IntKind.i64.wrap (c.toNat:Int)=(c.toNat:Int):=qN ⟨by omega,by have:=c.toNat_lt; omega⟩
  have z0:(0:Int) < ((r.length + 1:Nat):Int):=by omega
  have z1:(c :: r)[0]? = some c:=rfl
  have z2:(0:Int)<=0:=by decide
  cases c1:decide (1 < c.toNat)<;>cases c2:decide (1 < r.length + 1)<;>rw [c1,c2] at fin <;>
  · simp (maxSteps:=1000000) -dsimp only [go_sem,P4,OH,e0,e1,e2,c1,c2,z0,z1,z2,aF,forall_eq',Bool.false_or,Bool.true_or,Bool.or_self]
    try simp only [e3]
    first
     | exact fin v0 2 _ rfl
     | exact fin (.mk 1 (c.toNat:Int) (mk []) [] []) 0 _ rfl
def CM:List S->Prop:=fun av=>match av with
 | [.va (.gs r),.va (.c1 (.vl (.string _))),.va (.c1 (.vl (.int .i64 _)))]=>mC r
 | _=>False
theorem oY {av:List S} (h:CM av):∃ (s:Sc) (nm:ByteArray) (n:Int),av=[.va (.gs (aJ s)),tS nm,iS .i64 n]/\s.fit:=by
 unfold CM at h
 split at h
 · obtain ⟨s,rfl,hs⟩:=h; exact ⟨s,_,_,rfl,hs⟩
 · exact h.elim
noncomputable def RP:List S->A:=fun av=>match av with
 | [.va (.gs r),.va (.c1 (.vl (.string nm))),.va (.c1 (.vl (.int .i64 n)))]=>bA (((eN (C.sc r).es nm).getD default).vs.any fun x=>x == n)
 | _=>.gs []
noncomputable def n3Fn:Fun:=⟨CM,RP,fun av h=>by obtain ⟨_,_,_,rfl,_⟩:=oY h; trivial⟩
theorem O7:∀ av H K,n3Fn.sp av H K->av.length=3:=fun av H K h=>by obtain ⟨_,_,_,rfl,_⟩:=oY h.1.1; rfl
attribute [go_sem] n3Fn CM RP
theorem LA:Meets Tryz.prog 139 n3Fn.sp:=by
 refine aD Tryz.func139 aGC 3 (by rw [Tryz.ntmps139]; decide) (aC E4 (aB _)) O7 ?_
 rintro av H K ⟨⟨h,rfl⟩,hK⟩
 obtain ⟨s,nm,n,rfl,hs⟩:=oY h
 have hK:K (bS (((eN (C.sc (aJ s)).es nm).getD default).vs.any fun x=>x == n)) []:=hK
 rw [lL] at hK
 clear h
 have heo:((eN s.es nm).getD default).vs.length<=1000000000:=by
  cases hf:eN s.es nm with
  | none=>exact Nat.zero_le _
  | some e=>exact (hs.en e (IY hf).1).2
 simp (maxSteps:=1000000) -dsimp only [go_sem,aJ,U6,R3]
 refine y8 hs ?_
 generalize (eN s.es nm).getD default=e at *
 simp (maxSteps:=1000000) -dsimp only [go_sem,a6]
 refine aA rfl (.done ?_)
 have fin:∀ (b:Bool) (R:Hp),(e.vs.any fun x=>x == n)=b->W.Fin 0 K (bS b) R:=fun b R h=>by
  rw [h] at hK; exact .sel [] (by simp) (by simp) rfl (.done (by simpa [go_sem] using hK))
 simp (maxSteps:=1000000) -dsimp only [go_sem,xY]
 refine aU (α:=Nat) (fun i=>[(2,iS .i64 n),(18,.va (.c1 (.fz (e.vs.map eH)))),(19,iS .i64 e.vs.length),(20,iS .i64 i)]) (fun _=>[])
  (fun i=>i<=e.vs.length/\(e.vs.drop i).any (fun x=>x == n)=e.vs.any fun x=>x == n) (fun i=>e.vs.length - i) 0 0 ⟨Nat.zero_le _,rfl⟩ ?_ ?_ ?_
 · simp -dsimp only [go_sem]<;>simp
 · simp -dsimp only [go_sem]<;>simp
 rintro i ⟨hi,ho⟩
 rcases a8 i e.vs.length with hlt | hge
 · have hg:decide ((i:Int) < (e.vs.length:Int))=true:=by simp; omega
   have hx:e.vs[i]? = some e.vs[i]:=aV hlt
   have q2:=aY (row:=eH) hx
   rw [List.drop_eq_getElem_cons hlt,List.any_cons] at ho
   generalize e.vs[i]=y at *
   cases hc:y == n with
   | true=>
    rw [hc,Bool.true_or] at ho
    simp (maxSteps:=1000000) -dsimp only [go_sem,hg,↓q2,hc]
    exact ⟨by omega,fin _ _ ho.symm⟩
   | false=>
    rw [hc,Bool.false_or] at ho
    simp (maxSteps:=1000000) -dsimp only [go_sem,hg,↓q2,hc]
    refine ⟨by omega,by omega,aE (i + 1) 0 ⟨by omega,ho⟩ (by omega) ?_ ?_⟩
    · simp -dsimp only [go_sem]<;>simp
    · simp -dsimp only [go_sem]<;>simp
 · have hg:decide ((i:Int) < (e.vs.length:Int))=false:=by simp; omega
   have:e.vs.drop i=[]:=List.drop_eq_nil_iff.2 (by omega)
   rw [this] at ho
   simp (maxSteps:=1000000) -dsimp only [go_sem,hg]
   exact fin _ _ ho.symm
def ZG:W.Spec:=fun av H K=>∃ (s:Sc) (t:Ty) (b:List UInt8),av=[.va (.gs (aJ s)),.va (.gs (aW t)),tS (mk b)]/\H=[]/\Dg s/\s.fit/\TyOk t/\valF s.ss s.es t=true/\(t.k == 2 || (t.k == 3 || t.k == 7))=true/\b.length<=9223372036854775807/\K (.tu [.gs (aQ (pK s t b).1),iA .i64 (pK s t b).2]) []
theorem ZY {s:Sc} {t:Ty} {b:List UInt8} {K:S->Hp->Prop} (hd:Dg s) (hs:s.fit) (ht:TyOk t) (hv:valF s.ss s.es t=true) (hk:(t.k == 2 || (t.k == 3 || t.k == 7))=true) (hb:b.length<=9223372036854775807)
 (hK:K (.tu [.gs (aQ (pK s t b).1),iA .i64 (pK s t b).2]) []) :
 ZG [.va (.gs [.vl (.int .i64 s.ver),.fz (s.es.map a6),.fz (s.ss.map aI)]),.va (.gs [.vl (.int .i64 t.k),.vl (.int .i64 t.s),.vl (.string t.n),.fz (t.e.map aW)]),tS (mk b)] [] K:=⟨s,t,b,by rw [aS]; rfl,rfl,hd,hs,ht,hv,hk,hb,hK⟩
theorem aOD (n:Nat):IntKind.u64.wrap ((BitVec.ofInt IntKind.u64.bits (n:Int) &&& BitVec.ofInt IntKind.u64.bits 4294967295).toNat:Int)=((n % 4294967296:Nat):Int):=by
 have hb:IntKind.u64.bits=64:=rfl
 have e:(BitVec.ofInt 64 (n:Int) &&& BitVec.ofInt 64 4294967295).toNat=n % 4294967296:=by
  rw [BitVec.toNat_and,BitVec.ofInt_natCast,BitVec.toNat_ofNat,show (BitVec.ofInt 64 4294967295).toNat=2 ^ 32 - 1 from rfl,Nat.and_two_pow_sub_one_eq_mod]
  omega
 rw [hb,e,iJ (by omega)]
noncomputable def sR:b8:=[(133,.s J1),(138,.s CA),(134,.s JW),(135,.s CD),(136,.s B9),(139,.f n3Fn)]
theorem YY:sp sR 133=J1:=rfl
theorem aAL:sp sR 138=CA:=rfl
theorem aEQ:sp sR 134=JW:=rfl
theorem MB:sp sR 135=CD:=rfl
theorem aCV:sp sR 136=B9:=rfl
theorem KX:jB sR 139=some n3Fn:=rfl
theorem BN:Meets Tryz.prog 98 ZG:=by
 refine aD (Γ:=sR) Tryz.func98 aOA 3 (by rw [Tryz.ntmps98]; decide) (aC wV (aC aHA (aC D3 (aC aD9 (aC Q1 (aH LA (aB _))))))) (fun av H K h=>by obtain ⟨_,_,_,rfl,_⟩:=h; rfl) ?_
 rintro av H K ⟨s,t,b,rfl,rfl,hd,hs,ht,hv,hk,hb,hK⟩
 have fin:∀ (v:Vl) (e:Int) (R:Hp),pK s t b=(v,e)->W.Fin 0 K (.tu [.gs (aQ v),iA .i64 e]) R:=fun v e R h=>by
  rw [h] at hK; exact .sel [] (by simp) (by simp) rfl (.done (by rw [aK] at hK ⊢; simpa [go_sem] using hK))
 clear hK
 unfold pK at fin
 have hvr:=gO b
 have hnr:(vr b).2.2=0->gB s t (gI t.k (vr b).1)=true->bM (gI t.k (vr b).1)/\((t.k == 2)=false->gI t.k (vr b).1=(vr b).1/\(vr b).1 < 4294967296):=fun _=>RG hd hv hk (JH b)
 have hlt:=JH b
 have tail:∀ (n:Int) (ok:Bool),((vr b).2.2=0->(ok=gB s t (gI t.k (vr b).1)/\(ok=true->n=gI t.k (vr b).1)))->
  vc sR 0 pc98_13.ungh (dZ [(4,.va (.c1 (.pt 1 0))),(6,.va (.c1 (.pt 2 0))),(8,.va (.c1 (.pt 3 0))),(9,iS .i64 n),(10,bS ok)])
   [.cells [.vl (.int .i64 s.ver),.fz (s.es.map a6),.fz (s.ss.map aI)] 25,.cells [.vl (.int .i64 t.k),.vl (.int .i64 t.s),.vl (.string t.n),.fz (t.e.map aW)] 42,.cells [.vl (.int .i64 0),.vl (.int .i64 0),.vl (.string (mk [])),.vl (.slice none 0 0),.vl (.slice none 0 0)] 29,fN b (vr b).2.1 (vr b).2.2]
   (fun e fr' H'=>match e with
     | .e j=>if j=0 then vc sR 0 m5 fr' H' (mJ 0 p9 K) else mJ 0 p9 K (.e j) fr' H'
     | e=>match e with
      | .n=>vc sR 0 m5 fr' H' (mJ 0 p9 K)
      | e=>mJ 0 p9 K e fr' H'):=by
  intro n ok hnk
  simp (maxSteps:=1000000) -dsimp only [go_sem,pc98_13,p9,MB,cW]
  refine yD ?_
  cases c1:(vr b).2.2 != 0 with
  | true=>
   rw [c1,cond_true] at fin
   simp (maxSteps:=1000000) -dsimp only [go_sem,MB,cW,c1]
   refine yD ?_
   simp (maxSteps:=1000000) -dsimp only [go_sem,cW]
   exact fin v0 _ _ rfl
  | false=>
   rw [c1,cond_false] at fin
   obtain ⟨h0,hle⟩:(vr b).2.2=0/\(vr b).2.1<=b.length:=by
    rcases hvr with ⟨h,_⟩ | ⟨a,_,_,d,_⟩
    · exact absurd (fT c1) h
    · exact ⟨a,d⟩
   obtain ⟨hok,hn⟩:=hnk h0
   simp (maxSteps:=1000000) -dsimp only [go_sem,cW,c1]
   refine aA rfl (.done ?_)
   simp (maxSteps:=1000000) -dsimp only [go_sem,yL,aCV,cW]
   refine IQ hle hb ?_
   have e1:decide ((0:Int) < (b.length:Int) - ((vr b).2.1:Int))=decide ((vr b).2.1 < b.length):=by rw [Bool.eq_iff_iff,decide_eq_true_iff,decide_eq_true_iff]; omega
   cases c2:decide ((vr b).2.1 < b.length) with
   | true=>
    rw [c2,cond_true] at fin
    simp (maxSteps:=1000000) -dsimp only [go_sem,cW,e1,c2]
    exact fin v0 _ _ rfl
   | false=>
    rw [c2,cond_false] at fin
    simp (maxSteps:=1000000) -dsimp only [go_sem,cW,e1,c2]
    refine aA rfl (.done ?_)
    rw [<-hok] at fin
    cases ok with
    | false=>
     simp (maxSteps:=1000000) -dsimp only [go_sem,rL,Bool.not_false]
     exact fin v0 _ _ rfl
    | true=>
     rw [hn rfl]
     simp (maxSteps:=1000000) -dsimp only [go_sem,rL,Bool.not_true]
     refine aA rfl (.done ?_)
     simp (maxSteps:=1000000) -dsimp only [go_sem,m5,p9]
     exact fin (.mk t.k (gI t.k (vr b).1) (mk []) [] []) 0 _ rfl
 simp (maxSteps:=1000000) -dsimp only [go_sem,aJ,aS t,aAR,p9,YY]
 refine NH ?_
 simp (maxSteps:=1000000) -dsimp only [go_sem,cW]
 refine aA rfl (.done ?_)
 simp (maxSteps:=1000000) -dsimp only [go_sem,DO]
 refine aA rfl (.done ?_)
 simp (maxSteps:=1000000) -dsimp only [go_sem,EN]
 refine aA rfl (.done ?_)
 cases c2:t.k == 2 with
 | true=>
  simp (maxSteps:=1000000) -dsimp only [go_sem,vB,c2,aAL]
  refine XJ hb ?_
  simp (maxSteps:=1000000) -dsimp only [go_sem,cW]
  refine aA rfl (.done ?_)
  have hnu:gI t.k (vr b).1=pW (vr b).1:=by unfold gI; rw [c2,cond_true]
  have hrg:∀ n:Int,gB s t n=(t.s == 64 || (decide (-(2 ^ (t.s.toNat - 1):Int)<=n) && decide (n < (2 ^ (t.s.toNat - 1):Int)))):=fun n=>by
   unfold gB; rw [cR c2 (b:=1) (by decide),c2]; rfl
  generalize hN:pW (vr b).1=n at *
  cases h64:t.s == 64 with
  | true=>
   simp (maxSteps:=1000000) -dsimp only [go_sem,vM,h64,Bool.false_and]
   refine kO 4 (tail n true fun h0=>⟨by rw [hrg,h64]; rfl,fun _=>hnu.symm⟩) ?_ ?_
   · simp -dsimp only [go_sem,f4]<;>simp
   · simp -dsimp only [go_sem,cW]<;>simp [cW]
  | false=>
   obtain ⟨b1,b2,e1,e2⟩:8<=t.s/\t.s<=32/\IntKind.i64.wrap (-1 * 2 ^ min (t.s - 1).toNat 64)=-(2 ^ (t.s.toNat - 1):Int)/\IntKind.i64.wrap (1 * 2 ^ min (t.s - 1).toNat 64)=(2 ^ (t.s.toNat - 1):Int):=by
    rcases aBF hv c2 with hz | hz | hz | hz
    · rw [hz]; decide
    · rw [hz]; decide
    · rw [hz]; decide
    · rw [hz] at h64; simp at h64
   have f1:(0<=t.s - 1)=True:=eq_true (by omega)
   have f2:(-9223372036854775808<=t.s - 1)=True:=eq_true (by omega)
   have f3:(t.s - 1<=9223372036854775807)=True:=eq_true (by omega)
   have hrg':=hrg n
   rw [h64,Bool.false_or] at hrg'
   generalize (2 ^ (t.s.toNat - 1):Int)=hi at *
   cases h4:decide (-hi<=n)<;>cases h5:decide (n < hi) <;>
   · rw [h4,h5] at hrg'
     simp (maxSteps:=1000000) -dsimp only [go_sem,vM,h64,h4,h5,f1,f2,f3,e1,e2,Bool.and_self,Bool.and_true,Bool.and_false,Bool.true_and,Bool.false_and]
     rw [<-hnu] at hrg'
     refine kO 4 (tail n _ fun h0=>⟨hrg'.symm,fun _=>hnu.symm⟩) ?_ ?_
     · simp -dsimp only [go_sem,f4]<;>simp
     · simp -dsimp only [go_sem,cW]<;>simp [cW]
 | false=>
  simp (maxSteps:=1000000) -dsimp only [go_sem,vB,c2,aEQ]
  refine FA hb ?_
  simp (maxSteps:=1000000) -dsimp only [go_sem,cW]
  refine aA rfl (.done ?_)
  simp (maxSteps:=1000000) -dsimp only [go_sem,DJ]
  refine aA rfl (.done ?_)
  simp (maxSteps:=1000000) -dsimp only [go_sem,EF,aOD]
  refine aA rfl (.done ?_)
  generalize hU:(vr b).1=U at *
  have hnu:gI t.k U=U:=by unfold gI; rw [c2,cond_false]
  have hw:IntKind.i64.wrap ((U % 4294967296:Nat):Int)=((U % 4294967296:Nat):Int):=qN ⟨by omega,by omega⟩
  have e0:decide ((U:Int) < 4294967296)=decide (U < 4294967296):=by rw [Bool.eq_iff_iff,decide_eq_true_iff,decide_eq_true_iff]; omega
  rw [hnu] at hnr
  have hbig:(vr b).2.2=0->decide (U < 4294967296)=false->gB s t U=false:=fun h0 h1=>by
   cases h:gB s t U with
   | false=>rfl
   | true=>have:=((hnr h0 h).2 c2).2; have:=of_decide_eq_false h1; omega
  cases c3:t.k == 3 with
  | true=>
   obtain ⟨b1,b2,e1⟩:8<=t.s/\t.s<=32/\IntKind.i64.wrap (1 * 2 ^ min t.s.toNat 64)=(2 ^ t.s.toNat:Int):=by
    rcases OD hv c3 with hz | hz | hz<;>rw [hz]<;>decide
   have f1:(0<=t.s)=True:=eq_true (by omega)
   have hrg:=rg3 (s:=s) (n:=(U:Int)) c3
   rw [decide_eq_true (show (0:Int)<=(U:Int) by omega),Bool.true_and] at hrg
   generalize (2 ^ t.s.toNat:Int)=hi at *
   cases h4:decide (U < 4294967296) with
   | true=>
    have hm:U % 4294967296=U:=Nat.mod_eq_of_lt (of_decide_eq_true h4)
    rw [hm] at hw ⊢
    cases h5:decide ((U:Int) < hi) <;>
    · rw [h5] at hrg
      simp (maxSteps:=1000000) -dsimp only [go_sem,kK,c3,hw,e0,h4]
      refine aA rfl (.done ?_)
      simp (maxSteps:=1000000) -dsimp only [go_sem,rU,f1,e1,h5]
      have hx:=hrg
      rw [<-hnu] at hx
      refine kO 4 (tail U _ fun h0=>⟨hx.symm,fun _=>hnu.symm⟩) ?_ ?_
      · simp -dsimp only [go_sem,f4]<;>simp
      · simp -dsimp only [go_sem,cW]<;>simp [cW,hU]
   | false=>
    simp (maxSteps:=1000000) -dsimp only [go_sem,kK,c3,hw,e0,h4]
    refine aA rfl (.done ?_)
    simp (maxSteps:=1000000) -dsimp only [go_sem,rU,f1,e1]
    refine kO 4 (tail ((U % 4294967296:Nat):Int) false fun h0=>⟨by rw [hnu]; exact (hbig h0 h4).symm,fun h=>(by cases h)⟩) ?_ ?_
    · simp -dsimp only [go_sem,f4]<;>simp
    · simp -dsimp only [go_sem,cW]<;>simp [cW,hU]
  | false=>
   have c7:(t.k == 7)=true:=by rw [c2,c3] at hk; simpa using hk
   have hrg:=rg7 (s:=s) (n:=(U:Int)) c7
   have k6:=fR hs
   have k7:=lG s
   have heo:(eN s.es t.n).getD default=enOf s t:=rfl
   cases h4:decide (U < 4294967296) with
   | true=>
    have hm:U % 4294967296=U:=Nat.mod_eq_of_lt (of_decide_eq_true h4)
    rw [hm] at hw ⊢
    simp (maxSteps:=1000000) -dsimp only [go_sem,kK,c3,hw,e0,h4]
    refine aA rfl (.done ?_)
    simp (maxSteps:=1000000) -dsimp only [go_sem,rO,KX,k6,k7,heo]
    have hx:gB s t (gI t.k U)=(enOf s t).vs.any (fun x=>x == (U:Int)):=by rw [hnu]; exact hrg
    refine kO 4 (tail U _ fun h0=>⟨hx.symm,fun _=>hnu.symm⟩) ?_ ?_
    · simp -dsimp only [go_sem,f4]<;>simp
    · simp -dsimp only [go_sem,cW]<;>simp [cW,hU]
   | false=>
    simp (maxSteps:=1000000) -dsimp only [go_sem,kK,c3,hw,e0,h4]
    refine aA rfl (.done ?_)
    simp (maxSteps:=1000000) -dsimp only [go_sem,rO,KX,k6,k7,heo]
    refine kO 4 (tail ((U % 4294967296:Nat):Int) false fun h0=>⟨by rw [hnu]; exact (hbig h0 h4).symm,fun h=>(by cases h)⟩) ?_ ?_
    · simp -dsimp only [go_sem,f4]<;>simp
    · simp -dsimp only [go_sem,cW]<;>simp [cW,hU]
def leS (a b:List UInt8):Prop:=a.length<=b.length/\(a.length=b.length->a=b)
structure Can (s:Sc) (t:Ty) (v:Vl) (b:List UInt8):Prop where
 ck:cY s t v=0
 rl:dT v<=j8 s t
 le:∀ N,v.h<=N->N<=8->leS (cC s N t v) b
theorem aCA {s:Sc} (hd:Dg s) {nm:ByteArray} (h:cA s.ss nm=true):j8 s (.mk 6 0 nm [])<=6/\valF s.ss s.es (.mk 6 0 nm [])=true:=by
 have hv:valF s.ss s.es (.mk 6 0 nm [])=true:=by rw [valF.eq_def]; simp [h]
 have:=(vK hd hv rfl).2.1
 rw [D4 rfl]
 exact ⟨this,hv⟩
def y5 (N:Nat):W.Spec:=fun av H K=>∃ (s:Sc) (t:Ty) (b:List UInt8),av=[.va (.gs (aJ s)),.va (.gs (aW t)),tS (mk b)]/\H=[]/\Dg s/\s.fit/\TyOk t/\valF s.ss s.es t=true/\j8 s t < N/\b.length<=1000000000/\K (.tu [.gs (aQ (bW s N t b).1),iA .i64 (bW s N t b).2]) []
theorem MX {N:Nat} {s:Sc} {t:Ty} {b:List UInt8} {K:S->Hp->Prop} (hd:Dg s) (hs:s.fit) (ht:TyOk t) (hv:valF s.ss s.es t=true) (hf:j8 s t < N) (hb:b.length<=1000000000)
 (hK:K (.tu [.gs [.vl (.int .i64 (bW s N t b).1.k),.vl (.int .i64 (bW s N t b).1.n),.vl (.string (bW s N t b).1.s),.fz ((bW s N t b).1.l.map aQ),.fz ((bW s N t b).1.f.map bD)],iA .i64 (bW s N t b).2]) []) :
 y5 N [.va (.gs [.vl (.int .i64 s.ver),.fz (s.es.map a6),.fz (s.ss.map aI)]),.va (.gs [.vl (.int .i64 t.k),.vl (.int .i64 t.s),.vl (.string t.n),.fz (t.e.map aW)]),tS (mk b)] [] K:=⟨s,t,b,by rw [aS]; rfl,rfl,hd,hs,ht,hv,hf,hb,by rw [aK]; exact hK⟩
def sY (acc:List Vl) (q:(List Vl × List UInt8) × Int):(List Vl × List UInt8) × Int:=bif q.2 != 0 then (([],[]),q.2) else ((acc ++ q.1.1,q.1.2),0)
theorem YL (a b:List Vl) (q:(List Vl × List UInt8) × Int):sY a (sY b q)=sY (a ++ b) q:=by
 unfold sY
 cases hq:q.2 != 0 with
 | true=>simp only [cond_true,hq]
 | false=>simp only [cond_false]; rw [show ((0:Int) != 0)=false from rfl,cond_false,List.append_assoc]
theorem IZ (a:List Vl) {e:Int} (h:(e != 0)=true) (x:List Vl × List UInt8):sY a (x,e)=(([],[]),e):=by unfold sY; rw [h]; rfl
theorem aHL {R:List UInt8->Vl × Int}:∀ (n:Nat) (b:List UInt8),(dV R n b).2 ≠ 0->(dV R n b).1=([],[])
 | 0,_,h=>absurd rfl h
 | n + 1,b,h=>by
  rw [oS] at h ⊢
  cases c1:(bG b).2.2 != 0 with
  | true=>rfl
  | false=>
  rw [c1,cond_false] at h
  rw [cond_false]
  cases c2:(R (bG b).1).2 != 0 with
  | true=>rfl
  | false=>
  rw [c2,cond_false] at h
  rw [cond_false]
  cases c:(dV R n (bG b).2.1).2 != 0 with
  | true=>rfl
  | false=>rw [c] at h; exact absurd rfl h
theorem O8 (R:List UInt8->Vl × Int) (n:Nat) (b:List UInt8):dV R (n + 1) b=bif (bG b).2.2 != 0 then (([],[]),(bG b).2.2) else bif (R (bG b).1).2 != 0 then (([],[]),(R (bG b).1).2) else sY [(R (bG b).1).1] (dV R n (bG b).2.1):=by
 rw [oS]; rfl
theorem V5 {R:List UInt8->Vl × Int} (n:Nat) (b:List UInt8):sY [] (dV R n b)=dV R n b:=by
 have h:=aHL (R:=R) n b
 unfold sY
 generalize dV R n b=q at *
 obtain ⟨⟨x,y⟩,e⟩:=q
 cases hq:e != 0 with
 | true=>
  have h2:(x,y)=([],[]):=h (nG hq)
  rw [cond_true,h2]
 | false=>
  have:=fT hq
  subst this; rfl
def aBH (N:Nat):W.Spec:=fun av H K=>∃ (s:Sc) (t:Ty) (b:List UInt8),av=[.va (.gs (aJ s)),.va (.gs (aW t)),tS (mk b)]/\H=[]/\Dg s/\s.fit/\TyOk t/\valF s.ss s.es t=true/\(t.k == 5)=true/\j8 s t < N + 1/\b.length<=1000000000/\
 K (.tu [.gs (aQ (jT (bW s N (t.e.headD default)) t.s b).1),iA .i64 (jT (bW s N (t.e.headD default)) t.s b).2]) []
theorem aE4 {N:Nat} {s:Sc} {t:Ty} {b:List UInt8} {K:S->Hp->Prop} (hd:Dg s) (hs:s.fit) (ht:TyOk t) (hv:valF s.ss s.es t=true) (h5:(t.k == 5)=true) (hf:j8 s t < N + 1) (hb:b.length<=1000000000)
 (hK:K (.tu [.gs (aQ (jT (bW s N (t.e.headD default)) t.s b).1),iA .i64 (jT (bW s N (t.e.headD default)) t.s b).2]) []) :
 aBH N [.va (.gs [.vl (.int .i64 s.ver),.fz (s.es.map a6),.fz (s.ss.map aI)]),.va (.gs [.vl (.int .i64 t.k),.vl (.int .i64 t.s),.vl (.string t.n),.fz (t.e.map aW)]),tS (mk b)] [] K:=⟨s,t,b,by rw [aS]; rfl,rfl,hd,hs,ht,hv,h5,hf,hb,hK⟩
theorem GE {N:Nat} (hD:Meets Tryz.prog 55 (y5 N)):Meets Tryz.prog 99 (aBH N):=by
 refine aD Tryz.func99 aNV 3 (by rw [Tryz.ntmps99]; decide) (aC tK (aC LE (aC hD (aB _)))) (fun av H K h=>by obtain ⟨_,_,_,rfl,_⟩:=h; rfl) ?_
 rintro av H K ⟨s,t,b,rfl,rfl,hd,hs,ht,hv,h5,hf,hb,hK⟩
 obtain ⟨u,he,hu⟩:=E0 hv h5
 have hto:=ht.e u (by rw [he]; exact List.mem_singleton.2 rfl)
 have hfd:=H7 (s:=s) h5 he
 have h32:=(nL hv).2 h5
 have h45:=aL6 hv (.inr h5)
 rw [he] at hK
 have fin:∀ (v:Vl) (e:Int) (R:Hp),jT (bW s N u) t.s b=(v,e)->W.Fin 0 K (.tu [.gs (aQ v),iA .i64 e]) R:=fun v e R h=>by
  have hK:K (.tu [.gs (aQ (jT (bW s N u) t.s b).1),iA .i64 (jT (bW s N u) t.s b).2]) []:=hK
  rw [h] at hK; exact .sel [] (by simp) (by simp) rfl (.done (by rw [aK] at hK ⊢; simpa [go_sem] using hK))
 have fin2:∀ (l:List Vl),jT (bW s N u) t.s b=(.mk 5 0 (mk []) l [],0)->K (.tu [.gs (aQ (.mk 5 0 (mk []) l [])),iA .i64 0]) []:=fun l h=>by
  have hK:K (.tu [.gs (aQ (jT (bW s N u) t.s b).1),iA .i64 (jT (bW s N u) t.s b).2]) []:=hK
  rw [h] at hK; exact hK
 clear hK
 unfold jT at fin fin2
 have hcl:=qP b
 have hcn:=aHK b
 simp (maxSteps:=1000000) -dsimp only [go_sem,aJ,aS t,aE2,aBS]
 refine xC (by omega) ?_
 generalize aZ b=z at *
 obtain ⟨n,r,e⟩:=z
 simp only at fin fin2 hcl hcn ⊢
 simp (maxSteps:=1000000) -dsimp only [go_sem]
 refine aA rfl (.done ?_)
 cases c1:e != 0 with
 | true=>
  rw [c1,cond_true] at fin
  simp (maxSteps:=1000000) -dsimp only [go_sem,vT,c1]
  exact fin v0 _ _ rfl
 | false=>
 rw [c1,cond_false] at fin fin2
 simp (maxSteps:=1000000) -dsimp only [go_sem,vT,c1]
 refine aA rfl (.done ?_)
 have hw:IntKind.u64.wrap t.s=t.s:=by
  have:=iJ (n:=t.s.toNat) (by omega)
  rwa [Int.toNat_of_nonneg (by omega)] at this
 cases c2:decide (t.s < (n:Int)) with
 | true=>
  rw [c2,cond_true] at fin
  simp (maxSteps:=1000000) -dsimp only [go_sem,vX,hw,c2]
  exact fin v0 _ _ rfl
 | false=>
 rw [c2,cond_false] at fin fin2
 have c2':=of_decide_eq_false c2
 simp (maxSteps:=1000000) -dsimp only [go_sem,vX,hw,c2]
 refine aA rfl (.done ?_)
 simp (maxSteps:=1000000) -dsimp only [go_sem,DE]
 refine aA rfl (.done ?_)
 simp (maxSteps:=1000000) -dsimp only [go_sem,FG]
 refine cM (α:=Nat × List UInt8 × List Vl) (fun z=>[(2,tS (mk z.2.1)),(3,.va (.c1 (.pt 0 0))),(4,.va (.c1 (.pt 1 0))),(6,.va (.c1 (.pt 2 0))),(10,.va (.c1 (.pt 3 0))),(32,iS .u64 n),(33,iS .u64 z.1)])
  (fun z=>[.cells [.vl (.int .i64 s.ver),.fz (s.es.map a6),.fz (s.ss.map aI)] 25,.cells [.vl (.int .i64 t.k),.vl (.int .i64 t.s),.vl (.string t.n),.fz (t.e.map aW)] 42,.cells [.vl (.int .i64 0),.vl (.int .i64 0),.vl (.string (mk [])),.vl (.slice none 0 0),.vl (.slice none 0 0)] 29,
    .cells [.vl (.int .i64 5),.vl (.int .i64 0),.vl (.string (mk [])),.sl 4 z.2.2.length,.vl (.slice none 0 0)] 29,.row (z.2.2.map aQ) 29 5])
  (fun z=>z.1<=n/\z.2.2.length=z.1/\z.2.1.length<=b.length/\sY z.2.2 (dV (bW s N u) (n - z.1) z.2.1)=dV (bW s N u) n r) (fun z=>n - z.1)
  (.nilc 3 3 29 5 [.vl (.int .i64 5),.vl (.int .i64 0),.vl (.string (mk [])),.vl (.slice none 0 0),.vl (.slice none 0 0)] 29 rfl rfl (jJ (0,r,[]) 5 ⟨Nat.zero_le _,rfl,hcl.1,by rw [Nat.sub_zero]; exact V5 _ _⟩ ?_ ?_)) ?_
 · simp -dsimp only [go_sem]<;>simp
 · simp -dsimp only [go_sem]<;>simp
 rintro ⟨i,x,acc⟩ ⟨hi,hal,hxl,ho⟩
 simp only at hi hal hxl ho ⊢
 rcases a8 i n with hlt | hge
 · have hg:decide ((i:Int) < (n:Int))=true:=by simp; omega
   obtain ⟨m,hm⟩:∃ m,n - i=m + 1:=⟨n - i - 1,by omega⟩
   have hm':m=n - (i + 1):=by omega
   rw [hm,O8] at ho
   have htl:=D5 x
   simp (maxSteps:=1000000) -dsimp only [go_sem,hg]
   refine aA rfl (.done ?_)
   simp (maxSteps:=1000000) -dsimp only [go_sem,FC]
   refine HM (by omega) ?_
   generalize bG x=z at *
   obtain ⟨c,q,e2⟩:=z
   simp only at ho htl ⊢
   simp (maxSteps:=1000000) -dsimp only [go_sem]
   refine aA rfl (.done ?_)
   cases d1:e2 != 0 with
   | true=>
    rw [d1,cond_true,IZ acc d1] at ho
    rw [<-ho] at fin
    simp only [d1,cond_true] at fin
    simp (maxSteps:=1000000) -dsimp only [go_sem,sL,d1]
    exact fin v0 _ _ rfl
   | false=>
    rw [d1,cond_false] at ho
    simp (maxSteps:=1000000) -dsimp only [go_sem,sL,d1]
    refine aA rfl (.done ?_)
    have z0:(0:Int) < ((1:Nat):Int):=by decide
    have z1:(0:Int)<=0:=by decide
    have hvo:=rK hs hd N u c hto hu (by omega)
    simp (maxSteps:=1000000) -dsimp only [go_sem,zI,he,aS u,forall_eq',z0,z1,List.length_cons,List.length_nil,List.take_succ_cons,List.take_zero]
    refine MX hd hs hto hu (by omega) (by omega) ?_
    generalize bW s N u c=w at *
    obtain ⟨y,e3⟩:=w
    simp only at ho hvo ⊢
    simp (maxSteps:=1000000) -dsimp only [go_sem]
    refine aA rfl (.done ?_)
    cases d2:e3 != 0 with
    | true=>
     rw [d2,cond_true,IZ acc d2] at ho
     rw [<-ho] at fin
     simp only [d2,cond_true] at fin
     simp (maxSteps:=1000000) -dsimp only [go_sem,sD,d2]
     exact fin v0 _ _ rfl
    | false=>
     rw [d2,cond_false,YL,hm'] at ho
     simp (maxSteps:=1000000) -dsimp only [go_sem,sD,d2]
     refine aA rfl (.done ?_)
     simp (maxSteps:=1000000) -dsimp only [go_sem,xJ,List.take_succ_cons,List.take_zero,List.length_cons,List.length_nil]
     refine ⟨by omega,by omega,aE (i + 1,q,acc ++ [y]) 5 ⟨by simp only; omega,by simp only [List.length_append,List.length_singleton]; omega,by simp only; omega,ho⟩ (by simp only; omega) ?_ ?_⟩
     · simp -dsimp only [go_sem]<;>simp
     · simp -dsimp only [go_sem,he,aS u]<;>simp [he,aS u,aK y]
 · have hg:decide ((i:Int) < (n:Int))=false:=by simp; omega
   obtain rfl:i=n:=by omega
   rw [Nat.sub_self] at ho
   have ho:((acc ++ [],x),(0:Int))=dV (bW s N u) i r:=ho
   rw [List.append_nil] at ho
   rw [<-ho] at fin fin2
   simp only [bne_self_eq_false,cond_false] at fin fin2
   simp (maxSteps:=1000000) -dsimp only [go_sem,hg]
   refine aA rfl (.done ?_)
   cases d1:x == [] with
   | false=>
    rw [d1] at fin
    simp (maxSteps:=1000000) -dsimp only [go_sem,sH,d1,Bool.not_false]
    exact fin v0 _ _ rfl
   | true=>
    rw [d1] at fin2
    simp (maxSteps:=1000000) -dsimp only [go_sem,sH,d1,Bool.not_true]
    refine .pub 4 _ _ _ rfl (.sel [] (by simp) (by simp [cG]) rfl (.done ?_))
    have:=fin2 acc rfl
    rw [aK] at this
    simp -dsimp only [go_sem,cG]
    simpa [Vl.k,Vl.n,Vl.s,Vl.l,Vl.f,hal] using this
def j5 (L:List (Int × Vl)):List Value:=L.map fun y=>.int .i64 y.1
def lZ (L:List (Int × Vl)):List A:=L.map fun y=>.gs (aQ y.2)
theorem K3 (k:Int):∀ (L:List (Int × Vl)),d3 (j5 L) (lZ L) (.int .i64 k)=(cF L k).map fun y=>.gs (aQ y.2)
 | []=>rfl
 | y :: L=>by
  have ih:=K3 k L
  unfold d3 at ih ⊢
  show ((fD (.int .i64 y.1 :: j5 L) (.int .i64 k)).bind fun i=>(A.gs (aQ y.2) :: lZ L)[i]?)=_
  rw [fD,lR]
  show ((bif k == y.1 then some 0 else (fD (j5 L) (.int .i64 k)).map (· + 1)).bind fun i=>(A.gs (aQ y.2) :: lZ L)[i]?)=_
  by_cases h:y.1=k
  · rw [if_pos h,show (k == y.1)=true by simp [h]]; rfl
  · rw [if_neg h,show (k == y.1)=false by simp; omega,cond_false,<-ih]
    cases fD (j5 L) (.int .i64 k)<;>rfl
theorem M8 {L:List (Int × Vl)} {k:Int} (h:∀ x ∈ L,x.1 < k):fD (j5 L) (.int .i64 k)=none:=by
 induction L with
 | nil=>rfl
 | cons y L ih=>
  show fD (.int .i64 y.1 :: j5 L) (.int .i64 k)=none
  rw [fD]
  show (bif k == y.1 then some 0 else (fD (j5 L) (.int .i64 k)).map (· + 1))=none
  have:=h y (List.mem_cons_self ..)
  rw [show (k == y.1)=false by simp; omega,cond_false,ih fun x hx=>h x (List.mem_cons_of_mem _ hx)]; rfl
theorem W6 {L:List (Int × Vl)} {k:Int} (h:∀ x ∈ L,x.1 < k) (v:Vl):fK (j5 L) (.int .i64 k)=j5 (L ++ [(k,v)]):=by
 unfold fK
 rw [M8 h]
 unfold j5
 rw [List.map_append]; rfl
theorem X6 {L:List (Int × Vl)} {k:Int} (h:∀ x ∈ L,x.1 < k) (v:Vl):fY (j5 L) (lZ L) (.int .i64 k) (.gs (aQ v))=lZ (L ++ [(k,v)]):=by
 unfold fY
 rw [M8 h]
 unfold lZ
 rw [List.map_append]; rfl
theorem X8 {s:Sc} {t:Ty} {z:Vl} {K:S->Hp->Prop} (h1:s.fit) (h2:TyOk t) (hz:z=zF s 23 t) (hK:K (.va (.gs [.vl (.int .i64 z.k),.vl (.int .i64 z.n),.vl (.string z.s),.fz (z.l.map aQ),.fz (z.f.map bD)])) []) :
 EQ [.va (.gs [.vl (.int .i64 s.ver),.fz (s.es.map a6),.fz (s.ss.map aI)]),.va (.gs [.vl (.int .i64 t.k),.vl (.int .i64 t.s),.vl (.string t.n),.fz (t.e.map aW)])] [] K:=by
 subst hz
 exact xN h1 h2 (by rw [aK]; exact hK)
theorem XR (f:Nat->Option Nat) (v:Vl):(aQ v).map (C.ren f)=aQ v:=by rw [aK]; rfl
theorem gV (f:Nat->Option Nat) (L:List (Int × Vl)):(lZ L).map (A.ren f)=lZ L:=by
 unfold lZ
 rw [List.map_map]
 refine List.map_congr_left fun y _=>?_
 show A.gs ((aQ y.2).map (C.ren f))=_
 rw [XR]
theorem OZ {s:Sc} {fs:List Fl} {L:List (Int × Vl)} {i:Nat} {f:Fl} (h:fs[i]? = some f):jU s (fs.take (i + 1)) L=jU s (fs.take i) L ++ FV s L f:=by
 unfold jU; rw [eO h,List.flatMap_append]; simp
structure DsP (N:Nat) (s:Sc) (u:St):Prop where
 d:Dg s
 f:s.fit
 t:∃ t:Ty,stOf s t=u
 n:∀ f ∈ u.fs,j8 s f.ty < N
def TE (N:Nat):W.Spec:=fun av H K=>∃ (s:Sc) (u:St) (b:List UInt8),av=[.va (.gs (aJ s)),.va (.gs (aI u)),tS (mk b)]/\H=[]/\DsP N s u/\b.length<=1000000000/\K (.tu [.gs (aQ (iG (bW s N) s u.fs b).1),iA .i64 (iG (bW s N) s u.fs b).2]) []
theorem GN {N:Nat} {s:Sc} {u:St} {b:List UInt8} {K:S->Hp->Prop} (hp:DsP N s u) (hb:b.length<=1000000000) (hK:K (.tu [.gs (aQ (iG (bW s N) s u.fs b).1),iA .i64 (iG (bW s N) s u.fs b).2]) []) :
 TE N [.va (.gs [.vl (.int .i64 s.ver),.fz (s.es.map a6),.fz (s.ss.map aI)]),.va (.gs [.vl (.string u.nm),.fz (u.fs.map aR)]),tS (mk b)] [] K:=⟨s,u,b,rfl,rfl,hp,hb,hK⟩
noncomputable def H4 (N:Nat):b8:=[(53,.s B7),(54,.s oN),(55,.s (y5 N)),(45,.s EQ),(44,.f eqFn2)]
theorem aCK (N:Nat):sp (H4 N) 53=B7:=rfl
theorem aAV (N:Nat):sp (H4 N) 54=oN:=rfl
theorem aB2 (N:Nat):sp (H4 N) 55=y5 N:=rfl
theorem KZ (N:Nat):sp (H4 N) 45=EQ:=rfl
theorem w3 (N:Nat):jB (H4 N) 44=some eqFn2:=rfl
abbrev zvC:List C:=[.vl (.int .i64 0),.vl (.int .i64 0),.vl (.string (mk [])),.vl (.slice none 0 0),.vl (.slice none 0 0)]
theorem pH {N:Nat} (hD:Meets Tryz.prog 55 (y5 N)):Meets Tryz.prog 30 (TE N):=by
 refine aD (Γ:=H4 N) Tryz.func30 aK5 3 (by rw [Tryz.ntmps30]; decide) (aC HK (aC pS (aC hD (aC S8 (aH GO (aB _)))))) (fun av H K h=>by obtain ⟨_,_,_,rfl,_⟩:=h; rfl) ?_
 rintro av H K ⟨s,u,b,rfl,rfl,⟨hd,hs,⟨t,htu⟩,hfd⟩,hb,hK⟩
 have hnst:=hd.ni.stOf t
 have huo:=eZ hs t
 rw [htu] at hnst huo
 have hus:∀ f ∈ u.fs,TySm f.ty:=by
  rw [<-htu]
  unfold stOf
  cases hf:fS s.ss t.n with
  | none=>exact fun f hf=>(List.not_mem_nil hf).elim
  | some w=>exact (hs.sm w (fQ hf).1).2
 have hul:=hnst.l
 have fin:∀ (v:Vl) (e:Int) (R:Hp),iG (bW s N) s u.fs b=(v,e)->W.Fin 0 K (.tu [.gs (aQ v),iA .i64 e]) R:=fun v e R h=>by
  rw [h] at hK; exact .sel [] (by simp) (by simp) rfl (.done (by rw [aK] at hK ⊢; simpa [go_sem] using hK))
 have fin2:∀ (l:List (Int × Vl)),iG (bW s N) s u.fs b=(.mk 6 0 (mk []) [] l,0)->K (.tu [.gs (aQ (.mk 6 0 (mk []) [] l)),iA .i64 0]) []:=fun l h=>by rw [h] at hK; exact hK
 clear hK
 unfold iG at fin fin2
 simp (maxSteps:=1000000) -dsimp only [go_sem,aJ,aI,aBX,YR]
 refine aU (α:=Nat × Int × List UInt8 × List (Int × Vl)) (fun z=>[(2,tS (mk z.2.2.1)),(3,.va (.c1 (.pt 0 0))),(4,.va (.c1 (.pt 1 0))),(6,.va (.c1 (.pt 2 0))),(8,.va (.c1 (.mp 3))),(9,iS .i64 z.2.1)])
  (fun z=>[.cells [.vl (.int .i64 s.ver),.fz (s.es.map a6),.fz (s.ss.map aI)] 25,.cells [.vl (.string u.nm),.fz (u.fs.map aR)] 48,.cells zvC 29,.map (.int .i64) (j5 z.2.2.2) (lZ z.2.2.2)])
  (fun z=>z.2.2.1.length<=z.1/\z.2.2.1.length<=b.length/\(∀ x ∈ z.2.2.2,x.1<=z.2.1/\VlOk x.2)/\hY z.2.2.2 (eJ (bW s N) s u.fs z.1 z.2.1 z.2.2.1)=eJ (bW s N) s u.fs b.length 0 b) (fun z=>z.1) (b.length,0,b,[]) 4
  ⟨Nat.le_refl _,Nat.le_refl _,fun x h=>(by cases h),x6 (UN _ _ _)⟩ ?_ ?_ ?_
 · simp -dsimp only [go_sem]<;>simp
 · simp -dsimp only [go_sem]<;>simp [j5,lZ]
 rintro ⟨g,last,x,acc⟩ ⟨hg,hl,ha,ho⟩
 simp only at hg hl ha ho ⊢
 by_cases hb0:x=[]
 · subst hb0
   have e0:(([]:List UInt8) == [])=true:=rfl
   rw [rJ,DW,List.append_nil] at ho
   rw [<-ho] at fin2
   have fin2:=fin2 (jU s u.fs acc) rfl
   simp (maxSteps:=1000000) -dsimp only [go_sem,e0,Bool.not_true]
   refine aA rfl (.done ?_)
   simp (maxSteps:=1000000) -dsimp only [go_sem,yH]
   refine aA rfl (.done ?_)
   simp (maxSteps:=1000000) -dsimp only [go_sem,zU]
   clear ho hg hl e0
   refine cM (α:=Nat) (fun i=>[(3,.va (.c1 (.pt 0 0))),(6,.va (.c1 (.pt 2 0))),(8,.va (.c1 (.mp 3))),(16,.va (.c1 (.pt 4 0))),(92,.va (.c1 (.fz (u.fs.map aR)))),(93,iS .i64 u.fs.length),(94,iS .i64 i)])
    (fun i=>[.cells [.vl (.int .i64 s.ver),.fz (s.es.map a6),.fz (s.ss.map aI)] 25,.cells [.vl (.string u.nm),.fz (u.fs.map aR)] 48,.cells zvC 29,.map (.int .i64) (j5 acc) (lZ acc),
      .cells [.vl (.int .i64 6),.vl (.int .i64 0),.vl (.string (mk [])),.vl (.slice none 0 0),.sl 5 (jU s (u.fs.take i) acc).length] 29,.row ((jU s (u.fs.take i) acc).map bD) 76 6])
    (fun i=>i<=u.fs.length) (fun i=>u.fs.length - i) (.nilc 4 4 76 6 _ _ rfl rfl (jJ 0 6 (Nat.zero_le _) ?_ ?_)) ?_
   · simp -dsimp only [go_sem]<;>simp
   · simp -dsimp only [go_sem]<;>simp [jU,gV]
   intro i hi
   have hli:=Nat.le_trans (G6 s (u.fs.take i) acc) (List.length_take_le i u.fs)
   rcases a8 i u.fs.length with hlt | hge
   · have hg:decide ((i:Int) < (u.fs.length:Int))=true:=by simp; omega
     have hx:u.fs[i]? = some u.fs[i]:=aV hlt
     have q2:=aY (row:=aR) hx
     have hfo:=(huo.fs _ (List.getElem_mem hlt)).ty
     have hnx:=OZ (s:=s) (L:=acc) hx
     generalize u.fs[i]=f at *
     unfold FV at hnx
     have hmi:=K3 f.num acc
     simp (maxSteps:=1000000) -dsimp only [go_sem,hg,↓q2,aR]
     refine ⟨by omega,aA rfl (.done ?_)⟩
     cases hv:cF acc f.num with
     | some y=>
      rw [hv] at hmi hnx
      have hmi:d3 (j5 acc) (lZ acc) (.int .i64 f.num)=some (.gs [.vl (.int .i64 y.2.k),.vl (.int .i64 y.2.n),.vl (.string y.2.s),.fz (y.2.l.map aQ),.fz (y.2.f.map bD)]):=by rw [hmi,<-aK]; rfl
      have hnx:jU s (u.fs.take (i + 1)) acc=jU s (u.fs.take i) acc ++ [(f.num,y.2)]:=hnx
      simp (maxSteps:=1000000) -dsimp only [go_sem,sN,hmi,U4]
      refine aA rfl (.done ?_)
      simp (maxSteps:=1000000) -dsimp only [go_sem,nP,Bool.not_true,Bool.false_and]
      refine aA rfl (.done ?_)
      simp (maxSteps:=1000000) -dsimp only [go_sem,rI,Bool.not_true]
      refine aA rfl (.done ?_)
      simp (maxSteps:=1000000) -dsimp only [go_sem,sJ,List.take_succ_cons,List.take_zero,List.length_cons,List.length_nil]
      refine ⟨by omega,by omega,aE (i + 1) 6 (by omega) (by omega) ?_ ?_⟩
      · simp -dsimp only [go_sem]<;>simp
      · simp -dsimp only [go_sem,hnx]<;>simp [gV,iM]
     | none=>
      rw [hv] at hmi hnx
      have hmi:d3 (j5 acc) (lZ acc) (.int .i64 f.num)=none:=hmi
      have hnx:jU s (u.fs.take (i + 1)) acc=jU s (u.fs.take i) acc ++ (bif f.opt then [] else [(f.num,zF s 23 f.ty)]):=hnx
      simp (maxSteps:=1000000) -dsimp only [go_sem,sN,hmi,U4]
      refine aA rfl (.done ?_)
      cases hopt:f.opt with
      | true=>
       rw [hopt,cond_true,List.append_nil] at hnx
       simp (maxSteps:=1000000) -dsimp only [go_sem,nP,Bool.not_false,Bool.true_and,hopt]
       refine ⟨by omega,aE (i + 1) 6 (by omega) (by omega) ?_ ?_⟩
       · simp -dsimp only [go_sem]<;>simp
       · simp -dsimp only [go_sem,hnx]<;>simp [gV]
      | false=>
       rw [hopt,cond_false] at hnx
       simp (maxSteps:=1000000) -dsimp only [go_sem,nP,Bool.not_false,Bool.true_and,hopt]
       refine aA rfl (.done ?_)
       simp (maxSteps:=1000000) -dsimp only [go_sem,rI,Bool.not_false]
       refine aA rfl (.done ?_)
       simp (maxSteps:=1000000) -dsimp only [go_sem,yU,KZ,List.take_succ_cons,List.take_zero,List.drop_succ_cons,List.drop_zero,List.length_cons,List.length_nil]
       refine xN hs hfo ?_
       generalize zF s 23 f.ty=w at *
       simp (maxSteps:=1000000) -dsimp only [go_sem,aK w]
       refine aA rfl (.done ?_)
       simp (maxSteps:=1000000) -dsimp only [go_sem,sJ,List.take_succ_cons,List.take_zero,List.length_cons,List.length_nil]
       refine ⟨by omega,by omega,aE (i + 1) 6 (by omega) (by omega) ?_ ?_⟩
       · simp -dsimp only [go_sem]<;>simp
       · simp -dsimp only [go_sem,hnx]<;>simp [gV,iM]
   · have hg:decide ((i:Int) < (u.fs.length:Int))=false:=by simp; omega
     rw [List.take_of_length_le hge] at *
     simp (maxSteps:=1000000) -dsimp only [go_sem,hg]
     refine .pub 5 _ _ _ rfl (.sel [] (by simp) (by simp [cG]) rfl (.done ?_))
     rw [aK] at fin2
     simp -dsimp only [go_sem,cG]
     simpa [Vl.k,Vl.n,Vl.s,Vl.l,Vl.f] using fin2
 · have e0:(x == [])=false:=by simpa using hb0
   obtain ⟨g,rfl⟩:∃ k,g=k + 1:=⟨g - 1,by have:=List.length_pos_iff.2 hb0; omega⟩
   rw [kU hb0] at ho
   have hfl:=mR x last
   have hfo:=UO x last
   simp (maxSteps:=1000000) -dsimp only [go_sem,e0,Bool.not_false]
   refine aA rfl (.done ?_)
   simp (maxSteps:=1000000) -dsimp only [go_sem,F4,aCK]
   refine IS (by omega) ?_
   generalize aT x last=z at *
   obtain ⟨⟨a,c⟩,r,e⟩:=z
   simp only at ho hfl hfo ⊢
   simp (maxSteps:=1000000) -dsimp only [go_sem]
   refine aA rfl (.done ?_)
   cases c1:e != 0 with
   | true=>
    rw [c1,cond_true,mU acc c1] at ho
    rw [<-ho] at fin
    simp only [c1,cond_true] at fin
    simp (maxSteps:=1000000) -dsimp only [go_sem,wF,c1]
    exact fin v0 _ _ rfl
   | false=>
   rw [c1,cond_false] at ho
   have hlt:=hfl.2.2 (fT c1)
   obtain ⟨ha1,ha2,ha3⟩:last < a/\0<=a/\a<=2147483647:=by
    rcases hfo with h | ⟨_,h1,h2,h3,_⟩
    · exact absurd (fT c1) h
    · exact ⟨h1,h2,h3⟩
   simp (maxSteps:=1000000) -dsimp only [go_sem,wF,c1]
   refine aA rfl (.done ?_)
   simp (maxSteps:=1000000) -dsimp only [go_sem,DP]
   refine aA rfl (.done ?_)
   simp (maxSteps:=1000000) -dsimp only [go_sem,F9,aAV]
   refine rM (t:=u) huo hus ?_
   cases hf:fF u.fs a with
   | none=>
    rw [hf] at ho
    simp only [Option.isSome_none,Bool.not_false,cond_true] at ho
    simp (maxSteps:=1000000) -dsimp only [go_sem,Option.getD_none,Option.isSome_none,rF]
    refine aA rfl (.done ?_)
    simp (maxSteps:=1000000) -dsimp only [go_sem,uR,Bool.not_false]
    refine aE (g,a,r,acc) 4 ⟨by simp only; omega,by simp only; omega,fun y hy=>⟨by have:=(ha y hy).1; simp only; omega,(ha y hy).2⟩,ho⟩ (by simp only; omega) ?_ ?_
    · simp -dsimp only [go_sem]<;>simp
    · simp -dsimp only [go_sem]<;>simp [gV]
   | some f=>
    obtain ⟨hfm,hfe⟩:=HS hf
    have hfo:=(huo.fs f hfm).ty
    have hfv:=hnst.v f hfm
    have hfN:=hfd f hfm
    have hvo:=rK hs hd N f.ty c hfo hfv (by omega)
    have hnew:∀ y ∈ acc,y.1 < a:=fun y hy=>by have:=(ha y hy).1; omega
    rw [hf] at ho
    simp only [Option.isSome_some,Bool.not_true,cond_false,Option.getD_some] at ho
    unfold pV at ho
    simp (maxSteps:=1000000) -dsimp only [go_sem,Option.getD_some,Option.isSome_some,aR]
    refine aA rfl (.done ?_)
    simp (maxSteps:=1000000) -dsimp only [go_sem,uR,Bool.not_true]
    refine aA rfl (.done ?_)
    simp (maxSteps:=1000000) -dsimp only [go_sem,y1,aB2]
    refine MX hd hs hfo hfv hfN (by omega) ?_
    generalize bW s N f.ty c=w at *
    obtain ⟨v,e2⟩:=w
    simp only at ho hvo ⊢
    simp (maxSteps:=1000000) -dsimp only [go_sem]
    refine aA rfl (.done ?_)
    cases d1:e2 != 0 with
    | true=>
     have d0:(e2 == 0)=false:=by simpa using nG d1
     rw [d1,cond_true,d1,cond_true,mU acc d1] at ho
     rw [<-ho] at fin
     simp only [d1,cond_true] at fin
     simp (maxSteps:=1000000) -dsimp only [go_sem,nQ,gS,d0,Bool.false_and]
     refine aA rfl (.done ?_)
     simp (maxSteps:=1000000) -dsimp only [go_sem,gW,d1]
     exact fin v0 _ _ rfl
    | false=>
     have d0:=fT d1
     subst d0
     have e00:((0:Int) == 0)=true:=rfl
     have e20:((2:Int) != 0)=true:=rfl
     rw [d1,cond_false] at ho
     have hpk:=W6 hnew v
     have hpv:=X6 hnew v
     rw [aK v] at hpv
     have bad:(!f.opt && (cZ v (zF s 23 f.ty) && (f.ty.k != 6 || c == [])))=true->∀ R:Hp,W.Fin 0 K (.tu [.gs (aQ v0),iA .i64 2]) R:=fun h R=>by
      rw [h,cond_true,e20,cond_true,mU acc e20] at ho
      rw [<-ho] at fin
      exact fin v0 2 R rfl
     have good:(!f.opt && (cZ v (zF s 23 f.ty) && (f.ty.k != 6 || c == [])))=false->hY (acc ++ [(a,v)]) (eJ (bW s N) s u.fs g a r)=eJ (bW s N) s u.fs b.length 0 b:=fun h=>by
      rw [h,cond_false,d1,cond_false,FO] at ho
      exact ho
     have hacc:∀ y ∈ acc ++ [(a,v)],y.1<=a/\VlOk y.2:=fun y hy=>by
      rcases List.mem_append.1 hy with hy | hy
      · exact ⟨by have:=hnew y hy; omega,(ha y hy).2⟩
      · obtain rfl:=List.mem_singleton.1 hy; exact ⟨Int.le_refl _,hvo⟩
     clear ho fin fin2
     cases hopt:f.opt with
     | true=>
      rw [hopt] at good
      have good:=good rfl
      simp (maxSteps:=1000000) -dsimp only [go_sem,nQ,gS,e00,hopt,Bool.not_true,Bool.true_and,Bool.false_and]
      refine aA rfl (.done ?_)
      simp (maxSteps:=1000000) -dsimp only [go_sem,gW,d1]
      refine aA rfl (.done ?_)
      simp (maxSteps:=1000000) -dsimp only [go_sem,nD,hpk,hpv]
      refine aE (g,a,r,acc ++ [(a,v)]) 4 ⟨by simp only; omega,by simp only; omega,hacc,good⟩ (by simp only; omega) ?_ ?_
      · simp -dsimp only [go_sem]<;>simp
      · simp -dsimp only [go_sem]<;>simp [gV]
     | false=>
      rw [hopt] at good bad
      simp only [Bool.not_false,Bool.true_and] at good bad
      have hzo:=BW hs 23 f.ty hfo
      obtain ⟨z,hz⟩:∃ z,z=zF s 23 f.ty:=⟨_,rfl⟩
      rw [<-hz] at good bad hzo
      simp (maxSteps:=1000000) -dsimp only [go_sem,nQ,e00,hopt,Bool.not_false,Bool.not_true,Bool.true_and,Bool.false_and,KZ]
      refine X8 hs hfo hz ?_
      clear hz
      have k1:=dE hvo
      have k2:=gH v
      have kz1:=dE hzo
      have kz2:=gH z
      cases heq:cZ v z with
      | false=>
       rw [heq] at good
       have good:=good rfl
       simp (maxSteps:=1000000) -dsimp only [go_sem,gS,w3,k1,k2,kz1,kz2,heq,Bool.true_and,Bool.false_and]
       refine aA rfl (.done ?_)
       simp (maxSteps:=1000000) -dsimp only [go_sem,gW,d1]
       refine aA rfl (.done ?_)
       simp (maxSteps:=1000000) -dsimp only [go_sem,nD,hpk,hpv]
       refine aE (g,a,r,acc ++ [(a,v)]) 4 ⟨by simp only; omega,by simp only; omega,hacc,good⟩ (by simp only; omega) ?_ ?_
       · simp -dsimp only [go_sem]<;>simp
       · simp -dsimp only [go_sem]<;>simp [gV]
      | true=>
       rw [heq] at good bad
       simp only [Bool.true_and] at good bad
       cases h6:f.ty.k != 6 with
       | true=>
        rw [h6] at bad
        have bad:=bad rfl
        simp (maxSteps:=1000000) -dsimp only [go_sem,gS,w3,k1,k2,kz1,kz2,heq,h6,Bool.true_and,Bool.true_or]
        refine aA rfl (.done ?_)
        simp (maxSteps:=1000000) -dsimp only [go_sem,gW,e20]
        exact bad _
       | false=>
        rw [h6] at good bad
        simp only [Bool.false_or] at good bad
        cases hc:c == [] with
        | true=>
         have bad:=bad hc
         simp (maxSteps:=1000000) -dsimp only [go_sem,gS,w3,k1,k2,kz1,kz2,heq,h6,hc,Bool.true_and,Bool.false_or]
         refine aA rfl (.done ?_)
         simp (maxSteps:=1000000) -dsimp only [go_sem,gW,e20]
         exact bad _
        | false=>
         have good:=good hc
         simp (maxSteps:=1000000) -dsimp only [go_sem,gS,w3,k1,k2,kz1,kz2,heq,h6,hc,Bool.true_and,Bool.false_or]
         refine aA rfl (.done ?_)
         simp (maxSteps:=1000000) -dsimp only [go_sem,gW,d1]
         refine aA rfl (.done ?_)
         simp (maxSteps:=1000000) -dsimp only [go_sem,nD,hpk,hpv]
         refine aE (g,a,r,acc ++ [(a,v)]) 4 ⟨by simp only; omega,by simp only; omega,hacc,good⟩ (by simp only; omega) ?_ ?_
         · simp -dsimp only [go_sem]<;>simp
         · simp -dsimp only [go_sem]<;>simp [gV]
def aDU (N:Nat):W.Spec:=fun av H K=>∃ v:Vl,av=[.va (.gs (aQ v))]/\H=[]/\VlOk v/\v.h<=N/\K (.va (.gs (aQ v))) []
theorem CW {N:Nat} {v:Vl} {K:S->Hp->Prop} (h1:VlOk v) (h2:v.h<=N) (hK:K (.va (.gs [.vl (.int .i64 v.k),.vl (.int .i64 v.n),.vl (.string v.s),.fz (v.l.map aQ),.fz (v.f.map bD)])) []) :
 aDU N [.va (.gs [.vl (.int .i64 v.k),.vl (.int .i64 v.n),.vl (.string v.s),.fz (v.l.map aQ),.fz (v.f.map bD)])] [] K:=⟨v,by rw [aK],rfl,h1,h2,by rw [aK]; exact hK⟩
theorem II:∀ N,Meets Tryz.prog 81 (aDU N)
 | 0=>⟨by kernel_rfl,by rintro xs vs E ro w K _ _ _ ⟨v,_,_,_,h,_⟩; have:=v.h_pos; omega⟩
 | N + 1=>by
  refine aD Tryz.func81 aLT 1 (by rw [Tryz.ntmps81]; decide) (aC (II N) (aB _)) (fun av H K h=>by obtain ⟨_,rfl,_⟩:=h; rfl) ?_
  rintro av H K ⟨v,rfl,rfl,hv,hh,hK⟩
  have hll:=hv.ll
  have hlf:=hv.lf
  rw [aK] at hK
  simp (maxSteps:=1000000) -dsimp only [go_sem,aK v,aDS,aCW]
  refine cM (α:=Nat) (fun i=>[(1,.va (.c1 (.pt 0 0))),(2,.va (.c1 (.pt 1 0))),(4,.va (.c1 (.fz (v.f.map bD)))),(15,.va (.c1 (.fz (v.l.map aQ)))),(16,iS .i64 v.l.length),(17,iS .i64 i)])
   (fun i=>[.cells [.vl (.int .i64 v.k),.vl (.int .i64 v.n),.vl (.string v.s),.sl 2 i,.vl (.slice none 0 0)] 29,.cells [.vl (.int .i64 0),.vl (.int .i64 0),.vl (.string (mk [])),.vl (.slice none 0 0),.vl (.slice none 0 0)] 29,.row ((v.l.take i).map aQ) 29 5])
   (fun i=>i<=v.l.length) (fun i=>v.l.length - i) (.nilc 0 3 29 5 [.vl (.int .i64 v.k),.vl (.int .i64 v.n),.vl (.string v.s),.vl (.slice none 0 0),.vl (.slice none 0 0)] 29 rfl rfl (jJ 0 3 (Nat.zero_le _) ?_ ?_)) ?_
  · simp -dsimp only [go_sem]<;>simp
  · simp -dsimp only [go_sem]<;>simp
  intro i hi
  have hz:(v.l.take i).length=i:=by rw [List.length_take]; omega
  rcases a8 i v.l.length with hlt | hge
  · have hg:decide ((i:Int) < (v.l.length:Int))=true:=by simp; omega
    have hx:v.l[i]? = some v.l[i]:=aV hlt
    have q1:=mH hx
    have hxm:=List.getElem_mem hlt
    have hxo:=hv.l _ hxm
    have hxh:v.l[i].h<=N:=by have:=Vl.h_l hxm; omega
    have htk:=eO hx
    generalize v.l[i]=x at *
    simp (maxSteps:=1000000) -dsimp only [go_sem,hg,↓q1]
    refine ⟨by omega,CW hxo hxh ?_⟩
    simp (maxSteps:=1000000) -dsimp only [go_sem]
    refine ⟨hz,by omega,by omega,aE (i + 1) 3 (by omega) (by omega) ?_ ?_⟩
    · simp -dsimp only [go_sem]<;>simp
    · simp -dsimp only [go_sem,htk]<;>simp [aK x]
  · have hg:decide ((i:Int) < (v.l.length:Int))=false:=by simp; omega
    obtain rfl:i=v.l.length:=by omega
    rw [List.take_length]
    simp (maxSteps:=1000000) -dsimp only [go_sem,hg]
    clear hi hge hg hz
    refine cM (α:=Nat) (fun i=>[(1,.va (.c1 (.pt 0 0))),(2,.va (.c1 (.pt 1 0))),(29,.va (.c1 (.fz (v.f.map bD)))),(30,iS .i64 v.f.length),(31,iS .i64 i)])
     (fun i=>[.cells [.vl (.int .i64 v.k),.vl (.int .i64 v.n),.vl (.string v.s),.sl 2 v.l.length,.sl 3 i] 29,.cells [.vl (.int .i64 0),.vl (.int .i64 0),.vl (.string (mk [])),.vl (.slice none 0 0),.vl (.slice none 0 0)] 29,.row (v.l.map aQ) 29 5,.row ((v.f.take i).map bD) 76 6])
     (fun i=>i<=v.f.length) (fun i=>v.f.length - i) (.nilc 0 4 76 6 [.vl (.int .i64 v.k),.vl (.int .i64 v.n),.vl (.string v.s),.sl 2 v.l.length,.vl (.slice none 0 0)] 29 rfl rfl (jJ 0 4 (Nat.zero_le _) ?_ ?_)) ?_
    · simp -dsimp only [go_sem]<;>simp
    · simp -dsimp only [go_sem]<;>simp
    intro i hi
    have hz:(v.f.take i).length=i:=by rw [List.length_take]; omega
    rcases a8 i v.f.length with hlt | hge
    · have hg:decide ((i:Int) < (v.f.length:Int))=true:=by simp; omega
      have hx:v.f[i]? = some v.f[i]:=aV hlt
      have q1:=iF hx
      have hxm:=List.getElem_mem hlt
      have hxo:=hv.f _ hxm
      have hxh:v.f[i].2.h<=N:=by have:=Vl.h_f hxm; omega
      have htk:=eO hx
      generalize v.f[i]=x at *
      simp (maxSteps:=1000000) -dsimp only [go_sem,hg,↓q1,List.take_succ_cons,List.take_zero,List.length_cons,List.length_nil]
      refine ⟨by omega,CW hxo hxh ?_⟩
      simp (maxSteps:=1000000) -dsimp only [go_sem]
      refine ⟨hz,by omega,by omega,aE (i + 1) 4 (by omega) (by omega) ?_ ?_⟩
      · simp -dsimp only [go_sem]<;>simp
      · simp -dsimp only [go_sem,htk]<;>simp [iM x]
    · have hg:decide ((i:Int) < (v.f.length:Int))=false:=by simp; omega
      obtain rfl:i=v.f.length:=by omega
      rw [List.take_length]
      simp (maxSteps:=1000000) -dsimp only [go_sem,hg]
      refine .pub 2 _ _ _ rfl (.pub 3 _ _ _ rfl (.sel [] (by simp) (by simp [cG]) rfl (.done ?_)))
      simp -dsimp only [go_sem,cG]
      simpa using hK
abbrev fdV:S:=.va (.c1 (.fn 118 [(false,[.pt 0 0])]))
abbrev oI (k:Int):B:=.cells [.vl (.int .i64 k)] 3
def QU:W.Spec:=fun av H K=>∃ (x:Int × Vl) (k:Int),av=[.va (.gs (IP x)),.va (.c1 (.pt 0 0))]/\H=[oI k]/\K (bS (x.1 == k)) [oI k]
theorem WF {x:Int × Vl} {k:Int} {K:S->Hp->Prop} (hK:K (bS (x.1 == k)) [oI k]):QU [.va (.gs (IP x)),.va (.c1 (.pt 0 0))] [oI k] K:=⟨x,k,rfl,rfl,hK⟩
theorem XF:Meets Tryz.prog 118 QU:=by
 refine aD Tryz.func118 aGS 2 (by rw [Tryz.ntmps118]; decide) (aB _) (fun av H K h=>by obtain ⟨_,_,rfl,_⟩:=h; rfl) ?_
 rintro av H K ⟨x,k,rfl,rfl,hK⟩
 simp -dsimp only [go_sem,IP,RJ,T7]
 exact .sel [0] (by simp) (by simp) rfl (.done (by simpa [go_sem] using hK))
def aAZ:W.Spec:=fun av H K=>∃ (l:List (Int × Vl)) (k:Int),av=[.va (.c1 (.fz (l.map bD))),fdV]/\H=[oI k]/\l.length<=9223372036854775807/\K (iS .i64 (g8 k l 0)) [oI k]
theorem aCJ {l:List (Int × Vl)} {k:Int} {K:S->Hp->Prop} (h:l.length<=9223372036854775807) (hK:K (iS .i64 (g8 k l 0)) [oI k]):aAZ [.va (.c1 (.fz (l.map bD))),fdV] [oI k] K:=⟨l,k,rfl,rfl,h,hK⟩
theorem WM:Meets Tryz.prog 117 aAZ:=by
 refine aD Tryz.func117 S9 2 (by rw [Tryz.ntmps117]; decide) (aC XF (aB _)) (fun av H K h=>by obtain ⟨_,_,rfl,_⟩:=h; rfl) ?_
 rintro av H K ⟨l,k,rfl,rfl,hl,hK⟩
 simp -dsimp only [go_sem,JY,JF]
 refine aU (α:=Nat) (fun i=>[(0,.va (.c1 (.fz (l.map bD)))),(1,fdV),(7,iS .i64 l.length),(8,iS .i64 i)]) (fun _=>[oI k])
  (fun i=>i<=l.length/\g8 k (l.drop i) i=g8 k l 0) (fun i=>l.length - i) 0 1 ⟨Nat.zero_le _,rfl⟩ ?_ ?_ ?_
 · simp -dsimp only [go_sem]<;>simp
 · simp -dsimp only [go_sem]<;>simp
 rintro i ⟨hi,ho⟩
 rcases a8 i l.length with hlt | hge
 · have hg:decide ((i:Int) < (l.length:Int))=true:=by simp; omega
   have hx:l[i]? = some l[i]:=aV hlt
   have q2:=iF hx
   rw [List.drop_eq_getElem_cons hlt,g8] at ho
   generalize l[i]=y at *
   simp -dsimp only [go_sem,hg,↓q2]
   refine ⟨by omega,WF ?_⟩
   cases hc:y.1 == k with
   | true=>
    rw [hc,bI] at ho
    simp -dsimp only [go_sem]
    exact .sel [0] (by simp) (by simp) rfl (.done (by simpa [go_sem,ho] using hK))
   | false=>
    rw [hc,aX] at ho
    simp -dsimp only [go_sem]
    refine ⟨by omega,aE (i + 1) 1 ⟨by omega,ho⟩ (by omega) ?_ ?_⟩
    · simp -dsimp only [go_sem]<;>simp
    · simp -dsimp only [go_sem]<;>simp
 · have hg:decide ((i:Int) < (l.length:Int))=false:=by simp; omega
   have:l.drop i=[]:=List.drop_eq_nil_iff.2 (by omega)
   rw [this] at ho
   simp -dsimp only [go_sem,hg]
   exact .sel [0] (by simp) (by simp) rfl (.done (by rw [show g8 k l 0=-1 from ho.symm] at hK; simpa [go_sem] using hK))
theorem DF (k:Int):∀ (l:List (Int × Vl)) (i:Nat),(cF l k=none/\g8 k l i=-1)\/(∃ j x,l[j]? = some x/\cF l k=some x/\g8 k l i=((i + j:Nat):Int))
 | [],_=>.inl ⟨rfl,rfl⟩
 | y :: l,i=>by
  rw [g8]
  unfold cF
  rw [List.find?_cons]
  by_cases h:y.1=k
  · rw [show (y.1 == k)=true by simpa using h,decide_eq_true h]
    exact .inr ⟨0,y,rfl,rfl,rfl⟩
  · rw [show (y.1 == k)=false by simpa using h,decide_eq_false h,cond_false]
    rcases DF k l (i + 1) with ⟨h1,h2⟩ | ⟨j,x,h1,h2,h3⟩
    · exact .inl ⟨h1,h2⟩
    · exact .inr ⟨j + 1,x,by simpa using h1,h2,by rw [h3]; congr 1; omega⟩
def B4:List S->Prop:=fun av=>match av with
 | [.va (.gs r),.va (.c1 (.vl (.int .i64 _)))]=>oL r/\(C.vv r).k=6
 | _=>False
theorem oH {av:List S} (h:B4 av):∃ (v:Vl) (k:Int),av=[.va (.gs (aQ v)),iS .i64 k]/\VlOk v/\v.k=6:=by
 unfold B4 at h
 split at h
 · obtain ⟨⟨v,rfl,h1⟩,h2⟩:=h; rw [gJ] at h2; exact ⟨v,_,rfl,h1,h2⟩
 · exact h.elim
noncomputable def UA:List S->A:=fun av=>match av with
 | [.va (.gs r),.va (.c1 (.vl (.int .i64 k)))]=>iA .i64 (g8 k (C.vv r).f 0)
 | _=>.gs []
noncomputable def vxFn:Fun:=⟨B4,UA,fun av h=>by obtain ⟨v,k,rfl,_⟩:=oH h; trivial⟩
theorem N4:∀ av H K,vxFn.sp av H K->av.length=2:=fun av H K h=>by obtain ⟨v,k,rfl,_⟩:=oH h.1.1; rfl
attribute [go_sem] vxFn B4 UA
theorem XZ:Meets Tryz.prog 80 vxFn.sp:=by
 refine aD Tryz.func80 aL8 2 (by rw [Tryz.ntmps80]; decide) (aC WM (aB _)) N4 ?_
 rintro av H K ⟨⟨h,rfl⟩,hK⟩
 obtain ⟨v,k,rfl,hv,h6⟩:=oH h
 have hK:K (iS .i64 (g8 k (C.vv (aQ v)).f 0)) []:=hK
 rw [gJ] at hK
 clear h
 have g6:(v.k != 6)=false:=by rw [h6]; rfl
 have hl:=hv.lf
 simp (maxSteps:=1000000) -dsimp only [go_sem,aK v,aBE,aAC,g6]
 refine aCJ (by omega) ?_
 simp (maxSteps:=1000000) -dsimp only [go_sem]
 exact .sel [] (by simp) (by simp) rfl (.done (by simpa [go_sem] using hK))
theorem P7 (N:Nat):Meets Tryz.prog 43 (fun av H K=>∃ (v:Vl) (k:Int),av=[.va (.gs (aQ v)),iS .i64 k]/\H=[]/\VlOk v/\v.k=6/\v.h<=N/\K (.tu [.gs (aQ (((cF v.f k).map (·.2)).getD default)),bA (cF v.f k).isSome]) []):=by
 refine aD Tryz.func43 aOX 2 (by rw [Tryz.ntmps43]; decide) (aH XZ (aC (II N) (aB _))) (fun av H K h=>by obtain ⟨_,_,rfl,_⟩:=h; rfl) ?_
 rintro av H K ⟨v,k,rfl,rfl,hv,h6,hh,hK⟩
 have k1:=dE hv
 have k2:=gH v
 have k3:(v.k=6)=True:=eq_true h6
 have hl:=hv.lf
 rcases DF k v.f 0 with ⟨e1,e2⟩ | ⟨j,x,e0,e1,e2⟩
 · rw [e1] at hK
   have g0:decide ((-1:Int) < 0)=true:=rfl
   simp (maxSteps:=1000000) -dsimp only [go_sem,aK v,O3,O5,k1,k2,k3,e2]
   refine aA rfl (.done ?_)
   simp (maxSteps:=1000000) -dsimp only [go_sem,wC,g0]
   exact .sel [] (by simp) (by simp) rfl (.done (by simpa [go_sem,H6] using hK))
 · rw [e1] at hK
   rw [Nat.zero_add] at e2
   have hj:=(bB.1 e0).1
   have g0:decide (((j:Nat):Int) < 0)=false:=by simp
   have q2:=iF e0
   have hxm:=b5 e0
   simp (maxSteps:=1000000) -dsimp only [go_sem,aK v,O3,O5,k1,k2,k3,e2]
   refine aA rfl (.done ?_)
   simp (maxSteps:=1000000) -dsimp only [go_sem,wC,g0,↓q2,List.take_succ_cons,List.take_zero,List.length_cons,List.length_nil]
   refine ⟨by omega,CW (hv.f x hxm) (by have:=Vl.h_f hxm; omega) ?_⟩
   simp (maxSteps:=1000000) -dsimp only [go_sem]
   exact .sel [] (by simp) (by simp) rfl (.done (by simpa [go_sem,aK x.2] using hK))
theorem WL:Meets Tryz.prog 43 YU:=d5 (0:Nat) P7 fun av H K h=>by
 obtain ⟨v,k,rfl,e,hv,h6,hK⟩:=h
 exact ⟨v.h,v,k,rfl,e,hv,h6,Nat.le_refl _,hK⟩
def CG (P:Sc->St->Vl->Prop):List S->Prop:=fun av=>match av with
 | [.va (.gs r),.va (.gs q),.va (.gs p)]=>mC r/\QL q/\oL p/\P (C.sc r) (C.st q) (C.vv p)
 | _=>False
theorem o8 {P:Sc->St->Vl->Prop} {av:List S} (h:CG P av):∃ s t v,av=[.va (.gs (aJ s)),.va (.gs (aI t)),.va (.gs (aQ v))]/\s.fit/\t.ok/\VlOk v/\P s t v:=by
 unfold CG at h
 split at h
 · obtain ⟨⟨s,rfl,hs⟩,⟨t,rfl,ht⟩,⟨v,rfl,hv⟩,h⟩:=h
   rw [lL,DR,gJ] at h
   exact ⟨s,t,v,rfl,hs,ht,hv,h⟩
 · exact h.elim
noncomputable def Q0 (f:Sc->St->Vl->Value):List S->A:=fun av=>match av with
 | [.va (.gs r),.va (.gs q),.va (.gs p)]=>.c1 (.vl (f (C.sc r) (C.st q) (C.vv p)))
 | _=>.gs []
noncomputable def C1 (P:Sc->St->Vl->Prop) (f:Sc->St->Vl->Value):Fun:=⟨CG P,Q0 f,fun av h=>by obtain ⟨_,_,_,rfl,_⟩:=o8 h; trivial⟩
theorem OU {P:Sc->St->Vl->Prop} {f:Sc->St->Vl->Value}:∀ av H K,(C1 P f).sp av H K->av.length=3:=fun av H K h=>by obtain ⟨_,_,_,rfl,_⟩:=o8 h.1.1; rfl
attribute [go_sem] C1 CG Q0
theorem W1 {P:Sc->St->Vl->Prop} {f:Sc->St->Vl->Value} {av:List S} {H:Hp} {K:S->Hp->Prop} (h:(C1 P f).sp av H K) :
 ∃ s t v,av=[.va (.gs (aJ s)),.va (.gs (aI t)),.va (.gs (aQ v))]/\H=[]/\s.fit/\t.ok/\VlOk v/\P s t v/\K (.va (.c1 (.vl (f s t v)))) []:=by
 obtain ⟨⟨h,rfl⟩,hK⟩:=h
 obtain ⟨s,t,v,rfl,hs,ht,hv,hp⟩:=o8 h
 have:(C1 P f).val [.va (.gs (aJ s)),.va (.gs (aI t)),.va (.gs (aQ v))]=.c1 (.vl (f s t v)):=by simp -dsimp only [go_sem]
 rw [this] at hK
 exact ⟨s,t,v,rfl,rfl,hs,ht,hv,hp,hK⟩
theorem aCG (t:St):C.st [.vl (.string t.nm),.fz (t.fs.map aR)]=t:=DR t
theorem MY {t:St} (h:t.ok):QL [.vl (.string t.nm),.fz (t.fs.map aR)]:=V9 h
def CN:List S->Prop:=fun xs=>match xs with
 | [.va (.c1 (.vl (.string s)))]=>(bl s).length<=9223372036854775797
 | _=>False
theorem n7 {xs:List S} (h:CN xs):∃ s,xs=[tS s]/\(bl s).length<=9223372036854775797:=by
 unfold CN at h
 split at h
 · exact ⟨_,rfl,h⟩
 · exact h.elim
def QO (f:List UInt8->Value):Fun:=⟨CN,vC f,fun xs h=>by obtain ⟨s,rfl,_⟩:=n7 h; trivial⟩
theorem NX {f:List UInt8->Value}:∀ xs H K,(QO f).sp xs H K->xs.length=1:=fun xs H K h=>by obtain ⟨s,rfl,_⟩:=n7 h.1.1; rfl
attribute [go_sem] QO CN
theorem IR:Meets Tryz.prog 47 (QO fun l=>.string (mk (iO l))).sp:=by
 refine aD Tryz.func47 aLE 1 (by rw [Tryz.ntmps47]; decide) (aH wO (aB _)) NX ?_
 rintro av H K ⟨⟨h,rfl⟩,hK⟩
 obtain ⟨s,rfl,hs⟩:=n7 h
 have hK:K (tS (mk (fG (bl s).length ++ bl s))) []:=hK
 have hl:=fB (bl s).length
 simp (maxSteps:=1000000) -dsimp only [go_sem,aBM,aEG,kY,lO,fX]
 exact ⟨by omega,.done hK⟩
structure EsP (N:Nat) (s:Sc) (u:St) (v:Vl):Prop where
 d:Dg s
 n:N<=8
 h:∀ x ∈ v.f,x.2.h<=N
 t:∃ t:Ty,TyOk t/\(t.k == 6)=true/\stOf s t=u/\cY s t v=0
def M9 (N:Nat) (s:Sc) (t:Ty) (v:Vl):Prop:=Dg s/\N<=8/\v.h<=N/\cY s t v=0
noncomputable def zZ (N:Nat):Fun:=iE (M9 N) fun s t v=>.string (mk (cC s N t v))
noncomputable def I3 (N:Nat):Fun:=C1 (EsP N) fun s u v=>.string (mk (dU (cC s N) s u.fs v.f))
theorem QD (R:Ty->Vl->List UInt8) (s:Sc) (fs:List Fl) (F:List (Int × Vl)) (i:Nat):(dU R s (fs.take i) F).length<=(dU R s fs F).length:=by
 have h:dU R s fs F=dU R s (fs.take i) F ++ dU R s (fs.drop i) F:=by unfold dU; rw [<-List.flatMap_append,List.take_append_drop]
 rw [h,List.length_append]; omega
theorem OT {R:Ty->Vl->List UInt8} {s:Sc} {fs:List Fl} {F:List (Int × Vl)} {i:Nat} {g:Fl} (h:fs[i]? = some g):dU R s (fs.take (i + 1)) F=dU R s (fs.take i) F ++ pY R s F g:=by
 unfold dU; rw [eO h,List.flatMap_append]; simp
theorem XL {s:Sc} (hd:Dg s) {N:Nat} (hN:N<=8) {t:Ty} {v:Vl} (h6:(t.k == 6)=true) (h0:cY s t v=0) (hh:∀ x ∈ v.f,x.2.h<=N):(dU (cC s N) s (stOf s t).fs v.f).length<=4000000000000000000:=by
 obtain ⟨_,_,_,_,h2⟩:=(iX h0).st h6
 have hl:=(hd.ni.stOf t).l
 have hB:=kT hN
 have h5:(dU (cC s N) s (stOf s t).fs v.f).length<=(stOf s t).fs.length * (20 + eB N):=nH fun g hg=>IM hd hg fun x hx=>fZ hd N _ x.2 (hh x hx) (h2 x hx)
 have h6:(stOf s t).fs.length * (20 + eB N)<=16 * (20 + eB N):=Nat.mul_le_mul_right _ hl
 omega
theorem pN {N:Nat} (hE:Meets Tryz.prog 48 (zZ N).sp):Meets Tryz.prog 26 (I3 N).sp:=by
 refine aD Tryz.func26 aO9 3 (by rw [Tryz.ntmps26]; decide) (aC WL (aC S8 (aH GO (aH wO (aH hE (aH IR (aB _))))))) OU ?_
 intro av H K h
 obtain ⟨s,u,v,rfl,rfl,hs,hu,hv,⟨hd,hN,hh,t,hto,h6,htu,h0⟩,hK⟩:=W1 h
 clear h
 have hlen:=XL hd hN h6 h0 hh
 have hc:=iX h0
 obtain ⟨_,_,_,_,hck⟩:=hc.st h6
 have hkk:v.k=6:=by rw [hc.kk]; exact eq_of_beq h6
 have hnst:=hd.ni.stOf t
 have hul:=hnst.l
 have hfl:∀ g ∈ u.fs,lV (stOf s t) g.num=g:=fun g hg=>nC hd (by rw [htu]; exact hg)
 rw [htu] at hlen hck hnst hfl hul
 have k6:=fR hs
 have k7:=lG s
 simp (maxSteps:=1000000) -dsimp only [go_sem,aJ,aI,aK v,aBT,aDV]
 refine aU (α:=Nat) (fun i=>[(3,.va (.c1 (.pt 0 0))),(5,.va (.c1 (.pt 2 0))),(7,tS (mk (dU (cC s N) s (u.fs.take i) v.f))),(13,.va (.c1 (.fz (u.fs.map aR)))),(14,iS .i64 u.fs.length),(15,iS .i64 i)])
  (fun _=>[.cells [.vl (.int .i64 s.ver),.fz (s.es.map a6),.fz (s.ss.map aI)] 25,.cells [.vl (.string u.nm),.fz (u.fs.map aR)] 48,.cells [.vl (.int .i64 v.k),.vl (.int .i64 v.n),.vl (.string v.s),.fz (v.l.map aQ),.fz (v.f.map bD)] 29])
  (fun i=>i<=u.fs.length) (fun i=>u.fs.length - i) 0 3 (Nat.zero_le _) ?_ ?_ ?_
 · simp -dsimp only [go_sem]<;>simp [dU]
 · simp -dsimp only [go_sem]<;>simp
 intro i hi
 rcases a8 i u.fs.length with hlt | hge
 · have hg:decide ((i:Int) < (u.fs.length:Int))=true:=by simp; omega
   have hx:u.fs[i]? = some u.fs[i]:=aV hlt
   have q2:=aY (row:=aR) hx
   have hgm:=List.getElem_mem hlt
   have hgo:=(hu.fs _ hgm).ty
   have hnx:=OT (R:=cC s N) (s:=s) (F:=v.f) hx
   have hl1:=QD (cC s N) s u.fs v.f (i + 1)
   have hgf:=hfl _ hgm
   generalize u.fs[i]=g at *
   rw [hnx] at hl1
   rw [vP] at hnx hl1
   unfold gY at hnx hl1
   simp (maxSteps:=1000000) -dsimp only [go_sem,hg,↓q2,aR]
   refine ⟨by omega,ZO hv hkk ?_⟩
   cases hvf:cF v.f g.num with
   | none=>
    rw [hvf] at hnx
    have hnx:dU (cC s N) s (u.fs.take (i + 1)) v.f=dU (cC s N) s (u.fs.take i) v.f:=by rw [hnx]; exact List.append_nil _
    simp (maxSteps:=1000000) -dsimp only [go_sem,Option.map_none,Option.getD_none,Option.isSome_none,H6]
    refine aA rfl (.done ?_)
    simp (maxSteps:=1000000) -dsimp only [go_sem,pZ,Bool.false_and,Bool.not_false,Bool.not_true,Bool.true_or]
    refine ⟨by omega,aE (i + 1) 3 (by omega) (by omega) ?_ ?_⟩
    · simp -dsimp only [go_sem,hnx]<;>simp
    · simp -dsimp only [go_sem]<;>simp
   | some x=>
    obtain ⟨hxm,hxe⟩:=nE hvf
    have hxo:=hv.f x hxm
    have hxc:=hck x hxm
    rw [hxe,hgf] at hxc
    have hxh:=hh x hxm
    rw [hvf] at hnx hl1
    simp only [Option.isSome_some,Bool.not_true,Bool.false_or,Option.map_some,Option.getD_some] at hnx hl1 ⊢
    have k1:=dE hxo
    have k2:=gH x.2
    have k4:=jM hgo
    have k5:=qE g.ty
    have k8:M9 N s g.ty x.2=True:=eq_true ⟨hd,hN,hxh,hxc⟩
    have hvl:=fB g.num
    have k9:=fZ hd N g.ty x.2 hxh hxc
    have k10:=kT hN
    have k11:=iY (cC s N g.ty x.2)
    have k12:((cC s N g.ty x.2).length<=9223372036854775797)=True:=eq_true (by omega)
    simp (maxSteps:=1000000) -dsimp only [go_sem,aK x.2]
    refine aA rfl (.done ?_)
    cases ho:g.opt with
    | true=>
     simp (maxSteps:=1000000) -dsimp only [go_sem,pZ,Bool.true_and,Bool.false_and,Bool.not_false,Bool.not_true,Bool.or_false,Bool.false_or]
     rw [ho] at hnx hl1
     simp only [Bool.not_true,Bool.false_and,cond_false,List.length_append] at hnx hl1
     refine aA rfl (.done ?_)
     simp (maxSteps:=1000000) -dsimp only [go_sem,wZ,zZ,kY,lO,fX,k1,k2,k4,k5,k6,k7,k8,k12,List.take_succ_cons,List.take_zero,List.length_cons,List.length_nil]
     refine ⟨by omega,by omega,by omega,aE (i + 1) 3 (by omega) (by omega) ?_ ?_⟩
     · simp -dsimp only [go_sem,hnx,k2,k5,k7,fX]<;>simp
     · simp -dsimp only [go_sem]<;>simp
    | false=>
     rw [ho] at hnx hl1
     simp only [Bool.not_false,Bool.true_and] at hnx hl1
     simp (maxSteps:=1000000) -dsimp only [go_sem,pZ,Bool.true_and,Bool.false_and,Bool.not_false,Bool.not_true,Bool.or_false,Bool.false_or]
     refine xN hs hgo ?_
     have hzo:=BW hs 23 g.ty hgo
     generalize zF s 23 g.ty=z at *
     have kz1:=dE hzo
     have kz2:=gH z
     cases he:cZ x.2 z with
     | true=>
      rw [he,cond_true,List.append_nil] at hnx
      simp (maxSteps:=1000000) -dsimp only [go_sem,aK z,k1,k2,kz1,kz2,he,List.take_succ_cons,List.take_zero,List.length_cons,List.length_nil]
      refine ⟨by omega,aE (i + 1) 3 (by omega) (by omega) ?_ ?_⟩
      · simp -dsimp only [go_sem,hnx]<;>simp
      · simp -dsimp only [go_sem]<;>simp
     | false=>
      rw [he] at hnx hl1
      simp only [cond_false,List.length_append] at hnx hl1
      simp (maxSteps:=1000000) -dsimp only [go_sem,aK z,k1,k2,kz1,kz2,he,List.take_succ_cons,List.take_zero,List.length_cons,List.length_nil]
      refine aA rfl (.done ?_)
      simp (maxSteps:=1000000) -dsimp only [go_sem,wZ,zZ,kY,lO,fX,k1,k2,k4,k5,k6,k7,k8,k12,List.take_succ_cons,List.take_zero,List.length_cons,List.length_nil]
      refine ⟨by omega,by omega,by omega,aE (i + 1) 3 (by omega) (by omega) ?_ ?_⟩
      · simp -dsimp only [go_sem,hnx,k2,k5,k7,fX]<;>simp
      · simp -dsimp only [go_sem]<;>simp
 · have hg:decide ((i:Int) < (u.fs.length:Int))=false:=by simp; omega
   rw [List.take_of_length_le hge] at *
   simp (maxSteps:=1000000) -dsimp only [go_sem,hg]
   refine .sel [] (by simp) (by simp) rfl (.done ?_)
   simp -dsimp only [go_sem]
   exact hK
abbrev K4 (o:List UInt8):B:=.cells [.vl (.string (mk o))] 9
def aC5 (N:Nat):W.Spec:=fun av H K=>∃ (s:Sc) (t u:Ty) (v:Vl) (o:List UInt8),av=[.va (.gs (aQ v)),.va (.c1 (.pt 0 0)),.va (.c1 (.pt 1 0)),.va (.c1 (.pt 2 0))]/\H=[K4 o,.cells (aJ s) 25,.cells (aW t) 42]/\
 t.e=[u]/\s.fit/\TyOk u/\VlOk v/\M9 N s u v/\o.length<=4000000000000000000/\K (.tu []) [K4 (o ++ iO (cC s N u v)),.cells (aJ s) 25,.cells (aW t) 42]
theorem ZM {N:Nat} {s:Sc} {t u:Ty} {v:Vl} {o:List UInt8} {K:S->Hp->Prop} (h1:t.e=[u]) (h2:s.fit) (h3:TyOk u) (h4:VlOk v) (h5:M9 N s u v) (h6:o.length<=4000000000000000000)
 (hK:K (.tu []) [K4 (o ++ iO (cC s N u v)),.cells (aJ s) 25,.cells [.vl (.int .i64 t.k),.vl (.int .i64 t.s),.vl (.string t.n),.fz (t.e.map aW)] 42]) :
 aC5 N [.va (.gs [.vl (.int .i64 v.k),.vl (.int .i64 v.n),.vl (.string v.s),.fz (v.l.map aQ),.fz (v.f.map bD)]),.va (.c1 (.pt 0 0)),.va (.c1 (.pt 1 0)),.va (.c1 (.pt 2 0))]
  [K4 o,.cells [.vl (.int .i64 s.ver),.fz (s.es.map a6),.fz (s.ss.map aI)] 25,.cells [.vl (.int .i64 t.k),.vl (.int .i64 t.s),.vl (.string t.n),.fz (t.e.map aW)] 42] K:=
 ⟨s,t,u,v,o,by rw [aK],by rw [aS]; rfl,h1,h2,h3,h4,h5,h6,by rw [aS]; exact hK⟩
theorem OC {N:Nat} (hE:Meets Tryz.prog 48 (zZ N).sp):Meets Tryz.prog 85 (aC5 N):=by
 refine aD Tryz.func85 aLS 4 (by rw [Tryz.ntmps85]; decide) (aH hE (aH IR (aB _))) (fun av H K h=>by obtain ⟨_,_,_,_,_,rfl,_⟩:=h; rfl) ?_
 rintro av H K ⟨s,t,u,v,o,rfl,rfl,he,hs,hu,hv,hp,ho,hK⟩
 have hd:=hp.1
 have k1:=dE hv
 have k2:=gH v
 have k4:=jM hu
 have k5:=qE u
 have k6:=fR hs
 have k7:=lG s
 have k8:M9 N s u v=True:=eq_true hp
 have k9:=fZ hd N u v hp.2.2.1 hp.2.2.2
 have k10:=kT hp.2.1
 have k11:=iY (cC s N u v)
 have k12:((cC s N u v).length<=9223372036854775797)=True:=eq_true (by omega)
 have z0:(0:Int) < ((1:Nat):Int):=by decide
 have z1:(0:Int)<=0:=by decide
 simp (maxSteps:=1000000) -dsimp only [go_sem,aJ,aS t,aK v,he,aS u,aD7,aCE,zZ,k1,k2,k4,k5,k6,k7,k8,k12,forall_eq',z0,z1,List.length_cons,List.length_nil,List.take_succ_cons,List.take_zero]
 refine ⟨by omega,.sel [0,1,2] (by simp) (by simp) rfl (.done ?_)⟩
 simp -dsimp only [aJ,aS t,he,List.map_cons,List.map_nil,aS u] at hK
 simp -dsimp only [go_sem]
 exact hK
abbrev e1V:S:=.va (.c1 (.fn 85 [(false,[.pt 3 0]),(false,[.pt 0 0]),(false,[.pt 1 0])]))
theorem P1 (R:Ty->Vl->List UInt8) (t:Ty) (l:List Vl) (i:Nat):(jQ R t (l.take i)).length<=(jQ R t l).length:=by
 have h:jQ R t l=jQ R t (l.take i) ++ jQ R t (l.drop i):=by unfold jQ; rw [<-List.flatMap_append,List.take_append_drop]
 rw [h,List.length_append]; omega
theorem N6 {R:Ty->Vl->List UInt8} {t:Ty} {l:List Vl} {i:Nat} {x:Vl} (h:l[i]? = some x):jQ R t (l.take (i + 1))=jQ R t (l.take i) ++ iO (R t x):=by
 unfold jQ; rw [eO h,List.flatMap_append]; simp
theorem WH {s:Sc} (hd:Dg s) {N:Nat} (hN:N<=8) {u:Ty} {l:List Vl} (h:∀ x ∈ l,x.h<=N/\cY s u x=0) (hl:l.length<=32):(jQ (cC s N) u l).length<=3000000000000000000:=by
 have hB:=kT hN
 have h5:(jQ (cC s N) u l).length<=l.length * (10 + eB N):=nH fun x hx=>by
  have:=fZ hd N u x (h x hx).1 (h x hx).2
  have:=iY (cC s N u x)
  omega
 have h6:l.length * (10 + eB N)<=32 * (10 + eB N):=Nat.mul_le_mul_right _ hl
 omega
theorem tJ:∀ N,Meets Tryz.prog 48 (zZ N).sp
 | 0=>⟨by kernel_rfl,by rintro xs vs E ro w K _ _ _ h; obtain ⟨_,_,v,_,_,_,_,_,h,_⟩:=fA h; have:=v.h_pos; have h2:=h.2.2.1; omega⟩
 | N + 1=>by
  refine aD Tryz.func48 aO3 3 (by rw [Tryz.ntmps48]; decide) (aH wO (aH aGK (aC (OC (tJ N)) (aC iZ (aH (pN (tJ N)) (aB _)))))) gT ?_
  intro av H K h
  obtain ⟨s,t,v,rfl,rfl,hs,ht,hv,⟨hd,hN,hh,h0⟩,hK⟩:=fA h
  clear h
  have fin:∀ (x:List UInt8) (R:Hp),cC s (N + 1) t v=x->W.Fin 0 K (tS (mk x)) R:=fun x R h=>by
   rw [h] at hK; exact .sel [] (by simp) (by simp) rfl (.done (by simpa [go_sem] using hK))
  clear hK
  have hc:=iX h0
  have hvn:=hv.n
  have k1:=dE hv
  have k2:=gH v
  have k6:=fR hs
  have k7:=lG s
  rw [tF] at fin
  simp (maxSteps:=1000000) -dsimp only [go_sem,aJ,aS t,aK v,Z2,aEU]
  refine aA rfl (.done ?_)
  cases c1:t.k == 1 || (t.k == 3 || t.k == 7) with
  | true=>
   rw [c1,cond_true] at fin
   have go:∀ b1 b3 b7:Bool,(t.k == 1)=b1->(t.k == 3)=b3->(t.k == 7)=b7->(b1 || (b3 || b7))=true:=fun b1 b3 b7 h1 h3 h7=>by rw [<-h1,<-h3,<-h7]; exact c1
   cases q1:t.k == 1<;>cases q3:t.k == 3<;>cases q7:t.k == 7<;>first
    | exact absurd (go _ _ _ q1 q3 q7) (by decide)
    | (simp (maxSteps:=1000000) -dsimp only [go_sem,lD,q1,q3,q7,kY,lO,fX]
       exact fin _ _ rfl)
  | false=>
  have c1':=c1
  rw [Bool.or_eq_false_iff,Bool.or_eq_false_iff] at c1'
  rw [c1,cond_false] at fin
  cases c2:t.k == 2 with
  | true=>
   rw [c2,cond_true] at fin
   simp (maxSteps:=1000000) -dsimp only [go_sem,lD,c1'.1,c1'.2.1,c1'.2.2,c2,hvn]
   exact fin _ _ rfl
  | false=>
  rw [c2,cond_false] at fin
  cases c4:t.k == 4 with
  | true=>
   rw [c4,cond_true] at fin
   simp (maxSteps:=1000000) -dsimp only [go_sem,lD,c1'.1,c1'.2.1,c1'.2.2,c2,c4]
   have:=fin (bl v.s)
   rw [fJ] at this
   exact this _ rfl
  | false=>
  rw [c4,cond_false] at fin
  cases c5:t.k == 5 with
  | true=>
   rw [c5,cond_true] at fin
   obtain ⟨u,he,hu⟩:=E0 hc.va c5
   have hto:=ht.e u (by rw [he]; exact List.mem_singleton.2 rfl)
   obtain ⟨_,_,_,e4,e5⟩:=hc.ls c5
   have h32:=(nL hc.va).2 c5
   rw [he] at fin e5
   simp only [List.headD_cons] at fin e5
   have hxs:∀ x ∈ v.l,x.h<=N/\cY s u x=0:=fun x hx=>⟨by have:=Vl.h_l hx; omega,e5 x hx⟩
   have hlen:=WH hd (N:=N) (by omega) hxs (by omega)
   have hvl:=fB v.l.length
   simp (maxSteps:=1000000) -dsimp only [go_sem,lD,c1'.1,c1'.2.1,c1'.2.2,c2,c4,c5]
   refine aA rfl (.done ?_)
   simp (maxSteps:=1000000) -dsimp only [go_sem,yG,kY,lO,fX]
   refine aU (α:=Nat) (fun i=>[(3,.va (.c1 (.pt 0 0))),(4,.va (.c1 (.pt 1 0))),(7,.va (.c1 (.pt 3 0))),(8,e1V),(41,.va (.c1 (.fz (v.l.map aQ)))),(42,iS .i64 v.l.length),(43,iS .i64 i)])
    (fun i=>[.cells [.vl (.int .i64 s.ver),.fz (s.es.map a6),.fz (s.ss.map aI)] 25,.cells [.vl (.int .i64 t.k),.vl (.int .i64 t.s),.vl (.string t.n),.fz (t.e.map aW)] 42,.cells [.vl (.int .i64 v.k),.vl (.int .i64 v.n),.vl (.string v.s),.fz (v.l.map aQ),.fz (v.f.map bD)] 29,K4 (fG v.l.length ++ jQ (cC s N) u (v.l.take i))])
    (fun i=>i<=v.l.length) (fun i=>v.l.length - i) 0 4 (Nat.zero_le _) ?_ ?_ ?_
   · simp -dsimp only [go_sem]<;>simp
   · simp -dsimp only [go_sem]<;>simp [jQ]
   intro i hi
   have hlt1:=P1 (cC s N) u v.l i
   rcases a8 i v.l.length with hlt | hge
   · have hg:decide ((i:Int) < (v.l.length:Int))=true:=by simp; omega
     have hx:v.l[i]? = some v.l[i]:=aV hlt
     have q1:=mH hx
     have hxm:=List.getElem_mem hlt
     have hxo:=hv.l _ hxm
     have hxp:=hxs _ hxm
     have hnx:=N6 (R:=cC s N) (t:=u) hx
     generalize v.l[i]=x at *
     simp (maxSteps:=1000000) -dsimp only [go_sem,hg,↓q1]
     refine ⟨by omega,aA rfl (.done ?_)⟩
     simp (maxSteps:=1000000) -dsimp only [go_sem,yZ]
     refine ZM he hs hto hxo ⟨hd,by omega,hxp.1,hxp.2⟩ (by rw [List.length_append]; omega) ?_
     simp (maxSteps:=1000000) -dsimp only [go_sem,aJ]
     refine ⟨by omega,aE (i + 1) 4 (by omega) (by omega) ?_ ?_⟩
     · simp -dsimp only [go_sem]<;>simp
     · simp -dsimp only [go_sem,hnx]<;>simp
   · have hg:decide ((i:Int) < (v.l.length:Int))=false:=by simp; omega
     rw [List.take_of_length_le hge] at *
     simp (maxSteps:=1000000) -dsimp only [go_sem,hg]
     refine aA rfl (.done ?_)
     simp (maxSteps:=1000000) -dsimp only [go_sem,zN]
     exact fin _ _ rfl
  | false=>
   rw [c5,cond_false] at fin
   have c6:(t.k == 6)=true:=JQ hc.va c1'.1 (by rw [c2,c1'.2.1,c1'.2.2]; rfl) c4 c5
   obtain ⟨_,_,_,_,e5⟩:=hc.st c6
   have hst:=eZ hs t
   have k4:=MY hst
   have k5:=aCG (stOf s t)
   have k8:EsP N s (stOf s t) v=True:=eq_true ⟨hd,by omega,fun x hx=>by have:=Vl.h_f hx; omega,t,ht,c6,rfl,h0⟩
   simp (maxSteps:=1000000) -dsimp only [go_sem,lD,c1'.1,c1'.2.1,c1'.2.2,c2,c4,c5]
   refine aA rfl (.done ?_)
   simp (maxSteps:=1000000) -dsimp only [go_sem,xF]
   refine i7 hs ?_
   rw [show (fS s.ss t.n).getD default=stOf s t from rfl]
   generalize stOf s t=w at *
   simp (maxSteps:=1000000) -dsimp only [go_sem,aI]
   refine aA rfl (.done ?_)
   simp (maxSteps:=1000000) -dsimp only [go_sem,x5,I3,k1,k2,k4,k5,k6,k7,k8]
   exact fin _ _ rfl
abbrev gC (nm:ByteArray):Ty:=.mk 6 0 nm []
theorem aD5 {nm:ByteArray} (h:nm.size<=9223372036854775807):TyOk (gC nm):=.mk ⟨by decide,by decide⟩ ⟨by decide,by decide⟩ h (Nat.zero_le _) fun t h=>(by cases h)
def BG (s:Sc) (nm:ByteArray):St × Int:=bif bN s != 0 then (default,bN s) else bif !(cA s.ss nm) then (default,6) else (stOf s (gC nm),0)
def ZA:W.Spec:=fun av H K=>∃ (s:Sc) (nm:ByteArray),av=[.va (.gs (aJ s)),tS nm]/\H=[]/\s.fit/\K (.tu [.gs (aI (BG s nm).1),iA .i64 (BG s nm).2]) []
theorem MW {s:Sc} {nm:ByteArray} {K:S->Hp->Prop} (h:s.fit) (hK:K (.tu [.gs (aI (BG s nm).1),iA .i64 (BG s nm).2]) []):ZA [.va (.gs [.vl (.int .i64 s.ver),.fz (s.es.map a6),.fz (s.ss.map aI)]),tS nm] [] K:=⟨s,nm,rfl,rfl,h,hK⟩
theorem oO:aI default=[.vl (.string (mk [])),.fz []]:=rfl
theorem H8:Meets Tryz.prog 23 ZA:=by
 refine aD Tryz.func23 aO5 2 (by rw [Tryz.ntmps23]; decide) (aH aBR (aC iZ (aB _))) (fun av H K h=>by obtain ⟨_,_,rfl,_⟩:=h; rfl) ?_
 rintro av H K ⟨s,nm,rfl,rfl,hs,hK⟩
 have fin:∀ (u:St) (e:Int) (R:Hp),BG s nm=(u,e)->W.Fin 0 K (.tu [.gs (aI u),iA .i64 e]) R:=fun u e R h=>by
  rw [h] at hK; exact .sel [] (by simp) (by simp) rfl (.done (by simpa [go_sem,aI] using hK))
 clear hK
 unfold BG at fin
 have k6:=fR hs
 have k7:=lG s
 simp (maxSteps:=1000000) -dsimp only [go_sem,aJ,aB3,aB6,k6,k7]
 refine aA rfl (.done ?_)
 cases c1:bN s != 0 with
 | true=>
  rw [c1,cond_true] at fin
  simp (maxSteps:=1000000) -dsimp only [go_sem,u2,c1]
  exact fin _ _ _ rfl
 | false=>
 rw [c1,cond_false] at fin
 simp (maxSteps:=1000000) -dsimp only [go_sem,u2,c1]
 refine aA rfl (.done ?_)
 simp (maxSteps:=1000000) -dsimp only [go_sem,DL]
 refine i7 hs ?_
 rw [show (fS s.ss nm).getD default=stOf s (gC nm) from rfl]
 generalize stOf s (gC nm)=u at *
 simp (maxSteps:=1000000) -dsimp only [go_sem,aI]
 refine aA rfl (.done ?_)
 cases c2:cA s.ss nm with
 | false=>
  rw [c2,Bool.not_false,cond_true] at fin
  simp (maxSteps:=1000000) -dsimp only [go_sem,uU,Bool.not_false]
  exact fin _ _ _ rfl
 | true=>
  rw [c2,Bool.not_true,cond_false] at fin
  simp (maxSteps:=1000000) -dsimp only [go_sem,uU,Bool.not_true]
  exact fin _ _ _ rfl
def Z9:W.Spec:=fun av H K=>∃ nm:ByteArray,av=[tS nm]/\H=[]/\K (.va (.gs (aW (gC nm)))) []
theorem NC {nm:ByteArray} {K:S->Hp->Prop} (hK:K (.va (.gs (aW (gC nm)))) []):Z9 [tS nm] [] K:=⟨nm,rfl,rfl,hK⟩
theorem GG:Meets Tryz.prog 25 Z9:=by
 refine aD Tryz.func25 aOZ 1 (by rw [Tryz.ntmps25]; decide) (aB _) (fun av H K h=>by obtain ⟨_,rfl,_⟩:=h; rfl) ?_
 rintro av H K ⟨nm,rfl,rfl,hK⟩
 simp (maxSteps:=1000000) -dsimp only [go_sem,aEP,ZL]
 exact .sel [] (by simp) (by simp) rfl (.done (by simpa [go_sem,aS,Ty.k,Ty.s,Ty.n,Ty.e] using hK))
def t8:W.Spec:=fun av H K=>∃ (s:Sc) (nm:ByteArray) (v:Vl),av=[.va (.gs (aJ s)),tS nm,.va (.gs (aQ v))]/\H=[]/\s.fit/\nm.size<=9223372036854775807/\VlOk v/\K (.tu [tA (mk (g7 s nm v).1),iA .i64 (g7 s nm v).2]) []
theorem MK {s:Sc} {nm:ByteArray} {v:Vl} {K:S->Hp->Prop} (h1:s.fit) (h2:nm.size<=9223372036854775807) (h3:VlOk v) (hK:K (.tu [tA (mk (g7 s nm v).1),iA .i64 (g7 s nm v).2]) []) :
 t8 [.va (.gs [.vl (.int .i64 s.ver),.fz (s.es.map a6),.fz (s.ss.map aI)]),tS nm,.va (.gs [.vl (.int .i64 v.k),.vl (.int .i64 v.n),.vl (.string v.s),.fz (v.l.map aQ),.fz (v.f.map bD)])] [] K:=⟨s,nm,v,by rw [aK]; rfl,rfl,h1,h2,h3,hK⟩
theorem IL:Meets Tryz.prog 9 t8:=by
 refine aD Tryz.func9 ok9 3 (by rw [Tryz.ntmps9]; decide) (aC H8 (aC GG (aH WO (aH (pN (tJ 8)) (aB _))))) (fun av H K h=>by obtain ⟨_,_,_,rfl,_⟩:=h; rfl) ?_
 rintro av H K ⟨s,nm,v,rfl,rfl,hs,hnm,hv,hK⟩
 have fin:∀ (x:List UInt8) (e:Int) (R:Hp),g7 s nm v=(x,e)->W.Fin 0 K (.tu [tA (mk x),iA .i64 e]) R:=fun x e R h=>by
  rw [h] at hK; exact .sel [] (by simp) (by simp) rfl (.done (by simpa [go_sem] using hK))
 clear hK
 unfold g7 at fin
 have hty:=aD5 hnm
 have k1:=dE hv
 have k2:=gH v
 have k4:=jM hty
 have k5:=qE (gC nm)
 have k6:=fR hs
 have k7:=lG s
 simp (maxSteps:=1000000) -dsimp only [go_sem,aJ,aK v,pc9,rs9]
 refine MW hs ?_
 have hch:BG s nm=bif bN s != 0 then (default,bN s) else bif !(cA s.ss nm) then (default,6) else (stOf s (gC nm),0):=rfl
 have hst:=eZ hs (gC nm)
 cases c1:bN s != 0 with
 | true=>
  rw [c1,cond_true] at fin hch
  rw [hch]
  simp (maxSteps:=1000000) -dsimp only [go_sem,oO]
  refine aA rfl (.done ?_)
  simp (maxSteps:=1000000) -dsimp only [go_sem,qU,c1]
  exact fin _ _ _ rfl
 | false=>
 have hd:=BR hs (fT c1)
 rw [c1,cond_false] at fin hch
 cases c2:cA s.ss nm with
 | false=>
  rw [c2,Bool.not_false,cond_true] at fin hch
  rw [hch]
  simp (maxSteps:=1000000) -dsimp only [go_sem,oO]
  refine aA rfl (.done ?_)
  have g:((6:Int) != 0)=true:=rfl
  simp (maxSteps:=1000000) -dsimp only [go_sem,qU,g]
  exact fin _ _ _ rfl
 | true=>
 rw [c2,Bool.not_true,cond_false] at fin hch
 rw [hch]
 cases c3:j7 s (gC nm) v != 0 with
 | true=>
  rw [c3,cond_true] at fin
  generalize stOf s (gC nm)=w at *
  simp (maxSteps:=1000000) -dsimp only [go_sem,aI]
  refine aA rfl (.done ?_)
  simp (maxSteps:=1000000) -dsimp only [go_sem,qU,bne_self_eq_false]
  refine aA rfl (.done ?_)
  simp (maxSteps:=1000000) -dsimp only [go_sem,CR]
  refine NC ?_
  simp (maxSteps:=1000000) -dsimp only [go_sem,aS (gC nm),k1,k2,k4,k5,k6,k7,c3]
  exact fin _ _ _ rfl
 | false=>
  rw [c3,cond_false] at fin
  have hck:=fT c3
  have h0:=(nY hck).1
  have hh:=OW hck
  have q4:=MY hst
  have q5:=aCG (stOf s (gC nm))
  have q8:EsP 8 s (stOf s (gC nm)) v=True:=eq_true ⟨hd,Nat.le_refl _,fun x hx=>by have:=Vl.h_f hx; omega,gC nm,hty,rfl,rfl,h0⟩
  generalize stOf s (gC nm)=w at *
  simp (maxSteps:=1000000) -dsimp only [go_sem,aI]
  refine aA rfl (.done ?_)
  simp (maxSteps:=1000000) -dsimp only [go_sem,qU,bne_self_eq_false]
  refine aA rfl (.done ?_)
  simp (maxSteps:=1000000) -dsimp only [go_sem,CR]
  refine NC ?_
  simp (maxSteps:=1000000) -dsimp only [go_sem,aS (gC nm),k1,k2,k4,k5,k6,k7,c3]
  refine aA rfl (.done ?_)
  cases c4:decide (2000 < ((dU (cC s 8) s w.fs v.f).length:Int)) with
  | true=>
   rw [c4,cond_true] at fin
   simp (maxSteps:=1000000) -dsimp only [go_sem,BP,I3,k1,k2,q4,q5,k6,k7,q8,c4]
   exact fin _ _ _ rfl
  | false=>
   rw [c4,cond_false] at fin
   simp (maxSteps:=1000000) -dsimp only [go_sem,BP,I3,k1,k2,q4,q5,k6,k7,q8,c4]
   exact fin _ _ _ rfl
theorem tM:∀ N,Meets Tryz.prog 55 (y5 N)
 | 0=>⟨by kernel_rfl,by rintro xs vs E ro w K _ _ _ ⟨s,t,_,_,_,_,_,_,_,h,_⟩; have:=z8 s t; omega⟩
 | N + 1=>by
  refine aD Tryz.func55 aOL 3 (by rw [Tryz.ntmps55]; decide) (aC GF (aC BN (aC (GE (tM N)) (aC iZ (aC (pH (tM N)) (aB _)))))) (fun av H K h=>by obtain ⟨_,_,_,rfl,_⟩:=h; rfl) ?_
  rintro av H K ⟨s,t,b,rfl,rfl,hd,hs,ht,hv,hf,hb,hK⟩
  have fin:∀ (v:Vl) (e:Int) (R:Hp),bW s (N + 1) t b=(v,e)->W.Fin 0 K (.tu [.gs [.vl (.int .i64 v.k),.vl (.int .i64 v.n),.vl (.string v.s),.fz (v.l.map aQ),.fz (v.f.map bD)],iA .i64 e]) R:=fun v e R h=>by
   rw [h] at hK; exact .sel [] (by simp) (by simp) rfl (.done (by rw [aK] at hK; simpa [go_sem] using hK))
  clear hK
  rw [tT] at fin
  simp (maxSteps:=1000000) -dsimp only [go_sem,aJ,aS t,aDZ,Y3]
  refine aA rfl (.done ?_)
  cases c1:t.k == 1 with
  | true=>
   rw [c1,cond_true] at fin
   simp (maxSteps:=1000000) -dsimp only [go_sem,jR,c1]
   refine aEZ (by omega) ?_
   generalize pD b=w at *
   obtain ⟨v,e⟩:=w
   simp (maxSteps:=1000000) -dsimp only [go_sem,aK v]
   exact fin _ _ _ rfl
  | false=>
  rw [c1,cond_false] at fin
  cases c2:t.k == 2 || (t.k == 3 || t.k == 7) with
  | true=>
   rw [c2,cond_true] at fin
   have go:∀ b2 b3 b7:Bool,(t.k == 2)=b2->(t.k == 3)=b3->(t.k == 7)=b7->(b2 || (b3 || b7))=true:=fun b2 b3 b7 h1 h3 h7=>by rw [<-h1,<-h3,<-h7]; exact c2
   cases q2:t.k == 2<;>cases q3:t.k == 3<;>cases q7:t.k == 7<;>first
    | exact absurd (go _ _ _ q2 q3 q7) (by decide)
    | (simp (maxSteps:=1000000) -dsimp only [go_sem,jR,c1,q2,q3,q7]
       refine ZY hd hs ht hv c2 (by omega) ?_
       generalize pK s t b=w at *
       obtain ⟨v,e⟩:=w
       simp (maxSteps:=1000000) -dsimp only [go_sem,aK v]
       exact fin _ _ _ rfl)
  | false=>
  have c2':=c2
  rw [Bool.or_eq_false_iff,Bool.or_eq_false_iff] at c2'
  rw [c2,cond_false] at fin
  cases c4:t.k == 4 with
  | true=>
   rw [c4,cond_true] at fin
   unfold L2 at fin
   cases d:decide (t.s < (b.length:Int)) with
   | true=>
    rw [d,cond_true] at fin
    simp (maxSteps:=1000000) -dsimp only [go_sem,jR,c1,c2'.1,c2'.2.1,c2'.2.2,c4,d]
    exact fin v0 _ _ rfl
   | false=>
    rw [d,cond_false] at fin
    simp (maxSteps:=1000000) -dsimp only [go_sem,jR,c1,c2'.1,c2'.2.1,c2'.2.2,c4,d]
    exact fin (.mk 4 0 (mk b) [] []) _ _ rfl
  | false=>
  rw [c4,cond_false] at fin
  cases c5:t.k == 5 with
  | true=>
   rw [c5,cond_true] at fin
   simp (maxSteps:=1000000) -dsimp only [go_sem,jR,c1,c2'.1,c2'.2.1,c2'.2.2,c4,c5]
   refine aE4 hd hs ht hv c5 hf hb ?_
   generalize jT (bW s N (t.e.headD default)) t.s b=w at *
   obtain ⟨v,e⟩:=w
   simp (maxSteps:=1000000) -dsimp only [go_sem,aK v]
   exact fin _ _ _ rfl
  | false=>
   rw [c5,cond_false] at fin
   have c6:=JQ hv c1 c2 c4 c5
   have hst:=vK hd hv c6
   have hfd:=D4 (s:=s) c6
   have hp:DsP N s (stOf s t):=⟨hd,hs,⟨t,rfl⟩,fun f hf=>by have:=hst.2.2 f hf; omega⟩
   simp (maxSteps:=1000000) -dsimp only [go_sem,jR,c1,c2'.1,c2'.2.1,c2'.2.2,c4,c5]
   refine aA rfl (.done ?_)
   simp (maxSteps:=1000000) -dsimp only [go_sem,y2]
   refine i7 hs ?_
   rw [show (fS s.ss t.n).getD default=stOf s t from rfl]
   generalize stOf s t=u at *
   simp (maxSteps:=1000000) -dsimp only [go_sem,aI]
   refine aA rfl (.done ?_)
   simp (maxSteps:=1000000) -dsimp only [go_sem,zT]
   refine GN hp hb ?_
   generalize iG (bW s N) s u.fs b=w at *
   obtain ⟨v,e⟩:=w
   simp (maxSteps:=1000000) -dsimp only [go_sem,aK v]
   exact fin _ _ _ rfl
def t7:W.Spec:=fun av H K=>∃ (s:Sc) (nm:ByteArray) (b:List UInt8),av=[.va (.gs (aJ s)),tS nm,tS (mk b)]/\H=[]/\s.fit/\b.length<=9223372036854775807/\K (.tu [.gs (aQ (jX s nm b).1),iA .i64 (jX s nm b).2]) []
theorem LO {s:Sc} {nm:ByteArray} {b:List UInt8} {K:S->Hp->Prop} (h1:s.fit) (h2:b.length<=9223372036854775807)
 (hK:K (.tu [.gs [.vl (.int .i64 (jX s nm b).1.k),.vl (.int .i64 (jX s nm b).1.n),.vl (.string (jX s nm b).1.s),.fz ((jX s nm b).1.l.map aQ),.fz ((jX s nm b).1.f.map bD)],iA .i64 (jX s nm b).2]) []) :
 t7 [.va (.gs [.vl (.int .i64 s.ver),.fz (s.es.map a6),.fz (s.ss.map aI)]),tS nm,tS (mk b)] [] K:=⟨s,nm,b,rfl,rfl,h1,h2,by rw [aK]; exact hK⟩
theorem IB:Meets Tryz.prog 12 t7:=by
 refine aD Tryz.func12 aOW 3 (by rw [Tryz.ntmps12]; decide) (aC H8 (aC (pH (tM 8)) (aB _))) (fun av H K h=>by obtain ⟨_,_,_,rfl,_⟩:=h; rfl) ?_
 rintro av H K ⟨s,nm,b,rfl,rfl,hs,hb,hK⟩
 have fin:∀ (v:Vl) (e:Int) (R:Hp),jX s nm b=(v,e)->W.Fin 0 K (.tu [.gs [.vl (.int .i64 v.k),.vl (.int .i64 v.n),.vl (.string v.s),.fz (v.l.map aQ),.fz (v.f.map bD)],iA .i64 e]) R:=fun v e R h=>by
  rw [h] at hK; exact .sel [] (by simp) (by simp) rfl (.done (by rw [aK] at hK; simpa [go_sem] using hK))
 clear hK
 unfold jX at fin
 simp (maxSteps:=1000000) -dsimp only [go_sem,aJ,aDY,aA6]
 refine MW hs ?_
 have hch:BG s nm=bif bN s != 0 then (default,bN s) else bif !(cA s.ss nm) then (default,6) else (stOf s (gC nm),0):=rfl
 cases c1:bN s != 0 with
 | true=>
  rw [c1,cond_true] at fin hch
  rw [hch]
  simp (maxSteps:=1000000) -dsimp only [go_sem,oO]
  refine aA rfl (.done ?_)
  simp (maxSteps:=1000000) -dsimp only [go_sem,nJ,c1]
  exact fin v0 _ _ rfl
 | false=>
 have hd:=BR hs (fT c1)
 rw [c1,cond_false] at fin hch
 cases c2:cA s.ss nm with
 | false=>
  rw [c2,Bool.not_false,cond_true] at fin hch
  rw [hch]
  simp (maxSteps:=1000000) -dsimp only [go_sem,oO]
  refine aA rfl (.done ?_)
  have g:((6:Int) != 0)=true:=rfl
  simp (maxSteps:=1000000) -dsimp only [go_sem,nJ,g]
  exact fin v0 _ _ rfl
 | true=>
 rw [c2,Bool.not_true,cond_false] at fin hch
 rw [hch]
 obtain ⟨hfd,hv⟩:=aCA hd c2
 have hst:=vK hd hv rfl
 have hp:DsP 8 s (stOf s (gC nm)):=⟨hd,hs,⟨gC nm,rfl⟩,fun f hf=>by have:=hst.2.2 f hf; have:=hst.2.1; omega⟩
 cases c3:decide (2000 < (b.length:Int)) with
 | true=>
  rw [c3,cond_true] at fin
  generalize stOf s (gC nm)=w at *
  simp (maxSteps:=1000000) -dsimp only [go_sem,aI]
  refine aA rfl (.done ?_)
  simp (maxSteps:=1000000) -dsimp only [go_sem,nJ,bne_self_eq_false,c3]
  exact fin v0 _ _ rfl
 | false=>
  rw [c3,cond_false] at fin
  have hb2:=of_decide_eq_false c3
  generalize stOf s (gC nm)=w at *
  simp (maxSteps:=1000000) -dsimp only [go_sem,aI]
  refine aA rfl (.done ?_)
  simp (maxSteps:=1000000) -dsimp only [go_sem,nJ,bne_self_eq_false,c3]
  refine aA rfl (.done ?_)
  simp (maxSteps:=1000000) -dsimp only [go_sem,DZ]
  refine GN hp (by omega) ?_
  generalize iG (bW s 8) s w.fs b=z at *
  obtain ⟨v,e⟩:=z
  simp (maxSteps:=1000000) -dsimp only [go_sem,aK v]
  exact fin _ _ _ rfl
def E8:PC:=.seq (.gh (.reg [.v 32 3,.q 33 (.bin .eql true (.t 32) (.k (.string (mk [1,1,3,2,1,1])))),.v 34 33,⟨some 35,(some (34,true)),.q (.mv (.t 4))⟩,⟨some 36,(some (34,true)),.q (.bin .eql true (.t 35) (.i 0))⟩,.a 37 (.pick (.t 34) (.t 36) (.k (.bool false))),.v 38 37,⟨some 39,(some (38,true)),.l (.ldn 5 (.t 5))⟩,⟨some 40,(some (38,true)),.l (.ldn 5 (.t 2))⟩,⟨some 41,(some (38,true)),.cq 14 [(.t 39),(.t 40)]⟩,.a 42 (.pick (.t 38) (.t 41) (.k (.bool false))),.v 43 42,⟨some 44,(some (43,true)),.q (.mv (.t 6))⟩,⟨some 45,(some (43,true)),.q (.bin .eql true (.t 44) (.i 0))⟩,.a 46 (.pick (.t 43) (.t 45) (.k (.bool false))),.v 47 46,⟨some 48,(some (47,true)),.q (.mv (.t 8))⟩,⟨some 49,(some (47,true)),.q (.bin .eql true (.t 48) (.i 2))⟩,.a 50 (.pick (.t 47) (.t 49) (.k (.bool false))),.v 0 50])) .ret
@[go_sem ↓] theorem aMY:aL E8:=aM _
def ER:PC:=.seq (.gh (.reg [.l 28 (.ldn 3 (.t 1)),.a 29 (.cl 12 [(.t 28),(.k (.string (mk [80]))),(.k (.string (mk [1,1,0])))] []),.v 27 29,.q 30 (.ex (.t 27) 0),.q 31 (.ex (.t 27) 1),.e 7 (.al (.agg #[(.int .i64 0),(.int .i64 0),(.string (mk [])),(.slice none 0 0),(.slice none 0 0)]) 29),.s (.st 5 (.t 7) (.t 30)),.v 8 31])) (E8)
@[go_sem ↓] theorem aO8:aL ER:=aM _
def FQ:PC:=.seq (.gh (.reg [.l 23 (.ldn 3 (.t 1)),.a 24 (.cl 12 [(.t 23),(.k (.string (mk [80]))),(.k (.string (mk [1,1,3,2,1,1])))] []),.v 22 24,.q 25 (.ex (.t 22) 0),.q 26 (.ex (.t 22) 1),.e 5 (.al (.agg #[(.int .i64 0),(.int .i64 0),(.string (mk [])),(.slice none 0 0),(.slice none 0 0)]) 29),.s (.st 5 (.t 5) (.t 25)),.v 6 26])) (ER)
@[go_sem ↓] theorem aMV:aL FQ:=aM _
def FD:PC:=.seq (.gh (.reg [.l 17 (.ldn 3 (.t 1)),.l 18 (.ldn 5 (.t 2)),.a 19 (.cl 9 [(.t 17),(.k (.string (mk [80]))),(.t 18)] []),.v 16 19,.q 20 (.ex (.t 16) 0),.q 21 (.ex (.t 16) 1),.v 3 20,.v 4 21])) (FQ)
@[go_sem ↓] theorem aNB:aL FD:=aM _
def aBW:PC:=.seq (.reg [.q 0 (.mv (.k (.bool false)))]) (.seq (.reg [.a 9 (.cl 29 [] []),.e 1 (.al (.agg #[(.int .i64 0),(.slice none 0 0),(.slice none 0 0)]) 25),.s (.st 3 (.t 1) (.t 9))]) (.seq (.reg [.q 10 (.bd [(.int .i64 0),(.int .i64 0),(.string (mk [])),(.slice none 0 0),(.slice none 0 0)] [(0,1,(.i 2)),(1,1,(.i (-2)))]),.q 11 (.bd [(.int .i64 0),(.int .i64 0),(.int .i64 0),(.string (mk [])),(.slice none 0 0),(.slice none 0 0)] [(0,1,(.i 1)),(1,5,(.t 10))]),.q 12 (.bd [(.int .i64 0),(.int .i64 0),(.string (mk [])),(.slice none 0 0),(.slice none 0 0)] [(0,1,(.i 1)),(1,1,(.i 1))]),.q 13 (.bd [(.int .i64 0),(.int .i64 0),(.int .i64 0),(.string (mk [])),(.slice none 0 0),(.slice none 0 0)] [(0,1,(.i 2)),(1,5,(.t 12))]),.e 14 (.bsl 76 6 [(.t 11),(.t 13)]),.q 15 (.bd [(.int .i64 0),(.int .i64 0),(.string (mk [])),(.slice none 0 0),(.slice none 0 0)] [(0,1,(.i 6)),(4,1,(.t 14))]),.e 2 (.al (.agg #[(.int .i64 0),(.int .i64 0),(.string (mk [])),(.slice none 0 0),(.slice none 0 0)]) 29),.s (.st 5 (.t 2) (.t 15))]) (FD)))
def YN:List RV:=[.mv (.t 0)]
theorem aOE:aP Tryz.prog true ⟨fun r k=>if r=6/\k=9 then .q else .own [],fun r=>[3,4,5,6].contains r⟩ Tryz.f11=some (aBW,YN):=by kernel_rfl
def aD4:PC:=.seq (.reg [.e 0 (.al (.agg #[(.int .i64 0),(.slice none 0 0),(.slice none 0 0)]) 25)]) (.seq (.reg [.q 1 (.bd [(.int .i64 0),(.int .i64 0),(.string (mk [])),(.slice none 0 0)] [(0,1,(.i 2)),(1,1,(.i 32))]),.q 2 (.bd [(.int .i64 0),(.string (mk [])),(.int .i64 0),(.int .i64 0),(.string (mk [])),(.slice none 0 0),(.bool false)] [(0,1,(.i 1)),(1,1,(.k (.string (mk [120])))),(2,4,(.t 1))]),.q 3 (.bd [(.int .i64 0),(.int .i64 0),(.string (mk [])),(.slice none 0 0)] [(0,1,(.i 1))]),.q 4 (.bd [(.int .i64 0),(.string (mk [])),(.int .i64 0),(.int .i64 0),(.string (mk [])),(.slice none 0 0),(.bool false)] [(0,1,(.i 2)),(1,1,(.k (.string (mk [111,110])))),(2,4,(.t 3))]),.e 5 (.bsl 52 7 [(.t 2),(.t 4)]),.q 6 (.bd [(.string (mk [])),(.slice none 0 0)] [(0,1,(.k (.string (mk [80])))),(1,1,(.t 5))]),.e 7 (.bslx 48 2 [(.t 6)]),.q 8 (.bd [(.int .i64 0),(.slice none 0 0),(.slice none 0 0)] [(0,1,(.i 1)),(2,1,(.t 7))]),.s (.st 3 (.t 0) (.t 8))]) .ret)
def aBK:List RV:=[.ld (.ldn 3 (.t 0))]
theorem aMU:aP Tryz.prog true ⟨fun r k=>if r=1/\k=6 then .q else .own [],fun _=>false⟩ Tryz.f29=some (aD4,aBK):=by kernel_rfl
def yF1:Fl:=⟨1,mk [120],.mk 2 32 (mk []) [],false⟩
def yF2:Fl:=⟨2,mk [111,110],.mk 1 0 (mk []) [],false⟩
def ySt:St:=⟨mk [80],[yF1,yF2]⟩
def yS:Sc:=⟨1,[],[ySt]⟩
def ySp:W.Spec:=fun av H K=>av=[]/\H=[]/\K (.va (.gs (aJ yS))) []
theorem I8:Meets Tryz.prog 29 ySp:=by
 refine aD Tryz.func29 aMU 0 (by rw [Tryz.ntmps29]; decide) (aB _) (fun av H K h=>by obtain ⟨rfl,_⟩:=h; rfl) ?_
 rintro av H K ⟨rfl,rfl,hK⟩
 simp (maxSteps:=1000000) -dsimp only [go_sem,aD4,aBK]
 refine .opn 1 _ _ _ rfl (.nfr 1 _ _ _ rfl (.shu 1 _ _ _ rfl ?_ (.pub 1 _ _ _ rfl ?_)))
 · simp [C.nf,C.shut]
 simp -dsimp only [go_sem,cG,C.nf,C.pub]
 refine .shu 2 _ _ _ rfl ?_ (.pub 2 _ _ _ rfl ?_)
 · simp [C.shut]
 simp -dsimp only [go_sem,cG,C.pub]
 refine .sel [] (by simp) (by simp) rfl (.done ?_)
 simp -dsimp only [go_sem]
 exact hK
def yV:Vl:=.mk 6 0 (mk []) [] [(1,.mk 2 (-2) (mk []) [] []),(2,.mk 1 1 (mk []) [] [])]
abbrev yN:ByteArray:=mk [80]
theorem ye1:g7 yS yN yV=([1,1,3,2,1,1],0):=by kernel_rfl
theorem ye2:jX yS yN [1,1,3,2,1,1]=(yV,0):=by kernel_rfl
theorem ye3:jX yS yN [1,1,0]=(v0,2):=by kernel_rfl
theorem aG3:yS.ok:=by
 refine ⟨⟨by decide,by decide⟩,by decide,by decide,fun e he=>(by cases he),fun u hu=>?_⟩
 rw [List.mem_singleton.1 hu]
 refine ⟨by decide,by decide,fun f hf=>?_⟩
 have:f=yF1\/f=yF2:=by simpa [ySt] using hf
 rcases this with rfl | rfl
 · exact ⟨⟨by decide,by decide⟩,by decide,ty0 _ _ _ ⟨by decide,by decide⟩ ⟨by decide,by decide⟩ (by decide)⟩
 · exact ⟨⟨by decide,by decide⟩,by decide,ty0 _ _ _ ⟨by decide,by decide⟩ ⟨by decide,by decide⟩ (by decide)⟩
theorem aE3:PG yS=true:=by kernel_rfl
theorem MH:yS.fit:=WQ aG3 aE3
theorem QZ:VlOk yV:=by
 have hf:∀ k n:Int,bM k->bM n->VlOk (.mk k n (mk []) [] []):=fun k n h1 h2=>D9 h1 h2 (by decide)
 refine .mk ⟨by decide,by decide⟩ ⟨by decide,by decide⟩ (by decide) (by decide) (by decide) (fun x h=>by cases h) (fun x hx=>?_) (fun x hx=>?_)
 · have:x=(1,.mk 2 (-2) (mk []) [] [])\/x=(2,.mk 1 1 (mk []) [] []):=by simpa using hx
   rcases this with rfl | rfl<;>exact ⟨by decide,by decide⟩
 · have:x=(1,.mk 2 (-2) (mk []) [] [])\/x=(2,.mk 1 1 (mk []) [] []):=by simpa using hx
   rcases this with rfl | rfl
   · exact hf _ _ ⟨by decide,by decide⟩ ⟨by decide,by decide⟩
   · exact hf _ _ ⟨by decide,by decide⟩ ⟨by decide,by decide⟩
noncomputable def yE:b8:=[(29,.s ySp),(9,.s t8),(12,.s t7),(14,.f eqFn2)]
theorem aGJ:sp yE 29=ySp:=rfl
theorem aH8:sp yE 9=t8:=rfl
theorem RM:sp yE 12=t7:=rfl
theorem aGH:jB yE 14=some eqFn2:=rfl
theorem aOI {K:S->Hp->Prop} (hK:K (.tu [tA (mk [1,1,3,2,1,1]),iA .i64 0]) []) :
 t8 [.va (.gs [.vl (.int .i64 yS.ver),.fz (yS.es.map a6),.fz (yS.ss.map aI)]),tS yN,.va (.gs [.vl (.int .i64 yV.k),.vl (.int .i64 yV.n),.vl (.string yV.s),.fz (yV.l.map aQ),.fz (yV.f.map bD)])] [] K:=
 MK MH (by decide) QZ (by rw [ye1]; exact hK)
theorem aDD {b:List UInt8} {v:Vl} {e:Int} {K:S->Hp->Prop} (h:jX yS yN b=(v,e)) (hb:b.length<=9223372036854775807) (hK:K (.tu [.gs [.vl (.int .i64 v.k),.vl (.int .i64 v.n),.vl (.string v.s),.fz (v.l.map aQ),.fz (v.f.map bD)],iA .i64 e]) []) :
 t7 [.va (.gs [.vl (.int .i64 yS.ver),.fz (yS.es.map a6),.fz (yS.ss.map aI)]),tS yN,tS (mk b)] [] K:=LO MH hb (by rw [h]; exact hK)
theorem P3:Meets Tryz.prog 11 qTrue.sp:=by
 refine aD (Γ:=yE) Tryz.func11 aOE 0 (by rw [Tryz.ntmps11]; decide) (aC I8 (aC IL (aC IB (aH HZ (aB _))))) MI ?_
 rintro av H K ⟨⟨h,rfl⟩,hK⟩
 obtain rfl:av=[]:=h
 have hK:K (bS true) []:=hK
 have fin:∀ R:Hp,W.Fin 0 K (bS true) R:=fun R=>.sel [] (by simp) (by simp) rfl (.done (by simpa [go_sem] using hK))
 clear hK
 simp (maxSteps:=1000000) -dsimp only [go_sem,aBW,YN,aGJ]
 refine ⟨rfl,rfl,?_⟩
 simp (maxSteps:=1000000) -dsimp only [go_sem,aJ]
 refine aA rfl (.opn 1 _ _ _ rfl (.nfr 1 _ _ _ rfl (.shu 1 _ _ _ rfl ?_ (.pub 1 _ _ _ rfl (.done ?_)))))
 · simp [C.nf,C.shut]
 have g0:(0:Int)=0:=rfl
 simp (maxSteps:=1000000) -dsimp only [go_sem,cG,C.nf,C.pub,FD,aH8]
 refine aOI ?_
 simp (maxSteps:=1000000) -dsimp only [go_sem]
 refine aA rfl (.done ?_)
 simp (maxSteps:=1000000) -dsimp only [go_sem,FQ,RM]
 refine aDD ye2 (by decide) ?_
 simp (maxSteps:=1000000) -dsimp only [go_sem]
 refine aA rfl (.done ?_)
 simp (maxSteps:=1000000) -dsimp only [go_sem,ER,RM]
 refine aDD ye3 (by decide) ?_
 simp (maxSteps:=1000000) -dsimp only [go_sem]
 refine aA rfl (.done ?_)
 have k1:=dE QZ
 have k2:=gH yV
 have kx1:oL [.vl (.int .i64 6),.vl (.int .i64 0),.vl (.string (mk [])),.fz [],.fz [[.vl (.int .i64 1),.vl (.int .i64 2),.vl (.int .i64 (-2)),.vl (.string (mk [])),.fz [],.fz []],[.vl (.int .i64 2),.vl (.int .i64 1),.vl (.int .i64 1),.vl (.string (mk [])),.fz [],.fz []]]]:=k1
 have kx2:C.vv [.vl (.int .i64 6),.vl (.int .i64 0),.vl (.string (mk [])),.fz [],.fz [[.vl (.int .i64 1),.vl (.int .i64 2),.vl (.int .i64 (-2)),.vl (.string (mk [])),.fz [],.fz []],[.vl (.int .i64 2),.vl (.int .i64 1),.vl (.int .i64 1),.vl (.string (mk [])),.fz [],.fz []]]]=yV:=k2
 have g0:(([1,1,3,2,1,1]:List UInt8) == [1,1,3,2,1,1])=true:=by decide
 have g1:((0:Int) == 0)=true:=rfl
 have g2:((2:Int) == 2)=true:=rfl
 have g3:=DC yV
 simp (maxSteps:=1000000) -dsimp only [go_sem,E8,aGH,k1,k2,kx1,kx2,g0,g1,g2,g3,Bool.true_and]
 exact fin _
def rP:PC:=.seq (.seq (.gh (.reg [.v 25 9,.q 26 (.bin .neq true (.t 25) (.i 0))])) (.cond (.t 26) (.seq (.reg [.v 27 9,.q 2 (.mv (.k (.slice none 0 0))),.v 3 27]) .ret) .skip)) (.seq (.reg [.v 28 4,.l 29 (.ldn 2 (.t 7)),.e 30 (.bsl 59 2 [(.t 29)]),.e 31 (.ap 59 2 24 (.t 28) (.t 30)),.v 4 31]) (.seq (.reg [.v 32 8,.v 6 32]) (.reg [.q 33 (.fa 0 (.t 7)),.l 34 (.ld1 (.t 33)),.v 5 34])))
@[go_sem ↓] theorem aKJ:aL rP:=aM _
def tR:PC:=.seq (.gh (.reg [.v 35 4,.v 2 35,.q 3 (.mv (.i 0))])) .ret
@[go_sem ↓] theorem aGV:aL tR:=aM _
def JI:PC:=.seq (.reg [.q 2 (.mv (.k (.slice none 0 0))),.q 3 (.mv (.i 0))]) (.seq (.seq (.reg [.v 10 0,.q 11 (.lnS (.t 10)),.q 12 (.bin .gtr true (.t 11) (.i 2000))]) (.cond (.t 12) (.seq (.reg [.q 2 (.mv (.k (.slice none 0 0))),.q 3 (.mv (.i 3))]) .ret) .skip)) (.seq (.reg [.q 4 (.mv (.k (.slice none 0 0)))]) (.seq (.reg [.q 5 (.mv (.i 0))]) (.seq (.seq (.reg [.q 6 (.mv (.i 0))]) (.block 0 (.loop (.seq (.seq (.reg [.v 13 6,.v 14 0,.q 15 (.lnS (.t 14)),.q 16 (.bin .lss true (.t 13) (.t 15))]) (.cond (.t 16) .skip (.exit 0))) (.block 1 (.seq (.reg [.v 18 0,.v 19 6,.v 20 5,.a 21 (.cl 35 [(.t 18),(.t 19),(.t 20)] []),.v 17 21,.q 22 (.ex (.t 17) 0),.q 23 (.ex (.t 17) 1),.q 24 (.ex (.t 17) 2),.e 7 (.al (.agg #[(.int .i64 0),(.string (mk []))]) 59),.s (.st 2 (.t 7) (.t 22)),.v 8 23,.v 9 24]) (rP))))))) (tR)))))
def KE:List RV:=[.mv (.t 2),.mv (.t 3)]
theorem aF7:aP Tryz.prog true ⟨fun _ _=>.own [],fun r=>[8,13].contains r⟩ Tryz.f19=some (JI,KE):=by kernel_rfl
def T3:PC:=.seq (.reg [.q 2 (.mv (.k (.string (mk []))))]) (.seq (.reg [.q 3 (.mv (.k (.string (mk []))))]) (.seq (.seq (.reg [.q 4 (.mv (.i 0))]) (.block 0 (.loop (.seq (.seq (.reg [.v 5 4,.v 6 0,.q 7 (.lnL (.t 6)),.q 8 (.bin .lss true (.t 5) (.t 7))]) (.cond (.t 8) .skip (.exit 0))) (.seq (.block 1 (.reg [.v 11 3,.v 12 0,.v 13 4,.l 14 (.ia 2 (.t 12) (.t 13)),.q 15 (.fa 0 (.t 14)),.l 16 (.ld1 (.t 15)),.q 17 (.cvt .u64 (.t 16)),.a 18 (.cq 36 [(.t 17)]),.q 19 (.bin .add true (.t 11) (.t 18)),.v 20 0,.v 21 4,.l 22 (.ia 2 (.t 20) (.t 21)),.q 23 (.fa 1 (.t 22)),.l 24 (.ld1 (.t 23)),.a 25 (.cq 37 [(.t 24)]),.q 26 (.bin .add true (.t 19) (.t 25)),.v 3 26])) (.reg [.v 9 4,.q 10 (.bin .add true (.t 9) (.i 1)),.v 4 10])))))) (.seq (.reg [.v 27 3,.v 2 27]) .ret)))
def TL:List RV:=[.mv (.t 2)]
theorem aHR:aP Tryz.prog true ⟨fun r k=>if r=5/\k=7 then .q else if r=5/\k=14 then .q else .own [],fun _=>false⟩ Tryz.f20=some (T3,TL):=by kernel_rfl
def uG:PC:=.seq (.gh (.ord  [.q (.v 46 10),.q (.v 47 0),.q (.q 48 (.fa 1 (.t 9))),.q (.l 49 (.ld1 (.t 48))),.q (.q 50 (.fa 1 (.t 9))),.q (.l 51 (.ld1 (.t 50))),.q (.v 52 11),.q (.q 53 (.cvt .i64 (.t 52))),.q (.q 54 (.bin .add true (.t 51) (.t 53))),.q (.q 55 (.ss (.t 47) (some (.t 49)) (some (.t 54)))),.q (.q 56 (.bd [(.int .i64 0),(.string (mk []))] [(0,1,(.t 46)),(1,1,(.t 55))])),.q (.q 57 (.fa 1 (.t 9))),.q (.l 58 (.ld1 (.t 57))),.q (.v 59 11),.q (.q 60 (.cvt .i64 (.t 59))),.q (.q 61 (.bin .add true (.t 58) (.t 60))),.m (.s (.st 2 (.t 6) (.t 56))),.rc (.q 57 (.fa 1 (.t 9))),.rc (.l 58 (.ld1 (.t 57))),.rc (.v 59 11),.rc (.q 60 (.cvt .i64 (.t 59))),.rc (.q 61 (.bin .add true (.t 58) (.t 60))),.m (.v 7 61),.m (.q 8 (.mv (.i 0)))])) .ret
@[go_sem ↓] theorem aIF:aL uG:=aM _
def r8:PC:=.seq (.seq (.gh (.reg [.v 40 11,.l 41 (.ldn 3 (.t 9)),.a 42 (.cq 66 [(.t 41)]),.q 43 (.cvt .u64 (.t 42)),.q 44 (.bin .gtr true (.t 40) (.t 43))])) (.cond (.t 44) (.seq (.reg [.q 45 (.bd [(.int .i64 0),(.string (mk []))] []),.s (.st 2 (.t 6) (.t 45)),.q 7 (.mv (.i 0)),.q 8 (.mv (.i 1))]) .ret) .skip)) (uG)
@[go_sem ↓] theorem aJ4:aL r8:=aM _
def sA:PC:=.seq (.seq (.gh (.reg [.q 34 (.fa 2 (.t 9)),.l 35 (.ld1 (.t 34)),.q 36 (.bin .neq true (.t 35) (.i 0))])) (.cond (.t 36) (.seq (.ord  [.q (.q 37 (.bd [(.int .i64 0),(.string (mk []))] [])),.q (.q 38 (.fa 2 (.t 9))),.q (.l 39 (.ld1 (.t 38))),.m (.s (.st 2 (.t 6) (.t 37))),.rc (.q 38 (.fa 2 (.t 9))),.rc (.l 39 (.ld1 (.t 38))),.m (.q 7 (.mv (.i 0))),.rc (.q 38 (.fa 2 (.t 9))),.rc (.l 39 (.ld1 (.t 38))),.m (.v 8 39)]) .ret) .skip)) (r8)
@[go_sem ↓] theorem aKO:aL sA:=aM _
def rB:PC:=.seq (.seq (.gh (.reg [.v 25 10,.v 26 2,.q 27 (.bin .leq true (.t 25) (.t 26))])) (.cond (.t 27) (.seq (.reg [.q 28 (.bd [(.int .i64 0),(.string (mk []))] []),.s (.st 2 (.t 6) (.t 28)),.q 7 (.mv (.i 0)),.q 8 (.mv (.i 2))]) .ret) .skip)) (.seq (.reg [.l 30 (.ldn 3 (.t 9)),.a 31 (.cl 65 [(.t 30)] []),.v 29 31,.q 32 (.ex (.t 29) 0),.q 33 (.ex (.t 29) 1),.s (.st 3 (.t 9) (.t 32)),.v 11 33]) (sA))
@[go_sem ↓] theorem aJC:aL rB:=aM _
def m4:PC:=.seq (.seq (.gh (.reg [.q 19 (.fa 2 (.t 9)),.l 20 (.ld1 (.t 19)),.q 21 (.bin .neq true (.t 20) (.i 0))])) (.cond (.t 21) (.seq (.ord  [.q (.q 22 (.bd [(.int .i64 0),(.string (mk []))] [])),.q (.q 23 (.fa 2 (.t 9))),.q (.l 24 (.ld1 (.t 23))),.m (.s (.st 2 (.t 6) (.t 22))),.rc (.q 23 (.fa 2 (.t 9))),.rc (.l 24 (.ld1 (.t 23))),.m (.q 7 (.mv (.i 0))),.rc (.q 23 (.fa 2 (.t 9))),.rc (.l 24 (.ld1 (.t 23))),.m (.v 8 24)]) .ret) .skip)) (rB)
@[go_sem ↓] theorem aKB:aL m4:=aM _
def RZ:PC:=.seq (.reg [.e 6 (.al (.agg #[(.int .i64 0),(.string (mk []))]) 59),.q 7 (.mv (.i 0)),.q 8 (.mv (.i 0))]) (.seq (.reg [.v 13 0,.v 14 1,.q 15 (.bd [(.string (mk [])),(.int .i64 0),(.int .i64 0)] [(0,1,(.t 13)),(1,1,(.t 14))]),.a 16 (.cl 64 [(.t 15),(.i 2147483647)] []),.v 12 16,.q 17 (.ex (.t 12) 0),.q 18 (.ex (.t 12) 1),.e 9 (.al (.agg #[(.string (mk [])),(.int .i64 0),(.int .i64 0)]) 108),.s (.st 3 (.t 9) (.t 17)),.v 10 18]) (m4))
def UT:List RV:=[.ld (.ldn 2 (.t 6)),.mv (.t 7),.mv (.t 8)]
theorem aHT:aP Tryz.prog true ⟨fun r k=>if r=9/\k=2 then .q else .own [],fun r=>[2,4,7,9,11].contains r⟩ Tryz.f35=some (RZ,UT):=by kernel_rfl
def yI:PC:=.seq (.gh (.reg [.l 27 (.ldn 3 (.t 6)),.v 28 7,.q 29 (.cvt .i64 (.t 28)),.s (.st 3 (.t 4) (.t 27)),.v 5 29])) .ret
@[go_sem ↓] theorem aIL:aL yI:=aM _
def sK:PC:=.seq (.seq (.gh (.reg [.v 17 1,.q 18 (.bin .lss true (.t 17) (.i 0)),.v 19 18,⟨some 20,(some (19,false)),.q (.mv (.t 7))⟩,⟨some 21,(some (19,false)),.q (.mv (.t 1))⟩,⟨some 22,(some (19,false)),.q (.cvt .u64 (.t 21))⟩,⟨some 23,(some (19,false)),.q (.bin .gtr true (.t 20) (.t 22))⟩,.a 24 (.pick (.t 19) (.k (.bool true)) (.t 23))])) (.cond (.t 24) (.seq (.reg [.l 25 (.ldn 3 (.t 2)),.a 26 (.cl 106 [(.t 25),(.i 4)] []),.s (.st 3 (.t 4) (.t 26)),.q 5 (.mv (.i 0))]) .ret) .skip)) (yI)
@[go_sem ↓] theorem aJW:aL sK:=aM _
def qX:PC:=.seq (.seq (.gh (.reg [.q 13 (.fa 2 (.t 6)),.l 14 (.ld1 (.t 13)),.q 15 (.bin .neq true (.t 14) (.i 0))])) (.cond (.t 15) (.seq (.reg [.l 16 (.ldn 3 (.t 6)),.s (.st 3 (.t 4) (.t 16)),.q 5 (.mv (.i 0))]) .ret) .skip)) (sK)
@[go_sem ↓] theorem aKN:aL qX:=aM _
def VO:PC:=.seq (.reg [.e 2 (.bx 108 (.t 0)),.e 4 (.al (.agg #[(.string (mk [])),(.int .i64 0),(.int .i64 0)]) 108),.q 5 (.mv (.i 0))]) (.seq (.reg [.l 9 (.ldn 3 (.t 2)),.a 10 (.cl 65 [(.t 9)] []),.v 8 10,.q 11 (.ex (.t 8) 0),.q 12 (.ex (.t 8) 1),.e 6 (.al (.agg #[(.string (mk [])),(.int .i64 0),(.int .i64 0)]) 108),.s (.st 3 (.t 6) (.t 11)),.v 7 12]) (qX))
def R8:List RV:=[.ld (.ldn 3 (.t 4)),.mv (.t 5)]
theorem aGU:aP Tryz.prog true ⟨fun _ _=>.own [],fun r=>[2,4,6].contains r⟩ Tryz.f64=some (VO,R8):=by kernel_rfl
def y4:PC:=.seq (.gh (.reg [.v 25 5,.q 26 (.fa 1 (.t 1)),.s (.st 1 (.t 26) (.t 25))])) (.seq (.reg [.l 27 (.ldn 3 (.t 1)),.v 28 4,.s (.st 3 (.t 2) (.t 27)),.v 3 28]) .ret)
@[go_sem ↓] theorem aIX:aL y4:=aM _
def sO:PC:=.seq (.seq (.gh (.reg [.v 20 6,.q 21 (.bin .neq true (.t 20) (.i 0))])) (.cond (.t 21) (.seq (.reg [.l 22 (.ldn 3 (.t 1)),.v 23 6,.a 24 (.cl 106 [(.t 22),(.t 23)] []),.s (.st 3 (.t 2) (.t 24)),.q 3 (.mv (.k (.int .u64 0)))]) .ret) .skip)) (y4)
@[go_sem ↓] theorem aKM:aL sO:=aM _
def UJ:PC:=.seq (.reg [.e 1 (.bx 108 (.t 0)),.e 2 (.al (.agg #[(.string (mk [])),(.int .i64 0),(.int .i64 0)]) 108),.q 3 (.mv (.k (.int .u64 0)))]) (.seq (.seq (.reg [.q 7 (.fa 2 (.t 1)),.l 8 (.ld1 (.t 7)),.q 9 (.bin .neq true (.t 8) (.i 0))]) (.cond (.t 9) (.seq (.reg [.l 10 (.ldn 3 (.t 1)),.s (.st 3 (.t 2) (.t 10)),.q 3 (.mv (.k (.int .u64 0)))]) .ret) .skip)) (.seq (.reg [.q 12 (.fa 0 (.t 1)),.l 13 (.ld1 (.t 12)),.q 14 (.fa 1 (.t 1)),.l 15 (.ld1 (.t 14)),.a 16 (.cl 107 [(.t 13),(.t 15)] []),.v 11 16,.q 17 (.ex (.t 11) 0),.q 18 (.ex (.t 11) 1),.q 19 (.ex (.t 11) 2),.v 4 17,.v 5 18,.v 6 19]) (sO)))
def TX:List RV:=[.ld (.ldn 3 (.t 2)),.mv (.t 3)]
theorem aF2:aP Tryz.prog true ⟨fun _ _=>.own [],fun r=>[4,6].contains r⟩ Tryz.f65=some (UJ,TX):=by kernel_rfl
def RU:PC:=.seq (.reg [.e 1 (.bx 108 (.t 0)),.q 2 (.mv (.i 0))]) (.seq (.reg [.q 3 (.fa 0 (.t 1)),.l 4 (.ld1 (.t 3)),.q 5 (.lnS (.t 4)),.q 6 (.fa 1 (.t 1)),.l 7 (.ld1 (.t 6)),.q 8 (.bin .sub true (.t 5) (.t 7)),.v 2 8]) .ret)
def TM:List RV:=[.mv (.t 2)]
theorem aF0:aP Tryz.prog true ⟨fun _ _=>.own [],fun _=>false⟩ Tryz.f66=some (RU,TM):=by kernel_rfl
def L8:PC:=.seq (.reg [.e 2 (.bx 108 (.t 0)),.e 4 (.al (.agg #[(.string (mk [])),(.int .i64 0),(.int .i64 0)]) 108)]) (.seq (.reg [.v 5 1,.q 6 (.fa 2 (.t 2)),.s (.st 1 (.t 6) (.t 5))]) (.seq (.reg [.l 7 (.ldn 3 (.t 2)),.s (.st 3 (.t 4) (.t 7))]) .ret))
def L3:List RV:=[.ld (.ldn 3 (.t 4))]
theorem ZF:aP Tryz.prog true ⟨fun _ _=>.own [],fun _=>false⟩ Tryz.f106=some (L8,L3):=by kernel_rfl
def LC:PC:=.seq (.reg [.q 4 (.mv (.k (.int .u64 0))),.q 5 (.mv (.i 0)),.q 6 (.mv (.i 0))]) (.seq (.reg [.q 7 (.mv (.k (.int .u64 0)))]) (.seq (.reg [.q 8 (.mv (.k (.int .u64 1)))]) (.seq (.seq (.reg [.q 9 (.mv (.i 0))]) (.block 0 (.loop (.seq (.seq (.reg [.v 11 9,.q 12 (.bin .lss false (.t 11) (.i 10))]) (.cond (.t 12) .skip (.exit 0))) (.seq (.block 1 (.seq (.seq (.reg [.v 15 1,.v 16 9,.q 17 (.bin .add false (.t 15) (.t 16)),.v 18 0,.q 19 (.lnS (.t 18)),.q 20 (.bin .geq false (.t 17) (.t 19))]) (.cond (.t 20) (.seq (.reg [.v 21 1,.q 4 (.mv (.k (.int .u64 0))),.v 5 21,.q 6 (.mv (.i 1))]) .ret) .skip)) (.seq (.reg [.v 22 0,.v 23 1,.v 24 9,.q 25 (.bin .add false (.t 23) (.t 24)),.a 26 (.ix (.t 22) (.t 25)),.v 10 26]) (.seq (.seq (.reg [.v 27 9,.q 28 (.bin .eql false (.t 27) (.i 9)),.v 29 28,⟨some 30,(some (29,true)),.q (.mv (.t 10))⟩,⟨some 31,(some (29,true)),.q (.bin .gtr false (.t 30) (.k (.int .u8 1)))⟩,.a 32 (.pick (.t 29) (.t 31) (.k (.bool false)))]) (.cond (.t 32) (.seq (.reg [.v 33 1,.q 4 (.mv (.k (.int .u64 0))),.v 5 33,.q 6 (.mv (.i 2))]) .ret) .skip)) (.seq (.reg [.v 34 7,.v 35 10,.q 36 (.bin .rem false (.t 35) (.k (.int .u8 128))),.q 37 (.cvt .u64 (.t 36)),.v 38 8,.q 39 (.bin .mul false (.t 37) (.t 38)),.q 40 (.bin .add false (.t 34) (.t 39)),.v 7 40]) (.seq (.reg [.v 41 8,.q 42 (.bin .mul false (.t 41) (.k (.int .u64 128))),.v 8 42]) (.seq (.reg [.v 43 10,.q 44 (.bin .lss false (.t 43) (.k (.int .u8 128)))]) (.cond (.t 44) (.seq (.seq (.reg [.v 45 10,.q 46 (.bin .eql false (.t 45) (.k (.int .u8 0))),.v 47 46,⟨some 48,(some (47,true)),.q (.mv (.t 9))⟩,⟨some 49,(some (47,true)),.q (.bin .gtr false (.t 48) (.i 0))⟩,.a 50 (.pick (.t 47) (.t 49) (.k (.bool false)))]) (.cond (.t 50) (.seq (.reg [.v 51 1,.q 4 (.mv (.k (.int .u64 0))),.v 5 51,.q 6 (.mv (.i 2))]) .ret) .skip)) (.seq (.reg [.v 52 7,.v 53 1,.v 54 9,.q 55 (.bin .add false (.t 53) (.t 54)),.q 56 (.bin .add false (.t 55) (.i 1)),.v 4 52,.v 5 56,.q 6 (.mv (.i 0))]) .ret)) .skip)))))))) (.reg [.v 13 9,.q 14 (.bin .add false (.t 13) (.i 1)),.v 9 14])))))) (.seq (.reg [.v 57 1,.q 4 (.mv (.k (.int .u64 0))),.v 5 57,.q 6 (.mv (.i 2))]) .ret))))
def NN:List RV:=[.mv (.t 4),.mv (.t 5),.mv (.t 6)]
theorem YI:aP Tryz.prog false ⟨fun _ _=>.own [],fun _=>false⟩ Tryz.f107=some (LC,NN):=by kernel_rfl
abbrev f8 (x:List UInt8) (a:Nat) (e:Int):List C:=[.vl (.string (mk x)),.vl (.int .i64 a),.vl (.int .i64 e)]
def SL:W.Spec:=fun av H K=>∃ (x:List UInt8) (a:Nat) (e e':Int),av=[.va (.gs (f8 x a e)),iS .i64 e']/\H=[]/\K (.va (.gs (f8 x a e'))) []
theorem GL {x:List UInt8} {a:Nat} {e e':Int} {K:S->Hp->Prop} (hK:K (.va (.gs (f8 x a e'))) []):SL [.va (.gs (f8 x a e)),iS .i64 e'] [] K:=⟨x,a,e,e',rfl,rfl,hK⟩
theorem DV:Meets Tryz.prog 106 SL:=by
 refine aD Tryz.func106 ZF 2 (by rw [Tryz.ntmps106]; decide) (aB _) (fun av H K h=>by obtain ⟨_,_,_,_,rfl,_⟩:=h; rfl) ?_
 rintro av H K ⟨x,a,e,e',rfl,rfl,hK⟩
 simp (maxSteps:=1000000) -dsimp only [go_sem,L8,L3]
 refine .sel [] (by simp) (by simp) rfl (.done ?_)
 simpa [go_sem] using hK
def US:W.Spec:=fun av H K=>∃ (x:List UInt8) (a:Nat),av=[tS (mk x),iS .i64 a]/\H=[]/\a<=x.length/\x.length<=1000000/\K (.tu [uA (vr (x.drop a)).1,iA .i64 ((a + (vr (x.drop a)).2.1:Nat):Int),iA .i64 (vr (x.drop a)).2.2]) []
theorem XB {x:List UInt8} {a:Nat} {K:S->Hp->Prop} (h:a<=x.length) (hx:x.length<=1000000) (hK:K (.tu [uA (vr (x.drop a)).1,iA .i64 ((a + (vr (x.drop a)).2.1:Nat):Int),iA .i64 (vr (x.drop a)).2.2]) []):US [tS (mk x),iS .i64 a] [] K:=⟨x,a,rfl,rfl,h,hx,hK⟩
theorem CP {n:Nat} (h:n < 9223372036854775808):IntKind.i64.wrap (n:Int)=n:=qN ⟨by omega,by omega⟩
theorem OL:Meets Tryz.prog 107 US:=by
 refine aD Tryz.func107 YI 2 (by rw [Tryz.ntmps107]; decide) (aB _) (fun av H K h=>by obtain ⟨_,_,rfl,_⟩:=h; rfl) ?_
 rintro av H K ⟨l,a,rfl,rfl,hal,hx,hK⟩
 have fin:∀ (n k:Nat) (e:Int),vr (l.drop a)=(n,k,e)->W.Fin 0 K (.tu [uA n,iA .i64 ((a + k:Nat):Int),iA .i64 e]) []:=fun n k e h=>by
  rw [h] at hK; exact .done hK
 clear hK
 simp (maxSteps:=1000000) -dsimp only [go_sem,LC,NN]
 refine aU (α:=Nat × Nat) (fun z=>[(0,tS (mk l)),(1,iS .i64 a),(7,iS .u64 z.2),(8,iS .u64 ((128 ^ z.1:Nat):Int)),(9,iS .i64 z.1)]) (fun _=>[])
  (fun z=>z.1<=9/\z.2 < 128 ^ z.1/\a + z.1<=l.length/\nA z.1 z.2 (l.drop (a + z.1))=vr (l.drop a)) (fun z=>10 - z.1) (0,0) 0 ⟨by decide,by decide,hal,rfl⟩ ?_ ?_ ?_
 · simp -dsimp only [go_sem]<;>simp
 · simp [go_sem]
 rintro ⟨i,n⟩ ⟨hi,hn,hil,ho⟩
 simp only at hi hn hil ho ⊢
 have hg:decide ((i:Int) < 10)=true:=by simp; omega
 have ha:IntKind.i64.wrap ((a:Int) + (i:Int))=((a + i:Nat):Int):=by rw [<-Int.natCast_add]; exact CP (by omega)
 rcases a8 (a + i) l.length with hlt | hge
 · have hg2:decide ((l.length:Int)<=((a + i:Nat):Int))=false:=by simp; omega
   obtain ⟨c,hc⟩:∃ c,l[a + i]? = some c:=⟨_,aV hlt⟩
   have hd:l.drop (a + i)=c :: l.drop (a + i + 1):=by
    obtain ⟨h,rfl⟩:=bB.1 hc
    exact List.drop_eq_getElem_cons h
   rw [hd,lP] at ho
   have e9:((i:Int) == 9)=(i == 9):=by rw [Bool.eq_iff_iff]; simp; omega
   have e1:decide ((1:Int) < (c.toNat:Int))=decide (1 < c.toNat):=by rw [Bool.eq_iff_iff]; simp; omega
   have e128:decide ((c.toNat:Int) < 128)=!decide (128<=c.toNat):=by rw [Bool.eq_iff_iff]; simp; omega
   have e0:((c.toNat:Int) == 0)=(c.toNat == 0):=by rw [Bool.eq_iff_iff]; simp
   have ei:decide ((0:Int) < (i:Int))=decide (0 < i):=by rw [Bool.eq_iff_iff]; simp
   have hc256:=c.toNat_lt
   cases c1:i == 9 && decide (1 < c.toNat) with
   | true=>
    rw [c1,cond_true] at ho
    simp (maxSteps:=1000000) -dsimp only [go_sem,hg,ha,hg2,hc,aF,forall_eq',e9,e1,e128,e0,ei,c1]
    exact ⟨⟨by omega,by omega⟩,fin 0 0 2 ho.symm⟩
   | false=>
    rw [c1,cond_false] at ho
    have key:n + c.toNat % 128 * 128 ^ i < 18446744073709551616:=by
     rcases a8 i 9 with h9 | h9
     · have h1:128 ^ (i + 1)<=128 ^ 9:=Nat.pow_le_pow_right (by decide) (by omega)
       have h2:c.toNat % 128 * 128 ^ i<=127 * 128 ^ i:=Nat.mul_le_mul_right _ (by omega)
       have h3:(128:Nat) ^ 9=9223372036854775808:=by decide
       have h4:128 ^ (i + 1)=128 * 128 ^ i:=by rw [Nat.pow_succ,Nat.mul_comm]
       omega
     · obtain rfl:i=9:=by omega
       rw [show ((9:Nat) == 9)=true from rfl,Bool.true_and] at c1
       have h1:=of_decide_eq_false c1
       have h3:(128:Nat) ^ 9=9223372036854775808:=by decide
       rw [h3] at hn ⊢
       have:c.toNat % 128<=1:=by omega
       have h2:c.toNat % 128 * 9223372036854775808<=1 * 9223372036854775808:=Nat.mul_le_mul_right _ this
       omega
    have c1':i=9->c.toNat<=1:=fun e=>by
     subst e
     rw [show ((9:Nat) == 9)=true from rfl,Bool.true_and] at c1
     have:=of_decide_eq_false c1; omega
    simp (maxSteps:=1000000) -dsimp only [go_sem,hg,ha,hg2,hc,aF,forall_eq',e9,e1,e128,e0,ei,c1]
    have hp:128 ^ (i + 1)=128 * 128 ^ i:=by rw [Nat.pow_succ,Nat.mul_comm]
    have hle:c.toNat % 128 * 128 ^ i<=n + c.toNat % 128 * 128 ^ i:=Nat.le_add_left _ _
    have ht:(c.toNat:Int).tmod 128=((c.toNat % 128:Nat):Int):=rfl
    have hw:IntKind.u64.wrap ((n:Int) + IntKind.u64.wrap (IntKind.u64.wrap ((c.toNat:Int).tmod 128) * ((128 ^ i:Nat):Int)))=((n + c.toNat % 128 * 128 ^ i:Nat):Int):=by
     rw [ht,iJ (n:=c.toNat % 128) (by omega),<-Int.natCast_mul,iJ (n:=c.toNat % 128 * 128 ^ i) (by omega),<-Int.natCast_add,iJ key]
    have ha1:IntKind.i64.wrap (((a + i:Nat):Int) + 1)=((a + (i + 1):Nat):Int):=by
     rw [show ((a + i:Nat):Int) + 1=((a + (i + 1):Nat):Int) by omega]; exact CP (by omega)
    rw [hw,ha1]
    refine ⟨⟨by omega,by omega⟩,by decide,fun h1=>⟨fun h2=>?_,fun h2=>?_⟩,fun h1=>?_⟩
    · rw [h1,cond_false,h2,cond_true] at ho
      exact fin 0 0 2 ho.symm
    · rw [h1,cond_false,h2,cond_false] at ho
      exact fin _ _ 0 ho.symm
    · have h1:decide (128<=c.toNat)=true:=by simpa using h1
      rw [h1,cond_true] at ho
      have h128:=of_decide_eq_true h1
      have hi9:i ≠ 9:=fun e=>by have:=c1' e; omega
      have hm:c.toNat % 128 * 128 ^ i<=127 * 128 ^ i:=Nat.mul_le_mul_right _ (by omega)
      have hsc:IntKind.u64.wrap (((128 ^ i:Nat):Int) * 128)=((128 ^ (i + 1):Nat):Int):=by
       have h3:128 ^ (i + 1)<=128 ^ 9:=Nat.pow_le_pow_right (by decide) (by omega)
       have h4:(128:Nat) ^ 9=9223372036854775808:=by decide
       rw [show ((128 ^ i:Nat):Int) * 128=((128 ^ (i + 1):Nat):Int) by rw [hp]; omega]
       exact iJ (by omega)
      have hi1:IntKind.i64.wrap ((i:Int) + 1)=(i:Int) + 1:=qN ⟨by omega,by omega⟩
      refine aE (i + 1,n + c.toNat % 128 * 128 ^ i) 0 ⟨by simp only; omega,by simp only; rw [hp]; omega,by simp only; omega,ho⟩ (by simp only; omega) ?_ ?_
      · simp -dsimp only [go_sem,hw,hsc,hi1]<;>simp
      · simp [go_sem]
 · have hg2:decide ((l.length:Int)<=((a + i:Nat):Int))=true:=by simp; omega
   have hd:l.drop (a + i)=[]:=List.drop_eq_nil_iff.2 hge
   rw [hd,yB] at ho
   simp (maxSteps:=1000000) -dsimp only [go_sem,hg,ha,hg2]
   exact fin 0 0 1 ho.symm
def UZ:W.Spec:=fun av H K=>∃ (x:List UInt8) (a:Nat),av=[.va (.gs (f8 x a 0))]/\H=[]/\a<=x.length/\x.length<=1000000/\K (.tu [.gs (f8 x (a + (vr (x.drop a)).2.1) (vr (x.drop a)).2.2),uA (vr (x.drop a)).1]) []
theorem G0 {x:List UInt8} {a:Nat} {K:S->Hp->Prop} (h:a<=x.length) (hx:x.length<=1000000) (hK:K (.tu [.gs (f8 x (a + (vr (x.drop a)).2.1) (vr (x.drop a)).2.2),uA (vr (x.drop a)).1]) []):UZ [.va (.gs (f8 x a 0))] [] K:=⟨x,a,rfl,rfl,h,hx,hK⟩
theorem u4:Meets Tryz.prog 65 UZ:=by
 refine aD Tryz.func65 aF2 1 (by rw [Tryz.ntmps65]; decide) (aC OL (aC DV (aB _))) (fun av H K h=>by obtain ⟨_,_,rfl,_⟩:=h; rfl) ?_
 rintro av H K ⟨x,a,rfl,rfl,ha,hx,hK⟩
 have fin:∀ (n k:Nat) (e:Int) (R:Hp),vr (x.drop a)=(n,k,e)->W.Fin 0 K (.tu [.gs (f8 x (a + k) e),uA n]) R:=fun n k e R h=>by
  rw [h] at hK; exact .sel [] (by simp) (by simp) rfl (.done (by simpa [go_sem,f8] using hK))
 clear hK
 have hlt:=gO (x.drop a)
 have e00:((0:Int) != 0)=false:=rfl
 simp (maxSteps:=1000000) -dsimp only [go_sem,UJ,TX,e00]
 refine XB ha hx ?_
 simp (maxSteps:=1000000) -dsimp only [go_sem]
 refine aA rfl (.done ?_)
 generalize vr (x.drop a)=z at *
 obtain ⟨n,k,e⟩:=z
 simp only at fin hlt ⊢
 cases c1:e != 0 with
 | true=>
  simp (maxSteps:=1000000) -dsimp only [go_sem,sO,c1]
  refine GL ?_
  simp (maxSteps:=1000000) -dsimp only [go_sem]
  rcases hlt with ⟨_,rfl,rfl,_⟩ | ⟨h,_⟩
  · exact fin _ _ _ _ rfl
  · exact absurd h (nG c1)
 | false=>
  obtain rfl:=fT c1
  simp (maxSteps:=1000000) -dsimp only [go_sem,sO,c1]
  refine aA rfl (.done ?_)
  simp (maxSteps:=1000000) -dsimp only [go_sem,y4]
  exact fin _ _ _ _ rfl
def sW (x:List UInt8) (a:Nat):Nat × Nat × Int:=bif (vr (x.drop a)).2.2 != 0 then (0,a,(vr (x.drop a)).2.2) else bif decide (2147483647 < (vr (x.drop a)).1) then (0,a,4) else ((vr (x.drop a)).1,a + (vr (x.drop a)).2.1,0)
def SH:W.Spec:=fun av H K=>∃ (x:List UInt8) (a:Nat),av=[.va (.gs (f8 x a 0)),iS .i64 2147483647]/\H=[]/\a<=x.length/\x.length<=1000000/\K (.tu [.gs (f8 x (sW x a).2.1 (sW x a).2.2),iA .i64 ((sW x a).1:Nat)]) []
theorem W8 {x:List UInt8} {a:Nat} {K:S->Hp->Prop} (h:a<=x.length) (hx:x.length<=1000000) (hK:K (.tu [.gs (f8 x (sW x a).2.1 (sW x a).2.2),iA .i64 ((sW x a).1:Nat)]) []):SH [.va (.gs (f8 x a 0)),iS .i64 2147483647] [] K:=⟨x,a,rfl,rfl,h,hx,hK⟩
theorem GB:Meets Tryz.prog 64 SH:=by
 refine aD Tryz.func64 aGU 2 (by rw [Tryz.ntmps64]; decide) (aC u4 (aC DV (aB _))) (fun av H K h=>by obtain ⟨_,_,rfl,_⟩:=h; rfl) ?_
 rintro av H K ⟨x,a,rfl,rfl,ha,hx,hK⟩
 have fin:∀ (n k:Nat) (e:Int) (R:Hp),sW x a=(n,k,e)->W.Fin 0 K (.tu [.gs (f8 x k e),iA .i64 (n:Nat)]) R:=fun n k e R h=>by
  rw [h] at hK; exact .sel [] (by simp) (by simp) rfl (.done (by simpa [go_sem,f8] using hK))
 clear hK
 unfold sW at fin
 have hlt:=gO (x.drop a)
 simp (maxSteps:=1000000) -dsimp only [go_sem,VO,R8]
 refine G0 ha hx ?_
 simp (maxSteps:=1000000) -dsimp only [go_sem]
 refine aA rfl (.done ?_)
 generalize vr (x.drop a)=z at *
 obtain ⟨n,k,e⟩:=z
 simp only at fin hlt ⊢
 cases c1:e != 0 with
 | true=>
  rw [c1,cond_true] at fin
  simp (maxSteps:=1000000) -dsimp only [go_sem,qX,c1]
  rcases hlt with ⟨_,rfl,rfl,_⟩ | ⟨h,_⟩
  · exact fin _ _ _ _ rfl
  · exact absurd h (nG c1)
 | false=>
  obtain rfl:=fT c1
  rw [c1,cond_false] at fin
  simp (maxSteps:=1000000) -dsimp only [go_sem,qX,c1]
  refine aA rfl (.done ?_)
  have e1:decide ((2147483647:Int) < 0)=false:=by decide
  have e2:IntKind.u64.wrap 2147483647=2147483647:=by decide
  have e3:decide ((2147483647:Int) < (n:Int))=decide (2147483647 < n):=by rw [Bool.eq_iff_iff]; simp; omega
  cases c2:decide (2147483647 < n) with
  | true=>
   rw [c2,cond_true] at fin
   simp (maxSteps:=1000000) -dsimp only [go_sem,sK,e1,e2,e3,c2]
   refine GL ?_
   simp (maxSteps:=1000000) -dsimp only [go_sem]
   exact fin _ _ _ _ rfl
  | false=>
   rw [c2,cond_false] at fin
   have c2':=of_decide_eq_false c2
   simp (maxSteps:=1000000) -dsimp only [go_sem,sK,e1,e2,e3,c2]
   refine aA rfl (.done ?_)
   have hw:IntKind.i64.wrap (n:Int)=(n:Int):=CP (by omega)
   simp (maxSteps:=1000000) -dsimp only [go_sem,yI,hw]
   exact fin _ _ _ _ rfl
def B8 (r:List C):Prop:=∃ (x:List UInt8) (a:Nat) (e:Int),r=f8 x a e/\a<=x.length/\x.length<=1000000
def C.lf4:List C->Int:=fun r=>match r with
 | [.vl (.string s),.vl (.int _ a),_]=>(s.size:Int) - a
 | _=>0
@[go_sem] theorem YE (x:List UInt8) (a:Nat) (e:Int):C.lf4 (f8 x a e)=(x.length:Int) - (a:Int):=by
 show ((mk x).size:Int) - (a:Int)=_
 rw [cJ,kI]
theorem N8 {x:List UInt8} {a:Nat} {e:Int} (h:a<=x.length) (hx:x.length<=1000000):B8 (f8 x a e):=⟨x,a,e,rfl,h,hx⟩
theorem aDK:Meets Tryz.prog 66 (uW B8 C.lf4 fun n=>.int .i64 n).sp:=by
 refine aD Tryz.func66 aF0 1 (by rw [Tryz.ntmps66]; decide) (aB _) q9 ?_
 rintro av H K ⟨⟨h,rfl⟩,hK⟩
 obtain ⟨r,rfl,x,a,e,rfl,ha,hx⟩:=hO h
 have hK:K (iS .i64 ((x.length:Int) - (a:Int))) []:=by
  have:(uW B8 C.lf4 fun n=>.int .i64 n).val [.va (.gs (f8 x a e))]=iA .i64 ((x.length:Int) - (a:Int)):=by
   show A.c1 (.vl (.int .i64 (C.lf4 (f8 x a e))))=_
   rw [YE]
  rw [this] at hK; exact hK
 clear h
 simp (maxSteps:=1000000) -dsimp only [go_sem,RU,TM]
 refine ⟨by omega,.sel [] (by simp) (by simp) rfl (.done ?_)⟩
 simpa [go_sem] using hK
def nx2 (b:List UInt8) (n a:Nat) (z:Nat × Nat × Int):(Int × List UInt8) × Nat × Int:=bif z.2.2 != 0 then ((0,[]),0,z.2.2) else bif decide (b.length - (a + z.2.1) < z.1) then ((0,[]),0,1) else (((n:Int),(b.drop (a + z.2.1)).take z.1),a + z.2.1 + z.1,0)
def nx1 (b:List UInt8) (a:Nat) (last:Int) (z:Nat × Nat × Int):(Int × List UInt8) × Nat × Int:=bif z.2.2 != 0 then ((0,[]),0,z.2.2) else bif decide (2147483647 < z.1) then ((0,[]),0,4) else bif decide ((z.1:Int)<=last) then ((0,[]),0,2) else nx2 b z.1 (a + z.2.1) (vr (b.drop (a + z.2.1)))
def pB (b:List UInt8) (a:Nat) (last:Int):(Int × List UInt8) × Nat × Int:=nx1 b a last (vr (b.drop a))
theorem aGL {b:List UInt8} {a:Nat} {last:Int} (ha:a<=b.length):pB b a last=bif (aT (b.drop a) last).2.2 != 0 then ((0,[]),0,(aT (b.drop a) last).2.2) else ((aT (b.drop a) last).1,b.length - (aT (b.drop a) last).2.1.length,0):=by
 have h1:=gO (b.drop a)
 unfold pB nx1 aT aZ
 generalize hz:vr (b.drop a)=z at *
 obtain ⟨n,k,e⟩:=z
 simp only at h1 ⊢
 cases c1:e != 0 with
 | true=>simp only [cond_true,c1]
 | false=>
 obtain rfl:=fT c1
 have hk:k<=(b.drop a).length:=by
  rcases h1 with ⟨h,_⟩ | ⟨_,_,_,h,_⟩
  · exact absurd rfl h
  · exact h
 rw [List.length_drop] at hk
 simp only [cond_false,show ((0:Int) != 0)=false from rfl]
 cases decide (2147483647 < n) with
 | true=>rfl
 | false=>
 simp only [cond_false]
 cases decide ((n:Int)<=last) with
 | true=>rfl
 | false=>
 simp only [cond_false]
 unfold nx2 bG aZ
 rw [List.drop_drop]
 have h2:=gO (b.drop (a + k))
 generalize hz2:vr (b.drop (a + k))=z2 at *
 obtain ⟨n2,k2,e2⟩:=z2
 simp only at h2 ⊢
 cases c2:e2 != 0 with
 | true=>simp only [cond_true,c2]
 | false=>
 obtain rfl:=fT c2
 have hk2:k2<=(b.drop (a + k)).length:=by
  rcases h2 with ⟨h,_⟩ | ⟨_,_,_,h,_⟩
  · exact absurd rfl h
  · exact h
 rw [List.length_drop] at hk2
 simp only [cond_false,show ((0:Int) != 0)=false from rfl,List.drop_drop,List.length_drop]
 cases c3:decide (b.length - (a + k + k2) < n2) with
 | true=>rfl
 | false=>
  have:=of_decide_eq_false c3
  simp only [cond_false,show ((0:Int) != 0)=false from rfl,List.length_drop]
  rw [show b.length - (b.length - (a + k + k2 + n2))=a + k + k2 + n2 by omega]
def aED:W.Spec:=fun av H K=>∃ (b:List UInt8) (a:Nat) (last:Int),av=[tS (mk b),iS .i64 a,iS .i64 last]/\H=[]/\a<=b.length/\b.length<=1000000/\K (.tu [.gs (cD (pB b a last).1),iA .i64 ((pB b a last).2.1:Nat),iA .i64 (pB b a last).2.2]) []
theorem aDM {b:List UInt8} {a:Nat} {last:Int} {K:S->Hp->Prop} (h:a<=b.length) (hx:b.length<=1000000) (hK:K (.tu [.gs [.vl (.int .i64 (pB b a last).1.1),.vl (.string (mk (pB b a last).1.2))],iA .i64 ((pB b a last).2.1:Nat),iA .i64 (pB b a last).2.2]) []):aED [tS (mk b),iS .i64 a,iS .i64 last] [] K:=⟨b,a,last,rfl,rfl,h,hx,hK⟩
theorem aG0:Meets Tryz.prog 35 aED:=by
 refine aD Tryz.func35 aHT 3 (by rw [Tryz.ntmps35]; decide) (aC GB (aC u4 (aH aDK (aB _)))) (fun av H K h=>by obtain ⟨_,_,_,rfl,_⟩:=h; rfl) ?_
 rintro av H K ⟨b,a,last,rfl,rfl,ha,hb,hK⟩
 have fin:∀ (c:Int) (n:List UInt8) (k:Nat) (e:Int) (R:Hp),pB b a last=((c,n),k,e)->W.Fin 0 K (.tu [.gs [.vl (.int .i64 c),.vl (.string (mk n))],iA .i64 (k:Nat),iA .i64 e]) R:=fun c n k e R h=>by
  rw [h] at hK; exact .sel [] (by simp) (by simp) rfl (.done (by simpa [go_sem,cD] using hK))
 clear hK
 unfold pB nx1 at fin
 have hr:sW b a=bif (vr (b.drop a)).2.2 != 0 then (0,a,(vr (b.drop a)).2.2) else bif decide (2147483647 < (vr (b.drop a)).1) then (0,a,4) else ((vr (b.drop a)).1,a + (vr (b.drop a)).2.1,0):=rfl
 have h1:=gO (b.drop a)
 simp (maxSteps:=1000000) -dsimp only [go_sem,RZ,UT]
 refine W8 ha hb ?_
 generalize sW b a=y at *
 generalize vr (b.drop a)=z at *
 obtain ⟨n,k,e⟩:=z
 simp only at fin h1 hr
 have hal:a + k<=b.length:=by
  rcases h1 with ⟨_,_,rfl,_⟩ | ⟨_,_,_,h,_⟩
  · exact ha
  · rw [List.length_drop] at h; omega
 cases c1:e != 0 with
 | true=>
  rw [c1,cond_true] at fin hr
  subst hr
  simp (maxSteps:=1000000) -dsimp only [go_sem]
  refine aA rfl (.done ?_)
  simp (maxSteps:=1000000) -dsimp only [go_sem,m4,c1]
  exact fin _ _ _ _ _ rfl
 | false=>
 rw [c1,cond_false] at fin hr
 cases c2:decide (2147483647 < n) with
 | true=>
  rw [c2,cond_true] at fin hr
  subst hr
  have e4:((4:Int) != 0)=true:=rfl
  simp (maxSteps:=1000000) -dsimp only [go_sem]
  refine aA rfl (.done ?_)
  simp (maxSteps:=1000000) -dsimp only [go_sem,m4,e4]
  exact fin _ _ _ _ _ rfl
 | false=>
 rw [c2,cond_false] at fin hr
 have c2':=of_decide_eq_false c2
 subst hr
 have e00:((0:Int) != 0)=false:=rfl
 simp (maxSteps:=1000000) -dsimp only [go_sem]
 refine aA rfl (.done ?_)
 simp (maxSteps:=1000000) -dsimp only [go_sem,m4,e00]
 refine aA rfl (.done ?_)
 cases c3:decide ((n:Int)<=last) with
 | true=>
  rw [c3,cond_true] at fin
  simp (maxSteps:=1000000) -dsimp only [go_sem,rB,c3]
  exact fin _ _ _ _ _ rfl
 | false=>
 rw [c3,cond_false] at fin
 unfold nx2 at fin
 have h2:=gO (b.drop (a + k))
 simp (maxSteps:=1000000) -dsimp only [go_sem,rB,c3]
 refine G0 hal hb ?_
 generalize vr (b.drop (a + k))=z2 at *
 obtain ⟨n2,k2,e2⟩:=z2
 simp only at fin h2 ⊢
 have hal2:a + k + k2<=b.length:=by
  rcases h2 with ⟨_,_,rfl,_⟩ | ⟨_,_,_,h,_⟩
  · exact hal
  · rw [List.length_drop] at h; omega
 simp (maxSteps:=1000000) -dsimp only [go_sem]
 refine aA rfl (.done ?_)
 cases c4:e2 != 0 with
 | true=>
  rw [c4,cond_true] at fin
  simp (maxSteps:=1000000) -dsimp only [go_sem,sA,c4]
  exact fin _ _ _ _ _ rfl
 | false=>
 rw [c4,cond_false] at fin
 simp (maxSteps:=1000000) -dsimp only [go_sem,sA,c4]
 refine aA rfl (.done ?_)
 have hrd:B8 (f8 b (a + k + k2) e2):=N8 hal2 hb
 have hu:IntKind.u64.wrap ((b.length:Int) - ((a + k + k2:Nat):Int))=((b.length - (a + k + k2):Nat):Int):=by rw [show (b.length:Int) - ((a + k + k2:Nat):Int)=((b.length - (a + k + k2):Nat):Int) by omega]; exact iJ (by omega)
 have hd:decide (((b.length - (a + k + k2):Nat):Int) < (n2:Int))=decide (b.length - (a + k + k2) < n2):=by rw [Bool.eq_iff_iff]; simp only [decide_eq_true_eq]; omega
 cases c5:decide (b.length - (a + k + k2) < n2) with
 | true=>
  rw [c5,cond_true] at fin
  simp (maxSteps:=1000000) -dsimp only [go_sem,r8,hrd,hu,hd,c5]
  exact fin _ _ _ _ _ rfl
 | false=>
  rw [c5,cond_false] at fin
  have c5':=of_decide_eq_false c5
  simp (maxSteps:=1000000) -dsimp only [go_sem,r8,hrd,hu,hd,c5]
  refine aA rfl (.done ?_)
  have hw:IntKind.i64.wrap (n2:Int)=(n2:Int):=CP (by omega)
  have es:((a + k + k2:Nat):Int) + (n2:Int)=((a + k + k2 + n2:Nat):Int):=by omega
  have hsl:List.drop (a + k + k2) (List.take (a + k + k2 + n2) b)=List.take n2 (List.drop (a + k + k2) b):=by rw [List.drop_take]; congr 1; omega
  simp (maxSteps:=1000000) -dsimp only [go_sem,uG,hw,es,Int.toNat_natCast,hsl]
  refine ⟨by omega,by omega,by omega,by omega,?_⟩
  exact fin _ _ _ _ _ rfl
def JK:W.Spec:=fun av H K=>∃ x:List UInt8,av=[tS (mk x)]/\H=[]/\x.length<=9223372036854775807/\
 (2000 < x.length->K (.tu [.c1 (.fz []),iA .i64 3]) [])/\(x.length<=2000->K (.tu [.c1 (.fz ((bY x.length 0 x).1.map cD)),iA .i64 (bY x.length 0 x).2]) [])
theorem aDG:Meets Tryz.prog 19 JK:=by
 refine aD Tryz.func19 aF7 1 (by rw [Tryz.ntmps19]; decide) (aC aG0 (aB _)) (fun av H K h=>by obtain ⟨_,rfl,_⟩:=h; rfl) ?_
 rintro av H K ⟨x,rfl,rfl,hx,hK1,hK2⟩
 rcases a8 2000 x.length with hlt | hge
 · have g0:decide ((2000:Int) < (x.length:Int))=true:=by simp; omega
   simp (maxSteps:=1000000) -dsimp only [go_sem,JI,KE,g0]
   exact .done (hK1 hlt)
 have g0:decide ((2000:Int) < (x.length:Int))=false:=by simp; omega
 have hK:=hK2 hge
 clear hK1 hK2
 have key:∀ (L:List (Int × List UInt8)) (e:Int),bY x.length 0 x=(L,e)->K (.tu [.c1 (.fz (L.map cD)),iA .i64 e]) []:=fun L e h=>by rw [h] at hK; exact hK
 clear hK
 simp (maxSteps:=1000000) -dsimp only [go_sem,JI,KE,g0]
 refine cM (α:=Nat × Int × Nat × List (Int × List UInt8)) (fun z=>[(0,tS (mk x)),(4,.va (.c1 (.sl 0 z.2.2.2.length))),(5,iS .i64 z.2.1),(6,iS .i64 z.2.2.1)]) (fun z=>[.row (z.2.2.2.map cD) 59 2])
  (fun z=>z.2.2.1<=x.length/\x.length - z.2.2.1<=z.1/\z.2.2.2.length<=z.2.2.1/\hY z.2.2.2 (bY z.1 z.2.1 (x.drop z.2.2.1))=bY x.length 0 x) (fun z=>z.1) (.nil 4 59 2 rfl (jJ (x.length,0,0,[]) 1 ⟨Nat.zero_le _,Nat.sub_le _ _,Nat.le_refl _,x6 (FL _ _ _)⟩ ?_ ?_)) ?_
 · simp -dsimp only [go_sem]<;>simp
 · simp -dsimp only [go_sem]<;>simp
 rintro ⟨g,last,a,acc⟩ ⟨ha,hg,hl,ho⟩
 simp only at ha hg hl ho ⊢
 rcases a8 a x.length with hax | hax
 · have g1:decide ((a:Int) < (x.length:Int))=true:=by simp; omega
   have hb:x.drop a ≠ []:=fun h=>by have:=congrArg List.length h; rw [List.length_drop] at this; simp at this; omega
   obtain ⟨g,rfl⟩:∃ k,g=k + 1:=⟨g - 1,by omega⟩
   rw [jP hb] at ho
   have hfl:=mR (x.drop a) last
   have hnx:=aGL (last:=last) ha
   have hok:=UO (x.drop a) last
   simp (maxSteps:=1000000) -dsimp only [go_sem,g1]
   refine aDM ha (by omega) ?_
   generalize pB x a last=y at *
   generalize aT (x.drop a) last=z at *
   obtain ⟨⟨c,n⟩,r,e⟩:=z
   simp only at ho hfl hnx hok
   cases c1:e != 0 with
   | true=>
    rw [c1,cond_true] at hnx
    rw [c1,cond_true,mU acc c1] at ho
    subst hnx
    simp (maxSteps:=1000000) -dsimp only [go_sem]
    refine aA rfl (.done ?_)
    simp (maxSteps:=1000000) -dsimp only [go_sem,rP,c1]
    refine .sel [] (by simp) (by simp) rfl (.done ?_)
    simp -dsimp only [go_sem]
    exact key _ _ ho.symm
   | false=>
    rw [c1,cond_false] at hnx
    rw [c1,cond_false,FO] at ho
    subst hnx
    have hlt:=hfl.2.2 (fT c1)
    obtain rfl:=fT c1
    rw [List.length_drop] at hlt
    have hdr:x.drop (x.length - r.length)=r:=by
     rcases hok with h | ⟨_,_,_,_,h⟩
     · exact absurd rfl h
     · have h2:x=x.take a ++ (vi c.toNat ++ (vi n.length ++ n)) ++ r:=by rw [List.append_assoc,<-h,List.take_append_drop]
       have h3:x.length - r.length=(x.take a ++ (vi c.toNat ++ (vi n.length ++ n))).length:=by have:=congrArg List.length h2; rw [List.length_append] at this; omega
       rw [h3]
       exact (congrArg (List.drop (x.take a ++ (vi c.toNat ++ (vi n.length ++ n))).length) h2).trans List.drop_left
    have e00:((0:Int) != 0)=false:=rfl
    simp (maxSteps:=1000000) -dsimp only [go_sem]
    refine aA rfl (.done ?_)
    simp (maxSteps:=1000000) -dsimp only [go_sem,rP,e00]
    refine ⟨by omega,aE (g,c,x.length - r.length,acc ++ [(c,n)]) 1 ⟨by simp only; omega,by simp only; omega,by simp only [List.length_append,List.length_singleton]; omega,by simp only; rw [hdr]; exact ho⟩ (by simp only; omega) ?_ ?_⟩
    · simp -dsimp only [go_sem]<;>simp
    · simp -dsimp only [go_sem]<;>simp [cD]
 · have g1:decide ((a:Int) < (x.length:Int))=false:=by simp; omega
   have hb:x.drop a=[]:=List.drop_eq_nil_iff.2 hax
   rw [hb,uK,DW,List.append_nil] at ho
   simp (maxSteps:=1000000) -dsimp only [go_sem,g1]
   refine aA rfl (.done ?_)
   simp (maxSteps:=1000000) -dsimp only [go_sem,tR]
   refine .pub 0 _ _ _ rfl (.sel [] (by simp) (by simp [cG]) rfl (.done ?_))
   simp -dsimp only [go_sem,cG]
   simpa using key _ _ ho.symm
def pF (x:List UInt8):List (Int × List UInt8) × Int:=if 2000 < x.length then ([],3) else bY x.length 0 x
theorem SS {x:List UInt8} (h:2000 < x.length):pF x=([],3):=if_pos h
theorem CC {x:List UInt8} (h:x.length<=2000):pF x=bY x.length 0 x:=if_neg (by omega)
theorem aDQ {x:List UInt8} {K:S->Hp->Prop} (h:x.length<=9223372036854775807) (hK:K (.tu [.c1 (.fz ((pF x).1.map cD)),iA .i64 (pF x).2]) []):JK [tS (mk x)] [] K:=
 ⟨x,rfl,rfl,h,fun h1=>(by rw [SS h1] at hK; exact hK),fun h1=>(by rw [CC h1] at hK; exact hK)⟩
theorem aAK {x:List UInt8} {k:Int} {K:S->Hp->Prop} (h:x.length<=9223372036854775807) (hK:K (.tu [tA (mk (((nM (pF x).1 k).map (·.2)).getD [])),bA (nM (pF x).1 k).isSome]) []):KG [tS (mk x),iS .i64 k] [] K:=
 ⟨x,k,rfl,rfl,h,fun h1=>(by rw [SS h1] at hK; exact hK),fun h1=>(by rw [CC h1] at hK; exact hK)⟩
theorem aBC (x:List UInt8):(pF x).1.length<=x.length:=by
 unfold pF
 split
 · exact Nat.zero_le _
 · exact uP _ _ _
theorem U3:∀ {L:List (Int × List UInt8)} {i:Nat} {y:Int × List UInt8},L.Pairwise (fun y z=>y.1 < z.1)->L[i]? = some y->nM L y.1=some y
 | z :: L,0,y,_,h=>by
  simp at h
  subst h
  unfold nM
  simp
 | z :: L,i + 1,y,hp,h=>by
  have h:=(List.getElem?_cons_succ).symm.trans h
  obtain ⟨h1,h2⟩:=List.pairwise_cons.1 hp
  have h3:=h1 y (b5 h)
  have h4:=U3 h2 h
  unfold nM at h4 ⊢
  rw [List.find?_cons_of_neg (by simp; omega)]
  exact h4
theorem aBU (b:ByteArray):(b == b)=true:=by
 cases b
 show (Array.isEqv _ _ _)=true
 simp [Array.isEqv_eq_decide]
def jn (L:List (Int × List UInt8)):List UInt8:=L.flatMap fun y=>fG y.1 ++ iO y.2
theorem rS (y:Int × List UInt8) (L:List (Int × List UInt8)):jn (y :: L)=fG y.1 ++ iO y.2 ++ jn L:=by unfold jn; rw [List.flatMap_cons]
structure JOk (last:Int) (L:List (Int × List UInt8)):Prop where
 p:L.Pairwise fun y z=>y.1 < z.1
 n:∀ y ∈ L,last < y.1/\0<=y.1/\y.1<=2147483647/\y.2.length < 18446744073709551616
theorem JOk.tail {last:Int} {y:Int × List UInt8} {L:List (Int × List UInt8)} (h:JOk last (y :: L)):JOk y.1 L:=by
 obtain ⟨h1,h2⟩:=List.pairwise_cons.1 h.p
 exact ⟨h2,fun z hz=>⟨h1 z hz,(h.n z (List.mem_cons_of_mem _ hz)).2⟩⟩
theorem VM {last:Int} {y:Int × List UInt8} {L:List (Int × List UInt8)} (h:JOk last (y :: L)):jn (y :: L) ≠ []/\aT (jn (y :: L)) last=(y,jn L,0)/\(jn L).length < (jn (y :: L)).length:=by
 obtain ⟨h1,h2,h3,h4⟩:=h.n y (List.mem_cons_self ..)
 have e:jn (y :: L)=vi y.1.toNat ++ (vi y.2.length ++ y.2) ++ jn L:=by
  rw [rS,xB h2 (by omega),EC h4]
 have hp:=w7 y.1.toNat
 have hl:(jn L).length < (jn (y :: L)).length:=by rw [e,List.length_append,List.length_append]; omega
 refine ⟨fun e=>?_,?_,hl⟩
 · rw [e] at hl; exact absurd hl (Nat.not_lt_zero _)
 · rw [e,Q3 (by omega) (by omega) h4,Int.toNat_of_nonneg h2]
theorem L7:∀ {L:List (Int × List UInt8)} {g:Nat} {last:Int},JOk last L->(jn L).length<=g->bY g last (jn L)=(L,0)
 | [],g,last,_,_=>uK g last
 | y :: L,g,last,h,hl=>by
  obtain ⟨h1,h2,h3⟩:=VM h
  obtain ⟨g,rfl⟩:∃ k,g=k + 1:=⟨g - 1,by omega⟩
  rw [jP h1,h2]
  simp only
  rw [L7 h.tail (by omega)]
  rfl
theorem UY {L:List (Int × List UInt8)} (h:JOk 0 L) (hl:(jn L).length<=2000):pF (jn L)=(L,0):=by
 rw [CC hl,L7 h (Nat.le_refl _)]
def dJ (R:Ty->List UInt8->Vl × Int) (s:Sc) (fs:List Fl):List (Int × List UInt8)->List (Int × Vl) × Int
 | []=>([],0)
 | y :: L=>bif !(fF fs y.1).isSome then dJ R s fs L else bif pV R s ((fF fs y.1).getD default) y.2 != 0 then ([],pV R s ((fF fs y.1).getD default) y.2) else hY [(y.1,(R ((fF fs y.1).getD default).ty y.2).1)] (dJ R s fs L)
theorem FU {R:Ty->List UInt8->Vl × Int} {s:Sc} {fs:List Fl}:∀ {L:List (Int × List UInt8)} {g:Nat} {last:Int},JOk last L->(jn L).length<=g->eJ R s fs g last (jn L)=dJ R s fs L
 | [],g,last,_,_=>rJ g last
 | y :: L,g,last,h,hl=>by
  obtain ⟨h1,h2,h3⟩:=VM h
  obtain ⟨g,rfl⟩:∃ k,g=k + 1:=⟨g - 1,by omega⟩
  rw [kU h1,h2]
  simp only
  rw [FU h.tail (by omega)]
  rfl
theorem GX {R:Ty->List UInt8->Vl × Int} {s:Sc} {fs:List Fl} {k:Int} {x:List UInt8} (hk:fF fs k=none):∀ (L M:List (Int × List UInt8)),dJ R s fs (L ++ (k,x) :: M)=dJ R s fs (L ++ M)
 | [],M=>by
  rw [List.nil_append,List.nil_append,dJ,hk]; rfl
 | y :: L,M=>by
  rw [List.cons_append,List.cons_append,dJ,dJ,GX hk L M]
theorem aAX {R:Ty->List UInt8->Vl × Int} {s:Sc} {fs:List Fl} {L M:List (Int × List UInt8)} {k:Int} {x:List UInt8} (hk:fF fs k=none) (h1:JOk 0 (L ++ M)) (h2:JOk 0 (L ++ (k,x) :: M)):iG R s fs (jn (L ++ (k,x) :: M))=iG R s fs (jn (L ++ M)):=by
 unfold iG
 rw [FU h2 (Nat.le_refl _),FU h1 (Nat.le_refl _),GX hk]
def qM (R:Ty->Vl->List UInt8) (s:Sc) (F:List (Int × Vl)) (g:Fl):List (Int × List UInt8):=bif gY s F g then [] else [(g.num,R g.ty (((cF F g.num).map (·.2)).getD default))]
theorem LX {R:Ty->Vl->List UInt8} {s:Sc} {F:List (Int × Vl)}:∀ {fs:List Fl},dU R s fs F=jn (fs.flatMap (qM R s F))
 | []=>rfl
 | g :: fs=>by
  have ih:=LX (R:=R) (s:=s) (F:=F) (fs:=fs)
  unfold dU at ih ⊢
  rw [List.flatMap_cons,List.flatMap_cons,ih,vP]
  unfold qM
  cases gY s F g with
  | true=>rfl
  | false=>rw [cond_false,cond_false,List.singleton_append,rS]
theorem DN {R:Ty->Vl->List UInt8} {s:Sc} {F:List (Int × Vl)} {fs:List Fl} {y:Int × List UInt8} (h:y ∈ fs.flatMap (qM R s F)):∃ g ∈ fs,g.num=y.1/\∃ x ∈ F,x.1=g.num/\y.2=R g.ty x.2:=by
 obtain ⟨g,hg,hy⟩:=List.mem_flatMap.1 h
 unfold qM at hy
 cases ho:gY s F g with
 | true=>rw [ho] at hy; cases hy
 | false=>
  rw [ho] at hy
  obtain rfl:=List.mem_singleton.1 hy
  cases hv:cF F g.num with
  | none=>unfold gY at ho; rw [hv] at ho; cases ho
  | some x=>
   obtain ⟨hm,he⟩:=nE hv
   exact ⟨g,hg,rfl,x,hm,he,rfl⟩
theorem T5 {R:Ty->Vl->List UInt8} {s:Sc} {F:List (Int × Vl)}:∀ {fs:List Fl},fs.Pairwise (fun f g=>f.num < g.num)->(fs.flatMap (qM R s F)).Pairwise (fun y z=>y.1 < z.1)
 | [],_=>List.Pairwise.nil
 | g :: fs,h=>by
  obtain ⟨h1,h2⟩:=List.pairwise_cons.1 h
  have ih:=T5 (R:=R) (s:=s) (F:=F) h2
  rw [List.flatMap_cons,List.pairwise_append]
  refine ⟨?_,ih,fun y hy z hz=>?_⟩
  · unfold qM; cases gY s F g with
    | true=>exact List.Pairwise.nil
    | false=>exact List.pairwise_singleton ..
  · obtain ⟨f,hf,he,_⟩:=DN hz
    have:=h1 f hf
    have hy':y.1=g.num:=by
     unfold qM at hy
     cases ho:gY s F g with
     | true=>rw [ho] at hy; cases hy
     | false=>rw [ho] at hy; obtain rfl:=List.mem_singleton.1 hy; rfl
    omega
theorem XO {L M:List (Int × List UInt8)} {k:Int} {x:List UInt8} (h:JOk 0 (L ++ M)) (hk:0 < k/\k<=2147483647) (hx:x.length < 18446744073709551616) (h1:∀ y ∈ L,y.1 < k) (h2:∀ y ∈ M,k < y.1):JOk 0 (L ++ (k,x) :: M):=by
 obtain ⟨p1,p2,p3⟩:=List.pairwise_append.1 h.p
 refine ⟨List.pairwise_append.2 ⟨p1,List.pairwise_cons.2 ⟨h2,p2⟩,fun y hy z hz=>?_⟩,fun y hy=>?_⟩
 · rcases List.mem_cons.1 hz with rfl | hz
   · exact h1 y hy
   · exact p3 y hy z hz
 · rcases List.mem_append.1 hy with hy | hy
   · exact h.n y (List.mem_append_left _ hy)
   · rcases List.mem_cons.1 hy with rfl | hy
     · exact ⟨hk.1,by show 0<=k; omega,hk.2,hx⟩
     · exact h.n y (List.mem_append_right _ hy)
theorem QQ {s:Sc} (hs:s.fit) {nm:ByteArray} {v:Vl} (hvo:VlOk v) (h:(g7 s nm v).2=0) {k:Int} {x:List UInt8} (hk:0 < k/\k<=2147483647) (hx:x.length<=2000) (hf:fF (stOf s (.mk 6 0 nm [])).fs k=none) :
 cA s.ss nm=true/\∃ L,pF (g7 s nm v).1=(L,0)/\JOk 0 L/\∀ i,i<=L.length->(∀ y ∈ L.take i,y.1 < k)->(∀ y,L[i]? = some y->k<=y.1)->(jn (L.take i ++ (k,x) :: L.drop i)).length<=2000->
  jX s nm (jn (L.take i ++ (k,x) :: L.drop i))=(v,0)/\nM (pF (jn (L.take i ++ (k,x) :: L.drop i))).1 k=some (k,x):=by
 obtain ⟨hdo,hle⟩:=RW hs hvo h
 unfold g7 at h hdo hle ⊢
 cases c1:bN s != 0 with
 | true=>rw [c1] at h; exact absurd h (nG c1)
 | false=>
 rw [c1,cond_false] at h hdo hle
 rw [cond_false]
 have hd:=BR hs (fT c1)
 cases c2:!(cA s.ss nm) with
 | true=>rw [c2] at h; cases h
 | false=>
 rw [c2,cond_false] at h hdo hle
 rw [cond_false]
 cases c3:j7 s (.mk 6 0 nm []) v != 0 with
 | true=>rw [c3] at h; exact absurd h (nG c3)
 | false=>
 rw [c3,cond_false] at h hdo hle
 rw [cond_false]
 cases c4:decide (2000 < ((dU (cC s 8) s (stOf s (.mk 6 0 nm [])).fs v.f).length:Int)) with
 | true=>rw [c4] at h; cases h
 | false=>
 rw [c4,cond_false] at h hdo hle
 rw [cond_false]
 simp only at h hdo hle ⊢
 have hck:=fT c3
 have h0:=(nY hck).1
 have hh:=OW hck
 have hc:=iX h0
 obtain ⟨e1,e2,e3,e4,e5⟩:=hc.st rfl
 have hn:=hd.ni.stOf (.mk 6 0 nm [])
 have hp:=I5 hn
 have hJ:JOk 0 ((stOf s (.mk 6 0 nm [])).fs.flatMap (qM (cC s 8) s v.f)):=by
  refine ⟨T5 hp,fun y hy=>?_⟩
  obtain ⟨g,hg,hge,z,hz,hze,hyz⟩:=DN hy
  have h1:=hn.n g hg
  have h5:=e5 z hz
  rw [hze,nC hd hg] at h5
  have h6:z.2.h<=8:=by have:=Vl.h_f hz; omega
  have hB:=fZ hd 8 g.ty z.2 h6 h5
  have:=kT (N:=8) (by omega)
  exact ⟨by omega,by omega,by omega,by rw [hyz]; omega⟩
 have hkn:∀ y ∈ (stOf s (.mk 6 0 nm [])).fs.flatMap (qM (cC s 8) s v.f),y.1 ≠ k:=fun y hy he=>by
  obtain ⟨g,hg,hge,_⟩:=DN hy
  have:=B0 hp hg
  rw [hge,he,hf] at this
  cases this
 have hct:dU (cC s 8) s (stOf s (.mk 6 0 nm [])).fs v.f=jn ((stOf s (.mk 6 0 nm [])).fs.flatMap (qM (cC s 8) s v.f)):=LX
 rw [hct] at hdo hle ⊢
 generalize (stOf s (.mk 6 0 nm [])).fs.flatMap (qM (cC s 8) s v.f)=L at *
 refine ⟨by simpa using c2,L,UY hJ hle,hJ,fun i hi h1 h2 hl=>?_⟩
 have hLM:L.take i ++ L.drop i=L:=List.take_append_drop i L
 have hJ':JOk 0 (L.take i ++ L.drop i):=by rw [hLM]; exact hJ
 have hJ2:JOk 0 (L.take i ++ (k,x) :: L.drop i):=XO hJ' hk (by omega) h1 fun y hy=>by
  have hne:=hkn y (List.mem_of_mem_drop hy)
  obtain ⟨j,hj⟩:=List.mem_iff_getElem?.1 hy
  rw [List.getElem?_drop] at hj
  have hjl:=(bB.1 hj).1
  have hiy:L[i]? = some L[i]:=aV (by omega)
  have h3:=h2 _ hiy
  rcases Nat.eq_zero_or_pos j with rfl | hjp
  · rw [Nat.add_zero,hiy] at hj
    obtain rfl:=bT hj
    omega
  · have h4:=List.pairwise_iff_getElem.1 hJ.p i (i + j) (by omega) hjl (by omega)
    obtain ⟨_,h5⟩:=bB.1 hj
    rw [h5] at h4
    omega
 refine ⟨?_,?_⟩
 · unfold jX at hdo ⊢
   rw [c1,c2,cond_false,cond_false] at hdo ⊢
   rw [decide_eq_false (by omega),cond_false] at hdo ⊢
   rw [aAX hf hJ' hJ2,hLM]
   exact hdo
 · rw [UY hJ2 hl]
   exact U3 (y:=(k,x)) (i:=(L.take i).length) hJ2.p (by simp)
def C.fd:List C->Int × List UInt8:=fun r=>match r with
 | [.vl (.int _ n),.vl (.string s)]=>(n,bl s)
 | _=>(0,[])
theorem aB4 (y:Int × List UInt8):C.fd (cD y)=y:=rfl
theorem CX:∀ L:List (Int × List UInt8),(L.map cD).map C.fd=L
 | []=>rfl
 | y :: L=>by rw [List.map_cons,List.map_cons,aB4,CX L]
def QB (ys:List (List C)):Prop:=∃ L:List (Int × List UInt8),ys=L.map cD/\L.length<=10000/\∀ y ∈ L,y.2.length<=10000
theorem XN {L:List (Int × List UInt8)} (h:L.length<=10000) (h2:∀ y ∈ L,y.2.length<=10000):QB (L.map cD)=True:=eq_true ⟨L,rfl,h,h2⟩
def CO:List S->Prop:=fun av=>match av with
 | [.va (.c1 (.fz ys))]=>QB ys
 | _=>False
theorem n6 {av:List S} (h:CO av):∃ L:List (Int × List UInt8),av=[.va (.c1 (.fz (L.map cD)))]/\L.length<=10000/\∀ y ∈ L,y.2.length<=10000:=by
 unfold CO at h
 split at h
 · obtain ⟨L,rfl,h1,h2⟩:=h; exact ⟨L,rfl,h1,h2⟩
 · exact h.elim
def S4:List S->A:=fun av=>match av with
 | [.va (.c1 (.fz ys))]=>.c1 (.vl (.string (mk (jn (ys.map C.fd)))))
 | _=>.gs []
def joFn:Fun:=⟨CO,S4,fun av h=>by obtain ⟨_,rfl,_⟩:=n6 h; trivial⟩
attribute [go_sem] joFn CO S4
theorem MA:∀ {L:List (Int × List UInt8)},(∀ y ∈ L,y.2.length<=10000)->(jn L).length<=L.length * 10020
 | [],_=>Nat.zero_le _
 | y :: L,h=>by
  have h1:=h y (List.mem_cons_self ..)
  have h2:=MA fun z hz=>h z (List.mem_cons_of_mem _ hz)
  have h3:=fB y.1
  have h4:=iY y.2
  rw [rS,List.length_append,List.length_append,List.length_cons,Nat.add_mul]
  omega
theorem aBB (L M:List (Int × List UInt8)):jn (L ++ M)=jn L ++ jn M:=by unfold jn; rw [List.flatMap_append]
theorem aHF:Meets Tryz.prog 20 joFn.sp:=by
 refine aD Tryz.func20 aHR 1 (by rw [Tryz.ntmps20]; decide) (aH LT (aH aDO (aB _))) (fun av H K h=>by obtain ⟨_,rfl,_⟩:=n6 h.1.1; rfl) ?_
 rintro av H K ⟨⟨h,rfl⟩,hK⟩
 obtain ⟨L,rfl,hl,hy⟩:=n6 h
 have hK:K (tS (mk (jn L))) []:=by
  have:joFn.val [.va (.c1 (.fz (L.map cD)))]=tA (mk (jn L)):=by show A.c1 (.vl (.string (mk (jn ((L.map cD).map C.fd)))))=_; rw [CX]
  rw [this] at hK; exact hK
 clear h
 simp (maxSteps:=1000000) -dsimp only [go_sem,T3,TL]
 refine aU (α:=Nat) (fun i=>[(0,.va (.c1 (.fz (L.map cD)))),(3,tS (mk (jn (L.take i)))),(4,iS .i64 i)]) (fun _=>[]) (fun i=>i<=L.length) (fun i=>L.length - i) 0 0 (Nat.zero_le _) ?_ ?_ ?_
 · simp -dsimp only [go_sem]<;>simp [jn]
 · simp [go_sem]
 intro i hi
 rcases a8 i L.length with hlt | hge
 · have hg:decide ((i:Int) < (L.length:Int))=true:=by simp; omega
   have hyi:L[i]? = some L[i]:=aV hlt
   have q2:=aY (row:=cD) hyi
   have ht:L.take (i + 1)=L.take i ++ [L[i]]:=List.take_succ_eq_append_getElem hlt
   have hb:=hy _ (b5 hyi)
   have hjl:=MA (L:=L.take i) fun y h=>hy y (List.mem_of_mem_take h)
   have htl:(L.take i).length=i:=by rw [List.length_take]; omega
   generalize L[i]=y at *
   have hv:=fB y.1
   have hvt:=iY y.2
   have hn:jn (L.take (i + 1))=jn (L.take i) ++ fG y.1 ++ iO y.2:=by rw [ht,aBB,rS]; simp [jn]
   have hbig:(L.take i).length * 10020<=10000 * 10020:=Nat.mul_le_mul_right _ (by omega)
   simp (maxSteps:=1000000) -dsimp only [go_sem,hg,↓q2,cD,kY,lO,fX]
   refine ⟨⟨by omega,by omega⟩,by omega,⟨by omega,by omega⟩,by rw [cJ,kI]; omega,by omega,⟨by omega,by omega⟩,aE (i + 1) 0 (by omega) (by omega) ?_ ?_⟩
   · simp -dsimp only [go_sem,hn]<;>simp
   · simp [go_sem]
 · have hg:decide ((i:Int) < (L.length:Int))=false:=by simp; omega
   obtain rfl:i=L.length:=by omega
   rw [List.take_length] at *
   simp (maxSteps:=1000000) -dsimp only [go_sem,hg]
   exact .done hK
def lX:PC:=.seq (.gh (.reg [.v 49 8,.v 50 49,⟨some 51,(some (50,false)),.q (.fa 9 (.t 1))⟩,⟨some 52,(some (50,false)),.l (.ld1 (.t 51))⟩,⟨some 53,(some (50,false)),.q (.bin .lss true (.t 52) (.i 1))⟩,.a 54 (.pick (.t 50) (.k (.bool true)) (.t 53)),.v 55 54,⟨some 56,(some (55,false)),.q (.fa 9 (.t 1))⟩,⟨some 57,(some (55,false)),.l (.ld1 (.t 56))⟩,⟨some 58,(some (55,false)),.q (.bin .gtr true (.t 57) (.i 2147483647))⟩,.a 59 (.pick (.t 55) (.k (.bool true)) (.t 58)),.v 60 59,⟨some 61,(some (60,false)),.q (.fa 10 (.t 1))⟩,⟨some 62,(some (60,false)),.l (.ld1 (.t 61))⟩,⟨some 63,(some (60,false)),.q (.lnS (.t 62))⟩,⟨some 64,(some (60,false)),.q (.bin .gtr true (.t 63) (.i 2000))⟩,.a 65 (.pick (.t 60) (.k (.bool true)) (.t 64))])) (.cond (.t 65) (.seq (.reg [.a 66 (.cq 11 []),.v 2 66]) .ret) .skip)
@[go_sem ↓] theorem aNR:aL lX:=aM _
def yF:PC:=.seq (.gh (.reg [.v 143 16,.q 144 (.bin .eql true (.t 143) (.i 0)),.v 145 144,⟨some 146,(some (145,true)),.l (.ldn 5 (.t 15))⟩,⟨some 147,(some (145,true)),.q (.fa 4 (.t 1))⟩,⟨some 148,(some (145,true)),.l (.ldn 5 (.t 147))⟩,⟨some 149,(some (145,true)),.cq 14 [(.t 146),(.t 148)]⟩,.a 150 (.pick (.t 145) (.t 149) (.k (.bool false))),.v 151 150,⟨some 152,(some (151,true)),.q (.mv (.t 18))⟩,.a 153 (.pick (.t 151) (.t 152) (.k (.bool false))),.v 154 153,⟨some 155,(some (154,true)),.q (.mv (.t 17))⟩,⟨some 156,(some (154,true)),.q (.fa 10 (.t 1))⟩,⟨some 157,(some (154,true)),.l (.ld1 (.t 156))⟩,⟨some 158,(some (154,true)),.q (.bin .eql true (.t 155) (.t 157))⟩,.a 159 (.pick (.t 154) (.t 158) (.k (.bool false))),.v 160 159,⟨some 161,(some (160,true)),.cq 11 []⟩,.a 162 (.pick (.t 160) (.t 161) (.k (.bool false))),.v 2 162])) .ret
@[go_sem ↓] theorem aIO:aL yF:=aM _
def xI:PC:=.seq (.gh (.reg [.q 128 (.fa 0 (.t 1)),.l 129 (.ldn 3 (.t 128)),.q 130 (.fa 3 (.t 1)),.l 131 (.ld1 (.t 130)),.v 132 14,.a 133 (.cl 12 [(.t 129),(.t 131),(.t 132)] []),.v 127 133,.q 134 (.ex (.t 127) 0),.q 135 (.ex (.t 127) 1),.e 15 (.al (.agg #[(.int .i64 0),(.int .i64 0),(.string (mk [])),(.slice none 0 0),(.slice none 0 0)]) 29),.s (.st 5 (.t 15) (.t 134)),.v 16 135])) (.seq (.reg [.v 137 14,.q 138 (.fa 9 (.t 1)),.l 139 (.ld1 (.t 138)),.a 140 (.cl 21 [(.t 137),(.t 139)] []),.v 136 140,.q 141 (.ex (.t 136) 0),.q 142 (.ex (.t 136) 1),.v 17 141,.v 18 142]) (yF))
@[go_sem ↓] theorem aKI:aL xI:=aM _
def sF:PC:=.seq (.seq (.gh (.reg [.v 123 14,.q 124 (.lnS (.t 123)),.q 125 (.bin .gtr true (.t 124) (.i 2000))])) (.cond (.t 125) (.seq (.reg [.a 126 (.cq 11 []),.v 2 126]) .ret) .skip)) (xI)
@[go_sem ↓] theorem aIN:aL sF:=aM _
def xM:PC:=.seq (.gh (.reg [.v 121 11,.a 122 (.cq 20 [(.t 121)]),.v 14 122])) (sF)
@[go_sem ↓] theorem aKE:aL xM:=aM _
def zS:PC:=.seq (.seq (.gh (.reg [.v 105 11,.q 106 (.lnL (.t 105)),.q 107 (.bin .sub true (.t 106) (.i 1)),.v 13 107])) (.block 2 (.loop (.seq (.seq (.reg [.v 108 13,.v 109 9,.q 110 (.lnL (.t 109)),.q 111 (.bin .lss true (.t 108) (.t 110))]) (.cond (.t 111) .skip (.exit 2))) (.seq (.block 3 (.reg [.v 114 11,.v 115 9,.v 116 13,.l 117 (.ia 2 (.t 115) (.t 116)),.l 118 (.ldn 2 (.t 117)),.e 119 (.bsl 59 2 [(.t 118)]),.e 120 (.ap 59 2 24 (.t 114) (.t 119)),.v 11 120])) (.reg [.v 112 13,.q 113 (.bin .add true (.t 112) (.i 1)),.v 13 113])))))) (xM)
@[go_sem ↓] theorem aI2:aL zS:=aM _
def pcY7_18:PC:=.seq (.gh (.reg [.v 97 11,.q 98 (.fa 9 (.t 1)),.l 99 (.ld1 (.t 98)),.q 100 (.fa 10 (.t 1)),.l 101 (.ld1 (.t 100)),.q 102 (.bd [(.int .i64 0),(.string (mk []))] [(0,1,(.t 99)),(1,1,(.t 101))]),.e 103 (.bsl 59 2 [(.t 102)]),.e 104 (.ap 59 2 24 (.t 97) (.t 103)),.v 11 104])) (zS)
@[go_sem ↓] theorem aI1:aL pcY7_18:=aM _
def zY:PC:=.seq (.seq (.gh (.reg [.v 72 10,.q 73 (.bin .neq true (.t 72) (.i 0))])) (.cond (.t 73) (.seq (.reg [.q 2 (.mv (.k (.bool false)))]) .ret) .skip)) (.seq (.reg [.q 11 (.mv (.k (.slice none 0 0)))]) (.seq (.seq (.reg [.q 12 (.mv (.i 0))]) (.block 0 (.loop (.seq (.seq (.reg [.v 74 12,.v 75 9,.q 76 (.lnL (.t 75)),.q 77 (.bin .lss true (.t 74) (.t 76)),.v 78 77,⟨some 79,(some (78,true)),.q (.mv (.t 9))⟩,⟨some 80,(some (78,true)),.q (.mv (.t 12))⟩,⟨some 81,(some (78,true)),.l (.ia 2 (.t 79) (.t 80))⟩,⟨some 82,(some (78,true)),.q (.fa 0 (.t 81))⟩,⟨some 83,(some (78,true)),.l (.ld1 (.t 82))⟩,⟨some 84,(some (78,true)),.q (.fa 9 (.t 1))⟩,⟨some 85,(some (78,true)),.l (.ld1 (.t 84))⟩,⟨some 86,(some (78,true)),.q (.bin .lss true (.t 83) (.t 85))⟩,.a 87 (.pick (.t 78) (.t 86) (.k (.bool false)))]) (.cond (.t 87) .skip (.exit 0))) (.seq (.block 1 (.reg [.v 90 11,.v 91 9,.v 92 12,.l 93 (.ia 2 (.t 91) (.t 92)),.l 94 (.ldn 2 (.t 93)),.e 95 (.bsl 59 2 [(.t 94)]),.e 96 (.ap 59 2 24 (.t 90) (.t 95)),.v 11 96])) (.reg [.v 88 12,.q 89 (.bin .add true (.t 88) (.i 1)),.v 12 89])))))) (pcY7_18)))
@[go_sem ↓] theorem aKA:aL zY:=aM _
def xO:PC:=.seq (.gh (.reg [.v 68 3,.a 69 (.cl 19 [(.t 68)] []),.v 67 69,.q 70 (.ex (.t 67) 0),.q 71 (.ex (.t 67) 1),.v 9 70,.v 10 71])) (zY)
@[go_sem ↓] theorem aJX:aL xO:=aM _
def F5:PC:=.seq (.seq (.gh (.reg [.l 43 (.ldn 2 (.t 5)),.q 44 (.fa 9 (.t 1)),.l 45 (.ld1 (.t 44)),.a 46 (.cl 18 [(.t 43),(.t 45)] []),.v 42 46,.q 47 (.ex (.t 42) 0),.q 48 (.ex (.t 42) 1),.e 7 (.al (.agg #[(.int .i64 0),(.string (mk [])),(.int .i64 0),(.int .i64 0),(.string (mk [])),(.slice none 0 0),(.bool false)]) 52),.s (.st 7 (.t 7) (.t 47)),.v 8 48])) (lX)) (xO)
@[go_sem ↓] theorem aN6:aL F5:=aM _
def F6:PC:=.seq (.seq (.gh (.reg [.v 40 6,.q 41 (.not (.t 40))])) (.cond (.t 41) (.seq (.reg [.q 2 (.mv (.k (.bool false)))]) .ret) .skip)) (F5)
@[go_sem ↓] theorem aM8:aL F6:=aM _
def xA:PC:=.seq (.seq (.gh (.reg [.v 37 4,.q 38 (.bin .neq true (.t 37) (.i 0))])) (.cond (.t 38) (.seq (.reg [.a 39 (.cq 11 []),.v 2 39]) .ret) .skip)) (F6)
@[go_sem ↓] theorem aMI:aL xA:=aM _
def C5:PC:=.seq (.gh (.reg [.q 30 (.fa 0 (.t 1)),.l 31 (.ldn 3 (.t 30)),.q 32 (.fa 3 (.t 1)),.l 33 (.ld1 (.t 32)),.a 34 (.cl 17 [(.t 31),(.t 33)] []),.v 29 34,.q 35 (.ex (.t 29) 0),.q 36 (.ex (.t 29) 1),.e 5 (.al (.agg #[(.string (mk [])),(.slice none 0 0)]) 48),.s (.st 2 (.t 5) (.t 35)),.v 6 36])) (xA)
@[go_sem ↓] theorem aLA:aL C5:=aM _
def aCZ:PC:=.seq (.reg [.e 1 (.bx 45 (.t 0)),.q 2 (.mv (.k (.bool false)))]) (.seq (.reg [.q 20 (.fa 0 (.t 1)),.l 21 (.ldn 3 (.t 20)),.q 22 (.fa 3 (.t 1)),.l 23 (.ld1 (.t 22)),.q 24 (.fa 4 (.t 1)),.l 25 (.ldn 5 (.t 24)),.a 26 (.cl 9 [(.t 21),(.t 23),(.t 25)] []),.v 19 26,.q 27 (.ex (.t 19) 0),.q 28 (.ex (.t 19) 1),.v 3 27,.v 4 28]) (C5))
def aDX:List RV:=[.mv (.t 2)]
theorem aMN:aP Tryz.prog true ⟨fun r k=>if r=4/\k=0 then .q else if r=9/\k=0 then .q else if r=23/\k=1 then .q else if r=25/\k=0 then .q else if r=28/\k=6 then .q else if r=28/\k=18 then .q else .own [],fun r=>[2,3,5,7,8,10,11,18,19,23,24,26,28].contains r⟩ Tryz.f7=some (aCZ,aDX):=by kernel_rfl
end Go.Proofs.YthpbnmebjocbeaaGreat
