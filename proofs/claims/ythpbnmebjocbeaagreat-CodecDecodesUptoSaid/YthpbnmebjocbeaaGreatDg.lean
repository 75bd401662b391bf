/- Lemmas and walks for the proof. -/
import Derived.Test.YthpbnmebjocbeaaGreatDf
import Derived.Test.YthpbnmebjocbeaaGreatProg
import Derived.ProofKit
import Derived.OpenShut
import Derived.ChangeStays
import Derived.Deep.Slices
import Derived.JoinedCond
import Derived.KernelRfl
import Derived.Test.YthpbnmebjocbeaaGreatRows
set_option maxRecDepth 100000
set_option maxHeartbeats 8000000
namespace Go.Proofs.YthpbnmebjocbeaaGreat
open Go.W
def I3:PC:=.seq (.gh (.reg [.v 32 3,.q 33 (.bin .eql true (.t 32) (.k (.string (mk [1,1,3,2,1,1])))),.v 34 33,⟨some 35,(some (34,true)),.q (.mv (.t 4))⟩,⟨some 36,(some (34,true)),.q (.bin .eql true (.t 35) (.i 0))⟩,.a 37 (.pick (.t 34) (.t 36) (.k (.bool false))),.v 38 37,⟨some 39,(some (38,true)),.l (.ldn 5 (.t 5))⟩,⟨some 40,(some (38,true)),.l (.ldn 5 (.t 2))⟩,⟨some 41,(some (38,true)),.cq 14 [(.t 39),(.t 40)]⟩,.a 42 (.pick (.t 38) (.t 41) (.k (.bool false))),.v 43 42,⟨some 44,(some (43,true)),.q (.mv (.t 6))⟩,⟨some 45,(some (43,true)),.q (.bin .eql true (.t 44) (.i 0))⟩,.a 46 (.pick (.t 43) (.t 45) (.k (.bool false))),.v 47 46,⟨some 48,(some (47,true)),.q (.mv (.t 8))⟩,⟨some 49,(some (47,true)),.q (.bin .eql true (.t 48) (.i 2))⟩,.a 50 (.pick (.t 47) (.t 49) (.k (.bool false))),.v 0 50])) .ret
@[go_sem ↓] theorem aUB:aM I3:=aN _
def IN:PC:=.seq (.gh (.reg [.l 28 (.ldn 3 (.t 1)),.a 29 (.cl 12 [(.t 28),(.k (.string (mk [80]))),(.k (.string (mk [1,1,0])))] []),.v 27 29,.q 30 (.ex (.t 27) 0),.q 31 (.ex (.t 27) 1),.e 7 (.al (.agg cS) 29),.s (.st 5 (.t 7) (.t 30)),.v 8 31])) (I3)
@[go_sem ↓] theorem aWN:aM IN:=aN _
def JM:PC:=.seq (.gh (.reg [.l 23 (.ldn 3 (.t 1)),.a 24 (.cl 12 [(.t 23),(.k (.string (mk [80]))),(.k (.string (mk [1,1,3,2,1,1])))] []),.v 22 24,.q 25 (.ex (.t 22) 0),.q 26 (.ex (.t 22) 1),.e 5 (.al (.agg cS) 29),.s (.st 5 (.t 5) (.t 25)),.v 6 26])) (IN)
@[go_sem ↓] theorem aT8:aM JM:=aN _
def I9:PC:=.seq (.gh (.reg [.l 17 (.ldn 3 (.t 1)),.l 18 (.ldn 5 (.t 2)),.a 19 (.cl 9 [(.t 17),(.k (.string (mk [80]))),(.t 18)] []),.v 16 19,.q 20 (.ex (.t 16) 0),.q 21 (.ex (.t 16) 1),.v 3 20,.v 4 21])) (JM)
@[go_sem ↓] theorem aUM:aM I9:=aN _
def aHQ:PC:=.seq (.reg [.q 0 (.mv (.k (.bool false)))]) (.seq (.reg [.a 9 (.cl 29 [] []),.e 1 (.al (.agg #[(.int .i64 0),(.slice none 0 0),(.slice none 0 0)]) 25),.s (.st 3 (.t 1) (.t 9))]) (.seq (.reg [.q 10 (.bd [(.int .i64 0),(.int .i64 0),(.string (mk [])),(.slice none 0 0),(.slice none 0 0)] [(0,1,(.i 2)),(1,1,(.i (-2)))]),.q 11 (.bd [(.int .i64 0),(.int .i64 0),(.int .i64 0),(.string (mk [])),(.slice none 0 0),(.slice none 0 0)] [(0,1,(.i 1)),(1,5,(.t 10))]),.q 12 (.bd [(.int .i64 0),(.int .i64 0),(.string (mk [])),(.slice none 0 0),(.slice none 0 0)] [(0,1,(.i 1)),(1,1,(.i 1))]),.q 13 (.bd [(.int .i64 0),(.int .i64 0),(.int .i64 0),(.string (mk [])),(.slice none 0 0),(.slice none 0 0)] [(0,1,(.i 2)),(1,5,(.t 12))]),.e 14 (.bsl 76 6 [(.t 11),(.t 13)]),.q 15 (.bd [(.int .i64 0),(.int .i64 0),(.string (mk [])),(.slice none 0 0),(.slice none 0 0)] [(0,1,(.i 6)),(4,1,(.t 14))]),.e 2 (.al (.agg cS) 29),.s (.st 5 (.t 2) (.t 15))]) (I9)))
def aD4:List RV:=[.mv (.t 0)]
theorem aVQ:aO Tryz.prog true ⟨fun r k=>if r=6/\k=9 then .q else .own [],fun r=>[3,4,5,6].contains r⟩ Tryz.f11=some (aHQ,aD4):=by kernel_rfl
def aJS:PC:=.seq (.reg [.e 0 (.al (.agg #[(.int .i64 0),(.slice none 0 0),(.slice none 0 0)]) 25)]) (.seq (.reg [.q 1 (.bd [(.int .i64 0),(.int .i64 0),(.string (mk [])),(.slice none 0 0)] [(0,1,(.i 2)),(1,1,(.i 32))]),.q 2 (.bd [(.int .i64 0),(.string (mk [])),(.int .i64 0),(.int .i64 0),(.string (mk [])),(.slice none 0 0),(.bool false)] [(0,1,(.i 1)),(1,1,(.k (.string (mk [120])))),(2,4,(.t 1))]),.q 3 (.bd [(.int .i64 0),(.int .i64 0),(.string (mk [])),(.slice none 0 0)] [(0,1,(.i 1))]),.q 4 (.bd [(.int .i64 0),(.string (mk [])),(.int .i64 0),(.int .i64 0),(.string (mk [])),(.slice none 0 0),(.bool false)] [(0,1,(.i 2)),(1,1,(.k (.string (mk [111,110])))),(2,4,(.t 3))]),.e 5 (.bsl 52 7 [(.t 2),(.t 4)]),.q 6 (.bd [(.string (mk [])),(.slice none 0 0)] [(0,1,(.k (.string (mk [80])))),(1,1,(.t 5))]),.e 7 (.bslx 48 2 [(.t 6)]),.q 8 (.bd [(.int .i64 0),(.slice none 0 0),(.slice none 0 0)] [(0,1,(.i 1)),(2,1,(.t 7))]),.s (.st 3 (.t 0) (.t 8))]) .ret)
def aHE:List RV:=[.ld (.ldn 3 (.t 0))]
theorem aT7:aO Tryz.prog true ⟨fun r k=>if r=1/\k=6 then .q else .own [],fun _=>false⟩ Tryz.f29=some (aJS,aHE):=by kernel_rfl
def yF1:Fl:=⟨1,mk [120],.mk 2 32 (mk []) [],false⟩
def yF2:Fl:=⟨2,mk [111,110],.mk 1 0 (mk []) [],false⟩
def ySt:St:=⟨mk [80],[yF1,yF2]⟩
def yS:Sc:=⟨1,[],[ySt]⟩
def ySp:W.Spec:=fun av H K=>av=[]/\H=[]/\K (.va (.gs (aD yS))) []
theorem NH:Meets Tryz.prog 29 ySp:=by
 refine aF Tryz.func29 aT7 0 (by rw[Tryz.ntmps29];decide) (aB _) (fun av H K h=>by obtain ⟨rfl,_⟩:=h;rfl) ?_
 rintro av H K ⟨rfl,rfl,hK⟩
 simp(maxSteps:=9^6)-dsimp only[go_sem,aJS,aHE]
 refine .opn 1 _ _ _ rfl (.nfr 1 _ _ _ rfl (.shu 1 _ _ _ rfl ?_ (.pub 1 _ _ _ rfl ?_)))
 · simp[C.nf,C.shut]
 simp -dsimp only[go_sem,b5,C.nf,C.pub]
 refine .shu 2 _ _ _ rfl ?_ (.pub 2 _ _ _ rfl ?_)
 · simp[C.shut]
 simp -dsimp only[go_sem,b5,C.pub]
 refine .z (?_)
 simp -dsimp only[go_sem]
 exact hK
def yV:Vl:=.mk 6 0 (mk []) [] [(1,.mk 2 (-2) (mk []) [] []),(2,.mk 1 1 (mk []) [] [])]
abbrev yN:ByteArray:=mk [80]
theorem ye1:oK yS yN yV=([1,1,3,2,1,1],0):=by kernel_rfl
theorem ye2:dJ yS yN [1,1,3,2,1,1]=(yV,0):=by kernel_rfl
theorem ye3:dJ yS yN [1,1,0]=(v0,2):=by kernel_rfl
theorem aNQ:yS.ok:=by
 refine ⟨⟨by decide,by decide⟩,by decide,by decide,fun e he=>(by cases he),fun u hu=>?_⟩
 rw[List.mem_singleton.1 hu]
 refine ⟨by decide,by decide,fun f hf=>?_⟩
 have:f=yF1\/f=yF2:=by simpa[ySt] using hf
 rcases this with rfl|rfl
 · exact ⟨⟨by decide,by decide⟩,by decide,ty0 _ _ _ ⟨by decide,by decide⟩ ⟨by decide,by decide⟩ (by decide)⟩
 · exact ⟨⟨by decide,by decide⟩,by decide,ty0 _ _ _ ⟨by decide,by decide⟩ ⟨by decide,by decide⟩ (by decide)⟩
theorem aKT:UA yS=true:=by kernel_rfl
theorem Q0:yS.fit:=aB2 aNQ aKT
theorem VL:VlOk yV:=by
 have hf:∀k n:Int,bT k->bT n->VlOk (.mk k n (mk []) [] []):=fun k n h1 h2=>H3 h1 h2 (by decide)
 refine .mk ⟨by decide,by decide⟩ ⟨by decide,by decide⟩ (by decide) (by decide) (by decide) (fun x h=>by cases h) (fun x hx=>?_) (fun x hx=>?_)
 · have:x=(1,.mk 2 (-2) (mk []) [] [])\/x=(2,.mk 1 1 (mk []) [] []):=by simpa using hx
   rcases this with rfl|rfl<;>exact ⟨by decide,by decide⟩
 · have:x=(1,.mk 2 (-2) (mk []) [] [])\/x=(2,.mk 1 1 (mk []) [] []):=by simpa using hx
   rcases this with rfl|rfl
   · exact hf _ _ ⟨by decide,by decide⟩ ⟨by decide,by decide⟩
   · exact hf _ _ ⟨by decide,by decide⟩ ⟨by decide,by decide⟩
noncomputable def yE:cW:=[(29,.s ySp),(9,.s I0),(12,.s IK),(14,.f eqFn2)]
theorem aMV:sp yE 29=ySp:=rfl
theorem aPA:sp yE 9=I0:=rfl
theorem WA:sp yE 12=IK:=rfl
theorem aMT:nZ yE 14=some eqFn2:=rfl
theorem aVU {K:S->Hp->Prop} (hK:K (.tu [tA (mk [1,1,3,2,1,1]),iA .i64 0]) []) :
 I0 [.va (.gs [.vl (.int .i64 yS.ver),.fz (yS.es.map aZ),.fz (yS.ss.map aH)]),tS yN,.va (.gs [.vl (.int .i64 yV.k),.vl (.int .i64 yV.n),.vl (.string yV.s),.fz (yV.l.map aP),.fz (yV.f.map bD)])] [] K:=
 aH3 Q0 (by decide) VL (by rw[ye1];exact hK)
theorem aI4 {b:List UInt8} {v:Vl} {e:Int} {K:S->Hp->Prop} (h:dJ yS yN b=(v,e)) (hb:b.length<=9223372036854775807) (hK:K (.tu [.gs [.vl (.int .i64 v.k),.vl (.int .i64 v.n),.vl (.string v.s),.fz (v.l.map aP),.fz (v.f.map bD)],iA .i64 e]) []) :
 IK [.va (.gs [.vl (.int .i64 yS.ver),.fz (yS.es.map aZ),.fz (yS.ss.map aH)]),tS yN,tS (mk b)] [] K:=P6 Q0 hb (by rw[h];exact hK)
theorem UV:Meets Tryz.prog 11 qTrue.sp:=by
 refine aF (Γ:=yE) Tryz.func11 aVQ 0 (by rw[Tryz.ntmps11];decide) (aC NH (aC aC4 (aC MM (aG CZ (aB _))))) Q2 ?_
 rintro av H K ⟨⟨h,rfl⟩,hK⟩
 obtain rfl:av=[]:=h
 have hK:K (bS true) []:=hK
 have fin:∀R:Hp,W.Fin 0 K (bS true) R:=fun R=>.z ((by simpa[go_sem] using hK))
 clear hK
 simp(maxSteps:=9^6)-dsimp only[go_sem,aHQ,aD4,aMV]
 refine ⟨rfl,rfl,?_⟩
 simp(maxSteps:=9^6)-dsimp only[go_sem,aD]
 refine aA rfl (.opn 1 _ _ _ rfl (.nfr 1 _ _ _ rfl (.shu 1 _ _ _ rfl ?_ (.pub 1 _ _ _ rfl (.done ?_)))))
 · simp[C.nf,C.shut]
 have g0:(0:Int)=0:=rfl
 simp(maxSteps:=9^6)-dsimp only[go_sem,b5,C.nf,C.pub,I9,aPA]
 refine aVU ?_
 simp(maxSteps:=9^6)-dsimp only[go_sem]
 refine aA rfl (.done ?_)
 simp(maxSteps:=9^6)-dsimp only[go_sem,JM,WA]
 refine aI4 ye2 (by decide) ?_
 simp(maxSteps:=9^6)-dsimp only[go_sem]
 refine aA rfl (.done ?_)
 simp(maxSteps:=9^6)-dsimp only[go_sem,IN,WA]
 refine aI4 ye3 (by decide) ?_
 simp(maxSteps:=9^6)-dsimp only[go_sem]
 refine aA rfl (.done ?_)
 have k1:=cY VL
 have k2:=gD yV
 have kx1:o9 [.vl (.int .i64 6),.vl (.int .i64 0),.vl (.string (mk [])),.fz [],.fz [[.vl (.int .i64 1),.vl (.int .i64 2),.vl (.int .i64 (-2)),.vl (.string (mk [])),.fz [],.fz []],[.vl (.int .i64 2),.vl (.int .i64 1),.vl (.int .i64 1),.vl (.string (mk [])),.fz [],.fz []]]]:=k1
 have kx2:C.vv [.vl (.int .i64 6),.vl (.int .i64 0),.vl (.string (mk [])),.fz [],.fz [[.vl (.int .i64 1),.vl (.int .i64 2),.vl (.int .i64 (-2)),.vl (.string (mk [])),.fz [],.fz []],[.vl (.int .i64 2),.vl (.int .i64 1),.vl (.int .i64 1),.vl (.string (mk [])),.fz [],.fz []]]]=yV:=k2
 have g0:(([1,1,3,2,1,1]:List UInt8)==[1,1,3,2,1,1])=true:=by decide
 have g1:((0:Int)==0)=true:=rfl
 have g2:((2:Int)==2)=true:=rfl
 have g3:=nH yV
 simp(maxSteps:=9^6)-dsimp only[go_sem,I3,aMT,k1,k2,kx1,kx2,g0,g1,g2,g3,Bool.true_and]
 exact fin _
theorem C8:∀N,N<=8->Meets Tryz.prog 56 (rX N)
 |0,_=>⟨by kernel_rfl,by rintro xs vs E ro w K _ _ _ ⟨s,t,b,_,_,_,_,_,_,_,h,_⟩;have:=eE s t;omega⟩
 |N+1,h=>aEE (aFW (C8 N (by omega))) (wY (by omega) (C8 N (by omega)))
def VF:W.Spec:=fun av H K=>∃(s:Sc) (nm:ByteArray) (b:List UInt8),av=[.va (.gs (aD s)),tS nm,tS (mk b)]/\H=[]/\s.fit/\nm.size<=9223372036854775807/\b.length<=9223372036854775807/\K (.tu [.gs (aP (dJ s nm b).1),iA .i64 (dJ s nm b).2]) []
theorem aCF {s:Sc} {nm:ByteArray} {b:List UInt8} {K:S->Hp->Prop} (h1:s.fit) (h2:nm.size<=9223372036854775807) (h3:b.length<=9223372036854775807) (hK:K (.tu [.gs (aP (dJ s nm b).1),iA .i64 (dJ s nm b).2]) []) :
 VF [.va (.gs [.vl (.int .i64 s.ver),.fz (s.es.map aZ),.fz (s.ss.map aH)]),tS nm,tS (mk b)] [] K:=⟨s,nm,b,rfl,rfl,h1,h2,h3,hK⟩
theorem TO:Meets Tryz.prog 13 VF:=by
 refine aF Tryz.func13 aL9 3 (by rw[Tryz.ntmps13];decide) (aG SM (aC (wY (Nat.le_refl 8) (C8 8 (Nat.le_refl 8))) (aB _))) (fun av H K h=>by obtain ⟨_,_,_,rfl,_⟩:=h;rfl) ?_
 rintro av H K ⟨s,nm,b,rfl,rfl,hs,hnm,hb,hK⟩
 have fin:∀(v:Vl) (e:Int) (R:Hp),dJ s nm b=(v,e)->W.Fin 0 K (.tu [.gs [.vl (.int .i64 v.k),.vl (.int .i64 v.n),.vl (.string v.s),.fz (v.l.map aP),.fz (v.f.map bD)],iA .i64 e]) R:=fun v e R h=>by
  rw[h,aJ] at hK;exact .z ((by simpa[go_sem] using hK))
 clear hK
 unfold dJ at fin
 have k6:=dQ hs
 have k7:=gV s
 have hch:qI s nm=bif bI s != 0 then (default,bI s) else bif !(cD s.ss nm) then (default,6) else (stOf s (b9 nm),0):=rfl
 simp(maxSteps:=9^6)-dsimp only[go_sem,aD,YQ,WB,k6,k7]
 refine aA rfl (.done ?_)
 cases c1:bI s != 0 with
 |true=>
  rw[c1,cond_true] at fin hch
  simp(maxSteps:=9^6)-dsimp only[go_sem,pM,hch,c1]
  exact fin v0 _ _ rfl
 |false=>
 have hd:=zB hs (cU c1)
 rw[c1,cond_false] at fin hch
 cases c2:cD s.ss nm with
 |false=>
  rw[c2,Bool.not_false,cond_true] at fin hch
  have g:((6:Int) != 0)=true:=rfl
  simp(maxSteps:=9^6)-dsimp only[go_sem,pM,hch,g]
  exact fin v0 _ _ rfl
 |true=>
 rw[c2,Bool.not_true,cond_false] at fin hch
 have htop:=AH hd c2
 simp(maxSteps:=9^6)-dsimp only[go_sem,pM,hch,bne_self_eq_false]
 refine aA rfl (.done ?_)
 cases c3:decide ((2000:Int)<(b.length:Int)) with
 |true=>
  rw[c3,cond_true] at fin
  simp(maxSteps:=9^6)-dsimp only[go_sem,u3,c3]
  exact fin v0 _ _ rfl
 |false=>
 rw[c3,cond_false] at fin
 have c3':=of_decide_eq_false c3
 simp(maxSteps:=9^6)-dsimp only[go_sem,u3,c3]
 refine aA rfl (.done ?_)
 simp(maxSteps:=9^6)-dsimp only[go_sem,B4]
 refine MH hd hs hnm htop.2 (by have:fK s (b9 nm)<=6:=htop.1;omega) (by omega) fun w hw=>?_
 generalize hq:fZ (aV s 8) s (stOf s (b9 nm)).fs b=q at *
 obtain ⟨y,e⟩:=q
 have he0:(e != 0)=true->y=v0:=fun h=>by
  unfold fZ at hq
  cases hz:(cQ (aV s 8) s (stOf s (b9 nm)).fs b.length 0 b).2 != 0 with
  |true=>rw[hz,cond_true] at hq;exact (congrArg Prod.fst hq).symm
  |false=>rw[hz,cond_false] at hq;have:=congrArg Prod.snd hq;simp only at this;rw[<-this] at h;cases h
 simp only at fin hw ⊢
 cases c4:e != 0 with
 |true=>
  simp(maxSteps:=9^6)-dsimp only[go_sem,c4]
  have:=fin v0 e
  rw[he0 c4] at this
  exact this _ rfl
 |false=>
  obtain rfl:=hw (cU c4)
  simp(maxSteps:=9^6)-dsimp only[go_sem,c4]
  have h0:=cU c4
  subst h0
  exact fin w 0 _ rfl
theorem aET (s:Sc) (nm:ByteArray) (b:List UInt8):(dJ s nm b).2≠0->(dJ s nm b).1=v0:=by
 unfold dJ
 cases bI s != 0 with
 |true=>exact fun _=>rfl
 |false=>
 cases !(cD s.ss nm) with
 |true=>exact fun _=>rfl
 |false=>
 cases decide (2000<(b.length:Int)) with
 |true=>exact fun _=>rfl
 |false=>
 rw[cond_false,cond_false,cond_false]
 unfold fZ
 cases (cQ (aV s 8) s (stOf s (.mk 6 0 nm [])).fs b.length 0 b).2 != 0 with
 |true=>exact fun _=>rfl
 |false=>exact fun h=>absurd rfl h
theorem aEH {s:Sc} (hs:s.fit) {nm:ByteArray} (hnm:nm.size<=9223372036854775807) {b:List UInt8}:VlOk (dJ s nm b).1:=by
 cases c1:(dJ s nm b).2 != 0 with
 |true=>rw[aET s nm b (eL c1)];exact jE
 |false=>obtain ⟨_,_,_,_,_,h⟩:=aHD hs hnm (cU c1);exact h
def FJ:List S->Prop:=fun av=>match av with
 |[.va (.gs r),.va (.c1 (.vl (.string nm))),.va (.c1 (.vl (.string b)))]=>gK r/\nm.size<=9223372036854775807/\b.size<=9223372036854775807
 |_=>False
def ldFn:Fun:=⟨FJ,fun _=>bA true,fun _ _=>trivial⟩
theorem A6 {av:List S} (h:FJ av):∃(s:Sc) (nm:ByteArray) (b:List UInt8),av=[.va (.gs (aD s)),tS nm,tS (mk b)]/\s.fit/\nm.size<=9223372036854775807/\b.length<=9223372036854775807:=by
 unfold FJ at h
 split at h
 · rename_i r nm b
   obtain ⟨⟨s,rfl,hs⟩,hn,hb⟩:=h
   rw[dV] at hb
   exact ⟨s,_,bl b,by rw[gW],hs,hn,hb⟩
 · exact h.elim
attribute [go_sem] ldFn FJ
theorem KB:Meets Tryz.prog 4 ldFn.sp:=by
 refine aF Tryz.func4 aS1 3 (by rw[Tryz.ntmps4];decide) (aC MM (aC TO (aG CZ (aG UV (aB _))))) (fun av H K h=>by obtain ⟨_,_,_,rfl,_⟩:=A6 h.1.1;rfl) ?_
 rintro av H K ⟨⟨h,rfl⟩,hK⟩
 obtain ⟨s,nm,b,rfl,hs,hnm,hb⟩:=A6 h
 have hK:K (bS true) []:=hK
 clear h
 have fin:∀R:Hp,W.Fin 0 K (bS true) R:=fun R=>.z ((by simpa[go_sem] using hK))
 clear hK
 simp(maxSteps:=9^6)-dsimp only[go_sem,aD,aFY,aDO]
 refine P6 hs hb ?_
 have hvo:VlOk (dJ s nm b).1:=aEH hs hnm
 have k1:=cY hvo
 have k2:=gD (dJ s nm b).1
 have e2:((dJ s nm b).2==(dJ s nm b).2)=true:=beq_self_eq_true _
 have g3:=nH (dJ s nm b).1
 simp(maxSteps:=9^6)-dsimp only[go_sem]
 refine aA rfl (.done ?_)
 simp(maxSteps:=9^6)-dsimp only[go_sem,H8]
 refine aCF hs hnm hb ?_
 rw[aJ]
 simp(maxSteps:=9^6)-dsimp only[go_sem]
 refine aA rfl (.done ?_)
 simp(maxSteps:=9^6)-dsimp only[go_sem,HE,k1,k2,e2,g3,Bool.true_and]
 exact fin _
end Go.Proofs.YthpbnmebjocbeaaGreat
namespace Go.W
open Go.RowKit
structure Stay (w w':World):Prop where
 os:w'.os=w.os
 out:w'.output=w.output
 size:w.heap.size<=w'.heap.size
 keep:∀b:Nat,b<w.heap.size->w'.heap[b]? = w.heap[b]?
theorem Stay.kept {w w':World} (h:Stay w w') (may:MemPlace->Prop):w.keptBut w' may:=by
 refine ⟨h.os,h.out,fun i hi=>?_⟩
 rw[h.keep i hi]
 split
 · rename_i h1 h2;rw[h1] at h2;cases h2;exact ⟨rfl,rfl,rfl,fun _ _=>rfl⟩
 · rename_i h1 h2;rw[h1] at h2;cases h2;exact Or.inr ⟨rfl,rfl⟩
 · rfl
theorem Stay.frozen {w w':World} (h:Stay w w') {a:Addr} (ha:a.block<w.heap.size):w'.frozen? a=w.frozen? a:=by
 unfold World.frozen?;rw[h.keep _ ha]
theorem Stay.cell {w w':World} (h:Stay w w') {a:Addr} (ha:a.block<w.heap.size):w'.cell? a=w.cell? a:=by
 unfold World.cell?;rw[h.keep _ ha]
theorem aC6 {w:World} {ro:RO} (h:∀(b off:Nat) (v:Value),ro b off=some v->w.cell? ⟨b,off,none⟩=some v):Rel ⟨w,dH [],ro,gm []⟩ [] ro w where
 own:=fun n g blk h=>by simp at h
 inj:=fun n m gn gm bn bm b h=>by simp at h
 apart:=fun b off v _ n g blk h=>by simp at h
 rd:=h
 ro0:=fun _ _ _ h=>h
 rob:=fun b off v h=>.inl h
 par:=fun n b g blk h=>by simp at h
 gx:=.refl _
 sz:=Nat.le_refl _
 keep:=fun b _ _=>rfl
 os:=rfl
 tape:=rfl
 output:=rfl
theorem Meets.run {P:Program} {f:FuncId} {s:Fun} (hm:Meets P f s.sp) {av:List S} {vs:List Value} {ro:RO} {w:World} {x:A} (hpre:s.pre av) (hval:s.val av=x) (hl:av.length=vs.length)
 (hrel:∀(i:Nat) (x:S) (v:Value),av[i]? = some x->vs[i]? = some v->x.rel (gm []) ro v) (hro:∀(b off:Nat) (v:Value),ro b off=some v->w.cell? ⟨b,off,none⟩=some v) (hG:GR P ro w) :
 Calls P f vs.toArray w fun e w'=>∃v γ ro',e=.returned v/\S.rel γ ro' (.va x) v/\Stay w w':=by
 subst hval
 refine (hm.2 av vs [] ro w (fun r H=>r=.va (s.val av)/\H=[]) hl hrel (aC6 hro) ⟨⟨hpre,rfl⟩,rfl,rfl⟩ hG).mono ?_
 rintro e w' ⟨r,v,E',ro',rfl,h1,⟨rfl,h2⟩,h3⟩
 exact ⟨v,_,ro',rfl,h1,h3.os,h3.output,h3.sz,fun b hb=>h3.keep b hb (by simp[dH])⟩
theorem Meets.yes {P:Program} {f:FuncId} {s:Fun} (hm:Meets P f s.sp) {av:List S} {vs:List Value} {ro:RO} {w:World} (hpre:s.pre av) (hval:s.val av=.c1 (.vl (.bool true))) (hl:av.length=vs.length)
 (hrel:∀(i:Nat) (x:S) (v:Value),av[i]? = some x->vs[i]? = some v->x.rel (gm []) ro v) (hro:∀(b off:Nat) (v:Value),ro b off=some v->w.cell? ⟨b,off,none⟩=some v) (hG:GR P ro w) :
 Calls P f vs.toArray w fun e w'=>e=.returned (.bool true)/\Stay w w':=by
 refine (hm.run hpre hval hl hrel hro hG).mono ?_
 rintro e w' ⟨v,γ,ro',rfl,h1,h2⟩
 have:v=.bool true:=h1
 exact ⟨by rw[this],h2⟩
section
variable {H:Type} {enc:TypeId×Value->H} {P:Program}
theorem HP {f:Func} {s:ChangeSpec} {apart fresh handsOn again:Bool} {W W':World} {args:Array Value} {v:Value} {ds gs:List (DataW H)} {before pa pv:List MemPlace}
 (hW:DataW.Whole enc P f.params.toList s.vars apart W args.toList ds gs before)
 (hres:∀(b:Nat) (sp:Nat->Bool) (hd:Bool),DataW.TrodAll enc P W' b sp hd f.resultTypes.toList (v.resultList f.resultTypes.size) (s.fn H (ds++gs)).results [])
 (hargs:∀sp:Nat->Bool,(∀p∈before,sp p.block=true)->DataW.TrodAll enc P W' 0 sp true f.params.toList args.toList (s.fn H (ds++gs)).args pa)
 (hvars:∀sp:Nat->Bool,(∀p∈before,sp p.block=true)->DataW.TrodVars enc P W' sp s.vars (s.fn H (ds++gs)).vars pv)
 (hps:before=pa++pv) (hs:Stay W W')
 (hok:∀(j:Nat) (t:TypeId) (r:Value),f.resultTypes[j]? = some t->(v.resultList f.resultTypes.size)[j]? = some r->Value.okWide P W' .any 0 t r) :
 s.post enc P f apart fresh handsOn again W args v W':=by
 have hlt:∀p∈before,p.block<W.heap.size:=fun p hp=>hW.lt p hp
 have hsp:∀p∈before,(fun b=>decide (b<W.heap.size)) p.block=true:=fun p hp=>by simpa using hlt p hp
 have hall:∀p∈before,(fun _:Nat=>true) p.block=true:=fun _ _=>rfl
 obtain ⟨_,_,_,_,_,hz,hn⟩:=id hW
 refine ⟨ds,gs,before,[],pa,pv,hW,hres _ _ _,hargs _ hsp,hvars _ hsp,World.keptBut_mono (fun p hp=>⟨hp,.inr ?_⟩) (hs.kept (·∈before)),fun _=>⟨hok,_,_,([]++pa)++pv,
  ⟨[]++pa,pv,ChangeShapes.trodAll_append (hargs _ hall) (hres _ _ _),hvars _ hall,rfl,fun b off hp=>?_,fun ha=>?_⟩,fun p hp _=>?_⟩⟩
 · rw[hps,List.mem_append] at hp;exact hp
 · have hb:MemPlace.cell b off∈before:=by rw[hps];simpa using hp
   rw[hs.frozen (hlt _ hb)]
   exact hz b off hb
 · have:=hn ha
   rw[hps] at this
   simpa using this
 · rw[hps]
   simpa using hp
end
open Go.RowKit
def jR (W:World):RO:=fun b off=>W.cell? ⟨b,off,none⟩
theorem aF0 (W:World):∀(b off:Nat) (v:Value),jR W b off=some v->W.cell? ⟨b,off,none⟩=some v:=fun _ _ _ h=>h
theorem P5 (ro:RO):FzR ro [] (.slice none 0 0):=
 FzR.mk [] 1 none none (fun h=>absurd rfl h) 0 (fun _=>.bool true) (by simp) (by simp) (by simp) (by simp) (by simp) (by simp) (by simp)
def rU (P:Program):Bool:=(List.range P.types.size).all fun t=>match P.underlying t with|some (.slice e)=>decide (0<P.cellsOf e)|_=>true
section
variable {H:Type} {enc:TypeId×Value->H} {P:Program}
theorem R3 {W W':World} (h:Stay W W') {p:MemPlace} (hp:p.block<W.heap.size):W.sameAt W' p:=by
 cases p with
 |cell b off=>exact h.cell (a:=⟨b,off,none⟩) hp
 |map b=>exact h.keep b hp
theorem tR {W W':World} {sp:Nat->Bool} (hl:laidOutB P=true) (hm:mapsRowed P=true) (hs:rU P=true) (hst:Stay W W') :
 ∀{ts:List TypeId} {vs:List Value} {ds:List (DataW H)} {ps:List MemPlace},(∀t∈ts,t<P.types.size)->DataW.TrodAll enc P W 0 (fun _=>true) true ts vs ds ps->(∀p∈ps,p.block<W.heap.size)->(∀p∈ps,sp p.block=true)->
  DataW.TrodAll enc P W' 0 sp true ts vs ds ps
 |[],[],[],ps,_,h,_,_=>h
 |t::ts,v::vs,d::ds,ps,ht,h,hb,hp=>by
  obtain ⟨p,q,⟨n,h1⟩,h2,rfl⟩:=h
  have hsz:∀{t e:TypeId},t<P.types.size->P.underlying t=some (.slice e)->0<P.cellsOf e:=fun {t e} ht hu=>by
   have:=List.all_eq_true.1 hs t (List.mem_range.2 ht)
   rw[hu] at this
   simpa using this
  exact ⟨p,q,⟨n,DataW.trod_stays (T:=(· < P.types.size)) (kids_rows hl hm) hsz (fun h=>by cases h) (ht t (by simp)) h1 (fun x hx=>R3 hst (hb x (by simp[hx]))) (fun x hx=>hp x (by simp[hx]))⟩,
   tR hl hm hs hst (fun u hu=>ht u (by simp[hu])) h2 (fun x hx=>hb x (by simp[hx])) (fun x hx=>hp x (by simp[hx])),rfl⟩
 |[],_::_,_,_,_,h,_,_=>h.elim
 |[],[],_::_,_,_,h,_,_=>h.elim
 |_::_,[],_,_,_,h,_,_=>h.elim
 |_::_,_::_,[],_,_,h,_,_=>h.elim
theorem UT {f:Func} {s:ChangeSpec} {apart fresh handsOn again:Bool} {W W':World} {args:Array Value} {ds gs:List (DataW H)} {before:List MemPlace} {tb:TypeId}
 (hl:laidOutB P=true) (hm:mapsRowed P=true) (hsr:rU P=true) (hps:∀t∈f.params.toList,t<P.types.size) (hrt:f.resultTypes=#[tb]) (htb:P.underlying tb=some .bool)
 (hvars:s.vars=[]) (hW:DataW.Whole enc P f.params.toList s.vars apart W args.toList ds gs before) (hfn:s.fn H (ds++gs)={ results:=[.lit (.bool true)],args:=ds,vars:=[] }) (hst:Stay W W') :
 s.post enc P f apart fresh handsOn again W args (.bool true) W':=by
 have hlt:∀p∈before,p.block<W.heap.size:=fun p hp=>hW.lt p hp
 obtain ⟨p,q,hA,hV,hb,_,_⟩:=id hW
 have hq:q=[]:=by
  rw[hvars] at hV
  cases gs with
  |nil=>exact hV
  |cons g gs=>exact hV.elim
 subst hq
 have hbp:before=p:=by rw[hb];simp
 refine HP (pa:=p) (pv:=[]) hW (fun b sp hd=>?_) (fun sp hsp=>?_) (fun sp hsp=>?_) hb hst ?_
 · rw[hrt,hfn]
   exact ⟨[],[],⟨1,by simp[DataW.trod,Value.cells,htb]⟩,rfl,rfl⟩
 · rw[hfn]
   rw[hbp] at hlt hsp
   exact tR hl hm hsr hst hps hA hlt hsp
 · rw[hfn,hvars];rfl
 · intro j t r h1 h2
   rw[hrt] at h1 h2
   match j with
   |0=>
    cases h1
    cases h2
    simp[Value.okWide,Cell.okWide,Cell.ok,htb]
   |j+1=>cases h1
end
open Go.RowKit
inductive Fit (P:Program):TypeId->List C->Prop
 |int {t:TypeId} {k:IntKind} {n:Int}:P.underlying t=some (.int k)->(Lit.int k n).wf=true->Fit P t [.vl (.int k n)]
 |bool {t:TypeId} {b:Bool}:P.underlying t=some .bool->Fit P t [.vl (.bool b)]
 |str {t:TypeId} {s:ByteArray}:P.underlying t=some .string->s.size<=maxLen->Fit P t [.vl (.string s)]
 |sl {t e:TypeId} {xs:List (List C)}:P.underlying t=some (.slice e)->xs.length<=maxLen->(∀r∈xs,Fit P e r)->Fit P t [.fz xs]
 |st {t:TypeId} {fs:Array Field} {parts:List (List C)}:P.underlying t=some (.struct fs)->parts.length=fs.size->(∀(i:Nat) (f:Field) (p:List C),fs[i]? = some f->parts[i]? = some p->Fit P f.type p)->Fit P t parts.flatten
section
variable {P:Program} {t e:TypeId} {xs:List C}
theorem Fit.inv_int {k:IntKind} (ht:P.underlying t=some (.int k)) (h:Fit P t xs):∃n:Int,xs=[.vl (.int k n)]/\(Lit.int k n).wf=true:=by
 cases h with
 |int h1 h2=>rw[ht] at h1;cases h1;exact ⟨_,rfl,h2⟩
 |bool h1=>rw[ht] at h1;cases h1
 |str h1=>rw[ht] at h1;cases h1
 |sl h1=>rw[ht] at h1;cases h1
 |st h1=>rw[ht] at h1;cases h1
theorem Fit.inv_bool (ht:P.underlying t=some .bool) (h:Fit P t xs):∃b:Bool,xs=[.vl (.bool b)]:=by
 cases h with
 |int h1 h2=>rw[ht] at h1;cases h1
 |bool h1=>exact ⟨_,rfl⟩
 |str h1=>rw[ht] at h1;cases h1
 |sl h1=>rw[ht] at h1;cases h1
 |st h1=>rw[ht] at h1;cases h1
theorem Fit.inv_str (ht:P.underlying t=some .string) (h:Fit P t xs):∃s:ByteArray,xs=[.vl (.string s)]/\s.size<=maxLen:=by
 cases h with
 |int h1 h2=>rw[ht] at h1;cases h1
 |bool h1=>rw[ht] at h1;cases h1
 |str h1 h2=>exact ⟨_,rfl,h2⟩
 |sl h1=>rw[ht] at h1;cases h1
 |st h1=>rw[ht] at h1;cases h1
theorem Fit.inv_sl (ht:P.underlying t=some (.slice e)) (h:Fit P t xs):∃ys:List (List C),xs=[.fz ys]/\ys.length<=maxLen/\∀r∈ys,Fit P e r:=by
 cases h with
 |int h1 h2=>rw[ht] at h1;cases h1
 |bool h1=>rw[ht] at h1;cases h1
 |str h1=>rw[ht] at h1;cases h1
 |sl h1 h2 h3=>rw[ht] at h1;cases h1;exact ⟨_,rfl,h2,h3⟩
 |st h1=>rw[ht] at h1;cases h1
theorem Fit.inv_st {fs:Array Field} (ht:P.underlying t=some (.struct fs)) (h:Fit P t xs):∃parts:List (List C),xs=parts.flatten/\parts.length=fs.size/\∀(i:Nat) (f:Field) (p:List C),fs[i]? = some f->parts[i]? = some p->Fit P f.type p:=by
 cases h with
 |int h1 h2=>rw[ht] at h1;cases h1
 |bool h1=>rw[ht] at h1;cases h1
 |str h1=>rw[ht] at h1;cases h1
 |sl h1=>rw[ht] at h1;cases h1
 |st h1 h2 h3=>rw[ht] at h1;cases h1;exact ⟨_,rfl,h2,h3⟩
end
theorem Fit.rows {P:Program} {e:TypeId} {α:Type} {row:α->List C} {Q:α->Prop} {ys:List (List C)} (hi:∀r,Fit P e r->∃a,r=row a/\Q a) (h:∀r∈ys,Fit P e r):∃l:List α,ys=l.map row/\∀a∈l,Q a:=by
 induction ys with
 |nil=>exact ⟨[],rfl,fun a h=>by cases h⟩
 |cons r ys ih=>
  obtain ⟨l,h1,h2⟩:=ih fun r hr=>h r (List.mem_cons_of_mem _ hr)
  obtain ⟨a,h3,h4⟩:=hi r (h r (by simp))
  refine ⟨a::l,by rw[h1,h3];rfl,fun x hx=>?_⟩
  rcases List.mem_cons.1 hx with rfl|hx
  · exact h4
  · exact h2 x hx
def J6 (P:Program):Nat->List Field->Option Nat
 |o,[]=>some o
 |o,f::r=>if f.offset=o then J6 P (o+P.cellsOf f.type) r else none
def AX (P:Program) (ts:List TypeId):Bool:=ts.all fun t=>match P.underlying t with
 |some (.int _)|some .bool|some .string=>true
 |some (.slice e)=>ts.contains e&&decide (0<P.cellsOf e)
 |some (.struct fs)=>fs.toList.all (fun f=>ts.contains f.type)&&J6 P 0 fs.toList==some (P.cellsOf t)
 |_=>false
theorem TV {P:Program} {R:C->Value->Prop} {Q:Field->List C->Prop} {cs:List Value}:∀(fs:List Field) (o:Nat),J6 P o fs=some cs.length->
 (∀(i:Nat) (f:Field),fs[i]? = some f->∃p,Q f p/\All2 R p ((cs.drop f.offset).take (P.cellsOf f.type)))->
 ∃parts:List (List C),parts.length=fs.length/\(∀(i:Nat) (f:Field) (p:List C),fs[i]? = some f->parts[i]? = some p->Q f p)/\All2 R parts.flatten (cs.drop o)
 |[],o,ho,_=>by
  simp only[J6,aI] at ho
  subst ho
  exact ⟨[],rfl,fun i f p h=>by simp at h,by simpa using All2.nil⟩
 |f::fs,o,ho,h=>by
  simp only[J6] at ho
  split at ho
  · rename_i hf
    obtain ⟨parts,h1,h2,h3⟩:=TV fs _ ho fun i f hf=>h (i+1) f (by simpa using hf)
    obtain ⟨p,h4,h5⟩:=h 0 f rfl
    refine ⟨p::parts,by simp[h1],fun i g q hg hq=>?_,?_⟩
    · cases i with
      |zero=>simp at hg hq;subst hg hq;exact h4
      |succ i=>exact h2 i g q (by simpa using hg) (by simpa using hq)
    · have:cs.drop o=(cs.drop f.offset).take (P.cellsOf f.type)++cs.drop (o+P.cellsOf f.type):=by
       rw[hf,<-List.drop_drop,List.take_append_drop]
      rw[List.flatten_cons,this]
      exact h5.app h3
  · cases ho
section
variable {H:Type} {enc:TypeId×Value->H} {P:Program} {W:World} {ts:List TypeId}
theorem zC {b off len cap sz:Nat} {oa:Option Addr} (hoa:len≠0->oa=some ⟨b,off,none⟩) (hsz:0<sz) (X:Nat->List C) (hl:∀i,i<len->(X i).length=sz) (hc:len<=cap)
 (h:∀i,i<len->∀j c,(X i)[j]? = some c->∃v,W.cell? ⟨b,off+(i*sz+j),none⟩=some v/\c.fv (jR W) v/\c.shut=true) :
 FzR (jR W) ((List.range len).map X) (.slice oa len cap):=by
 have hz:∀x∈(List.range len).map X,x.length=sz:=fun x hx=>by
  obtain ⟨i,hi,rfl⟩:=List.mem_map.1 hx
  exact hl i (List.mem_range.1 hi)
 have hfl:∀k c,((List.range len).map X).flatten[k]? = some c->∃v,W.cell? ⟨b,off+k,none⟩=some v/\c.fv (jR W) v/\c.shut=true:=fun k c hk=>by
  have hkl:k<len*sz:=by
   have h1:=(bJ.1 hk).1
   rw[xC _ hz] at h1
   simpa using h1
  have hi:k / sz<len:=(Nat.div_lt_iff_lt_mul hsz).2 hkl
  have hj:=Nat.mod_lt k hsz
  have hg:=nY hz (i:=k / sz) (j:=k % sz) (by simpa using hi) hj
  rw[Nat.mul_comm,Nat.div_add_mod,hk] at hg
  have hxi:((List.range len).map X)[k / sz]? = some (X (k / sz)):=by simp[hi]
  rw[hxi,Option.bind_some] at hg
  have:=h (k / sz) hi (k % sz) c hg.symm
  rwa [Nat.mul_comm,Nat.div_add_mod] at this
 have hr:=FzR.mk (ro:=jR W) ((List.range len).map X) sz (some (b,off)) oa (fun hne=>hoa (fun e=>by subst e;simp at hne)) cap (fun k=>(W.cell? ⟨b,off+k,none⟩).getD undef) hz (by simpa using hc) (fun _=>rfl)
  (fun k c hk=>by
    obtain ⟨v,h2,_⟩:=hfl k c hk
    simp[jR,h2])
  (fun k v hk=>by
    obtain ⟨u,h1,h2,_⟩:=hfl k _ hk
    have:u=v:=h2
    simp[h1,this])
  (fun k ys hk=>by
    obtain ⟨u,h1,h2,_⟩:=hfl k _ hk
    have:FzR (jR W) ys u:=h2
    simpa[h1] using this)
  (fun c hc=>by
    obtain ⟨k,hk⟩:=List.mem_iff_getElem?.1 hc
    obtain ⟨u,_,_,h3⟩:=hfl k c hk
    exact h3)
 simpa using hr
theorem pA (hok:AX P ts=true):∀(n:Nat) (t:TypeId) (cs:List Value) (y:DataW H×List MemPlace),t∈ts->DataW.trod enc P W 0 (fun _=>true) true n t cs=some y->
 ∃xs,Fit P t xs/\All2 (C.fv (jR W)) xs cs/\∀c∈xs,c.shut=true
 |0,t,cs,y,_,h=>by simp[DataW.trod] at h
 |n+1,t,cs,y,ht,h=>by
  have h1:=List.all_eq_true.1 hok t ht
  split at h1
  · rename_i k hu
    obtain ⟨m,rfl,_,hw⟩:=DataW.trod_int hu h
    exact ⟨_,.int hu hw,.cons rfl .nil,fun c hc=>by simp at hc;subst hc;rfl⟩
  · rename_i hu
    obtain ⟨b,rfl,_⟩:=DataW.trod_bool hu h
    exact ⟨_,.bool hu,.cons rfl .nil,fun c hc=>by simp at hc;subst hc;rfl⟩
  · rename_i hu
    obtain ⟨s,rfl,_,hs⟩:=DataW.trod_string hu h
    exact ⟨_,.str hu hs,.cons rfl .nil,fun c hc=>by simp at hc;subst hc;rfl⟩
  · rename_i e hu
    simp only[Bool.and_eq_true,List.contains_iff_mem,decide_eq_true_eq] at h1
    obtain ⟨he,hpos⟩:=h1
    rcases DataW.trod_slice hu h with ⟨rfl,_⟩|⟨a,len,cap,elems,rest,n',hn',rfl,_,_,hl,hm,hel,hi,_⟩
    · exact ⟨_,.sl hu (Nat.zero_le _) (fun r hr=>by cases hr),.cons (P5 _) .nil,fun c hc=>by simp at hc;subst hc;rfl⟩
    · obtain rfl:n=n':=by omega
      have hall:∀i,i<len->∃x:List C,Fit P e x/\x.length=P.cellsOf e/\(∀j c,x[j]? = some c->∃v,W.cell? ((a.add (i*P.cellsOf e)).add j)=some v/\c.fv (jR W) v/\c.shut=true):=fun i hil=>by
       have h1:=hi i hil
       rw[aU (by omega)] at h1
       obtain ⟨cs',h2,h3⟩:=Option.bind_eq_some_iff.1 h1
       obtain ⟨x,h4,h5,h6⟩:=pA hok n e cs' _ he h3
       obtain ⟨_,h7,h8⟩:=World.cells?_some h2
       refine ⟨x,h4,h5.1.trans h7,fun j c hj=>?_⟩
       obtain ⟨v,h9,h10⟩:=h5.get hj
       have hjl:j<P.cellsOf e:=by rw[<-h7,<-h5.1];exact (bJ.1 hj).1
       refine ⟨v,?_,h10,h6 c (bY hj)⟩
       have:=h8 j hjl
       rwa [h9] at this
      by_cases h0:len=0
      · subst h0
        refine ⟨[.fz []],.sl hu (Nat.zero_le _) (fun r hr=>by cases hr),.cons ?_ .nil,fun c hc=>by simp at hc;subst hc;rfl⟩
        exact zC (b:=0) (off:=0) (fun h=>absurd rfl h) hpos (fun _=>[]) (fun i hi=>by omega) (Nat.zero_le _) (fun i hi=>by omega)
      · obtain ⟨x0,_,hx0l,hx0⟩:=hall 0 (by omega)
        have hsp:a.spot=none:=by
         have hx:∃c,x0[0]? = some c:=⟨_,aU (by omega)⟩
         obtain ⟨c,hc⟩:=hx
         obtain ⟨v,hv,_⟩:=hx0 0 c hc
         unfold World.cell? at hv
         split at hv
         · split at hv
           · cases hv
           · rename_i hs;simpa[Addr.add] using hs
         · cases hv
        obtain ⟨b,off,spot⟩:=a
        obtain rfl:spot=none:=hsp
        haveI:Inhabited (List C):=⟨[]⟩
        obtain ⟨X,hX⟩:=Go.Deep.choose_lt hall
        refine ⟨[.fz ((List.range len).map X)],.sl hu (by simp;omega) (fun r hr=>?_),.cons ?_ .nil,fun c hc=>by simp at hc;subst hc;rfl⟩
        · obtain ⟨i,hi,rfl⟩:=List.mem_map.1 hr
          exact (hX i (List.mem_range.1 hi)).1
        · exact zC (fun _=>rfl) hpos X (fun i hi=>(hX i hi).2.1) hl (fun i hi j c hj=>by
           obtain ⟨v,h2,h3⟩:=(hX i hi).2.2 j c hj
           exact ⟨v,by simpa[Go.WideShapes.add_plain,Nat.add_assoc] using h2,h3⟩)
  · rename_i fs hu
    simp only[Bool.and_eq_true,List.all_eq_true,List.contains_iff_mem,beq_iff_eq] at h1
    obtain ⟨hft,hof⟩:=h1
    obtain ⟨ys,n',hn,_,hcl,hyl,hf⟩:=DataW.trod_struct hu h
    obtain rfl:n=n':=by omega
    obtain ⟨parts,k1,k2,k3⟩:=TV (P:=P) (R:=fun c v=>C.fv (jR W) c v/\c.shut=true) (Q:=fun f p=>Fit P f.type p) (cs:=cs) fs.toList 0 (by rw[hcl];exact hof) (fun i f hfi=>by
     have hfi':fs[i]? = some f:=by simpa using hfi
     have h2:=hf i f hfi'
     have hil:i<fs.size:=(Array.getElem?_eq_some_iff.1 hfi').1
     rw[aU (by omega)] at h2
     obtain ⟨x,h4,h5,h6⟩:=pA hok n f.type _ _ (hft f (bY hfi)) h2
     exact ⟨x,h4,⟨h5.1,fun j c v hc hv=>⟨h5.2 j c v hc hv,h6 c (bY hc)⟩⟩⟩)
    refine ⟨parts.flatten,.st hu (by simpa using k1) (fun i f p hfi hp=>k2 i f p (by simpa using hfi) hp),?_,fun c hc=>?_⟩
    · simpa using k3.imp (fun _ _ h=>h.1)
    · obtain ⟨j,hj⟩:=List.mem_iff_getElem?.1 hc
      obtain ⟨v,_,_,h3⟩:=k3.get hj
      exact h3
  · cases h1
theorem AM (hok:AX P ts=true) {t:TypeId} {v:Value} {d:DataW H} {ps:List MemPlace} (ht:t∈ts) (h:DataW.Trod enc P W 0 (fun _=>true) true t v d ps):∃xs,Fit P t xs/\All2 (C.fv (jR W)) xs v.cells.toList/\∀c∈xs,c.shut=true:=by
 obtain ⟨n,h⟩:=h
 exact pA hok n t _ _ ht h
theorem R5 {c:C} {v:Value} (h:All2 (C.fv (jR W)) [c] v.cells.toList) (hv:v.cells.toList=[v]) (hs:c.shut=true):(S.va (.c1 c)).rel (gm []) (jR W) v:=by
 rw[hv] at h
 exact (C.rel_shut hs).2 (h.2 0 c v rfl rfl)
theorem aI2 {cs:List C} {vs:Array Value} (h:All2 (C.fv (jR W)) cs (Value.agg vs).cells.toList) (hs:∀c∈cs,c.shut=true):(S.va (.gs cs)).rel (gm []) (jR W) (.agg vs):=
 ⟨vs.toList,by simp,⟨by simpa[Value.cells] using h.1,fun i c v hc hv=>(C.rel_shut (hs c (bY hc))).2 (h.2 i c v hc (by simpa[Value.cells] using hv))⟩⟩
end
end Go.W
namespace Go.Proofs.YthpbnmebjocbeaaGreat
open Go.W
theorem v3:Tryz.prog.underlying 3=some (.int .i64):=by kernel_rfl
theorem v4:Tryz.prog.underlying 4=some .bool:=by kernel_rfl
theorem v9:Tryz.prog.underlying 9=some .string:=by kernel_rfl
theorem v22:Tryz.prog.underlying 22=some (.slice 118):=by kernel_rfl
theorem v23:Tryz.prog.underlying 23=some (.slice 48):=by kernel_rfl
theorem v30:Tryz.prog.underlying 46=some (.slice 52):=by kernel_rfl
theorem v35:Tryz.prog.underlying 116=some (.slice 9):=by kernel_rfl
theorem RB:Tryz.prog.underlying 40=some (.slice 42):=by kernel_rfl
theorem v45:Tryz.prog.underlying 64=some (.slice 3):=by kernel_rfl
theorem SB:Tryz.prog.underlying 42=some (.struct #[⟨"Kind",3,0,false,"","",0⟩,⟨"Size",3,1,false,"","",8⟩,⟨"Name",9,2,false,"","",16⟩,⟨"Elem",40,3,false,"","",32⟩]):=by kernel_rfl
theorem v53:Tryz.prog.underlying 52=some (.struct #[⟨"Number",3,0,false,"","",0⟩,⟨"Name",9,1,false,"","",8⟩,⟨"Type",42,2,false,"","",24⟩,⟨"Optional",4,6,false,"","",80⟩]):=by kernel_rfl
theorem v32:Tryz.prog.underlying 48=some (.struct #[⟨"Name",9,0,false,"","",0⟩,⟨"Fields",46,1,false,"","",16⟩]):=by kernel_rfl
theorem v47:Tryz.prog.underlying 118=some (.struct #[⟨"Name",9,0,false,"","",0⟩,⟨"Names",116,1,false,"","",16⟩,⟨"Numbers",64,2,false,"","",40⟩]):=by kernel_rfl
theorem v25:Tryz.prog.underlying 25=some (.struct #[⟨"Version",3,0,false,"","",0⟩,⟨"Enums",22,1,false,"","",8⟩,⟨"Structs",23,2,false,"","",32⟩]):=by kernel_rfl
theorem nE {α:Type} {row:α->List C} {Q:α->Prop} {ys:List (List C)} (h:∀r∈ys,∃a,r=row a/\Q a):∃l:List α,ys=l.map row/\∀a∈l,Q a:=by
 induction ys with
 |nil=>exact ⟨[],rfl,fun a h=>by cases h⟩
 |cons r ys ih=>
  obtain ⟨l,h1,h2⟩:=ih fun r hr=>h r (List.mem_cons_of_mem _ hr)
  obtain ⟨a,h3,h4⟩:=h r List.mem_cons_self
  refine ⟨a::l,by rw[h1,h3];rfl,fun x hx=>?_⟩
  rcases List.mem_cons.1 hx with rfl|hx
  · exact h4
  · exact h2 x hx
theorem GU {n:Int} (h:(Lit.int .i64 n).wf=true):bT n:=by simpa[bT,Lit.wf,IntKind.min,IntKind.max,IntKind.signed,IntKind.bits] using h
theorem x7 {n:Nat} (h:n<=maxLen):n<=9223372036854775807:=by unfold maxLen at h;exact h
theorem xZ {H:Type} {d:DataW H}:∀{l:List (DataW H)},d∈l->Rows.uptoBulk d<=Rows.uptoBulkAll l
 |x::r,h=>by
  simp only[Rows.uptoBulkAll]
  rcases List.mem_cons.1 h with rfl|e
  · omega
  · have:=xZ e;omega
theorem IX {H:Type} (d:DataW H):0<Rows.uptoBulk d:=by
 cases d with
 |lit l=>cases l<;>simp[Rows.uptoBulk]
 |_=>simp[Rows.uptoBulk]
theorem EW {H:Type}:∀l:List (DataW H),l.length<=Rows.uptoBulkAll l
 |[]=>Nat.zero_le _
 |d::l=>by have:=EW l;have:=IX d;simp only[Rows.uptoBulkAll,List.length_cons];omega
inductive FitB (P:Program):TypeId->List C->Nat->Prop
 |int {t:TypeId} {k:IntKind} {n:Int} {m:Nat}:P.underlying t=some (.int k)->(Lit.int k n).wf=true->FitB P t [.vl (.int k n)] m
 |bool {t:TypeId} {b:Bool} {m:Nat}:P.underlying t=some .bool->FitB P t [.vl (.bool b)] m
 |str {t:TypeId} {s:ByteArray} {m:Nat}:P.underlying t=some .string->s.size<=maxLen->FitB P t [.vl (.string s)] m
 |sl {t e:TypeId} {xs:List (List C)} {m:Nat}:P.underlying t=some (.slice e)->xs.length<=maxLen->xs.length<=m->(∀r∈xs,FitB P e r m)->FitB P t [.fz xs] (m+1)
 |st {t:TypeId} {fs:Array Field} {parts:List (List C)} {m:Nat}:P.underlying t=some (.struct fs)->parts.length=fs.size->(∀(i:Nat) (f:Field) (p:List C),fs[i]? = some f->parts[i]? = some p->FitB P f.type p m)->FitB P t parts.flatten (m+1)
theorem FitB.fit {P:Program} {t:TypeId} {xs:List C} {m:Nat} (h:FitB P t xs m):Fit P t xs:=by
 induction h with
 |int h1 h2=>exact .int h1 h2
 |bool h1=>exact .bool h1
 |str h1 h2=>exact .str h1 h2
 |sl h1 h2 _ _ ih=>exact .sl h1 h2 ih
 |st h1 h2 _ ih=>exact .st h1 h2 ih
theorem FitB.mono {P:Program} {t:TypeId} {xs:List C} {m:Nat} (h:FitB P t xs m):∀{n:Nat},m<=n->FitB P t xs n:=by
 induction h with
 |int h1 h2=>exact fun _=>.int h1 h2
 |bool h1=>exact fun _=>.bool h1
 |str h1 h2=>exact fun _=>.str h1 h2
 | @sl t e xs m h1 h2 h3 _ ih=>
  intro n hn
  obtain ⟨n,rfl⟩:∃k,n=k+1:=⟨n-1,by omega⟩
  exact .sl h1 h2 (by omega) fun r hr=>ih r hr (by omega)
 | @st t fs parts m h1 h2 _ ih=>
  intro n hn
  obtain ⟨n,rfl⟩:∃k,n=k+1:=⟨n-1,by omega⟩
  exact .st h1 h2 fun i f p hf hp=>ih i f p hf hp (by omega)
section
variable {P:Program} {t e:TypeId} {xs:List C} {m:Nat}
theorem FitB.inv_sl (ht:P.underlying t=some (.slice e)) (h:FitB P t xs (m+1)):∃ys:List (List C),xs=[.fz ys]/\ys.length<=m/\∀r∈ys,FitB P e r m:=by
 generalize hm:m+1=k at h
 cases h with
 |int h1 h2=>rw[ht] at h1;cases h1
 |bool h1=>rw[ht] at h1;cases h1
 |str h1=>rw[ht] at h1;cases h1
 |sl h1 h2 h3 h4=>rw[ht] at h1;cases h1;cases hm;exact ⟨_,rfl,h3,h4⟩
 |st h1 h2 h3=>rw[ht] at h1;cases h1
theorem FitB.inv_st {fs:Array Field} (ht:P.underlying t=some (.struct fs)) (h:FitB P t xs (m+1)):∃parts:List (List C),xs=parts.flatten/\parts.length=fs.size/\∀(i:Nat) (f:Field) (p:List C),fs[i]? = some f->parts[i]? = some p->FitB P f.type p m:=by
 generalize hm:m+1=k at h
 cases h with
 |int h1 h2=>rw[ht] at h1;cases h1
 |bool h1=>rw[ht] at h1;cases h1
 |str h1=>rw[ht] at h1;cases h1
 |sl h1=>rw[ht] at h1;cases h1
 |st h1 h2 h3=>rw[ht] at h1;cases h1;cases hm;exact ⟨_,rfl,h2,h3⟩
theorem FitB.inv_sl' (ht:P.underlying t=some (.slice e)) (h:FitB P t xs m):∃ys:List (List C),xs=[.fz ys]/\ys.length<=m/\∀r∈ys,FitB P e r m:=by
 obtain ⟨ys,h1,h2,h3⟩:=FitB.inv_sl ht (h.mono (Nat.le_succ m))
 exact ⟨ys,h1,h2,h3⟩
theorem FitB.inv_st' {fs:Array Field} (ht:P.underlying t=some (.struct fs)) (h:FitB P t xs m):∃parts:List (List C),xs=parts.flatten/\parts.length=fs.size/\∀(i:Nat) (f:Field) (p:List C),fs[i]? = some f->parts[i]? = some p->FitB P f.type p m:=
 FitB.inv_st ht (h.mono (Nat.le_succ m))
end
section
variable {H:Type} {enc:TypeId×Value->H} {P:Program} {W:World} {ts:List TypeId}
theorem nI (hok:AX P ts=true):∀(n:Nat) (t:TypeId) (cs:List Value) (y:DataW H×List MemPlace),t∈ts->DataW.trod enc P W 0 (fun _=>true) true n t cs=some y->
 ∃xs,FitB P t xs (Rows.uptoBulk y.1)/\All2 (C.fv (jR W)) xs cs/\∀c∈xs,c.shut=true
 |0,t,cs,y,_,h=>by simp[DataW.trod] at h
 |n+1,t,cs,y,ht,h=>by
  have h1:=List.all_eq_true.1 hok t ht
  split at h1
  · rename_i k hu
    obtain ⟨m,rfl,_,hw⟩:=DataW.trod_int hu h
    exact ⟨_,.int hu hw,.cons rfl .nil,fun c hc=>by simp at hc;subst hc;rfl⟩
  · rename_i hu
    obtain ⟨b,rfl,_⟩:=DataW.trod_bool hu h
    exact ⟨_,.bool hu,.cons rfl .nil,fun c hc=>by simp at hc;subst hc;rfl⟩
  · rename_i hu
    obtain ⟨s,rfl,_,hs⟩:=DataW.trod_string hu h
    exact ⟨_,.str hu hs,.cons rfl .nil,fun c hc=>by simp at hc;subst hc;rfl⟩
  · rename_i e hu
    simp only[Bool.and_eq_true,List.contains_iff_mem,decide_eq_true_eq] at h1
    obtain ⟨he,hpos⟩:=h1
    rcases DataW.trod_slice hu h with ⟨rfl,hy⟩|⟨a,len,cap,elems,rest,n',hn',rfl,hy,_,hl,hm,hel,hi,_⟩
    · refine ⟨_,(FitB.sl (m:=0) hu (Nat.zero_le _) (Nat.zero_le _) (fun r hr=>by cases hr)).mono (IX _),.cons (P5 _) .nil,fun c hc=>by simp at hc;subst hc;rfl⟩
    · obtain rfl:n=n':=by omega
      subst hy
      have hbk:Rows.uptoBulk (DataW.slice (elems.map (·.1)) (rest.map (·.1)))=Rows.uptoBulkAll (elems.map (·.1))+Rows.uptoBulkAll (rest.map (·.1))+1:=by simp only[Rows.uptoBulk]
      generalize hM:Rows.uptoBulkAll (elems.map (·.1))+Rows.uptoBulkAll (rest.map (·.1))=M at hbk
      show ∃xs,FitB P t xs (Rows.uptoBulk (DataW.slice (elems.map (·.1)) (rest.map (·.1))))/\_
      rw[hbk]
      have hlM:len<=M:=by
       have:=EW (elems.map (·.1))
       rw[List.length_map,hel] at this
       omega
      have hall:∀i,i<len->∃x:List C,FitB P e x M/\x.length=P.cellsOf e/\(∀j c,x[j]? = some c->∃v,W.cell? ((a.add (i*P.cellsOf e)).add j)=some v/\c.fv (jR W) v/\c.shut=true):=fun i hil=>by
       have h1:=hi i hil
       rw[aU (by omega)] at h1
       obtain ⟨cs',h2,h3⟩:=Option.bind_eq_some_iff.1 h1
       obtain ⟨x,h4,h5,h6⟩:=nI hok n e cs' _ he h3
       obtain ⟨_,h7,h8⟩:=World.cells?_some h2
       refine ⟨x,h4.mono ?_,h5.1.trans h7,fun j c hj=>?_⟩
       · have:=xZ (List.mem_map_of_mem (f:=(·.1)) (List.getElem_mem (show i<elems.length by omega)))
         omega
       obtain ⟨v,h9,h10⟩:=h5.get hj
       have hjl:j<P.cellsOf e:=by rw[<-h7,<-h5.1];exact (bJ.1 hj).1
       refine ⟨v,?_,h10,h6 c (bY hj)⟩
       have:=h8 j hjl
       rwa [h9] at this
      by_cases h0:len=0
      · subst h0
        refine ⟨[.fz []],.sl hu (Nat.zero_le _) (Nat.zero_le _) (fun r hr=>by cases hr),.cons ?_ .nil,fun c hc=>by simp at hc;subst hc;rfl⟩
        exact zC (b:=0) (off:=0) (fun h=>absurd rfl h) hpos (fun _=>[]) (fun i hi=>by omega) (Nat.zero_le _) (fun i hi=>by omega)
      · obtain ⟨x0,_,hx0l,hx0⟩:=hall 0 (by omega)
        have hsp:a.spot=none:=by
         have hx:∃c,x0[0]? = some c:=⟨_,aU (by omega)⟩
         obtain ⟨c,hc⟩:=hx
         obtain ⟨v,hv,_⟩:=hx0 0 c hc
         unfold World.cell? at hv
         split at hv
         · split at hv
           · cases hv
           · rename_i hs;simpa[Addr.add] using hs
         · cases hv
        obtain ⟨b,off,spot⟩:=a
        obtain rfl:spot=none:=hsp
        haveI:Inhabited (List C):=⟨[]⟩
        obtain ⟨X,hX⟩:=Go.Deep.choose_lt hall
        refine ⟨[.fz ((List.range len).map X)],.sl hu (by simp;omega) (by simpa using hlM) (fun r hr=>?_),.cons ?_ .nil,fun c hc=>by simp at hc;subst hc;rfl⟩
        · obtain ⟨i,hi,rfl⟩:=List.mem_map.1 hr
          exact (hX i (List.mem_range.1 hi)).1
        · exact zC (fun _=>rfl) hpos X (fun i hi=>(hX i hi).2.1) hl (fun i hi j c hj=>by
           obtain ⟨v,h2,h3⟩:=(hX i hi).2.2 j c hj
           exact ⟨v,by simpa[Go.WideShapes.add_plain,Nat.add_assoc] using h2,h3⟩)
  · rename_i fs hu
    simp only[Bool.and_eq_true,List.all_eq_true,List.contains_iff_mem,beq_iff_eq] at h1
    obtain ⟨hft,hof⟩:=h1
    obtain ⟨ys,n',hn,hy,hcl,hyl,hf⟩:=DataW.trod_struct hu h
    obtain rfl:n=n':=by omega
    subst hy
    show ∃xs,FitB P t xs (Rows.uptoBulk (DataW.agg (ys.map (·.1))))/\_
    rw[show Rows.uptoBulk (DataW.agg (ys.map (·.1)))=Rows.uptoBulkAll (ys.map (·.1))+1 by simp only[Rows.uptoBulk]]
    obtain ⟨parts,k1,k2,k3⟩:=TV (P:=P) (R:=fun c v=>C.fv (jR W) c v/\c.shut=true) (Q:=fun f p=>FitB P f.type p (Rows.uptoBulkAll (ys.map (·.1)))) (cs:=cs) fs.toList 0 (by rw[hcl];exact hof) (fun i f hfi=>by
     have hfi':fs[i]? = some f:=by simpa using hfi
     have h2:=hf i f hfi'
     have hil:i<fs.size:=(Array.getElem?_eq_some_iff.1 hfi').1
     rw[aU (by omega)] at h2
     obtain ⟨x,h4,h5,h6⟩:=nI hok n f.type _ _ (hft f (bY hfi)) h2
     exact ⟨x,h4.mono (xZ (List.mem_map_of_mem (f:=(·.1)) (List.getElem_mem (show i<ys.length by omega)))),⟨h5.1,fun j c v hc hv=>⟨h5.2 j c v hc hv,h6 c (bY hc)⟩⟩⟩)
    refine ⟨parts.flatten,.st hu (by simpa using k1) (fun i f p hfi hp=>k2 i f p (by simpa using hfi) hp),?_,fun c hc=>?_⟩
    · simpa using k3.imp (fun _ _ h=>h.1)
    · obtain ⟨j,hj⟩:=List.mem_iff_getElem?.1 hc
      obtain ⟨v,_,_,h3⟩:=k3.get hj
      exact h3
  · cases h1
theorem KJ (hok:AX P ts=true) {t:TypeId} {v:Value} {d:DataW H} {ps:List MemPlace} (ht:t∈ts) (h:DataW.Trod enc P W 0 (fun _=>true) true t v d ps):∃xs,FitB P t xs (Rows.uptoBulk d)/\All2 (C.fv (jR W)) xs v.cells.toList/\∀c∈xs,c.shut=true:=by
 obtain ⟨n,h⟩:=h
 exact nI hok n t _ _ ht h
end
theorem aOO:∀{t:TypeId} {cs:List C} {m:Nat},FitB Tryz.prog t cs m->m<=1048576->(t=42->∃a,cs=aQ a/\TyOk a/\TySm a/\(bN a).1<=m)/\(t=40->∃l:List Ty,cs=[.fz (l.map aQ)]/\l.length<=m/\∀a∈l,TyOk a/\TySm a/\(bN a).1+1<=m):=by
 intro t cs m h
 induction h with
 |int h1 _=>exact fun _=>⟨fun e=>(by rw[e,SB] at h1;cases h1),fun e=>(by rw[e,RB] at h1;cases h1)⟩
 |bool h1=>exact fun _=>⟨fun e=>(by rw[e,SB] at h1;cases h1),fun e=>(by rw[e,RB] at h1;cases h1)⟩
 |str h1 _=>exact fun _=>⟨fun e=>(by rw[e,SB] at h1;cases h1),fun e=>(by rw[e,RB] at h1;cases h1)⟩
 | @sl t e xs m h1 h2 h3 h4 ih=>
  intro hm
  refine ⟨fun e=>(by rw[e,SB] at h1;cases h1),fun e=>?_⟩
  subst e
  rw[RB] at h1
  cases h1
  obtain ⟨l,rfl,hl⟩:=nE (row:=aQ) (Q:=fun a=>TyOk a/\TySm a/\(bN a).1<=m) fun r hr=>(ih r hr (by omega)).1 rfl
  exact ⟨l,rfl,by simp at h3;omega,fun a ha=>⟨(hl a ha).1,(hl a ha).2.1,Nat.succ_le_succ (hl a ha).2.2⟩⟩
 | @st t fs parts m h1 h2 h3 ih=>
  intro hm
  refine ⟨fun e=>?_,fun e=>(by rw[e,RB] at h1;cases h1)⟩
  subst e
  rw[SB] at h1
  cases h1
  match parts,h2 with
  |[p0,p1,p2,p3],_=>
   obtain ⟨k,rfl,hk⟩:=Fit.inv_int v3 (h3 0 _ p0 rfl rfl).fit
   obtain ⟨s,rfl,hs⟩:=Fit.inv_int v3 (h3 1 _ p1 rfl rfl).fit
   obtain ⟨n,rfl,hn⟩:=Fit.inv_str v9 (h3 2 _ p2 rfl rfl).fit
   obtain ⟨l,rfl,hl,ho⟩:=(ih 3 _ p3 rfl rfl (by omega)).2 rfl
   refine ⟨.mk k s n l,by rw[aQ,aY];rfl,.mk (GU hk) (GU hs) (x7 hn) (by omega) fun a ha=>(ho a ha).1,.mk (by omega) fun a ha=>(ho a ha).2.1,?_⟩
   rw[bN]
   cases k==5 with
   |false=>exact Nat.zero_le _
   |true=>
    show (EO l _).1<=m+1
    cases l with
    |nil=>rw[EO];exact Nat.zero_le _
    |cons u r=>rw[EO];have:=(ho u List.mem_cons_self).2.2;show (bN u).1+1<=m+1;omega
theorem aFD (m:Nat) (hm:m<=1048576) (cs:List C) (h:FitB Tryz.prog 42 cs m):∃a,cs=aQ a/\TyOk a/\TySm a/\(bN a).1<=m:=(aOO h hm).1 rfl
theorem aEK {m:Nat} (hm:m<=1048576) {cs:List C} (h:FitB Tryz.prog 52 cs m):∃a:Fl,cs=aS a/\a.ok/\TySm a.ty/\(bN a.ty).1<=1000000000:=by
 obtain ⟨parts,rfl,h2,h3⟩:=FitB.inv_st' v53 h
 match parts,h2 with
 |[p0,p1,p2,p3],_=>
  obtain ⟨k,rfl,hk⟩:=Fit.inv_int v3 (h3 0 _ p0 rfl rfl).fit
  obtain ⟨n,rfl,hn⟩:=Fit.inv_str v9 (h3 1 _ p1 rfl rfl).fit
  obtain ⟨t,rfl,ht,hs,hl⟩:=aFD _ hm _ (h3 2 _ p2 rfl rfl)
  obtain ⟨b,rfl⟩:=Fit.inv_bool v4 (h3 3 _ p3 rfl rfl).fit
  exact ⟨⟨k,n,t,b⟩,by rw[aR];rfl,⟨GU hk,x7 hn,ht⟩,hs,by show (bN t).1<=_;omega⟩
theorem aIO {m:Nat} (hm:m<=1048576) {cs:List C} (h:FitB Tryz.prog 48 cs m):∃a:St,cs=aH a/\a.ok/\a.fs.length<=1000000000/\(∀f∈a.fs,TySm f.ty)/\∀f∈a.fs,(bN f.ty).1<=1000000000:=by
 obtain ⟨parts,rfl,h2,h3⟩:=FitB.inv_st' v32 h
 match parts,h2 with
 |[p0,p1],_=>
  obtain ⟨n,rfl,hn⟩:=Fit.inv_str v9 (h3 0 _ p0 rfl rfl).fit
  obtain ⟨ys,rfl,hl,hy⟩:=FitB.inv_sl' v30 (h3 1 _ p1 rfl rfl)
  obtain ⟨l,rfl,ho⟩:=nE (row:=aS) (Q:=fun f=>f.ok/\TySm f.ty/\(bN f.ty).1<=1000000000) fun r hr=>aEK hm (hy r hr)
  rw[List.length_map] at hl
  exact ⟨⟨n,l⟩,rfl,⟨x7 hn,by show l.length<=_;omega,fun f hf=>(ho f hf).1⟩,by show l.length<=_;omega,fun f hf=>(ho f hf).2.1,fun f hf=>(ho f hf).2.2⟩
theorem aHT {m:Nat} (hm:m<=1048576) {cs:List C} (h:FitB Tryz.prog 118 cs m):∃a:En,cs=aZ a/\a.ok/\a.ns.length<=1000000000/\a.vs.length<=1000000000:=by
 obtain ⟨parts,rfl,h2,h3⟩:=FitB.inv_st' v47 h
 match parts,h2 with
 |[p0,p1,p2],_=>
  obtain ⟨n,rfl,hn⟩:=Fit.inv_str v9 (h3 0 _ p0 rfl rfl).fit
  obtain ⟨ys,rfl,hl,hy⟩:=FitB.inv_sl' v35 (h3 1 _ p1 rfl rfl)
  obtain ⟨zs,rfl,hl2,hz⟩:=FitB.inv_sl' v45 (h3 2 _ p2 rfl rfl)
  obtain ⟨l,rfl,ho⟩:=nE (row:=bF) (Q:=fun b=>b.size<=9223372036854775807) fun r hr=>by
   obtain ⟨s,rfl,hs⟩:=Fit.inv_str v9 (hy r hr).fit;exact ⟨s,rfl,x7 hs⟩
  obtain ⟨k,rfl,hk⟩:=nE (row:=cK) (Q:=bT) fun r hr=>by
   obtain ⟨s,rfl,hs⟩:=Fit.inv_int v3 (hz r hr).fit;exact ⟨s,rfl,GU hs⟩
  rw[List.length_map] at hl hl2
  exact ⟨⟨n,l,k⟩,rfl,⟨x7 hn,by show l.length<=_;omega,by show k.length<=_;omega,ho,hk⟩,by show l.length<=_;omega,by show k.length<=_;omega⟩
theorem aHZ (m:Nat) (hm:m<=1048576) (cs:List C) (h:FitB Tryz.prog 25 cs m):∃a:Sc,cs=aD a/\a.fit:=by
 obtain ⟨parts,rfl,h2,h3⟩:=FitB.inv_st' v25 h
 match parts,h2 with
 |[p0,p1,p2],_=>
  obtain ⟨n,rfl,hn⟩:=Fit.inv_int v3 (h3 0 _ p0 rfl rfl).fit
  obtain ⟨ys,rfl,hl,hy⟩:=FitB.inv_sl' v22 (h3 1 _ p1 rfl rfl)
  obtain ⟨zs,rfl,hl2,hz⟩:=FitB.inv_sl' v23 (h3 2 _ p2 rfl rfl)
  obtain ⟨l,rfl,ho⟩:=nE (row:=aZ) (Q:=fun e:En=>e.ok/\e.ns.length<=1000000000/\e.vs.length<=1000000000) fun r hr=>aHT hm (hy r hr)
  obtain ⟨k,rfl,hk⟩:=nE (row:=aH) (Q:=fun a:St=>a.ok/\a.fs.length<=1000000000/\(∀f∈a.fs,TySm f.ty)/\∀f∈a.fs,(bN f.ty).1<=1000000000) fun r hr=>aIO hm (hz r hr)
  rw[List.length_map] at hl hl2
  exact ⟨⟨n,l,k⟩,rfl,⟨⟨GU hn,by show l.length<=_;omega,by show k.length<=_;omega,fun e he=>(ho e he).1,fun t ht=>(hk t ht).1⟩,fun t ht=>(hk t ht).2.2.2,fun t ht=>⟨(hk t ht).2.1,(hk t ht).2.2.1⟩,fun e he=>(ho e he).2⟩⟩
end Go.Proofs.YthpbnmebjocbeaaGreat
