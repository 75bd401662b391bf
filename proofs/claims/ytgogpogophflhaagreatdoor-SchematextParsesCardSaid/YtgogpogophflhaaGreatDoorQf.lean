/- Lemmas and walks for the proof. -/
import Derived.Test.YtgogpogophflhaaGreatDoorQe
import Derived.Test.YtgogpogophflhaaGreatDoorProg
import Derived.ChangeStays
import Derived.Deep.Slices
import Derived.JoinedCond
set_option maxRecDepth 100000
set_option maxHeartbeats 8000000
namespace Go.Proofs.YtgogpogophflhaaGreatDoor
open Go.W
def M8:W.Spec:=qW [] (fun ts z=>.va (.gs (aO (mG ts z).1))) fun ts z=>(mG ts z).2
theorem ZA {ts:List Tk} {z:Fs} {K:S->Hp->Prop} (h1:Tks ts) (h2:z.n < ts.length) (hK:K (.va (.gs (aO (mG ts z).1))) (eE ts (mG ts z).2)):M8 [.va (.c1 (.pt 0 0))] (eE ts z) K:=l6 (V:=fun ts z=>.va (.gs (aO (mG ts z).1))) (F:=fun ts z=>(mG ts z).2) h1 h2 hK
noncomputable def CT:dP:=[(46,.s oK),(47,.s oA),(49,.s DY),(94,.s CF)]
theorem aF4:sp CT 46=oK:=rfl
theorem aFO:sp CT 47=oA:=rfl
theorem aA3:sp CT 49=DY:=rfl
theorem aEX:sp CT 94=CF:=rfl
attribute [local go_sem] aF4 aFO aA3 aEX
theorem X6:Meets Tryz.prog 50 M8:=by
 refine aG (Γ:=CT) Tryz.func50 aOJ 1 (by rw [Tryz.ntmps50]; decide) (aA uY (aA BH (aA MT (aA OM (aB _))))) (fun av H K h=>by obtain ⟨_,_,rfl,_⟩:=h; rfl) ?_
 rintro av H K ⟨ts,z0,rfl,rfl,ht,hn0,hK⟩
 have hle:=ht.e.le
 have hK:K (.va (.gs (aO (mG ts z0).1))) (eE ts (mG ts z0).2):=hK
 unfold mG at hK
 simp (maxSteps:=9^6) -dsimp only [go_sem,Z9,NS]
 refine yM ht hn0 ?_
 have hn1:=(dY (c:=true) hn0).2
 simp only at hK
 generalize cB true ts z0=nm at *
 generalize bJ true ts z0=z1 at *
 simp (maxSteps:=9^6) -dsimp only [go_sem]
 refine eC ht hn1 ?_
 rw [show bl (mk [123])=[123] from rfl,gN ht hn1]
 have hn2:=(cF (w:=[123]) hn1).2
 generalize bG [123] ts z1=z2 at *
 simp (maxSteps:=9^6) -dsimp only [go_sem]
 refine cI (α:=Nat × List ByteArray × List Int × Fs) (fun x=>[(0,.va (.c1 (.pt 0 0))),(2,.va (.c1 (.pt 1 0))),(3,.va (.c1 (.pt 2 0)))])
  (fun x=>eE ts x.2.2.2 ++ [.cells [.vl (.string (mk [])),.vl (.slice none 0 0),.vl (.slice none 0 0)] 62,.cells [.vl (.string nm),.sl 3 x.2.1.length,.sl 4 x.2.2.1.length] 62,.row (x.2.1.map bQ) 9 1,.row (x.2.2.1.map eD) 3 1])
  (fun x=>x.2.2.2.n < ts.length/\x.2.1.length + x.1<=ts.length + 1/\x.2.2.1.length + x.1<=ts.length + 1/\(0 < x.1/\(x.2.2.2.bad=false->ts.length < x.2.2.2.n + x.1))/\tV ts x.1 x.2.1 x.2.2.1 x.2.2.2=tV ts (ts.length + 1) [] [] z2)
  (fun x=>x.1) (.nilc 2 1 9 1 _ _ rfl rfl (.nilc 2 2 3 1 _ _ rfl rfl (hY (ts.length + 1,[],[],z2) 5 ⟨hn2,by simp,by simp,⟨by simp,fun _=>by simp only; omega⟩,rfl⟩ ?_ ?_))) ?_
 · simp -dsimp only [go_sem]<;>simp
 · simp -dsimp only [go_sem]<;>simp
 rintro ⟨f,a,b,z⟩ ⟨h1,h2,h2',⟨h3,h3'⟩,h4⟩
 simp only at h1 h2 h2' h3 h3' h4
 obtain ⟨f,rfl⟩:∃ g,f=g + 1:=⟨f - 1,by omega⟩
 rw [sD] at h4
 have fin:∀ (a:List ByteArray) (b:List Int) (z:Fs),z.n < ts.length->((a,b),z)=tV ts (ts.length + 1) [] [] z2->vc CT 1 pc50_8.ungh
  (cJ [(0,.va (.c1 (.pt 0 0))),(2,.va (.c1 (.pt 1 0))),(3,.va (.c1 (.pt 2 0)))]) (eE ts z ++ [.cells [.vl (.string (mk [])),.vl (.slice none 0 0),.vl (.slice none 0 0)] 62,.cells [.vl (.string nm),.sl 3 a.length,.sl 4 b.length] 62,.row (a.map bQ) 9 1,.row (b.map eD) 3 1]) (eO 1 NS K):=fun a b z h1 e=>by
  rw [<-e] at hK
  simp (maxSteps:=9^6) -dsimp only [go_sem,pc50_8,NS]
  refine eC ht h1 ?_
  rw [show bl (mk [125])=[125] from rfl,gN ht h1]
  simp (maxSteps:=9^6) -dsimp only [go_sem]
  refine .pub 3 _ _ _ rfl (.pub 4 _ _ _ rfl (.sel [0] (by simp) (by simp [cC]) rfl (.done ?_)))
  simp (maxSteps:=9^6) -dsimp only [go_sem,cC]
  exact hK
 clear hK
 simp (maxSteps:=9^6) -dsimp only [go_sem]
 refine lS ht h1 ?_
 have e1:=JE ht h1
 have g1:=dY (c:=false) h1
 rw [e1.1]
 simp (maxSteps:=9^6) -dsimp only [go_sem,cQ,e1.2]
 have hbz:z.bad=true->(dU false ts (bG [61] ts (bJ false ts z))).bad=true:=fun h=>by
  have:=KB (ts:=ts) h
  unfold iY at this
  rw [this]; exact h
 unfold iY at h4
 generalize cB false ts z=w at *
 generalize bJ false ts z=y1 at *
 refine ⟨by omega,aU rfl (.done ?_)⟩
 simp (maxSteps:=9^6) -dsimp only [go_sem,G2]
 refine eC ht g1.2 ?_
 rw [show bl (mk [61])=[61] from rfl,gN ht g1.2]
 have g2:=cF (w:=[61]) g1.2
 generalize bG [61] ts y1=y2 at *
 simp (maxSteps:=9^6) -dsimp only [go_sem]
 refine aU rfl (.done ?_)
 simp (maxSteps:=9^6) -dsimp only [go_sem,HC]
 refine lS ht g2.2 ?_
 have e2:=oS ht g2.2
 have g3:=j3 (c:=false) g2.2
 rw [e2.1]
 simp (maxSteps:=9^6) -dsimp only [go_sem,cQ,e2.2]
 generalize eQ false ts y2=v at *
 generalize dU false ts y2=y3 at *
 refine ⟨by omega,aU rfl (.done ?_)⟩
 simp (maxSteps:=9^6) -dsimp only [go_sem,G8]
 refine rW ht g3.2 ?_
 rw [show bl (mk [44])=[44] from rfl]
 cases hc:aN 4 [44] ts y3 with
 | true=>
  obtain ⟨q1,q2,q3⟩:=jV (by decide) ht.e g3.2 hc
  have e3:aX 4 [44] ts y3=⟨false,y3.off,y3.n + 1⟩:=by unfold aX; rw [hc,q1]; rfl
  rw [hc,aK,e3] at h4
  have hzb:z.bad=false:=by
   cases hzb:z.bad with
   | false=>rfl
   | true=>rw [hbz hzb] at q3; cases q3
  have h3:=h3' hzb
  have hbv:bv y3=-1:=by unfold bv; rw [q3]; rfl
  simp (maxSteps:=9^6) -dsimp only [go_sem,hbv]
  refine ⟨by omega,aC (f,a ++ [w],b ++ [v],⟨false,y3.off,y3.n + 1⟩) 5 ⟨q2,?_,?_,⟨?_,fun _=>?_⟩,h4⟩ (by simp) ?_ ?_⟩
  · simp only [List.length_append,List.length_singleton]; omega
  · simp only [List.length_append,List.length_singleton]; omega
  · simp only; omega
  · simp only; omega
  · simp -dsimp only [go_sem]<;>simp
  · simp -dsimp only [go_sem]<;>simp [bv]
 | false=>
  rw [hc,aF] at h4
  simp (maxSteps:=9^6) -dsimp only [go_sem]
  refine cA 5 (fin (a ++ [w]) (b ++ [v]) y3 g3.2 h4) ?_ ?_
  · simp -dsimp only [go_sem]<;>simp
  · simp -dsimp only [go_sem]<;>simp
attribute [-go_sem] i7
def BL:W.Spec:=qW [] (fun ts z=>.va (.gs (aP (nT ts z).1))) fun ts z=>(nT ts z).2
theorem X8:Meets Tryz.prog 56 BL:=iJ 0 LE fun _av _H _K ⟨ts,z,e1,e2,h1,h2,hK⟩=>⟨ts.length,ts,z,e1,e2,h1,h2,by omega,hK⟩
theorem YT {ts:List Tk} {z:Fs} {K:S->Hp->Prop} (h1:Tks ts) (h2:z.n < ts.length) (hK:K (.va (.gs (aP (nT ts z).1))) (eE ts (nT ts z).2)):BL [.va (.c1 (.pt 0 0))] (eE ts z) K:=l6 (V:=fun ts z=>.va (.gs (aP (nT ts z).1))) (F:=fun ts z=>(nT ts z).2) h1 h2 hK
theorem PZ {t0:Ty} (h5:t0.k ≠ 5) (he:t0.e=[]):∀ d:List Int,LOk (b8 d t0)/\(b8 d t0).h=d.length + 1
 | []=>by
  obtain ⟨k,s,n,e⟩:=t0
  obtain rfl:e=[]:=he
  exact ⟨.stop (beq_eq_false_iff_ne.2 h5),by show (Ty.mk k s n []).h=_; rw [Ty.h,Ty.hs]; rfl⟩
 | s :: d=>by
  have ih:=PZ h5 he d
  refine ⟨.list ih.1,?_⟩
  show (Ty.mk 5 s (mk []) [b8 d t0]).h=_
  rw [Ty.h,Ty.hs,Ty.hs,ih.2,List.length_cons]; omega
theorem TyP.li {t:Ty} (h:TyP t):LOk t/\t.h<=4003:=by
 obtain ⟨d,t0,rfl,_,h2,h3,_,_,h6,_⟩:=h
 have:=PZ h2 h3 d
 exact ⟨this.1,by omega⟩
theorem Y1 {x:ByteArray} {K:S->Hp->Prop} (hK:K (.tu [.c1 (.fz ((bD (bl x)).toks.map cQ)),iA .i64 (bD (bl x)).err,iA .i64 (bD (bl x)).off]) []):i7 [tS x] [] K:=by
 unfold i7; exact hK
end Go.Proofs.YtgogpogophflhaaGreatDoor
namespace Go.Proofs.YtgogpogophflhaaGreatDoor
open Go.W
abbrev lL (l:List Fl):B:=.row (l.map bH) 64 7
def N6:W.Spec:=fun av H K=>∃ ts z,av=[.va (.c1 (.pt 0 0))]/\H=eE ts z/\Tks ts/\z.n < ts.length/\K (.va (.gs [.vl (.string (lX ts z).1.nm),.sl 1 (lX ts z).1.fs.length])) (eE ts (lX ts z).2 ++ [lL (lX ts z).1.fs])
theorem X2 {ts:List Tk} {z:Fs} {K:S->Hp->Prop} (h1:Tks ts) (h2:z.n < ts.length) (hK:K (.va (.gs [.vl (.string (lX ts z).1.nm),.sl 1 (lX ts z).1.fs.length])) (eE ts (lX ts z).2 ++ [lL (lX ts z).1.fs])):N6 [.va (.c1 (.pt 0 0))] (eE ts z) K:=⟨ts,z,rfl,rfl,h1,h2,hK⟩
noncomputable def x4:dP:=[(46,.s oK),(47,.s oA),(49,.s DY),(94,.s CF),(56,.s BL)]
theorem aC0:sp x4 46=oK:=rfl
theorem aBF:sp x4 47=oA:=rfl
theorem aED:sp x4 49=DY:=rfl
theorem aEE:sp x4 94=CF:=rfl
theorem aA8:sp x4 56=BL:=rfl
attribute [local go_sem] aC0 aBF aED aEE aA8
theorem aGN {ts:List Tk} {z:Fs} (h:z.n < ts.length):z.n<=(nT ts z).2.n/\(nT ts z).2.n < ts.length:=WU _ _ h
theorem P4:Meets Tryz.prog 51 N6:=by
 refine aG (Γ:=x4) Tryz.func51 aL8 1 (by rw [Tryz.ntmps51]; decide) (aA uY (aA BH (aA MT (aA OM (aA X8 (aB _)))))) (fun av H K h=>by obtain ⟨_,_,rfl,_⟩:=h; rfl) ?_
 rintro av H K ⟨ts,z0,rfl,rfl,ht,hn0,hK⟩
 have hle:=ht.e.le
 unfold lX at hK
 simp (maxSteps:=9^6) -dsimp only [go_sem,aAX,MJ]
 refine yM ht hn0 ?_
 have hn1:=(dY (c:=true) hn0).2
 simp only at hK
 generalize cB true ts z0=nm at *
 generalize bJ true ts z0=z1 at *
 simp (maxSteps:=9^6) -dsimp only [go_sem]
 refine eC ht hn1 ?_
 rw [show bl (mk [123])=[123] from rfl,gN ht hn1]
 have hn2:=(cF (w:=[123]) hn1).2
 generalize bG [123] ts z1=z2 at *
 simp (maxSteps:=9^6) -dsimp only [go_sem]
 refine cI (α:=Nat × List Fl × Fs) (fun x=>[(0,.va (.c1 (.pt 0 0))),(2,.va (.c1 (.pt 1 0))),(3,.va (.c1 (.pt 2 0)))])
  (fun x=>eE ts x.2.2 ++ [.cells [.vl (.string (mk [])),.vl (.slice none 0 0)] 56,.cells [.vl (.string nm),.sl 3 x.2.1.length] 56,lL x.2.1])
  (fun x=>x.2.2.n < ts.length/\x.2.1.length + x.1<=ts.length + 1/\(x.2.2.bad=false->ts.length < x.2.2.n + x.1)/\t6 ts x.1 x.2.1 x.2.2=t6 ts (ts.length + 1) [] z2)
  (fun x=>x.1) (.nilc 2 1 64 7 _ _ rfl rfl (hY (ts.length + 1,[],z2) 4 ⟨hn2,by simp,fun _=>by simp only; omega,rfl⟩ ?_ ?_)) ?_
 · simp -dsimp only [go_sem]<;>simp
 · simp -dsimp only [go_sem]<;>simp
 rintro ⟨f,l,z⟩ ⟨h1,h2,h3,h4⟩
 simp only at h1 h2 h3 h4
 have fin:(l,z)=t6 ts (ts.length + 1) [] z2->vc x4 1 pc51_13.ungh
  (cJ [(0,.va (.c1 (.pt 0 0))),(2,.va (.c1 (.pt 1 0))),(3,.va (.c1 (.pt 2 0)))]) (eE ts z ++ [.cells [.vl (.string (mk [])),.vl (.slice none 0 0)] 56,.cells [.vl (.string nm),.sl 3 l.length] 56,lL l]) (eO 1 MJ K):=fun e=>by
  rw [<-e] at hK
  simp (maxSteps:=9^6) -dsimp only [go_sem,pc51_13,MJ]
  refine eC ht h1 ?_
  rw [show bl (mk [125])=[125] from rfl,gN ht h1]
  simp (maxSteps:=9^6) -dsimp only [go_sem]
  refine .sel [0,3] (by simp) (by simp) rfl (.done ?_)
  simp (maxSteps:=9^6) -dsimp only [go_sem]
  exact hK
 clear hK
 obtain ⟨bb,oo,n⟩:=z
 cases bb with
 | true=>
  rw [wX rfl] at h4
  have hb:=m0 oo.toNat
  simp (maxSteps:=9^6) -dsimp only [go_sem,qT,hb]
  refine cA 4 (fin h4) ?_ ?_
  · simp -dsimp only [go_sem]<;>simp
  · simp -dsimp only [go_sem]<;>simp [bv]
 | false=>
 have h3:=h3 rfl
 simp only at h1 h3
 obtain ⟨f,rfl⟩:∃ g,f=g + 1:=⟨f - 1,by omega⟩
 rw [tH,Bool.false_or] at h4
 simp (maxSteps:=9^6) -dsimp only [go_sem,kR,mF]
 refine rW (z:=⟨false,oo,n⟩) ht h1 ?_
 rw [show bl (mk [125])=[125] from rfl]
 cases hh:aN 4 [125] ts ⟨false,oo,n⟩ with
 | true=>
  rw [hh,aK] at h4
  simp (maxSteps:=9^6) -dsimp only [go_sem]
  refine cA 4 (fin h4) ?_ ?_
  · simp -dsimp only [go_sem]<;>simp
  · simp -dsimp only [go_sem]<;>simp
 | false=>
 rw [hh,aF] at h4
 clear fin
 simp (maxSteps:=9^6) -dsimp only [go_sem]
 refine aU rfl (.done ?_)
 simp (maxSteps:=9^6) -dsimp only [go_sem,GY]
 have hgo:(qK ts ⟨false,oo,n⟩).2.n < ts.length/\((qK ts ⟨false,oo,n⟩).2.bad=false->ts.length < (qK ts ⟨false,oo,n⟩).2.n + f):=by
  have g:=BN (z:=⟨false,oo,n⟩) h1
  rw [IU ht h1]
  refine ⟨g.2,fun hb=>?_⟩
  have hk:((aT ts n).k != 2)=false:=by
   cases hk:(aT ts n).k != 2 with
   | false=>rfl
   | true=>rw [PS (z:=⟨false,oo,n⟩) hk rfl,iV] at hb; cases hb
  have hnu:gI false ts ⟨false,oo,n⟩=true:=by unfold gI; rw [bne_eq_false_iff_eq] at hk; simp [hk]
  obtain ⟨q1,q2,_⟩:=HE ht.e h1 hnu
  have hz1:(dU false ts ⟨false,oo,n⟩).n=n + 1:=by unfold dU; rw [hnu]; exact q1
  omega
 refine lS (z:=⟨false,oo,n⟩) ht h1 ?_
 have e1:=oS (z:=⟨false,oo,n⟩) ht h1
 have g1:=j3 (c:=false) (z:=⟨false,oo,n⟩) h1
 unfold qK n6 at h4 hgo
 rw [e1.1]
 simp (maxSteps:=9^6) -dsimp only [go_sem,cQ,e1.2]
 generalize eQ false ts ⟨false,oo,n⟩=v at *
 generalize dU false ts ⟨false,oo,n⟩=y1 at *
 refine aU rfl (.done ?_)
 simp (maxSteps:=9^6) -dsimp only [go_sem,IR]
 refine lS ht g1.2 ?_
 have e2:=JE ht g1.2
 have g2:=dY (c:=false) g1.2
 rw [e2.1]
 simp (maxSteps:=9^6) -dsimp only [go_sem,cQ,e2.2]
 generalize cB false ts y1=w at *
 generalize bJ false ts y1=y2 at *
 refine aU rfl (.done ?_)
 simp (maxSteps:=9^6) -dsimp only [go_sem,HP]
 refine eC ht g2.2 ?_
 rw [show bl (mk [58])=[58] from rfl,gN ht g2.2]
 have g3:=cF (w:=[58]) g2.2
 generalize bG [58] ts y2=y3 at *
 simp (maxSteps:=9^6) -dsimp only [go_sem]
 refine aU rfl (.done ?_)
 simp (maxSteps:=9^6) -dsimp only [go_sem,I4]
 refine YT ht g3.2 ?_
 have g4:=aGN g3.2
 generalize nT ts y3=r at *
 obtain ⟨t,y4⟩:=r
 simp only at h4 hgo g4
 simp (maxSteps:=9^6) -dsimp only [go_sem,bM t]
 refine aU rfl (.done ?_)
 simp (maxSteps:=9^6) -dsimp only [go_sem,JU]
 refine rW ht g4.2 ?_
 rw [show bl (mk [63])=[63] from rfl]
 cases hq:aN 4 [63] ts y4 with
 | true=>
  obtain ⟨q1,q2,q3⟩:=jV (by decide) ht.e g4.2 hq
  have e3:aX 4 [63] ts y4=⟨false,y4.off,y4.n + 1⟩:=by unfold aX; rw [hq,q1]; rfl
  have hbv:bv y4=-1:=by unfold bv; rw [q3]; rfl
  rw [hq,e3] at h4
  rw [e3] at hgo
  simp (maxSteps:=9^6) -dsimp only [go_sem,hbv]
  refine ⟨by omega,aU rfl (.done ?_)⟩
  simp (maxSteps:=9^6) -dsimp only [go_sem,wQ]
  refine eC (z:=⟨false,y4.off,y4.n + 1⟩) ht q2 ?_
  rw [show bl (mk [59])=[59] from rfl,gN (z:=⟨false,y4.off,y4.n + 1⟩) ht q2]
  have g6:=cF (w:=[59]) (z:=⟨false,y4.off,y4.n + 1⟩) q2
  generalize bG [59] ts ⟨false,y4.off,y4.n + 1⟩=y6 at *
  simp (maxSteps:=9^6) -dsimp only [go_sem]
  refine .done ?_
  simp (maxSteps:=9^6) -dsimp only [go_sem,bH]
  refine ⟨by omega,aC (f,l ++ [⟨v,w,t,true⟩],y6) 4 ⟨g6.2,?_,hgo.2,h4⟩ (by simp) ?_ ?_⟩
  · simp only [List.length_append,List.length_singleton]; omega
  · simp -dsimp only [go_sem]<;>simp
  · simp -dsimp only [go_sem,bH]<;>simp<;>rfl
 | false=>
  rw [hq,fM hq] at h4
  rw [fM hq] at hgo
  simp (maxSteps:=9^6) -dsimp only [go_sem]
  refine aU rfl (.done ?_)
  simp (maxSteps:=9^6) -dsimp only [go_sem,wQ]
  refine eC (z:=y4) ht g4.2 ?_
  rw [show bl (mk [59])=[59] from rfl,gN (z:=y4) ht g4.2]
  have g6:=cF (w:=[59]) (z:=y4) g4.2
  generalize bG [59] ts y4=y6 at *
  simp (maxSteps:=9^6) -dsimp only [go_sem]
  refine .done ?_
  simp (maxSteps:=9^6) -dsimp only [go_sem,bH]
  refine ⟨by omega,aC (f,l ++ [⟨v,w,t,false⟩],y6) 4 ⟨g6.2,?_,hgo.2,h4⟩ (by simp) ?_ ?_⟩
  · simp only [List.length_append,List.length_singleton]; omega
  · simp -dsimp only [go_sem]<;>simp
  · simp -dsimp only [go_sem,bH]<;>simp<;>rfl
def VW (N:Nat):W.Spec:=fun av H K=>∃ (t:Ty) (es:List En),av=[.va (.gs (aP t)),.va (.c1 (.fz (es.map aO)))]/\H=[]/\tX t/\TyOk t/\t.h<=N/\es.length<=1000000/\K (.va (.gs (aP (gS (es.map En.nm) t)))) []
theorem ZG {N:Nat} {t:Ty} {es:List En} {K:S->Hp->Prop} (h1:tX t) (h2:TyOk t) (h3:t.h<=N) (h4:es.length<=1000000) (hK:K (.va (.gs (aP (gS (es.map En.nm) t)))) []):VW N [.va (.gs (aP t)),.va (.c1 (.fz (es.map aO)))] [] K:=⟨t,es,rfl,rfl,h1,h2,h3,h4,hK⟩
theorem aHZ {ns:List ByteArray} {t:Ty} (h5:t.k ≠ 5) (h:(t.k == 6 && mV ns t.n)=false):gS ns t=t:=by rw [sL h5,h]; rfl
theorem zG:∀ N,Meets Tryz.prog 52 (VW N)
 | 0=>⟨by kernel_rfl,by rintro xs vs E ro w K _ _ _ ⟨t,_,_,_,_,_,h,_⟩; have:=t.h_pos; omega⟩
 | N + 1=>by
  refine aG Tryz.func52 aNV 2 (by rw [Tryz.ntmps52]; decide) (aA (zG N) (aB _)) (fun av H K h=>by obtain ⟨_,_,rfl,_⟩:=h; rfl) ?_
  rintro av H K ⟨t,es,rfl,rfl,⟨d,t0,rfl,h5,he,h6⟩,hok,hh,hle,hK⟩
  cases d with
  | cons s d=>
   have hK:K (.va (.gs (aP (.mk 5 s (mk []) [gS (es.map En.nm) (b8 d t0)])))) []:=hK
   have hu:TyOk (b8 d t0):=hok.e _ (List.mem_singleton.2 rfl)
   have huh:(b8 d t0).h<=N:=by
    have hh:(Ty.mk 5 s (mk []) [b8 d t0]).h<=N + 1:=hh
    rw [Ty.h,Ty.hs,Ty.hs] at hh; omega
   have hl:tX (b8 d t0):=⟨d,t0,rfl,h5,he,h6⟩
   show vc _ _ _ _ _ _
   simp only [show b8 (s :: d) t0=.mk 5 s (mk []) [b8 d t0] from rfl]
   generalize b8 d t0=u at *
   generalize hr:gS (es.map En.nm) u=r at *
   simp (maxSteps:=9^6) -dsimp only [go_sem,aP,aZ,RU,UC,List.map_cons,List.map_nil,List.length_cons,List.length_nil,forall_eq']
   refine ⟨⟨by omega,dF u⟩,by rw [dF]; decide,ZG hl hu huh hle ?_⟩
   rw [hr]
   simp (maxSteps:=9^6) -dsimp only [go_sem]
   refine ⟨⟨dF r,fun c hc=>vH r c hc⟩,.pub 2 _ _ _ rfl (.sel [] (by simp) (by simp [cC]) rfl (.done ?_))⟩
   simp (maxSteps:=9^6) -dsimp only [go_sem,cC]
   rw [bM] at hK
   exact hK
  | nil=>
   have hK:K (.va (.gs (aP (gS (es.map En.nm) t0)))) []:=hK
   have hk5:(t0.k == 5)=false:=beq_eq_false_iff_ne.2 h5
   show vc _ _ _ _ _ _
   simp only [show b8 [] t0=t0 from rfl]
   simp (maxSteps:=9^6) -dsimp only [go_sem,bM t0,RU,UC,hk5]
   have hin:∀ n,mV (es.map En.nm) n=es.any fun e=>decide (e.nm=n):=fun n=>by unfold mV; rw [List.any_map]; rfl
   refine aR (α:=Nat) (fun i=>[(1,.va (.c1 (.fz (es.map aO)))),(2,.va (.c1 (.pt 0 0))),(4,.va (.c1 (.pt 1 0))),(5,iS .i64 i)]) (fun _=>[.cells (aP t0) 37,.cells [.vl (.int .i64 0),.vl (.int .i64 0),.vl (.string (mk [])),.vl (.slice none 0 0)] 37])
    (fun i=>i<=es.length/\((t0.k == 6)=true->(es.drop i).any (fun e=>decide (e.nm=t0.n))=es.any fun e=>decide (e.nm=t0.n))) (fun i=>es.length - i) 0 2 ⟨Nat.zero_le _,fun _=>rfl⟩ ?_ ?_ ?_
   · simp -dsimp only [go_sem]<;>simp
   · simp -dsimp only [go_sem]<;>simp [bM t0]
   rintro i ⟨hi,ho⟩
   rcases bL i es.length with hlt | hge
   · have hg:decide ((i:Int) < (es.length:Int))=true:=by simp; omega
     obtain ⟨e,hx⟩:∃ e,es[i]? = some e:=⟨_,bB hlt⟩
     have q2:=aQ (row:=aO) hx
     cases hk6:t0.k == 6 with
     | false=>
      simp (maxSteps:=9^6) -dsimp only [go_sem,hg,↓q2,aO,bM t0,hk6]
      refine ⟨by omega,aC (i + 1) 2 ⟨by omega,fun h=>?_⟩ (by omega) ?_ ?_⟩
      · cases h
      · simp -dsimp only [go_sem]<;>simp
      · simp -dsimp only [go_sem]<;>simp [bM t0]
     | true=>
      have ho:=ho hk6
      rw [dJ hx] at ho
      simp (maxSteps:=9^6) -dsimp only [go_sem,hg,↓q2,aO,bM t0,hk6,dO]
      refine ⟨by omega,fun hc=>?_,fun hc=>⟨by omega,aC (i + 1) 2 ⟨by omega,fun _=>?_⟩ (by omega) ?_ ?_⟩⟩
      · have hyes:mV (es.map En.nm) t0.n=true:=by
         rw [hin,List.any_eq_true]
         exact ⟨e,bW hx,hc⟩
        have hs0:=h6 (eq_of_beq hk6)
        rw [sL h5,hk6,hyes,hs0,he] at hK
        refine .z (?_)
        simp -dsimp only [go_sem]
        exact hK
      · rw [hc,Bool.false_or] at ho; exact ho
      · simp -dsimp only [go_sem]<;>simp
      · simp -dsimp only [go_sem]<;>simp [bM t0]
   · have hg:decide ((i:Int) < (es.length:Int))=false:=by simp; omega
     obtain rfl:i=es.length:=by omega
     have hno:(t0.k == 6 && mV (es.map En.nm) t0.n)=false:=by
      cases hk6:t0.k == 6 with
      | false=>rfl
      | true=>
       have ho:=ho hk6
       rw [List.drop_length] at ho
       rw [hin,<-ho]; rfl
     rw [aHZ h5 hno] at hK
     simp (maxSteps:=9^6) -dsimp only [go_sem,hg,bM t0]
     rw [bM] at hK
     refine .z (?_)
     simp -dsimp only [go_sem]
     exact hK
def yE:PC:=.gh (.reg [.v 48 8,.q 49 (.nc (.t 48)),.q 50 (.fa 1 (.t 49)),.l 51 (.ld1 (.t 50)),.q 52 (.bin .add true (.t 51) (.i 1)),.q 53 (.nc (.t 48)),.q 54 (.fa 1 (.t 53)),.s (.st 1 (.t 54) (.t 52))])
@[go_sem ↓] theorem aIT:bT yE:=bY _
def yU:PC:=.gh (.reg [.v 62 8,.a 63 (.cl 46 [(.t 62),(.i 1),(.k (.string (mk [115,116,114,117,99,116])))] [1])])
@[go_sem ↓] theorem aHV:bT yU:=bY _
def DV:List OJ:=[.rc (.q 99 (.fa 2 (.t 9))),.rc (.l 100 (.ld1 (.t 99))),.rc (.v 101 10),.rc (.l 102 (.ia 2 (.t 100) (.t 101))),.rc (.q 103 (.fa 1 (.t 102))),.rc (.l 104 (.ld1 (.t 103))),.rc (.v 105 11),.q (.l 119 (.ia 7 (.t 104) (.t 105))),.q (.q 120 (.fa 2 (.t 119))),.m (.s (.st 4 (.t 120) (.t 118)))]
def zB:PC:=.gh (.ord  (.q (.q 99 (.fa 2 (.t 9))) :: .q (.l 100 (.ld1 (.t 99))) :: .q (.v 101 10) :: .q (.l 102 (.ia 2 (.t 100) (.t 101))) :: .q (.q 103 (.fa 1 (.t 102))) :: .q (.l 104 (.ld1 (.t 103))) :: .q (.v 105 11) :: .q (.q 106 (.fa 2 (.t 9))) :: .q (.l 107 (.ld1 (.t 106))) :: .q (.v 108 10) :: .q (.l 109 (.ia 2 (.t 107) (.t 108))) :: .q (.q 110 (.fa 1 (.t 109))) :: .q (.l 111 (.ld1 (.t 110))) :: .q (.v 112 11) :: .q (.l 113 (.ia 7 (.t 111) (.t 112))) :: .q (.q 114 (.fa 2 (.t 113))) :: .q (.l 115 (.ldn 4 (.t 114))) :: .q (.q 116 (.fa 1 (.t 9))) :: .q (.l 117 (.ld1 (.t 116))) :: .m (.a 118 (.cl 52 [(.t 115),(.t 117)] [])) :: DV))
@[go_sem ↓] theorem aIY:bT zB:=bY _
def sV:PC:=.seq (.gh (.reg [.v 123 12,.q 124 (.bin .neq true (.t 123) (.i 0))])) (.cond (.t 124) (.seq (.reg [.q 125 (.bd [(.int .i64 0),(.slice none 0 0),(.slice none 0 0)] []),.v 126 12,.s (.st 3 (.t 2) (.t 125)),.v 3 126,.q 4 (.mv (.i 0))]) .ret) .skip)
@[go_sem ↓] theorem aJA:bT sV:=bY _
def x5:PC:=.seq (.gh (.reg [.l 127 (.ldn 3 (.t 9)),.s (.st 3 (.t 2) (.t 127)),.q 3 (.mv (.i 0)),.q 4 (.mv (.i 0))])) .ret
@[go_sem ↓] theorem aI0:bT x5:=bY _
def pcI15_23:PC:=.seq (.seq (.gh (.reg [.l 121 (.ldn 3 (.t 9)),.a 122 (.cq 9 [(.t 121)]),.v 12 122])) (sV)) (x5)
@[go_sem ↓] theorem aHL:bT pcI15_23:=bY _
def pcI15_16:PC:=.seq (.seq (.gh (.reg [.q 10 (.mv (.i 0))])) (.block 2 (.loop (.seq (.seq (.reg [.v 81 10,.q 82 (.fa 2 (.t 9)),.l 83 (.ld1 (.t 82)),.q 84 (.lnL (.t 83)),.q 85 (.bin .lss true (.t 81) (.t 84))]) (.cond (.t 85) .skip (.exit 2))) (.seq (.block 3 (.seq (.reg [.q 11 (.mv (.i 0))]) (.block 4 (.loop (.seq (.seq (.reg [.v 88 11,.q 89 (.fa 2 (.t 9)),.l 90 (.ld1 (.t 89)),.v 91 10,.l 92 (.ia 2 (.t 90) (.t 91)),.q 93 (.fa 1 (.t 92)),.l 94 (.ld1 (.t 93)),.q 95 (.lnL (.t 94)),.q 96 (.bin .lss true (.t 88) (.t 95))]) (.cond (.t 96) .skip (.exit 4))) (.seq (.block 5 (zB)) (.reg [.v 97 11,.q 98 (.bin .add true (.t 97) (.i 1)),.v 11 98]))))))) (.reg [.v 86 10,.q 87 (.bin .add true (.t 86) (.i 1)),.v 10 87])))))) (pcI15_23)
@[go_sem ↓] theorem aJB:bT pcI15_16:=bY _
def pcI15_14:PC:=.seq (.seq (.gh (.reg [.v 71 8,.q 72 (.nc (.t 71)),.q 73 (.fa 2 (.t 72)),.l 74 (.ld1 (.t 73)),.q 75 (.bin .geq true (.t 74) (.i 0))])) (.cond (.t 75) (.seq (.ord  [.q (.q 76 (.bd [(.int .i64 0),(.slice none 0 0),(.slice none 0 0)] [])),.q (.v 77 8),.q (.q 78 (.nc (.t 77))),.q (.q 79 (.fa 2 (.t 78))),.q (.l 80 (.ld1 (.t 79))),.m (.s (.st 3 (.t 2) (.t 76))),.rc (.v 77 8),.rc (.q 78 (.nc (.t 77))),.rc (.q 79 (.fa 2 (.t 78))),.rc (.l 80 (.ld1 (.t 79))),.m (.q 3 (.mv (.i 2))),.rc (.v 77 8),.rc (.q 78 (.nc (.t 77))),.rc (.q 79 (.fa 2 (.t 78))),.rc (.l 80 (.ld1 (.t 79))),.m (.v 4 80)]) .ret) .skip)) (pcI15_16)
@[go_sem ↓] theorem aHG:bT pcI15_14:=bY _
def pcI15_7:PC:=.seq (.gh (.reg [.v 33 8,.a 34 (.cl 46 [(.t 33),(.i 4),(.k (.string (mk [59])))] [1])])) (.seq (.block 0 (.loop (.seq (.seq (.reg [.v 35 8,.q 36 (.nc (.t 35)),.q 37 (.fa 2 (.t 36)),.l 38 (.ld1 (.t 37)),.q 39 (.bin .lss true (.t 38) (.i 0)),.v 40 39,⟨some 41,(some (40,true)),.q (.mv (.t 8))⟩,⟨some 42,(some (40,true)),.cl 48 [(.t 41)] [1]⟩,⟨some 43,(some (40,true)),.q (.fld1 0 (.t 42))⟩,⟨some 44,(some (40,true)),.q (.bin .neq true (.t 43) (.i 0))⟩,.a 45 (.pick (.t 40) (.t 44) (.k (.bool false)))]) (.cond (.t 45) .skip (.exit 0))) (.block 1 (.seq (.reg [.v 46 8,.a 47 (.cl 49 [(.t 46),(.i 1),(.k (.string (mk [101,110,117,109])))] [1])]) (.cond (.t 47) (.seq (yE) (.gh (.ord  [.q (.q 55 (.fa 1 (.t 9))),.q (.l 56 (.ld1 (.t 55))),.q (.v 57 8),.m (.a 58 (.cl 50 [(.t 57)] [1])),.rc (.q 55 (.fa 1 (.t 9))),.rc (.l 56 (.ld1 (.t 55))),.m (.e 59 (.bsl 62 3 [(.t 58)])),.rc (.q 55 (.fa 1 (.t 9))),.rc (.l 56 (.ld1 (.t 55))),.m (.e 60 (.ap 62 3 64 (.t 56) (.t 59))),.q (.q 61 (.fa 1 (.t 9))),.m (.s (.st 1 (.t 61) (.t 60)))]))) (.seq (yU) (.gh (.ord  [.q (.q 64 (.fa 2 (.t 9))),.q (.l 65 (.ld1 (.t 64))),.q (.v 66 8),.m (.a 67 (.cl 51 [(.t 66)] [1])),.rc (.q 64 (.fa 2 (.t 9))),.rc (.l 65 (.ld1 (.t 64))),.m (.e 68 (.bslx 56 2 [(.t 67)])),.rc (.q 64 (.fa 2 (.t 9))),.rc (.l 65 (.ld1 (.t 64))),.m (.e 69 (.apz 56 2 40 (.t 65) (.t 68))),.q (.q 70 (.fa 2 (.t 9))),.m (.s (.st 1 (.t 70) (.t 69)))]))))))))) (pcI15_14))
@[go_sem ↓] theorem aJ4:bT pcI15_7:=bY _
def CJ:PC:=.seq (.gh (.reg [.v 29 8,.a 30 (.cl 47 [(.t 29),(.i 2)] [1]),.q 31 (.fld1 2 (.t 30)),.q 32 (.bd [(.int .i64 0),(.slice none 0 0),(.slice none 0 0)] [(0,1,(.t 31))]),.e 9 (.al (.agg #[(.int .i64 0),(.slice none 0 0),(.slice none 0 0)]) 25),.s (.st 3 (.t 9) (.t 32))])) (pcI15_7)
@[go_sem ↓] theorem aJ0:bT CJ:=bY _
def BR:PC:=.seq (.gh (.reg [.v 27 8,.a 28 (.cl 46 [(.t 27),(.i 1),(.k (.string (mk [118,101,114,115,105,111,110])))] [1])])) (CJ)
@[go_sem ↓] theorem aJQ:bT BR:=bY _
def UG:PC:=.seq (.reg [.e 2 (.al (.agg #[(.int .i64 0),(.slice none 0 0),(.slice none 0 0)]) 25),.q 3 (.mv (.i 0)),.q 4 (.mv (.i 0))]) (.seq (.reg [.v 14 0,.a 15 (.cl 45 [(.t 14)] []),.v 13 15,.q 16 (.ex (.t 13) 0),.q 17 (.ex (.t 13) 1),.q 18 (.ex (.t 13) 2),.v 5 16,.v 6 17,.v 7 18]) (.seq (.seq (.reg [.v 19 6,.q 20 (.bin .neq true (.t 19) (.i 0))]) (.cond (.t 20) (.seq (.reg [.q 21 (.bd [(.int .i64 0),(.slice none 0 0),(.slice none 0 0)] []),.v 22 6,.v 23 7,.s (.st 3 (.t 2) (.t 21)),.v 3 22,.v 4 23]) .ret) .skip)) (.seq (.reg [.v 24 5,.q 25 (.bd [(.slice none 0 0),(.int .i64 0),(.int .i64 0)] [(0,1,(.t 24)),(2,1,(.i (-1)))]),.e 26 (.bx 82 (.t 25)),.v 8 26]) (BR))))
def l0:List RV:=[.ld (.ldn 3 (.t 2)),.mv (.t 3),.mv (.t 4)]
theorem aGT:aY Tryz.prog true ⟨fun r k=>if r=5/\k=1 then .own [1] else if r=6/\k=1 then .own [1] else if r=7/\k=1 then .own [1] else if r=8/\k=7 then .own [1] else if r=9/\k=1 then .own [1] else if r=11/\k=3 then .own [1] else if r=12/\k=1 then .own [1] else if r=13/\k=3 then .own [1] else if r=13/\k=4 then .q else if r=13/\k=5 then .q else if r=23/\k=1 then .q else .own [],fun r=>[5,6,7,11,13,14,16,23,24,26,10,12,22].contains r⟩ Tryz.f15=some (UG,l0):=by kernel_rfl
theorem yS:Meets Tryz.prog 65 (sA fun l=>.bool (bX l)).sp:=by
 refine aG Tryz.func65 aL7 1 (by rw [Tryz.ntmps65]; decide) (aB _) nW ?_
 rintro xs H K ⟨⟨h,rfl⟩,hK⟩
 obtain ⟨s,rfl⟩:=iO h
 simp -dsimp only [go_sem,aBC,aAR] at hK ⊢
 refine ⟨fun h1=>?_,fun h1=>?_⟩
 · refine cZ hK ?_
   have:bX (bl s)=false:=by
    simp at h1
    rcases h1 with h1 | h1
    · have:bl s=[]:=List.length_eq_zero_iff.1 (by omega)
      rw [this]; rfl
    · exact qG (by omega)
   rw [this]
 · have hlen:0 < (bl s).length/\(bl s).length<=16:=by simp at h1; omega
   obtain ⟨hl0,hl⟩:=hlen
   refine aR (α:=Nat) (fun i=>[(0,tS s),(3,iS .i64 i)]) (fun i=>[]) (fun i=>i<=(bl s).length/\(∀ (j:Nat) (x:UInt8),j < i->(bl s)[j]? = some x->a8 x=true)/\(0 < i->∀ x,(bl s)[0]? = some x->bR x.toNat=true)) (fun i=>(bl s).length - i) 0 0 ⟨by omega,by omega,by omega⟩ ?_ ?_ ?_
   · simp -dsimp only [go_sem]; simp
   · simp [go_sem]
   rintro i ⟨hi,ha,hb⟩
   rcases bL i (bl s).length with hlt | hge
   · have hg:decide ((i:Int) < ((bl s).length:Int))=true:=by simp; omega
     obtain ⟨c,hc⟩:∃ c,(bl s)[i]? = some c:=⟨_,bB hlt⟩
     have bad:(i=0/\bR c.toNat=false)\/a8 c=false->W.Fin 0 K (bS false) []:=fun h=>cZ hK (by
      rcases h with ⟨rfl,h⟩ | h
      · rw [zY hc h]
      · rw [C5 hc h])
     have dG:a8 c=true->(i=0->bR c.toNat=true)->(i + 1<=(bl s).length/\(∀ (j:Nat) (x:UInt8),j < i + 1->(bl s)[j]? = some x->a8 x=true)/\(0 < i + 1->∀ x,(bl s)[0]? = some x->bR x.toNat=true)):=fun h1 h2=>⟨by omega,fun j x hj hx=>by
      rcases bL j i with h4 | h4
      · exact ha j x h4 hx
      · obtain rfl:j=i:=by omega
        rw [hc] at hx; obtain rfl:=bK hx; exact h1,fun _ x hx=>by
      rcases Nat.eq_zero_or_pos i with h0 | h0
      · subst h0; rw [hc] at hx; obtain rfl:=bK hx; exact h2 rfl
      · exact hb h0 x hx⟩
     have hb255:=c.toNat_lt
     have hcs:(0<=(c.toNat:Int)/\(c.toNat:Int)<=47)\/(48<=(c.toNat:Int)/\(c.toNat:Int)<=57)\/(58<=(c.toNat:Int)/\(c.toNat:Int)<=64)\/(65<=(c.toNat:Int)/\(c.toNat:Int)<=90)\/(91<=(c.toNat:Int)/\(c.toNat:Int)<=94)\/(95<=(c.toNat:Int)/\(c.toNat:Int)<=95)\/(96<=(c.toNat:Int)/\(c.toNat:Int)<=96)\/(97<=(c.toNat:Int)/\(c.toNat:Int)<=122)\/(123<=(c.toNat:Int)/\(c.toNat:Int)<=255):=by omega
     rcases hcs with h2 | h2 | h2 | h2 | h2 | h2 | h2 | h2 | h2
     · have d1:decide (97<=(c.toNat:Int))=false:=decide_eq_false (by omega)
       have d2:decide ((c.toNat:Int)<=122)=true:=decide_eq_true (by omega)
       have d3:decide (65<=(c.toNat:Int))=false:=decide_eq_false (by omega)
       have d4:decide ((c.toNat:Int)<=90)=true:=decide_eq_true (by omega)
       have d5:((c.toNat:Int) == 95)=false:=by simp; omega
       have d6:decide (48<=(c.toNat:Int))=false:=decide_eq_false (by omega)
       have d7:decide ((c.toNat:Int)<=57)=true:=decide_eq_true (by omega)
       have hL:bR c.toNat=false:=by unfold bR; rw [d1,d2,d3,d4]; rfl
       have hW:a8 c=false:=by unfold a8 fP hZ; rw [hL,d5,d6,d7]; rfl
       rcases Nat.eq_zero_or_pos i with h0 | h0
       · have hz:((i:Int) == 0)=true:=by simp; omega
         simp (maxSteps:=9^6) -dsimp only [go_sem,hg,hc,aH,forall_eq',Int.toNat_natCast,d1,d3,d5,d6,hz,Bool.true_and,Bool.and_true,Bool.false_and,Bool.and_false,Bool.not_true,Bool.not_false]
         repeat' first | intro _ | apply And.intro
         all_goals first | omega | (rename_i h9; simp at h9; done) | skip
         all_goals exact bad (by rw [hL,hW]; exact .inl ⟨h0,rfl⟩)
       · have hz:((i:Int) == 0)=false:=by simp; omega
         simp (maxSteps:=9^6) -dsimp only [go_sem,hg,hc,aH,forall_eq',Int.toNat_natCast,d1,d3,d5,d6,hz,Bool.true_and,Bool.and_true,Bool.false_and,Bool.not_false]
         repeat' first | intro _ | apply And.intro
         all_goals first | omega | (rename_i h9; simp at h9; done) | skip
         all_goals exact bad (by rw [hL,hW]; exact .inr rfl)
     · have d1:decide (97<=(c.toNat:Int))=false:=decide_eq_false (by omega)
       have d2:decide ((c.toNat:Int)<=122)=true:=decide_eq_true (by omega)
       have d3:decide (65<=(c.toNat:Int))=false:=decide_eq_false (by omega)
       have d4:decide ((c.toNat:Int)<=90)=true:=decide_eq_true (by omega)
       have d5:((c.toNat:Int) == 95)=false:=by simp; omega
       have d6:decide (48<=(c.toNat:Int))=true:=decide_eq_true (by omega)
       have d7:decide ((c.toNat:Int)<=57)=true:=decide_eq_true (by omega)
       have hL:bR c.toNat=false:=by unfold bR; rw [d1,d2,d3,d4]; rfl
       have hW:a8 c=true:=by unfold a8 fP hZ; rw [hL,d5,d6,d7]; rfl
       rcases Nat.eq_zero_or_pos i with h0 | h0
       · have hz:((i:Int) == 0)=true:=by simp; omega
         simp (maxSteps:=9^6) -dsimp only [go_sem,hg,hc,aH,forall_eq',Int.toNat_natCast,d1,d3,d5,d6,hz,Bool.true_and,Bool.and_true,Bool.false_and,Bool.and_false,Bool.not_true,Bool.not_false]
         repeat' first | intro _ | apply And.intro
         all_goals first | omega | (rename_i h9; simp at h9; done) | skip
         all_goals exact bad (by rw [hL,hW]; exact .inl ⟨h0,rfl⟩)
       · have hz:((i:Int) == 0)=false:=by simp; omega
         simp (maxSteps:=9^6) -dsimp only [go_sem,hg,hc,aH,forall_eq',Int.toNat_natCast,d1,d3,d5,d6,d7,hz,Bool.true_and,Bool.and_true,Bool.false_and,Bool.not_false]
         repeat' first | intro _ | apply And.intro
         all_goals first | omega | (rename_i h9; simp at h9; done) | skip
         all_goals exact aC (i + 1) 0 (dG (by rw [hW]) (fun h3=>by omega)) (by omega) (by simp -dsimp only [go_sem]; simp) (by simp [go_sem])
     · have d1:decide (97<=(c.toNat:Int))=false:=decide_eq_false (by omega)
       have d2:decide ((c.toNat:Int)<=122)=true:=decide_eq_true (by omega)
       have d3:decide (65<=(c.toNat:Int))=false:=decide_eq_false (by omega)
       have d4:decide ((c.toNat:Int)<=90)=true:=decide_eq_true (by omega)
       have d5:((c.toNat:Int) == 95)=false:=by simp; omega
       have d6:decide (48<=(c.toNat:Int))=true:=decide_eq_true (by omega)
       have d7:decide ((c.toNat:Int)<=57)=false:=decide_eq_false (by omega)
       have hL:bR c.toNat=false:=by unfold bR; rw [d1,d2,d3,d4]; rfl
       have hW:a8 c=false:=by unfold a8 fP hZ; rw [hL,d5,d6,d7]; rfl
       rcases Nat.eq_zero_or_pos i with h0 | h0
       · have hz:((i:Int) == 0)=true:=by simp; omega
         simp (maxSteps:=9^6) -dsimp only [go_sem,hg,hc,aH,forall_eq',Int.toNat_natCast,d1,d3,d5,d6,hz,Bool.true_and,Bool.and_true,Bool.false_and,Bool.and_false,Bool.not_true,Bool.not_false]
         repeat' first | intro _ | apply And.intro
         all_goals first | omega | (rename_i h9; simp at h9; done) | skip
         all_goals exact bad (by rw [hL,hW]; exact .inl ⟨h0,rfl⟩)
       · have hz:((i:Int) == 0)=false:=by simp; omega
         simp (maxSteps:=9^6) -dsimp only [go_sem,hg,hc,aH,forall_eq',Int.toNat_natCast,d1,d3,d5,d6,d7,hz,Bool.true_and,Bool.and_true,Bool.false_and,Bool.not_false]
         repeat' first | intro _ | apply And.intro
         all_goals first | omega | (rename_i h9; simp at h9; done) | skip
         all_goals exact bad (by rw [hL,hW]; exact .inr rfl)
     · have d1:decide (97<=(c.toNat:Int))=false:=decide_eq_false (by omega)
       have d2:decide ((c.toNat:Int)<=122)=true:=decide_eq_true (by omega)
       have d3:decide (65<=(c.toNat:Int))=true:=decide_eq_true (by omega)
       have d4:decide ((c.toNat:Int)<=90)=true:=decide_eq_true (by omega)
       have d5:((c.toNat:Int) == 95)=false:=by simp; omega
       have d6:decide (48<=(c.toNat:Int))=true:=decide_eq_true (by omega)
       have d7:decide ((c.toNat:Int)<=57)=false:=decide_eq_false (by omega)
       have hL:bR c.toNat=true:=by unfold bR; rw [d1,d2,d3,d4]; rfl
       have hW:a8 c=true:=by unfold a8 fP hZ; rw [hL,d5,d6,d7]; rfl
       rcases Nat.eq_zero_or_pos i with h0 | h0
       · have hz:((i:Int) == 0)=true:=by simp; omega
         simp (maxSteps:=9^6) -dsimp only [go_sem,hg,hc,aH,forall_eq',Int.toNat_natCast,d1,d3,d4,d5,d6,hz,Bool.true_and,Bool.and_true,Bool.false_and,Bool.and_false,Bool.not_true,Bool.not_false]
         repeat' first | intro _ | apply And.intro
         all_goals first | omega | (rename_i h9; simp at h9; done) | skip
         all_goals exact aC (i + 1) 0 (dG (by rw [hW]) (fun h3=>by rw [hL])) (by omega) (by simp -dsimp only [go_sem]; simp) (by simp [go_sem])
       · have hz:((i:Int) == 0)=false:=by simp; omega
         simp (maxSteps:=9^6) -dsimp only [go_sem,hg,hc,aH,forall_eq',Int.toNat_natCast,d1,d3,d4,d5,d6,d7,hz,Bool.true_and,Bool.and_true,Bool.false_and,Bool.not_false]
         repeat' first | intro _ | apply And.intro
         all_goals first | omega | (rename_i h9; simp at h9; done) | skip
         all_goals exact aC (i + 1) 0 (dG (by rw [hW]) (fun h3=>by rw [hL])) (by omega) (by simp -dsimp only [go_sem]; simp) (by simp [go_sem])
     · have d1:decide (97<=(c.toNat:Int))=false:=decide_eq_false (by omega)
       have d2:decide ((c.toNat:Int)<=122)=true:=decide_eq_true (by omega)
       have d3:decide (65<=(c.toNat:Int))=true:=decide_eq_true (by omega)
       have d4:decide ((c.toNat:Int)<=90)=false:=decide_eq_false (by omega)
       have d5:((c.toNat:Int) == 95)=false:=by simp; omega
       have d6:decide (48<=(c.toNat:Int))=true:=decide_eq_true (by omega)
       have d7:decide ((c.toNat:Int)<=57)=false:=decide_eq_false (by omega)
       have hL:bR c.toNat=false:=by unfold bR; rw [d1,d2,d3,d4]; rfl
       have hW:a8 c=false:=by unfold a8 fP hZ; rw [hL,d5,d6,d7]; rfl
       rcases Nat.eq_zero_or_pos i with h0 | h0
       · have hz:((i:Int) == 0)=true:=by simp; omega
         simp (maxSteps:=9^6) -dsimp only [go_sem,hg,hc,aH,forall_eq',Int.toNat_natCast,d1,d3,d4,d5,d6,hz,Bool.true_and,Bool.and_true,Bool.false_and,Bool.and_false,Bool.not_true,Bool.not_false]
         repeat' first | intro _ | apply And.intro
         all_goals first | omega | (rename_i h9; simp at h9; done) | skip
         all_goals exact bad (by rw [hL,hW]; exact .inl ⟨h0,rfl⟩)
       · have hz:((i:Int) == 0)=false:=by simp; omega
         simp (maxSteps:=9^6) -dsimp only [go_sem,hg,hc,aH,forall_eq',Int.toNat_natCast,d1,d3,d4,d5,d6,d7,hz,Bool.true_and,Bool.and_true,Bool.false_and,Bool.not_false]
         repeat' first | intro _ | apply And.intro
         all_goals first | omega | (rename_i h9; simp at h9; done) | skip
         all_goals exact bad (by rw [hL,hW]; exact .inr rfl)
     · have d1:decide (97<=(c.toNat:Int))=false:=decide_eq_false (by omega)
       have d2:decide ((c.toNat:Int)<=122)=true:=decide_eq_true (by omega)
       have d3:decide (65<=(c.toNat:Int))=true:=decide_eq_true (by omega)
       have d4:decide ((c.toNat:Int)<=90)=false:=decide_eq_false (by omega)
       have d5:((c.toNat:Int) == 95)=true:=by simp; omega
       have d6:decide (48<=(c.toNat:Int))=true:=decide_eq_true (by omega)
       have d7:decide ((c.toNat:Int)<=57)=false:=decide_eq_false (by omega)
       have hL:bR c.toNat=false:=by unfold bR; rw [d1,d2,d3,d4]; rfl
       have hW:a8 c=true:=by unfold a8 fP hZ; rw [hL,d5,d6,d7]; rfl
       rcases Nat.eq_zero_or_pos i with h0 | h0
       · have hz:((i:Int) == 0)=true:=by simp; omega
         simp (maxSteps:=9^6) -dsimp only [go_sem,hg,hc,aH,forall_eq',Int.toNat_natCast,d1,d3,d4,d5,hz,Bool.true_and,Bool.and_true,Bool.false_and,Bool.and_false,Bool.not_true,Bool.not_false]
         repeat' first | intro _ | apply And.intro
         all_goals first | omega | (rename_i h9; simp at h9; done) | skip
         all_goals exact bad (by rw [hL,hW]; exact .inl ⟨h0,rfl⟩)
       · have hz:((i:Int) == 0)=false:=by simp; omega
         simp (maxSteps:=9^6) -dsimp only [go_sem,hg,hc,aH,forall_eq',Int.toNat_natCast,d1,d3,d4,d5,hz,Bool.true_and,Bool.and_true,Bool.false_and,Bool.not_true,Bool.not_false]
         repeat' first | intro _ | apply And.intro
         all_goals first | omega | (rename_i h9; simp at h9; done) | skip
         all_goals exact aC (i + 1) 0 (dG (by rw [hW]) (fun h3=>by omega)) (by omega) (by simp -dsimp only [go_sem]; simp) (by simp [go_sem])
     · have d1:decide (97<=(c.toNat:Int))=false:=decide_eq_false (by omega)
       have d2:decide ((c.toNat:Int)<=122)=true:=decide_eq_true (by omega)
       have d3:decide (65<=(c.toNat:Int))=true:=decide_eq_true (by omega)
       have d4:decide ((c.toNat:Int)<=90)=false:=decide_eq_false (by omega)
       have d5:((c.toNat:Int) == 95)=false:=by simp; omega
       have d6:decide (48<=(c.toNat:Int))=true:=decide_eq_true (by omega)
       have d7:decide ((c.toNat:Int)<=57)=false:=decide_eq_false (by omega)
       have hL:bR c.toNat=false:=by unfold bR; rw [d1,d2,d3,d4]; rfl
       have hW:a8 c=false:=by unfold a8 fP hZ; rw [hL,d5,d6,d7]; rfl
       rcases Nat.eq_zero_or_pos i with h0 | h0
       · have hz:((i:Int) == 0)=true:=by simp; omega
         simp (maxSteps:=9^6) -dsimp only [go_sem,hg,hc,aH,forall_eq',Int.toNat_natCast,d1,d3,d4,d5,d6,hz,Bool.true_and,Bool.and_true,Bool.false_and,Bool.and_false,Bool.not_true,Bool.not_false]
         repeat' first | intro _ | apply And.intro
         all_goals first | omega | (rename_i h9; simp at h9; done) | skip
         all_goals exact bad (by rw [hL,hW]; exact .inl ⟨h0,rfl⟩)
       · have hz:((i:Int) == 0)=false:=by simp; omega
         simp (maxSteps:=9^6) -dsimp only [go_sem,hg,hc,aH,forall_eq',Int.toNat_natCast,d1,d3,d4,d5,d6,d7,hz,Bool.true_and,Bool.and_true,Bool.false_and,Bool.not_false]
         repeat' first | intro _ | apply And.intro
         all_goals first | omega | (rename_i h9; simp at h9; done) | skip
         all_goals exact bad (by rw [hL,hW]; exact .inr rfl)
     · have d1:decide (97<=(c.toNat:Int))=true:=decide_eq_true (by omega)
       have d2:decide ((c.toNat:Int)<=122)=true:=decide_eq_true (by omega)
       have d3:decide (65<=(c.toNat:Int))=true:=decide_eq_true (by omega)
       have d4:decide ((c.toNat:Int)<=90)=false:=decide_eq_false (by omega)
       have d5:((c.toNat:Int) == 95)=false:=by simp; omega
       have d6:decide (48<=(c.toNat:Int))=true:=decide_eq_true (by omega)
       have d7:decide ((c.toNat:Int)<=57)=false:=decide_eq_false (by omega)
       have hL:bR c.toNat=true:=by unfold bR; rw [d1,d2,d3,d4]; rfl
       have hW:a8 c=true:=by unfold a8 fP hZ; rw [hL,d5,d6,d7]; rfl
       rcases Nat.eq_zero_or_pos i with h0 | h0
       · have hz:((i:Int) == 0)=true:=by simp; omega
         simp (maxSteps:=9^6) -dsimp only [go_sem,hg,hc,aH,forall_eq',Int.toNat_natCast,d1,d2,d5,d6,hz,Bool.true_and,Bool.and_true,Bool.false_and,Bool.and_false,Bool.not_true,Bool.not_false]
         repeat' first | intro _ | apply And.intro
         all_goals first | omega | (rename_i h9; simp at h9; done) | skip
         all_goals exact aC (i + 1) 0 (dG (by rw [hW]) (fun h3=>by rw [hL])) (by omega) (by simp -dsimp only [go_sem]; simp) (by simp [go_sem])
       · have hz:((i:Int) == 0)=false:=by simp; omega
         simp (maxSteps:=9^6) -dsimp only [go_sem,hg,hc,aH,forall_eq',Int.toNat_natCast,d1,d2,d5,d6,d7,hz,Bool.true_and,Bool.and_true,Bool.false_and,Bool.not_true,Bool.not_false]
         repeat' first | intro _ | apply And.intro
         all_goals first | omega | (rename_i h9; simp at h9; done) | skip
         all_goals exact aC (i + 1) 0 (dG (by rw [hW]) (fun h3=>by rw [hL])) (by omega) (by simp -dsimp only [go_sem]; simp) (by simp [go_sem])
     · have d1:decide (97<=(c.toNat:Int))=true:=decide_eq_true (by omega)
       have d2:decide ((c.toNat:Int)<=122)=false:=decide_eq_false (by omega)
       have d3:decide (65<=(c.toNat:Int))=true:=decide_eq_true (by omega)
       have d4:decide ((c.toNat:Int)<=90)=false:=decide_eq_false (by omega)
       have d5:((c.toNat:Int) == 95)=false:=by simp; omega
       have d6:decide (48<=(c.toNat:Int))=true:=decide_eq_true (by omega)
       have d7:decide ((c.toNat:Int)<=57)=false:=decide_eq_false (by omega)
       have hL:bR c.toNat=false:=by unfold bR; rw [d1,d2,d3,d4]; rfl
       have hW:a8 c=false:=by unfold a8 fP hZ; rw [hL,d5,d6,d7]; rfl
       rcases Nat.eq_zero_or_pos i with h0 | h0
       · have hz:((i:Int) == 0)=true:=by simp; omega
         simp (maxSteps:=9^6) -dsimp only [go_sem,hg,hc,aH,forall_eq',Int.toNat_natCast,d1,d2,d3,d4,d5,d6,hz,Bool.true_and,Bool.and_true,Bool.and_false,Bool.not_true,Bool.not_false]
         repeat' first | intro _ | apply And.intro
         all_goals first | omega | (rename_i h9; simp at h9; done) | skip
         all_goals exact bad (by rw [hL,hW]; exact .inl ⟨h0,rfl⟩)
       · have hz:((i:Int) == 0)=false:=by simp; omega
         simp (maxSteps:=9^6) -dsimp only [go_sem,hg,hc,aH,forall_eq',Int.toNat_natCast,d1,d2,d3,d4,d5,d6,d7,hz,Bool.true_and,Bool.and_true,Bool.not_false]
         repeat' first | intro _ | apply And.intro
         all_goals first | omega | (rename_i h9; simp at h9; done) | skip
         all_goals exact bad (by rw [hL,hW]; exact .inr rfl)
   · have hg:decide ((i:Int) < ((bl s).length:Int))=false:=by simp; omega
     obtain rfl:i=(bl s).length:=by omega
     obtain ⟨c,hc⟩:∃ c,(bl s)[0]? = some c:=⟨_,bB hl0⟩
     simp (maxSteps:=9^6) -dsimp only [go_sem,hg]
     refine cZ hK ?_
     rw [wF hc hl (hb hl0 c hc) fun j x hx=>ha j x (bC.1 hx).1 hx]
theorem I0:Meets Tryz.prog 64 (sA fun l=>.bool (fN l)).sp:=by
 refine aG Tryz.func64 aK1 1 (by rw [Tryz.ntmps64]; decide) (aI yS (aB _)) nW ?_
 rintro xs H K ⟨⟨h,rfl⟩,hK⟩
 obtain ⟨s,rfl⟩:=iO h
 have hK':K (.va (.c1 (.vl (.bool (fN (bl s)))))) []:=hK
 clear hK h
 unfold fN at hK'
 cases hn:bX (bl s) with
 | false=>
  rw [hn] at hK'
  simp -dsimp only [go_sem,SU,SY,hn]
  exact .done hK'
 | true=>
  cases hl:bl s with
  | nil=>rw [hl] at hn; cases hn
  | cons c r=>
   rw [hl] at hn hK'
   rw [hn] at hK'
   simp -dsimp only [go_sem,SU,SY,hl,hn]
   refine ⟨by omega,fun d hd=>⟨fun _=>by omega,fun e he=>?_⟩⟩
   subst hd
   cases hc:decide (65<=(c.toNat:Int)) with
   | false=>simp only [hc,Bool.true_and,Bool.false_and] at hK'; exact .done hK'
   | true=>
    obtain rfl:=he hc
    simp only [hc,Bool.true_and] at hK'; exact .done hK'
theorem ZO:Meets Tryz.prog 110 (p7 fZ C.ty fun t=>.bool ((t.e.length:Int) == 0)).sp:=by
 refine aG Tryz.func110 aGI 1 (by rw [Tryz.ntmps110]; decide) (aB _) kK ?_
 rintro av H K ⟨⟨h,rfl⟩,hK⟩
 obtain ⟨_,rfl,t,rfl,ht⟩:=fT h
 have hK:K (bS ((t.e.length:Int) == 0)) []:=by
  have:(p7 fZ C.ty fun t=>.bool ((t.e.length:Int) == 0)).val [.va (.gs (aP t))]=bA ((t.e.length:Int) == 0):=by simp -dsimp only [go_sem]
  rw [this] at hK; exact hK
 simp (maxSteps:=9^6) -dsimp only [go_sem,bM,U1,V6]
 exact .z ((by simpa [go_sem] using hK))
def EZ:List S->Prop:=fun av=>match av with
 | [.va (.c1 (.fz rs)),.va (.c1 (.vl (.int .i64 k))),.va (.c1 (.vl (.string _)))]=>tB rs/\0<=k/\k<=9223372036854775807
 | _=>False
theorem sE {av:List S} (h:EZ av):∃ (l:List ByteArray) (n:Nat) (x:ByteArray),av=[.va (.c1 (.fz (l.map bQ))),iS .i64 n,tS x]/\l.length<=9223372036854775807/\(n:Int)<=9223372036854775807:=by
 unfold EZ at h
 split at h
 · obtain ⟨⟨l,rfl,h1⟩,h2,h3⟩:=h
   rename_i k x
   exact ⟨l,k.toNat,x,by rw [Int.toNat_of_nonneg h2],h1,by omega⟩
 · exact h.elim
noncomputable def W0:List S->A:=fun av=>match av with
 | [.va (.c1 (.fz rs)),.va (.c1 (.vl (.int .i64 k))),.va (.c1 (.vl (.string x)))]=>bA (cO ((rs.map C.bs).take k.toNat) x)
 | _=>.gs []
noncomputable def inFn:Fun:=⟨EZ,W0,fun av h=>by obtain ⟨l,n,x,rfl,_⟩:=sE h; trivial⟩
theorem R9:∀ av H K,inFn.sp av H K->av.length=3:=fun av H K h=>by obtain ⟨l,n,x,rfl,_⟩:=sE h.1.1; rfl
attribute [go_sem] inFn EZ W0
theorem SD:Meets Tryz.prog 29 inFn.sp:=by
 refine aG Tryz.func29 aL9 3 (by rw [Tryz.ntmps29]; decide) (aB _) R9 ?_
 rintro av H K ⟨⟨h,rfl⟩,hK⟩
 obtain ⟨l,n,x,rfl,hl,hn⟩:=sE h
 have hK:K (bS (cO (l.take n) x)) []:=by
  have:inFn.val [.va (.c1 (.fz (l.map bQ))),iS .i64 n,tS x]=bA (cO (l.take n) x):=by simp -dsimp only [go_sem,Int.toNat_natCast]
  rw [this] at hK; exact hK
 clear h
 simp (maxSteps:=9^6) -dsimp only [go_sem,aFA,aDJ]
 refine aR (α:=Nat) (fun i=>[(0,.va (.c1 (.fz (l.map bQ)))),(1,iS .i64 n),(2,tS x),(7,iS .i64 i)]) (fun _=>[])
  (fun i=>i<=(l.take n).length/\cO ((l.take n).drop i) x=cO (l.take n) x) (fun i=>l.length - i) 0 0 ⟨Nat.zero_le _,rfl⟩ ?_ ?_ ?_
 · simp [go_sem]
 · simp [go_sem]
 rintro i ⟨hi,ho⟩
 have hlt0:(l.take n).length=min n l.length:=by simp
 rcases bL i (l.take n).length with hlt | hge
 · have g1:decide ((i:Int) < (n:Int))=true:=by simp; omega
   have g2:decide ((i:Int) < (l.length:Int))=true:=by simp; omega
   obtain ⟨y,hx⟩:∃ y,l[i]? = some y:=⟨_,bB (by omega)⟩
   have hx':(l.take n)[i]? = some y:=by rw [List.getElem?_take,if_pos (by omega)]; exact hx
   have q2:=aQ (row:=bQ) hx
   rw [cO,dJ hx'] at ho
   simp (maxSteps:=9^6) -dsimp only [go_sem,g1,g2,↓q2,dO]
   have hsy:decide (y=x)=decide (x=y):=by simp [eq_comm]
   refine ⟨by omega,fun hc=>?_,fun hc=>⟨by omega,aC (i + 1) 0 ⟨by omega,?_⟩ (by omega) ?_ ?_⟩⟩
   · rw [<-hsy,hc,Bool.true_or] at ho
     rw [<-ho] at hK
     exact .done hK
   · rw [<-hsy,hc,Bool.false_or] at ho
     exact ho
   · simp [go_sem]
   · simp [go_sem]
 · obtain rfl:i=(l.take n).length:=by omega
   rw [cO,fU] at ho
   rw [<-ho] at hK
   generalize hm:(l.take n).length=m at *
   rcases bL m n with h1 | h1
   · have g1:decide ((m:Int) < (n:Int))=true:=by simp; omega
     have g2:decide ((m:Int) < (l.length:Int))=false:=by simp; omega
     simp (maxSteps:=9^6) -dsimp only [go_sem,g1,g2]
     exact .done hK
   · have g1:decide ((m:Int) < (n:Int))=false:=by simp; omega
     simp (maxSteps:=9^6) -dsimp only [go_sem,g1]
     exact .done hK
theorem GI:Meets Tryz.prog 68 UO:=by
 refine aG Tryz.func68 aM8 2 (by rw [Tryz.ntmps68]; decide) (aB _) (fun av H K h=>by obtain ⟨_,_,rfl,_⟩:=h; rfl) ?_
 rintro av H K ⟨s,n,rfl,rfl,hs,hK⟩
 rw [<-HD] at hK
 have hl:=hs.ok.ls
 simp -dsimp only [go_sem,aD,aER,aDM]
 refine aR (α:=Nat) (fun i=>[(1,tS n),(2,.va (.c1 (.pt 0 0))),(4,.va (.c1 (.pt 1 0))),(6,iS .i64 i)]) (fun _=>[.cells (aD s) 25,.cells [.vl (.string (mk [])),.vl (.slice none 0 0)] 56])
  (fun i=>i<=s.ss.length/\fS (s.ss.drop i) n=fS s.ss n) (fun i=>s.ss.length - i) 0 2 ⟨Nat.zero_le _,rfl⟩ ?_ ?_ ?_
 · simp [go_sem]
 · simp [go_sem,aD]
 rintro i ⟨hi,ho⟩
 rcases bL i s.ss.length with hlt | hge
 · have hg:decide ((i:Int) < (s.ss.length:Int))=true:=by simp; omega
   obtain ⟨t,hx⟩:∃ e,s.ss[i]? = some e:=⟨_,bB hlt⟩
   have q2:=aQ (row:=aL) hx
   rw [fS,H8 hx] at ho
   cases hc:decide (t.nm=n) with
   | true=>
    rw [hc,aK] at ho
    rw [<-ho] at hK
    simp (maxSteps:=9^6) -dsimp only [go_sem,hg,↓q2,aL,aD,dO,hc]
    refine ⟨by omega,by omega,.z ((by simpa [go_sem,aL] using hK))⟩
   | false=>
    rw [hc,aF] at ho
    simp (maxSteps:=9^6) -dsimp only [go_sem,hg,↓q2,aL,aD,dO,hc]
    refine ⟨by omega,by omega,aC (i + 1) 2 ⟨by omega,ho⟩ (by omega) ?_ ?_⟩
    · simp [go_sem]
    · simp [go_sem,aD]
 · have hg:decide ((i:Int) < (s.ss.length:Int))=false:=by simp; omega
   obtain rfl:i=s.ss.length:=by omega
   rw [List.drop_length] at ho
   rw [<-ho] at hK
   simp -dsimp only [go_sem,hg,aD]
   exact .z ((by simpa [go_sem,fS,W9] using hK))
def VJ:W.Spec:=fun av H K=>∃ (s:Sc) (n:ByteArray),av=[.va (.gs (aD s)),tS n]/\H=[]/\s.fit/\K (.tu [.gs (aO ((pZ s.es n).getD default)),bA (dT s.es n)]) []
theorem LL {s:Sc} {n:ByteArray} {K:S->Hp->Prop} (h:s.fit) (hK:K (.tu [.gs (aO ((pZ s.es n).getD default)),bA (dT s.es n)]) []):VJ [.va (.gs (aD s)),tS n] [] K:=⟨s,n,rfl,rfl,h,hK⟩
theorem ZI:aO default=[.vl (.string (mk [])),.fz [],.fz []]:=rfl
theorem QB:Meets Tryz.prog 66 VJ:=by
 refine aG Tryz.func66 aMA 2 (by rw [Tryz.ntmps66]; decide) (aB _) (fun av H K h=>by obtain ⟨_,_,rfl,_⟩:=h; rfl) ?_
 rintro av H K ⟨s,n,rfl,rfl,hs,hK⟩
 rw [<-L0] at hK
 have hl:=hs.ok.le
 simp -dsimp only [go_sem,aD,aE0,aCA]
 refine aR (α:=Nat) (fun i=>[(1,tS n),(2,.va (.c1 (.pt 0 0))),(4,.va (.c1 (.pt 1 0))),(6,iS .i64 i)]) (fun _=>[.cells (aD s) 25,.cells [.vl (.string (mk [])),.vl (.slice none 0 0),.vl (.slice none 0 0)] 62])
  (fun i=>i<=s.es.length/\pZ (s.es.drop i) n=pZ s.es n) (fun i=>s.es.length - i) 0 2 ⟨Nat.zero_le _,rfl⟩ ?_ ?_ ?_
 · simp [go_sem]
 · simp [go_sem,aD]
 rintro i ⟨hi,ho⟩
 rcases bL i s.es.length with hlt | hge
 · have hg:decide ((i:Int) < (s.es.length:Int))=true:=by simp; omega
   obtain ⟨t,hx⟩:∃ e,s.es[i]? = some e:=⟨_,bB hlt⟩
   have q2:=aQ (row:=aO) hx
   rw [pZ,H8 hx] at ho
   cases hc:decide (t.nm=n) with
   | true=>
    rw [hc,aK] at ho
    rw [<-ho] at hK
    simp (maxSteps:=9^6) -dsimp only [go_sem,hg,↓q2,aO,aD,dO,hc]
    refine ⟨by omega,by omega,.z ((by simpa [go_sem,aO] using hK))⟩
   | false=>
    rw [hc,aF] at ho
    simp (maxSteps:=9^6) -dsimp only [go_sem,hg,↓q2,aO,aD,dO,hc]
    refine ⟨by omega,by omega,aC (i + 1) 2 ⟨by omega,ho⟩ (by omega) ?_ ?_⟩
    · simp [go_sem]
    · simp [go_sem,aD]
 · have hg:decide ((i:Int) < (s.es.length:Int))=false:=by simp; omega
   obtain rfl:i=s.es.length:=by omega
   rw [List.drop_length] at ho
   rw [<-ho] at hK
   simp -dsimp only [go_sem,hg,aD]
   exact .z ((by simpa [go_sem,pZ,ZI] using hK))
noncomputable def eqB {α:Type} (a b:α):Bool:=@decide (a=b) (Classical.propDecidable _)
theorem pY {α:Type} {a b:α} (h:a=b):eqB a b=true:=by unfold eqB; simp [h]
theorem nZ {α:Type} {a b:α} (h:a ≠ b):eqB a b=false:=by unfold eqB; simp [h]
theorem w7 {α:Type} {a b:α}:eqB a b=true ↔ a=b:=by unfold eqB; simp
def E5 (p:List C->Prop):List S->Prop:=fun av=>match av with
 | [.va (.gs r),.va (.gs q)]=>p r/\p q
 | _=>False
theorem lV {p:List C->Prop} {av:List S} (h:E5 p av):∃ r q,av=[.va (.gs r),.va (.gs q)]/\p r/\p q:=by
 unfold E5 at h
 split at h
 · exact ⟨_,_,rfl,h⟩
 · exact h.elim
def WG {α:Type} (d:List C->α) (f:α->α->Value):List S->A:=fun av=>match av with
 | [.va (.gs r),.va (.gs q)]=>.c1 (.vl (f (d r) (d q)))
 | _=>.gs []
noncomputable def JN {α:Type} (p:List C->Prop) (d:List C->α) (f:α->α->Value):Fun:=⟨E5 p,WG d f,fun av h=>by obtain ⟨r,q,rfl,_⟩:=lV h; trivial⟩
theorem yA {α:Type} {p:List C->Prop} {d:List C->α} {f:α->α->Value}:∀ av H K,(JN p d f).sp av H K->av.length=2:=fun av H K h=>by obtain ⟨r,q,rfl,_⟩:=lV h.1.1; rfl
attribute [go_sem] JN E5 WG
noncomputable def ssFn:Fun:=JN ON C.st fun a b=>.bool (eqB a b)
noncomputable def seFn:Fun:=JN yX C.en fun a b=>.bool (eqB a b)
attribute [go_sem] ssFn seFn
theorem aD5 (a b:Fl):eqB a b=(a.num == b.num && decide (a.nm=b.nm) && (a.opt == b.opt) && tN a.ty b.ty):=by
 obtain ⟨a1,a2,a3,a4⟩:=a
 obtain ⟨b1,b2,b3,b4⟩:=b
 rw [Bool.eq_iff_iff,w7]
 simp only [Fl.mk.injEq,Bool.and_eq_true,beq_iff_eq,decide_eq_true_eq,L7]
 constructor
 · rintro ⟨rfl,rfl,rfl,rfl⟩; exact ⟨⟨⟨rfl,rfl⟩,rfl⟩,rfl⟩
 · rintro ⟨⟨⟨rfl,rfl⟩,rfl⟩,rfl⟩; exact ⟨rfl,rfl,rfl,rfl⟩
theorem kU {α:Type} {a b:List α} (hl:a.length=b.length) (h:∀ j,j < a.length->a[j]? = b[j]?):a=b:=List.ext_getElem? fun j=>by
 rcases bL j a.length with h4 | h4
 · exact h j h4
 · rw [List.getElem?_eq_none h4,List.getElem?_eq_none (by omega)]
theorem aDC:Meets Tryz.prog 25 (p7 qS C.sc fun s=>.bool (c8 s)).sp:=by
 refine aG Tryz.func25 aN7 1 (by rw [Tryz.ntmps25]; decide) (aB _) kK ?_
 rintro av H K ⟨⟨h,rfl⟩,hK⟩
 obtain ⟨_,rfl,s,rfl,hs⟩:=fT h
 have hK:K (bS (c8 s)) []:=by
  have:(p7 qS C.sc fun s=>.bool (c8 s)).val [.va (.gs (aD s))]=bA (c8 s):=by simp -dsimp only [go_sem]
  rw [this] at hK; exact hK
 obtain ⟨hv,hle,hls,hes,hss⟩:=hs
 have big:c8 s=true->∀ R:Hp,W.Fin 0 K (bS true) R:=fun h R=>by
  rw [h] at hK
  exact .z ((by simpa [go_sem] using hK))
 cases d1:decide (16 < (s.es.length:Int)) with
 | true=>
  simp (maxSteps:=9^6) -dsimp only [go_sem,aD,JR,G0,d1]
  exact big (by unfold c8; rw [show decide (16 < s.es.length)=true by simp at d1 ⊢; omega]; simp) _
 | false=>
 cases d2:decide (16 < (s.ss.length:Int)) with
 | true=>
  simp (maxSteps:=9^6) -dsimp only [go_sem,aD,JR,G0,d1,d2]
  exact big (by unfold c8; rw [show decide (16 < s.es.length + s.ss.length)=true by simp at d2 ⊢; omega]; simp) _
 | false=>
 cases d3:decide (16 < (s.es.length:Int) + (s.ss.length:Int)) with
 | true=>
  simp (maxSteps:=9^6) -dsimp only [go_sem,aD,JR,G0,d1,d2,d3]
  exact ⟨by simp at d1 d2; omega,big (by unfold c8; rw [show decide (16 < s.es.length + s.ss.length)=true by simp at d3 ⊢; omega]; simp) _⟩
 | false=>
 simp (maxSteps:=9^6) -dsimp only [go_sem,aD,JR,G0,d1,d2,d3]
 simp only [decide_eq_false_iff_not] at d1 d2 d3
 refine ⟨by omega,?_⟩
 have hL:c8 s=(s.es.any (fun e=>decide (16 < e.ns.length)) || s.ss.any (fun t=>decide (16 < t.fs.length))):=by
  unfold c8; rw [decide_eq_false (by omega),decide_eq_false (by omega)]; rfl
 refine aR (α:=Nat) (fun i=>[(1,.va (.c1 (.pt 0 0))),(3,iS .i64 i)]) (fun _=>[.cells (aD s) 25])
  (fun i=>i<=s.es.length/\(s.es.drop i).any (fun e=>decide (16 < e.ns.length))=s.es.any (fun e=>decide (16 < e.ns.length))) (fun i=>s.es.length - i) 0 1 ⟨Nat.zero_le _,rfl⟩ ?_ ?_ ?_
 · simp [go_sem]
 · simp [go_sem,aD]
 rintro i ⟨hi,ho⟩
 rcases bL i s.es.length with hlt | hge
 · have hg:decide ((i:Int) < (s.es.length:Int))=true:=by simp; omega
   obtain ⟨e,hx⟩:∃ e,s.es[i]? = some e:=⟨_,bB hlt⟩
   have q2:=aQ (row:=aO) hx
   rw [dJ hx] at ho
   simp (maxSteps:=9^6) -dsimp only [go_sem,hg,↓q2,aO,aD]
   and_intros
   all_goals first
    | omega
    | skip
   · intro hc
     have hc':decide (16 < e.ns.length)=true:=by simp at hc; simp; omega
     have:c8 s=true:=by simp only [hL,<-ho,hc',Bool.true_or]
     rw [this] at hK
     exact .z ((by simpa [go_sem] using hK))
   · intro hc
     refine ⟨by omega,aC (i + 1) 1 ⟨by omega,?_⟩ (by omega) ?_ ?_⟩
     · have hc':decide (16 < e.ns.length)=false:=by simp at hc; simp; omega
       rw [<-ho,hc',Bool.false_or]
     · simp [go_sem]
     · simp [go_sem,aD]
 · have hg:decide ((i:Int) < (s.es.length:Int))=false:=by simp; omega
   obtain rfl:i=s.es.length:=by omega
   rw [fU] at ho
   rw [<-ho,Bool.false_or] at hL
   simp (maxSteps:=9^6) -dsimp only [go_sem,hg,aD]
   refine aR (α:=Nat) (fun i=>[(1,.va (.c1 (.pt 0 0))),(4,iS .i64 i)]) (fun _=>[.cells (aD s) 25])
    (fun i=>i<=s.ss.length/\(s.ss.drop i).any (fun e=>decide (16 < e.fs.length))=s.ss.any (fun e=>decide (16 < e.fs.length))) (fun i=>s.ss.length - i) 0 1 ⟨Nat.zero_le _,rfl⟩ ?_ ?_ ?_
   · simp [go_sem]
   · simp [go_sem,aD]
   clear hi ho hge hg
   rintro i ⟨hi,ho⟩
   rcases bL i s.ss.length with hlt | hge
   · have hg:decide ((i:Int) < (s.ss.length:Int))=true:=by simp; omega
     obtain ⟨e,hx⟩:∃ e,s.ss[i]? = some e:=⟨_,bB hlt⟩
     have q2:=aQ (row:=aL) hx
     rw [dJ hx] at ho
     simp (maxSteps:=9^6) -dsimp only [go_sem,hg,↓q2,aL,aD]
     and_intros
     all_goals first
      | omega
      | skip
     · intro hc
       have hc':decide (16 < e.fs.length)=true:=by simp at hc; simp; omega
       have:c8 s=true:=by simp only [hL,<-ho,hc',Bool.true_or]
       rw [this] at hK
       exact .z ((by simpa [go_sem] using hK))
     · intro hc
       refine ⟨by omega,aC (i + 1) 1 ⟨by omega,?_⟩ (by omega) ?_ ?_⟩
       · have hc':decide (16 < e.fs.length)=false:=by simp at hc; simp; omega
         rw [<-ho,hc',Bool.false_or]
       · simp [go_sem]
       · simp [go_sem,aD]
   · have hg:decide ((i:Int) < (s.ss.length:Int))=false:=by simp; omega
     obtain rfl:i=s.ss.length:=by omega
     rw [fU] at ho
     simp (maxSteps:=9^6) -dsimp only [go_sem,hg,aD]
     rw [hL,<-ho] at hK
     exact .z ((by simpa [go_sem] using hK))
def FQ (len:Sc->Nat):List S->Prop:=fun av=>match av with
 | [.va (.gs r),.va (.c1 (.vl (.int .i64 i)))]=>k9 r/\0<=i/\i < (len (C.sc r):Int)
 | _=>False
theorem oG {len:Sc->Nat} {av:List S} (h:FQ len av):∃ (s:Sc) (i:Nat),av=[.va (.gs (aD s)),iS .i64 i]/\s.fit/\i < len s:=by
 unfold FQ at h
 split at h
 · obtain ⟨⟨a,rfl,ha⟩,h1,h2⟩:=h
   rw [f6] at h2
   rename_i i
   exact ⟨a,i.toNat,by rw [Int.toNat_of_nonneg h1],ha,by omega⟩
 · exact h.elim
noncomputable def UP (f:Sc->Nat->Int):List S->A:=fun av=>match av with
 | [.va (.gs r),.va (.c1 (.vl (.int .i64 i)))]=>iA .i64 (f (C.sc r) i.toNat)
 | _=>.gs []
noncomputable def B5 (len:Sc->Nat) (f:Sc->Nat->Int):Fun:=⟨FQ len,UP f,fun av h=>by obtain ⟨a,b,rfl,_⟩:=oG h; trivial⟩
theorem IA {len:Sc->Nat} {f:Sc->Nat->Int}:∀ av H K,(B5 len f).sp av H K->av.length=2:=fun av H K h=>by obtain ⟨a,b,rfl,_⟩:=oG h.1.1; rfl
attribute [go_sem] B5 FQ UP
theorem X1:Meets Tryz.prog 26 (B5 (fun s=>s.es.length) iE).sp:=by
 refine aG Tryz.func26 aOF 2 (by rw [Tryz.ntmps26]; decide) (aI I0 (aI yS (aI SD (aB _)))) IA ?_
 rintro av H K ⟨⟨h,rfl⟩,hK⟩
 obtain ⟨s,i,rfl,hs,hi⟩:=oG (len:=fun s=>s.es.length) h
 have hK:K (iS .i64 (iE s i)) []:=by
  have:(B5 (fun s=>s.es.length) iE).val [.va (.gs (aD s)),iS .i64 i]=iA .i64 (iE s i):=by simp -dsimp only [go_sem,Int.toNat_natCast]
  rw [this] at hK; exact hK
 clear h
 have hle:=hs.ok.le
 have fin:∀ (x:Int) (R:Hp),iE s i=x->W.Fin 0 K (iS .i64 x) R:=fun x R h=>by
  rw [h] at hK
  exact .z ((by simpa [go_sem] using hK))
 obtain ⟨e,hx⟩:∃ e,s.es[i]? = some e:=⟨_,bB hi⟩
 have q1:=aQ (row:=aO) hx
 obtain ⟨_,hln,hlv,_,_⟩:=hs.ok.es e (bW hx)
 have hA:iE s i=bif !(fN (bl e.nm)) then 5 else bif dT (s.es.take i) e.nm then 7 else nJ e:=by unfold iE; rw [hx]
 simp (maxSteps:=9^6) -dsimp only [go_sem,aD,aDL,aE1,↓q1,aO]
 refine ⟨by omega,fun h1=>fin 5 _ (by rw [hA,h1]; rfl),fun h1=>?_⟩
 rw [h1] at hA
 simp only [aF] at hA
 refine aR (α:=Nat) (fun j=>[(1,iS .i64 i),(2,.va (.c1 (.pt 0 0))),(5,.va (.c1 (.pt 1 0))),(6,iS .i64 j)]) (fun _=>[.cells (aD s) 25,.cells (aO e) 62])
  (fun j=>j<=i/\dT ((s.es.take i).drop j) e.nm=dT (s.es.take i) e.nm) (fun j=>i - j) 0 2 ⟨Nat.zero_le _,rfl⟩ ?_ ?_ ?_
 · simp [go_sem]
 · simp [go_sem,aD,aO]
 have hti:(s.es.take i).length=i:=by rw [List.length_take]; omega
 rintro j ⟨hj,ho⟩
 rcases bL j i with hlt | hge
 · have hg:decide ((j:Int) < (i:Int))=true:=by simp; omega
   obtain ⟨d,hd⟩:∃ d,s.es[j]? = some d:=⟨_,bB (by omega)⟩
   have hd':(s.es.take i)[j]? = some d:=by rw [List.getElem?_take,if_pos hlt]; exact hd
   have q2:=aQ (row:=aO) hd
   rw [dT,dJ hd'] at ho
   simp (maxSteps:=9^6) -dsimp only [go_sem,hg,↓q2,aO,aD,dO]
   refine ⟨by omega,fun hc=>?_,fun hc=>?_⟩
   · rw [hc,Bool.true_or] at ho
     exact fin 7 _ (by rw [hA,<-ho]; rfl)
   · rw [hc,Bool.false_or] at ho
     refine ⟨by omega,aC (j + 1) 2 ⟨by omega,ho⟩ (by omega) ?_ ?_⟩
     · simp [go_sem]
     · simp [go_sem,aD,aO]
 · obtain rfl:j=i:=by omega
   have hg:decide ((j:Int) < (j:Int))=false:=by simp
   rw [List.drop_eq_nil_of_le (by omega)] at ho
   rw [<-ho] at hA
   replace hA:iE s j=nJ e:=hA
   clear ho hti
   simp (maxSteps:=9^6) -dsimp only [go_sem,hg,aO,aD]
   refine ⟨fun h1=>?_,fun h1=>?_⟩
   · refine fin 2 _ ?_
     rw [hA]
     unfold nJ
     have:(decide (e.ns.length=0) || decide (e.ns.length ≠ e.vs.length))=true:=by
      simp only [Bool.or_eq_true,beq_iff_eq,bne_iff_ne,decide_eq_true_eq] at h1 ⊢; omega
     rw [this]; rfl
   simp only [Bool.or_eq_false_iff,beq_eq_false_iff_ne,bne_eq_false_iff_eq,ne_eq] at h1
   have hl:e.ns.length=e.vs.length:=by omega
   have hF:iE s j=fE (gU e) (e.ns.length - 0) 0:=by
    rw [hA]; unfold nJ; rw [decide_eq_false (by omega),decide_eq_false (by omega)]; rfl
   clear hA hg hge hj
   refine aR (α:=Nat) (fun k=>[(5,.va (.c1 (.pt 1 0))),(7,iS .i64 k)]) (fun _=>[.cells (aD s) 25,.cells (aO e) 62])
    (fun k=>k<=e.ns.length/\fE (gU e) (e.ns.length - k) k=fE (gU e) (e.ns.length - 0) 0) (fun k=>e.ns.length - k) 0 2 ⟨Nat.zero_le _,rfl⟩ ?_ ?_ ?_
   · simp [go_sem]
   · simp [go_sem,aD,aO]
   rintro k ⟨hk,ho⟩
   rcases bL k e.ns.length with hlt | hge
   · have hg:decide ((k:Int) < (e.ns.length:Int))=true:=by simp; omega
     obtain ⟨nm,hx2⟩:∃ nm,e.ns[k]? = some nm:=⟨_,bB hlt⟩
     obtain ⟨n,hy⟩:∃ nm,e.vs[k]? = some nm:=⟨_,bB (by omega)⟩
     have q2:=aQ (row:=bQ) hx2
     have q3:=aQ (row:=eD) hy
     have hbs:tB (e.ns.map bQ):=oO hln
     have hk0:(0<=(k:Int))=True:=by simp
     have hk1:((k:Int)<=9223372036854775807)=True:=by simp; omega
     have hA:gU e k=bif !(bX (bl nm)) then (5:Int) else bif cO (e.ns.take k) nm then 7 else bif decide (n < 0) || decide (127 < n) then 4 else
      bif (decide ((k:Int)=0) && decide (n ≠ 0)) || (decide (0 < (k:Int)) && match e.vs[k - 1]? with | some m=>decide (n<=m) | none=>false) then 2 else 0:=by
      unfold gU; rw [hx2,hy]; rfl
     have fin':∀ (x:Int) (R:Hp),gU e k=x->x ≠ 0->W.Fin 0 K (iS .i64 x) R:=fun x R h1 h2=>fin x R (by
      rw [hF,<-ho,mB hlt (by rw [h1]; exact h2),h1])
     have dG:gU e k=0->fE (gU e) (e.ns.length - (k + 1)) (k + 1)=fE (gU e) (e.ns.length - 0) 0:=fun h1=>by rw [<-ho,n9 hlt h1]
     cases hc1:bX (bl nm) with
     | false=>
      simp (maxSteps:=9^6) -dsimp only [go_sem,hg,↓q2,aO,aD,hc1]
      exact ⟨by omega,fin' 5 _ (by rw [hA,hc1]; rfl) (by decide)⟩
     | true=>
      cases hc2:cO (e.ns.take k) nm with
      | true=>
       simp (maxSteps:=9^6) -dsimp only [go_sem,hg,↓q2,aO,aD,hc1,hc2,hbs,hk0,hk1,Int.toNat_natCast]
       exact ⟨by omega,by omega,fin' 7 _ (by rw [hA,hc1,hc2]; rfl) (by decide)⟩
      | false=>
       cases hc3:decide (n < 0) with
       | true=>
        simp (maxSteps:=9^6) -dsimp only [go_sem,hg,↓q2,↓q3,aO,aD,hc1,hc2,hbs,hk0,hk1,Int.toNat_natCast,hc3]
        exact ⟨by omega,by omega,by omega,fin' 4 _ (by rw [hA,hc1,hc2,hc3]; rfl) (by decide)⟩
       | false=>
       cases hc4:decide (127 < n) with
       | true=>
        simp (maxSteps:=9^6) -dsimp only [go_sem,hg,↓q2,↓q3,aO,aD,hc1,hc2,hbs,hk0,hk1,Int.toNat_natCast,hc3,hc4]
        exact ⟨by omega,by omega,by omega,by omega,fin' 4 _ (by rw [hA,hc1,hc2,hc3,hc4]; rfl) (by decide)⟩
       | false=>
       have hA2:gU e k=bif (decide ((k:Int)=0) && decide (n ≠ 0)) || (decide (0 < (k:Int)) && match e.vs[k - 1]? with | some m=>decide (n<=m) | none=>false) then 2 else 0:=by rw [hA,hc1,hc2,hc3,hc4]; rfl
       clear hA
       rcases Nat.eq_zero_or_pos k with h0 | h0
       · have g0:((k:Int) == 0)=true:=by simp; omega
         have g1:decide (0 < (k:Int))=false:=by simp; omega
         have g2:decide ((k:Int)=0)=true:=g0
         cases hn:(n != 0) with
         | true=>
          simp (maxSteps:=9^6) -dsimp only [go_sem,hg,↓q2,↓q3,aO,aD,hc1,hc2,hbs,hk0,hk1,Int.toNat_natCast,hc3,hc4,g0,g1,hn,Bool.and_false]
          and_intros
          all_goals first
           | omega
           | exact fin' 2 _ (by rw [hA2,g1,g2]; simp at hn; simp [hn]) (by decide)
         | false=>
          simp (maxSteps:=9^6) -dsimp only [go_sem,hg,↓q2,↓q3,aO,aD,hc1,hc2,hbs,hk0,hk1,Int.toNat_natCast,hc3,hc4,g0,g1,hn,Bool.and_false]
          and_intros
          all_goals first
           | omega
           | exact aC (k + 1) 2 ⟨by omega,dG (by rw [hA2,g1]; simp at hn; simp [hn])⟩ (by omega) (by simp [go_sem]) (by simp [go_sem,aD,aO])
       · have g0:((k:Int) == 0)=false:=by simp; omega
         have g1:decide (0 < (k:Int))=true:=by simp; omega
         have g2:decide ((k:Int)=0)=false:=g0
         obtain ⟨m,hm⟩:∃ m,e.vs[k - 1]? = some m:=⟨_,bB (by omega)⟩
         have q4:((k:Int) - 1).toNat=k - 1:=by omega
         have q5:=uK (row:=eD) hm
         cases hn:decide (n<=m) with
         | true=>
          simp (maxSteps:=9^6) -dsimp only [go_sem,hg,↓q2,↓q3,aO,aD,hc1,hc2,hbs,hk0,hk1,Int.toNat_natCast,aH,forall_eq',hc3,hc4,g0,g1,q4,hm,hn,Bool.and_true]
          and_intros
          all_goals first
           | omega
           | exact fin' 2 _ (by rw [hA2,hm,g1]; simp only [hn]; simp) (by decide)
         | false=>
          simp (maxSteps:=9^6) -dsimp only [go_sem,hg,↓q2,↓q3,aO,aD,hc1,hc2,hbs,hk0,hk1,Int.toNat_natCast,aH,forall_eq',hc3,hc4,g0,g1,q4,hm,hn,Bool.and_true]
          and_intros
          all_goals first
           | omega
           | exact aC (k + 1) 2 ⟨by omega,dG (by rw [hA2,hm,g1,g2]; simp only [hn]; rfl)⟩ (by omega) (by simp [go_sem]) (by simp [go_sem,aD,aO])
   · have hg:decide ((k:Int) < (e.ns.length:Int))=false:=by simp; omega
     obtain rfl:k=e.ns.length:=by omega
     rw [nM] at ho
     simp (maxSteps:=9^6) -dsimp only [go_sem,hg,aO]
     exact fin 0 _ (by rw [hF,<-ho])
def FO (N:Nat):List S->Prop:=fun av=>match av with
 | [.va (.gs r),.va (.gs q)]=>k9 r/\fZ q/\(C.ty q).h<=N
 | _=>False
theorem oH {N:Nat} {av:List S} (h:FO N av):∃ s t,av=[.va (.gs (aD s)),.va (.gs (aP t))]/\s.fit/\TyOk t/\t.h<=N:=by
 unfold FO at h
 split at h
 · obtain ⟨⟨a,rfl,ha⟩,⟨b,rfl,hb⟩,hh⟩:=h
   rw [jS] at hh
   exact ⟨a,b,rfl,ha,hb,hh⟩
 · exact h.elim
noncomputable def NM:List S->A:=fun av=>match av with
 | [.va (.gs r),.va (.gs q)]=>bA (valF (C.sc r).ss (C.sc r).es (C.ty q))
 | _=>.gs []
noncomputable def N9 (N:Nat):Fun:=⟨FO N,NM,fun av h=>by obtain ⟨a,b,rfl,_⟩:=oH h; trivial⟩
theorem RX {N:Nat}:∀ av H K,(N9 N).sp av H K->av.length=2:=fun av H K h=>by obtain ⟨a,b,rfl,_⟩:=oH h.1.1; rfl
attribute [go_sem] N9 FO NM
theorem aMP {ss:List St} {es:List En} {s:Int} {n:ByteArray} {e:List Ty}:valF ss es (.mk 6 s n e)=(fF ss n && s == 0 && (e.length:Int) == 0):=by
 rw [valF]; rfl
theorem aMZ {ss:List St} {es:List En} {s:Int} {n:ByteArray} {e:List Ty}:valF ss es (.mk 7 s n e)=(dT es n && s == 0 && (e.length:Int) == 0):=by
 rw [valF]; rfl
theorem OX:∀ N,Meets Tryz.prog 67 (N9 N).sp
 | 0=>⟨by kernel_rfl,by rintro xs vs E ro w K _ _ _ ⟨⟨h,_⟩,_⟩; obtain ⟨_,a,_,_,_,h⟩:=oH h; have:=a.h_pos; omega⟩
 | N + 1=>by
  refine aG Tryz.func67 aNM 2 (by rw [Tryz.ntmps67]; decide) (aI (OX N) (aI ZO (aA GI (aA QB (aB _))))) RX ?_
  rintro av H K ⟨⟨h,rfl⟩,hK⟩
  obtain ⟨sc,t,rfl,hs,ht,hh⟩:=oH h
  have hK:K (bS (valF sc.ss sc.es t)) []:=by
   have:(N9 (N + 1)).val [.va (.gs (aD sc)),.va (.gs (aP t))]=bA (valF sc.ss sc.es t):=by simp -dsimp only [go_sem]
   rw [this] at hK; exact hK
  clear h
  have fin:∀ (b:Bool) (R:Hp),valF sc.ss sc.es t=b->W.Fin 0 K (bS b) R:=fun b R h=>by
   rw [h] at hK
   exact .z ((by simp -dsimp only [go_sem]; simpa using hK))
  have hit:fZ (aP t):=fK ht
  cases t with
  | mk k s n e=>
  have hcd:=jS (.mk k s n e)
  rw [aP,aZ] at hcd hit
  have hcl:(Ty.mk k s n e).e.length=e.length:=rfl
  by_cases k1:(k == 1)=true
  · have hF:=valF.eq_1 sc.ss sc.es k s n e
    rw [k1] at hF
    simp only [aK] at hF
    simp (maxSteps:=9^6) -dsimp only [go_sem,aD,aP,aZ,qN,qY,k1,hit,hcd,hcl]
    exact fin _ _ hF
  rw [Bool.not_eq_true] at k1
  by_cases k2:(k == 2)=true
  · have hF:=valF.eq_1 sc.ss sc.es k s n e
    rw [k1,k2] at hF
    simp only [aK,aF] at hF
    simp (maxSteps:=9^6) -dsimp only [go_sem,aD,aP,aZ,qN,qY,k1,k2,hit,hcd,hcl]
    exact fin _ _ hF
  rw [Bool.not_eq_true] at k2
  by_cases k3:(k == 3)=true
  · have hF:=valF.eq_1 sc.ss sc.es k s n e
    rw [k1,k2,k3] at hF
    simp only [aK,aF,Bool.and_false,Bool.or_false] at hF
    simp (maxSteps:=9^6) -dsimp only [go_sem,aD,aP,aZ,qN,qY,k1,k2,k3,hit,hcd,hcl]
    exact fin _ _ hF
  rw [Bool.not_eq_true] at k3
  by_cases k4:(k == 4)=true
  · have hF:=valF.eq_1 sc.ss sc.es k s n e
    rw [k1,k2,k3,k4] at hF
    simp only [aK,aF] at hF
    simp (maxSteps:=9^6) -dsimp only [go_sem,aD,aP,aZ,qN,qY,k1,k2,k3,k4,hit,hcd,hcl]
    exact fin _ _ hF
  rw [Bool.not_eq_true] at k4
  by_cases k5:(k == 5)=true
  · have hF:=valF.eq_1 sc.ss sc.es k s n e
    rw [k1,k2,k3,k4,k5] at hF
    simp only [aK,aF] at hF
    cases hc:(decide (1<=s) && decide (s<=32) && bl n == [] && (e.length:Int) == 1) with
    | false=>
     have hF':valF sc.ss sc.es (.mk k s n e)=false:=by
      rw [hF]
      cases h0:(decide (1<=s) && decide (s<=32) && bl n == []) with
      | false=>rfl
      | true=>
       rw [h0,Bool.true_and] at hc
       match e,hc with
       | [],_=>rfl
       | [u],hc=>simp at hc
       | u :: v :: r,_=>simp [qB]
     simp (maxSteps:=9^6) -dsimp only [go_sem,aD,aP,aZ,qN,qY,k1,k2,k3,k4,k5,hc]
     exact fin _ _ hF'
    | true=>
     obtain ⟨u,rfl⟩:∃ u,e=[u]:=by
      simp only [Bool.and_eq_true,beq_iff_eq] at hc
      exact List.length_eq_one_iff.1 (by omega)
     have h0:(decide (1<=s) && decide (s<=32) && bl n == [])=true:=by
      simp only [Bool.and_eq_true] at hc ⊢; exact hc.1
     have hF':valF sc.ss sc.es (.mk k s n [u])=valF sc.ss sc.es u:=by rw [hF,h0]; simp [qB]
     have hu2:u.h<=N:=by rw [Ty.h,Ty.hs,Ty.hs] at hh; omega
     have hu:fZ (aP u):=fK (ht.e u (by simp [Ty.e]))
     have hsf:=iT hs
     rw [aD] at hsf
     have hsd:=f6 sc
     rw [aD] at hsd
     have hc':(decide (1<=s) && decide (s<=32) && bl n == [] && ((1:Nat):Int) == 1)=true:=hc
     simp (maxSteps:=9^6) -dsimp only [go_sem,aD,aP,aZ,qN,qY,k1,k2,k3,k4,k5,hc']
     refine ⟨⟨by omega,fun r hr=>by subst hr; exact dF u⟩,fun r hr=>?_⟩
     subst hr
     simp (maxSteps:=9^6) -dsimp only [go_sem,hsf,hsd,hu,dF]
     exact ⟨hu2,fin _ _ hF'⟩
  rw [Bool.not_eq_true] at k5
  by_cases k6:(k == 6)=true
  · obtain rfl:k=6:=by simpa using k6
    have hF:=aMP (ss:=sc.ss) (es:=sc.es) (s:=s) (n:=n) (e:=e)
    simp (maxSteps:=9^6) -dsimp only [go_sem,aD,aP,aZ,qN,qY,k1,k2,k3,k4,k5,k6]
    refine LR hs ?_
    cases hc:fF sc.ss n with
    | false=>
     rw [hc] at hF
     simp (maxSteps:=9^6) -dsimp only [go_sem,aL,hit,hcd,hcl]
     exact fin _ _ hF
    | true=>
     rw [hc] at hF
     simp (maxSteps:=9^6) -dsimp only [go_sem,aL,hit,hcd,hcl]
     exact fin _ _ hF
  rw [Bool.not_eq_true] at k6
  by_cases k7:(k == 7)=true
  · obtain rfl:k=7:=by simpa using k7
    have hF:=aMZ (ss:=sc.ss) (es:=sc.es) (s:=s) (n:=n) (e:=e)
    simp (maxSteps:=9^6) -dsimp only [go_sem,aD,aP,aZ,qN,qY,k1,k2,k3,k4,k5,k6,k7]
    refine LL hs ?_
    cases hc:dT sc.es n with
    | false=>
     rw [hc] at hF
     simp (maxSteps:=9^6) -dsimp only [go_sem,aO,hit,hcd,hcl]
     exact fin _ _ hF
    | true=>
     rw [hc] at hF
     simp (maxSteps:=9^6) -dsimp only [go_sem,aO,hit,hcd,hcl]
     exact fin _ _ hF
  rw [Bool.not_eq_true] at k7
  have hF:=valF.eq_1 sc.ss sc.es k s n e
  rw [k1,k2,k3,k4,k5,k6,k7] at hF
  simp only [aF] at hF
  simp (maxSteps:=9^6) -dsimp only [go_sem,aD,aP,aZ,qN,qY,k1,k2,k3,k4,k5,k6,k7]
  exact fin _ _ hF
def FN:List S->Prop:=fun av=>match av with
 | [.va (.gs r),.va (.gs q)]=>k9 r/\fZ q
 | _=>False
theorem AB {av:List S} (h:FN av):∃ s t,av=[.va (.gs (aD s)),.va (.gs (aP t))]/\s.fit/\TyOk t:=by
 unfold FN at h
 split at h
 · obtain ⟨⟨a,rfl,ha⟩,⟨b,rfl,hb⟩⟩:=h
   exact ⟨a,b,rfl,ha,hb⟩
 · exact h.elim
noncomputable def r0Fn:Fun:=⟨FN,NM,fun av h=>by obtain ⟨a,b,rfl,_⟩:=AB h; trivial⟩
attribute [go_sem] r0Fn FN
theorem YP:Meets Tryz.prog 67 r0Fn.sp:=iJ 0 OX fun av H K ⟨⟨h,e⟩,hK⟩=>by
 obtain ⟨a,b,rfl,ha,hb⟩:=AB h
 exact ⟨b.h,⟨⟨⟨iT ha,fK hb,by rw [jS]; exact Nat.le_refl _⟩,e⟩,hK⟩⟩
theorem P8:Meets Tryz.prog 27 (B5 (fun s=>s.ss.length) iR).sp:=by
 refine aG Tryz.func27 aLR 2 (by rw [Tryz.ntmps27]; decide) (aI I0 (aA QB (aI yS (aI YP (aB _))))) IA ?_
 rintro av H K ⟨⟨h,rfl⟩,hK⟩
 obtain ⟨s,i,rfl,hs,hi⟩:=oG (len:=fun s=>s.ss.length) h
 have hK:K (iS .i64 (iR s i)) []:=by
  have:(B5 (fun s=>s.ss.length) iR).val [.va (.gs (aD s)),iS .i64 i]=iA .i64 (iR s i):=by simp -dsimp only [go_sem,Int.toNat_natCast]
  rw [this] at hK; exact hK
 clear h
 have hls:=hs.ok.ls
 have fin:∀ (x:Int) (R:Hp),iR s i=x->W.Fin 0 K (iS .i64 x) R:=fun x R h=>by
  rw [h] at hK
  exact .z ((by simpa [go_sem] using hK))
 obtain ⟨t,hx⟩:∃ e,s.ss[i]? = some e:=⟨_,bB hi⟩
 have q1:=aQ (row:=aL) hx
 obtain ⟨_,hlf,hfs⟩:=hs.ok.ss t (bW hx)
 have hA:iR s i=bif jI s i t.nm != 0 then jI s i t.nm else p5 s.ss s.es t:=by unfold iR; rw [hx]
 have hsf:=iT hs
 rw [aD] at hsf
 have hsd:=f6 s
 rw [aD] at hsd
 simp (maxSteps:=9^6) -dsimp only [go_sem,aD,aBQ,aFW,↓q1,aL]
 refine ⟨by omega,fun h1=>fin 5 _ (by rw [hA]; unfold jI; rw [h1]; rfl),fun h1=>?_⟩
 refine LL hs ?_
 simp (maxSteps:=9^6) -dsimp only [go_sem,aO]
 refine ⟨fun h2=>fin 7 _ (by rw [hA]; unfold jI; rw [h1,h2]; rfl),fun h2=>?_⟩
 have hC:jI s i t.nm=bif fF (s.ss.take i) t.nm then 7 else 0:=by unfold jI; rw [h1,h2]; rfl
 generalize ((pZ s.es t.nm).getD default)=dflt
 refine aR (α:=Nat) (fun j=>[(1,iS .i64 i),(2,.va (.c1 (.pt 0 0))),(5,.va (.c1 (.pt 1 0))),(8,iS .i64 j)]) (fun _=>[.cells (aD s) 25,.cells (aL t) 56])
  (fun j=>j<=i/\fF ((s.ss.take i).drop j) t.nm=fF (s.ss.take i) t.nm) (fun j=>i - j) 0 2 ⟨Nat.zero_le _,rfl⟩ ?_ ?_ ?_
 · simp [go_sem]
 · simp [go_sem,aD,aL]
 have hti:(s.ss.take i).length=i:=by rw [List.length_take]; omega
 rintro j ⟨hj,ho⟩
 rcases bL j i with hlt | hge
 · have hg:decide ((j:Int) < (i:Int))=true:=by simp; omega
   obtain ⟨d,hd⟩:∃ d,s.ss[j]? = some d:=⟨_,bB (by omega)⟩
   have hd':(s.ss.take i)[j]? = some d:=by rw [List.getElem?_take,if_pos hlt]; exact hd
   have q2:=aQ (row:=aL) hd
   rw [fF,dJ hd'] at ho
   simp (maxSteps:=9^6) -dsimp only [go_sem,hg,↓q2,aL,aD,dO]
   refine ⟨by omega,fun hc=>?_,fun hc=>?_⟩
   · rw [hc,Bool.true_or] at ho
     exact fin 7 _ (by rw [hA,hC,<-ho]; rfl)
   · rw [hc,Bool.false_or] at ho
     refine ⟨by omega,aC (j + 1) 2 ⟨by omega,ho⟩ (by omega) ?_ ?_⟩
     · simp [go_sem]
     · simp [go_sem,aD,aL]
 · obtain rfl:j=i:=by omega
   have hg:decide ((j:Int) < (j:Int))=false:=by simp
   rw [List.drop_eq_nil_of_le (by omega)] at ho
   have hF:iR s j=p5 s.ss s.es t:=by rw [hA,hC,<-ho]; rfl
   clear ho hti hA hC q1 hj hge
   simp (maxSteps:=9^6) -dsimp only [go_sem,hg,aL,aD]
   clear hg
   refine aR (α:=Nat) (fun k=>[(2,.va (.c1 (.pt 0 0))),(5,.va (.c1 (.pt 1 0))),(9,iS .i64 k)]) (fun _=>[.cells (aD s) 25,.cells (aL t) 56])
    (fun k=>k<=t.fs.length/\fE (l8 s.ss s.es t) (t.fs.length - k) k=p5 s.ss s.es t) (fun k=>t.fs.length - k) 0 2 ⟨Nat.zero_le _,rfl⟩ ?_ ?_ ?_
   · simp [go_sem]
   · simp [go_sem,aD,aL]
   rintro k ⟨hk,ho⟩
   rcases bL k t.fs.length with hlt | hge
   · have hg:decide ((k:Int) < (t.fs.length:Int))=true:=by simp; omega
     obtain ⟨f,hx2⟩:∃ nm,t.fs[k]? = some nm:=⟨_,bB hlt⟩
     have q2:=aQ (row:=bH) hx2
     have hf:f.ok:=hfs f (bW hx2)
     have hit:fZ (aP f.ty):=fK hf.ty
     have hA:l8 s.ss s.es t k=bif decide (f.num < 1) || decide (127 < f.num) then (4:Int) else bif decide (0 < (k:Int)) && (match t.fs[k - 1]? with | some g=>decide (f.num<=g.num) | none=>false) then 2 else
      bif !(bX (bl f.nm)) then 5 else bif (t.fs.take k).any (fun g=>decide (g.nm=f.nm)) then 7 else bif !(valF s.ss s.es f.ty) then 13 else 0:=by
      unfold l8; rw [hx2]; rfl
     have fin':∀ (x:Int) (R:Hp),l8 s.ss s.es t k=x->x ≠ 0->W.Fin 0 K (iS .i64 x) R:=fun x R h1 h2=>fin x R (by
      rw [hF,<-ho,mB hlt (by rw [h1]; exact h2),h1])
     have dG:l8 s.ss s.es t k=0->fE (l8 s.ss s.es t) (t.fs.length - (k + 1)) (k + 1)=p5 s.ss s.es t:=fun h1=>by rw [<-ho,n9 hlt h1]
     cases c0:decide (f.num < 1) with
     | true=>
      rw [c0] at hA
      simp (maxSteps:=9^6) -dsimp only [go_sem,hg,↓q2,bH,aL,aD,c0]
      exact ⟨by omega,fin' 4 _ hA (by decide)⟩
     | false=>
     cases c1:decide (127 < f.num) with
     | true=>
      rw [c0,c1] at hA
      simp (maxSteps:=9^6) -dsimp only [go_sem,hg,↓q2,bH,aL,aD,c0,c1]
      exact ⟨by omega,fin' 4 _ hA (by decide)⟩
     | false=>
     rw [c0,c1] at hA
     simp only [Bool.or_self,aF] at hA
     rcases Nat.eq_zero_or_pos k with h0 | h0
     · have g1:decide (0 < (k:Int))=false:=by simp; omega
       rw [g1] at hA
       simp only [Bool.false_and,aF] at hA
       cases c3:bX (bl f.nm) with
       | false=>
        rw [c3] at hA
        simp (maxSteps:=9^6) -dsimp only [go_sem,hg,↓q2,bH,aL,aD,c0,c1,c3,g1]
        exact ⟨by omega,fin' 5 _ hA (by decide)⟩
       | true=>
        rw [c3] at hA
        simp only [Bool.not_true,aF] at hA
        simp (maxSteps:=9^6) -dsimp only [go_sem,hg,↓q2,bH,aL,aD,c0,c1,c3,g1]
        refine ⟨by omega,?_⟩
        refine aR (α:=Nat) (fun j=>[(2,.va (.c1 (.pt 0 0))),(5,.va (.c1 (.pt 1 0))),(9,iS .i64 k),(10,.va (.c1 (.pt 2 0))),(11,iS .i64 j)])
         (fun _=>[.cells (aD s) 25,.cells (aL t) 56,.cells (bH f) 64])
         (fun j=>j<=k/\((t.fs.take k).drop j).any (fun g=>decide (g.nm=f.nm))=(t.fs.take k).any (fun g=>decide (g.nm=f.nm))) (fun j=>k - j) 0 3 ⟨Nat.zero_le _,rfl⟩ ?_ ?_ ?_
        · simp [go_sem]
        · simp [go_sem,aD,aL,bH]
        have htk:(t.fs.take k).length=k:=by rw [List.length_take]; omega
        rintro j ⟨hj,ho2⟩
        rcases bL j k with hjt | hjg
        · have hgj:decide ((j:Int) < (k:Int))=true:=by simp; omega
          obtain ⟨d,hd⟩:∃ e,t.fs[j]? = some e:=⟨_,bB (by omega)⟩
          have hd':(t.fs.take k)[j]? = some d:=by rw [List.getElem?_take,if_pos hjt]; exact hd
          have q5:=aQ (row:=bH) hd
          rw [dJ hd'] at ho2
          simp (maxSteps:=9^6) -dsimp only [go_sem,hgj,↓q5,bH,aL,aD,dO]
          refine ⟨by omega,fun hc=>?_,fun hc=>?_⟩
          · rw [hc,Bool.true_or] at ho2
            rw [<-ho2] at hA
            exact fin' 7 _ hA (by decide)
          · rw [hc,Bool.false_or] at ho2
            refine ⟨by omega,aC (j + 1) 3 ⟨by omega,ho2⟩ (by omega) ?_ ?_⟩
            · simp [go_sem]
            · simp [go_sem,aD,aL,bH]
        · obtain rfl:j=k:=by omega
          have hgj:decide ((j:Int) < (j:Int))=false:=by simp
          rw [List.drop_eq_nil_of_le (by omega)] at ho2
          rw [<-ho2] at hA
          simp only [List.any_nil,aF] at hA
          simp (maxSteps:=9^6) -dsimp only [go_sem,hgj,bH,aL,aD,kM,hit,hsf,hsd]
          cases c5:valF s.ss s.es f.ty with
          | true=>
           rw [c5] at hA
           simp (maxSteps:=9^6) -dsimp only [go_sem]
           refine ⟨by omega,aC (j + 1) 2 ⟨by omega,dG hA⟩ (by omega) ?_ ?_⟩
           · simp [go_sem]
           · simp [go_sem,aD,aL]
          | false=>
           rw [c5] at hA
           simp (maxSteps:=9^6) -dsimp only [go_sem]
           exact fin' 13 _ hA (by decide)
     · have g1:decide (0 < (k:Int))=true:=by simp; omega
       obtain ⟨g,hy⟩:∃ m,t.fs[k - 1]? = some m:=⟨_,bB (by omega)⟩
       have q4:((k:Int) - 1).toNat=k - 1:=by omega
       have q6:=uK (row:=bH) hy
       rw [g1,hy,Bool.true_and] at hA
       simp only at hA
       cases c2:decide (f.num<=g.num) with
       | true=>
        rw [c2] at hA
        simp (maxSteps:=9^6) -dsimp only [go_sem,hg,↓q2,bH,aL,aD,c0,c1,g1,q4,c2,hy,aH,forall_eq']
        exact ⟨by omega,by omega,by omega,fin' 2 _ hA (by decide)⟩
       | false=>
        rw [c2] at hA
        simp only [aF] at hA
        cases c3:bX (bl f.nm) with
        | false=>
         rw [c3] at hA
         simp (maxSteps:=9^6) -dsimp only [go_sem,hg,↓q2,bH,aL,aD,c0,c1,c3,g1,q4,c2,hy,aH,forall_eq']
         exact ⟨by omega,by omega,by omega,fin' 5 _ hA (by decide)⟩
        | true=>
         rw [c3] at hA
         simp only [Bool.not_true,aF] at hA
         simp (maxSteps:=9^6) -dsimp only [go_sem,hg,↓q2,bH,aL,aD,c0,c1,c3,g1,q4,c2,hy,aH,forall_eq']
         refine ⟨by omega,by omega,by omega,?_⟩
         refine aR (α:=Nat) (fun j=>[(2,.va (.c1 (.pt 0 0))),(5,.va (.c1 (.pt 1 0))),(9,iS .i64 k),(10,.va (.c1 (.pt 2 0))),(11,iS .i64 j)])
          (fun _=>[.cells (aD s) 25,.cells (aL t) 56,.cells (bH f) 64])
          (fun j=>j<=k/\((t.fs.take k).drop j).any (fun g=>decide (g.nm=f.nm))=(t.fs.take k).any (fun g=>decide (g.nm=f.nm))) (fun j=>k - j) 0 3 ⟨Nat.zero_le _,rfl⟩ ?_ ?_ ?_
         · simp [go_sem]
         · simp [go_sem,aD,aL,bH]
         have htk:(t.fs.take k).length=k:=by rw [List.length_take]; omega
         rintro j ⟨hj,ho2⟩
         rcases bL j k with hjt | hjg
         · have hgj:decide ((j:Int) < (k:Int))=true:=by simp; omega
           obtain ⟨d,hd⟩:∃ e,t.fs[j]? = some e:=⟨_,bB (by omega)⟩
           have hd':(t.fs.take k)[j]? = some d:=by rw [List.getElem?_take,if_pos hjt]; exact hd
           have q5:=aQ (row:=bH) hd
           rw [dJ hd'] at ho2
           simp (maxSteps:=9^6) -dsimp only [go_sem,hgj,↓q5,bH,aL,aD,dO]
           refine ⟨by omega,fun hc=>?_,fun hc=>?_⟩
           · rw [hc,Bool.true_or] at ho2
             rw [<-ho2] at hA
             exact fin' 7 _ hA (by decide)
           · rw [hc,Bool.false_or] at ho2
             refine ⟨by omega,aC (j + 1) 3 ⟨by omega,ho2⟩ (by omega) ?_ ?_⟩
             · simp [go_sem]
             · simp [go_sem,aD,aL,bH]
         · obtain rfl:j=k:=by omega
           have hgj:decide ((j:Int) < (j:Int))=false:=by simp
           rw [List.drop_eq_nil_of_le (by omega)] at ho2
           rw [<-ho2] at hA
           simp only [List.any_nil,aF] at hA
           simp (maxSteps:=9^6) -dsimp only [go_sem,hgj,bH,aL,aD,kM,hit,hsf,hsd]
           cases c5:valF s.ss s.es f.ty with
           | true=>
            rw [c5] at hA
            simp (maxSteps:=9^6) -dsimp only [go_sem]
            refine ⟨by omega,aC (j + 1) 2 ⟨by omega,dG hA⟩ (by omega) ?_ ?_⟩
            · simp [go_sem]
            · simp [go_sem,aD,aL]
           | false=>
            rw [c5] at hA
            simp (maxSteps:=9^6) -dsimp only [go_sem]
            exact fin' 13 _ hA (by decide)
   · have hg:decide ((k:Int) < (t.fs.length:Int))=false:=by simp; omega
     obtain rfl:k=t.fs.length:=by omega
     rw [nM] at ho
     simp (maxSteps:=9^6) -dsimp only [go_sem,hg,aL]
     exact fin 0 _ (by rw [hF,<-ho])
mutual
def dirF:Ty->List ByteArray
 | .mk k _ n e=>bif k == 6 || k == 7 then [n] else f8 e
def f8:List Ty->List ByteArray
 | []=>[]
 | t :: r=>dirF t ++ f8 r
end
theorem uB:∀ (a b:List Ty),f8 (a ++ b)=f8 a ++ f8 b
 | [],b=>rfl
 | t :: r,b=>by rw [List.cons_append,f8,f8,uB r b,List.append_assoc]
theorem ED:∀ {l:List Ty} {t:Ty},t ∈ l->(dirF t).length<=(f8 l).length
 | x :: l,t,h=>by
  rw [f8,List.length_append]
  rcases List.mem_cons.1 h with rfl | h
  · omega
  · have:=ED h; omega
def aBU (N:Nat):W.Spec:=fun av H K=>∃ t:Ty,av=[.va (.gs (aP t))]/\H=[]/\TyOk t/\t.h<=N/\(dirF t).length<=1000000000/\K (.va (.c1 (.fz ((dirF t).map bQ)))) []
theorem aCF {N:Nat} {t:Ty} {K:S->Hp->Prop} (h1:TyOk t) (h2:t.h<=N) (h3:(dirF t).length<=1000000000) (hK:K (.va (.c1 (.fz ((dirF t).map bQ)))) []):aBU N [.va (.gs (aP t))] [] K:=⟨t,rfl,rfl,h1,h2,h3,hK⟩
theorem aAY (l:List ByteArray):∀ r ∈ l.map bQ,∀ c ∈ r,c.shut=true/\c.one:=fun r hr c hc=>by
 obtain ⟨x,_,rfl⟩:=List.mem_map.1 hr
 simp at hc; subst hc; simp [go_sem,C.shut]
theorem LX:∀ N,Meets Tryz.prog 69 (aBU N)
 | 0=>⟨by kernel_rfl,by rintro xs vs E ro w K _ _ _ ⟨t,_,_,_,h,_⟩; have:=t.h_pos; omega⟩
 | N + 1=>by
  refine aG Tryz.func69 aNA 1 (by rw [Tryz.ntmps69]; decide) (aA (LX N) (aB _)) (fun av H K h=>by obtain ⟨_,rfl,_⟩:=h; rfl) ?_
  rintro av H K ⟨⟨k,s,n,e⟩,rfl,rfl,h1,h2,h3,hK⟩
  have hle:=h1.len
  have hoe:=h1.e
  simp only [Ty.e] at hle hoe
  have hD:=dirF.eq_1 k s n e
  simp (maxSteps:=9^6) -dsimp only [go_sem,aP,aZ,aDQ,ZS]
  refine ⟨fun c1=>?_,fun c1=>?_⟩
  · rw [c1,aK] at hD
    rw [hD] at hK
    refine .pub 1 _ _ _ rfl (.sel [] (by simp) (by simp [cC]) rfl (.done ?_))
    simp -dsimp only [go_sem,cC]
    simpa using hK
  · rw [c1,aF] at hD
    rw [hD] at hK h3
    refine cI (α:=Nat) (fun i=>[(1,.va (.c1 (.pt 0 0))),(3,.va (.c1 (.sl 1 (f8 (e.take i)).length))),(4,iS .i64 i)]) (fun i=>[.cells (aP (.mk k s n e)) 37,.row ((f8 (e.take i)).map bQ) 9 1])
     (fun i=>i<=e.length) (fun i=>e.length - i) (.nil 3 9 1 rfl (hY 0 2 (Nat.zero_le _) ?_ ?_)) ?_
    · simp -dsimp only [go_sem]<;>simp [f8]
    · simp -dsimp only [go_sem,aP,aZ]<;>simp [f8]
    intro i hi
    rcases bL i e.length with hlt | hge
    · have hg:decide ((i:Int) < (e.length:Int))=true:=by simp; omega
      obtain ⟨u,hx⟩:∃ t,e[i]? = some t:=⟨_,bB hlt⟩
      have q1:=aQ (row:=aP) hx
      have hu:=bW hx
      have htn:f8 (e.take (i + 1))=f8 (e.take i) ++ dirF u:=by rw [qC hx,uB]; simp [f8]
      have hb:(f8 (e.take (i + 1))).length<=1000000000:=by
       have:=uB (e.take (i + 1)) (e.drop (i + 1))
       rw [List.take_append_drop] at this
       rw [this,List.length_append] at h3; omega
      rw [htn,List.length_append] at hb
      simp (maxSteps:=9^6) -dsimp only [go_sem,hg,↓q1,dF,aP,aZ]
      refine ⟨by omega,aCF (hoe u hu) ?_ ?_ ?_⟩
      · have:=Ty.hs_mem hu; rw [Ty.h] at h2; omega
      · have:=ED hu; omega
      simp (maxSteps:=9^6) -dsimp only [go_sem,iQ mY]
      refine ⟨aAY _,by omega,by omega,aC (i + 1) 2 (by omega) (by omega) ?_ ?_⟩
      · simp -dsimp only [go_sem,htn]<;>simp
      · simp -dsimp only [go_sem,aP,aZ,htn]<;>simp
    · have hg:decide ((i:Int) < (e.length:Int))=false:=by simp; omega
      obtain rfl:i=e.length:=by omega
      rw [List.take_length]
      simp (maxSteps:=9^6) -dsimp only [go_sem,hg,aP,aZ]
      rw [<-List.length_map (f:=bQ)]
      refine .pub 1 _ _ _ rfl (.sel [] (by simp) (by simp [cC]) rfl (.done ?_))
      simp -dsimp only [go_sem,cC]
      simpa using hK
def VH:W.Spec:=fun av H K=>∃ t:Ty,av=[.va (.gs (aP t))]/\H=[]/\TyOk t/\(dirF t).length<=1000000000/\K (.va (.c1 (.fz ((dirF t).map bQ)))) []
theorem XU {t:Ty} {K:S->Hp->Prop} (h1:TyOk t) (h3:(dirF t).length<=1000000000) (hK:K (.va (.c1 (.fz ((dirF t).map bQ)))) []):VH [.va (.gs (aP t))] [] K:=⟨t,rfl,rfl,h1,h3,hK⟩
theorem TY:Meets Tryz.prog 69 VH:=iJ 0 LX fun _av _H _K ⟨t,e1,e2,h1,h3,hK⟩=>⟨t.h,t,e1,e2,h1,Nat.le_refl _,h3,hK⟩
def fX (x:ByteArray):Bool->List ByteArray->List ByteArray
 | d,[]=>bif d then [] else [x]
 | d,y :: r=>bif !d && (Op.bytesLess (bl x) (bl y) || bl x == bl y) then (bif Op.bytesLess (bl x) (bl y) then x :: y :: fX x true r else y :: fX x true r) else y :: fX x d r
theorem H7 (x:ByteArray):∀ (d:Bool) (l:List ByteArray),(fX x d l).length<=l.length + 1
 | d,[]=>by cases d<;>simp [fX]
 | d,y :: r=>by
  have h1:=lR x r
  have h2:=H7 x d r
  rw [fX]
  cases d<;>cases Op.bytesLess (bl x) (bl y)<;>cases bl x == bl y<;>simp [h1] at h2 ⊢<;>omega
where lR (x:ByteArray):∀ l,fX x true l=l
 | []=>rfl
 | y :: r=>by rw [fX,lR x r]; rfl
def aCS:W.Spec:=fun av H K=>∃ (l:List ByteArray) (x:ByteArray),av=[.va (.c1 (.fz (l.map bQ))),tS x]/\H=[]/\l.length<=1000000/\K (.va (.c1 (.fz ((fX x false l).map bQ)))) []
theorem Z2 {l:List ByteArray} {x:ByteArray} {K:S->Hp->Prop} (h:l.length<=1000000) (hK:K (.va (.c1 (.fz ((fX x false l).map bQ)))) []):aCS [.va (.c1 (.fz (l.map bQ))),tS x] [] K:=⟨l,x,rfl,rfl,h,hK⟩
theorem aLI:Meets Tryz.prog 70 aCS:=by
 refine aG Tryz.func70 aLO 2 (by rw [Tryz.ntmps70]; decide) (aB _) (fun av H K h=>by obtain ⟨_,_,rfl,_⟩:=h; rfl) ?_
 rintro av H K ⟨l,x,rfl,rfl,hl,hK⟩
 have hlen:=H7 x false l
 simp (maxSteps:=9^6) -dsimp only [go_sem,aFV,aEP]
 refine cI (α:=Nat × Bool × List ByteArray) (fun z=>[(0,.va (.c1 (.fz (l.map bQ)))),(1,tS x),(5,.va (.c1 (.sl 0 z.2.2.length))),(6,bS z.2.1),(7,iS .i64 z.1)]) (fun z=>[.row (z.2.2.map bQ) 9 1])
  (fun z=>z.1<=l.length/\z.2.2 ++ fX x z.2.1 (l.drop z.1)=fX x false l) (fun z=>l.length - z.1) (.nil 5 9 1 rfl (hY (0,false,[]) 1 ⟨Nat.zero_le _,rfl⟩ ?_ ?_)) ?_
 · simp -dsimp only [go_sem]<;>simp
 · simp -dsimp only [go_sem]<;>simp
 rintro ⟨i,d,o⟩ ⟨hi,ho⟩
 simp only at hi ho ⊢
 have hol:o.length<=l.length + 1:=by
  have:=congrArg List.length ho
  rw [List.length_append] at this; omega
 rcases bL i l.length with hlt | hge
 · have hg:decide ((i:Int) < (l.length:Int))=true:=by simp; omega
   obtain ⟨y,hx⟩:∃ t,l[i]? = some t:=⟨_,bB hlt⟩
   have q1:=aQ (row:=bQ) hx
   have hdr:l.drop i=y :: l.drop (i + 1):=by
    obtain ⟨h,rfl⟩:=bC.1 hx
    exact List.drop_eq_getElem_cons h
   rw [hdr,fX] at ho
   have hst:∀ (u:ByteArray),[[C.vl (.string u)]]=[u].map bQ:=fun _=>rfl
   cases d with
   | true=>
    simp only [Bool.not_true,Bool.false_and,aF] at ho
    simp (maxSteps:=9^6) -dsimp only [go_sem,hg,↓q1]
    and_intros
    all_goals first
     | omega
     | skip
    refine aC (i + 1,true,o ++ [y]) 1 ⟨by simp only; omega,by simp only [List.append_assoc,List.singleton_append]; exact ho⟩ (by simp only; omega) ?_ ?_
    · simp -dsimp only [go_sem]<;>simp
    · simp -dsimp only [go_sem]<;>simp
   | false=>
    simp only [Bool.not_false,Bool.true_and] at ho
    cases c2:Op.bytesLess (bl x) (bl y) with
    | true=>
     rw [c2] at ho
     simp only [Bool.true_or,aK] at ho
     simp (maxSteps:=9^6) -dsimp only [go_sem,hg,↓q1,c2,Bool.true_or]
     and_intros
     all_goals first
      | omega
      | skip
     refine aC (i + 1,true,o ++ [x,y]) 1 ⟨by simp only; omega,by simp only [List.append_assoc,List.cons_append,List.nil_append]; exact ho⟩ (by simp only; omega) ?_ ?_
     · simp -dsimp only [go_sem]<;>simp
     · simp -dsimp only [go_sem]<;>simp
    | false=>
     rw [c2] at ho
     simp only [Bool.false_or,aF] at ho
     cases c3:bl x == bl y with
     | true=>
      rw [c3] at ho
      simp only [aK] at ho
      simp (maxSteps:=9^6) -dsimp only [go_sem,hg,↓q1,c2,c3,Bool.false_or]
      and_intros
      all_goals first
       | omega
       | skip
      refine aC (i + 1,true,o ++ [y]) 1 ⟨by simp only; omega,by simp only [List.append_assoc,List.singleton_append]; exact ho⟩ (by simp only; omega) ?_ ?_
      · simp -dsimp only [go_sem]<;>simp
      · simp -dsimp only [go_sem]<;>simp
     | false=>
      rw [c3] at ho
      simp only [aF] at ho
      simp (maxSteps:=9^6) -dsimp only [go_sem,hg,↓q1,c2,c3,Bool.false_or]
      and_intros
      all_goals first
       | omega
       | skip
      refine aC (i + 1,false,o ++ [y]) 1 ⟨by simp only; omega,by simp only [List.append_assoc,List.singleton_append]; exact ho⟩ (by simp only; omega) ?_ ?_
      · simp -dsimp only [go_sem]<;>simp
      · simp -dsimp only [go_sem]<;>simp
 · have hg:decide ((i:Int) < (l.length:Int))=false:=by simp; omega
   obtain rfl:i=l.length:=by omega
   rw [List.drop_length] at ho
   simp only [fX] at ho
   cases d with
   | true=>
    simp only [aK,List.append_nil] at ho
    rw [<-ho] at hK
    simp (maxSteps:=9^6) -dsimp only [go_sem,hg]
    rw [<-List.length_map (f:=bQ)]
    refine .pub 0 _ _ _ rfl (.sel [] (by simp) (by simp [cC]) rfl (.done ?_))
    simp -dsimp only [go_sem,cC]
    simpa using hK
   | false=>
    simp only [aF] at ho
    rw [<-ho] at hK
    simp (maxSteps:=9^6) -dsimp only [go_sem,hg]
    refine ⟨by omega,?_⟩
    have e1:o.length + 1=((o ++ [x]).map bQ).length:=by simp
    have e2:o.map bQ ++ [[C.vl (.string x)]]=(o ++ [x]).map bQ:=by simp
    rw [e1,e2]
    refine .pub 0 _ _ _ rfl (.sel [] (by simp) (by simp [cC]) rfl (.done ?_))
    simp -dsimp only [go_sem,cC]
    simpa using hK
abbrev EO (a b:ByteArray):Prop:=bl a < bl b
theorem aAF (x:List UInt8):∀ y:List UInt8,Op.bytesLess x y=decide (x < y):=by
 induction x with
 | nil=>intro y; cases y<;>simp [Op.bytesLess]
 | cons a x ih=>
  intro y
  cases y with
  | nil=>simp [Op.bytesLess]
  | cons b y=>
   have:=ih y
   rw [Op.bytesLess,this,Bool.eq_iff_iff]
   simp [List.cons_lt_cons_iff]
theorem VY (a b:ByteArray):Op.bytesLess (bl a) (bl b)=decide (EO a b):=aAF _ _
theorem oE (a:ByteArray):¬ EO a a:=List.lt_irrefl _
theorem EJ {a b c:ByteArray} (h:EO a b) (h2:EO b c):EO a c:=List.lt_trans h h2
theorem PK {a b:ByteArray} (h:¬ EO a b) (h2:a ≠ b):EO b a:=by
 have h3:bl b<=bl a:=List.not_lt.1 h
 exact Std.lt_of_le_of_ne h3 (fun e=>h2 (BG e.symm))
def Asc (l:List ByteArray):Prop:=l.Pairwise EO
theorem KH:∀ {a b:List ByteArray},Asc a->Asc b->(∀ x,x ∈ a ↔ x ∈ b)->a=b
 | [],[],_,_,_=>rfl
 | [],y :: b,_,_,h=>by have:=(h y).2 List.mem_cons_self; cases this
 | x :: a,[],_,_,h=>by have:=(h x).1 List.mem_cons_self; cases this
 | x :: a,y :: b,h1,h2,h=>by
  obtain ⟨p1,p2⟩:=List.pairwise_cons.1 h1
  obtain ⟨p3,p4⟩:=List.pairwise_cons.1 h2
  have e:x=y:=by
   rcases List.mem_cons.1 ((h x).1 List.mem_cons_self) with e | e
   · exact e
   · rcases List.mem_cons.1 ((h y).2 List.mem_cons_self) with e2 | e2
     · exact e2.symm
     · exact absurd (EJ (p1 y e2) (p3 x e)) (oE x)
  subst e
  rw [KH p2 p4 fun z=>?_]
  constructor
  · intro hz
    rcases List.mem_cons.1 ((h z).1 (List.mem_cons_of_mem _ hz)) with e | e
    · exact absurd (p1 z hz) (by rw [e]; exact oE x)
    · exact e
  · intro hz
    rcases List.mem_cons.1 ((h z).2 (List.mem_cons_of_mem _ hz)) with e | e
    · exact absurd (p3 z hz) (by rw [e]; exact oE x)
    · exact e
theorem Asc.nodup {l:List ByteArray} (h:Asc l):l.Nodup:=by
 unfold List.Nodup
 refine List.Pairwise.imp ?_ h
 intro a b h e
 subst e
 exact oE a h
theorem lR (x:ByteArray):∀ l,fX x true l=l
 | []=>rfl
 | y :: r=>by rw [fX,lR x r]; rfl
theorem lE {x z:ByteArray}:∀ {l:List ByteArray},z ∈ fX x false l ↔ z=x\/z ∈ l
 | []=>by simp [fX]
 | y :: r=>by
  rw [fX,lR]
  cases c1:Op.bytesLess (bl x) (bl y) with
  | true=>simp
  | false=>
   cases c2:bl x == bl y with
   | true=>
    have:x=y:=BG (by simpa using c2)
    subst this
    simp
   | false=>
    have:=lE (x:=x) (z:=z) (l:=r)
    simp [this]
    constructor
    · rintro (h | h | h)
      · exact .inr (.inl h)
      · exact .inl h
      · exact .inr (.inr h)
    · rintro (h | h | h)
      · exact .inr (.inl h)
      · exact .inl h
      · exact .inr (.inr h)
theorem H4 {x:ByteArray}:∀ {l:List ByteArray},Asc l->Asc (fX x false l)
 | [],_=>by simp [fX,Asc]
 | y :: r,h=>by
  obtain ⟨p1,p2⟩:=List.pairwise_cons.1 h
  rw [fX,lR]
  cases c1:Op.bytesLess (bl x) (bl y) with
  | true=>
   rw [VY] at c1
   have c1:=of_decide_eq_true c1
   simp only [Bool.not_false,Bool.true_or,Bool.and_true,aK]
   refine List.pairwise_cons.2 ⟨fun z hz=>?_,h⟩
   rcases List.mem_cons.1 hz with rfl | hz
   · exact c1
   · exact EJ c1 (p1 z hz)
  | false=>
   cases c2:bl x == bl y with
   | true=>exact h
   | false=>
    rw [VY] at c1
    have c1:=of_decide_eq_false c1
    have c2:x ≠ y:=fun e=>by subst e; simp at c2
    simp only [Bool.not_false,Bool.true_and,Bool.or_self,aF]
    refine List.pairwise_cons.2 ⟨fun z hz=>?_,H4 p2⟩
    rcases lE.1 hz with rfl | hz
    · exact PK c1 c2
    · exact p1 z hz
theorem TC {l:List ByteArray} (h:l.Nodup):Asc (gA l):=by
 have h1:((l.map bl).mergeSort fun x y=>decide (x<=y)).Pairwise fun a b=>decide (a<=b)=true:=
  List.pairwise_mergeSort (le:=fun (x y:List UInt8)=>decide (x<=y)) (fun (a b c:List UInt8) h1 h2=>decide_eq_true (List.le_trans (of_decide_eq_true h1) (of_decide_eq_true h2))) (fun (a b:List UInt8)=>by
   rcases List.le_total a b with h | h<;>simp [h]) _
 have h2:((l.map bl).mergeSort fun x y=>decide (x<=y)).Nodup:=by
  rw [(List.mergeSort_perm _ _).nodup_iff]
  exact List.Pairwise.map bl (fun a b (hab:a ≠ b) e=>hab (BG e)) h
 unfold gA Asc
 rw [List.pairwise_map]
 refine List.Pairwise.imp₂ (fun a b h1 h2=>?_) h1 h2
 exact Std.lt_of_le_of_ne (of_decide_eq_true h1) h2
theorem PY (ss:List St) (n:ByteArray):Asc (dR ss n):=TC (uO ss n)
theorem P2 {e:List Ty} (h:((e.length:Int) == 0)=true):e=[]:=by simpa using h
theorem KO (ss:List St) (es:List En):∀ (N:Nat) (t:Ty),t.h<=N->valF ss es t=true->dirF t=bif cD t then [bV t] else []
 | 0,t,h,_=>absurd h (by have:=t.h_pos; omega)
 | N + 1,.mk k s n e,h,hv=>by
  cases k5:k == 5 with
  | true=>
   obtain rfl:k=5:=by simpa using k5
   obtain ⟨u,rfl,hu⟩:=tC hv
   have:=KO ss es N u (by rw [Ty.h,Ty.hs,Ty.hs] at h; omega) hu
   unfold cD bV
   rw [vB]
   rw [dirF,f8,f8,List.append_nil,this]
   rfl
  | false=>
   have h1:fQ (.mk k s n e)=.mk k s n e:=r9 (by rw [k5]; rfl)
   unfold cD bV
   rw [h1,dirF]
   simp only [Ty.k,Ty.n]
   cases k67:(k == 6 || k == 7) with
   | true=>rfl
   | false=>
    have he:e=[]:=by
     rw [Bool.or_eq_false_iff] at k67
     rw [valF,k5,k67.1,k67.2] at hv
     cases k1:k == 1<;>cases k2:k == 2<;>cases k3:k == 3<;>cases k4:k == 4<;>rw [k1,k2,k3,k4] at hv<;>simp only [aK,aF,Bool.and_eq_true,reduceCtorEq] at hv<;>first | exact P2 hv.2 | exact absurd hv (by decide)
    subst he; rfl
theorem HU {ss:List St} {es:List En} {t:Ty} (hv:valF ss es t=true):dirF t=bif cD t then [bV t] else []:=KO ss es t.h t (Nat.le_refl _) hv
structure UI (ss:List St) (n:ByteArray) (i:Nat) (todo o:List ByteArray):Prop where
 hd:∃ r,todo=n :: r/\r.Nodup/\∀ x,x ∈ o ↔ x ∈ r
 rc:∀ x ∈ o,Reach ss n x
 dn:∀ j a,j < i->todo[j]? = some a->∀ y,e8 ss a y->y ∈ o
 asc:Asc o
theorem UI.init (ss:List St) (n:ByteArray):UI ss n 0 [n] []:=⟨⟨[],rfl,.nil,fun _x=>Iff.rfl⟩,fun _x h=>(List.not_mem_nil h).elim,fun _j _a h=>absurd h (Nat.not_lt_zero _),List.Pairwise.nil⟩
theorem PB {ss:List St} {es:List En} (g:Gd ss es) {n:ByteArray} {l:List ByteArray} (h:l.Nodup) (hr:∀ x ∈ l,Reach ss n x):l.length<=32:=Nat.le_trans (uZ h fun x hx=>(kN ss n x).2 (hr x hx)) (g.vlen n)
theorem UI.len {ss:List St} {es:List En} (g:Gd ss es) {n:ByteArray} {i:Nat} {todo o:List ByteArray} (h:UI ss n i todo o):todo.length<=33/\o.length<=32:=by
 obtain ⟨r,rfl,h1,h2⟩:=h.hd
 have:=PB g h1 fun x hx=>h.rc x ((h2 x).2 hx)
 have:=PB g h.asc.nodup h.rc
 simp only [List.length_cons]; omega
theorem UI.rch {ss:List St} {n:ByteArray} {i k:Nat} {todo o:List ByteArray} (h:UI ss n i todo o) {a y:ByteArray} (ha:todo[k]? = some a) (hy:e8 ss a y):Reach ss n y:=by
 obtain ⟨r,rfl,h1,h2⟩:=h.hd
 cases k with
 | zero=>simp at ha; subst ha; exact .one hy
 | succ k=>
  simp at ha
  exact .more (h.rc a ((h2 a).2 (bW ha))) hy
theorem UI.add {ss:List St} {n:ByteArray} {i:Nat} {todo o:List ByteArray} (h:UI ss n i todo o) {y:ByteArray} (hr:Reach ss n y) (hy:y ∉ o) (hi:i<=todo.length):UI ss n i (todo ++ [y]) (fX y false o):=by
 obtain ⟨r,rfl,h1,h2⟩:=h.hd
 refine ⟨⟨r ++ [y],by simp,?_,fun x=>?_⟩,fun x hx=>?_,fun j a hj ha z hz=>?_,H4 h.asc⟩
 · rw [List.nodup_append]
   exact ⟨h1,by simp,fun a ha b hb=>by simp at hb; subst hb; exact fun e=>hy ((h2 b).2 (e ▸ ha))⟩
 · rw [lE,h2]; simp [or_comm]
 · rcases lE.1 hx with rfl | hx
   · exact hr
   · exact h.rc x hx
 · rw [List.getElem?_append_left (by omega)] at ha
   exact lE.2 (.inr (h.dn j a hj ha z hz))
theorem UI.next {ss:List St} {n:ByteArray} {i:Nat} {todo o:List ByteArray} (h:UI ss n i todo o) {a:ByteArray} (ha:todo[i]? = some a) (hy:∀ y,e8 ss a y->y ∈ o):UI ss n (i + 1) todo o:=by
 refine ⟨h.hd,h.rc,fun j b hj hb y hyb=>?_,h.asc⟩
 rcases bL j i with h4 | h4
 · exact h.dn j b h4 hb y hyb
 · obtain rfl:j=i:=by omega
   rw [ha] at hb; obtain rfl:=bK hb
   exact hy y hyb
theorem UI.fin {ss:List St} {n:ByteArray} {todo o:List ByteArray} (h:UI ss n todo.length todo o):o=dR ss n:=by
 refine KH h.asc (PY ss n) fun x=>?_
 rw [DP]
 refine ⟨h.rc x,fun hx=>?_⟩
 obtain ⟨r,e,h1,h2⟩:=h.hd
 have hn:∀ y,e8 ss n y->y ∈ o:=h.dn 0 n (by rw [e]; simp) (by rw [e]; rfl)
 induction hx with
 | one h=>exact hn _ h
 | more _ h3 ih=>
  obtain ⟨j,hj⟩:=List.mem_iff_getElem?.1 ((h2 _).1 ih)
  rename_i b c _
  have hj2:todo[j + 1]? = some b:=by rw [e]; simpa using hj
  exact h.dn (j + 1) _ (bC.1 hj2).1 hj2 _ h3
def aCP:W.Spec:=fun av H K=>∃ (s:Sc) (n:ByteArray),av=[.va (.gs (aD s)),tS n]/\H=[]/\s.fit/\Gd s.ss s.es/\K (.va (.c1 (.fz ((dR s.ss n).map bQ)))) []
theorem aD7 {s:Sc} {n:ByteArray} {K:S->Hp->Prop} (h:s.fit) (g:Gd s.ss s.es) (hK:K (.va (.c1 (.fz ((dR s.ss n).map bQ)))) []):aCP [.va (.gs (aD s)),tS n] [] K:=⟨s,n,rfl,rfl,h,g,hK⟩
theorem ZN {ss:List St} {es:List En} {t:Ty} (hv:valF ss es t=true):(dirF t).length<=1:=by
 rw [HU hv]; cases cD t<;>simp
theorem MC {ss:List St} {es:List En} {t:Ty} (hv:valF ss es t=true) {y:ByteArray}:y ∈ dirF t ↔ cD t=true/\bV t=y:=by
 rw [HU hv]; cases cD t<;>simp [eq_comm]
theorem aHA:Meets Tryz.prog 28 aCP:=by
 refine aG Tryz.func28 aLE 2 (by rw [Tryz.ntmps28]; decide) (aA GI (aA TY (aI SD (aA aLI (aB _))))) (fun av H K h=>by obtain ⟨_,_,rfl,_⟩:=h; rfl) ?_
 rintro av H K ⟨s,n,rfl,rfl,hs,g,hK⟩
 simp (maxSteps:=9^6) -dsimp only [go_sem,aD,aCH,aCK]
 refine cI (α:=Nat × List ByteArray × List ByteArray) (fun z=>[(2,.va (.c1 (.pt 0 0))),(5,.va (.c1 (.fz (z.2.2.map bQ)))),(6,.va (.c1 (.sl 1 z.2.1.length))),(7,iS .i64 z.1)]) (fun z=>[.cells (aD s) 25,.row (z.2.1.map bQ) 9 1])
  (fun z=>z.1<=z.2.1.length/\UI s.ss n z.1 z.2.1 z.2.2) (fun z=>34 - z.1) (.nf 5 (hY (0,[n],[]) 2 ⟨Nat.zero_le _,UI.init _ _⟩ ?_ ?_)) ?_
 · simp -dsimp only [go_sem]<;>simp
 · simp -dsimp only [go_sem,aD]<;>simp
 rintro ⟨i,todo,o⟩ ⟨hi,hu⟩
 simp only at hi hu ⊢
 obtain ⟨htl,hol⟩:=hu.len g
 rcases bL i todo.length with hlt | hge
 · have hg:decide ((i:Int) < (todo.length:Int))=true:=by simp; omega
   obtain ⟨a,ha⟩:∃ a,todo[i]? = some a:=⟨_,bB hlt⟩
   have q1:=aQ (row:=bQ) ha
   simp (maxSteps:=9^6) -dsimp only [go_sem,hg,aD,ha,aH,forall_eq']
   refine ⟨by omega,hlt,LR hs ?_⟩
   generalize hx:(fS s.ss a).getD default=x
   have hxf:∀ f ∈ x.fs,f.ok/\valF s.ss s.es f.ty=true:=fun f hf=>by
    cases hc:fS s.ss a with
    | none=>rw [hc] at hx; subst hx; cases hf
    | some t=>
     rw [hc] at hx
     subst hx
     exact ⟨(hs.ok.ss _ (l9 hc).1).fs f hf,g.val _ (l9 hc).1 f hf⟩
   have hxl:x.fs.length<=9223372036854775807:=by
    cases hc:fS s.ss a with
    | none=>rw [hc] at hx; subst hx; exact Nat.zero_le _
    | some t=>rw [hc] at hx; subst hx; exact (hs.ok.ss _ (l9 hc).1).len
   have hxr:∀ y,e8 s.ss a y ↔ CN x y:=fun y=>by unfold e8; rw [hx]
   simp (maxSteps:=9^6) -dsimp only [go_sem,aL]
   refine aR (α:=Nat × List ByteArray × List ByteArray) (fun z=>[(2,.va (.c1 (.pt 0 0))),(5,.va (.c1 (.fz (z.2.2.map bQ)))),(6,.va (.c1 (.sl 1 z.2.1.length))),(7,iS .i64 i),(8,.va (.c1 (.pt 2 0))),(10,iS .i64 z.1)]) (fun z=>[.cells (aD s) 25,.row (z.2.1.map bQ) 9 1,.cells (aL x) 56])
    (fun z=>z.1<=x.fs.length/\z.2.1[i]? = some a/\UI s.ss n i z.2.1 z.2.2/\∀ f ∈ x.fs.take z.1,cD f.ty=true->bV f.ty ∈ z.2.2) (fun z=>x.fs.length - z.1) (0,todo,o) 3 ⟨Nat.zero_le _,ha,hu,fun f hf=>by cases hf⟩ ?_ ?_ ?_
   · simp -dsimp only [go_sem]<;>simp
   · simp -dsimp only [go_sem,aD,aL]<;>simp
   clear hu ha hlt hi htl hol hg q1
   rintro ⟨k,td,o⟩ ⟨hk,ha,hu,hr⟩
   simp only at hk ha hu hr ⊢
   obtain ⟨htl,hol⟩:=hu.len g
   have hil:=(bC.1 ha).1
   rcases bL k x.fs.length with hlt | hge
   · have hg:decide ((k:Int) < (x.fs.length:Int))=true:=by simp; omega
     obtain ⟨f,hf⟩:∃ a,x.fs[k]? = some a:=⟨_,bB hlt⟩
     have q1:=aQ (row:=bH) hf
     obtain ⟨hfo,hfv⟩:=hxf f (bW hf)
     simp (maxSteps:=9^6) -dsimp only [go_sem,hg,↓q1,aD,aL,bH,kM]
     have hdl:=ZN hfv
     refine ⟨by omega,XU hfo.ty (by omega) ?_⟩
     simp (maxSteps:=9^6) -dsimp only [go_sem]
     have hdm:∀ y ∈ dirF f.ty,Reach s.ss n y:=fun y hy=>by
      obtain ⟨h1,h2⟩:=(MC hfv).1 hy
      exact hu.rch ha ((hxr y).2 ⟨f,bW hf,h1,h2⟩)
     have hdf:(∀ o':List ByteArray,(∀ y ∈ dirF f.ty,y ∈ o')->(∀ f ∈ x.fs.take k,cD f.ty=true->bV f.ty ∈ o')->∀ f ∈ x.fs.take (k + 1),cD f.ty=true->bV f.ty ∈ o'):=fun o' h1 h2 f' hf' hn=>by
      rw [qC hf] at hf'
      rcases List.mem_append.1 hf' with h | h
      · exact h2 f' h hn
      · obtain rfl:f'=f:=by simpa using h
        exact h1 _ ((MC hfv).2 ⟨hn,rfl⟩)
     generalize dirF f.ty=l at *
     refine aR (α:=Nat × List ByteArray × List ByteArray) (fun z=>[(2,.va (.c1 (.pt 0 0))),(5,.va (.c1 (.fz (z.2.2.map bQ)))),(6,.va (.c1 (.sl 1 z.2.1.length))),(7,iS .i64 i),(8,.va (.c1 (.pt 2 0))),(10,iS .i64 k),(11,.va (.c1 (.fz (l.map bQ)))),(12,iS .i64 z.1)]) (fun z=>[.cells (aD s) 25,.row (z.2.1.map bQ) 9 1,.cells (aL x) 56])
      (fun z=>z.1<=l.length/\z.2.1[i]? = some a/\UI s.ss n i z.2.1 z.2.2/\(∀ f ∈ x.fs.take k,cD f.ty=true->bV f.ty ∈ z.2.2)/\∀ y ∈ l.take z.1,y ∈ z.2.2) (fun z=>l.length - z.1) (0,td,o) 3 ⟨Nat.zero_le _,ha,hu,hr,fun f hf=>by cases hf⟩ ?_ ?_ ?_
     · simp -dsimp only [go_sem]<;>simp
     · simp -dsimp only [go_sem,aD,aL]<;>simp
     clear hu ha hil htl hol hg q1 hr
     rintro ⟨j,td,o⟩ ⟨hj,ha,hu,hr,hjm⟩
     simp only at hj ha hu hr hjm ⊢
     obtain ⟨htl,hol⟩:=hu.len g
     have hil:=(bC.1 ha).1
     rcases bL j l.length with hjt | hjg
     · have hg:decide ((j:Int) < (l.length:Int))=true:=by simp; omega
       obtain ⟨y,hy⟩:∃ a,l[j]? = some a:=⟨_,bB hjt⟩
       have q1:=aQ (row:=bQ) hy
       have hbs:tB (o.map bQ):=oO (by omega)
       have e0:(0<=(o.length:Int))=True:=by simp
       have e1:((o.length:Int)<=9223372036854775807)=True:=by simp; omega
       have hto:o.take o.length=o:=List.take_length
       have hjm':∀ o':List ByteArray,(∀ z ∈ o,z ∈ o')->y ∈ o'->∀ z ∈ l.take (j + 1),z ∈ o':=fun o' h1 h2 z hz=>by
        rw [qC hy] at hz
        rcases List.mem_append.1 hz with h | h
        · exact h1 z (hjm z h)
        · obtain rfl:z=y:=by simpa using h
          exact h2
       cases hc:cO o y with
       | true=>
        simp (maxSteps:=9^6) -dsimp only [go_sem,hg,↓q1,aD,aL,hbs,e0,e1,Int.toNat_natCast,hto,hc]
        refine ⟨by omega,by omega,aC (j + 1,td,o) 3 ⟨by simp only; omega,ha,hu,hr,hjm' o (fun z h=>h) ((rF _ _).1 hc)⟩ (by simp only; omega) ?_ ?_⟩
        · simp -dsimp only [go_sem]<;>simp
        · simp -dsimp only [go_sem,aD,aL]<;>simp
       | false=>
        have hyo:=wR.1 hc
        have hua:=hu.add (hdm y (bW hy)) hyo (by omega)
        have hmo:∀ z ∈ o,z ∈ fX y false o:=fun z hz=>lE.2 (.inr hz)
        have ha':(td ++ [y])[i]? = some a:=by rw [List.getElem?_append_left hil]; exact ha
        simp (maxSteps:=9^6) -dsimp only [go_sem,hg,↓q1,aD,aL,hbs,e0,e1,Int.toNat_natCast,hto,hc]
        refine ⟨by omega,by omega,Z2 (by omega) ?_⟩
        simp (maxSteps:=9^6) -dsimp only [go_sem]
        and_intros
        all_goals first
         | omega
         | skip
        refine aC (j + 1,td ++ [y],fX y false o) 3 ⟨by simp only; omega,ha',hua,fun f hf hn=>hmo _ (hr f hf hn),hjm' _ hmo (lE.2 (.inl rfl))⟩ (by simp only; omega) ?_ ?_
        · simp -dsimp only [go_sem]<;>simp
        · simp -dsimp only [go_sem,aD,aL]<;>simp
     · have hg:decide ((j:Int) < (l.length:Int))=false:=by simp; omega
       obtain rfl:j=l.length:=by omega
       rw [List.take_length] at hjm
       simp (maxSteps:=9^6) -dsimp only [go_sem,hg,aD,aL]
       refine ⟨by omega,aC (k + 1,td,o) 3 ⟨by simp only; omega,ha,hu,hdf o hjm hr⟩ (by simp only; omega) ?_ ?_⟩
       · simp -dsimp only [go_sem]<;>simp
       · simp -dsimp only [go_sem,aD,aL]<;>simp
   · have hg:decide ((k:Int) < (x.fs.length:Int))=false:=by simp; omega
     obtain rfl:k=x.fs.length:=by omega
     rw [List.take_length] at hr
     simp (maxSteps:=9^6) -dsimp only [go_sem,hg,aD,aL]
     refine ⟨by omega,aC (i + 1,td,o) 2 ⟨by simp only; omega,hu.next ha fun y hy=>?_⟩ (by simp only; omega) ?_ ?_⟩
     · obtain ⟨f,h1,h2,rfl⟩:=(hxr y).1 hy
       exact hr f h1 h2
     · simp -dsimp only [go_sem]<;>simp
     · simp -dsimp only [go_sem,aD]<;>simp
 · have hg:decide ((i:Int) < (todo.length:Int))=false:=by simp; omega
   obtain rfl:i=todo.length:=by omega
   obtain rfl:=hu.fin
   simp (maxSteps:=9^6) -dsimp only [go_sem,hg,aD]
   exact .z ((by simpa [go_sem] using hK))
def fI:List St->List Int->ByteArray->Int
 | s :: ss,d :: ds,n=>bif decide (s.nm=n) then d else fI ss ds n
 | _,_,_=>0
theorem SX {ss:List St} {ds:List Int} {i:Nat} {x:St} {d:Int} (hx:ss[i]? = some x) (hd:ds[i]? = some d) (n:ByteArray):fI (ss.drop i) (ds.drop i) n=bif decide (x.nm=n) then d else fI (ss.drop (i + 1)) (ds.drop (i + 1)) n:=by
 obtain ⟨h,rfl⟩:=bC.1 hx
 obtain ⟨h2,rfl⟩:=bC.1 hd
 rw [List.drop_eq_getElem_cons h,List.drop_eq_getElem_cons h2]; rfl
theorem YB {ss:List St} {ds:List Int} (n:ByteArray):fI (ss.drop ss.length) ds n=0:=by rw [List.drop_length]; simp [fI]
theorem yD {n:ByteArray}:∀ {ss:List St} {ds:List Int},fS ss n=none->fI ss ds n=0
 | [],_,_=>by simp [fI]
 | s :: ss,[],_=>by simp [fI]
 | s :: ss,d :: ds,h=>by
  unfold fS at h
  rw [List.find?_cons] at h
  rw [fI]
  cases hc:decide (s.nm=n) with
  | true=>rw [hc] at h; simp at h
  | false=>rw [hc] at h; exact yD (ss:=ss) h
theorem y8 {n:ByteArray} {u:St}:∀ {ss:List St} {ds:List Int},ss.length=ds.length->fS ss n=some u->∃ j:Nat,ss[j]? = some u/\ds[j]? = some (fI ss ds n)
 | [],_,_,h=>by cases h
 | s :: ss,[],hl,_=>by simp at hl
 | s :: ss,d :: ds,hl,h=>by
  unfold fS at h
  rw [List.find?_cons] at h
  rw [fI]
  cases hc:decide (s.nm=n) with
  | true=>
   rw [hc] at h
   obtain rfl:s=u:=by simpa using h
   exact ⟨0,rfl,rfl⟩
  | false=>
   rw [hc] at h
   obtain ⟨j,h1,h2⟩:=y8 (ss:=ss) (ds:=ds) (by simpa using hl) h
   exact ⟨j + 1,by simpa using h1,by simpa using h2⟩
def ND (rs:List (List C)):Prop:=∃ l:List Int,rs=l.map eD
def E0 (N:Nat):List S->Prop:=fun av=>match av with
 | [.va (.gs r),.va (.c1 (.fz ds)),.va (.gs q)]=>k9 r/\(ND ds/\ds.length=(C.sc r).ss.length/\∀ d ∈ ds.map C.it,0<=d/\d<=1000000000000)/\fZ q/\(cH (C.ty q)).1<=1000000000/\(C.ty q).h<=N
 | _=>False
theorem oC {N:Nat} {av:List S} (h:E0 N av):∃ (s:Sc) (l:List Int) (t:Ty),av=[.va (.gs (aD s)),.va (.c1 (.fz (l.map eD))),.va (.gs (aP t))]/\s.fit/\(l.length=s.ss.length/\∀ d ∈ l,0<=d/\d<=1000000000000)/\TyOk t/\(cH t).1<=1000000000/\t.h<=N:=by
 unfold E0 at h
 split at h
 · obtain ⟨⟨a,rfl,ha⟩,⟨⟨l,rfl⟩,h1,h2⟩,⟨b,rfl,hb⟩,h3,h4⟩:=h
   rw [jS] at h3 h4
   rw [f6] at h1
   rw [z7] at h2
   exact ⟨a,l,b,rfl,ha,⟨by simpa using h1,h2⟩,hb,h3,h4⟩
 · exact h.elim
noncomputable def NK:List S->A:=fun av=>match av with
 | [.va (.gs r),.va (.c1 (.fz ds)),.va (.gs q)]=>iA .i64 (cR (fI (C.sc r).ss (ds.map C.it)) (C.ty q))
 | _=>.gs []
noncomputable def NQ (N:Nat):Fun:=⟨E0 N,NK,fun av h=>by obtain ⟨a,l,b,rfl,_⟩:=oC h; trivial⟩
theorem UA {N:Nat}:∀ av H K,(NQ N).sp av H K->av.length=3:=fun av H K h=>by obtain ⟨a,l,b,rfl,_⟩:=oC h.1.1; rfl
attribute [go_sem] NQ E0 NK
theorem JB {s:Int} {n:ByteArray} {u:Ty} {r:List Ty}:cH (.mk 5 s n (u :: r))=((cH u).1 + 1,(cH u).2):=by simp [cH,VV]
theorem TH {k s:Int} {n:ByteArray} {e:List Ty} (h:(k == 5 && decide (0 < (e.length:Int)))=false):cH (.mk k s n e)=(0,.mk k s n e):=by
 rw [cH]
 cases hk:k == 5 with
 | false=>rfl
 | true=>
  rw [hk,Bool.true_and] at h
  have:e=[]:=List.length_eq_zero_iff.1 (by simp at h; simp [h])
  subst this; rfl
theorem O6 {dp:ByteArray->Int} {s:Int} {n:ByteArray} {u:Ty} {r:List Ty}:cR dp (.mk 5 s n (u :: r))=1 + cR dp u:=by unfold cR; rw [JB]; simp only; omega
theorem xK:∀ N,Meets Tryz.prog 71 (NQ N).sp
 | 0=>⟨by kernel_rfl,by rintro xs vs E ro w K _ _ _ ⟨⟨h,_⟩,_⟩; obtain ⟨_,_,a,_,_,_,_,_,h⟩:=oC h; have:=a.h_pos; omega⟩
 | N + 1=>by
  refine aG Tryz.func71 aN8 3 (by rw [Tryz.ntmps71]; decide) (aI (xK N) (aB _)) UA ?_
  rintro av H K ⟨⟨h,rfl⟩,hK⟩
  obtain ⟨sc,l,t,rfl,hs,⟨hl,hb⟩,ht,hlv,hh⟩:=oC h
  have hK:K (iS .i64 (cR (fI sc.ss l) t)) []:=by
   have:(NQ (N + 1)).val [.va (.gs (aD sc)),.va (.c1 (.fz (l.map eD))),.va (.gs (aP t))]=iA .i64 (cR (fI sc.ss l) t):=by simp -dsimp only [go_sem,z7]
   rw [this] at hK; exact hK
  clear h
  have hls:=hs.ok.ls
  have fin:∀ (b:Int) (R:Hp),cR (fI sc.ss l) t=b->W.Fin 0 K (iS .i64 b) R:=fun b R h=>by
   rw [h] at hK
   exact .z ((by simp -dsimp only [go_sem]; simpa using hK))
  have hsf:=iT hs
  rw [aD] at hsf
  have hsd:=f6 sc
  rw [aD] at hsd
  obtain ⟨k,s,n,e⟩:=t
  have hte:=ht.e
  have hte2:=ht.len
  simp only [Ty.e] at hte hte2
  have hin:ND (l.map eD):=⟨l,rfl⟩
  have hr1:((l.map eD).length=sc.ss.length)=True:=by simp [hl]
  have hr2:(∀ d:Int,d ∈ l->0<=d/\d<=1000000000000)=True:=eq_true hb
  simp (maxSteps:=9^6) -dsimp only [go_sem,aD,aP,aZ,aEQ,aDV]
  cases c1:(k == 5 && decide (0 < (e.length:Int))) with
  | true=>
   simp only [Bool.and_eq_true,beq_iff_eq,decide_eq_true_eq] at c1
   obtain ⟨rfl,c1⟩:=c1
   obtain ⟨u,r,rfl⟩:∃ u r,e=u :: r:=by
    cases e with
    | nil=>simp at c1
    | cons u r=>exact ⟨u,r,rfl⟩
   rw [JB] at hlv
   have hux:(u :: r)[0]? = some u:=rfl
   have q1:=uK (row:=aP) hux
   have hu:fZ (aP u):=fK (hte u List.mem_cons_self)
   have huh:u.h<=N:=by rw [Ty.h,Ty.hs] at hh; omega
   refine ⟨fun _=>?_,fun h=>by simp at h⟩
   have hul:((cH u).1<=1000000000)=True:=eq_true (by simp only at hlv; omega)
   have huh':(u.h<=N)=True:=eq_true huh
   have hfb:cR (fI sc.ss l) u<=1001000000000/\0<=cR (fI sc.ss l) u:=by
    have hd:fI sc.ss l (cH u).2.n<=1000000000000/\0<=fI sc.ss l (cH u).2.n:=by
     cases hf:fS sc.ss (cH u).2.n with
     | none=>rw [yD hf]; omega
     | some v=>
      obtain ⟨j,_,h2⟩:=y8 hl.symm hf
      have:=hb _ (bW h2); omega
    simp only at hlv
    unfold cR
    cases (cH u).2.k == 6<;>simp only [aK,aF]<;>omega
   simp (maxSteps:=9^6) -dsimp only [go_sem,dF]
   refine ⟨by omega,fun x hx=>?_⟩
   subst hx
   simp only [hsd]
   exact ⟨⟨hsf,⟨hin,hl,hb⟩,hu,by simp only at hlv; omega,huh⟩,by omega,fin _ _ O6⟩
  | false=>
   have hst:=TH (s:=s) (n:=n) c1
   have hfd:cR (fI sc.ss l) (.mk k s n e)=bif k == 6 then fI sc.ss l n else 0:=by unfold cR; rw [hst]; simp [Ty.k,Ty.n]
   refine ⟨fun h=>by simp at h,fun _=>?_⟩
   cases k6:k == 6 with
   | false=>
    rw [k6,aF] at hfd
    refine aR (α:=Nat) (fun i=>[(1,.va (.c1 (.fz (l.map eD)))),(3,.va (.c1 (.pt 0 0))),(5,.va (.c1 (.pt 1 0))),(7,iS .i64 i)]) (fun _=>[.cells (aD sc) 25,.cells (aP (.mk k s n e)) 37])
     (fun i=>i<=sc.ss.length) (fun i=>sc.ss.length - i) 0 2 (Nat.zero_le _) ?_ ?_ ?_
    · simp -dsimp only [go_sem]<;>simp
    · simp -dsimp only [go_sem,aD,aP,aZ]<;>simp
    intro i hi
    rcases bL i sc.ss.length with hlt | hge
    · have hg:decide ((i:Int) < (sc.ss.length:Int))=true:=by simp; omega
      simp (maxSteps:=9^6) -dsimp only [go_sem,hg,aD,aP,aZ,k6]
      and_intros
      all_goals first
       | omega
       | skip
      refine aC (i + 1) 2 (by omega) (by omega) ?_ ?_
      · simp -dsimp only [go_sem]<;>simp
      · simp -dsimp only [go_sem,aD,aP,aZ]<;>simp
    · have hg:decide ((i:Int) < (sc.ss.length:Int))=false:=by simp; omega
      simp (maxSteps:=9^6) -dsimp only [go_sem,hg,aD,aP,aZ]
      exact fin 0 _ hfd
   | true=>
    rw [k6,aK] at hfd
    refine aR (α:=Nat) (fun i=>[(1,.va (.c1 (.fz (l.map eD)))),(3,.va (.c1 (.pt 0 0))),(5,.va (.c1 (.pt 1 0))),(7,iS .i64 i)]) (fun _=>[.cells (aD sc) 25,.cells (aP (.mk k s n e)) 37])
     (fun i=>i<=sc.ss.length/\fI (sc.ss.drop i) (l.drop i) n=fI sc.ss l n) (fun i=>sc.ss.length - i) 0 2 ⟨Nat.zero_le _,rfl⟩ ?_ ?_ ?_
    · simp -dsimp only [go_sem]<;>simp
    · simp -dsimp only [go_sem,aD,aP,aZ]<;>simp
    rintro i ⟨hi,ho⟩
    rcases bL i sc.ss.length with hlt | hge
    · have hg:decide ((i:Int) < (sc.ss.length:Int))=true:=by simp; omega
      obtain ⟨t,hx⟩:∃ e,sc.ss[i]? = some e:=⟨_,bB hlt⟩
      obtain ⟨d,hd⟩:∃ e,l[i]? = some e:=⟨_,bB (by omega)⟩
      have q2:=aQ (row:=aL) hx
      have q3:=aQ (row:=eD) hd
      rw [SX hx hd] at ho
      cases hc:decide (t.nm=n) with
      | true=>
       rw [hc,aK] at ho
       simp (maxSteps:=9^6) -dsimp only [go_sem,hg,↓q2,↓q3,aL,aD,aP,aZ,dO,hc,k6]
       and_intros
       all_goals first
        | omega
        | exact fin _ _ (by rw [hfd,<-ho])
      | false=>
       rw [hc,aF] at ho
       simp (maxSteps:=9^6) -dsimp only [go_sem,hg,↓q2,aL,aD,aP,aZ,dO,hc,k6]
       and_intros
       all_goals first
        | omega
        | skip
       refine aC (i + 1) 2 ⟨by omega,ho⟩ (by omega) ?_ ?_
       · simp -dsimp only [go_sem]<;>simp
       · simp -dsimp only [go_sem,aD,aP,aZ]<;>simp
    · have hg:decide ((i:Int) < (sc.ss.length:Int))=false:=by simp; omega
      obtain rfl:i=sc.ss.length:=by omega
      rw [YB] at ho
      simp (maxSteps:=9^6) -dsimp only [go_sem,hg,aD,aP,aZ]
      exact fin 0 _ (by rw [hfd,<-ho])
def EX:List S->Prop:=fun av=>match av with
 | [.va (.gs r),.va (.c1 (.fz ds)),.va (.gs q)]=>k9 r/\(ND ds/\ds.length=(C.sc r).ss.length/\∀ d ∈ ds.map C.it,0<=d/\d<=1000000000000)/\fZ q/\(cH (C.ty q)).1<=1000000000
 | _=>False
theorem AY {av:List S} (h:EX av):∃ (s:Sc) (l:List Int) (t:Ty),av=[.va (.gs (aD s)),.va (.c1 (.fz (l.map eD))),.va (.gs (aP t))]/\s.fit/\(l.length=s.ss.length/\∀ d ∈ l,0<=d/\d<=1000000000000)/\TyOk t/\(cH t).1<=1000000000:=by
 unfold EX at h
 split at h
 · obtain ⟨⟨a,rfl,ha⟩,⟨⟨l,rfl⟩,h1,h2⟩,⟨b,rfl,hb⟩,h3⟩:=h
   rw [jS] at h3
   rw [f6] at h1
   rw [z7] at h2
   exact ⟨a,l,b,rfl,ha,⟨by simpa using h1,h2⟩,hb,h3⟩
 · exact h.elim
noncomputable def t0Fn:Fun:=⟨EX,NK,fun av h=>by obtain ⟨a,l,b,rfl,_⟩:=AY h; trivial⟩
attribute [go_sem] t0Fn EX
theorem N5:Meets Tryz.prog 71 t0Fn.sp:=iJ 0 xK fun av H K ⟨⟨h,e⟩,hK⟩=>by
 obtain ⟨a,l,b,rfl,ha,⟨h1,h2⟩,hb,h3⟩:=AY h
 refine ⟨b.h,⟨⟨⟨iT ha,⟨⟨l,rfl⟩,by rw [f6]; simpa using h1,by rw [z7]; exact h2⟩,fK hb,by rw [jS]; exact h3,by rw [jS]; exact Nat.le_refl _⟩,e⟩,hK⟩⟩
theorem EU {dp dq:ByteArray->Int} {l:List Fl} (h:∀ f ∈ l,cR dp f.ty<=cR dq f.ty):gO dp l<=gO dq l:=LM (nB _ _) fun f hf=>Int.le_trans (h f hf) (L5 hf)
structure DI (ss:List St) (r i:Nat) (d:List Int):Prop where
 len:d.length=ss.length
 lo:∀ (j:Nat) (t:St) (v:Int),ss[j]? = some t->d[j]? = some v->0<=v/\v<=dD ss t.nm/\(sQ ss t.nm < r->v=dD ss t.nm)/\(j < i->sQ ss t.nm < r + 1->v=dD ss t.nm)
theorem DI.ix {ss:List St} {es:List En} (_g:Gd ss es) {r i:Nat} {d:List Int} (h:DI ss r i d) (n:ByteArray):0<=fI ss d n/\fI ss d n<=dD ss n/\((fS ss n).isSome=true->sQ ss n < r->fI ss d n=dD ss n):=by
 cases hf:fS ss n with
 | none=>
  rw [yD hf]
  exact ⟨Int.le_refl _,FV ss n,fun h=>by simp at h⟩
 | some u=>
  obtain ⟨j,h1,h2⟩:=y8 h.len.symm hf
  obtain ⟨a1,a2,a3,_⟩:=h.lo j u _ h1 h2
  obtain ⟨_,rfl⟩:=l9 hf
  exact ⟨a1,a2,fun _ h=>a3 h⟩
theorem DI.all {ss:List St} {es:List En} (g:Gd ss es) {r i:Nat} {d:List Int} (h:DI ss r i d):∀ v ∈ d,0<=v/\v<=1000000000000:=fun v hv=>by
 obtain ⟨j,hj⟩:=List.mem_iff_getElem?.1 hv
 have hl:=(bC.1 hj).1
 obtain ⟨t,ht⟩:∃ t,ss[j]? = some t:=⟨_,bB (by have:=h.len; omega)⟩
 obtain ⟨h1,h2,_⟩:=h.lo j t v ht hj
 have:=MM g t.nm
 omega
theorem DI.fd {ss:List St} {es:List En} (g:Gd ss es) {r i:Nat} {d:List Int} (h:DI ss r i d) (t:Ty):cR (fI ss d) t<=cR (dD ss) t:=by
 unfold cR
 have:=h.ix g (cH t).2.n
 cases (cH t).2.k == 6<;>simp only [aK,aF]<;>omega
theorem DI.set {ss:List St} {es:List En} (g:Gd ss es) (ha:u7 ss) {r i:Nat} {d:List Int} (h:DI ss r i d) {t:St} (ht:ss[i]? = some t):DI ss r (i + 1) (d.set i (1 + gO (fI ss d) t.fs)):=by
 have htm:=bW ht
 have hD:=FE g ha (g.nd t htm)
 have hle:gO (fI ss d) t.fs<=gO (dD ss) t.fs:=EU fun f _=>h.fd g f.ty
 have heq:sQ ss t.nm < r + 1->gO (fI ss d) t.fs=gO (dD ss) t.fs:=fun hr=>sO fun f hf=>by
  unfold cR
  cases hk:(cH f.ty).2.k == 6 with
  | false=>rfl
  | true=>
   obtain ⟨h1,u,h2⟩:=CX g (g.nd t htm) hf hk
   have h3:=CP h1 h2 ha
   rw [(h.ix g _).2.2 (by rw [h2]; rfl) (by omega)]
 have hn:=nB (fI ss d) t.fs
 refine ⟨by rw [List.length_set]; exact h.len,fun j u v hu hv=>?_⟩
 rw [List.getElem?_set] at hv
 by_cases e:i=j
 · subst e
   rw [ht] at hu; obtain rfl:=bK hu
   have hlt:i < d.length:=by have:=h.len; have:=(bC.1 ht).1; omega
   simp [hlt] at hv
   subst hv
   exact ⟨by omega,by omega,fun hr=>by rw [heq (by omega)]; omega,fun _ hr=>by rw [heq hr]; omega⟩
 · rw [if_neg e] at hv
   obtain ⟨a1,a2,a3,a4⟩:=h.lo j u v hu hv
   exact ⟨a1,a2,a3,fun hj hr=>a4 (by omega) hr⟩
theorem DI.up {ss:List St} {r:Nat} {d:List Int} (h:DI ss r ss.length d):DI ss (r + 1) 0 d:=⟨h.len,fun j t v ht hv=>by
 obtain ⟨a1,a2,_,a4⟩:=h.lo j t v ht hv
 exact ⟨a1,a2,fun hr=>a4 (bC.1 ht).1 hr,fun h=>absurd h (Nat.not_lt_zero _)⟩⟩
theorem DI.fin {ss:List St} {d:List Int} (h:DI ss (ss.length + 1) 0 d):d=ss.map fun t=>dD ss t.nm:=by
 refine List.ext_getElem? fun j=>?_
 rw [List.getElem?_map]
 cases ht:ss[j]? with
 | none=>
  rw [List.getElem?_eq_none_iff] at ht
  rw [List.getElem?_eq_none (by rw [h.len]; exact ht)]; rfl
 | some t=>
  obtain ⟨v,hv⟩:∃ v,d[j]? = some v:=⟨_,bB (by rw [h.len]; exact (bC.1 ht).1)⟩
  obtain ⟨_,_,a3,_⟩:=h.lo j t v ht hv
  rw [hv,a3 (Nat.lt_succ_of_le (MI _ _))]; rfl
theorem DI.init (ss:List St):DI ss 0 0 (List.replicate ss.length 0):=⟨by simp,fun j t v ht hv=>by
 have:v=0:=by
  have:=bW hv
  exact (List.mem_replicate.1 this).2
 subst this
 exact ⟨Int.le_refl _,FV _ _,fun h=>absurd h (Nat.not_lt_zero _),fun h=>absurd h (Nat.not_lt_zero _)⟩⟩
def aF9:W.Spec:=fun av H K=>∃ s:Sc,av=[.va (.gs (aD s))]/\H=[]/\s.fit/\Gd s.ss s.es/\u7 s.ss/\K (.va (.c1 (.fz ((s.ss.map fun t=>dD s.ss t.nm).map eD)))) []
theorem aF3 {s:Sc} {K:S->Hp->Prop} (h:s.fit) (g:Gd s.ss s.es) (ha:u7 s.ss) (hK:K (.va (.c1 (.fz ((s.ss.map fun t=>dD s.ss t.nm).map eD)))) []):aF9 [.va (.gs (aD s))] [] K:=⟨s,rfl,rfl,h,g,ha,hK⟩
theorem XW {D:ByteArray->Int} {l:List Fl} {i:Nat} {f:Fl} (hx:l[i]? = some f):(l.take (i + 1)).foldl (gF D) 0=max ((l.take i).foldl (gF D) 0) (cR D f.ty):=by
 rw [qC hx,List.foldl_append]; rfl
theorem XI:Meets Tryz.prog 30 aF9:=by
 refine aG Tryz.func30 aKL 1 (by rw [Tryz.ntmps30]; decide) (aI N5 (aB _)) (fun av H K h=>by obtain ⟨_,rfl,_⟩:=h; rfl) ?_
 rintro av H K ⟨s,rfl,rfl,hs,g,ha,hK⟩
 have hls:=g.n
 simp (maxSteps:=9^6) -dsimp only [go_sem,aD,aDO,aAM]
 refine ⟨⟨by omega,by omega,by omega⟩,fun h0=>?_,fun h0=>?_⟩
 · have hnil:s.ss=[]:=List.length_eq_zero_iff.1 (by omega)
   have hlen:s.ss.length=0:=by omega
   rw [hnil] at hK
   refine aR (α:=Nat) (fun i=>[(1,.va (.c1 (.pt 0 0))),(3,.va (.c1 (.fz []))),(4,iS .i64 i)]) (fun _=>[.cells (aD s) 25])
    (fun i=>i<=1) (fun i=>1 - i) 0 1 (Nat.zero_le _) ?_ ?_ ?_
   · simp -dsimp only [go_sem]<;>simp
   · simp -dsimp only [go_sem,aD]<;>simp
   intro i hi
   rcases Nat.eq_zero_or_pos i with h1 | h1
   · have hg:decide ((i:Int)<=(s.ss.length:Int))=true:=by simp; omega
     simp (maxSteps:=9^6) -dsimp only [go_sem,hg,aD]
     refine aR (α:=Unit) (fun _=>[(1,.va (.c1 (.pt 0 0))),(3,.va (.c1 (.fz []))),(4,iS .i64 i),(5,iS .i64 0)]) (fun _=>[.cells (aD s) 25])
      (fun _=>True) (fun _=>0) () 1 trivial ?_ ?_ ?_
     · simp -dsimp only [go_sem]<;>simp
     · simp -dsimp only [go_sem,aD]<;>simp
     intro _ _
     have hg:decide ((0:Int) < (s.ss.length:Int))=false:=by simp; omega
     simp (maxSteps:=9^6) -dsimp only [go_sem,hg,aD]
     refine ⟨by omega,aC (i + 1) 1 (by omega) (by omega) ?_ ?_⟩
     · simp -dsimp only [go_sem]<;>simp
     · simp -dsimp only [go_sem,aD]<;>simp
   · have hg:decide ((i:Int)<=(s.ss.length:Int))=false:=by simp; omega
     simp (maxSteps:=9^6) -dsimp only [go_sem,hg,aD]
     exact .z ((by simpa [go_sem] using hK))
 · have hsf:=iT hs
   rw [aD] at hsf
   have hsd:=f6 s
   rw [aD] at hsd
   refine aR (α:=Nat × List Int) (fun z=>[(1,.va (.c1 (.pt 0 0))),(3,.va (.c1 (.sl 1 s.ss.length))),(4,iS .i64 z.1)]) (fun z=>[.cells (aD s) 25,.row (z.2.map eD) 3 1])
    (fun z=>z.1<=s.ss.length + 1/\DI s.ss z.1 0 z.2) (fun z=>s.ss.length + 1 - z.1) (0,List.replicate s.ss.length 0) 2 ⟨Nat.zero_le _,DI.init _⟩ ?_ ?_ ?_
   · simp -dsimp only [go_sem]<;>simp
   · simp -dsimp only [go_sem,aD]<;>simp
   rintro ⟨r,d⟩ ⟨hr,hd⟩
   simp only at hr hd ⊢
   rcases bL r (s.ss.length + 1) with hlt | hge
   · have hg:decide ((r:Int)<=(s.ss.length:Int))=true:=by simp; omega
     simp (maxSteps:=9^6) -dsimp only [go_sem,hg,aD]
     refine aR (α:=Nat × List Int) (fun z=>[(1,.va (.c1 (.pt 0 0))),(3,.va (.c1 (.sl 1 s.ss.length))),(4,iS .i64 r),(5,iS .i64 z.1)]) (fun z=>[.cells (aD s) 25,.row (z.2.map eD) 3 1])
      (fun z=>z.1<=s.ss.length/\DI s.ss r z.1 z.2) (fun z=>s.ss.length - z.1) (0,d) 2 ⟨Nat.zero_le _,hd⟩ ?_ ?_ ?_
     · simp -dsimp only [go_sem]<;>simp
     · simp -dsimp only [go_sem,aD]<;>simp
     clear hd hg
     rintro ⟨i,d⟩ ⟨hi,hd⟩
     simp only at hi hd ⊢
     rcases bL i s.ss.length with hit | hig
     · have hg:decide ((i:Int) < (s.ss.length:Int))=true:=by simp; omega
       obtain ⟨t,hx⟩:∃ e,s.ss[i]? = some e:=⟨_,bB hit⟩
       have htm:=bW hx
       obtain ⟨_,htl,hfs⟩:=hs.ok.ss t htm
       have q1:=aQ (row:=aL) hx
       have hset:=hd.set g ha hx
       have hmx:gO (fI s.ss d) t.fs<=1000000000000:=by
        have h1:=EU (l:=t.fs) fun f _=>hd.fd g f.ty
        have h2:=FE g ha (g.nd t htm)
        have h3:=MM g t.nm
        omega
       simp (maxSteps:=9^6) -dsimp only [go_sem,hg,aD]
       refine aR (α:=Nat) (fun k=>[(1,.va (.c1 (.pt 0 0))),(3,.va (.c1 (.sl 1 s.ss.length))),(4,iS .i64 r),(5,iS .i64 i),(6,iS .i64 ((t.fs.take k).foldl (gF (fI s.ss d)) 0)),(7,iS .i64 k)]) (fun _=>[.cells (aD s) 25,.row (d.map eD) 3 1])
        (fun k=>k<=t.fs.length) (fun k=>t.fs.length - k) 0 2 (Nat.zero_le _) ?_ ?_ ?_
       · simp -dsimp only [go_sem]<;>simp
       · simp -dsimp only [go_sem,aD]<;>simp
       intro k hk
       rcases bL k t.fs.length with hkt | hkg
       · have hg:decide ((k:Int) < (t.fs.length:Int))=true:=by simp; omega
         obtain ⟨f,hf⟩:∃ e,t.fs[k]? = some e:=⟨_,bB hkt⟩
         have hfm:=bW hf
         have q2:=aQ (row:=bH) hf
         have hity:fZ (aP f.ty):=fK (hfs f hfm).ty
         have hlv:((cH f.ty).1<=1000000000)=True:=eq_true (g.lv t htm f hfm)
         have hin:ND (d.map eD):=⟨d,rfl⟩
         have hdl:d.length=s.ss.length:=hd.len
         have hall:(∀ v:Int,v ∈ d->0<=v/\v<=1000000000000)=True:=eq_true (hd.all g)
         simp (maxSteps:=9^6) -dsimp only [go_sem,hg,↓q1,aL,aD]
         simp (maxSteps:=9^6) -dsimp only [go_sem,bH,kM,hsf,hsd,hity,hlv,hin,hall,hdl,hf,aH,forall_eq']
         refine ⟨by omega,by omega,by omega,by omega,aC (k + 1) 2 (by omega) (by omega) ?_ ?_⟩
         · simp -dsimp only [go_sem,XW hf]<;>simp
         · simp -dsimp only [go_sem,aD]<;>simp
       · have hg:decide ((k:Int) < (t.fs.length:Int))=false:=by simp; omega
         obtain rfl:k=t.fs.length:=by omega
         have hmx2:t.fs.foldl (gF (fI s.ss d)) 0=gO (fI s.ss d) t.fs:=rfl
         rw [List.take_length,hmx2]
         have hn0:=nB (fI s.ss d) t.fs
         have hdl:d.length=s.ss.length:=hd.len
         obtain ⟨v0,hv0⟩:∃ e,d[i]? = some e:=⟨_,bB (by omega)⟩
         simp (maxSteps:=9^6) -dsimp only [go_sem,hg,↓q1,aL,aD]
         simp (maxSteps:=9^6) -dsimp only [go_sem,hv0,aH,forall_eq']
         refine ⟨by omega,by omega,⟨by omega,hdl⟩,⟨hdl,by omega⟩,by omega,aC (i + 1,d.set i (1 + gO (fI s.ss d) t.fs)) 2 ⟨by simp only; omega,hset⟩ (by simp only; omega) ?_ ?_⟩
         · simp -dsimp only [go_sem]<;>simp
         · simp -dsimp only [go_sem,aD]<;>simp [List.map_set]
     · have hg:decide ((i:Int) < (s.ss.length:Int))=false:=by simp; omega
       obtain rfl:i=s.ss.length:=by omega
       simp (maxSteps:=9^6) -dsimp only [go_sem,hg,aD]
       refine ⟨by omega,aC (r + 1,d) 2 ⟨by simp only; omega,hd.up⟩ (by simp only; omega) ?_ ?_⟩
       · simp -dsimp only [go_sem]<;>simp
       · simp -dsimp only [go_sem,aD]<;>simp
   · have hg:decide ((r:Int)<=(s.ss.length:Int))=false:=by simp; omega
     obtain rfl:r=s.ss.length + 1:=by omega
     have hfin:=hd.fin
     rw [<-hfin] at hK
     simp (maxSteps:=9^6) -dsimp only [go_sem,hg,aD]
     have e1:s.ss.length=(d.map eD).length:=by rw [List.length_map]; exact hd.len.symm
     rw [e1]
     refine .pub 1 _ _ _ rfl (.sel [] (by simp) (by simp [cC]) rfl (.done ?_))
     simp -dsimp only [go_sem,cC]
     simpa using hK
theorem ZP:Meets Tryz.prog 9 ckFn.sp:=by
 refine aG Tryz.func9 ok9 1 (by rw [Tryz.ntmps9]; decide) (aI aDC (aI X1 (aI P8 (aA aHA (aI SD (aA XI (aB _))))))) kK ?_
 rintro av H K ⟨⟨h,rfl⟩,hK⟩
 obtain ⟨_,rfl,s,rfl,hs⟩:=fT h
 have hK:K (iS .i64 (cG s)) []:=by
  have:ckFn.val [.va (.gs (aD s))]=iA .i64 (cG s):=by simp -dsimp only [go_sem]
  rw [this] at hK; exact hK
 clear h
 have hfit:=hs
 have hsc:qS (aD s):=CC hs.ok
 have hsf:k9 (aD s):=iT hs
 obtain ⟨⟨hv,hle,hls,hes,hss⟩,hlv,_,_⟩:=hs
 have fin:∀ (x:Int) (R:Hp),cG s=x->W.Fin 0 K (iS .i64 x) R:=fun x R h1=>by
  rw [h1] at hK
  exact .z ((by simpa [go_sem] using hK))
 have hsc':=hsc
 have hsf':=hsf
 simp only [aD] at hsc' hsf'
 have hdec:C.sc [.vl (.int .i64 s.ver),.fz (s.es.map aO),.fz (s.ss.map aL)]=s:=f6 s
 simp (maxSteps:=9^6) -dsimp only [go_sem,aD,pc9,rs9,hsc',hdec]
 refine ⟨fun h1=>fin 4 _ (by unfold cG; rw [h1]; rfl),fun c1=>⟨fun h1=>fin 3 _ (by unfold cG; rw [c1,h1]; rfl),fun c2=>?_⟩⟩
 have hF:cG s=bif t8 s != 0 then t8 s else bif rV s != 0 then rV s else kX s.ss:=by unfold cG; rw [c1,c2]; rfl
 refine aR (α:=Nat) (fun i=>[(1,.va (.c1 (.pt 0 0))),(3,iS .i64 i)]) (fun _=>[.cells (aD s) 25])
  (fun i=>i<=s.es.length/\fE (iE s) (s.es.length - i) i=t8 s) (fun i=>s.es.length - i) 0 1 ⟨Nat.zero_le _,rfl⟩ ?_ ?_ ?_
 · simp -dsimp only [go_sem]<;>simp
 · simp -dsimp only [go_sem,aD]<;>simp
 rintro i ⟨hi,ho⟩
 rcases bL i s.es.length with hlt | hge
 · have hg:decide ((i:Int) < (s.es.length:Int))=true:=by simp; omega
   have fin':∀ (x:Int) (R:Hp),iE s i=x->x ≠ 0->W.Fin 0 K (iS .i64 x) R:=fun x R h1 h2=>fin x R (by
    rw [hF,<-ho,mB hlt (by rw [h1]; exact h2),h1]; exact lM h2)
   have dG:iE s i=0->fE (iE s) (s.es.length - (i + 1)) (i + 1)=t8 s:=fun h1=>by rw [<-ho,n9 hlt h1]
   simp (maxSteps:=9^6) -dsimp only [go_sem,hg,aD,hsf',hdec,Int.toNat_natCast]
   refine ⟨⟨by omega,by omega⟩,fun h1=>fin' _ _ rfl (by simpa using h1),fun h1=>?_⟩
   refine ⟨by omega,aC (i + 1) 1 ⟨by omega,dG (by simpa using h1)⟩ (by omega) ?_ ?_⟩
   · simp -dsimp only [go_sem]<;>simp
   · simp -dsimp only [go_sem,aD]<;>simp
 · have hg:decide ((i:Int) < (s.es.length:Int))=false:=by simp; omega
   obtain rfl:i=s.es.length:=by omega
   rw [nM] at ho
   rw [m4 ho.symm] at hF
   simp (maxSteps:=9^6) -dsimp only [go_sem,hg,aD]
   clear hi hge hg ho
   refine aR (α:=Nat) (fun i=>[(1,.va (.c1 (.pt 0 0))),(5,iS .i64 i)]) (fun _=>[.cells (aD s) 25])
    (fun i=>i<=s.ss.length/\fE (iR s) (s.ss.length - i) i=rV s) (fun i=>s.ss.length - i) 0 1 ⟨Nat.zero_le _,rfl⟩ ?_ ?_ ?_
   · simp -dsimp only [go_sem]<;>simp
   · simp -dsimp only [go_sem,aD]<;>simp
   rintro i ⟨hi,ho⟩
   rcases bL i s.ss.length with hlt | hge
   · have hg:decide ((i:Int) < (s.ss.length:Int))=true:=by simp; omega
     have fin':∀ (x:Int) (R:Hp),iR s i=x->x ≠ 0->W.Fin 0 K (iS .i64 x) R:=fun x R h1 h2=>fin x R (by
      rw [hF,<-ho,mB hlt (by rw [h1]; exact h2),h1]; exact lM h2)
     have dG:iR s i=0->fE (iR s) (s.ss.length - (i + 1)) (i + 1)=rV s:=fun h1=>by rw [<-ho,n9 hlt h1]
     simp (maxSteps:=9^6) -dsimp only [go_sem,hg,aD,hsf',hdec,Int.toNat_natCast]
     refine ⟨⟨by omega,by omega⟩,fun h1=>fin' _ _ rfl (by simpa using h1),fun h1=>?_⟩
     refine ⟨by omega,aC (i + 1) 1 ⟨by omega,dG (by simpa using h1)⟩ (by omega) ?_ ?_⟩
     · simp -dsimp only [go_sem]<;>simp
     · simp -dsimp only [go_sem,aD]<;>simp
   · have hg:decide ((i:Int) < (s.ss.length:Int))=false:=by simp; omega
     obtain rfl:i=s.ss.length:=by omega
     rw [nM] at ho
     rw [m4 ho.symm] at hF
     have g:=CI hfit c2 ho.symm
     simp (maxSteps:=9^6) -dsimp only [go_sem,hg,aD]
     clear hi hge hg ho
     refine aR (α:=Nat) (fun i=>[(1,.va (.c1 (.pt 0 0))),(7,iS .i64 i)]) (fun _=>[.cells (aD s) 25])
      (fun i=>i<=s.ss.length/\(s.ss.drop i).any (fun t=>cO (dR s.ss t.nm) t.nm)=s.ss.any (fun t=>cO (dR s.ss t.nm) t.nm)) (fun i=>s.ss.length - i) 0 1 ⟨Nat.zero_le _,rfl⟩ ?_ ?_ ?_
     · simp -dsimp only [go_sem]<;>simp
     · simp -dsimp only [go_sem,aD]<;>simp
     rintro i ⟨hi,ho⟩
     rcases bL i s.ss.length with hlt | hge
     · have hg:decide ((i:Int) < (s.ss.length:Int))=true:=by simp; omega
       obtain ⟨t,hx⟩:∃ t,s.ss[i]? = some t:=⟨_,bB hlt⟩
       have q1:=aQ (row:=aL) hx
       rw [dJ hx] at ho
       have hv:=g.vlen t.nm
       have hul:=vV s.ss t.nm
       have hbs:tB ((dR s.ss t.nm).map bQ):=oO (by rw [vV]; omega)
       have e0:(0<=((dR s.ss t.nm).length:Int))=True:=by simp
       have e1:(((dR s.ss t.nm).length:Int)<=9223372036854775807)=True:=by rw [hul]; exact eq_true (by omega)
       have hto:(dR s.ss t.nm).take (dR s.ss t.nm).length=dR s.ss t.nm:=List.take_length
       simp (maxSteps:=9^6) -dsimp only [go_sem,hg,↓q1,aL,aD]
       refine ⟨by omega,aD7 hfit g ?_⟩
       simp (maxSteps:=9^6) -dsimp only [go_sem,hbs,e0,e1,Int.toNat_natCast,hto]
       refine ⟨by omega,fun hc=>?_,fun hc=>?_⟩
       · rw [hc,Bool.true_or] at ho
         exact fin 19 _ (by rw [hF]; unfold kX; rw [<-ho]; rfl)
       · rw [hc,Bool.false_or] at ho
         refine ⟨by omega,aC (i + 1) 1 ⟨by omega,ho⟩ (by omega) ?_ ?_⟩
         · simp -dsimp only [go_sem]<;>simp
         · simp -dsimp only [go_sem,aD]<;>simp
     · have hg:decide ((i:Int) < (s.ss.length:Int))=false:=by simp; omega
       obtain rfl:i=s.ss.length:=by omega
       rw [fU] at ho
       have ha:u7 s.ss:=fun t ht=>kI ho.symm t ht
       have hF2:cG s=bif s.ss.any (fun t=>decide (6 < dD s.ss t.nm)) then 9 else 0:=by rw [hF]; unfold kX; rw [<-ho]; rfl
       simp (maxSteps:=9^6) -dsimp only [go_sem,hg,aD]
       refine aF3 hfit g ha ?_
       simp (maxSteps:=9^6) -dsimp only [go_sem]
       clear hi hge hg ho
       refine aR (α:=Nat) (fun i=>[(9,.va (.c1 (.fz ((s.ss.map fun t=>dD s.ss t.nm).map eD)))),(10,iS .i64 i)]) (fun _=>[.cells (aD s) 25])
        (fun i=>i<=s.ss.length/\(s.ss.drop i).any (fun t=>decide (6 < dD s.ss t.nm))=s.ss.any (fun t=>decide (6 < dD s.ss t.nm))) (fun i=>s.ss.length - i) 0 1 ⟨Nat.zero_le _,rfl⟩ ?_ ?_ ?_
       · simp -dsimp only [go_sem]<;>simp
       · simp -dsimp only [go_sem,aD]<;>simp
       rintro i ⟨hi,ho⟩
       rcases bL i s.ss.length with hlt | hge
       · have hg:decide ((i:Int) < (s.ss.length:Int))=true:=by simp; omega
         obtain ⟨t,hx⟩:∃ t,s.ss[i]? = some t:=⟨_,bB hlt⟩
         have hd:(s.ss.map fun t=>dD s.ss t.nm)[i]? = some (dD s.ss t.nm):=by rw [List.getElem?_map,hx]; rfl
         have q1:=aQ (row:=eD) hd
         have hml:(s.ss.map fun t=>dD s.ss t.nm).length=s.ss.length:=by simp
         rw [dJ hx] at ho
         generalize (s.ss.map fun t=>dD s.ss t.nm)=ds at *
         simp (maxSteps:=9^6) -dsimp only [go_sem,hml,hg,↓q1,aD]
         refine ⟨by omega,fun hc=>?_,fun hc=>?_⟩
         · rw [hc,Bool.true_or] at ho
           exact fin 9 _ (by rw [hF2,<-ho]; rfl)
         · rw [hc,Bool.false_or] at ho
           refine ⟨by omega,aC (i + 1) 1 ⟨by omega,ho⟩ (by omega) ?_ ?_⟩
           · simp -dsimp only [go_sem]<;>simp
           · simp -dsimp only [go_sem,aD]<;>simp
       · have hg:decide ((i:Int) < (s.ss.length:Int))=false:=by simp; omega
         obtain rfl:i=s.ss.length:=by omega
         rw [fU] at ho
         have hml:(s.ss.map fun t=>dD s.ss t.nm).length=s.ss.length:=by simp
         generalize (s.ss.map fun t=>dD s.ss t.nm)=ds at *
         simp (maxSteps:=9^6) -dsimp only [go_sem,hml,hg,aD]
         exact fin 0 _ (by rw [hF2,<-ho]; rfl)
attribute [go_sem ↓] vX
def sF:Nat->List St->List (List C)
 | _,[]=>[]
 | k,s :: r=>[.vl (.string s.nm),.sl k s.fs.length] :: sF (k + 1) r
def sB (ss:List St):List B:=ss.map fun s=>lL s.fs
@[go_sem] theorem Z7:∀ (k:Nat) (ss:List St),(sF k ss).length=ss.length
 | _,[]=>rfl
 | k,s :: r=>by rw [sF,List.length_cons,Z7 (k + 1) r]; rfl
@[go_sem] theorem vT (ss:List St):(sB ss).length=ss.length:=by simp [sB]
theorem KS (s:St):∀ (k:Nat) (ss:List St),sF k (ss ++ [s])=sF k ss ++ [[.vl (.string s.nm),.sl (k + ss.length) s.fs.length]]
 | _,[]=>rfl
 | k,t :: r=>by rw [List.cons_append,sF,sF,KS s (k + 1) r,List.length_cons,show k + 1 + r.length=k + (r.length + 1) by omega]; rfl
theorem ZC (s:St) (ss:List St):sB (ss ++ [s])=sB ss ++ [lL s.fs]:=by simp [sB]
theorem QF:∀ (k:Nat) (ss:List St) (i:Nat),(sF k ss)[i]? = ss[i]?.map fun s=>[.vl (.string s.nm),.sl (k + i) s.fs.length]
 | _,[],_=>by simp [sF]
 | k,s :: r,0=>rfl
 | k,s :: r,i + 1=>by rw [sF,List.getElem?_cons_succ,List.getElem?_cons_succ,QF (k + 1) r i,show k + 1 + i=k + (i + 1) by omega]
theorem OU {f:Nat->Option Nat}:∀ (k:Nat) (ss:List St),(∀ j,k<=j->j < k + ss.length->f j=some j)->(sF k ss).map (fun r=>r.map (C.ren f))=sF k ss
 | _,[],_=>rfl
 | k,s :: r,h=>by
  rw [sF,List.map_cons,OU (k + 1) r fun j h1 h2=>h j (by omega) (by simp only [List.length_cons]; omega)]
  have:=h k (Nat.le_refl _) (by simp)
  simp [C.ren,this]
@[go_sem] theorem aAE (f:Nat->Option Nat) (ss:List St):(sB ss).map (B.ren f)=sB ss:=by
 unfold sB
 rw [List.map_map]; rfl
abbrev n5:B:=.cells [.vl (.int .i64 0),.vl (.slice none 0 0),.vl (.slice none 0 0)] 25
abbrev HO (ts:List Tk) (z:Fs):B:=.cells [.fz (ts.map cQ),.vl (.int .i64 z.n),.vl (.int .i64 (bv z))] 82
abbrev xU (v:Int) (m n:Nat):B:=.cells [.vl (.int .i64 v),.sl 3 m,.sl 4 n] 25
abbrev U6 (ts:List Tk) (z:Fs) (v:Int) (es:List En) (ss:List St):Hp:=n5 :: HO ts z :: xU v es.length ss.length :: .row (es.map aO) 62 3 :: .rowx (sF 5 ss) 56 2 :: sB ss
def FW:W.Spec:=fun av H K=>∃ (t:Ty) (es:List En),av=[.va (.gs (aP t)),.va (.c1 (.fz (es.map aO)))]/\H=[]/\tX t/\TyOk t/\es.length<=1000000/\K (.va (.gs (aP (gS (es.map En.nm) t)))) []
theorem OO:Meets Tryz.prog 52 FW:=iJ 0 zG fun _av _H _K ⟨t,es,e1,e2,h1,h2,h4,hK⟩=>⟨t.h,t,es,e1,e2,h1,h2,Nat.le_refl _,h4,hK⟩
theorem XM {t:Ty} {es:List En} {K:S->Hp->Prop} (h1:tX t) (h2:TyOk t) (h4:es.length<=1000000) (hK:K (.va (.gs (aP (gS (es.map En.nm) t)))) []):FW [.va (.gs (aP t)),.va (.c1 (.fz (es.map aO)))] [] K:=⟨t,es,rfl,rfl,h1,h2,h4,hK⟩
noncomputable def j7:dP:=[(45,.s i7),(46,.s oK),(47,.s oA),(49,.s DY),(48,.s E7),(50,.s M8),(51,.s N6),(52,.s FW),(9,.f ckFn)]
theorem NL:gP Tryz.prog j7:=aA aAK (aA uY (aA BH (aA MT (aA O0 (aA X6 (aA P4 (aA OO (aI ZP (aB _)))))))))
theorem G9:sp j7 45=i7:=rfl
theorem JC:sp j7 46=oK:=rfl
theorem F8:sp j7 47=oA:=rfl
theorem F4:sp j7 49=DY:=rfl
theorem JJ:sp j7 48=E7:=rfl
theorem F0:sp j7 50=M8:=rfl
theorem HX:sp j7 51=N6:=rfl
theorem G3:sp j7 52=FW:=rfl
theorem JF:mH j7 9=some ckFn:=rfl
attribute [local go_sem] G9 JC F8 F4 JJ F0 HX G3 JF
attribute [-go_sem] i7
def QM (ts:List Tk):(List En × List St) × Fs:=tQ ts (ts.length + 1) [] [] (pL ts)
theorem aA6 (ss:List St) (a:B):(sB ss ++ [a])[ss.length]? = some a:=by
 rw [List.getElem?_append_right (by rw [vT]; omega),vT,Nat.sub_self]; rfl
theorem aID (ss:List St) (a b:B):(sB ss ++ [a] ++ [b])[ss.length + 1]? = some b:=by
 rw [List.append_assoc,List.getElem?_append_right (by rw [vT]; omega),vT,show ss.length + 1 - ss.length=1 by omega]; rfl
theorem mC {L j:Nat} (h:j < L):iC L j=some j:=if_pos h
theorem aMH {b0 b1 b2 b3 b4:B} {ss:List St} {ext:List B} {L:Nat} (f:Nat->Option Nat) (hL:L=ss.length + 1 + 1 + 1 + 1 + 1):((b0 :: b1 :: b2 :: b3 :: b4 :: (sB ss ++ ext)).take L).map (B.ren f)=b0.ren f :: b1.ren f :: b2.ren f :: b3.ren f :: b4.ren f :: sB ss:=by
 subst hL
 simp only [List.take_succ_cons,List.map_cons]
 rw [List.take_left' (vT ss),aAE]
theorem aC1 {ss:List St} {L:Nat} {T:TypeId} (hL:5 + ss.length<=L):(B.rowx (sF 5 ss) T 2).ren (iC L)=.rowx (sF 5 ss) T 2:=by
 rw [QQ,OU 5 ss fun j _ h=>mC (by omega)]
theorem aAW {v:Int} {m n L:Nat} (hL:5<=L):(xU v m n).ren (iC L)=xU v m n:=by
 simp [B.ren,C.ren,mC (show 3 < L by omega),mC (show 4 < L by omega)]
theorem SA {ts:List Tk} {n:Nat} {b v:Int} {k:Nat} {es:List (List C)} {ss:List St} {ext:List B} {L:Nat} (hL:L=ss.length + 1 + 1 + 1 + 1 + 1) :
 ((n5 :: .cells [.fz (ts.map cQ),.vl (.int .i64 n),.vl (.int .i64 b)] 82 :: xU v k ss.length :: .row es 62 3 :: .rowx (sF 5 ss) 56 2 :: (sB ss ++ ext)).take L).map (B.ren (iC L)) =
 n5 :: .cells [.fz (ts.map cQ),.vl (.int .i64 n),.vl (.int .i64 b)] 82 :: xU v k ss.length :: .row es 62 3 :: .rowx (sF 5 ss) 56 2 :: sB ss:=by
 rw [aMH _ hL,aC1 (by omega),aAW (by omega)]
 rfl
theorem ZZ {ts:List Tk} {n:Nat} {b v:Int} {k:Nat} {es:List (List C)} {ss:List St} {L:Nat} (hL:L=ss.length + 1 + 1 + 1 + 1 + 1) :
 ((n5 :: .cells [.fz (ts.map cQ),.vl (.int .i64 n),.vl (.int .i64 b)] 82 :: xU v k ss.length :: .row es 62 3 :: .rowx (sF 5 ss) 56 2 :: sB ss).take L).map (B.ren (iC L)) =
 n5 :: .cells [.fz (ts.map cQ),.vl (.int .i64 n),.vl (.int .i64 b)] 82 :: xU v k ss.length :: .row es 62 3 :: .rowx (sF 5 ss) 56 2 :: sB ss:=by
 have:=SA (ts:=ts) (n:=n) (b:=b) (v:=v) (k:=k) (es:=es) (ext:=[]) hL
 rw [List.append_nil] at this
 exact this
theorem aME {ts:List Tk} {n:Nat} {b v:Int} {k:Nat} {es:List (List C)} {ss:List St} {st:St} {ext:List B} {L:Nat} (hL:L=ss.length + 1 + 1 + 1 + 1 + 1 + 1) :
 ((n5 :: .cells [.fz (ts.map cQ),.vl (.int .i64 n),.vl (.int .i64 b)] 82 :: xU v k (ss.length + 1) :: .row es 62 3 :: .rowx (sF 5 ss ++ [[.vl (.string st.nm),.sl (ss.length + 5) st.fs.length]]) 56 2 :: (sB ss ++ [lL st.fs] ++ ext)).take L).map (B.ren (iC L)) =
 n5 :: .cells [.fz (ts.map cQ),.vl (.int .i64 n),.vl (.int .i64 b)] 82 :: xU v k (ss ++ [st]).length :: .row es 62 3 :: .rowx (sF 5 (ss ++ [st])) 56 2 :: sB (ss ++ [st]):=by
 have e1:sF 5 ss ++ [[.vl (.string st.nm),.sl (ss.length + 5) st.fs.length]]=sF 5 (ss ++ [st]):=by rw [KS,Nat.add_comm]
 have e2:sB ss ++ [lL st.fs]=sB (ss ++ [st]):=(ZC ..).symm
 have e3:(ss ++ [st]).length=ss.length + 1:=by simp
 rw [e1,e2,<-e3]
 exact SA (by rw [hL,e3])
theorem X3 {ts:List Tk} (ht:Tks ts) {K:S->Hp->Prop} (v:Int)
 (h14:∀ z es ss,z.n < ts.length->es.length<=ts.length + 1->ss.length<=ts.length + 1->((es,ss),z)=QM ts->vc j7 0 pcI15_14.ungh (cJ [(2,.va (.c1 (.pt 0 0))),(8,.va (.c1 (.pt 1 0))),(9,.va (.c1 (.pt 2 0)))]) (U6 ts z v es ss) (eO 0 l0 K)) :
 vc j7 0 pcI15_7.ungh (cJ [(2,.va (.c1 (.pt 0 0))),(8,.va (.c1 (.pt 1 0))),(9,.va (.c1 (.pt 2 0)))]) [n5,HO ts (dU false ts (rN ts)),.cells [.vl (.int .i64 v),.vl (.slice none 0 0),.vl (.slice none 0 0)] 25] (eO 0 l0 K):=by
 have hle:=ht.e.le
 have hn1:=(j3 (c:=false) (AE ht)).2
 have hn2:=FT ht
 unfold QM at h14
 simp (maxSteps:=9^6) -dsimp only [go_sem,pcI15_7]
 refine eC ht hn1 ?_
 rw [show bl (mk [59])=[59] from rfl,gN ht hn1,show bG [59] ts (dU false ts (rN ts))=pL ts from rfl]
 generalize pL ts=z0 at *
 simp (maxSteps:=9^6) -dsimp only [go_sem]
 refine cI (α:=Nat × List En × List St × Fs) (fun _=>[(2,.va (.c1 (.pt 0 0))),(8,.va (.c1 (.pt 1 0))),(9,.va (.c1 (.pt 2 0)))])
  (fun x=>U6 ts x.2.2.2 v x.2.1 x.2.2.1)
  (fun x=>x.2.2.2.n < ts.length/\x.2.1.length + x.1<=ts.length + 1/\x.2.2.1.length + x.1<=ts.length + 1/\(x.2.2.2.bad=false->ts.length < x.2.2.2.n + x.1)/\tQ ts x.1 x.2.1 x.2.2.1 x.2.2.2=tQ ts (ts.length + 1) [] [] z0)
  (fun x=>x.1) (.nilc 2 1 62 3 _ _ rfl rfl (.nilc 2 2 56 2 _ _ rfl rfl (.opn 4 _ _ _ rfl (hY (ts.length + 1,[],[],z0) 5 ⟨hn2,by simp,by simp,fun _=>by simp only; omega,rfl⟩ ?_ ?_)))) ?_
 · simp -dsimp only [go_sem]<;>simp
 · simp -dsimp only [go_sem]<;>simp [sF,sB]
 rintro ⟨f,es,ss,z⟩ ⟨h1,h2,h3,h4,h5⟩
 simp only at h1 h2 h3 h4 h5
 have fin:=h14 z es ss h1 (by omega) (by omega)
 clear h14
 have hs0:iC (ss.length + 1 + 1 + 1 + 1 + 1) 0=some 0:=mC (by omega)
 have hs1:iC (ss.length + 1 + 1 + 1 + 1 + 1) 1=some 1:=mC (by omega)
 have hs2:iC (ss.length + 1 + 1 + 1 + 1 + 1) 2=some 2:=mC (by omega)
 obtain ⟨bb,oo,n⟩:=z
 cases bb with
 | true=>
  rw [wK _ _ _ _ rfl] at h5
  have hb:=m0 oo.toNat
  simp (maxSteps:=9^6) -dsimp only [go_sem,qT,hb]
  refine cA (ss.length + 1 + 1 + 1 + 1 + 1) (fin h5) ?_ ?_ rfl (Nat.zero_le _)
  · simp -dsimp only [go_sem,hs0,hs1,hs2]<;>simp
  · exact ZZ rfl
 | false=>
 have h4:=h4 rfl
 simp only at h1 h4
 obtain ⟨f,rfl⟩:∃ g,f=g + 1:=⟨f - 1,by omega⟩
 rw [sZ,Bool.false_or] at h5
 simp (maxSteps:=9^6) -dsimp only [go_sem,kR,mF]
 refine ⟨by omega,vK (z:=⟨false,oo,n⟩) ht h1 ?_⟩
 simp only at h5
 cases hk:(aT ts n).k == 0 with
 | true=>
  rw [hk,aK] at h5
  have hk':((aT ts n).k != 0)=false:=by rw [bne,hk]; rfl
  simp (maxSteps:=9^6) -dsimp only [go_sem,cQ,hk']
  refine cA (ss.length + 1 + 1 + 1 + 1 + 1) (fin h5) ?_ ?_ rfl (Nat.zero_le _)
  · simp -dsimp only [go_sem,hs0,hs1,hs2]<;>simp
  · exact ZZ rfl
 | false=>
 rw [hk,aF] at h5
 have hk':((aT ts n).k != 0)=true:=by rw [bne,hk]; rfl
 clear fin
 simp (maxSteps:=9^6) -dsimp only [go_sem,cQ,hk']
 refine ⟨by omega,rW (z:=⟨false,oo,n⟩) ht h1 ?_⟩
 rw [show bl (mk [101,110,117,109])=dA from rfl]
 cases he:aN 1 dA ts ⟨false,oo,n⟩ with
 | true=>
  rw [he,aK] at h5
  obtain ⟨q1,q2,q3⟩:=jV (by decide) ht.e h1 he
  have e1:aX 1 dA ts ⟨false,oo,n⟩=⟨false,oo,n + 1⟩:=by unfold aX; rw [he,q1]; rfl
  rw [e1] at h5
  simp (maxSteps:=9^6) -dsimp only [go_sem]
  refine aU rfl (.done ?_)
  simp (maxSteps:=9^6) -dsimp only [go_sem,yE,kR]
  refine ⟨by omega,.done ?_⟩
  simp (maxSteps:=9^6) -dsimp only [go_sem]
  refine ⟨by omega,ZA (z:=⟨false,oo,n + 1⟩) ht q2 ?_⟩
  have g1:=FS (z:=⟨false,oo,n + 1⟩) q2
  rw [<-PW] at g1
  generalize mG ts ⟨false,oo,n + 1⟩=r at *
  obtain ⟨en,z4⟩:=r
  simp only at h5 g1 ⊢
  simp (maxSteps:=9^6) -dsimp only [go_sem,aO,aA6]
  refine ⟨by omega,aC (f,es ++ [en],ss,z4) (ss.length + 1 + 1 + 1 + 1 + 1) ⟨g1.2,?_,?_,fun _=>?_,h5⟩ (by simp) ?_ ?_ (Nat.zero_le _)⟩
  · simp only [List.length_append,List.length_singleton]; omega
  · simp only; omega
  · simp only at g1 ⊢; omega
  · simp -dsimp only [go_sem,hs0,hs1,hs2]<;>simp
  · refine (SA rfl).trans ?_
    simp [aO]
 | false=>
  rw [he,aF] at h5
  simp (maxSteps:=9^6) -dsimp only [go_sem]
  refine aU rfl (.done ?_)
  simp (maxSteps:=9^6) -dsimp only [go_sem,yU,kR]
  have ew:xS 1 dM ts ⟨false,oo,n⟩=fH dM ts ⟨false,oo,n⟩:=AX (by decide) ht h1
  refine ⟨by omega,eC (z:=⟨false,oo,n⟩) ht h1 ?_⟩
  rw [show bl (mk [115,116,114,117,99,116])=dM from rfl,ew]
  have gw:=C8 (w:=dM) (z:=⟨false,oo,n⟩) h1
  have gb:(fH dM ts ⟨false,oo,n⟩).bad=false->n + 1<=(fH dM ts ⟨false,oo,n⟩).n:=fun hb=>by
   cases hs:aN 1 dM ts ⟨false,oo,n⟩ with
   | true=>
    have:=(jV (by decide) ht.e h1 hs).1
    unfold fH; rw [hs]
    exact Nat.le_of_eq this.symm
   | false=>
    unfold fH at hb
    rw [hs,aF,iV] at hb; cases hb
  generalize fH dM ts ⟨false,oo,n⟩=z1 at *
  refine .done ?_
  simp (maxSteps:=9^6) -dsimp only [go_sem]
  refine ⟨by omega,X2 ht gw.2 ?_⟩
  have g1:=FH gw.2
  rw [<-(IE ht gw.2).1] at g1
  have g2:(lX ts z1).2.bad=false->z1.bad=false:=GQ fun hb=>by rw [(IE ht gw.2).1,LK hb]
  generalize lX ts z1=r at *
  obtain ⟨st,z4⟩:=r
  simp only at h5 g1 g2 ⊢
  simp (maxSteps:=9^6) -dsimp only [go_sem,aID,List.flatten_cons,List.flatten_nil]
  have hs0':iC (ss.length + 1 + 1 + 1 + 1 + 1 + 1) 0=some 0:=mC (by omega)
  have hs1':iC (ss.length + 1 + 1 + 1 + 1 + 1 + 1) 1=some 1:=mC (by omega)
  have hs2':iC (ss.length + 1 + 1 + 1 + 1 + 1 + 1) 2=some 2:=mC (by omega)
  refine ⟨by omega,aC (f,es,ss ++ [st],z4) (ss.length + 1 + 1 + 1 + 1 + 1 + 1) ⟨g1.2,?_,?_,fun hb=>?_,h5⟩ (by simp) ?_ ?_ (Nat.zero_le _)⟩
  · simp only; omega
  · simp only [List.length_append,List.length_singleton]; omega
  · have:=gb (g2 hb); simp only at g1 ⊢; omega
  · simp -dsimp only [go_sem,hs0',hs1',hs2']<;>simp
  · exact aME rfl
end Go.Proofs.YtgogpogophflhaaGreatDoor
namespace Go.Proofs.YtgogpogophflhaaGreatDoor
open Go.W
attribute [local go_sem] G9 JC F8 F4 JJ F0 HX G3 JF
attribute [-go_sem] i7
def oW (fr:Fr):List (Nat × S)->Prop
 | []=>True
 | (i,s) :: r=>fr i=s/\oW fr r
attribute [go_sem ↓] oW
theorem JL:∀ {l:List (Nat × S)} {fr:Fr},oW fr l->∀ i,cJ l i=fr i\/cJ l i=.un
 | [],fr,_,i=>.inr rfl
 | (j,s) :: r,fr,h,i=>by
  simp only [cJ,put]
  split
  · rename_i hi; subst hi; exact .inl h.1.symm
  · exact JL h.2 i
theorem oN {k0:Nat} {Q:Fr->Hp->Prop} {fr:Fr} {H:Hp} (up:List (Nat × S)) (h:oW fr up) (hQ:Gh k0 Q (cJ up) H):Gh k0 Q fr H:=.wk _ (JL h) hQ
theorem DH {α:Type} {k0:Nat} {up:α->List (Nat × S)} {Hs:α->Hp} {Inv:α->Prop} {μ:α->Nat} {z:α} {fr:Fr} {H:Hp} (z':α) (h1:Inv z') (h2:μ z' < μ z) (h3:oW fr (up z')) (h4:H=Hs z'):NO k0 up Hs Inv μ z fr H ⟨⟩:=
 oN _ h3 (.done ⟨_,h2,z',h1,rfl,h4,rfl⟩)
theorem I5 {α:Type} {k0:Nat} {Γ:dP} {x:PC} {K:Ex->Fr->Hp->Prop} {fr:Fr} {H:Hp} (up:α->List (Nat × S)) (Hs:α->Hp) (Inv:α->Prop) (μ:α->Nat) (z:α) (h1:Inv z) (h2:oW fr (up z)) (h3:H=Hs z)
 (step:∀ z,Inv z->vc Γ k0 x (cJ (up z)) (Hs z) (sX k0 up Hs Inv μ z K)):US Γ k0 x fr H K ⟨⟩:=cI up Hs Inv μ (oN _ h2 (.done ⟨z,h1,rfl,h3⟩)) step
theorem RI {k0:Nat} {Γ:dP} {x:PC} {K:Ex->Fr->Hp->Prop} {fr:Fr} {H:Hp} (up:List (Nat × S)) (h1:oW fr up) (h:vc Γ k0 x.ungh (cJ up) H K) (hg:x.hgh=true:=by rfl):vcn Γ k0 x fr H K ⟨⟩:=
 aU hg (oN _ h1 (.done h))
def fB (bs:List (List Fl)):List B:=bs.map lL
@[go_sem] theorem aR7 (bs:List (List Fl)):(fB bs).length=bs.length:=by simp [fB]
theorem aE4 {bs:List (List Fl)} {i:Nat} {l:List Fl} (h:bs[i]? = some l):(fB bs)[i]? = some (lL l):=by simp [fB,h]
theorem aEN (bs:List (List Fl)) (i:Nat) (l:List Fl):(fB bs).set i (lL l)=fB (bs.set i l):=by simp [fB,List.map_set]
@[go_sem] theorem aQ0 (f:Nat->Option Nat) (bs:List (List Fl)):(fB bs).map (B.ren f)=fB bs:=by
 unfold fB; rw [List.map_map]; rfl
@[go_sem] theorem QC (n:Nat) (xs:List (List C)) (bs:List (List Fl)):(fB bs).map (B.pub n xs)=fB bs:=by
 unfold fB; rw [List.map_map]; rfl
theorem aHN (ss:List St):sB ss=fB (ss.map St.fs):=by unfold sB fB; rw [List.map_map]; rfl
theorem JV {n:Nat} {xs:List (List C)}:∀ (k:Nat) (ss:List St),n < k->(sF k ss).map (fun r=>r.map (C.pub n xs))=sF k ss
 | _,[],_=>rfl
 | k,s :: r,h=>by
  rw [sF,List.map_cons,JV (k + 1) r (by omega)]
  have:k ≠ n:=by omega
  simp [C.pub,this]
theorem aHW {ss:List St} {i:Nat} {s:St} (h:ss[i]? = some s) (p:List C->Prop):(∀ r,(sF 5 ss)[((i:Nat):Int).toNat]? = some r->p r)=p [.vl (.string s.nm),.sl (i + 1 + 1 + 1 + 1 + 1) s.fs.length]:=by
 rw [Int.toNat_natCast,QF,h,Option.map_some,show 5 + i=i + 1 + 1 + 1 + 1 + 1 by omega]
 exact propext ⟨fun q=>q _ rfl,fun q r hr=>by cases hr; exact q⟩
def nU {α:Type} (R:α->α) (l:List α) (k:Nat):List α:=(l.take k).map R ++ l.drop k
theorem aG9 {α:Type} (R:α->α) (l:List α):nU R l 0=l:=rfl
theorem L9 {α:Type} (R:α->α) (l:List α):nU R l l.length=l.map R:=by simp [nU]
theorem KA {α:Type} (R:α->α) (l:List α) (k:Nat):(nU R l k).length=l.length:=by simp [nU]; omega
theorem LD {α:Type} {R:α->α} {l:List α} {k:Nat} {a:α} (h:l[k]? = some a):(nU R l k)[k]? = some a:=by
 have hl:=(bC.1 h).1
 have:((l.take k).map R).length=k:=by simp; omega
 unfold nU
 rw [List.getElem?_append_right (by omega),this,Nat.sub_self,List.getElem?_drop,Nat.add_zero,h]
theorem KV {α:Type} {R:α->α} {l:List α} {k:Nat} {a:α} (h:l[k]? = some a):(nU R l k).set k (R a)=nU R l (k + 1):=by
 have hl:=(bC.1 h).1
 have hk:((l.take k).map R).length=k:=by simp; omega
 have hd:l.drop k=a :: l.drop (k + 1):=by rw [List.drop_eq_getElem_cons hl,(bC.1 h).2]
 have ht:l.take (k + 1)=l.take k ++ [a]:=by rw [List.take_add_one,h]; rfl
 unfold nU
 rw [List.set_append_right _ _ (by omega),hk,Nat.sub_self,hd,List.set_cons_zero,ht,List.map_append,List.append_assoc]
 rfl
abbrev MF (b1:B) (v:Int) (es:List En) (ss:List St) (bs:List (List Fl)):Hp:=n5 :: b1 :: .cells [.vl (.int .i64 v),.fz (es.map aO),.sl 4 ss.length] 25 :: .dead :: .rowx (sF 5 ss) 56 2 :: fB bs
theorem RY {n:Nat} {xs:List (List C)} {c:C} (h:c.shut=true):c.pub n xs=c:=by
 cases c<;>first | rfl | cases h
def JS:List St->List (List Fl)->List (List C)
 | s :: ss,l :: bs=>[.vl (.string s.nm),.fz (l.map bH)] :: JS ss bs
 | _,_=>[]
theorem IY:∀ (ss:List St) (bs:List (List Fl)),∀ c ∈ (JS ss bs).flatten,c.shut=true
 | s :: ss,l :: bs,c,h=>by
  rw [JS,List.flatten_cons] at h
  rcases List.mem_append.1 h with h | h
  · simp only [List.mem_cons,List.not_mem_nil,or_false] at h
    rcases h with rfl | rfl<;>rfl
  · exact IY ss bs c h
 | [],_,c,h=>by cases h
 | _ :: _,[],c,h=>by cases h
theorem IG (ns:List ByteArray):∀ ss:List St,JS ss (ss.map fun s=>s.fs.map (iU ns))=(ss.map (jM ns)).map aL
 | []=>rfl
 | s :: ss=>by rw [List.map_cons,List.map_cons,List.map_cons,JS,IG ns ss]; rfl
theorem MH {Q:Fr->Hp->Prop} {fr:Fr} {T:TypeId} (hfr:∀ n xs,(fun i=>(fr i).pub n xs)=fr) {b0 b1 b2 b3:B} (h0:∀ n xs,5<=n->b0.pub n xs=b0) (h1:∀ n xs,5<=n->b1.pub n xs=b1) (h2:∀ n xs,5<=n->b2.pub n xs=b2) (h3:∀ n xs,5<=n->b3.pub n xs=b3) :
 ∀ (ss:List St) (bs:List (List Fl)) (done:List (List C)) (d:Nat),ss.length=bs.length->(∀ (i:Nat) (s:St) (l:List Fl),ss[i]? = some s->bs[i]? = some l->s.fs.length=l.length)->(∀ r ∈ done,∀ c ∈ r,c.shut=true)->
  Gh 0 Q fr (b0 :: b1 :: b2 :: b3 :: .rowx (done ++ JS ss bs) T 2 :: List.replicate (d + bs.length) .dead)->Gh 0 Q fr (b0 :: b1 :: b2 :: b3 :: .rowx (done ++ sF (5 + d) ss) T 2 :: (List.replicate d .dead ++ fB bs))
 | [],[],done,d,_,_,_,h=>by simpa [JS,sF,fB] using h
 | s :: ss,l :: bs,done,d,hl,hf,hd,h=>by
  have e0:(b0 :: b1 :: b2 :: b3 :: B.rowx (done ++ sF (5 + d) (s :: ss)) T 2 :: (List.replicate d B.dead ++ fB (l :: bs)))[5 + d]? = some (lL l):=by
   rw [show 5 + d=d + 1 + 1 + 1 + 1 + 1 by omega]
   simp only [List.getElem?_cons_succ]
   rw [List.getElem?_append_right (by simp),List.length_replicate,Nat.sub_self]
   rfl
  refine .pub (5 + d) _ _ _ e0 ?_
  rw [hfr]
  have e1:cC (5 + d) (l.map bH) (b0 :: b1 :: b2 :: b3 :: B.rowx (done ++ sF (5 + d) (s :: ss)) T 2 :: (List.replicate d B.dead ++ fB (l :: bs))) =
   b0 :: b1 :: b2 :: b3 :: B.rowx (done ++ [[.vl (.string s.nm),.fz (l.map bH)]] ++ sF (5 + (d + 1)) ss) T 2 :: (List.replicate (d + 1) B.dead ++ fB bs):=by
   unfold cC
   rw [show 5 + d=d + 1 + 1 + 1 + 1 + 1 by omega]
   simp only [List.set_cons_succ,List.map_cons]
   rw [List.set_append_right _ _ (by simp),List.length_replicate,Nat.sub_self,show fB (l :: bs)=lL l :: fB bs from rfl,List.set_cons_zero,List.map_append,List.map_cons,QC]
   rw [h0 _ _ (by omega),h1 _ _ (by omega),h2 _ _ (by omega),h3 _ _ (by omega)]
   rw [show (List.replicate d B.dead).map (B.pub (d + 1 + 1 + 1 + 1 + 1) (l.map bH))=List.replicate d B.dead by simp [B.pub]]
   rw [show B.dead.pub (d + 1 + 1 + 1 + 1 + 1) (l.map bH)=.dead from rfl,show List.replicate d B.dead ++ B.dead :: fB bs=List.replicate (d + 1) B.dead ++ fB bs by rw [List.replicate_succ']; simp]
   congr 5
   rw [ES,List.map_append,sF,List.map_cons,JV _ _ (by omega)]
   have ed:done.map (fun r=>r.map (C.pub (d + 1 + 1 + 1 + 1 + 1) (l.map bH)))=done:=by
    rw [List.map_congr_left (g:=id) fun r hr=>?_,List.map_id]
    exact (List.map_congr_left (g:=id) fun c hc=>RY (hd r hr c hc)).trans (List.map_id r)
   have el:s.fs.length=(l.map bH).length:=by rw [List.length_map]; exact hf 0 s l rfl rfl
   rw [ed,List.append_assoc,show 5 + (d + 1)=d + 1 + 1 + 1 + 1 + 1 + 1 by omega]
   simp [C.pub,el]
  rw [e1]
  refine MH hfr h0 h1 h2 h3 ss bs _ (d + 1) (by simpa using hl) (fun i s' l' q1 q2=>hf (i + 1) s' l' (by simpa using q1) (by simpa using q2)) (fun r hr c hc=>?_) ?_
  · rcases List.mem_append.1 hr with hr | hr
    · exact hd r hr c hc
    · rw [List.mem_singleton.1 hr] at hc
      simp only [List.mem_cons,List.not_mem_nil,or_false] at hc
      rcases hc with rfl | rfl<;>rfl
  · rw [List.append_assoc,show d + 1 + bs.length=d + (l :: bs).length by simp; omega]
    exact h
 | [],_ :: _,_,_,hl,_,_,_=>by simp at hl
 | _ :: _,[],_,_,hl,_,_,_=>by simp at hl
end Go.Proofs.YtgogpogophflhaaGreatDoor
namespace Go.Proofs.YtgogpogophflhaaGreatDoor
open Go.W
attribute [local go_sem] G9 JC F8 F4 JJ F0 HX G3 JF
attribute [-go_sem] i7
theorem TJ {α:Type} {l:List α} {i:Nat} {a:α} (h:l[i]? = some a):l.set i a=l:=by
 obtain ⟨hl,rfl⟩:=bC.1 h
 simp
theorem aGL {ss:List St} {i:Nat} {s:St} (h:ss[i]? = some s) (p:List C->Prop):(∀ r,(sF 5 ss)[i]? = some r->p r)=p [.vl (.string s.nm),.sl (i + 1 + 1 + 1 + 1 + 1) s.fs.length]:=by
 have:=aHW h p
 rwa [Int.toNat_natCast] at this
theorem NJ {b1:B} {v:Int} {es:List En} {ss:List St} {K:S->Hp->Prop} (he:es.length<=1000000) (hs:ss.length<=1000000) (hf:∀ t ∈ ss,t.fs.length<=1000000/\∀ f ∈ t.fs,tX f.ty/\TyOk f.ty)
 (h23:Gh 0 (fun fr H=>vc j7 0 pcI15_23.ungh fr H (eO 0 l0 K)) (cJ [(2,.va (.c1 (.pt 0 0))),(9,.va (.c1 (.pt 2 0)))]) (MF b1 v es ss (ss.map fun s=>s.fs.map (iU (es.map En.nm))))) :
 vc j7 0 pcI15_16.ungh (cJ [(2,.va (.c1 (.pt 0 0))),(9,.va (.c1 (.pt 2 0)))]) (MF b1 v es ss (ss.map St.fs)) (eO 0 l0 K):=by
 simp (maxSteps:=9^6) -dsimp only [go_sem,pcI15_16]
 have hbl:(ss.map St.fs).length=ss.length:=List.length_map ..
 refine I5 (α:=Nat) (fun i=>[(2,.va (.c1 (.pt 0 0))),(9,.va (.c1 (.pt 2 0))),(10,iS .i64 i)]) (fun i=>MF b1 v es ss (nU (List.map (iU (es.map En.nm))) (ss.map St.fs) i)) (fun i=>i<=ss.length) (fun i=>ss.length - i) 0 (Nat.zero_le _) ?_ rfl ?_
 · simp -dsimp only [go_sem]<;>simp
 intro i hi
 rcases bL i ss.length with hlt | hge
 · have hg:decide ((i:Int) < (ss.length:Int))=true:=by simp; omega
   obtain ⟨s,hx⟩:∃ s,ss[i]? = some s:=⟨_,bB hlt⟩
   have hsm:=hf s (bW hx)
   have hbx:(ss.map St.fs)[i]? = some s.fs:=by rw [List.getElem?_map,hx]; rfl
   have hcx:=LD (R:=List.map (iU (es.map En.nm))) hbx
   have hcs:=KV (R:=List.map (iU (es.map En.nm))) hbx
   have hcl:=KA (List.map (iU (es.map En.nm))) (ss.map St.fs) i
   generalize nU (List.map (iU (es.map En.nm))) (ss.map St.fs) i=bs at *
   have q1:=aGL hx
   have hib:i < bs.length:=by rw [hcl,hbl]; exact hlt
   simp (maxSteps:=9^6) -dsimp only [go_sem,hg]
   refine I5 (α:=Nat) (fun k=>[(2,.va (.c1 (.pt 0 0))),(9,.va (.c1 (.pt 2 0))),(10,iS .i64 i),(11,iS .i64 k)]) (fun k=>MF b1 v es ss (bs.set i (nU (iU (es.map En.nm)) s.fs k))) (fun k=>k<=s.fs.length) (fun k=>s.fs.length - k) 0 (Nat.zero_le _) ?_ ?_ ?_
   · simp -dsimp only [go_sem]<;>simp
   · rw [aG9,TJ hcx]
   intro k hk
   have hcb:(fB (bs.set i (nU (iU (es.map En.nm)) s.fs k)))[i]? = some (lL (nU (iU (es.map En.nm)) s.fs k)):=aE4 (by rw [List.getElem?_set_self hib])
   have hck:=KA (iU (es.map En.nm)) s.fs k
   rcases bL k s.fs.length with hkl | hkg
   · have hg2:decide ((k:Int) < (s.fs.length:Int))=true:=by simp; omega
     obtain ⟨f,hfx⟩:∃ f,s.fs[k]? = some f:=⟨_,bB hkl⟩
     have hft:=hsm.2 f (bW hfx)
     have hfg:=LD (R:=iU (es.map En.nm)) hfx
     have hfs:=KV (R:=iU (es.map En.nm)) hfx
     generalize nU (iU (es.map En.nm)) s.fs k=l at *
     have q2:=uK (row:=bH) hfg
     simp (maxSteps:=9^6) -dsimp only [go_sem,↓q1,hcb,hg2]
     refine ⟨by omega,hlt,by omega,aU rfl (.done ?_)⟩
     simp (maxSteps:=9^6) -dsimp only [go_sem,zB,↓q1,↓q2,hcb,bH]
     rw [<-bM f.ty]
     refine ⟨by omega,hlt,by omega,hlt,by omega,by omega,by omega,XM hft.1 hft.2 he ?_⟩
     have hset:l.set k ⟨f.num,f.nm,gS (es.map En.nm) f.ty,f.opt⟩=nU (iU (es.map En.nm)) s.fs (k + 1):=hfs
     generalize gS (es.map En.nm) f.ty=t' at *
     simp (maxSteps:=9^6) -dsimp only [go_sem,DV,↓q1,↓q2,hcb,bH,dF]
     refine ⟨by omega,hlt,by omega,by omega,fun c hc=>(vH t' c hc).2,⟨by omega,by omega,fun c hc=>(vH t' c hc).1⟩,by omega,DH (k + 1) hkl (by omega) ?_ ?_⟩
     · simp -dsimp only [go_sem]<;>simp
     · have e5:(l.map bH).set k (.vl (.int .i64 f.num) :: .vl (.string f.nm) :: (aP t' ++ [.vl (.bool f.opt)]))=(l.set k ⟨f.num,f.nm,t',f.opt⟩).map bH:=by
        rw [List.map_set]
        congr 1
        rw [bM]; rfl
       rw [e5,show ∀ q:List Fl,B.row (q.map bH) 64 7=lL q from fun _=>rfl,aEN,List.set_set,hset]
   · have hg2:decide ((k:Int) < (s.fs.length:Int))=false:=by simp; omega
     obtain rfl:k=s.fs.length:=by omega
     simp (maxSteps:=9^6) -dsimp only [go_sem,↓q1,hcb,hg2]
     refine ⟨by omega,hlt,hck,by omega,DH (i + 1) hlt (by omega) ?_ ?_⟩
     · simp -dsimp only [go_sem]<;>simp
     · rw [L9,hcs]
 · have hg:decide ((i:Int) < (ss.length:Int))=false:=by simp; omega
   obtain rfl:i=ss.length:=by omega
   simp (maxSteps:=9^6) -dsimp only [go_sem,hg]
   refine aU rfl (oN [(2,.va (.c1 (.pt 0 0))),(9,.va (.c1 (.pt 2 0)))] ?_ ?_)
   · simp -dsimp only [go_sem]<;>simp
   · rw [<-hbl,L9,List.map_map]
     exact h23
theorem aC2 (n:Nat) (xs:List (List C)):(fun i=>(cJ [(2,.va (.c1 (.pt 0 0))),(9,.va (.c1 (.pt 2 0)))] i).pub n xs)=cJ [(2,.va (.c1 (.pt 0 0))),(9,.va (.c1 (.pt 2 0)))]:=by
 funext i
 simp only [cJ,put]
 split
 · rfl
 · split<;>rfl
theorem O2 {Q:Fr->Hp->Prop} {ts:List Tk} {z:Fs} {v:Int} {es:List En} {ss:List St} (h:Q (cJ [(2,.va (.c1 (.pt 0 0))),(9,.va (.c1 (.pt 2 0)))]) [n5,HO ts z,.cells (aD ⟨v,es,ss.map (jM (es.map En.nm))⟩) 25,.dead,.dead]) :
 Gh 0 Q (cJ [(2,.va (.c1 (.pt 0 0))),(9,.va (.c1 (.pt 2 0)))]) (MF (HO ts z) v es ss (ss.map fun s=>s.fs.map (iU (es.map En.nm)))):=by
 have hb2:∀ n xs,5<=n->(B.cells [.vl (.int .i64 v),.fz (es.map aO),.sl 4 ss.length] 25).pub n xs=.cells [.vl (.int .i64 v),.fz (es.map aO),.sl 4 ss.length] 25:=fun n xs hn=>by
  have:¬ 4=n:=by omega
  simp [B.pub,C.pub,this]
 have hp:=MH (Q:=Q) (T:=56) aC2 (b0:=n5) (b1:=HO ts z) (b3:=.dead) (fun _ _ _=>rfl) (fun _ _ _=>rfl) hb2 (fun _ _ _=>rfl) ss (ss.map fun s=>s.fs.map (iU (es.map En.nm))) [] 0 (by simp) (fun i s l h1 h2=>by
  rw [List.getElem?_map,h1] at h2
  rw [<-bK h2,List.length_map]) (fun r hr=>by cases hr)
 refine hp ?_
 rw [IG,List.nil_append]
 refine .shu 4 _ _ _ rfl (fun c hc=>?_) (.pub 4 _ _ _ rfl (.cut 5 (Nat.zero_le _) (oN [(2,.va (.c1 (.pt 0 0))),(9,.va (.c1 (.pt 2 0)))] ?_ (.done ?_))))
 · rw [<-IG] at hc; exact IY _ _ c hc
 · simp -dsimp only [go_sem]<;>simp
 · refine Eq.mpr (congrArg (Q _) ?_) h
   simp [cC,B.pub,C.pub,B.ren,C.ren,aD]
theorem aK0 {ts:List Tk} {z:Fs} {v:Int} {es:List En} {ss:List St}:cC 3 (es.map aO) (U6 ts z v es ss)=MF (HO ts z) v es ss (ss.map St.fs):=by
 unfold cC
 show List.map _ (List.set (n5 :: HO ts z :: xU v es.length ss.length :: .row (es.map aO) 62 3 :: .rowx (sF 5 ss) 56 2 :: sB ss) 3 .dead)=_
 rw [aHN]
 simp only [List.set_cons_succ,List.set_cons_zero,List.map_cons,QC,ES,JV 5 ss (show 3 < 5 by decide)]
 simp [B.pub,C.pub]
theorem aIO {ts:List Tk} (ht:Tks ts) {K:S->Hp->Prop} {v:Int} {z:Fs} {es:List En} {ss:List St} (hn:z.n < ts.length) (he:es.length<=1000000) (hs:ss.length<=1000000)
 (hf:z.bad=false->(∀ t ∈ ss,t.fs.length<=1000000/\∀ f ∈ t.fs,tX f.ty/\TyOk f.ty)/\(⟨v,es,ss.map (jM (es.map En.nm))⟩:Sc).fit)
 (hK:∀ r:Sc × Int × Int,r=(bif z.bad then (sc0,2,(z.off.toNat:Int)) else bif cG ⟨v,es,ss.map (jM (es.map En.nm))⟩ != 0 then (sc0,cG ⟨v,es,ss.map (jM (es.map En.nm))⟩,0) else (⟨v,es,ss.map (jM (es.map En.nm))⟩,0,0))->K (.tu [.gs (aD r.1),iA .i64 r.2.1,iA .i64 r.2.2]) []) :
 vc j7 0 pcI15_14.ungh (cJ [(2,.va (.c1 (.pt 0 0))),(8,.va (.c1 (.pt 1 0))),(9,.va (.c1 (.pt 2 0)))]) (U6 ts z v es ss) (eO 0 l0 K):=by
 obtain ⟨b,o,n⟩:=z
 cases b with
 | true=>
  have hK:=hK _ rfl
  have hb:decide ((0:Int)<=(o.toNat:Int))=true:=decide_eq_true (by omega)
  simp (maxSteps:=9^6) -dsimp only [go_sem,pcI15_14,l0,qT,hb]
  refine .sel [] (by simp) (by simp [cC]) rfl (.done ?_)
  simp (maxSteps:=9^6) -dsimp only [go_sem,cC]
  exact hK
 | false=>
  obtain ⟨hg,hfit⟩:=hf rfl
  simp (maxSteps:=9^6) -dsimp only [go_sem,pcI15_14,kR,WV]
  refine aU rfl (.pub 3 _ _ _ rfl (oN [(2,.va (.c1 (.pt 0 0))),(9,.va (.c1 (.pt 2 0)))] ?_ (.done ?_)))
  · simp -dsimp only [go_sem]<;>simp
  have hp:=aK0 (ts:=ts) (z:=⟨false,o,n⟩) (v:=v) (es:=es) (ss:=ss)
  refine Eq.mpr (congrArg (fun H=>vc j7 0 pcI15_16.ungh (cJ [(2,.va (.c1 (.pt 0 0))),(9,.va (.c1 (.pt 2 0)))]) H (eO 0 l0 K)) hp) ?_
  refine NJ he hs hg (O2 ?_)
  have k1:=iT hfit
  have k2:=f6 (⟨v,es,ss.map (jM (es.map En.nm))⟩:Sc)
  generalize (⟨v,es,ss.map (jM (es.map En.nm))⟩:Sc)=s at *
  have k1:k9 [C.vl (Value.int IntKind.i64 s.ver),C.fz (List.map aO s.es),C.fz (List.map aL s.ss)]:=k1
  have k2:C.sc [C.vl (Value.int IntKind.i64 s.ver),C.fz (List.map aO s.es),C.fz (List.map aL s.ss)]=s:=k2
  cases hc:cG s != 0 with
  | true=>
   have hK:=hK _ rfl
   rw [hc] at hK
   simp (maxSteps:=9^6) -dsimp only [go_sem,aD,pcI15_23,k1,k2]
   refine aU rfl (.done ?_)
   simp (maxSteps:=9^6) -dsimp only [go_sem,sV,l0,hc]
   refine .sel [] (by simp) (by simp [cC]) rfl (.done ?_)
   simp (maxSteps:=9^6) -dsimp only [go_sem,cC]
   exact hK
  | false=>
   have hK:=hK _ rfl
   rw [hc] at hK
   simp (maxSteps:=9^6) -dsimp only [go_sem,aD,pcI15_23,k1,k2]
   refine aU rfl (.done ?_)
   simp (maxSteps:=9^6) -dsimp only [go_sem,sV,hc]
   refine aU rfl (.done ?_)
   simp (maxSteps:=9^6) -dsimp only [go_sem,x5,l0]
   refine .sel [] (by simp) (by simp [cC]) rfl (.done ?_)
   simp (maxSteps:=9^6) -dsimp only [go_sem,cC]
   exact hK
theorem NG {ts:List Tk} (ht:Tks ts):(QM ts).2=(lU ts).2/\((lU ts).2.bad=false->(QM ts).1=(lU ts).1):=GM ht _ _ _ _ (FT ht)
theorem Y8:Meets Tryz.prog 15 kZ:=by
 refine aG (Γ:=j7) Tryz.func15 aGT 1 (by rw [Tryz.ntmps15]; decide) NL (fun av H K h=>by obtain ⟨_,rfl,_⟩:=h; rfl) ?_
 rintro av H K ⟨x,rfl,rfl,hK⟩
 unfold mM at hK
 simp (maxSteps:=9^6) -dsimp only [go_sem,UG,l0]
 refine Y1 ?_
 by_cases hx:(bD (bl x)).err=0
 case neg=>
  have hx':((bD (bl x)).err != 0)=true:=bne_iff_ne.2 hx
  rw [hx',aK] at hK
  simp (maxSteps:=9^6) -dsimp only [go_sem,hx']
  refine .sel [] (by simp) (by simp [cC]) rfl (.done ?_)
  simp (maxSteps:=9^6) -dsimp only [go_sem,cC]
  exact hK
 have hx':((bD (bl x)).err != 0)=false:=by rw [hx]; rfl
 rw [hx',aF] at hK
 have ht:=AT hx
 simp (maxSteps:=9^6) -dsimp only [go_sem,hx']
 generalize (bD (bl x)).toks=ts at *
 have hle:=ht.e.le
 refine aU rfl (.done ?_)
 simp (maxSteps:=9^6) -dsimp only [go_sem,BR]
 refine eC (z:=⟨false,0,0⟩) ht ht.e.pos ?_
 rw [show bl (mk [118,101,114,115,105,111,110])=tF from rfl,show xS 1 tF ts ⟨false,0,0⟩=rN ts from AX (by decide) ht ht.e.pos]
 simp (maxSteps:=9^6) -dsimp only [go_sem]
 refine aU rfl (.done ?_)
 have hA:=AE ht
 simp (maxSteps:=9^6) -dsimp only [go_sem,CJ]
 refine lS ht hA ?_
 have e1:=oS ht hA
 rw [e1.1]
 simp (maxSteps:=9^6) -dsimp only [go_sem,cQ,e1.2]
 refine RI [(2,.va (.c1 (.pt 0 0))),(8,.va (.c1 (.pt 1 0))),(9,.va (.c1 (.pt 2 0)))] ?_ (X3 ht _ fun z es ss h1 h2 h3 h4=>?_)
 · simp -dsimp only [go_sem]<;>simp
 have hP:=NG ht
 have hof:Of z:=by
  have:Of (QM ts).2:=JQ _ _ _ _ (iP (AS (F6 (by show (0:Int)<=0; decide))))
  rw [<-h4] at this; exact this
 rw [<-h4] at hP
 obtain ⟨e2,e1⟩:=hP
 have e2:z=(lU ts).2:=e2
 have e1:z.bad=false->(es,ss)=(lU ts).1:=fun h=>e1 (by rw [<-e2]; exact h)
 have hS:z.bad=false->mN ts=⟨eQ false ts (rN ts),es,ss.map (jM (es.map En.nm))⟩:=fun h=>by
  unfold mN
  rw [<-e1 h]; rfl
 have hPr:=BI ht (ts.length + 1) [] [] (pL ts) (FT ht) (fun x hx=>by cases hx) fun x hx=>by cases hx
 have h6:=NY (ts:=ts) (ts.length + 1) [] [] (pL ts) fun t ht=>by cases ht
 refine aIO ht h1 (by omega) (by omega) (fun hb=>⟨fun t htm=>?_,?_⟩) fun r hr=>?_
 · have hm:t ∈ (lU ts).1.2:=by rw [<-e1 hb]; exact htm
   have hst:=hPr.1.2 t hm
   exact ⟨by have:=hst.l; omega,fun f hfm=>⟨h6 t hm f hfm,(hst.f f hfm).t.ok.1⟩⟩
 · rw [<-hS hb]; exact (WC ht).fit
 · rw [<-e2] at hK
   have er:r=(bif z.bad then (sc0,2,z.off) else bif cG (mN ts) != 0 then (sc0,cG (mN ts),0) else (mN ts,0,0)):=by
    rw [hr]
    cases hb:z.bad with
    | true=>
     have:((z.off.toNat:Nat):Int)=z.off:=by unfold Of at hof; omega
     rw [aK,aK,this]
    | false=>rw [hS hb]; rfl
   rw [er]
   exact hK
end Go.Proofs.YtgogpogophflhaaGreatDoor
namespace Go.Proofs.YtgogpogophflhaaGreatDoor
open Go.W
theorem EN {ts:List Tk} {n:Nat} {o:Int} {R:List mK} {t:Ty} {g:List UInt8} (hp:kO t ≠ []) (h:(ts.map cK).drop n=cW (m6 t g) ++ R):aN 1 cL ts ⟨false,o,n⟩=false:=by
 obtain ⟨he,hk⟩:=sG hp
 obtain ⟨k,s,nm,e⟩:=t
 unfold m6 at h
 cases hk with
 | b h1 h2 h3=>
  obtain rfl:k=1:=h1
  have h:(ts.map cK).drop n=(1,gD,0) :: R:=h
  rw [aM h]; rfl
 | u h1 h2 h3=>
  obtain rfl:k=3:=h1
  have h:(ts.map cK).drop n=(1,wUint ++ bU s,0) :: R:=h
  rw [aM h,beq_self_eq_true,Bool.true_and]; rfl
 | i h1 h2 h3=>
  obtain rfl:k=2:=h1
  have h:(ts.map cK).drop n=(1,wInt ++ bU s,0) :: R:=h
  rw [aM h,beq_self_eq_true,Bool.true_and]; rfl
 | x h1 h2 h3=>
  obtain rfl:k=4:=h1
  have h:(ts.map cK).drop n=(1,wText,0) :: dE 91 :: (2,[],s) :: dE 93 :: R:=h
  rw [aM h]; rfl
 | n h1 h2 h3 h4=>
  have h1:k=6\/k=7:=h1
  have h4:jY (bl nm)=true:=h4
  have h:(ts.map cK).drop n=(1,bl nm,0) :: R:=by rcases h1 with rfl | rfl<;>exact h
  rw [aM h,PV (w:=cL) h4 rfl (by decide)]; rfl
theorem aJC {ts:List Tk} {n:Nat} {o:Int} {R:List mK} (h:(ts.map cK).drop n=(1,rI,0) :: R) (hR:R ≠ []):kE ts ⟨false,o,n⟩=⟨false,o,n + 1⟩:=by
 unfold kE
 rw [aM h,beq_self_eq_true,beq_self_eq_true,(mS h hR).2]; rfl
theorem OR {f:Nat} {t:Ty} {g:List UInt8} {R:List mK} (hR:R ≠ []):cW (eH f t g) ++ R ≠ []:=by
 intro h
 exact hR (List.append_eq_nil_iff.1 h).2
theorem aH2 {ts:List Tk} {o:Int} {R:List mK} (hR:R ≠ []):∀ (f:Nat) (t:Ty) (g:List UInt8) (n:Nat) (d:List Int) (F:Nat),dX f t ≠ []->(ts.map cK).drop n=cW (eH f t g) ++ R->n<=ts.length->ts.length < n + F->
 ∃ ds leaf g' m,lQ ts F d ⟨false,o,n⟩=(d ++ ds,⟨false,o,m⟩)/\kO leaf ≠ []/\(ts.map cK).drop m=cW (m6 leaf g') ++ R/\uQ t=b8 ds (uQ leaf)/\ds.length<=f:=fun f=>by
 induction f with
 | zero=>
  intro t g n d F hx h hn hF
  obtain ⟨F,rfl⟩:∃ G,F=G + 1:=⟨F - 1,by omega⟩
  cases hk:t.k == 5
  · rw [kT hk] at hx
    refine ⟨[],t,g,n,?_,hx,h,rfl,Nat.le_refl _⟩
    rw [j6,EN hx h,List.append_nil]; rfl
  · rw [zO hk] at hx; exact absurd rfl hx
 | succ f ih=>
  intro t g n d F hx h hn hF
  obtain ⟨F,rfl⟩:∃ G,F=G + 1:=⟨F - 1,by omega⟩
  cases hk:t.k == 5
  · rw [kT hk] at hx
    rw [eH,hk,aF] at h
    refine ⟨[],t,g,n,?_,hx,h,rfl,Nat.zero_le _⟩
    rw [j6,EN hx h,List.append_nil]; rfl
  · rw [lN hk] at hx
    cases c:decide (t.s < 0) || !(bl t.n == []) || (t.e.length:Int) != 1 with
    | true=>rw [c] at hx; exact absurd rfl hx
    | false=>
     rw [c,aF] at hx
     cases q:dX f (t.e.headD default) == [] with
     | true=>rw [q] at hx; exact absurd rfl hx
     | false=>
      rw [eH,hk,aK] at h
      simp only [Bool.or_eq_false_iff,bne_eq_false_iff_eq,decide_eq_false_iff_not,Bool.not_eq_false'] at c
      obtain ⟨⟨c1,c2⟩,c3⟩:=c
      obtain ⟨k,s,nm,e⟩:=t
      obtain rfl:k=5:=eq_of_beq hk
      obtain rfl:nm=mk []:=zK (eq_of_beq c2)
      have c3:(e.length:Int)=1:=c3
      obtain ⟨u,rfl⟩:∃ u,e=[u]:=by
       match e,c3 with
       | [u],_=>exact ⟨u,rfl⟩
       | [],h=>simp at h
       | _ :: _ :: _,h=>simp at h; omega
      have q:(dX f u == [])=false:=q
      have h:(ts.map cK).drop n=(1,cL,0) :: dE 91 :: (2,[],s) :: dE 93 :: (1,rI,0) :: (cW (eH f u [32]) ++ R):=h
      have c1:0<=s:=by have:¬ s < 0:=c1; omega
      have h1:=(bN h).2.2.2.2
      have h4:(ts.map cK).drop (n + 1 + 3)=(1,rI,0) :: (cW (eH f u [32]) ++ R):=by
       have:=(bN (bN (bN h1).2.2.2.2).2.2.2.2).2.2.2.2
       exact this
      have h5:=(bN h4).2.2.2.2
      obtain ⟨ds,leaf,g',m,k1,k2,k3,k4,k5⟩:=ih u [32] (n + 1 + 3 + 1) (d ++ [s]) F (fun e=>by rw [e] at q; cases q) h5 (by have:=(bN h4).1; omega) (by omega)
      refine ⟨s :: ds,leaf,g',m,?_,k2,k3,?_,by simp; omega⟩
      · rw [j6,aM h,beq_self_eq_true,beq_self_eq_true,fL h (by simp),(AA h1 (by simp) c1).1,(AA h1 (by simp) c1).2,aJC h4 (OR hR)]
        show lQ ts F (d ++ [s]) ⟨false,o,n + 1 + 3 + 1⟩=_
        rw [k1,List.append_assoc]; rfl
      · show Ty.mk 5 s (mk []) [uQ u]=Ty.mk 5 s (mk []) [b8 ds (uQ leaf)]
        rw [k4]
theorem YY {x e:List UInt8} (hx:j0 x) (he:j0 e):j0 (x ++ e):=fun c hc=>by
 cases x with
 | nil=>exact he c hc
 | cons a x=>exact hx c (by simpa using hc)
theorem DX {l e:List UInt8} (he:tL e) (hse:j0 e):∀ (us:gZ) (f a:Nat),cX us->a<=l.length->l.length < f + a->l.drop a=b6 us ++ e->
 ∃ ms,eV f l a=.ok ms/\ms.map cK=us.map (fun u=>GC u.2) ++ [(0,[],0)]
 | [],f,a,_,hle,hlt,h=>by
  have h:l.drop a=e:=h
  have hlen:=congrArg List.length h
  rw [List.length_drop] at hlen
  obtain ⟨f,rfl⟩:∃ g,f=g + 1:=⟨f - 1,by omega⟩
  have hsk:b7 l a=l.length:=by
   have:=he []
   rw [List.append_nil,show dB false []=0 from rfl] at this
   unfold b7
   rw [h,this]; omega
  have hn:l[l.length]? = none:=List.getElem?_eq_none (Nat.le_refl _)
  exact ⟨[⟨0,[],0,l.length⟩],by rw [eV,hsk]; simp [dH,hn],rfl⟩
 | (g,u) :: us,f,a,⟨hg,hf,ho,hs,hok⟩,hle,hlt,h=>by
  have h':l.drop a=g ++ (kB u ++ (b6 us ++ e)):=by rw [h,b6]; simp [List.append_assoc]
  have h1:l.drop (a + g.length)=kB u ++ (b6 us ++ e):=by rw [<-List.drop_drop,h',List.drop_left]
  obtain ⟨ht,hk,c,hc,hb,hh⟩:=LN hf ho h1 fun q=>YY (hs q) hse
  have hlc:=(bC.1 hc).1
  obtain ⟨f,rfl⟩:∃ g,f=g + 1:=⟨f - 1,by omega⟩
  have hsk:b7 l a=a + g.length:=by
   have e:=BF hc hb hh
   unfold b7 at e ⊢
   rw [h',hg,<-h1]
   omega
  have h2:l.drop (a + g.length + (kB u).length)=b6 us ++ e:=by rw [<-List.drop_drop,h1,List.drop_left]
  have hlen:a + g.length + (kB u).length<=l.length:=by
   have:=congrArg List.length h1
   rw [List.length_drop,List.length_append] at this
   omega
  have hne:0 < (kB u).length:=by
   rcases Nat.eq_zero_or_pos (kB u).length with h0 | h0
   · have e0:kB u=[]:=List.eq_nil_of_length_eq_zero h0
     obtain ⟨_,_,c,hc,_⟩:=LN (l:=kB u) (a:=0) (rest:=[]) hf ho (by simp) (fun _ c hc=>by cases hc)
     rw [e0] at hc; cases hc
   · exact h0
  obtain ⟨ms,hm,hmm⟩:=DX he hse us f (a + g.length + (kB u).length) hok hlen (by omega) h2
  have hk0:(u.k == 0)=false:=by simpa using hk
  refine ⟨⟨u.k,u.x,u.n,a + g.length⟩ :: ms,?_,by simp [hmm]⟩
  rw [eV,hsk,ht]
  simp only [hk0,aF,hm,SR.cons]
theorem QE {us:gZ} {e:List UInt8} (he:tL e) (hse:j0 e) (hok:cX us) (hl:(b6 us ++ e).length<=4000):(bD (b6 us ++ e)).err=0/\(bD (b6 us ++ e)).toks.map cK=us.map (fun u=>GC u.2) ++ [(0,[],0)]:=by
 obtain ⟨ms,h1,h2⟩:=DX (l:=b6 us ++ e) he hse us ((b6 us ++ e).length + 1) 0 hok (Nat.zero_le _) (by omega) rfl
 have h4:decide (4000 < (b6 us ++ e).length)=false:=by simp only [decide_eq_false_iff_not]; omega
 unfold bD
 rw [h4,aF,h1]
 exact ⟨rfl,h2⟩
def cV:Bool->List ByteArray->List Int->gZ
 | c,n :: ns,v :: vs=>(bif c then [([],dV 44)] else []) ++ (([32],fD (bl n)) :: ([32],dV 61) :: ([32],nH v) :: cV true ns vs)
 | _,_,_=>[]
theorem uV (c:Bool) (n:ByteArray) (ns:List ByteArray) (v:Int) (vs:List Int):cV c (n :: ns) (v :: vs)=(bif c then [([],dV 44)] else []) ++ (([32],fD (bl n)) :: ([32],dV 61) :: ([32],nH v) :: cV true ns vs):=rfl
def fY (e:En):gZ:=([10],fD dA) :: ([32],fD (bl e.nm)) :: ([32],dV 123) :: (cV false e.ns e.vs ++ [([32],dV 125)])
def dI (f:Fl):gZ:=([10,32,32],nH f.num) :: ([32],fD (bl f.nm)) :: ([],dV 58) :: (eH 6 f.ty [32] ++ ((bif f.opt then [([],dV 63)] else []) ++ [([],dV 59)]))
def gE (t:St):gZ:=([10],fD dM) :: ([32],fD (bl t.nm)) :: ([32],dV 123) :: (t.fs.flatMap dI ++ [([10],dV 125)])
def M2 (s:Sc):gZ:=([],fD tF) :: ([32],nH s.ver) :: ([],dV 59) :: (s.es.flatMap fY ++ s.ss.flatMap gE)
theorem PR:∀ (ns:List ByteArray) (vs:List Int) (k:Nat),b6 (cV true ns vs)=tR (k + 1) ns vs
 | n :: ns,v :: vs,k=>by
  rw [uV,yG,decide_eq_true (show (0:Int) < ((k + 1:Nat):Int) by omega),aK,aK,kC]
  simp [b6,dV,fD,nH,kB,jQ,PR ns vs (k + 1)]
 | [],_,_=>by unfold cV tR; rfl
 | _ :: _,[],_=>by unfold cV tR; rfl
theorem aBT (n:ByteArray) (ns:List ByteArray) (v:Int) (vs:List Int):b6 (cV false (n :: ns) (v :: vs))=32 :: tR 0 (n :: ns) (v :: vs):=by
 rw [uV,yG,decide_eq_false (show ¬ (0:Int) < ((0:Nat):Int) by omega),aF,aF,List.nil_append,List.nil_append]
 simp [b6,dV,fD,nH,kB,jQ,PR ns vs 0]
theorem aAV {e:En} (h:EnG e):b6 (fY e) ++ [10]=10 :: zS e:=by
 obtain ⟨nm,ns,vs⟩:=e
 have hp:0 < ns.length:=h.p
 have hl:ns.length=vs.length:=h.l
 match ns,vs,hp,hl with
 | n :: ns,v :: vs,_,_=>
  unfold fY zS
  simp only [b6,kC,aBT]
  simp [dV,fD,kB,jQ,dA,wEnumB]
theorem aAB {f:Fl} (h:dX 6 f.ty ≠ []):b6 (dI f) ++ [10]=10 :: rQ f:=by
 unfold dI rQ
 simp only [b6,kC,JT 6 f.ty [32] h]
 cases f.opt<;>simp [b6,dV,fD,nH,kB,jQ]
theorem zT {α:Type} {F:α->gZ} {G:α->List UInt8}:∀ l:List α,(∀ x ∈ l,b6 (F x) ++ [10]=10 :: G x)->b6 (l.flatMap F) ++ [10]=10 :: l.flatMap G
 | [],_=>rfl
 | x :: l,h=>by
  have ih:=zT l fun y hy=>h y (List.mem_cons_of_mem _ hy)
  rw [List.flatMap_cons,List.flatMap_cons,kC,List.append_assoc,ih]
  have:=h x (List.mem_cons_self ..)
  rw [show b6 (F x) ++ 10 :: l.flatMap G=(b6 (F x) ++ [10]) ++ l.flatMap G by simp,this]; rfl
theorem aD3 {t:St} (h:∀ f ∈ t.fs,dX 6 f.ty ≠ []):b6 (gE t) ++ [10]=10 :: rY t:=by
 have h1:=zT (F:=dI) (G:=rQ) t.fs fun f hf=>aAB (h f hf)
 unfold gE rY
 simp only [b6,kC]
 rw [show [10] ++ (kB (dV 125) ++ [])=[10] ++ [125] from rfl]
 rw [<-List.append_assoc (b6 (t.fs.flatMap dI)),h1]
 simp [dV,fD,kB,jQ,dM,wStB]
theorem aF5 {s:Sc} (g:ScG s) (h0:cG s=0) (h:∀ t ∈ s.ss,∀ f ∈ t.fs,dX 6 f.ty ≠ []):b6 (M2 s) ++ [10]=j8 s:=by
 have h1:=zT (F:=fY) (G:=zS) s.es fun e he=>aAV (g.a e he)
 have h2:=zT (F:=gE) (G:=rY) s.ss fun t ht=>aD3 (h t ht)
 unfold M2 j8
 simp only [b6,kC,h0,bne_self_eq_false,aF]
 simp only [List.append_assoc]
 rw [h2,show b6 (s.es.flatMap fY) ++ 10 :: s.ss.flatMap rY=(b6 (s.es.flatMap fY) ++ [10]) ++ s.ss.flatMap rY by simp,h1]
 simp [dV,fD,nH,kB,jQ,tF,wVerB]
theorem zV:tL [10]:=fun rest=>by
 show dB false (10 :: rest)=1 + dB false rest
 rw [Nat.add_comm]
 simp [dB]
theorem aAA:tL [10,32,32]:=fun rest=>by
 show dB false (10 :: 32 :: 32 :: rest)=3 + dB false rest
 simp [dB]
 omega
theorem BQ {c:UInt8} {r:gZ} (h1:a8 c=false) (h2:(c == 45)=false):j0 (b6 (([],dV c) :: r)):=mZ h1 h2
theorem mE {t:Tx} {r:gZ} {g:List UInt8}:j0 (b6 ((32 :: g,t) :: r)):=mZ (by decide) (by decide)
theorem LH {r:gZ} (hr:cX r) (hs:j0 (b6 r)):∀ (ns:List ByteArray) (vs:List Int) (c:Bool),(∀ n ∈ ns,bX (bl n)=true)->(∀ v ∈ vs,0<=v/\v<=127)->cX (cV c ns vs ++ r)/\j0 (b6 (cV c ns vs ++ r))
 | n :: ns,v :: vs,c,h1,h2=>by
  have ih:=LH hr hs ns vs true (fun m hm=>h1 m (List.mem_cons_of_mem _ hm)) fun m hm=>h2 m (List.mem_cons_of_mem _ hm)
  have hv:=h2 v (List.mem_cons_self ..)
  have hb:cX (([32],fD (bl n)) :: ([32],dV 61) :: ([32],nH v) :: (cV true ns vs ++ r)):=eW i6 (h1 n (List.mem_cons_self ..)) (fA i6 (by decide) (rH i6 ⟨by omega,by omega⟩ ih.1 ih.2)) mE
  rw [uV]
  cases c
  · exact ⟨hb,mE⟩
  · exact ⟨fA iF (by decide) hb,BQ (by decide) (by decide)⟩
 | [],_,_,_,_=>by unfold cV; exact ⟨hr,hs⟩
 | _ :: _,[],_,_,_=>by unfold cV; exact ⟨hr,hs⟩
theorem YE {e:En} {r:gZ} (g:EnG e) (hr:cX r):cX (fY e ++ r):=by
 have h1:cX (([32],dV 125) :: r):=fA i6 (by decide) hr
 have h2:=(LH h1 mE e.ns e.vs false g.a g.b).1
 have h3:cX (([10],fD dA) :: ([32],fD (bl e.nm)) :: ([32],dV 123) :: (cV false e.ns e.vs ++ ([32],dV 125) :: r)):=eW zV (by kernel_rfl) (eW i6 (uP g.n) (fA i6 (by decide) h2) mE) mE
 unfold fY
 simpa using h3
theorem YL {f:Fl} {r:gZ} (h1:1<=f.num/\f.num<=127) (h2:bX (bl f.nm)=true) (h3:dX 6 f.ty ≠ []) (h4:TyOk f.ty) (hr:cX r):cX (dI f ++ r):=by
 have h5:cX ((bif f.opt then [([],dV 63)] else []) ++ ([],dV 59) :: r)/\j0 (b6 ((bif f.opt then [([],dV 63)] else []) ++ ([],dV 59) :: r)):=by
  have h6:cX (([],dV 59) :: r):=fA iF (by decide) hr
  cases f.opt
  · exact ⟨h6,BQ (by decide) (by decide)⟩
  · exact ⟨fA iF (by decide) h6,BQ (by decide) (by decide)⟩
 have h7:=LZ 6 f.ty [32] _ h3 h4 i6 h5.1 h5.2
 have h8:cX (([10,32,32],nH f.num) :: ([32],fD (bl f.nm)) :: ([],dV 58) :: (eH 6 f.ty [32] ++ ((bif f.opt then [([],dV 63)] else []) ++ ([],dV 59) :: r))):=rH aAA ⟨by omega,by omega⟩ (eW i6 h2 (fA iF (by decide) h7) (BQ (by decide) (by decide))) mE
 unfold dI
 simpa using h8
theorem wL {α:Type} {F:α->gZ} {r:gZ} (hr:cX r):∀ l:List α,(∀ x ∈ l,∀ r,cX r->cX (F x ++ r))->cX (l.flatMap F ++ r)
 | [],_=>hr
 | x :: l,h=>by
  rw [List.flatMap_cons,List.append_assoc]
  exact h x (List.mem_cons_self ..) _ (wL hr l fun y hy=>h y (List.mem_cons_of_mem _ hy))
structure TyG (t:Ty):Prop where
 x:dX 6 t ≠ []
 o:TyOk t
theorem YQ {ss:List St} {es:List En} {t:St} {r:gZ} (g:StG ss es t) (h:∀ f ∈ t.fs,TyG f.ty) (hr:cX r):cX (gE t ++ r):=by
 have h1:cX (([10],dV 125) :: r):=fA zV (by decide) hr
 have h2:=wL (F:=dI) h1 t.fs fun f hf r hr=>YL (g.f f hf).1 (g.f f hf).2.1 (h f hf).x (h f hf).o hr
 have h3:cX (([10],fD dM) :: ([32],fD (bl t.nm)) :: ([32],dV 123) :: (t.fs.flatMap dI ++ ([10],dV 125) :: r)):=eW zV (by kernel_rfl) (eW i6 (uP g.n) (fA i6 (by decide) h2) mE) mE
 unfold gE
 simpa using h3
theorem ZQ {s:Sc} (g:ScG s) (h:∀ t ∈ s.ss,∀ f ∈ t.fs,TyG f.ty):cX (M2 s):=by
 have h1:=wL (F:=gE) (r:=[]) trivial s.ss fun t ht r hr=>YQ (g.b t ht) (h t ht) hr
 rw [List.append_nil] at h1
 have h2:=wL (F:=fY) h1 s.es fun e he r hr=>YE (g.a e he) hr
 exact eW iF (by kernel_rfl) (rH i6 ⟨by have:=g.v; omega,by have:=g.v; omega⟩ (fA iF (by decide) h2) (BQ (by decide) (by decide))) mE
theorem XN (l:gZ):(cW l).length=l.length:=List.length_map ..
section
variable {ts:List Tk} {n:Nat} {o:Int} {R:List mK}
theorem VD {x:List UInt8} (h:(ts.map cK).drop n=(1,x,0) :: R) (hR:R ≠ []):cB false ts ⟨false,o,n⟩=mk x/\bJ false ts ⟨false,o,n⟩=⟨false,o,n + 1⟩:=by
 obtain ⟨_,h1,h2,_,_⟩:=bN h
 have e:fO false ts ⟨false,o,n⟩=true:=by
  unfold fO
  simp only [h1,beq_self_eq_true,Bool.not_false,Bool.true_or,Bool.true_and]
 unfold cB bJ
 rw [e]
 exact ⟨by simp only [aK,h2],by simp only [aK,(mS h hR).2]⟩
theorem aDB {t:Ty} {g:List UInt8} (hx:dX 6 t ≠ []) (h:(ts.map cK).drop n=cW (eH 6 t g) ++ R) (hR:R ≠ []):mO ts ⟨false,o,n⟩=(uQ t,⟨false,o,n + (eH 6 t g).length⟩):=by
 have hn:n<=ts.length:=by
  rcases bL ts.length n with h1 | h1
  · rw [List.drop_eq_nil_iff.2 (by rw [List.length_map]; omega)] at h
    exact absurd h.symm (OR hR)
  · exact h1
 obtain ⟨ds,leaf,g',m,k1,k2,k3,k4,k5⟩:=aH2 (o:=o) hR 6 t g n [] (ts.length + 1) hx h hn (by omega)
 unfold mO
 rw [k1]
 simp only [List.nil_append]
 rw [aFD k2 k3 hR,<-k4]
 have l1:=congrArg List.length h
 have l2:=congrArg List.length k3
 simp only [List.length_drop,List.length_map,List.length_append,XN] at l1 l2
 have hp:0 < R.length:=List.length_pos_iff.2 hR
 rw [show m + (m6 leaf g').length=n + (eH 6 t g).length by omega]
end
theorem aMG (n0:ByteArray) (ns:List ByteArray) (v:Int) (vs:List Int):cW (cV false (n0 :: ns) (v :: vs))=(1,bl n0,0) :: dE 61 :: (2,[],v) :: cW (cV true ns vs):=rfl
theorem aNK (n0:ByteArray) (ns:List ByteArray) (v:Int) (vs:List Int):cW (cV true (n0 :: ns) (v :: vs))=dE 44 :: cW (cV false (n0 :: ns) (v :: vs)):=rfl
theorem aMO (n0:ByteArray) (ns:List ByteArray) (v:Int) (vs:List Int):(cV false (n0 :: ns) (v :: vs)).length=(cV true ns vs).length + 3:=rfl
theorem aMF (n0:ByteArray) (ns:List ByteArray) (v:Int) (vs:List Int):(cV true (n0 :: ns) (v :: vs)).length=(cV false (n0 :: ns) (v :: vs)).length + 1:=rfl
theorem aK7 (c:Bool) (vs:List Int):cV c [] vs=[]:=by unfold cV; rfl
theorem RB {ts:List Tk} {o:Int} {R:List mK}:∀ (ns:List ByteArray) (vs:List Int) (a:List ByteArray) (b:List Int) (n F:Nat),ns ≠ []->ns.length=vs.length->(ts.map cK).drop n=cW (cV false ns vs) ++ dE 125 :: R->ts.length < n + F->
 mL ts F a b ⟨false,o,n⟩=((a ++ ns,b ++ vs),⟨false,o,n + (cV false ns vs).length⟩)
 | n0 :: ns,v :: vs,a,b,n,F,_,hl,h,hF=>by
  rw [aMG] at h
  have h:(ts.map cK).drop n=(1,bl n0,0) :: dE 61 :: (2,[],v) :: (cW (cV true ns vs) ++ dE 125 :: R):=h
  have h0:=(bN h).1
  obtain ⟨F,rfl⟩:∃ G,F=G + 1:=⟨F - 1,by omega⟩
  have h1:=(bN h).2.2.2.2
  have h2:=(bN h1).2.2.2.2
  have h3:=(bN h2).2.2.2.2
  have e1:=VD (o:=o) h (by simp)
  have e2:=jU (o:=o) h1 (by simp)
  have e3:=A6 (c:=false) (o:=o) h2 (by simp) fun h=>by cases h
  have eR:iY ts ⟨false,o,n⟩=⟨false,o,n + 1 + 1 + 1⟩:=by unfold iY; rw [e1.2,e2,e3.2]
  rw [mU,eR,e1.1,e1.2,e2,e3.1,aMO]
  show (bif aN 4 [44] ts ⟨false,o,n + 1 + 1 + 1⟩ then _ else _)=_
  match ns,vs,hl with
  | [],[],_=>
   rw [aK7] at h3 ⊢
   have h3:(ts.map cK).drop (n + 1 + 1 + 1)=dE 125 :: R:=h3
   rw [aM h3]
   rfl
  | n1 :: ns,w :: vs,hl=>
   rw [aNK] at h3
   have h3:(ts.map cK).drop (n + 1 + 1 + 1)=dE 44 :: (cW (cV false (n1 :: ns) (w :: vs)) ++ dE 125 :: R):=h3
   have h4:=(bN h3).2.2.2.2
   rw [aM h3,fL h3 (by simp)]
   show mL ts F (a ++ [mk (bl n0)]) (b ++ [v]) ⟨false,o,n + 1 + 1 + 1 + 1⟩=_
   rw [RB (n1 :: ns) (w :: vs) (a ++ [mk (bl n0)]) (b ++ [v]) (n + 1 + 1 + 1 + 1) F (by simp) (by simpa using hl) h4 (by omega),aMF,List.append_assoc,List.append_assoc]
   rw [show n + 1 + 1 + 1 + 1 + (cV false (n1 :: ns) (w :: vs)).length=n + ((cV false (n1 :: ns) (w :: vs)).length + 1 + 3) by omega]
   rfl
theorem JY {x:List UInt8} (h:fN x=true):jY x=true:=by
 unfold fN at h
 rw [Bool.and_eq_true] at h
 cases x with
 | nil=>exact absurd h.2 (by simp)
 | cons c r=>
  have h2:(decide (65<=(c.toNat:Int)) && decide ((c.toNat:Int)<=90))=true:=h.2
  rw [Bool.and_eq_true,decide_eq_true_eq,decide_eq_true_eq] at h2
  show (decide (65<=c) && decide (c<=90))=true
  rw [Bool.and_eq_true,decide_eq_true_eq,decide_eq_true_eq,UInt8.le_iff_toNat_le,UInt8.le_iff_toNat_le]
  have e1:(65:UInt8).toNat=65:=rfl
  have e2:(90:UInt8).toNat=90:=rfl
  omega
section
variable {ts:List Tk} {n:Nat} {o:Int} {R:List mK}
theorem aJF {e:En} (g:EnG e) (h:(ts.map cK).drop n=(1,bl e.nm,0) :: dE 123 :: (cW (cV false e.ns e.vs) ++ dE 125 :: R)) (hR:R ≠ []):gJ ts ⟨false,o,n⟩=(e,⟨false,o,n + ((cV false e.ns e.vs).length + 3)⟩):=by
 have h1:=(bN h).2.2.2.2
 have h2:=(bN h1).2.2.2.2
 have e1:=wP (o:=o) h (by simp) (JY g.n)
 have e2:=jU (o:=o) h1 (by simp)
 have e3:=RB (o:=o) e.ns e.vs [] [] (n + 1 + 1) (ts.length + 1) (List.length_pos_iff.1 g.p) g.l h2 (by omega)
 have h3:=pF h2
 rw [show (cW (cV false e.ns e.vs)).length=(cV false e.ns e.vs).length from List.length_map ..] at h3
 have e4:=jU (o:=o) h3 hR
 unfold gJ
 rw [e1.1,e1.2,e2,e3,e4]
 rw [show n + 1 + 1 + (cV false e.ns e.vs).length + 1=n + ((cV false e.ns e.vs).length + 3) by omega]
 rfl
def x3 (f:Fl):Fl:=⟨f.num,f.nm,uQ f.ty,f.opt⟩
theorem PL (f:Fl):cW (dI f)=(2,[],f.num) :: (1,bl f.nm,0) :: dE 58 :: (cW (eH 6 f.ty [32]) ++ ((bif f.opt then [dE 63] else []) ++ [dE 59])):=by
 unfold dI
 cases f.opt<;>simp [cW,GC,nH,fD,dV]
theorem aG8 {f:Fl} (hx:dX 6 f.ty ≠ []) (h:(ts.map cK).drop n=cW (dI f) ++ R) (hR:R ≠ []):jD ts ⟨false,o,n⟩=(x3 f,⟨false,o,n + (dI f).length⟩):=by
 have hl:(dI f).length=(eH 6 f.ty [32]).length + (bif f.opt then 5 else 4):=by
  unfold dI
  cases f.opt<;>simp<;>omega
 rw [PL] at h
 have h:(ts.map cK).drop n=(2,[],f.num) :: (1,bl f.nm,0) :: dE 58 :: (cW (eH 6 f.ty [32]) ++ ((bif f.opt then [dE 63] else []) ++ (dE 59 :: R))):=by rw [h]; simp
 have h1:=(bN h).2.2.2.2
 have h2:=(bN h1).2.2.2.2
 have h3:=(bN h2).2.2.2.2
 have e1:=A6 (c:=false) (o:=o) h (by simp) fun h=>by cases h
 have e2:=VD (o:=o) h1 (by simp)
 have e3:=jU (o:=o) h2 (by simp)
 have eA:n6 ts ⟨false,o,n⟩=⟨false,o,n + 1 + 1 + 1⟩:=by unfold n6; rw [e1.2,e2.2,e3]
 have hb:mk (bl f.nm)=f.nm:=rfl
 have e4:=aDB (o:=o) hx h3 (by simp)
 have h4:=pF h3
 rw [show (cW (eH 6 f.ty [32])).length=(eH 6 f.ty [32]).length from List.length_map ..] at h4
 have eB:vG ts ⟨false,o,n⟩=⟨false,o,n + 1 + 1 + 1 + (eH 6 f.ty [32]).length⟩:=by unfold vG; rw [eA,e4]
 unfold jD x3
 rw [eA,eB,e4,e1.1,e1.2,e2.1,hl,hb]
 cases ho:f.opt with
 | true=>
  rw [ho] at h4
  have h4:(ts.map cK).drop (n + 1 + 1 + 1 + (eH 6 f.ty [32]).length)=dE 63 :: dE 59 :: R:=h4
  rw [aM h4,fL h4 (by simp),jU (bN h4).2.2.2.2 hR]
  rw [show n + 1 + 1 + 1 + (eH 6 f.ty [32]).length + 1 + 1=n + ((eH 6 f.ty [32]).length + (bif true then 5 else 4)) by simp only [aK]; omega]
  rfl
 | false=>
  rw [ho] at h4
  have h4:(ts.map cK).drop (n + 1 + 1 + 1 + (eH 6 f.ty [32]).length)=dE 59 :: R:=h4
  have hno:aN 4 [63] ts ⟨false,o,n + 1 + 1 + 1 + (eH 6 f.ty [32]).length⟩=false:=by rw [aM h4]; rfl
  rw [hno,fM hno,jU h4 hR]
  rw [show n + 1 + 1 + 1 + (eH 6 f.ty [32]).length + 1=n + ((eH 6 f.ty [32]).length + (bif false then 5 else 4)) by simp only [aF]; omega]
end
theorem PT {ts:List Tk} {o:Int} {R:List mK} (hR:R ≠ []):∀ (fs l:List Fl) (n F:Nat),(∀ f ∈ fs,dX 6 f.ty ≠ [])->(ts.map cK).drop n=cW (fs.flatMap dI) ++ dE 125 :: R->ts.length < n + F->
 lW ts F l ⟨false,o,n⟩=(l ++ fs.map x3,⟨false,o,n + ((fs.flatMap dI).length + 1)⟩)
 | [],l,n,F,_,h,hF=>by
  have h:(ts.map cK).drop n=dE 125 :: R:=h
  have h0:=(bN h).1
  obtain ⟨F,rfl⟩:∃ G,F=G + 1:=⟨F - 1,by omega⟩
  rw [j9,aM h,fL h hR,List.map_nil,List.append_nil]
  rfl
 | f :: fs,l,n,F,hx,h,hF=>by
  rw [List.flatMap_cons,CQ,List.append_assoc] at h
  have h':=h
  rw [PL] at h'
  have h':(ts.map cK).drop n=(2,[],f.num) :: _:=h'
  have h0:=(bN h').1
  have hk:((aT ts n).k != 2)=false:=by rw [(bN h').2.1]; rfl
  obtain ⟨F,rfl⟩:∃ G,F=G + 1:=⟨F - 1,by omega⟩
  have h1:=pF h
  rw [show (cW (dI f)).length=(dI f).length from List.length_map ..] at h1
  have hp:0 < (dI f).length:=by unfold dI; simp
  rw [j9,aM h',aG8 (hx f (List.mem_cons_self ..)) h (by simp)]
  show (bif (aT ts n).k != 2 then _ else lW ts F (l ++ [x3 f]) ⟨false,o,n + (dI f).length⟩)=_
  rw [hk,aF,PT hR fs (l ++ [x3 f]) (n + (dI f).length) F (fun g hg=>hx g (List.mem_cons_of_mem _ hg)) h1 (by omega),List.append_assoc,List.flatMap_cons,List.length_append]
  rw [show n + (dI f).length + ((fs.flatMap dI).length + 1)=n + ((dI f).length + (fs.flatMap dI).length + 1) by omega]
  rfl
def KG (t:St):St:=⟨t.nm,t.fs.map x3⟩
theorem aH9 {ts:List Tk} {n:Nat} {o:Int} {R:List mK} {t:St} (hn:fN (bl t.nm)=true) (hx:∀ f ∈ t.fs,dX 6 f.ty ≠ []) (h:(ts.map cK).drop n=(1,bl t.nm,0) :: dE 123 :: (cW (t.fs.flatMap dI) ++ dE 125 :: R)) (hR:R ≠ []) :
 iB ts ⟨false,o,n⟩=(KG t,⟨false,o,n + ((t.fs.flatMap dI).length + 3)⟩):=by
 have h1:=(bN h).2.2.2.2
 have h2:=(bN h1).2.2.2.2
 have e1:=wP (o:=o) h (by simp) (JY hn)
 have e2:=jU (o:=o) h1 (by simp)
 have e3:=PT (o:=o) hR t.fs [] (n + 1 + 1) (ts.length + 1) hx h2 (by omega)
 unfold iB
 rw [e1.1,e1.2,e2,e3]
 rw [show n + 1 + 1 + ((t.fs.flatMap dI).length + 1)=n + ((t.fs.flatMap dI).length + 3) by omega]
 rfl
theorem ZT (e:En):cW (fY e)=(1,dA,0) :: (1,bl e.nm,0) :: dE 123 :: (cW (cV false e.ns e.vs) ++ [dE 125]):=by
 unfold fY
 simp [cW,GC,fD,dV]
theorem aDD (t:St):cW (gE t)=(1,dM,0) :: (1,bl t.nm,0) :: dE 123 :: (cW (t.fs.flatMap dI) ++ [dE 125]):=by
 unfold gE
 simp [cW,GC,fD,dV]
theorem HS (e:En):(fY e).length=(cV false e.ns e.vs).length + 4:=by unfold fY; simp
theorem GL (t:St):(gE t).length=(t.fs.flatMap dI).length + 4:=by unfold gE; simp
theorem O5 {ts:List Tk} {o:Int} {R:List mK} (hR:R ≠ []):∀ (es a:List En) (b:List St) (n F:Nat),(∀ e ∈ es,EnG e)->(ts.map cK).drop n=cW (es.flatMap fY) ++ R->ts.length < n + F->
 ∃ F',j4 ts F a b ⟨false,o,n⟩=j4 ts F' (a ++ es) b ⟨false,o,n + (es.flatMap fY).length⟩/\ts.length < n + (es.flatMap fY).length + F'
 | [],a,b,n,F,_,_,hF=>⟨F,by rw [List.append_nil]; rfl,by simpa using hF⟩
 | e :: es,a,b,n,F,hg,h,hF=>by
  rw [List.flatMap_cons,CQ,List.append_assoc,ZT] at h
  have h:(ts.map cK).drop n=(1,dA,0) :: (1,bl e.nm,0) :: dE 123 :: (cW (cV false e.ns e.vs) ++ dE 125 :: (cW (es.flatMap fY) ++ R)):=by rw [h]; simp
  have h0:=(bN h).1
  obtain ⟨F,rfl⟩:∃ G,F=G + 1:=⟨F - 1,by omega⟩
  have hk:((aT ts n).k == 0)=false:=by rw [(bN h).2.1]; rfl
  have hne:cW (es.flatMap fY) ++ R ≠ []:=fun q=>hR (List.append_eq_nil_iff.1 q).2
  have h1:=(bN h).2.2.2.2
  have e1:=aJF (o:=o) (hg e (List.mem_cons_self ..)) h1 hne
  have h2:=(bN (bN h1).2.2.2.2).2.2.2.2
  have h3:=(bN (pF h2)).2.2.2.2
  rw [show (cW (cV false e.ns e.vs)).length=(cV false e.ns e.vs).length from List.length_map ..,show n + 1 + 1 + 1 + (cV false e.ns e.vs).length + 1=n + (fY e).length by rw [HS]; omega] at h3
  obtain ⟨F',k1,k2⟩:=O5 hR es (a ++ [e]) b (n + (fY e).length) F (fun x hx=>hg x (List.mem_cons_of_mem _ hx)) h3 (by rw [HS]; omega)
  refine ⟨F',?_,?_⟩
  · rw [kF,aM h,fL h (by simp),e1,hk,beq_self_eq_true,beq_self_eq_true]
    show j4 ts F (a ++ [e]) b ⟨false,o,n + 1 + ((cV false e.ns e.vs).length + 3)⟩=_
    rw [show n + 1 + ((cV false e.ns e.vs).length + 3)=n + (fY e).length by rw [HS]; omega,k1,List.append_assoc,List.flatMap_cons,List.length_append,Nat.add_assoc]
    rfl
  · rw [List.flatMap_cons,List.length_append]; omega
theorem PX {ts:List Tk} {o:Int} {R:List mK} (hR:R ≠ []):∀ (ss:List St) (a:List En) (b:List St) (n F:Nat),(∀ t ∈ ss,fN (bl t.nm)=true/\∀ f ∈ t.fs,dX 6 f.ty ≠ [])->(ts.map cK).drop n=cW (ss.flatMap gE) ++ R->ts.length < n + F->
 ∃ F',j4 ts F a b ⟨false,o,n⟩=j4 ts F' a (b ++ ss.map KG) ⟨false,o,n + (ss.flatMap gE).length⟩/\ts.length < n + (ss.flatMap gE).length + F'
 | [],a,b,n,F,_,_,hF=>⟨F,by rw [List.map_nil,List.append_nil]; rfl,by simpa using hF⟩
 | t :: ss,a,b,n,F,hg,h,hF=>by
  rw [List.flatMap_cons,CQ,List.append_assoc,aDD] at h
  have h:(ts.map cK).drop n=(1,dM,0) :: (1,bl t.nm,0) :: dE 123 :: (cW (t.fs.flatMap dI) ++ dE 125 :: (cW (ss.flatMap gE) ++ R)):=by rw [h]; simp
  have h0:=(bN h).1
  obtain ⟨F,rfl⟩:∃ G,F=G + 1:=⟨F - 1,by omega⟩
  have hk:((aT ts n).k == 0)=false:=by rw [(bN h).2.1]; rfl
  have hne:cW (ss.flatMap gE) ++ R ≠ []:=fun q=>hR (List.append_eq_nil_iff.1 q).2
  have h1:=(bN h).2.2.2.2
  obtain ⟨g1,g2⟩:=hg t (List.mem_cons_self ..)
  have e1:=aH9 (o:=o) g1 g2 h1 hne
  have h2:=(bN (bN h1).2.2.2.2).2.2.2.2
  have h3:=(bN (pF h2)).2.2.2.2
  rw [show (cW (t.fs.flatMap dI)).length=(t.fs.flatMap dI).length from List.length_map ..,show n + 1 + 1 + 1 + (t.fs.flatMap dI).length + 1=n + (gE t).length by rw [GL]; omega] at h3
  obtain ⟨F',k1,k2⟩:=PX hR ss a (b ++ [KG t]) (n + (gE t).length) F (fun x hx=>hg x (List.mem_cons_of_mem _ hx)) h3 (by rw [GL]; omega)
  have hno:aN 1 dA ts ⟨false,o,n⟩=false:=by rw [aM h]; rfl
  refine ⟨F',?_,?_⟩
  · rw [kF,hno,aM h,fL h (by simp),e1,hk,beq_self_eq_true,beq_self_eq_true]
    show j4 ts F a (b ++ [KG t]) ⟨false,o,n + 1 + ((t.fs.flatMap dI).length + 3)⟩=_
    rw [show n + 1 + ((t.fs.flatMap dI).length + 3)=n + (gE t).length by rw [GL]; omega,k1,List.append_assoc,List.flatMap_cons,List.length_append,Nat.add_assoc]
    rfl
  · rw [List.flatMap_cons,List.length_append]; omega
theorem P7 {ss:List St} {es:List En} (hap:∀ n,fF ss n=true->dT es n=false):∀ (N:Nat) (t:Ty),t.h<=N->valF ss es t=true->gS (es.map En.nm) (uQ t)=t
 | 0,t,h,_=>absurd h (by have:=t.h_pos; omega)
 | N + 1,.mk k s n e,h,hv=>by
  have hin:∀ n,mV (es.map En.nm) n=dT es n:=fun n=>by
   unfold mV dT; rw [List.any_map]; rfl
  cases k5:k == 5 with
  | true=>
   obtain rfl:k=5:=by simpa using k5
   obtain ⟨u,rfl,hu⟩:=tC hv
   have ih:=P7 hap N u (by rw [Ty.h,Ty.hs,Ty.hs] at h; omega) hu
   show gS _ (.mk 5 s n [uQ u])=_
   rw [gS,C6,C6,ih]; rfl
  | false=>
   rw [valF] at hv
   have e0:∀ {q:Bool},(q && (e.length:Int) == 0)=true->e=[]:=fun h=>by
    rw [Bool.and_eq_true,beq_iff_eq] at h
    exact List.eq_nil_of_length_eq_zero (by omega)
   cases k1:k == 1 with
   | true=>
    rw [k1,aK] at hv
    obtain rfl:=e0 hv
    obtain rfl:k=1:=by simpa using k1
    rfl
   | false=>
   rw [k1,aF] at hv
   cases k2:k == 2 with
   | true=>
    rw [k2,aK] at hv
    obtain rfl:=e0 hv
    obtain rfl:k=2:=by simpa using k2
    rfl
   | false=>
   rw [k2,aF] at hv
   cases k3:k == 3 with
   | true=>
    rw [k3,aK] at hv
    obtain rfl:=e0 hv
    obtain rfl:k=3:=by simpa using k3
    rfl
   | false=>
   rw [k3,aF] at hv
   cases k4:k == 4 with
   | true=>
    rw [k4,aK] at hv
    obtain rfl:=e0 hv
    obtain rfl:k=4:=by simpa using k4
    rfl
   | false=>
   rw [k4,aF,k5,aF] at hv
   cases k6:k == 6 with
   | true=>
    rw [k6,aK] at hv
    obtain rfl:=e0 hv
    obtain rfl:k=6:=by simpa using k6
    rw [Bool.and_eq_true,Bool.and_eq_true] at hv
    show gS _ (.mk 6 s n [])=_
    rw [gS,hin,hap n hv.1.1]; rfl
   | false=>
   rw [k6,aF] at hv
   cases k7:k == 7 with
   | true=>
    rw [k7,aK] at hv
    obtain rfl:=e0 hv
    obtain rfl:k=7:=by simpa using k7
    rw [Bool.and_eq_true,Bool.and_eq_true] at hv
    show gS _ (.mk 6 s n [])=_
    rw [gS,hin,hv.1.1]; rfl
   | false=>rw [k7] at hv; cases hv
theorem QV {ss:List St} {es:List En} (hs:∀ n,fF ss n=true->fN (bl n)=true) (he:∀ n,dT es n=true->fN (bl n)=true):∀ (f:Nat) (t:Ty),valF ss es t=true->(cH t).1<=f->dX f t ≠ []
 | f,.mk k s n e,hv,hl=>by
  have e0:∀ {q:Bool},(q && (e.length:Int) == 0)=true->e=[]/\q=true:=fun h=>by
   rw [Bool.and_eq_true,beq_iff_eq] at h
   exact ⟨List.eq_nil_of_length_eq_zero (by omega),h.1⟩
  cases k5:k == 5 with
  | true=>
   obtain rfl:k=5:=by simpa using k5
   obtain ⟨u,rfl,hu⟩:=tC hv
   have hl:(cH u).1 + 1<=f:=by rw [cH] at hl; exact hl
   match f,hl with
   | f + 1,hl=>
   have ih:=QV hs he f u hu (by omega)
   rw [valF] at hv
   simp only [show ((5:Int) == 1)=false from rfl,show ((5:Int) == 2)=false from rfl,show ((5:Int) == 3)=false from rfl,show ((5:Int) == 4)=false from rfl,show ((5:Int) == 5)=true from rfl,aK,aF,Bool.and_eq_true,decide_eq_true_eq] at hv
   have q1:(decide (s < 0) || !(bl n == []) || (([u]:List Ty).length:Int) != 1)=false:=by
    rw [hv.1.2,decide_eq_false (show ¬ s < 0 by omega)]; rfl
   have q2:(dX f u == [])=false:=beq_eq_false_iff_ne.2 ih
   intro h
   rw [lN (by rfl)] at h
   have h:(bif (decide (s < 0) || !(bl n == []) || (([u]:List Ty).length:Int) != 1) then [] else bif dX f u == [] then [] else tZ s ++ dX f u)=[]:=h
   rw [q1,q2] at h
   simp [tZ] at h
  | false=>
   rw [kT (t:=.mk k s n e) k5]
   rw [valF] at hv
   unfold kO LJ HG
   cases k1:k == 1 with
   | true=>
    rw [k1,aK] at hv
    obtain ⟨rfl,q⟩:=e0 hv
    obtain rfl:k=1:=by simpa using k1
    show (bif s == 0 && bl n == [] then gD else []) ≠ []
    rw [q]; simp [gD]
   | false=>
   rw [k1,aF] at hv
   cases k2:k == 2 with
   | true=>
    rw [k2,aK] at hv
    obtain ⟨rfl,q⟩:=e0 hv
    obtain rfl:k=2:=by simpa using k2
    rw [Bool.and_eq_true] at q
    show (bif bl n == [] && (s == 8 || s == 16 || s == 32 || (s == 64 && true)) then wInt ++ bU s else []) ≠ []
    rw [q.2,Bool.and_true,q.1]; simp [wInt]
   | false=>
   rw [k2,aF] at hv
   cases k3:k == 3 with
   | true=>
    rw [k3,aK] at hv
    obtain ⟨rfl,q⟩:=e0 hv
    obtain rfl:k=3:=by simpa using k3
    rw [Bool.and_eq_true] at q
    show (bif bl n == [] && (s == 8 || s == 16 || s == 32 || (s == 64 && false)) then wUint ++ bU s else []) ≠ []
    rw [q.2,q.1]; simp [wUint]
   | false=>
   rw [k3,aF] at hv
   cases k4:k == 4 with
   | true=>
    rw [k4,aK] at hv
    obtain ⟨rfl,q⟩:=e0 hv
    obtain rfl:k=4:=by simpa using k4
    rw [Bool.and_eq_true,Bool.and_eq_true,decide_eq_true_eq] at q
    show (bif decide (0<=s) && bl n == [] then wText ++ [91] ++ bU s ++ [93] else []) ≠ []
    rw [q.2,decide_eq_true (show 0<=s by omega)]; simp [wText]
   | false=>
   rw [k4,aF,k5,aF] at hv
   have nm:fN (bl n)=true->(bif (0:Int) == 0 && bX (bl n) && jY (bl n) then bl n else []) ≠ []:=fun h=>by
    have h1:=uP h
    rw [h1,JY h]
    intro q
    rw [show bl n=[] from q] at h1; cases h1
   cases k6:k == 6 with
   | true=>
    rw [k6,aK] at hv
    obtain ⟨rfl,q⟩:=e0 hv
    obtain rfl:k=6:=by simpa using k6
    rw [Bool.and_eq_true,beq_iff_eq] at q
    obtain ⟨q,rfl⟩:=q
    exact nm (hs n q)
   | false=>
   rw [k6,aF] at hv
   cases k7:k == 7 with
   | true=>
    rw [k7,aK] at hv
    obtain ⟨rfl,q⟩:=e0 hv
    obtain rfl:k=7:=by simpa using k7
    rw [Bool.and_eq_true,beq_iff_eq] at q
    obtain ⟨q,rfl⟩:=q
    exact nm (he n q)
   | false=>rw [k7] at hv; cases hv
structure Bk (s:Sc):Prop where
 g:ScG s
 x:∀ t ∈ s.ss,∀ f ∈ t.fs,TyG f.ty
 r:s.ss.map (fun t=>jM (s.es.map En.nm) (KG t))=s.ss
theorem aIL {s:Sc} (hf:s.fit) (h:cG s=0):Bk s:=by
 have g:=KP hf h
 obtain ⟨gd,ha,h2,h3,h4,_,_,h7⟩:=zJ hf h
 have hS:∀ n,fF s.ss n=true->fN (bl n)=true/\dT s.es n=false:=fun n hn=>by
  unfold fF at hn
  rw [List.any_eq_true] at hn
  obtain ⟨t,ht,q⟩:=hn
  obtain rfl:t.nm=n:=of_decide_eq_true q
  obtain ⟨i,hi⟩:=List.mem_iff_getElem?.1 ht
  have:=CK (BV hi (oU h3 i (bC.1 hi).1)).1
  exact ⟨this.1,this.2.1⟩
 have hE:∀ n,dT s.es n=true->fN (bl n)=true:=fun n hn=>by
  unfold dT at hn
  rw [List.any_eq_true] at hn
  obtain ⟨e,he,q⟩:=hn
  obtain rfl:e.nm=n:=of_decide_eq_true q
  exact (g.a e he).n
 refine ⟨g,fun t ht f hm=>⟨QV (fun n hn=>(hS n hn).1) hE 6 f.ty (gd.val t ht f hm) ?_,((hf.ok.ss t ht).fs f hm).ty⟩,?_⟩
 · have q1:=FE gd ha (gd.nd t ht)
   have q2:=L5 (dp:=dD s.ss) hm
   have q3:=h7 t ht
   have q4:((cH f.ty).1:Int)<=cR (dD s.ss) f.ty:=by
    unfold cR
    have:=FV s.ss (cH f.ty).2.n
    cases (cH f.ty).2.k == 6
    · simp only [aF]; omega
    · simp only [aK]; omega
   omega
 · rw [List.map_congr_left (g:=id) fun t ht=>?_,List.map_id]
   obtain ⟨nm,fs⟩:=t
   show (⟨nm,(fs.map x3).map (iU (s.es.map En.nm))⟩:St)=⟨nm,fs⟩
   rw [List.map_map,List.map_congr_left (g:=id) fun f hm=>?_,List.map_id]
   obtain ⟨a,b,c,d⟩:=f
   show (⟨a,b,gS (s.es.map En.nm) (uQ c),d⟩:Fl)=⟨a,b,c,d⟩
   rw [P7 (fun n hn=>(hS n hn).2) c.h c (Nat.le_refl _) (gd.val _ ht _ hm)]
theorem YA {s:Sc} (hf:s.fit) (h:cG s=0) (hl:(j8 s).length<=4000):mM (j8 s)=(s,0,0):=by
 have k:=aIL hf h
 have hs:=aF5 k.g h fun t ht f hf=>(k.x t ht f hf).x
 rw [<-hs] at hl
 obtain ⟨e1,e2⟩:=QE zV (mZ (by decide) (by decide)) (ZQ k.g k.x) hl
 rw [hs] at e1 e2
 have hT:=AT e1
 unfold mM
 rw [e1]
 show (bif (lU (bD (j8 s)).toks).2.bad then _ else _)=_
 generalize (bD (j8 s)).toks=ts at *
 have h0:(ts.map cK).drop 0=(1,tF,0) :: (2,[],s.ver) :: dE 59 :: (cW (s.es.flatMap fY) ++ (cW (s.ss.flatMap gE) ++ [(0,[],0)])):=by
  show ts.map cK=_
  rw [e2]
  unfold M2
  simp [cW,GC,fD,nH,dV]
 have h1:=(bN h0).2.2.2.2
 have h2:=(bN h1).2.2.2.2
 have h3:=(bN h2).2.2.2.2
 have a1:rN ts=⟨false,0,1⟩:=by
  unfold rN fH
  rw [aM h0,beq_self_eq_true,beq_self_eq_true,(mS h0 (by simp)).2]; rfl
 have a2:=A6 (c:=false) (o:=0) h1 (by simp) fun h=>by cases h
 have a3:=jU (o:=0) h2 (by simp)
 have a4:V3 ts=s.ver:=by unfold V3; rw [a1]; exact a2.1
 have a5:pL ts=⟨false,0,3⟩:=by unfold pL; rw [a1]; exact (congrArg _ a2.2).trans a3
 obtain ⟨F1,b1,b2⟩:=O5 (o:=0) (R:=cW (s.ss.flatMap gE) ++ [(0,[],0)]) (by simp) s.es [] [] (0 + 1 + 1 + 1) (ts.length + 1) k.g.a h3 (by omega)
 have h4:=pF h3
 rw [show (cW (s.es.flatMap fY)).length=(s.es.flatMap fY).length from List.length_map ..] at h4
 obtain ⟨F2,b3,b4⟩:=PX (o:=0) (R:=[(0,[],0)]) (by simp) s.ss ([] ++ s.es) [] _ F1 (fun t ht=>⟨(k.g.b t ht).n,fun f hf=>(k.x t ht f hf).x⟩) h4 b2
 have h5:=pF h4
 rw [show (cW (s.ss.flatMap gE)).length=(s.ss.flatMap gE).length from List.length_map ..] at h5
 have hn:=(bN h5).1
 obtain ⟨F2,rfl⟩:∃ G,F2=G + 1:=⟨F2 - 1,by omega⟩
 have a6:lU ts=((s.es,s.ss.map KG),⟨false,0,0 + 1 + 1 + 1 + (s.es.flatMap fY).length + (s.ss.flatMap gE).length⟩):=by
  unfold lU
  rw [a5]
  refine b1.trans (b3.trans ?_)
  rw [kF,(bN h5).2.1]
  rfl
 have a7:mN ts=s:=by
  unfold mN
  rw [a6,a4]
  simp only [List.map_map]
  have:=k.r
  obtain ⟨v,es,ss⟩:=s
  exact congrArg (Sc.mk v es) this
 rw [a6,a7,h]
 rfl
def txA:List UInt8:=[118,101,114,115,105,111,110,32,50,59,32,115,116,114,117,99,116,32,65,32,123,32,49,32,98,58,32,66,59,32,125,32,101,110,117,109,32,66,32,123,32,99,32,61,32,48,32,125]
def txB:List UInt8:=[118,101,114,115,105,111,110,32,49]
def exA:Sc:=⟨2,[⟨mk [66],[mk [99]],[0]⟩],[⟨mk [65],[⟨1,mk [98],.mk 7 0 (mk [66]) [],false⟩]⟩]⟩
def QH:Ty:=.mk 5 4 (mk []) [.mk 4 16 (mk []) []]
theorem aDP:mM txA=(exA,0,0):=by kernel_rfl
theorem aM5:mM txB=(sc0,2,9):=by kernel_rfl
theorem aKK:dX 6 QH=[108,105,115,116,91,52,93,32,111,102,32,116,101,120,116,91,49,54,93]:=by kernel_rfl
theorem aL3:j8 exA=[118,101,114,115,105,111,110,32,50,59,10,101,110,117,109,32,66,32,123,32,99,32,61,32,48,32,125,10,115,116,114,117,99,116,32,65,32,123,10,32,32,49,32,98,58,32,66,59,10,125,10]:=by kernel_rfl
theorem XC:exA.fit:=by
 have h:=aDP
 have hP:ScP exA:=⟨⟨by decide,by decide⟩,by decide,by decide,fun e he=>by
  rw [List.mem_singleton.1 he]
  exact ⟨by decide,by decide,by decide,fun n hn=>by rw [List.mem_singleton.1 hn]; decide,fun n hn=>by rw [List.mem_singleton.1 hn]; exact ⟨by decide,by decide⟩⟩,fun t ht=>by
  rw [List.mem_singleton.1 ht]
  exact ⟨by decide,by decide,fun f hf=>by
   rw [List.mem_singleton.1 hf]
   exact ⟨⟨by decide,by decide⟩,by decide,⟨[],_,rfl,⟨by decide,by decide⟩,by decide,rfl,by decide,⟨by decide,by decide⟩,by decide,fun s hs=>by cases hs⟩⟩⟩⟩
 exact hP.fit
theorem aEW:TyOk QH:=.mk ⟨by decide,by decide⟩ ⟨by decide,by decide⟩ (by decide) (by decide) fun u hu=>by
 rw [List.mem_singleton.1 hu]
 exact .mk ⟨by decide,by decide⟩ ⟨by decide,by decide⟩ (by decide) (by decide) fun u hu=>by cases hu
theorem vN {x:ByteArray} {r:Sc × Int × Int} {K:S->Hp->Prop} (h:mM (bl x)=r) (hK:K (.tu [.gs (aD r.1),iA .i64 r.2.1,iA .i64 r.2.2]) []):kZ [tS x] [] K:=⟨x,rfl,rfl,by rw [h]; exact hK⟩
noncomputable def WE:dP:=[(12,.s kZ),(16,.f txFn),(10,.f fmFn)]
theorem aCB:sp WE 12=kZ:=rfl
theorem aAH:mH WE 16=some txFn:=rfl
theorem aDI:mH WE 10=some fmFn:=rfl
attribute [local go_sem] aCB aAH aDI
theorem XS:Meets Tryz.prog 11 qTrue.sp:=by
 refine aG (Γ:=WE) Tryz.func11 aNJ 0 (by rw [Tryz.ntmps11]; decide) (aA Q8 (aI QP (aI LP (aB _)))) QD ?_
 rintro av H K ⟨⟨h,rfl⟩,hK⟩
 obtain rfl:av=[]:=h
 have hK:K (bS true) []:=hK
 have fin:∀ R:Hp,W.Fin 0 K (bS true) R:=fun R=>.z ((by simpa [go_sem] using hK))
 clear hK
 simp (maxSteps:=9^6) -dsimp only [go_sem,aDN,aAG]
 refine vN aDP ?_
 simp (maxSteps:=9^6) -dsimp only [go_sem,exA,aD,List.map_cons,List.map_nil]
 refine aU rfl (.done ?_)
 simp (maxSteps:=9^6) -dsimp only [go_sem,FZ]
 refine vN aM5 ?_
 simp (maxSteps:=9^6) -dsimp only [go_sem,sc0,aD,List.map_cons,List.map_nil]
 have g1:((0:Int) != 0)=false:=rfl
 have g2:((2:Int) != 2)=false:=rfl
 have g3:((9:Int) != 9)=false:=rfl
 have g4:((1:Int) != 1)=false:=rfl
 refine cA (up:=[(1,.va (.c1 (.pt 0 0))),(2,iS .i64 0),(5,iS .i64 2),(6,iS .i64 9)]) (Hs:=[.cells [.vl (.int .i64 2),.fz [[.vl (.string (mk [66])),.fz [bQ (mk [99])],.fz [eD 0]]],.fz [[.vl (.string (mk [65])),.fz [[.vl (.int .i64 1),.vl (.string (mk [98])),.vl (.int .i64 7),.vl (.int .i64 0),.vl (.string (mk [66])),.fz [],.vl (.bool false)]]]]] 25]) 1 ?_ ?_ ?_
 · simp (maxSteps:=9^6) -dsimp only [go_sem,IZ,g1,g2,g3,g4,List.length_cons,List.length_nil,Nat.zero_add,Int.ofNat_one,forall_eq']
   refine ⟨by decide,?_⟩
   refine cA (up:=[(1,.va (.c1 (.pt 0 0)))]) (Hs:=[.cells [.vl (.int .i64 2),.fz [[.vl (.string (mk [66])),.fz [bQ (mk [99])],.fz [eD 0]]],.fz [[.vl (.string (mk [65])),.fz [[.vl (.int .i64 1),.vl (.string (mk [98])),.vl (.int .i64 7),.vl (.int .i64 0),.vl (.string (mk [66])),.fz [],.vl (.bool false)]]]]] 25]) 1 ?_ ?_ ?_
   · simp (maxSteps:=9^6) -dsimp only [go_sem,IJ]
     refine aU rfl (.opn 1 _ _ _ rfl (.nfr 1 _ _ _ rfl (.shu 1 _ _ _ rfl ?_ (.pub 1 _ _ _ rfl (.done ?_)))))
     · simp [C.nf,C.shut]
     have k1:fZ [.vl (.int .i64 5),.vl (.int .i64 4),.vl (.string (mk [])),.fz [[.vl (.int .i64 4),.vl (.int .i64 16),.vl (.string (mk [])),.fz []]]]:=fK (t:=QH) aEW
     have k2:C.ty [.vl (.int .i64 5),.vl (.int .i64 4),.vl (.string (mk [])),.fz [[.vl (.int .i64 4),.vl (.int .i64 16),.vl (.string (mk [])),.fz []]]]=QH:=jS QH
     have k3:k9 [.vl (.int .i64 2),.fz [[.vl (.string (mk [66])),.fz [bQ (mk [99])],.fz [eD 0]]],.fz [[.vl (.string (mk [65])),.fz [[.vl (.int .i64 1),.vl (.string (mk [98])),.vl (.int .i64 7),.vl (.int .i64 0),.vl (.string (mk [66])),.fz [],.vl (.bool false)]]]]]:=iT (s:=exA) XC
     have k4:C.sc [.vl (.int .i64 2),.fz [[.vl (.string (mk [66])),.fz [bQ (mk [99])],.fz [eD 0]]],.fz [[.vl (.string (mk [65])),.fz [[.vl (.int .i64 1),.vl (.string (mk [98])),.vl (.int .i64 7),.vl (.int .i64 0),.vl (.string (mk [66])),.fz [],.vl (.bool false)]]]]]=exA:=f6 exA
     have e7:((7:Int) == 7)=true:=rfl
     simp (maxSteps:=9^6) -dsimp only [go_sem,cC,C.nf,C.pub,IT,forall_eq',k1,k2,k3,k4,e7,aKK,aL3,Bool.true_and,beq_self_eq_true]
     exact ⟨by decide,by decide,fin _⟩
   · simp -dsimp only [go_sem]<;>simp
   · simp -dsimp only [go_sem]<;>simp
 · simp -dsimp only [go_sem]<;>simp
 · simp -dsimp only [go_sem]<;>simp [aO,aL,bH]
   exact ⟨rfl,rfl,rfl,rfl⟩
theorem IW:∀ N,Meets Tryz.prog 19 (OB N).sp
 | 0=>⟨by kernel_rfl,by rintro xs vs E ro w K _ _ _ ⟨⟨h,_⟩,_⟩; obtain ⟨a,_,_,_,_,h⟩:=oI h; have:=a.h_pos; omega⟩
 | N + 1=>by
  refine aG Tryz.func19 aKG 2 (by rw [Tryz.ntmps19]; decide) (aI (IW N) (aB _)) SP ?_
  rintro av H K ⟨⟨h,rfl⟩,hK⟩
  obtain ⟨a,b,rfl,ha,hb,hh⟩:=oI h
  have hK:K (bS (tN a b)) []:=by
   have:(OB (N + 1)).val [.va (.gs (aP a)),.va (.gs (aP b))]=bA (tN a b):=by simp -dsimp only [go_sem]
   rw [this] at hK; exact hK
  clear h
  have fin:∀ (x:Bool) (R:Hp),tN a b=x->W.Fin 0 K (bS x) R:=fun x R h=>by
   rw [h] at hK
   exact .z ((by simpa [go_sem] using hK))
  obtain ⟨k,s,n,e⟩:=a
  obtain ⟨k',s',n',e'⟩:=b
  have hla:=ha.len
  have hoa:=ha.e
  have hob:=hb.e
  simp only [Ty.e] at hla hoa hob
  simp (maxSteps:=9^6) -dsimp only [go_sem,aP,aZ,aAC,aEA,dO]
  refine ⟨fun h1=>fin false _ (PU fun he=>?_),fun h1=>?_⟩
  · obtain ⟨rfl,rfl,rfl,rfl⟩:=MN.1 he
    simp at h1
  simp only [Bool.or_eq_false_iff,bne_eq_false_iff_eq,Bool.not_eq_false',decide_eq_true_eq] at h1
  obtain ⟨⟨⟨rfl,rfl⟩,rfl⟩,hl⟩:=h1
  have hl:e.length=e'.length:=by omega
  refine aR (α:=Nat) (fun i=>[(2,.va (.c1 (.pt 0 0))),(3,.va (.c1 (.pt 1 0))),(5,iS .i64 i)]) (fun i=>[.cells (aP (.mk k s n e)) 37,.cells (aP (.mk k s n e')) 37])
   (fun i=>i<=e.length/\∀ j,j < i->e[j]? = e'[j]?) (fun i=>e.length - i) 0 2 ⟨Nat.zero_le _,fun j hj=>by omega⟩ ?_ ?_ ?_
  · simp -dsimp only [go_sem]<;>simp
  · simp -dsimp only [go_sem,aP,aZ]<;>simp
  rintro i ⟨hi,ho⟩
  rcases bL i e.length with hlt | hge
  · have hg:decide ((i:Int) < (e.length:Int))=true:=by simp; omega
    obtain ⟨u,hx⟩:∃ t,e[i]? = some t:=⟨_,bB hlt⟩
    obtain ⟨v,hy⟩:∃ t,e'[i]? = some t:=⟨_,bB (by omega)⟩
    have q1:=aQ (row:=aP) hx
    have q2:=aQ (row:=aP) hy
    have hu:fZ (aP u):=fK (hoa u (bW hx))
    have hv:fZ (aP v):=fK (hob v (bW hy))
    have huh:u.h<=N:=by have:=Ty.hs_mem (bW hx); rw [Ty.h] at hh; omega
    simp (maxSteps:=9^6) -dsimp only [go_sem,hg,aP,aZ]
    simp (maxSteps:=9^6) -dsimp only [go_sem,dF,hu,hv,hx,hy,aH,forall_eq']
    refine ⟨by omega,by omega,huh,fun h1=>fin false _ (PU fun he=>?_),fun h1=>?_⟩
    · obtain ⟨_,_,_,rfl⟩:=MN.1 he
      rw [hx] at hy
      rw [PA (bK hy)] at h1
      simp at h1
    · have h1:u=v:=L7.1 (by simpa using h1)
      subst h1
      refine ⟨by omega,aC (i + 1) 2 ⟨by omega,fun j hj=>?_⟩ (by omega) ?_ ?_⟩
      · rcases bL j i with h4 | h4
        · exact ho j h4
        · obtain rfl:j=i:=by omega
          rw [hx,hy]
      · simp -dsimp only [go_sem]<;>simp
      · simp -dsimp only [go_sem,aP,aZ]<;>simp
  · have hg:decide ((i:Int) < (e.length:Int))=false:=by simp; omega
    obtain rfl:i=e.length:=by omega
    simp (maxSteps:=9^6) -dsimp only [go_sem,hg,aP,aZ]
    refine fin true _ (PA ?_)
    rw [MN]
    refine ⟨rfl,rfl,rfl,List.ext_getElem? fun j=>?_⟩
    rcases bL j e.length with h4 | h4
    · exact ho j h4
    · rw [List.getElem?_eq_none h4,List.getElem?_eq_none (by omega)]
theorem ZH:Meets Tryz.prog 19 sFn.sp:=iJ 0 IW fun av H K ⟨⟨h,e⟩,hK⟩=>by
 obtain ⟨a,b,rfl,ha,hb⟩:=D1 h
 exact ⟨a.h,⟨⟨⟨fK ha,fK hb,by rw [jS]; exact Nat.le_refl _⟩,e⟩,hK⟩⟩
theorem M1:Meets Tryz.prog 42 seFn.sp:=by
 refine aG Tryz.func42 aM7 2 (by rw [Tryz.ntmps42]; decide) (aB _) yA ?_
 rintro av H K ⟨⟨h,rfl⟩,hK⟩
 obtain ⟨_,_,rfl,⟨a,rfl,ha⟩,⟨b,rfl,hb⟩⟩:=lV h
 have hK:K (bS (eqB a b)) []:=by
  have:seFn.val [.va (.gs (aO a)),.va (.gs (aO b))]=bA (eqB a b):=by simp -dsimp only [go_sem]
  rw [this] at hK; exact hK
 clear h
 have fin:∀ (x:Bool) (R:Hp),eqB a b=x->W.Fin 0 K (bS x) R:=fun x R h=>by
  rw [h] at hK
  exact .z ((by simpa [go_sem] using hK))
 obtain ⟨n,e,d⟩:=a
 obtain ⟨n',e',d'⟩:=b
 obtain ⟨_,hla,hla2,_,_⟩:=ha
 simp only at hla hla2
 simp (maxSteps:=9^6) -dsimp only [go_sem,aO,aFN,Z1,dO]
 refine ⟨fun h1=>fin false _ (nZ fun he=>?_),fun h1=>?_⟩
 · obtain ⟨rfl,rfl,rfl⟩:n=n'/\e=e'/\d=d':=by simpa using he
   simp at h1
 simp only [Bool.or_eq_false_iff,bne_eq_false_iff_eq,Bool.not_eq_false',decide_eq_true_eq] at h1
 obtain ⟨⟨rfl,hl⟩,hl2⟩:=h1
 have hl:e.length=e'.length:=by omega
 have hl2:d.length=d'.length:=by omega
 refine aR (α:=Nat) (fun i=>[(2,.va (.c1 (.pt 0 0))),(3,.va (.c1 (.pt 1 0))),(5,iS .i64 i)]) (fun i=>[.cells (aO ⟨n,e,d⟩) 62,.cells (aO ⟨n,e',d'⟩) 62])
  (fun i=>i<=e.length/\∀ j,j < i->e[j]? = e'[j]?) (fun i=>e.length - i) 0 2 ⟨Nat.zero_le _,fun j hj=>by omega⟩ ?_ ?_ ?_
 · simp -dsimp only [go_sem]<;>simp
 · simp -dsimp only [go_sem,aO]<;>simp
 rintro i ⟨hi,ho⟩
 rcases bL i e.length with hlt | hge
 · have hg:decide ((i:Int) < (e.length:Int))=true:=by simp; omega
   obtain ⟨u,hx⟩:∃ t,e[i]? = some t:=⟨_,bB hlt⟩
   obtain ⟨v,hy⟩:∃ t,e'[i]? = some t:=⟨_,bB (by omega)⟩
   have q1:=aQ (row:=bQ) hx
   have q2:=aQ (row:=bQ) hy
   simp (maxSteps:=9^6) -dsimp only [go_sem,hg,aO]
   simp (maxSteps:=9^6) -dsimp only [go_sem,dO,hx,hy,aH,forall_eq']
   refine ⟨by omega,by omega,fun h1=>fin false _ (nZ fun he=>?_),fun h1=>?_⟩
   · obtain ⟨rfl,rfl⟩:e=e'/\d=d':=by simpa using he
     rw [hx] at hy
     obtain rfl:=bK hy
     simp at h1
   · have h1:u=v:=by simpa using h1
     subst h1
     refine ⟨by omega,aC (i + 1) 2 ⟨by omega,fun j hj=>?_⟩ (by omega) ?_ ?_⟩
     · rcases bL j i with h4 | h4
       · exact ho j h4
       · obtain rfl:j=i:=by omega
         rw [hx,hy]
     · simp -dsimp only [go_sem]<;>simp
     · simp -dsimp only [go_sem,aO]<;>simp
 · have hg:decide ((i:Int) < (e.length:Int))=false:=by simp; omega
   obtain rfl:i=e.length:=by omega
   obtain rfl:=kU hl ho
   simp (maxSteps:=9^6) -dsimp only [go_sem,hg,aO]
   refine aR (α:=Nat) (fun i=>[(2,.va (.c1 (.pt 0 0))),(3,.va (.c1 (.pt 1 0))),(6,iS .i64 i)]) (fun i=>[.cells (aO ⟨n,e,d⟩) 62,.cells (aO ⟨n,e,d'⟩) 62])
    (fun i=>i<=d.length/\∀ j,j < i->d[j]? = d'[j]?) (fun i=>d.length - i) 0 2 ⟨Nat.zero_le _,fun j hj=>by omega⟩ ?_ ?_ ?_
   · simp -dsimp only [go_sem]<;>simp
   · simp -dsimp only [go_sem,aO]<;>simp
   clear ho hi hg hge
   rintro i ⟨hi,ho⟩
   rcases bL i d.length with hlt | hge
   · have hg:decide ((i:Int) < (d.length:Int))=true:=by simp; omega
     obtain ⟨u,hx⟩:∃ t,d[i]? = some t:=⟨_,bB hlt⟩
     obtain ⟨v,hy⟩:∃ t,d'[i]? = some t:=⟨_,bB (by omega)⟩
     have q1:=aQ (row:=eD) hx
     have q2:=aQ (row:=eD) hy
     simp (maxSteps:=9^6) -dsimp only [go_sem,hg,aO]
     simp (maxSteps:=9^6) -dsimp only [go_sem,hx,hy,aH,forall_eq']
     refine ⟨by omega,by omega,fun h1=>fin false _ (nZ fun he=>?_),fun h1=>?_⟩
     · obtain rfl:d=d':=by simpa using he
       rw [hx] at hy
       obtain rfl:=bK hy
       simp at h1
     · have h1:u=v:=by simpa using h1
       subst h1
       refine ⟨by omega,aC (i + 1) 2 ⟨by omega,fun j hj=>?_⟩ (by omega) ?_ ?_⟩
       · rcases bL j i with h4 | h4
         · exact ho j h4
         · obtain rfl:j=i:=by omega
           rw [hx,hy]
       · simp -dsimp only [go_sem]<;>simp
       · simp -dsimp only [go_sem,aO]<;>simp
   · have hg:decide ((i:Int) < (d.length:Int))=false:=by simp; omega
     obtain rfl:i=d.length:=by omega
     simp (maxSteps:=9^6) -dsimp only [go_sem,hg,aO]
     exact fin true _ (pY (by rw [kU hl2 ho]))
theorem GS:Meets Tryz.prog 43 ssFn.sp:=by
 refine aG Tryz.func43 aN2 2 (by rw [Tryz.ntmps43]; decide) (aI ZH (aB _)) yA ?_
 rintro av H K ⟨⟨h,rfl⟩,hK⟩
 obtain ⟨_,_,rfl,⟨a,rfl,ha⟩,⟨b,rfl,hb⟩⟩:=lV h
 have hK:K (bS (eqB a b)) []:=by
  have:ssFn.val [.va (.gs (aL a)),.va (.gs (aL b))]=bA (eqB a b):=by simp -dsimp only [go_sem]
  rw [this] at hK; exact hK
 clear h
 have fin:∀ (x:Bool) (R:Hp),eqB a b=x->W.Fin 0 K (bS x) R:=fun x R h=>by
  rw [h] at hK
  exact .z ((by simpa [go_sem] using hK))
 obtain ⟨n,e⟩:=a
 obtain ⟨n',e'⟩:=b
 obtain ⟨_,hla,hoa⟩:=ha
 obtain ⟨_,hlb,hob⟩:=hb
 simp only at hla hlb hoa hob
 simp (maxSteps:=9^6) -dsimp only [go_sem,aL,aCW,aC6,dO]
 refine ⟨fun h1=>fin false _ (nZ fun he=>?_),fun h1=>?_⟩
 · obtain ⟨rfl,rfl⟩:n=n'/\e=e':=by simpa using he
   simp at h1
 simp only [Bool.or_eq_false_iff,bne_eq_false_iff_eq,Bool.not_eq_false',decide_eq_true_eq] at h1
 obtain ⟨rfl,hl⟩:=h1
 have hl:e.length=e'.length:=by omega
 refine aR (α:=Nat) (fun i=>[(2,.va (.c1 (.pt 0 0))),(3,.va (.c1 (.pt 1 0))),(5,iS .i64 i)]) (fun i=>[.cells (aL ⟨n,e⟩) 56,.cells (aL ⟨n,e'⟩) 56])
  (fun i=>i<=e.length/\∀ j,j < i->e[j]? = e'[j]?) (fun i=>e.length - i) 0 2 ⟨Nat.zero_le _,fun j hj=>by omega⟩ ?_ ?_ ?_
 · simp -dsimp only [go_sem]<;>simp
 · simp -dsimp only [go_sem,aL]<;>simp
 rintro i ⟨hi,ho⟩
 rcases bL i e.length with hlt | hge
 · have hg:decide ((i:Int) < (e.length:Int))=true:=by simp; omega
   obtain ⟨u,hx⟩:∃ t,e[i]? = some t:=⟨_,bB hlt⟩
   obtain ⟨v,hy⟩:∃ t,e'[i]? = some t:=⟨_,bB (by omega)⟩
   have q1:=aQ (row:=bH) hx
   have q2:=aQ (row:=bH) hy
   have hu:fZ (aP u.ty):=fK (hoa u (bW hx)).ty
   have hv:fZ (aP v.ty):=fK (hob v (bW hy)).ty
   simp (maxSteps:=9^6) -dsimp only [go_sem,hg,aL,↓q1,↓q2,bH,kM,dO,hu,hv]
   rw [show (u.num != v.num || !decide (u.nm=v.nm) || !(u.opt == v.opt) || !tN u.ty v.ty)=!(eqB u v) by rw [aD5]; simp only [Bool.not_and]; rfl]
   refine ⟨by omega,by omega,by omega,by omega,by omega,by omega,by omega,fun h1=>fin false _ (nZ fun he=>?_),fun h1=>?_⟩
   · obtain rfl:e=e':=by simpa using he
     rw [hx] at hy
     rw [pY (bK hy)] at h1
     simp at h1
   · have h1:u=v:=w7.1 (by simpa using h1)
     subst h1
     refine ⟨by omega,aC (i + 1) 2 ⟨by omega,fun j hj=>?_⟩ (by omega) ?_ ?_⟩
     · rcases bL j i with h4 | h4
       · exact ho j h4
       · obtain rfl:j=i:=by omega
         rw [hx,hy]
     · simp -dsimp only [go_sem]<;>simp
     · simp -dsimp only [go_sem,aL]<;>simp
 · have hg:decide ((i:Int) < (e.length:Int))=false:=by simp; omega
   obtain rfl:i=e.length:=by omega
   simp (maxSteps:=9^6) -dsimp only [go_sem,hg,aL]
   exact fin true _ (pY (by rw [kU hl ho]))
noncomputable def sqFn:Fun:=JN qS C.sc fun a b=>.bool (eqB a b)
attribute [go_sem] sqFn
theorem aA9:Meets Tryz.prog 13 sqFn.sp:=by
 refine aG Tryz.func13 aL6 2 (by rw [Tryz.ntmps13]; decide) (aI M1 (aI GS (aB _))) yA ?_
 rintro av H K ⟨⟨h,rfl⟩,hK⟩
 obtain ⟨_,_,rfl,⟨a,rfl,ha⟩,⟨b,rfl,hb⟩⟩:=lV h
 have hK:K (bS (eqB a b)) []:=by
  have:sqFn.val [.va (.gs (aD a)),.va (.gs (aD b))]=bA (eqB a b):=by simp -dsimp only [go_sem]
  rw [this] at hK; exact hK
 clear h
 have fin:∀ (x:Bool) (R:Hp),eqB a b=x->W.Fin 0 K (bS x) R:=fun x R h=>by
  rw [h] at hK
  exact .z ((by simpa [go_sem] using hK))
 obtain ⟨n,e,d⟩:=a
 obtain ⟨n',e',d'⟩:=b
 obtain ⟨_,hle,hls,hoe,hos⟩:=ha
 obtain ⟨_,hle',hls',hoe',hos'⟩:=hb
 simp only at hle hls hoe hos hle' hls' hoe' hos'
 simp (maxSteps:=9^6) -dsimp only [go_sem,aD,aBN,aAI,dO]
 refine ⟨fun h1=>fin false _ (nZ fun he=>?_),fun h1=>?_⟩
 · obtain ⟨rfl,rfl,rfl⟩:n=n'/\e=e'/\d=d':=by simpa using he
   simp at h1
 simp only [Bool.or_eq_false_iff,bne_eq_false_iff_eq,Bool.not_eq_false',decide_eq_true_eq] at h1
 obtain ⟨⟨rfl,hl⟩,hl2⟩:=h1
 have hl:e.length=e'.length:=by omega
 have hl2:d.length=d'.length:=by omega
 refine aR (α:=Nat) (fun i=>[(2,.va (.c1 (.pt 0 0))),(3,.va (.c1 (.pt 1 0))),(5,iS .i64 i)]) (fun i=>[.cells (aD ⟨n,e,d⟩) 25,.cells (aD ⟨n,e',d'⟩) 25])
  (fun i=>i<=e.length/\∀ j,j < i->e[j]? = e'[j]?) (fun i=>e.length - i) 0 2 ⟨Nat.zero_le _,fun j hj=>by omega⟩ ?_ ?_ ?_
 · simp -dsimp only [go_sem]<;>simp
 · simp -dsimp only [go_sem,aD]<;>simp
 rintro i ⟨hi,ho⟩
 rcases bL i e.length with hlt | hge
 · have hg:decide ((i:Int) < (e.length:Int))=true:=by simp; omega
   obtain ⟨u,hx⟩:∃ t,e[i]? = some t:=⟨_,bB hlt⟩
   obtain ⟨v,hy⟩:∃ t,e'[i]? = some t:=⟨_,bB (by omega)⟩
   have q1:=aQ (row:=aO) hx
   have q2:=aQ (row:=aO) hy
   have hu:yX (aO u):=CO (hoe u (bW hx))
   have hv:yX (aO v):=CO (hoe' v (bW hy))
   have hud:=HM u
   have hvd:=HM v
   simp only [aO] at hu hv hud hvd
   simp (maxSteps:=9^6) -dsimp only [go_sem,hg,aD,↓q1,↓q2]
   simp (maxSteps:=9^6) -dsimp only [go_sem,aO,hu,hv,hud,hvd]
   refine ⟨by omega,by omega,fun h1=>fin false _ (nZ fun he=>?_),fun h1=>?_⟩
   · obtain ⟨rfl,rfl⟩:e=e'/\d=d':=by simpa using he
     rw [hx] at hy
     rw [pY (bK hy)] at h1
     simp at h1
   · have h1:u=v:=w7.1 (by simpa using h1)
     subst h1
     refine ⟨by omega,aC (i + 1) 2 ⟨by omega,fun j hj=>?_⟩ (by omega) ?_ ?_⟩
     · rcases bL j i with h4 | h4
       · exact ho j h4
       · obtain rfl:j=i:=by omega
         rw [hx,hy]
     · simp -dsimp only [go_sem]<;>simp
     · simp -dsimp only [go_sem,aD]<;>simp
 · have hg:decide ((i:Int) < (e.length:Int))=false:=by simp; omega
   obtain rfl:i=e.length:=by omega
   obtain rfl:=kU hl ho
   simp (maxSteps:=9^6) -dsimp only [go_sem,hg,aD]
   refine aR (α:=Nat) (fun i=>[(2,.va (.c1 (.pt 0 0))),(3,.va (.c1 (.pt 1 0))),(6,iS .i64 i)]) (fun i=>[.cells (aD ⟨n,e,d⟩) 25,.cells (aD ⟨n,e,d'⟩) 25])
    (fun i=>i<=d.length/\∀ j,j < i->d[j]? = d'[j]?) (fun i=>d.length - i) 0 2 ⟨Nat.zero_le _,fun j hj=>by omega⟩ ?_ ?_ ?_
   · simp -dsimp only [go_sem]<;>simp
   · simp -dsimp only [go_sem,aD]<;>simp
   clear ho hi hg hge
   rintro i ⟨hi,ho⟩
   rcases bL i d.length with hlt | hge
   · have hg:decide ((i:Int) < (d.length:Int))=true:=by simp; omega
     obtain ⟨u,hx⟩:∃ t,d[i]? = some t:=⟨_,bB hlt⟩
     obtain ⟨v,hy⟩:∃ t,d'[i]? = some t:=⟨_,bB (by omega)⟩
     have q1:=aQ (row:=aL) hx
     have q2:=aQ (row:=aL) hy
     have hu:ON (aL u):=KJ (hos u (bW hx))
     have hv:ON (aL v):=KJ (hos' v (bW hy))
     have hud:=PO u
     have hvd:=PO v
     simp only [aL] at hu hv hud hvd
     simp (maxSteps:=9^6) -dsimp only [go_sem,hg,aD,↓q1,↓q2]
     simp (maxSteps:=9^6) -dsimp only [go_sem,aL,hu,hv,hud,hvd]
     refine ⟨by omega,by omega,fun h1=>fin false _ (nZ fun he=>?_),fun h1=>?_⟩
     · obtain rfl:d=d':=by simpa using he
       rw [hx] at hy
       rw [pY (bK hy)] at h1
       simp at h1
     · have h1:u=v:=w7.1 (by simpa using h1)
       subst h1
       refine ⟨by omega,aC (i + 1) 2 ⟨by omega,fun j hj=>?_⟩ (by omega) ?_ ?_⟩
       · rcases bL j i with h4 | h4
         · exact ho j h4
         · obtain rfl:j=i:=by omega
           rw [hx,hy]
       · simp -dsimp only [go_sem]<;>simp
       · simp -dsimp only [go_sem,aD]<;>simp
   · have hg:decide ((i:Int) < (d.length:Int))=false:=by simp; omega
     obtain rfl:i=d.length:=by omega
     simp (maxSteps:=9^6) -dsimp only [go_sem,hg,aD]
     exact fin true _ (pY (by rw [kU hl2 ho]))
structure PaG (x:List UInt8):Prop where
 f:(mM x).1.fit
 t:(mM x).2.1=0->cG (mM x).1=0
theorem BS:sc0.fit:=by
 refine ScP.fit ⟨⟨by decide,by decide⟩,by decide,by decide,(fun e he=>by cases he),(fun t ht=>by cases ht)⟩
theorem YU (x:List UInt8):PaG x:=by
 by_cases hx:(bD x).err=0
 case neg=>
  have hx':((bD x).err != 0)=true:=bne_iff_ne.2 hx
  have e:mM x=(sc0,(bD x).err,(bD x).off):=by unfold mM; rw [hx']; rfl
  constructor
  · rw [e]; exact BS
  · rw [e]; exact fun h=>absurd h hx
 have ht:=AT hx
 have e:mM x=bif (lU (bD x).toks).2.bad then (sc0,2,(lU (bD x).toks).2.off) else bif cG (mN (bD x).toks) != 0 then (sc0,cG (mN (bD x).toks),0) else (mN (bD x).toks,0,0):=by unfold mM; rw [hx]; rfl
 generalize (bD x).toks=ts at *
 cases hb:(lU ts).2.bad with
 | true=>
  rw [hb,aK] at e
  constructor
  · rw [e]; exact BS
  · rw [e]; exact fun h=>by cases h
 | false=>
 rw [hb,aF] at e
 cases hc:cG (mN ts) != 0 with
 | true=>
  rw [hc,aK] at e
  constructor
  · rw [e]; exact BS
  · rw [e]; exact fun h=>absurd h (bne_iff_ne.1 hc)
 | false=>
  rw [hc,aF] at e
  constructor
  · rw [e]; exact (WC ht).fit
  · rw [e]; exact fun _=>bne_eq_false_iff_eq.1 hc
def FP:List S->Prop:=fun av=>match av with
 | [.va (.c1 (.vl (.string x)))]=>x.size<=9223372036854775807
 | _=>False
theorem zZ {av:List S} (h:FP av):∃ x:ByteArray,av=[tS x]:=by
 unfold FP at h
 split at h
 · exact ⟨_,rfl⟩
 · exact h.elim
def lqFn:Fun:=⟨FP,fun _=>bA true,fun _ _=>trivial⟩
attribute [go_sem] lqFn FP
noncomputable def BT:dP:=[(12,.s kZ),(15,.s kZ),(13,.f sqFn),(10,.f fmFn),(11,.f qTrue)]
theorem aDF:sp BT 12=kZ:=rfl
theorem aE9:sp BT 15=kZ:=rfl
theorem aAO:mH BT 13=some sqFn:=rfl
theorem aCR:mH BT 10=some fmFn:=rfl
theorem aCU:mH BT 11=some qTrue:=rfl
attribute [local go_sem] aDF aE9 aAO aCR aCU
theorem J5:Meets Tryz.prog 5 lqFn.sp:=by
 refine aG (Γ:=BT) Tryz.func5 ok5 1 (by rw [Tryz.ntmps5]; decide) (aA Q8 (aA Y8 (aI aA9 (aI LP (aI XS (aB _)))))) (fun av H K h=>by obtain ⟨_,rfl⟩:=zZ h.1.1; rfl) ?_
 rintro av H K ⟨⟨h,rfl⟩,hK⟩
 obtain ⟨x,rfl⟩:=zZ h
 have hK:K (bS true) []:=hK
 clear h
 have fin:∀ R:Hp,W.Fin 0 K (bS true) R:=fun R=>.z ((by simpa [go_sem] using hK))
 clear hK
 have hG:=YU (bl x)
 generalize hr:mM (bl x)=r
 have hf:=hG.f
 have htx:=hG.t
 rw [hr] at hf htx
 obtain ⟨s,e,a⟩:=r
 simp only at hf htx
 simp (maxSteps:=9^6) -dsimp only [go_sem,pc5,rs5]
 refine vN hr ?_
 simp (maxSteps:=9^6) -dsimp only [go_sem,aD]
 refine aU rfl (.done ?_)
 simp (maxSteps:=9^6) -dsimp only [go_sem,ML]
 refine vN hr ?_
 simp (maxSteps:=9^6) -dsimp only [go_sem,aD]
 refine aU rfl (.done ?_)
 have k1:qS [C.vl (Value.int IntKind.i64 s.ver),C.fz (List.map aO s.es),C.fz (List.map aL s.ss)]:=CC hf.ok
 have k2:C.sc [C.vl (Value.int IntKind.i64 s.ver),C.fz (List.map aO s.es),C.fz (List.map aL s.ss)]=s:=f6 s
 have k3:k9 [C.vl (Value.int IntKind.i64 s.ver),C.fz (List.map aO s.es),C.fz (List.map aL s.ss)]:=iT hf
 have s3:eqB s s=true:=pY rfl
 by_cases he:e=0
 case neg=>
  have he':(e != 0)=true:=bne_iff_ne.2 he
  simp (maxSteps:=9^6) -dsimp only [go_sem,E8,k1,k2,s3,bne_self_eq_false,he']
  refine aU rfl (.done ?_)
  simp (maxSteps:=9^6) -dsimp only [go_sem,N3]
  exact fin _
 have hc:=htx he
 have he':(e != 0)=false:=bne_eq_false_iff_eq.2 he
 simp (maxSteps:=9^6) -dsimp only [go_sem,E8,k1,k2,k3,s3,bne_self_eq_false,he']
 refine aU rfl (.done ?_)
 have hx:(j8 s == [])=false:=by
  unfold j8
  rw [hc]; rfl
 cases hl:decide (4000 < ((j8 s).length:Int)) with
 | true=>
  simp (maxSteps:=9^6) -dsimp only [go_sem,FA,hl]
  exact fin _
 | false=>
 have hp:=YA hf hc (by have:=of_decide_eq_false hl; omega)
 simp (maxSteps:=9^6) -dsimp only [go_sem,FA,hl]
 refine aU rfl (.done ?_)
 simp (maxSteps:=9^6) -dsimp only [go_sem,HZ]
 refine vN hp ?_
 simp (maxSteps:=9^6) -dsimp only [go_sem,aD]
 refine aU rfl (.done ?_)
 have g0:((0:Int) == 0)=true:=rfl
 have hx':(!(j8 s == []))=true:=by rw [hx]; rfl
 simp (maxSteps:=9^6) -dsimp only [go_sem,J0,k1,k2,s3,g0,hx]
 exact fin _
end Go.Proofs.YtgogpogophflhaaGreatDoor
namespace Go.W
open Go.RowKit
def oY (W:World):RO:=⟨fun b off=>W.cell? ⟨b,off,none⟩,fun _=>0⟩
theorem aCD (W:World):∀ (b off:Nat) (v:Value),oY W b off=some v->W.cell? ⟨b,off,none⟩=some v:=fun _ _ _ h=>h
theorem aB4 (ro:RO):FzR ro [] (.slice none 0 0):=
 FzR.mk [] 1 none none (fun h=>absurd rfl h) 0 (fun _=>.bool true) (by simp) (by simp) (by simp) (by simp) (by simp) (by simp) (by simp) (by simp)
def sY (P:Program):Bool:=(List.range P.types.size).all fun t=>match P.underlying t with | some (.slice e)=>decide (0 < P.cellsOf e) | _=>true
section
variable {H:Type} {enc:TypeId × Value->H} {P:Program}
theorem RD {W W':World} (h:Stay W W') {p:MemPlace} (hp:p.block < W.heap.size):W.sameAt W' p:=by
 cases p with
 | cell b off=>exact h.cell (a:=⟨b,off,none⟩) hp
 | map b=>exact h.keep b hp
theorem vD {W W':World} {sp:Nat->Bool} (hl:laidOutB P=true) (hm:mapsRowed P=true) (hs:sY P=true) (hst:Stay W W') :
 ∀ {ts:List TypeId} {vs:List Value} {ds:List (DataW H)} {ps:List MemPlace},(∀ t ∈ ts,t < P.types.size)->DataW.TrodAll enc P W 0 (fun _=>true) true ts vs ds ps->(∀ p ∈ ps,p.block < W.heap.size)->(∀ p ∈ ps,sp p.block=true)->
  DataW.TrodAll enc P W' 0 sp true ts vs ds ps
 | [],[],[],ps,_,h,_,_=>h
 | t :: ts,v :: vs,d :: ds,ps,ht,h,hb,hp=>by
  obtain ⟨p,q,⟨n,h1⟩,h2,rfl⟩:=h
  have hsz:∀ {t e:TypeId},t < P.types.size->P.underlying t=some (.slice e)->0 < P.cellsOf e:=fun {t e} ht hu=>by
   have:=List.all_eq_true.1 hs t (List.mem_range.2 ht)
   rw [hu] at this
   simpa using this
  exact ⟨p,q,⟨n,DataW.trod_stays (T:=(· < P.types.size)) (kids_rows hl hm) hsz (fun h=>by cases h) (ht t (by simp)) h1 (fun x hx=>RD hst (hb x (by simp [hx]))) (fun x hx=>hp x (by simp [hx]))⟩,
   vD hl hm hs hst (fun u hu=>ht u (by simp [hu])) h2 (fun x hx=>hb x (by simp [hx])) (fun x hx=>hp x (by simp [hx])),rfl⟩
 | [],_ :: _,_,_,_,h,_,_=>h.elim
 | [],[],_ :: _,_,_,h,_,_=>h.elim
 | _ :: _,[],_,_,_,h,_,_=>h.elim
 | _ :: _,_ :: _,[],_,_,h,_,_=>h.elim
theorem TQ {f:Func} {s:ChangeSpec} {apart fresh handsOn again:Bool} {W W':World} {args:Array Value} {ds gs:List (DataW H)} {before:List MemPlace} {tb:TypeId}
 (hl:laidOutB P=true) (hm:mapsRowed P=true) (hsr:sY P=true) (hps:∀ t ∈ f.params.toList,t < P.types.size) (hrt:f.resultTypes=#[tb]) (htb:P.underlying tb=some .bool)
 (hvars:s.vars=[]) (hW:DataW.Whole enc P f.params.toList s.vars apart W args.toList ds gs before) (hfn:s.fn H (ds ++ gs)={ results:=[.lit (.bool true)],args:=ds,vars:=[] }) (hst:Stay W W') :
 s.post enc P f apart fresh handsOn again W args (.bool true) W':=by
 have hlt:∀ p ∈ before,p.block < W.heap.size:=fun p hp=>hW.lt p hp
 obtain ⟨p,q,hA,hV,hb,_,_⟩:=id hW
 have hq:q=[]:=by
  rw [hvars] at hV
  cases gs with
  | nil=>exact hV
  | cons g gs=>exact hV.elim
 subst hq
 have hbp:before=p:=by rw [hb]; simp
 refine HB (pa:=p) (pv:=[]) hW (fun b sp hd=>?_) (fun sp hsp=>?_) (fun sp hsp=>?_) hb hst ?_
 · rw [hrt,hfn]
   exact ⟨[],[],⟨1,by simp [DataW.trod,Value.cells,htb]⟩,rfl,rfl⟩
 · rw [hfn]
   rw [hbp] at hlt hsp
   exact vD hl hm hsr hst hps hA hlt hsp
 · rw [hfn,hvars]; rfl
 · intro j t r h1 h2
   rw [hrt] at h1 h2
   match j with
   | 0=>
    cases h1
    cases h2
    simp [Value.okWide,Cell.okWide,Cell.ok,htb]
   | j + 1=>cases h1
end
open Go.RowKit
inductive Fit (P:Program):TypeId->List C->Prop
 | int {t:TypeId} {k:IntKind} {n:Int}:P.underlying t=some (.int k)->(Lit.int k n).wf=true->Fit P t [.vl (.int k n)]
 | bool {t:TypeId} {b:Bool}:P.underlying t=some .bool->Fit P t [.vl (.bool b)]
 | str {t:TypeId} {s:ByteArray}:P.underlying t=some .string->s.size<=maxLen->Fit P t [.vl (.string s)]
 | sl {t e:TypeId} {xs:List (List C)}:P.underlying t=some (.slice e)->xs.length<=maxLen->(∀ r ∈ xs,Fit P e r)->Fit P t [.fz xs]
 | st {t:TypeId} {fs:Array Field} {parts:List (List C)}:P.underlying t=some (.struct fs)->parts.length=fs.size->(∀ (i:Nat) (f:Field) (p:List C),fs[i]? = some f->parts[i]? = some p->Fit P f.type p)->Fit P t parts.flatten
section
variable {P:Program} {t e:TypeId} {xs:List C}
theorem Fit.inv_str (ht:P.underlying t=some .string) (h:Fit P t xs):∃ s:ByteArray,xs=[.vl (.string s)]/\s.size<=maxLen:=by
 cases h with
 | int h1 h2=>rw [ht] at h1; cases h1
 | bool h1=>rw [ht] at h1; cases h1
 | str h1 h2=>exact ⟨_,rfl,h2⟩
 | sl h1=>rw [ht] at h1; cases h1
 | st h1=>rw [ht] at h1; cases h1
end
theorem Fit.rows {P:Program} {e:TypeId} {α:Type} {row:α->List C} {Q:α->Prop} {ys:List (List C)} (hi:∀ r,Fit P e r->∃ a,r=row a/\Q a) (h:∀ r ∈ ys,Fit P e r):∃ l:List α,ys=l.map row/\∀ a ∈ l,Q a:=by
 induction ys with
 | nil=>exact ⟨[],rfl,fun a h=>by cases h⟩
 | cons r ys ih=>
  obtain ⟨l,h1,h2⟩:=ih fun r hr=>h r (List.mem_cons_of_mem _ hr)
  obtain ⟨a,h3,h4⟩:=hi r (h r (by simp))
  refine ⟨a :: l,by rw [h1,h3]; rfl,fun x hx=>?_⟩
  rcases List.mem_cons.1 hx with rfl | hx
  · exact h4
  · exact h2 x hx
def J1 (P:Program):Nat->List Field->Option Nat
 | o,[]=>some o
 | o,f :: r=>if f.offset=o then J1 P (o + P.cellsOf f.type) r else none
def N8 (P:Program) (ts:List TypeId):Bool:=ts.all fun t=>match P.underlying t with
 | some (.int _) | some .bool | some .string=>true
 | some (.slice e)=>ts.contains e && decide (0 < P.cellsOf e)
 | some (.struct fs)=>fs.toList.all (fun f=>ts.contains f.type) && J1 P 0 fs.toList == some (P.cellsOf t)
 | _=>false
theorem aCX {P:Program} {R:C->Value->Prop} {Q:Field->List C->Prop} {cs:List Value}:∀ (fs:List Field) (o:Nat),J1 P o fs=some cs.length->
 (∀ (i:Nat) (f:Field),fs[i]? = some f->∃ p,Q f p/\All2 R p ((cs.drop f.offset).take (P.cellsOf f.type)))->
 ∃ parts:List (List C),parts.length=fs.length/\(∀ (i:Nat) (f:Field) (p:List C),fs[i]? = some f->parts[i]? = some p->Q f p)/\All2 R parts.flatten (cs.drop o)
 | [],o,ho,_=>by
  simp only [J1,aH] at ho
  subst ho
  exact ⟨[],rfl,fun i f p h=>by simp at h,by simpa using All2.nil⟩
 | f :: fs,o,ho,h=>by
  simp only [J1] at ho
  split at ho
  · rename_i hf
    obtain ⟨parts,h1,h2,h3⟩:=aCX fs _ ho fun i f hf=>h (i + 1) f (by simpa using hf)
    obtain ⟨p,h4,h5⟩:=h 0 f rfl
    refine ⟨p :: parts,by simp [h1],fun i g q hg hq=>?_,?_⟩
    · cases i with
      | zero=>simp at hg hq; subst hg hq; exact h4
      | succ i=>exact h2 i g q (by simpa using hg) (by simpa using hq)
    · have:cs.drop o=(cs.drop f.offset).take (P.cellsOf f.type) ++ cs.drop (o + P.cellsOf f.type):=by
       rw [hf,<-List.drop_drop,List.take_append_drop]
      rw [List.flatten_cons,this]
      exact h5.app h3
  · cases ho
section
variable {H:Type} {enc:TypeId × Value->H} {P:Program} {W:World} {ts:List TypeId}
theorem O9 {b off len cap sz:Nat} {oa:Option Addr} (hoa:len ≠ 0->oa=some ⟨b,off,none⟩) (hsz:0 < sz) (X:Nat->List C) (hl:∀ i,i < len->(X i).length=sz) (hc:len<=cap)
 (h:∀ i,i < len->∀ j c,(X i)[j]? = some c->∃ v,W.cell? ⟨b,off + (i * sz + j),none⟩=some v/\c.fv (oY W) v/\c.shut=true) :
 FzR (oY W) ((List.range len).map X) (.slice oa len cap):=by
 have hz:∀ x ∈ (List.range len).map X,x.length=sz:=fun x hx=>by
  obtain ⟨i,hi,rfl⟩:=List.mem_map.1 hx
  exact hl i (List.mem_range.1 hi)
 have hfl:∀ k c,((List.range len).map X).flatten[k]? = some c->∃ v,W.cell? ⟨b,off + k,none⟩=some v/\c.fv (oY W) v/\c.shut=true:=fun k c hk=>by
  have hkl:k < len * sz:=by
   have h1:=(bC.1 hk).1
   rw [lF _ hz] at h1
   simpa using h1
  have hi:k / sz < len:=(Nat.div_lt_iff_lt_mul hsz).2 hkl
  have hj:=Nat.mod_lt k hsz
  have hg:=jO hz (i:=k / sz) (j:=k % sz) (by simpa using hi) hj
  rw [Nat.mul_comm,Nat.div_add_mod,hk] at hg
  have hxi:((List.range len).map X)[k / sz]? = some (X (k / sz)):=by simp [hi]
  rw [hxi,Option.bind_some] at hg
  have:=h (k / sz) hi (k % sz) c hg.symm
  rwa [Nat.mul_comm,Nat.div_add_mod] at this
 have hr:=FzR.mk (ro:=oY W) ((List.range len).map X) sz (some (b,off)) oa (fun hne=>hoa (fun e=>by subst e; simp at hne)) cap (fun k=>(W.cell? ⟨b,off + k,none⟩).getD undef) hz (by simpa using hc) (fun _=>rfl)
  (fun k c hk=>by
    obtain ⟨v,h2,_⟩:=hfl k c hk
    simp [oY,h2])
  (fun k v hk=>by
    obtain ⟨u,h1,h2,_⟩:=hfl k _ hk
    have:u=v:=h2
    simp [h1,this])
  (fun k ys hk=>by
    obtain ⟨u,h1,h2,_⟩:=hfl k _ hk
    have:FzR (oY W) ys u:=h2
    simpa [h1] using this)
  (fun c hc=>by
    obtain ⟨k,hk⟩:=List.mem_iff_getElem?.1 hc
    obtain ⟨u,_,_,h3⟩:=hfl k c hk
    exact h3)
  (fun _ _ _=>.inl rfl)
 simpa using hr
theorem rB (hok:N8 P ts=true):∀ (n:Nat) (t:TypeId) (cs:List Value) (y:DataW H × List MemPlace),t ∈ ts->DataW.trod enc P W 0 (fun _=>true) true n t cs=some y->
 ∃ xs,Fit P t xs/\All2 (C.fv (oY W)) xs cs/\∀ c ∈ xs,c.shut=true
 | 0,t,cs,y,_,h=>by simp [DataW.trod] at h
 | n + 1,t,cs,y,ht,h=>by
  have h1:=List.all_eq_true.1 hok t ht
  split at h1
  · rename_i k hu
    obtain ⟨m,rfl,_,hw⟩:=DataW.trod_int hu h
    exact ⟨_,.int hu hw,.cons rfl .nil,fun c hc=>by simp at hc; subst hc; rfl⟩
  · rename_i hu
    obtain ⟨b,rfl,_⟩:=DataW.trod_bool hu h
    exact ⟨_,.bool hu,.cons rfl .nil,fun c hc=>by simp at hc; subst hc; rfl⟩
  · rename_i hu
    obtain ⟨s,rfl,_,hs⟩:=DataW.trod_string hu h
    exact ⟨_,.str hu hs,.cons rfl .nil,fun c hc=>by simp at hc; subst hc; rfl⟩
  · rename_i e hu
    simp only [Bool.and_eq_true,List.contains_iff_mem,decide_eq_true_eq] at h1
    obtain ⟨he,hpos⟩:=h1
    rcases DataW.trod_slice hu h with ⟨rfl,_⟩ | ⟨a,len,cap,elems,rest,n',hn',rfl,_,_,hl,hm,hel,hi,_⟩
    · exact ⟨_,.sl hu (Nat.zero_le _) (fun r hr=>by cases hr),.cons (aB4 _) .nil,fun c hc=>by simp at hc; subst hc; rfl⟩
    · obtain rfl:n=n':=by omega
      have hall:∀ i,i < len->∃ x:List C,Fit P e x/\x.length=P.cellsOf e/\(∀ j c,x[j]? = some c->∃ v,W.cell? ((a.add (i * P.cellsOf e)).add j)=some v/\c.fv (oY W) v/\c.shut=true):=fun i hil=>by
       have h1:=hi i hil
       rw [bB (by omega)] at h1
       obtain ⟨cs',h2,h3⟩:=Option.bind_eq_some_iff.1 h1
       obtain ⟨x,h4,h5,h6⟩:=rB hok n e cs' _ he h3
       obtain ⟨_,h7,h8⟩:=World.cells?_some h2
       refine ⟨x,h4,h5.1.trans h7,fun j c hj=>?_⟩
       obtain ⟨v,h9,h10⟩:=h5.get hj
       have hjl:j < P.cellsOf e:=by rw [<-h7,<-h5.1]; exact (bC.1 hj).1
       refine ⟨v,?_,h10,h6 c (bW hj)⟩
       have:=h8 j hjl
       rwa [h9] at this
      by_cases h0:len=0
      · subst h0
        refine ⟨[.fz []],.sl hu (Nat.zero_le _) (fun r hr=>by cases hr),.cons ?_ .nil,fun c hc=>by simp at hc; subst hc; rfl⟩
        exact O9 (b:=0) (off:=0) (fun h=>absurd rfl h) hpos (fun _=>[]) (fun i hi=>by omega) (Nat.zero_le _) (fun i hi=>by omega)
      · obtain ⟨x0,_,hx0l,hx0⟩:=hall 0 (by omega)
        have hsp:a.spot=none:=by
         have hx:∃ c,x0[0]? = some c:=⟨_,bB (by omega)⟩
         obtain ⟨c,hc⟩:=hx
         obtain ⟨v,hv,_⟩:=hx0 0 c hc
         unfold World.cell? at hv
         split at hv
         · split at hv
           · cases hv
           · rename_i hs; simpa [Addr.add] using hs
         · cases hv
        obtain ⟨b,off,spot⟩:=a
        obtain rfl:spot=none:=hsp
        haveI:Inhabited (List C):=⟨[]⟩
        obtain ⟨X,hX⟩:=Go.Deep.choose_lt hall
        refine ⟨[.fz ((List.range len).map X)],.sl hu (by simp; omega) (fun r hr=>?_),.cons ?_ .nil,fun c hc=>by simp at hc; subst hc; rfl⟩
        · obtain ⟨i,hi,rfl⟩:=List.mem_map.1 hr
          exact (hX i (List.mem_range.1 hi)).1
        · exact O9 (fun _=>rfl) hpos X (fun i hi=>(hX i hi).2.1) hl (fun i hi j c hj=>by
           obtain ⟨v,h2,h3⟩:=(hX i hi).2.2 j c hj
           exact ⟨v,by simpa [Go.WideShapes.add_plain,Nat.add_assoc] using h2,h3⟩)
  · rename_i fs hu
    simp only [Bool.and_eq_true,List.all_eq_true,List.contains_iff_mem,beq_iff_eq] at h1
    obtain ⟨hft,hof⟩:=h1
    obtain ⟨ys,n',hn,_,hcl,hyl,hf⟩:=DataW.trod_struct hu h
    obtain rfl:n=n':=by omega
    obtain ⟨parts,k1,k2,k3⟩:=aCX (P:=P) (R:=fun c v=>C.fv (oY W) c v/\c.shut=true) (Q:=fun f p=>Fit P f.type p) (cs:=cs) fs.toList 0 (by rw [hcl]; exact hof) (fun i f hfi=>by
     have hfi':fs[i]? = some f:=by simpa using hfi
     have h2:=hf i f hfi'
     have hil:i < fs.size:=(Array.getElem?_eq_some_iff.1 hfi').1
     rw [bB (by omega)] at h2
     obtain ⟨x,h4,h5,h6⟩:=rB hok n f.type _ _ (hft f (bW hfi)) h2
     exact ⟨x,h4,⟨h5.1,fun j c v hc hv=>⟨h5.2 j c v hc hv,h6 c (bW hc)⟩⟩⟩)
    refine ⟨parts.flatten,.st hu (by simpa using k1) (fun i f p hfi hp=>k2 i f p (by simpa using hfi) hp),?_,fun c hc=>?_⟩
    · simpa using k3.imp (fun _ _ h=>h.1)
    · obtain ⟨j,hj⟩:=List.mem_iff_getElem?.1 hc
      obtain ⟨v,_,_,h3⟩:=k3.get hj
      exact h3
  · cases h1
theorem N2 (hok:N8 P ts=true) {t:TypeId} {v:Value} {d:DataW H} {ps:List MemPlace} (ht:t ∈ ts) (h:DataW.Trod enc P W 0 (fun _=>true) true t v d ps):∃ xs,Fit P t xs/\All2 (C.fv (oY W)) xs v.cells.toList/\∀ c ∈ xs,c.shut=true:=by
 obtain ⟨n,h⟩:=h
 exact rB hok n t _ _ ht h
theorem aFF {c:C} {v:Value} (h:All2 (C.fv (oY W)) [c] v.cells.toList) (hv:v.cells.toList=[v]) (hs:c.shut=true):(S.va (.c1 c)).rel (gm []) (oY W) v:=by
 rw [hv] at h
 exact (C.rel_shut hs).2 (h.2 0 c v rfl rfl)
end
end Go.W
