/- Lemmas and walks for the proof. -/
import Derived.Test.YtgogpogophflhaaGreatDoorQb
import Derived.Test.YtgogpogophflhaaGreatDoorProg
import Derived.Shelf.Strings.Search1
import Derived.Shelf.Small.Strs
set_option maxRecDepth 100000
set_option maxHeartbeats 8000000
namespace Go.W
attribute [go_sem ↓] kP vI AK AP sp Fun.sp v8 jF
@[go_sem ↓] theorem aT6 (s:Spec) (az':List S) (H:Hp) (K:S->Hp->Prop):(Entry.s s).sp az' H K=s az' H K:=rfl
@[go_sem ↓] theorem aT5 (p:Fun) (az':List S) (H:Hp) (K:S->Hp->Prop):(Entry.f p).sp az' H K=p.sp az' H K:=rfl
attribute [go_sem ↓] qP m9 lkS lq vE vA vZ vL qv qc ev gv cP QI.sl LI.sl EI.sl O.sl O.sls O.slo O.slp DW
@[go_sem ↓] theorem aRW (fr:Fr) (d:Nat) (s:S) (i:Nat):put fr (some d) s i=if i=d then s else fr i:=rfl
@[go_sem ↓] theorem aQU (fr:Fr) (s:S) (i:Nat):put fr none s i=fr i:=rfl
@[go_sem ↓] theorem aSL (fr:Fr) (i:Nat):fst fr i=(fr i).st:=rfl
@[go_sem ↓] theorem aQR (xs:List S) (i:Nat):xD xs i=xs.getD i .un:=rfl
attribute [go_sem] S.ofV A.ofV yR zX F9 A7 kL
attribute [go_sem] wr c7 A9 DS kA rows okS z6 WN MB mH Entry.f loc back sS pX cC iC VO nQ pD
section
variable {Γ:dP} {k0:Nat} {x y:PC} {fr:Fr} {H:Hp} {K:Ex->Fr->Hp->Prop} {id:Nat} {o:O} {js:List J}
@[go_sem ↓] theorem aRD (K:Fr->Hp->Prop):vR Γ [] fr H K=K fr H:=rfl
@[go_sem ↓] theorem aMX (K:Fr->Hp->Prop) (d:Option Nat) (i:I) (r:List J):vR Γ (⟨d,none,i⟩ :: r) fr H K=kP Γ fr H (fun fr' H'=>vR Γ r fr' H' K) d i:=rfl
@[go_sem ↓] theorem aM6 (K:Fr->Hp->Prop) (d:Option Nat) (sl:Nat) (want:Bool) (i:I) (r:List J):vR Γ (⟨d,some (sl,want),i⟩ :: r) fr H K=(match gv fr sl want with
 | none=>False
 | some g=>jT Γ fr H (fun fr' H'=>vR Γ r fr' H' K) d sl want g i):=rfl
@[go_sem ↓] theorem aS5 (K:Fr->Hp->Prop) (d:Option Nat) (sl:Nat) (want g:Bool) (i:QI):jT Γ fr H K d sl want g (.q i)=(match qv (fst fr) H i with
 | some s=>(g=true->cP fr i.sl/\qc (fst fr) H i)/\K (put fr d (s.cnd g)) H
 | none=>g=false/\K (put fr d dum) H):=rfl
@[go_sem ↓] theorem aSW (K:Fr->Hp->Prop) (d:Option Nat) (sl:Nat) (want g:Bool) (x y:O):jT Γ fr H K d sl want g (.ix x y)=(match ev (fst fr) x,ev (fst fr) y with
 | .va (.c1 (.vl (.string s))),.va (.c1 (.vl (.int _ k)))=>(g=true->cP fr (x.sl ++ y.sl)/\0<=k/\k < (bl s).length)/\∀ c:UInt8,(g=true->(bl s)[k.toNat]? = some c)->K (put fr d (.cn g (.c1 (.vl (.int .u8 c.toNat))))) H
 | _,_=>g=false/\K (put fr d dum) H):=rfl
@[go_sem ↓] theorem aTH (K:Fr->Hp->Prop) (d:Option Nat) (sl:Nat) (want g:Bool) (i:LI):jT Γ fr H K d sl want g (.l i)=(match lq (fst fr) H i with
 | some s=>(g=true->cP fr i.sl)/\K (put fr d (s.cnd g)) H
 | none=>(g=true->cP (jF fr sl want) i.sl/\vL (fst (jF fr sl want)) H i fun s=>K (put (jF fr sl want) d s) H)/\(g=false->K (put (pD fr sl want) d dum) H)):=rfl
@[go_sem ↓] theorem aNW (K:Fr->Hp->Prop) (d:Option Nat) (sl:Nat) (want g:Bool) (c x y:O):jT Γ fr H K d sl want g (.pick c x y)=(match ev (fst fr) c,ev (fst fr) x,ev (fst fr) y with
 | .va (.c1 (.vl (.bool b))),.va ax,.va ay=>(g=true->cP fr c.sl/\(b=true->cP fr x.sl)/\(b=false->cP fr y.sl))/\K (put fr d (.cn g (rR b ax ay))) H
 | _,_,_=>g=false/\K (put fr d dum) H):=rfl
@[go_sem ↓] theorem aSE (K:Fr->Hp->Prop) (d:Option Nat) (sl:Nat) (want g:Bool) (f:FuncId) (xs:List O):jT Γ fr H K d sl want g (.cq f xs)=AP Γ fr H f xs (g=true) fun a=>K (put fr d (.cn g a)) H:=rfl
@[go_sem ↓] theorem aSZ (K:Fr->Hp->Prop) (d:Option Nat) (sl:Nat) (want g:Bool) (i:EI):jT Γ fr H K d sl want g (.e i)=((g=true->vI Γ (jF fr sl want) H (fun s H'=>K (put (jF fr sl want) d s) H') (.e i))/\(g=false->K (put (pD fr sl want) d dum) H)):=rfl
@[go_sem ↓] theorem aQB (K:Fr->Hp->Prop) (d:Option Nat) (sl:Nat) (want g:Bool) (f:FuncId) (xs:List O) (σ:List Nat):jT Γ fr H K d sl want g (.cl f xs σ)=((g=true->vI Γ (jF fr sl want) H (fun s H'=>K (put (jF fr sl want) d s) H') (.cl f xs σ))/\(g=false->K (put (pD fr sl want) d dum) H)):=rfl
@[go_sem ↓] theorem aSA (K:Fr->Hp->Prop) (d:Option Nat) (sl:Nat) (want g:Bool) (f:O) (xs:List O) (σ:List Nat):jT Γ fr H K d sl want g (.ca f xs σ)=((g=true->vI Γ (jF fr sl want) H (fun s H'=>K (put (jF fr sl want) d s) H') (.ca f xs σ))/\(g=false->K (put (pD fr sl want) d dum) H)):=rfl
def US (Γ:dP) (k0:Nat) (x:PC) (fr:Fr) (H:Hp) (K:Ex->Fr->Hp->Prop) (_:Tag (Γ,x,fr,K)):Prop:=vc Γ k0 (.loop x) fr H K
@[go_sem ↓] theorem aB2:vc Γ k0 (.loop x) fr H K=US Γ k0 x fr H K ⟨⟩:=rfl
def vcg (Γ:dP) (k0:Nat) (x:PC) (fr:Fr) (H:Hp) (K:Ex->Fr->Hp->Prop) (_:Tag (Γ,x,fr,K)):Prop:=Gh k0 (fun fr' H'=>vc Γ k0 x fr' H' K) fr H
@[go_sem ↓] theorem aHB:vc Γ k0 (.gh x) fr H K=vcg Γ k0 x fr H K ⟨⟩:=rfl
@[go_sem ↓] theorem aPS:vc Γ k0 .skip fr H K=K .n fr H:=rfl
@[go_sem ↓] theorem aQS:vc Γ k0 (.seq x y) fr H K=vc Γ k0 x fr H (fun e fr' H'=>match e with | .n=>vc Γ k0 y fr' H' K | e=>K e fr' H'):=rfl
@[go_sem ↓] theorem aSI:vc Γ k0 (.reg js) fr H K=vR Γ js fr H (K .n):=rfl
@[go_sem ↓] theorem aQ4 (l:List OJ):vc Γ k0 (.ord l) fr H K=vO Γ l fr H (K .n):=rfl
@[go_sem ↓] theorem aR1 (K:Fr->Hp->Prop):vO Γ [] fr H K=K fr H:=rfl
@[go_sem ↓] theorem aTX (K:Fr->Hp->Prop) (d:Nat) (i:I) (r:List OJ):vO Γ (.q ⟨some d,none,i⟩ :: r) fr H K=kP Γ fr H (fun fr' _=>vO Γ r (put fr (some d) (fr' d)) H K) (some d) i:=rfl
@[go_sem ↓] theorem aTG (K:Fr->Hp->Prop) (d sl:Nat) (want:Bool) (i:I) (r:List OJ):vO Γ (.q ⟨some d,some (sl,want),i⟩ :: r) fr H K=(match gv fr sl want with
 | none=>False
 | some g=>jT Γ fr H (fun fr' _=>vO Γ r (put fr (some d) (fr' d)) H K) (some d) sl want g i):=rfl
@[go_sem ↓] theorem aTF (K:Fr->Hp->Prop) (d:Option Nat) (i:I) (r:List OJ):vO Γ (.m ⟨d,none,i⟩ :: r) fr H K=kP Γ fr H (fun fr' H'=>vO Γ r fr' H' K) d i:=rfl
@[go_sem ↓] theorem aS0 (K:Fr->Hp->Prop) (d:Option Nat) (sl:Nat) (want:Bool) (i:I) (r:List OJ):vO Γ (.m ⟨d,some (sl,want),i⟩ :: r) fr H K=(match gv fr sl want with
 | none=>False
 | some g=>jT Γ fr H (fun fr' H'=>vO Γ r fr' H' K) d sl want g i):=rfl
@[go_sem ↓] theorem aRN (K:Fr->Hp->Prop) (d:Nat) (i:I) (r:List OJ):vO Γ (.rc ⟨some d,none,i⟩ :: r) fr H K=(kP Γ fr H (fun fr' _=>fr' d=fr d) (some d) i/\vO Γ r fr H K):=rfl
@[go_sem ↓] theorem aQ9 (K:Fr->Hp->Prop) (d sl:Nat) (want:Bool) (i:I) (r:List OJ):vO Γ (.rc ⟨some d,some (sl,want),i⟩ :: r) fr H K=((match gv fr sl want with
 | none=>False
 | some g=>jT Γ fr H (fun fr' _=>fr' d=fr d) (some d) sl want g i)/\vO Γ r fr H K):=rfl
def A2:List J->List OJ->List OJ
 | [],l=>l
 | j :: r,l=>.rc j :: A2 r l
@[go_sem ↓] theorem aO3 (l:List OJ):A2 [] l=l:=rfl
@[go_sem ↓] theorem aN3 (j:J) (r:List J) (l:List OJ):A2 (j :: r) l=.rc j :: A2 r l:=rfl
theorem OW (K:Fr->Hp->Prop):∀ (ra:List J) (fr:Fr) (l:List OJ),vO Γ (A2 ra l) fr H K=(tP Γ ra fr H/\vO Γ l fr H K)
 | [],fr,l=>by simp [A2,tP]
 | j :: r,fr,l=>by simp only [A2,tP,vO,OW K r,and_assoc]
@[go_sem ↓] theorem aT4 (K:Fr->Hp->Prop) (a b:J) (ra rb:List J) (r:List OJ):vO Γ (.fk a b ra rb :: r) fr H K=(vO Γ (.m a :: A2 ra (.m b :: r)) fr H K/\vO Γ (.m b :: A2 rb (.m a :: r)) fr H K):=by
 simp only [vO,OW]
@[go_sem ↓] theorem aO1:vc Γ k0 (.cond o x y) fr H K=(match ev (fst fr) o with
 | .va (.c1 (.vl (.bool b)))=>cP fr o.sl/\(b=true->vc Γ k0 x fr H K)/\(b=false->vc Γ k0 y fr H K)
 | _=>False):=rfl
@[go_sem ↓] theorem aM3:vc Γ k0 (.block id x) fr H K=vc Γ k0 x fr H (fun e fr' H'=>match e with | .e j=>if j=id then K .n fr' H' else K (.e j) fr' H' | e=>K e fr' H'):=rfl
@[go_sem ↓] theorem aO9:vc Γ k0 (.exit id) fr H K=K (.e id) fr H:=rfl
@[go_sem ↓] theorem aTJ:vc Γ k0 .no fr H K=False:=rfl
@[go_sem ↓] theorem aQC:vc Γ k0 .ret fr H K=K .r fr H:=rfl
def cJ:List (Nat × S)->Fr
 | []=>fun _=>.un
 | (i,s) :: r=>put (cJ r) (some i) s
def s0 (L:Nat) (fr:Fr):List (Nat × S)->Prop
 | []=>True
 | (i,s) :: r=>(fr i).ren (iC L)=s/\s0 L fr r
@[go_sem ↓] theorem aPA (l:List (Nat × S)) (i j:Nat) (s:S):cJ ((j,s) :: l) i=if i=j then s else cJ l i:=rfl
@[go_sem ↓] theorem aPD (i:Nat):cJ [] i=.un:=rfl
attribute [go_sem ↓] s0
theorem rC {L:Nat}:∀ {l:List (Nat × S)} {fr:Fr},s0 L fr l->∀ i,cJ l i=(fr i).ren (iC L)\/cJ l i=.un
 | [],fr,_,i=>.inr rfl
 | (j,s) :: r,fr,h,i=>by
  simp only [cJ,put]
  split
  · rename_i hi; subst hi; exact .inl h.1.symm
  · exact rC h.2 i
def sX {α:Type} (k0:Nat) (up:α->List (Nat × S)) (Hs:α->Hp) (Inv:α->Prop) (μ:α->Nat) (z:α) (K:Ex->Fr->Hp->Prop):Ex->Fr->Hp->Prop
 | .n,fr',H'=>Gh k0 (fun fr'' H''=>∃ m',m' < μ z/\∃ z',Inv z'/\fr''=cJ (up z')/\H''=Hs z'/\m'=μ z') fr' H'
 | e,fr',H'=>K e fr' H'
section
variable {α:Type} {up:α->List (Nat × S)} {Hs:α->Hp} {Inv:α->Prop} {μ:α->Nat} {z:α}
def NO (k0:Nat) (up:α->List (Nat × S)) (Hs:α->Hp) (Inv:α->Prop) (μ:α->Nat) (z:α) (fr:Fr) (H:Hp) (_:Tag (up,Hs,Inv,μ,z,fr)):Prop:=
 Gh k0 (fun fr'' H''=>∃ m',m' < μ z/\∃ z',Inv z'/\fr''=cJ (up z')/\H''=Hs z'/\m'=μ z') fr H
@[go_sem ↓] theorem aPT:sX k0 up Hs Inv μ z K .n fr H=NO k0 up Hs Inv μ z fr H ⟨⟩:=rfl
@[go_sem ↓] theorem aOX (j:Nat):sX k0 up Hs Inv μ z K (.e j) fr H=K (.e j) fr H:=rfl
@[go_sem ↓] theorem aPQ:sX k0 up Hs Inv μ z K .r fr H=K .r fr H:=rfl
theorem aC (z':α) (L:Nat) (h1:Inv z') (h2:μ z' < μ z) (h3:s0 L fr (up z')) (h4:(H.take L).map (B.ren (iC L))=Hs z') (h0:k0<=L:=by decide):NO k0 up Hs Inv μ z fr H ⟨⟩:=
 .cut L h0 (.wk _ (rC h3) (.done ⟨_,h2,z',h1,rfl,h4,rfl⟩))
theorem cI (up:α->List (Nat × S)) (Hs:α->Hp) (Inv:α->Prop) (μ:α->Nat)
 (h0:Gh k0 (fun fr' H'=>∃ z,Inv z/\fr'=cJ (up z)/\H'=Hs z) fr H)
 (step:∀ z,Inv z->vc Γ k0 x (cJ (up z)) (Hs z) (sX k0 up Hs Inv μ z K)):US Γ k0 x fr H K ⟨⟩:=by
 refine ⟨fun m fr' H'=>∃ z,Inv z/\fr'=cJ (up z)/\H'=Hs z/\m=μ z,?_,?_⟩
 · clear step
   induction h0 with
   | done h=>obtain ⟨z,h1,h2,h3⟩:=h; exact .done ⟨_,z,h1,h2,h3,rfl⟩
   | wk fr' hw _ ih=>exact .wk fr' hw ih
   | cut k hk _ ih=>exact .cut k hk ih
   | sel ns h1 h2 h3 _ ih=>exact .sel ns h1 h2 h3 ih
   | kill n _ ih=>exact .kill n ih
   | nil sl T sz h _ ih=>exact .nil sl T sz h ih
   | nilc nm k T sz cs T' h1 h2 _ ih=>exact .nilc nm k T sz cs T' h1 h2 ih
   | nf sl _ ih=>exact .nf sl ih
   | pub n xs T sz h _ ih=>exact .pub n xs T sz h ih
   | opn n xs T sz h _ ih=>exact .opn n xs T sz h ih
   | nfr n xs T sz h _ ih=>exact .nfr n xs T sz h ih
   | shu n xs T sz h hs _ ih=>exact .shu n xs T sz h hs ih
 · rintro m fr' H' ⟨z,hI,rfl,rfl,rfl⟩
   have e:sX k0 up Hs Inv μ z K=fun e fr' H'=>match e with
    | .n=>Gh k0 (fun fr'' H''=>∃ m',m' < μ z/\∃ z',Inv z'/\fr''=cJ (up z')/\H''=Hs z'/\m'=μ z') fr' H'
    | e=>K e fr' H':=by
    funext e fr' H'; cases e<;>rfl
   have:=step z hI
   rw [e] at this
   exact this
theorem hY (z:α) (L:Nat) (h1:Inv z) (h2:s0 L fr (up z)) (h3:(H.take L).map (B.ren (iC L))=Hs z) (h0:k0<=L:=by decide):Gh k0 (fun fr' H'=>∃ z,Inv z/\fr'=cJ (up z)/\H'=Hs z) fr H:=
 .cut L h0 (.wk _ (rC h2) (.done ⟨z,h1,rfl,h3⟩))
theorem aR (up:α->List (Nat × S)) (Hs:α->Hp) (Inv:α->Prop) (μ:α->Nat) (z:α) (L:Nat) (h1:Inv z) (h2:s0 L fr (up z)) (h3:(H.take L).map (B.ren (iC L))=Hs z)
 (step:∀ z,Inv z->vc Γ k0 x (cJ (up z)) (Hs z) (sX k0 up Hs Inv μ z K)) (h0:k0<=L:=by decide):US Γ k0 x fr H K ⟨⟩:=
 cI up Hs Inv μ (.cut L h0 (.wk _ (rC h2) (.done ⟨z,h1,rfl,h3⟩))) step
end
theorem cA {up:List (Nat × S)} {Hs:Hp} (L:Nat) (h:vc Γ k0 x.ungh (cJ up) Hs K) (h1:s0 L fr up) (h2:(H.take L).map (B.ren (iC L))=Hs) (hg:x.hgh=true:=by rfl) (h0:k0<=L:=by decide):vcn Γ k0 x fr H K ⟨⟩:=
 aU hg (.cut L h0 (.wk _ (rC h1) (.done (by rw [h2]; exact h))))
end
section
variable (a:A) (l:List A) (g:Bool) (c:C) (cs:List C) (f:Nat->Option Nat) (n b o i j sz len cap k m:Nat) (v:Value) (T:TypeId) (xs ys:List (List C)) (x y:A) (H:Hp)
@[go_sem] theorem aTV:(S.va a).st=.va a:=rfl
@[go_sem] theorem aT3:(S.tu l).st=.tu l:=rfl
@[go_sem] theorem aS6:(S.cn g a).st=.va a:=rfl
@[go_sem] theorem aS3:S.un.st=.un:=rfl
@[go_sem] theorem aTE:(S.va a).gd=True:=rfl
@[go_sem] theorem aTT:(S.tu l).gd=True:=rfl
@[go_sem] theorem aTI:(S.cn g a).gd=(g=true):=rfl
@[go_sem] theorem aTC:S.un.gd=True:=rfl
@[go_sem] theorem aQZ:(S.va a).cnd g=.cn g a:=rfl
@[go_sem] theorem aQ5:(S.tu l).cnd g=.un:=rfl
@[go_sem] theorem aRX:S.un.cnd g=.un:=rfl
@[go_sem] theorem aSB:(S.va a).ren f=.va (a.ren f):=rfl
@[go_sem] theorem aQQ:(S.tu l).ren f=.tu (l.map (A.ren f)):=rfl
@[go_sem] theorem aSH:(S.cn g a).ren f=.cn g (a.ren f):=rfl
@[go_sem] theorem aSN:S.un.ren f=.un:=rfl
@[go_sem] theorem aQE:(A.c1 c).ren f=.c1 (c.ren f):=rfl
@[go_sem] theorem aRI:(A.gs cs).ren f=.gs (cs.map (C.ren f)):=rfl
@[go_sem] theorem aR4:C.no.ren f=.no:=rfl
@[go_sem] theorem aPC (k:FuncId):(C.fn k []).ren f=.fn k []:=rfl
@[go_sem] theorem aRL (k:FuncId) (l:List (Bool × List C)):(C.fn k l).ren f=.fn k (l.map fun x=>(x.1,x.2.map (C.ren0 f))):=rfl
@[go_sem] theorem aQ1 (k:FuncId):(C.fm k xs).ren f=.fm k xs:=rfl
@[go_sem] theorem aT0 (k:FuncId):(C.fm k xs).nf=.fm k xs:=rfl
@[go_sem] theorem aQP (k:FuncId):(C.fm k xs).one=True:=rfl
@[go_sem] theorem aRK:(C.mp n).ren f=(match f n with | some m=>.mp m | none=>.no):=rfl
@[go_sem] theorem aS7:(C.mp n).nf=.mp n:=rfl
@[go_sem] theorem aSF:(C.mp n).bor H=.no:=rfl
@[go_sem] theorem aRU:(C.mp k).pub n xs=.mp k:=rfl
@[go_sem] theorem aRZ:(C.mp n).one=True:=rfl
@[go_sem] theorem aPF:(C.mp n).isFn=false:=rfl
@[go_sem] theorem aPY:(C.pt n o).isFn=false:=rfl
@[go_sem] theorem aPX:(C.vl v).isFn=false:=rfl
@[go_sem] theorem aPU:(C.fz xs).isFn=false:=rfl
@[go_sem] theorem aPJ:(C.sl n len).isFn=false:=rfl
@[go_sem] theorem aOP:C.no.ren0 f=.no:=rfl
@[go_sem] theorem aPM:(C.vl v).ren0 f=.vl v:=rfl
@[go_sem] theorem aP4:(C.fz xs).ren0 f=.fz xs:=rfl
@[go_sem] theorem aO8:(C.pt n o).ren0 f=(match f n with | some m=>.pt m o | none=>.no):=rfl
@[go_sem] theorem aP1:(C.sl n len).ren0 f=(match f n with | some m=>.sl m len | none=>.no):=rfl
@[go_sem] theorem aO6:(C.mp n).ren0 f=(match f n with | some m=>.mp m | none=>.no):=rfl
@[go_sem] theorem aP0:(C.vl v).bor0 H=.vl v:=rfl
@[go_sem] theorem aP7:(C.fz xs).bor0 H=.fz xs:=rfl
@[go_sem] theorem aPG:(C.pt n o).bor0 H=.no:=rfl
@[go_sem] theorem aPK:(C.mp n).bor0 H=.no:=rfl
@[go_sem] theorem aO5:C.no.bor0 H=.no:=rfl
@[go_sem] theorem aP2:(C.vl v).pub0 n xs=.vl v:=rfl
@[go_sem] theorem aOZ:(C.fz ys).pub0 n xs=.fz ys:=rfl
@[go_sem] theorem aOV:(C.pt k o).pub0 n xs=.pt k o:=rfl
@[go_sem] theorem aPI:(C.mp k).pub0 n xs=.mp k:=rfl
@[go_sem] theorem aP5:C.no.pub0 n xs=.no:=rfl
@[go_sem] theorem aMR (kd:TypeDesc) (ks:List Value) (vs:List A):(B.map kd ks vs).ren f=.map kd ks (vs.map (A.ren f)):=rfl
@[go_sem] theorem aLX (kd:TypeDesc) (ks:List Value) (vs:List A):(B.map kd ks vs).pub n xs=.map kd ks (vs.map (A.pub n xs)):=rfl
@[go_sem] theorem aQL:MV (false,[c])=.c1 c:=rfl
@[go_sem] theorem aQ2:MV (true,cs)=.gs cs:=rfl
@[go_sem] theorem aO4 (k k':IntKind) (q:Int):MapKept.IsKey (.int k) (.int k' q)=(k'=k):=rfl
@[go_sem] theorem aO2 (s:ByteArray):MapKept.IsKey .string (.string s)=True:=rfl
@[go_sem] theorem aQX:(C.vl v).ren f=.vl v:=rfl
@[go_sem] theorem aQI:(C.pt n o).ren f=(match f n with | some m=>.pt m o | none=>.no):=rfl
@[go_sem] theorem aRG:(C.sl n len).ren f=(match f n with | some m=>.sl m len | none=>.no):=rfl
@[go_sem] theorem aSP:(C.qt n len sz i j).ren f=(match f n with | some m=>.qt m len sz i j | none=>.no):=rfl
@[go_sem] theorem aRO:(C.dp n len).ren f=(match f n with | some m=>.dp m len | none=>.no):=rfl
@[go_sem] theorem aTL:(C.dp n len).nf=.dp n len:=rfl
@[go_sem] theorem aQ3:(C.fz xs).ren f=.fz xs:=rfl
@[go_sem] theorem aSX:(C.fp cs j).ren f=.fp cs j:=rfl
@[go_sem] theorem aG2:(B.cells cs T).ren f=.cells (cs.map (C.ren f)) T:=rfl
@[go_sem] theorem aOO:(B.row xs T sz).ren f=.row xs T sz:=rfl
@[go_sem] theorem QQ:(B.rowx xs T sz).ren f=.rowx (xs.map fun r=>r.map (C.ren f)) T sz:=rfl
@[go_sem] theorem ES:(B.rowx ys T sz).pub n xs=.rowx (ys.map fun r=>r.map (C.pub n xs)) T sz:=rfl
@[go_sem] theorem aJ2:B.dead.ren f=.dead:=rfl
@[go_sem] theorem aSK:(S.va a).pub n xs=.va (a.pub n xs):=rfl
@[go_sem] theorem aRQ:(S.tu l).pub n xs=.tu (l.map (A.pub n xs)):=rfl
@[go_sem] theorem aRB:(S.cn g a).pub n xs=.cn g (a.pub n xs):=rfl
@[go_sem] theorem aQK:S.un.pub n xs=.un:=rfl
@[go_sem] theorem aSR:(A.c1 c).pub n xs=.c1 (c.pub n xs):=rfl
@[go_sem] theorem aSD:(A.gs cs).pub n xs=.gs (cs.map (C.pub n xs)):=rfl
@[go_sem] theorem aRJ:(C.vl v).pub n xs=.vl v:=rfl
@[go_sem] theorem aQF:C.no.pub n xs=.no:=rfl
@[go_sem] theorem aSQ:(C.pt k o).pub n xs=.pt k o:=rfl
@[go_sem] theorem aRS:(C.sl m len).pub n xs=if m=n then (if len=xs.length then .fz xs else .no) else .sl m len:=rfl
@[go_sem] theorem aRV:(C.fz ys).pub n xs=.fz ys:=rfl
@[go_sem] theorem aQV:(C.fp cs j).pub n xs=.fp cs j:=rfl
@[go_sem] theorem aIA:(B.cells cs T).pub n xs=.cells (cs.map (C.pub n xs)) T:=rfl
@[go_sem] theorem aON:(B.row ys T sz).pub n xs=.row ys T sz:=rfl
@[go_sem] theorem aJR:B.dead.pub n xs=.dead:=rfl
@[go_sem] theorem aTR:(S.va a).nf=.va a.nf:=rfl
@[go_sem] theorem aTQ:(S.tu l).nf=.tu (l.map A.nf):=rfl
@[go_sem] theorem aS2:(S.cn g a).nf=.cn g a.nf:=rfl
@[go_sem] theorem aTZ:S.un.nf=.un:=rfl
@[go_sem] theorem aTS:(A.c1 c).nf=.c1 c.nf:=rfl
@[go_sem] theorem aTY:(A.gs cs).nf=.gs (cs.map C.nf):=rfl
@[go_sem] theorem aRY:(C.vl (.slice none 0 0)).nf=.fz []:=rfl
@[go_sem] theorem aQN (k:IntKind) (z:Int):(C.vl (.int k z)).nf=.vl (.int k z):=rfl
@[go_sem] theorem aPR:(C.vl (.bool g)).nf=.vl (.bool g):=rfl
@[go_sem] theorem aSC (s:ByteArray):(C.vl (.string s)).nf=.vl (.string s):=rfl
@[go_sem] theorem aQ7 (p:Option Addr):(C.vl (.pointer p)).nf=.vl (.pointer p):=rfl
@[go_sem] theorem aQM (p:Option Nat):(C.vl (.map p)).nf=.vl (.map p):=rfl
@[go_sem] theorem aTP:(C.vl .nilIface).nf=.vl .nilIface:=rfl
@[go_sem] theorem aSM:(C.vl .nilFunc).nf=.vl .nilFunc:=rfl
@[go_sem] theorem aS4:C.no.nf=.no:=rfl
@[go_sem] theorem aTU:(C.pt n o).nf=.pt n o:=rfl
@[go_sem] theorem aS9:(C.sl n len).nf=.sl n len:=rfl
@[go_sem] theorem aTD:(C.qt n len sz i j).nf=.qt n len sz i j:=rfl
@[go_sem] theorem aTW:(C.fz xs).nf=.fz xs:=rfl
@[go_sem] theorem aTM:(C.fp cs j).nf=.fp cs j:=rfl
@[go_sem] theorem aTN (q:FuncId) (ns:List (Bool × List C)):(C.fn q ns).nf=.fn q ns:=rfl
@[go_sem] theorem aRE:(S.va a).bor H=.va (a.bor H):=rfl
@[go_sem] theorem aSY:(S.tu l).bor H=.un:=rfl
@[go_sem] theorem aRH:S.un.bor H=.un:=rfl
@[go_sem] theorem aSU:(A.c1 c).bor H=.c1 (c.bor H):=rfl
@[go_sem] theorem aSO:(A.gs cs).bor H=.gs (cs.map (C.bor H)):=rfl
@[go_sem] theorem aR3:(C.vl v).bor H=.vl v:=rfl
@[go_sem] theorem aR5:C.no.bor H=.no:=rfl
@[go_sem] theorem aRM:(C.pt n o).bor H=.no:=rfl
@[go_sem] theorem aRR:(C.sl n len).bor H=(match H[n]? with
 | some (.row xs _ _)=>if len=xs.length then .fz xs else .no
 | _=>.no):=rfl
@[go_sem] theorem aQW:(C.fz xs).bor H=.fz xs:=rfl
@[go_sem] theorem aR6:(C.fp cs j).bor H=.fp cs j:=rfl
@[go_sem] theorem aSS (q:FuncId) (l:List (Bool × List C)):(C.fn q l).bor H=.fn q (l.map fun x=>(x.1,x.2.map (C.bor0 H))):=rfl
@[go_sem] theorem aRT (q:FuncId) (l:List (Bool × List C)):(C.fn q l).pub n xs=.fn q (l.map fun x=>(x.1,x.2.map (C.pub0 n xs))):=rfl
@[go_sem] theorem aS8:(A.c1 c).ok=c.one:=rfl
@[go_sem] theorem aT1:(A.gs cs).ok=True:=rfl
@[go_sem] theorem aOI:(A.c1 c).cells=[c]:=rfl
@[go_sem] theorem aNX:(A.gs cs).cells=cs:=rfl
@[go_sem] theorem aQD:(C.pt n o).one=True:=rfl
@[go_sem] theorem aR0:(C.sl n len).one=True:=rfl
@[go_sem] theorem aR8:(C.qt n len sz i j).one=True:=rfl
@[go_sem] theorem aRA:(C.fz xs).one=True:=rfl
@[go_sem] theorem aQO:(C.fp cs j).one=True:=rfl
@[go_sem] theorem aR9 (q:FuncId) (ns:List (Bool × List C)):(C.fn q ns).one=True:=rfl
@[go_sem] theorem aO0 (k:IntKind) (n:Int):(C.vl (.int k n)).one=True:=by simp [C.one,Value.oneCell']
@[go_sem] theorem aMC (b:Bool):(C.vl (.bool b)).one=True:=by simp [C.one,Value.oneCell']
@[go_sem] theorem aI8 (s:ByteArray):(C.vl (.string s)).one=True:=by simp [C.one,Value.oneCell']
@[go_sem] theorem aGE (p:Option Addr):(C.vl (.pointer p)).one=True:=by simp [C.one,Value.oneCell']
@[go_sem] theorem aJN (p:Option Addr):(C.vl (.slice p n m)).one=True:=by simp [C.one,Value.oneCell']
@[go_sem] theorem aPV (p:Option Nat):(C.vl (.map p)).one=True:=by simp [C.one,Value.oneCell']
@[go_sem] theorem aOY:(C.vl v).shut=true:=rfl
@[go_sem] theorem aOU:(C.fz xs).shut=true:=rfl
@[go_sem] theorem aTO (p q r:Bool):rR p (.c1 (.vl (.bool q))) (.c1 (.vl (.bool r)))=.c1 (.vl (.bool (bif p then q else r))):=rfl
@[go_sem] theorem aTB:rR true x y=x:=by unfold rR; split<;>rfl
@[go_sem] theorem aS1:rR false x y=y:=by unfold rR; split<;>rfl
@[go_sem ↓] theorem aTA (k0:Nat) (rs:List RV) (K:S->Hp->Prop) (fr:Fr) (H:Hp):eO k0 rs K .n fr H=v8 fr H rs fun l=>Fin k0 K (DW l).nf H:=rfl
@[go_sem ↓] theorem aTK (k0:Nat) (rs:List RV) (K:S->Hp->Prop) (fr:Fr) (H:Hp):eO k0 rs K .r fr H=v8 fr H rs fun l=>Fin k0 K (DW l).nf H:=rfl
@[go_sem ↓] theorem aT2 (k0:Nat) (rs:List RV) (K:S->Hp->Prop) (id:Nat) (fr:Fr) (H:Hp):eO k0 rs K (.e id) fr H=False:=rfl
end
@[go_sem ↓] theorem aPZ {α:Type} (l:List α) (f:α->List C) (i:Nat) (p:List C->Prop):(∀ r,(l.map f)[i]? = some r->p r) ↔ ∀ x,l[i]? = some x->p (f x):=by
 simp only [List.getElem?_map,Option.map_eq_some_iff]
 exact ⟨fun h x hx=>h _ ⟨x,hx,rfl⟩,fun h r ⟨x,hx,e⟩=>by subst e; exact h x hx⟩
attribute [go_sem ↓] PC.ungh
@[go_sem ↓] theorem aQ8 (A B:Prop):((true=true->A)/\(true=false->B))=A:=by simp
@[go_sem ↓] theorem aSV (A B:Prop):((false=true->A)/\(false=false->B))=B:=by simp
theorem XV (p q:Prop):(p->p/\q) ↔ (p->q):=⟨fun h hp=>(h hp).2,fun h hp=>⟨hp,h hp⟩⟩
attribute [go_sem] XV and_self Bool.not_eq_true'
attribute [go_sem] FU nA dum List.length_map List.map_append List.length_append
attribute [go_sem ↓] reduceIte
attribute [go_sem] reduceIte Nat.reduceEqDiff List.getD_cons_zero List.getD_cons_succ List.append_nil true_and and_true Option.map_some Option.map_none reduceCtorEq forall_const beq_true beq_false implies_true imp_self List.nil_append List.cons_append List.getElem?_cons_zero List.getElem?_cons_succ List.getElem?_nil
attribute [go_sem] Option.getD_some Option.getD_none List.map_cons List.map_nil List.length_cons List.length_nil aH false_implies true_implies List.nodup_nil List.nodup_cons List.not_mem_nil List.mem_cons or_false false_or not_false_eq_true List.set_cons_zero List.set_cons_succ List.headD_cons List.headD_nil List.tail_cons List.tail_nil
attribute [go_sem] Nat.zero_add Nat.add_zero List.take_zero List.take_succ_cons List.drop_zero List.drop_succ_cons Nat.reduceAdd Nat.reduceSub Nat.reduceLeDiff Nat.reduceLT Nat.reduceMul List.take_nil List.drop_nil aK aF beq_self_eq_true Bool.true_and Bool.and_true Bool.not_true Bool.not_false Option.isSome_some Option.isSome_none
attribute [go_sem] forall_eq forall_eq_or_imp Int.toNat_natCast List.take_length Int.reduceToNat Int.reduceNeg
theorem cZ {k0:Nat} {K:S->Hp->Prop} {r r':S} {H:Hp} (h:K r H) (e:r'=r):Fin k0 K r' H:=by rw [e]; exact .done h
@[simp] theorem XO (b x:Bool):(bif b then true else x)=(b || x):=by cases b<;>rfl
@[simp] theorem TO (b x:Bool):(bif b then x else false)=(b && x):=by cases b<;>rfl
attribute [go_sem] XO TO
theorem getD_some {α:Type} {l:List α} {i:Nat} (d:α) (h:i < l.length):l[i]? = some (l.getD i d):=by rw [List.getD,bB h]; rfl
@[go_sem] theorem aPN (n:Int):inr .i64 n ↔ -9223372036854775808<=n/\n<=9223372036854775807:=by
 simp [inr,IntKind.min,IntKind.max,IntKind.signed,IntKind.bits]
@[go_sem] theorem aOQ (n:Int):inr .u64 n ↔ 0<=n/\n<=18446744073709551615:=by
 simp [inr,IntKind.min,IntKind.max,IntKind.signed,IntKind.bits]
@[go_sem] theorem aOT (n:Int):inr .i32 n ↔ -2147483648<=n/\n<=2147483647:=by
 simp [inr,IntKind.min,IntKind.max,IntKind.signed,IntKind.bits]
@[go_sem] theorem aPB (n:Int):inr .u32 n ↔ 0<=n/\n<=4294967295:=by
 simp [inr,IntKind.min,IntKind.max,IntKind.signed,IntKind.bits]
@[go_sem] theorem aQG (n:Int):inr .u8 n ↔ 0<=n/\n<=255:=by
 simp [inr,IntKind.min,IntKind.max,IntKind.signed,IntKind.bits]
@[go_sem] theorem aRP (n:Int):inr .i8 n ↔ -128<=n/\n<=127:=by
 simp [inr,IntKind.min,IntKind.max,IntKind.signed,IntKind.bits]
@[go_sem] theorem aOR (n:Int):inr .u16 n ↔ 0<=n/\n<=65535:=by
 simp [inr,IntKind.min,IntKind.max,IntKind.signed,IntKind.bits]
@[go_sem] theorem aOW (n:Int):inr .i16 n ↔ -32768<=n/\n<=32767:=by
 simp [inr,IntKind.min,IntKind.max,IntKind.signed,IntKind.bits]
theorem gX {c:UInt8} (k:UInt8) {n:Int} (h:n=k.toNat:=by rfl):((c.toNat:Int) == n)=(c == k):=by
 rw [Bool.eq_iff_iff]; simp only [beq_iff_eq]
 constructor
 · intro h2; exact UInt8.toNat_inj.1 (by omega)
 · rintro rfl; exact h.symm
theorem dL {p:UInt8->Bool} (h:(List.range 256).all (fun n=>p (UInt8.ofNat n))=true) (c:UInt8):p c=true:=by
 have:=List.all_eq_true.1 h c.toNat (by simpa using c.toNat_lt)
 simpa using this
abbrev J.a (d:Nat) (i:I):J:=⟨some d,none,i⟩
abbrev J.q (d:Nat) (i:QI):J:=⟨some d,none,.q i⟩
abbrev J.v (d i:Nat):J:=⟨some d,none,.q (.mv (.t i))⟩
abbrev J.l (d:Nat) (i:LI):J:=⟨some d,none,.l i⟩
abbrev J.e (d:Nat) (i:EI):J:=⟨some d,none,.e i⟩
abbrev J.s (i:EI):J:=⟨none,none,.e i⟩
abbrev O.i (n:Int):O:=.k (.int .i64 n)
abbrev bT (p:PC):Prop:=∀(Γ:dP) (k0:Nat) (fr:Fr) (H:Hp) (K:Ex->Fr->Hp->Prop),vc Γ k0 p fr H K=vcn Γ k0 p fr H K ⟨⟩
abbrev zv5:Array Value:=#[(.int .i64 0), (.int .i64 0), (.string (mk [])), (.slice none 0 0), (.slice none 0 0)]
theorem Fin.z {K:S->Hp->Prop} {r:S} {H:Hp} (h:K (r.ren (loc [])) ((sS H []).map (B.ren (loc [])))):Fin 0 K r H:=.sel [] (by simp) (by simp) rfl (.done h)
theorem bY (p:PC):bT p:=fun _ _ _ _ _=>rfl
end Go.W
namespace Go.Proofs.YtgogpogophflhaaGreatDoor
open Go.W
def aEM:PC:=.seq (.reg [.q 2 (.mv (.k (.slice none 0 0))),.q 3 (.mv (.i 0)),.q 4 (.mv (.i 0))]) (.seq (.seq (.reg [.v 8 0,.q 9 (.lnS (.t 8)),.q 10 (.bin .gtr true (.t 9) (.i 4000))]) (.cond (.t 10) (.seq (.reg [.q 2 (.mv (.k (.slice none 0 0))),.q 3 (.mv (.i 3)),.q 4 (.mv (.i 0))]) .ret) .skip)) (.seq (.reg [.v 11 0,.q 12 (.bd [(.string (mk [])),(.int .i64 0),(.int .i64 0),(.int .i64 0)] [(0,1,(.t 11))]),.e 13 (.bx 92 (.t 12)),.v 5 13]) (.seq (.reg [.q 6 (.mv (.k (.slice none 0 0)))]) (.block 0 (.loop (.block 1 (.seq (.reg [.v 14 5,.a 15 (.cl 58 [(.t 14)] [0]),.e 7 (.al (.agg #[(.int .i64 0),(.string (mk [])),(.int .i64 0),(.int .i64 0)]) 74),.s (.st 4 (.t 7) (.t 15))]) (.seq (.seq (.reg [.v 16 5,.q 17 (.nc (.t 16)),.q 18 (.fa 2 (.t 17)),.l 19 (.ld1 (.t 18)),.q 20 (.bin .neq true (.t 19) (.i 0))]) (.cond (.t 20) (.seq (.reg [.v 21 5,.q 22 (.nc (.t 21)),.q 23 (.fa 2 (.t 22)),.l 24 (.ld1 (.t 23)),.v 25 5,.q 26 (.nc (.t 25)),.q 27 (.fa 3 (.t 26)),.l 28 (.ld1 (.t 27)),.q 2 (.mv (.k (.slice none 0 0))),.v 3 24,.v 4 28]) .ret) .skip)) (.seq (.reg [.v 29 6,.l 30 (.ldn 4 (.t 7)),.e 31 (.bsl 74 4 [(.t 30)]),.e 32 (.ap 74 4 40 (.t 29) (.t 31)),.v 6 32]) (.seq (.reg [.q 33 (.fa 0 (.t 7)),.l 34 (.ld1 (.t 33)),.q 35 (.bin .eql true (.t 34) (.i 0))]) (.cond (.t 35) (.seq (.reg [.v 36 6,.v 2 36,.q 3 (.mv (.i 0)),.q 4 (.mv (.i 0))]) .ret) .skip)))))))))))
def aCC:List RV:=[.mv (.t 2),.mv (.t 3),.mv (.t 4)]
theorem aKJ:aY Tryz.prog true ⟨fun r k=>if r=5/\k=1 then .own [0] else .own [],fun _=>false⟩ Tryz.f22=some (aEM,aCC):=by kernel_rfl
def ZX:PC:=.seq (.reg [.q 2 (.mv (.k (.pointer none))),.q 3 (.mv (.i 0)),.q 4 (.mv (.i 0))]) (.seq (.reg [.v 9 0,.a 10 (.cl 22 [(.t 9)] []),.v 8 10,.q 11 (.ex (.t 8) 0),.q 12 (.ex (.t 8) 1),.q 13 (.ex (.t 8) 2),.v 5 11,.v 6 12,.v 7 13]) (.seq (.seq (.reg [.v 14 6,.q 15 (.bin .neq true (.t 14) (.i 0))]) (.cond (.t 15) (.seq (.reg [.v 16 6,.v 17 7,.q 2 (.mv (.k (.pointer none))),.v 3 16,.v 4 17]) .ret) .skip)) (.seq (.reg [.v 18 5,.q 19 (.bd [(.slice none 0 0),(.int .i64 0)] [(0,1,(.t 18))]),.e 20 (.bx 123 (.t 19)),.v 2 20,.q 3 (.mv (.i 0)),.q 4 (.mv (.i 0))]) .ret)))
def aBL:List RV:=[.mv (.t 2),.mv (.t 3),.mv (.t 4)]
theorem aN6:aY Tryz.prog true ⟨fun _ _=>.own [],fun _=>false⟩ Tryz.f33=some (ZX,aBL):=by kernel_rfl
def aA2:PC:=.seq (.reg [.e 2 (.al (.agg #[(.int .i64 0),(.string (mk [])),(.int .i64 0),(.int .i64 0)]) 74)]) (.seq (.seq (.reg [.v 3 0,.q 4 (.eqP false (.t 3) (.k (.pointer none))),.v 5 4,⟨some 6,(some (5,false)),.q (.mv (.t 0))⟩,⟨some 7,(some (5,false)),.q (.nc (.t 6))⟩,⟨some 8,(some (5,false)),.q (.fa 0 (.t 7))⟩,⟨some 9,(some (5,false)),.l (.ld1 (.t 8))⟩,⟨some 10,(some (5,false)),.q (.lnL (.t 9))⟩,⟨some 11,(some (5,false)),.q (.bin .eql true (.t 10) (.i 0))⟩,.a 12 (.pick (.t 5) (.k (.bool true)) (.t 11))]) (.cond (.t 12) (.seq (.reg [.q 13 (.bd [(.int .i64 0),(.string (mk [])),(.int .i64 0),(.int .i64 0)] []),.s (.st 4 (.t 2) (.t 13))]) .ret) .skip)) (.seq (.reg [.v 14 0,.q 15 (.nc (.t 14)),.q 16 (.fa 0 (.t 15)),.l 17 (.ld1 (.t 16)),.v 18 0,.q 19 (.nc (.t 18)),.q 20 (.fa 1 (.t 19)),.l 21 (.ld1 (.t 20)),.l 22 (.ia 4 (.t 17) (.t 21)),.l 23 (.ldn 4 (.t 22)),.s (.st 4 (.t 2) (.t 23))]) .ret))
def aAQ:List RV:=[.ld (.ldn 4 (.t 2))]
theorem aLB:aY Tryz.prog true ⟨fun _ _=>.own [],fun _=>false⟩ Tryz.f38=some (aA2,aAQ):=by kernel_rfl
def aCI:PC:=.seq (.reg [.e 2 (.al (.agg #[(.int .i64 0),(.string (mk [])),(.int .i64 0),(.int .i64 0)]) 74)]) (.seq (.reg [.v 3 0,.a 4 (.cl 100 [(.t 3)] [0])]) (.seq (.seq (.reg [.v 5 0,.a 6 (.cl 101 [(.t 5)] [0])]) (.block 0 (.seq (.reg [.q 8 (.bin .eql true (.t 6) (.i (-1))),.v 7 8]) (.cond (.t 7) (.seq (.reg [.v 9 0,.q 10 (.nc (.t 9)),.q 11 (.fa 1 (.t 10)),.l 12 (.ld1 (.t 11)),.q 13 (.bd [(.int .i64 0),(.string (mk [])),(.int .i64 0),(.int .i64 0)] [(3,1,(.t 12))]),.s (.st 4 (.t 2) (.t 13))]) .ret) (.seq (.reg [.q 15 (.bin .eql true (.t 6) (.i 3)),.v 14 15]) (.cond (.t 14) (.seq (.reg [.v 16 0,.a 17 (.cl 102 [(.t 16)] [0]),.s (.st 4 (.t 2) (.t 17))]) .ret) (.seq (.seq (.reg [.q 19 (.bin .eql true (.t 6) (.i 4)),.v 18 19]) (.cond (.t 18) .skip (.reg [.q 20 (.bin .eql true (.t 6) (.i 5)),.v 18 20]))) (.cond (.t 18) (.seq (.reg [.v 21 0,.a 22 (.cl 103 [(.t 21)] [0]),.s (.st 4 (.t 2) (.t 22))]) .ret) (.seq (.reg [.q 24 (.bin .eql true (.t 6) (.i 7)),.v 23 24]) (.cond (.t 23) (.seq (.reg [.v 25 0,.a 26 (.cl 104 [(.t 25)] [0]),.s (.st 4 (.t 2) (.t 26))]) .ret) (.seq (.reg [.q 28 (.bin .eql true (.t 6) (.i 8)),.v 27 28]) (.cond (.t 27) (.seq (.reg [.v 29 0,.q 30 (.nc (.t 29)),.q 31 (.fa 1 (.t 30)),.l 32 (.ld1 (.t 31)),.q 33 (.bin .add true (.t 32) (.i 1)),.q 34 (.nc (.t 29)),.q 35 (.fa 1 (.t 34)),.s (.st 1 (.t 35) (.t 33))]) (.seq (.reg [.v 36 0,.q 37 (.nc (.t 36)),.q 38 (.fa 0 (.t 37)),.l 39 (.ld1 (.t 38)),.v 40 0,.q 41 (.nc (.t 40)),.q 42 (.fa 1 (.t 41)),.l 43 (.ld1 (.t 42)),.q 44 (.bin .sub true (.t 43) (.i 1)),.v 45 0,.q 46 (.nc (.t 45)),.q 47 (.fa 1 (.t 46)),.l 48 (.ld1 (.t 47)),.q 49 (.ss (.t 39) (some (.t 44)) (some (.t 48))),.v 50 0,.q 51 (.nc (.t 50)),.q 52 (.fa 1 (.t 51)),.l 53 (.ld1 (.t 52)),.q 54 (.bin .sub true (.t 53) (.i 1)),.q 55 (.bd [(.int .i64 0),(.string (mk [])),(.int .i64 0),(.int .i64 0)] [(0,1,(.i 4)),(1,1,(.t 49)),(3,1,(.t 54))]),.s (.st 4 (.t 2) (.t 55))]) .ret)) .skip)))))))))))) (.seq (.reg [.v 56 0,.v 57 0,.q 58 (.nc (.t 57)),.q 59 (.fa 1 (.t 58)),.l 60 (.ld1 (.t 59)),.a 61 (.cl 105 [(.t 56),(.i 2),(.t 60)] [0])]) (.seq (.reg [.q 62 (.bd [(.int .i64 0),(.string (mk [])),(.int .i64 0),(.int .i64 0)] []),.s (.st 4 (.t 2) (.t 62))]) .ret))))
def aB1:List RV:=[.ld (.ldn 4 (.t 2))]
theorem aNZ:aY Tryz.prog true ⟨fun r k=>if r=1/\k=1 then .own [0] else if r=2/\k=1 then .own [0] else if r=6/\k=1 then .own [0] else if r=9/\k=1 then .own [0] else if r=11/\k=1 then .own [0] else if r=15/\k=5 then .own [0] else .own [],fun _=>false⟩ Tryz.f58=some (aCI,aB1):=by kernel_rfl
def aDR:PC:=.seq (.reg [.q 2 (.mv (.i 0))]) (.seq (.reg [.v 3 0,.q 4 (.nc (.t 3)),.q 5 (.fa 1 (.t 4)),.l 6 (.ld1 (.t 5)),.q 7 (.lnL (.t 6)),.v 2 7]) .ret)
def aDK:List RV:=[.mv (.t 2)]
theorem aLP:aY Tryz.prog true ⟨fun _ _=>.own [],fun _=>false⟩ Tryz.f60=some (aDR,aDK):=by kernel_rfl
def aEV:PC:=.seq (.reg [.q 4 (.mv (.k .nilIface))]) (.seq (.reg [.v 5 0,.a 6 (.cl 109 [(.t 5)] [0,1])]) (.seq (.reg [.v 7 0,.v 8 0,.q 9 (.nc (.t 8)),.q 10 (.fa 1 (.t 9)),.l 11 (.ld1 (.t 10)),.v 12 1,.e 13 (.bsl 5 1 [(.t 12)]),.e 14 (.ap 5 1 1 (.t 11) (.t 13)),.q 15 (.nc (.t 7)),.q 16 (.fa 1 (.t 15)),.s (.st 1 (.t 16) (.t 14))]) (.seq (.reg [.q 4 (.mv (.k .nilIface))]) .ret)))
def ZW:List RV:=[.mv (.t 4)]
theorem aNB:aY Tryz.prog true ⟨fun r k=>if r=1/\k=1 then .own [0,1] else .own [],fun _=>false⟩ Tryz.f61=some (aEV,ZW):=by kernel_rfl
def aC7:PC:=.seq (.reg [.q 2 (.mv (.k (.string (mk []))))]) (.seq (.reg [.v 3 0,.q 4 (.nc (.t 3)),.q 5 (.fa 1 (.t 4)),.l 6 (.ld1 (.t 5)),.q 7 (.usd (.t 6)),.v 8 0,.q 9 (.nc (.t 8)),.q 10 (.fa 1 (.t 9)),.l 11 (.ld1 (.t 10)),.q 12 (.lnL (.t 11)),.e 13 (.us 5 (.t 7) (.t 12)),.v 2 13]) .ret)
def aDY:List RV:=[.mv (.t 2)]
theorem aMN:aY Tryz.prog true ⟨fun _ _=>.own [],fun _=>false⟩ Tryz.f63=some (aC7,aDY):=by kernel_rfl
def aDE:PC:=.seq (.reg [.q 4 (.mv (.k (.bool false)))]) (.seq (.reg [.v 5 0,.v 6 1,.a 7 (.cl 116 [(.t 5),(.i 1),(.t 6)] [0]),.v 4 7]) .ret)
def aCG:List RV:=[.mv (.t 4)]
theorem aLQ:aY Tryz.prog true ⟨fun r k=>if r=1/\k=2 then .own [0] else .own [],fun _=>false⟩ Tryz.f80=some (aDE,aCG):=by kernel_rfl
def aEY:PC:=.seq (.reg [.e 2 (.al (.agg #[(.int .i64 0),(.string (mk [])),(.int .i64 0),(.int .i64 0)]) 74)]) (.seq (.reg [.v 4 0,.a 5 (.cl 38 [(.t 4)] [0]),.e 3 (.al (.agg #[(.int .i64 0),(.string (mk [])),(.int .i64 0),(.int .i64 0)]) 74),.s (.st 4 (.t 3) (.t 5))]) (.seq (.seq (.reg [.v 6 0,.q 7 (.eqP true (.t 6) (.k (.pointer none))),.v 8 7,⟨some 9,(some (8,true)),.q (.mv (.t 0))⟩,⟨some 10,(some (8,true)),.q (.nc (.t 9))⟩,⟨some 11,(some (8,true)),.q (.fa 1 (.t 10))⟩,⟨some 12,(some (8,true)),.l (.ld1 (.t 11))⟩,⟨some 13,(some (8,true)),.q (.mv (.t 0))⟩,⟨some 14,(some (8,true)),.q (.nc (.t 13))⟩,⟨some 15,(some (8,true)),.q (.fa 0 (.t 14))⟩,⟨some 16,(some (8,true)),.l (.ld1 (.t 15))⟩,⟨some 17,(some (8,true)),.q (.lnL (.t 16))⟩,⟨some 18,(some (8,true)),.q (.bin .sub true (.t 17) (.i 1))⟩,⟨some 19,(some (8,true)),.q (.bin .lss true (.t 12) (.t 18))⟩,.a 20 (.pick (.t 8) (.t 19) (.k (.bool false)))]) (.cond (.t 20) (.reg [.v 21 0,.q 22 (.nc (.t 21)),.q 23 (.fa 1 (.t 22)),.l 24 (.ld1 (.t 23)),.q 25 (.bin .add true (.t 24) (.i 1)),.q 26 (.nc (.t 21)),.q 27 (.fa 1 (.t 26)),.s (.st 1 (.t 27) (.t 25))]) .skip)) (.seq (.reg [.l 28 (.ldn 4 (.t 3)),.s (.st 4 (.t 2) (.t 28))]) .ret)))
def aD6:List RV:=[.ld (.ldn 4 (.t 2))]
theorem aLA:aY Tryz.prog true ⟨fun r k=>if r=1/\k=1 then .own [0] else .own [],fun _=>false⟩ Tryz.f81=some (aEY,aD6):=by kernel_rfl
def aF7:PC:=.seq (.reg [.q 4 (.mv (.k (.bool false)))]) (.seq (.reg [.v 5 0,.v 6 1,.a 7 (.cl 116 [(.t 5),(.i 4),(.t 6)] [0]),.v 4 7]) .ret)
def aC8:List RV:=[.mv (.t 4)]
theorem aKE:aY Tryz.prog true ⟨fun r k=>if r=1/\k=2 then .own [0] else .own [],fun _=>false⟩ Tryz.f82=some (aF7,aC8):=by kernel_rfl
def Z6:PC:=.seq (.reg [.q 2 (.mv (.k (.bool false)))]) (.seq (.seq (.reg [.v 5 0,.q 6 (.bin .eql true (.t 5) (.k (.string (mk [])))),.v 7 6,⟨some 8,(some (7,false)),.q (.mv (.t 0))⟩,⟨some 9,(some (7,false)),.q (.lnS (.t 8))⟩,⟨some 10,(some (7,false)),.q (.bin .gtr true (.t 9) (.i 16))⟩,.a 11 (.pick (.t 7) (.k (.bool true)) (.t 10)),.v 12 11,⟨some 13,(some (12,false)),.q (.mv (.t 0))⟩,⟨some 14,(some (12,false)),.ix (.t 13) (.i 0)⟩,⟨some 15,(some (12,false)),.cq 108 [(.t 14)]⟩,⟨some 16,(some (12,false)),.q (.bin .neq true (.t 15) (.i 3))⟩,.a 17 (.pick (.t 12) (.k (.bool true)) (.t 16))]) (.cond (.t 17) (.seq (.reg [.q 2 (.mv (.k (.bool false)))]) .ret) .skip)) (.seq (.seq (.reg [.v 18 0,.q 19 (.lnS (.t 18)),.q 20 (.mv (.i 0))]) (.block 0 (.loop (.seq (.reg [.q 21 (.bin .lss true (.t 20) (.t 19))]) (.seq (.cond (.t 21) .skip (.exit 0)) (.seq (.block 1 (.seq (.reg [.v 22 20,.v 3 22]) (.seq (.reg [.v 23 0,.v 24 3,.a 25 (.ix (.t 23) (.t 24)),.a 26 (.cq 108 [(.t 25)]),.v 4 26]) (.seq (.reg [.v 27 4,.q 28 (.bin .neq true (.t 27) (.i 3)),.v 29 28,⟨some 30,(some (29,true)),.q (.mv (.t 4))⟩,⟨some 31,(some (29,true)),.q (.bin .neq true (.t 30) (.i 4))⟩,.a 32 (.pick (.t 29) (.t 31) (.k (.bool false))),.v 33 32,⟨some 34,(some (33,true)),.q (.mv (.t 4))⟩,⟨some 35,(some (33,true)),.q (.bin .neq true (.t 34) (.i 6))⟩,.a 36 (.pick (.t 33) (.t 35) (.k (.bool false)))]) (.cond (.t 36) (.seq (.reg [.q 2 (.mv (.k (.bool false)))]) .ret) .skip))))) (.reg [.q 37 (.bin .add true (.t 20) (.i 1)),.v 20 37]))))))) (.seq (.reg [.q 2 (.mv (.k (.bool true)))]) .ret)))
def aD8:List RV:=[.mv (.t 2)]
theorem aKW:aY Tryz.prog true ⟨fun r k=>if r=1/\k=10 then .q else if r=6/\k=3 then .q else .own [],fun _=>false⟩ Tryz.f95=some (Z6,aD8):=by kernel_rfl
def WY:PC:=.block 0 (.loop (.seq (.seq (.reg [.v 3 0,.q 4 (.nc (.t 3)),.q 5 (.fa 1 (.t 4)),.l 6 (.ld1 (.t 5)),.v 7 0,.q 8 (.nc (.t 7)),.q 9 (.fa 0 (.t 8)),.l 10 (.ld1 (.t 9)),.q 11 (.lnS (.t 10)),.q 12 (.bin .lss true (.t 6) (.t 11))]) (.cond (.t 12) .skip (.exit 0))) (.block 1 (.seq (.reg [.v 13 0,.a 14 (.cl 101 [(.t 13)] [0])]) (.block 2 (.seq (.reg [.q 16 (.bin .eql true (.t 14) (.i 1)),.v 15 16]) (.cond (.t 15) (.reg [.v 17 0,.q 18 (.nc (.t 17)),.q 19 (.fa 1 (.t 18)),.l 20 (.ld1 (.t 19)),.q 21 (.bin .add true (.t 20) (.i 1)),.q 22 (.nc (.t 17)),.q 23 (.fa 1 (.t 22)),.s (.st 1 (.t 23) (.t 21))]) (.seq (.reg [.q 25 (.bin .eql true (.t 14) (.i 2)),.v 24 25]) (.cond (.t 24) (.seq (.reg [.v 26 0,.q 27 (.nc (.t 26)),.q 28 (.fa 0 (.t 27)),.l 29 (.ld1 (.t 28)),.v 30 0,.q 31 (.nc (.t 30)),.q 32 (.fa 1 (.t 31)),.l 33 (.ld1 (.t 32)),.q 34 (.ss (.t 29) (some (.t 33)) none),.a 35 (.cq 119 [(.t 34),(.k (.int .u8 10))]),.v 2 35]) (.seq (.reg [.v 36 2,.q 37 (.bin .geq true (.t 36) (.i 0))]) (.cond (.t 37) (.reg [.v 38 0,.q 39 (.nc (.t 38)),.q 40 (.fa 1 (.t 39)),.l 41 (.ld1 (.t 40)),.v 42 2,.q 43 (.bin .add true (.t 41) (.t 42)),.q 44 (.nc (.t 38)),.q 45 (.fa 1 (.t 44)),.s (.st 1 (.t 45) (.t 43))]) (.reg [.v 46 0,.v 47 0,.q 48 (.nc (.t 47)),.q 49 (.fa 0 (.t 48)),.l 50 (.ld1 (.t 49)),.q 51 (.lnS (.t 50)),.q 52 (.nc (.t 46)),.q 53 (.fa 1 (.t 52)),.s (.st 1 (.t 53) (.t 51))])))) .ret)))))))))
def U2:List RV:=[]
theorem aG0:aY Tryz.prog true ⟨fun r k=>if r=1/\k=1 then .own [0] else if r=5/\k=9 then .q else .own [],fun _=>false⟩ Tryz.f100=some (WY,U2):=by kernel_rfl
def VI:PC:=.seq (.reg [.q 2 (.mv (.i 0))]) (.seq (.seq (.reg [.v 3 0,.q 4 (.nc (.t 3)),.q 5 (.fa 1 (.t 4)),.l 6 (.ld1 (.t 5)),.v 7 0,.q 8 (.nc (.t 7)),.q 9 (.fa 0 (.t 8)),.l 10 (.ld1 (.t 9)),.q 11 (.lnS (.t 10)),.q 12 (.bin .geq true (.t 6) (.t 11))]) (.cond (.t 12) (.seq (.reg [.q 2 (.mv (.i (-1)))]) .ret) .skip)) (.seq (.reg [.v 13 0,.q 14 (.nc (.t 13)),.q 15 (.fa 0 (.t 14)),.l 16 (.ld1 (.t 15)),.v 17 0,.q 18 (.nc (.t 17)),.q 19 (.fa 1 (.t 18)),.l 20 (.ld1 (.t 19)),.a 21 (.ix (.t 16) (.t 20)),.a 22 (.cq 108 [(.t 21)]),.v 2 22]) .ret))
def UJ:List RV:=[.mv (.t 2)]
theorem aGX:aY Tryz.prog true ⟨fun r k=>if r=3/\k=9 then .q else .own [],fun _=>false⟩ Tryz.f101=some (VI,UJ):=by kernel_rfl
def U8:PC:=.seq (.reg [.e 2 (.al (.agg #[(.int .i64 0),(.string (mk [])),(.int .i64 0),(.int .i64 0)]) 74)]) (.seq (.reg [.v 5 0,.q 6 (.nc (.t 5)),.q 7 (.fa 1 (.t 6)),.l 8 (.ld1 (.t 7)),.v 3 8]) (.seq (.seq (.reg [.v 9 0,.a 10 (.cl 101 [(.t 9)] [0]),.v 4 10]) (.block 0 (.loop (.seq (.seq (.reg [.v 11 4,.q 12 (.bin .eql true (.t 11) (.i 3)),.v 13 12,⟨some 14,(some (13,false)),.q (.mv (.t 4))⟩,⟨some 15,(some (13,false)),.q (.bin .eql true (.t 14) (.i 4))⟩,.a 16 (.pick (.t 13) (.k (.bool true)) (.t 15)),.v 17 16,⟨some 18,(some (17,false)),.q (.mv (.t 4))⟩,⟨some 19,(some (17,false)),.q (.bin .eql true (.t 18) (.i 6))⟩,.a 20 (.pick (.t 17) (.k (.bool true)) (.t 19))]) (.cond (.t 20) .skip (.exit 0))) (.seq (.block 1 (.reg [.v 23 0,.q 24 (.nc (.t 23)),.q 25 (.fa 1 (.t 24)),.l 26 (.ld1 (.t 25)),.q 27 (.bin .add true (.t 26) (.i 1)),.q 28 (.nc (.t 23)),.q 29 (.fa 1 (.t 28)),.s (.st 1 (.t 29) (.t 27))])) (.reg [.v 21 0,.a 22 (.cl 101 [(.t 21)] [0]),.v 4 22])))))) (.seq (.seq (.reg [.v 30 0,.q 31 (.nc (.t 30)),.q 32 (.fa 1 (.t 31)),.l 33 (.ld1 (.t 32)),.v 34 3,.q 35 (.bin .sub true (.t 33) (.t 34)),.q 36 (.bin .gtr true (.t 35) (.i 16))]) (.cond (.t 36) (.reg [.v 37 0,.v 38 3,.a 39 (.cl 105 [(.t 37),(.i 3),(.t 38)] [0])]) .skip)) (.seq (.seq (.reg [.v 40 0,.a 41 (.cl 101 [(.t 40)] [0]),.q 42 (.bin .eql true (.t 41) (.i 5))]) (.cond (.t 42) (.reg [.v 43 0,.v 44 0,.q 45 (.nc (.t 44)),.q 46 (.fa 1 (.t 45)),.l 47 (.ld1 (.t 46)),.a 48 (.cl 105 [(.t 43),(.i 2),(.t 47)] [0])]) .skip)) (.seq (.reg [.v 49 0,.q 50 (.nc (.t 49)),.q 51 (.fa 0 (.t 50)),.l 52 (.ld1 (.t 51)),.v 53 3,.v 54 0,.q 55 (.nc (.t 54)),.q 56 (.fa 1 (.t 55)),.l 57 (.ld1 (.t 56)),.q 58 (.ss (.t 52) (some (.t 53)) (some (.t 57))),.v 59 3,.q 60 (.bd [(.int .i64 0),(.string (mk [])),(.int .i64 0),(.int .i64 0)] [(0,1,(.i 1)),(1,1,(.t 58)),(3,1,(.t 59))]),.s (.st 4 (.t 2) (.t 60))]) .ret)))))
def V5:List RV:=[.ld (.ldn 4 (.t 2))]
theorem aII:aY Tryz.prog true ⟨fun r k=>if r=2/\k=1 then .own [0] else if r=4/\k=1 then .own [0] else if r=7/\k=2 then .own [0] else if r=8/\k=1 then .own [0] else if r=9/\k=5 then .own [0] else .own [],fun _=>false⟩ Tryz.f102=some (U8,V5):=by kernel_rfl
def pc103_15:PC:=.seq (.seq (.gh (.reg [.v 79 0,.a 80 (.cl 101 [(.t 79)] [0]),.v 9 80])) (.seq (.reg [.v 81 9,.q 82 (.bin .eql true (.t 81) (.i 3)),.v 83 82,⟨some 84,(some (83,false)),.q (.mv (.t 9))⟩,⟨some 85,(some (83,false)),.q (.bin .eql true (.t 84) (.i 6))⟩,.a 86 (.pick (.t 83) (.k (.bool true)) (.t 85)),.v 87 86,⟨some 88,(some (87,false)),.q (.mv (.t 9))⟩,⟨some 89,(some (87,false)),.q (.bin .eql true (.t 88) (.i 5))⟩,.a 90 (.pick (.t 87) (.k (.bool true)) (.t 89))]) (.cond (.t 90) (.reg [.v 91 0,.v 92 0,.q 93 (.nc (.t 92)),.q 94 (.fa 1 (.t 93)),.l 95 (.ld1 (.t 94)),.a 96 (.cl 105 [(.t 91),(.i 2),(.t 95)] [0])]) .skip))) (.seq (.reg [.v 97 7,.v 98 3,.q 99 (.bd [(.int .i64 0),(.string (mk [])),(.int .i64 0),(.int .i64 0)] [(0,1,(.i 2)),(2,1,(.t 97)),(3,1,(.t 98))]),.s (.st 4 (.t 2) (.t 99))]) .ret)
@[go_sem ↓] theorem aHO:bT pc103_15:=bY _
def pc103_5:PC:=.seq (.gh (.reg [.v 25 0,.q 26 (.nc (.t 25)),.q 27 (.fa 1 (.t 26)),.l 28 (.ld1 (.t 27)),.v 5 28])) (.seq (.block 0 (.loop (.seq (.seq (.reg [.v 29 0,.a 30 (.cl 101 [(.t 29)] [0]),.q 31 (.bin .eql true (.t 30) (.i 4))]) (.cond (.t 31) .skip (.exit 0))) (.block 1 (.reg [.v 32 0,.q 33 (.nc (.t 32)),.q 34 (.fa 1 (.t 33)),.l 35 (.ld1 (.t 34)),.q 36 (.bin .add true (.t 35) (.i 1)),.q 37 (.nc (.t 32)),.q 38 (.fa 1 (.t 37)),.s (.st 1 (.t 38) (.t 36))]))))) (.seq (.reg [.v 39 0,.q 40 (.nc (.t 39)),.q 41 (.fa 0 (.t 40)),.l 42 (.ld1 (.t 41)),.v 43 5,.v 44 0,.q 45 (.nc (.t 44)),.q 46 (.fa 1 (.t 45)),.l 47 (.ld1 (.t 46)),.q 48 (.ss (.t 42) (some (.t 43)) (some (.t 47))),.v 6 48]) (.seq (.seq (.reg [.v 49 6,.q 50 (.bin .eql true (.t 49) (.k (.string (mk [])))),.v 51 50,⟨some 52,(some (51,false)),.q (.mv (.t 6))⟩,⟨some 53,(some (51,false)),.ix (.t 52) (.i 0)⟩,⟨some 54,(some (51,false)),.q (.bin .eql true (.t 53) (.k (.int .u8 48)))⟩,⟨some 55,(some (51,false)),.q (.mv (.t 54))⟩,⟨some 56,(some (55,true)),.q (.mv (.t 6))⟩,⟨some 57,(some (55,true)),.q (.lnS (.t 56))⟩,⟨some 58,(some (55,true)),.q (.bin .gtr true (.t 57) (.i 1))⟩,⟨some 59,(some (55,true)),.q (.mv (.t 58))⟩,⟨some 60,(some (59,false)),.q (.mv (.t 4))⟩,⟨some 61,(some (55,true)),.pick (.t 59) (.k (.bool true)) (.t 60)⟩,⟨some 62,(some (51,false)),.pick (.t 55) (.t 61) (.k (.bool false))⟩,.a 63 (.pick (.t 51) (.k (.bool true)) (.t 62))]) (.cond (.t 63) (.seq (.reg [.v 64 0,.v 65 3,.a 66 (.cl 105 [(.t 64),(.i 2),(.t 65)] [0])]) (.seq (.reg [.q 67 (.bd [(.int .i64 0),(.string (mk [])),(.int .i64 0),(.int .i64 0)] []),.s (.st 4 (.t 2) (.t 67))]) .ret)) .skip)) (.seq (.reg [.v 69 4,.v 70 6,.a 71 (.cl 120 [(.t 69),(.t 70)] []),.v 68 71,.q 72 (.ex (.t 68) 0),.q 73 (.ex (.t 68) 1),.v 7 72,.v 8 73]) (.seq (.seq (.reg [.v 74 8,.q 75 (.not (.t 74))]) (.cond (.t 75) (.reg [.v 76 0,.v 77 3,.a 78 (.cl 105 [(.t 76),(.i 4),(.t 77)] [0])]) .skip)) (pc103_15))))))
@[go_sem ↓] theorem aJT:bT pc103_5:=bY _
def VX:PC:=.seq (.reg [.e 2 (.al (.agg #[(.int .i64 0),(.string (mk [])),(.int .i64 0),(.int .i64 0)]) 74)]) (.seq (.reg [.v 10 0,.q 11 (.nc (.t 10)),.q 12 (.fa 1 (.t 11)),.l 13 (.ld1 (.t 12)),.v 3 13]) (.seq (.reg [.v 14 0,.a 15 (.cl 101 [(.t 14)] [0]),.q 16 (.bin .eql true (.t 15) (.i 5)),.v 4 16]) (.seq (.seq (.reg [.v 17 4]) (.cond (.t 17) (.reg [.v 18 0,.q 19 (.nc (.t 18)),.q 20 (.fa 1 (.t 19)),.l 21 (.ld1 (.t 20)),.q 22 (.bin .add true (.t 21) (.i 1)),.q 23 (.nc (.t 18)),.q 24 (.fa 1 (.t 23)),.s (.st 1 (.t 24) (.t 22))]) .skip)) (pc103_5))))
def wT:List RV:=[.ld (.ldn 4 (.t 2))]
theorem aGH:aY Tryz.prog true ⟨fun r k=>if r=2/\k=1 then .own [0] else if r=6/\k=1 then .own [0] else if r=10/\k=2 then .own [0] else if r=14/\k=2 then .own [0] else if r=15/\k=1 then .own [0] else if r=17/\k=5 then .own [0] else .own [],fun r=>[5,15].contains r⟩ Tryz.f103=some (VX,wT):=by kernel_rfl
def V9:PC:=.seq (.reg [.e 2 (.al (.agg #[(.int .i64 0),(.string (mk [])),(.int .i64 0),(.int .i64 0)]) 74)]) (.seq (.reg [.v 6 0,.q 7 (.nc (.t 6)),.q 8 (.fa 1 (.t 7)),.l 9 (.ld1 (.t 8)),.v 3 9]) (.seq (.reg [.e 4 (.al (.agg #[(.pointer none),(.slice none 0 0)]) 95)]) (.seq (.seq (.reg [.v 10 0,.q 11 (.nc (.t 10)),.q 12 (.fa 1 (.t 11)),.l 13 (.ld1 (.t 12)),.q 14 (.bin .add true (.t 13) (.i 1)),.q 15 (.nc (.t 10)),.q 16 (.fa 1 (.t 15)),.s (.st 1 (.t 16) (.t 14))]) (.block 0 (.loop (.seq (.block 1 (.seq (.seq (.reg [.v 24 0,.q 25 (.nc (.t 24)),.q 26 (.fa 1 (.t 25)),.l 27 (.ld1 (.t 26)),.v 28 0,.q 29 (.nc (.t 28)),.q 30 (.fa 0 (.t 29)),.l 31 (.ld1 (.t 30)),.q 32 (.lnS (.t 31)),.q 33 (.bin .geq true (.t 27) (.t 32)),.v 34 33,⟨some 35,(some (34,false)),.q (.mv (.t 0))⟩,⟨some 36,(some (34,false)),.q (.nc (.t 35))⟩,⟨some 37,(some (34,false)),.q (.fa 0 (.t 36))⟩,⟨some 38,(some (34,false)),.l (.ld1 (.t 37))⟩,⟨some 39,(some (34,false)),.q (.mv (.t 0))⟩,⟨some 40,(some (34,false)),.q (.nc (.t 39))⟩,⟨some 41,(some (34,false)),.q (.fa 1 (.t 40))⟩,⟨some 42,(some (34,false)),.l (.ld1 (.t 41))⟩,⟨some 43,(some (34,false)),.ix (.t 38) (.t 42)⟩,⟨some 44,(some (34,false)),.q (.bin .lss true (.t 43) (.k (.int .u8 32)))⟩,.a 45 (.pick (.t 34) (.k (.bool true)) (.t 44)),.v 46 45,⟨some 47,(some (46,false)),.q (.mv (.t 0))⟩,⟨some 48,(some (46,false)),.q (.nc (.t 47))⟩,⟨some 49,(some (46,false)),.q (.fa 0 (.t 48))⟩,⟨some 50,(some (46,false)),.l (.ld1 (.t 49))⟩,⟨some 51,(some (46,false)),.q (.mv (.t 0))⟩,⟨some 52,(some (46,false)),.q (.nc (.t 51))⟩,⟨some 53,(some (46,false)),.q (.fa 1 (.t 52))⟩,⟨some 54,(some (46,false)),.l (.ld1 (.t 53))⟩,⟨some 55,(some (46,false)),.ix (.t 50) (.t 54)⟩,⟨some 56,(some (46,false)),.q (.bin .gtr true (.t 55) (.k (.int .u8 126)))⟩,.a 57 (.pick (.t 46) (.k (.bool true)) (.t 56))]) (.cond (.t 57) (.seq (.reg [.v 58 0,.v 59 0,.q 60 (.nc (.t 59)),.q 61 (.fa 1 (.t 60)),.l 62 (.ld1 (.t 61)),.a 63 (.cl 105 [(.t 58),(.i 2),(.t 62)] [0])]) (.seq (.reg [.q 64 (.bd [(.int .i64 0),(.string (mk [])),(.int .i64 0),(.int .i64 0)] []),.s (.st 4 (.t 2) (.t 64))]) .ret)) .skip)) (.seq (.reg [.v 65 0,.q 66 (.nc (.t 65)),.q 67 (.fa 0 (.t 66)),.l 68 (.ld1 (.t 67)),.v 69 0,.q 70 (.nc (.t 69)),.q 71 (.fa 1 (.t 70)),.l 72 (.ld1 (.t 71)),.a 73 (.ix (.t 68) (.t 72)),.v 5 73]) (.seq (.seq (.reg [.v 74 5,.q 75 (.bin .eql true (.t 74) (.k (.int .u8 34)))]) (.cond (.t 75) (.seq (.reg [.v 76 0,.q 77 (.nc (.t 76)),.q 78 (.fa 1 (.t 77)),.l 79 (.ld1 (.t 78)),.q 80 (.bin .add true (.t 79) (.i 1)),.q 81 (.nc (.t 76)),.q 82 (.fa 1 (.t 81)),.s (.st 1 (.t 82) (.t 80))]) (.exit 0)) .skip)) (.seq (.seq (.reg [.v 83 5,.q 84 (.bin .eql true (.t 83) (.k (.int .u8 92)))]) (.cond (.t 84) (.seq (.seq (.reg [.v 85 0,.q 86 (.nc (.t 85)),.q 87 (.fa 1 (.t 86)),.l 88 (.ld1 (.t 87)),.q 89 (.bin .add true (.t 88) (.i 1)),.v 90 0,.q 91 (.nc (.t 90)),.q 92 (.fa 0 (.t 91)),.l 93 (.ld1 (.t 92)),.q 94 (.lnS (.t 93)),.q 95 (.bin .geq true (.t 89) (.t 94)),.v 96 95,⟨some 97,(some (96,false)),.q (.mv (.t 0))⟩,⟨some 98,(some (96,false)),.q (.nc (.t 97))⟩,⟨some 99,(some (96,false)),.q (.fa 0 (.t 98))⟩,⟨some 100,(some (96,false)),.l (.ld1 (.t 99))⟩,⟨some 101,(some (96,false)),.q (.mv (.t 0))⟩,⟨some 102,(some (96,false)),.q (.nc (.t 101))⟩,⟨some 103,(some (96,false)),.q (.fa 1 (.t 102))⟩,⟨some 104,(some (96,false)),.l (.ld1 (.t 103))⟩,⟨some 105,(some (96,false)),.q (.bin .add true (.t 104) (.i 1))⟩,⟨some 106,(some (96,false)),.ix (.t 100) (.t 105)⟩,⟨some 107,(some (96,false)),.q (.bin .neq true (.t 106) (.k (.int .u8 34)))⟩,⟨some 108,(some (96,false)),.q (.mv (.t 107))⟩,⟨some 109,(some (108,true)),.q (.mv (.t 0))⟩,⟨some 110,(some (108,true)),.q (.nc (.t 109))⟩,⟨some 111,(some (108,true)),.q (.fa 0 (.t 110))⟩,⟨some 112,(some (108,true)),.l (.ld1 (.t 111))⟩,⟨some 113,(some (108,true)),.q (.mv (.t 0))⟩,⟨some 114,(some (108,true)),.q (.nc (.t 113))⟩,⟨some 115,(some (108,true)),.q (.fa 1 (.t 114))⟩,⟨some 116,(some (108,true)),.l (.ld1 (.t 115))⟩,⟨some 117,(some (108,true)),.q (.bin .add true (.t 116) (.i 1))⟩,⟨some 118,(some (108,true)),.ix (.t 112) (.t 117)⟩,⟨some 119,(some (108,true)),.q (.bin .neq true (.t 118) (.k (.int .u8 92)))⟩,⟨some 120,(some (96,false)),.pick (.t 108) (.t 119) (.k (.bool false))⟩,.a 121 (.pick (.t 96) (.k (.bool true)) (.t 120))]) (.cond (.t 121) (.seq (.reg [.v 122 0,.v 123 0,.q 124 (.nc (.t 123)),.q 125 (.fa 1 (.t 124)),.l 126 (.ld1 (.t 125)),.a 127 (.cl 105 [(.t 122),(.i 2),(.t 126)] [0])]) (.seq (.reg [.q 128 (.bd [(.int .i64 0),(.string (mk [])),(.int .i64 0),(.int .i64 0)] []),.s (.st 4 (.t 2) (.t 128))]) .ret)) .skip)) (.seq (.reg [.v 129 0,.q 130 (.nc (.t 129)),.q 131 (.fa 1 (.t 130)),.l 132 (.ld1 (.t 131)),.q 133 (.bin .add true (.t 132) (.i 1)),.q 134 (.nc (.t 129)),.q 135 (.fa 1 (.t 134)),.s (.st 1 (.t 135) (.t 133))]) (.reg [.v 136 0,.q 137 (.nc (.t 136)),.q 138 (.fa 0 (.t 137)),.l 139 (.ld1 (.t 138)),.v 140 0,.q 141 (.nc (.t 140)),.q 142 (.fa 1 (.t 141)),.l 143 (.ld1 (.t 142)),.a 144 (.ix (.t 139) (.t 143)),.v 5 144]))) .skip)) (.reg [.v 145 5,.a 146 (.cl 61 [(.t 4),(.t 145)] [2,3])])))))) (.reg [.v 17 0,.q 18 (.nc (.t 17)),.q 19 (.fa 1 (.t 18)),.l 20 (.ld1 (.t 19)),.q 21 (.bin .add true (.t 20) (.i 1)),.q 22 (.nc (.t 17)),.q 23 (.fa 1 (.t 22)),.s (.st 1 (.t 23) (.t 21))]))))) (.seq (.seq (.reg [.a 147 (.cl 60 [(.t 4)] [2,3]),.q 148 (.bin .gtr true (.t 147) (.i 200))]) (.cond (.t 148) (.reg [.v 149 0,.v 150 3,.a 151 (.cl 105 [(.t 149),(.i 3),(.t 150)] [0])]) .skip)) (.seq (.reg [.a 152 (.cl 63 [(.t 4)] [2,3]),.v 153 3,.q 154 (.bd [(.int .i64 0),(.string (mk [])),(.int .i64 0),(.int .i64 0)] [(0,1,(.i 3)),(1,1,(.t 152)),(3,1,(.t 153))]),.s (.st 4 (.t 2) (.t 154))]) .ret)))))
def VF:List RV:=[.ld (.ldn 4 (.t 2))]
theorem aG4:aY Tryz.prog true ⟨fun r k=>if r=6/\k=5 then .own [0] else if r=13/\k=5 then .own [0] else if r=17/\k=1 then .own [2,3] else if r=18/\k=0 then .own [2,3] else if r=19/\k=2 then .own [0] else if r=20/\k=0 then .own [2,3] else .own [],fun _=>false⟩ Tryz.f104=some (V9,VF):=by kernel_rfl
def WM:PC:=.seq (.reg [.v 6 0,.q 7 (.nc (.t 6)),.q 8 (.fa 2 (.t 7)),.l 9 (.ld1 (.t 8)),.q 10 (.bin .eql true (.t 9) (.i 0))]) (.cond (.t 10) (.reg [.v 11 0,.v 12 0,.v 13 1,.v 14 2,.q 15 (.nc (.t 11)),.q 16 (.fa 2 (.t 15)),.s (.st 1 (.t 16) (.t 13)),.q 17 (.nc (.t 12)),.q 18 (.fa 3 (.t 17)),.s (.st 1 (.t 18) (.t 14))]) .skip)
def UF:List RV:=[]
theorem aHY:aY Tryz.prog true ⟨fun _ _=>.own [],fun _=>false⟩ Tryz.f105=some (WM,UF):=by kernel_rfl
def U7:PC:=.seq (.reg [.q 2 (.mv (.i 0))]) (.seq (.seq (.reg [.v 4 0,.q 5 (.cvt .i32 (.t 4)),.v 3 5]) (.block 0 (.seq (.reg [.v 7 3,.q 8 (.bin .eql true (.t 7) (.k (.int .i32 32))),.v 9 8,⟨some 10,(some (9,false)),.q (.mv (.t 3))⟩,⟨some 11,(some (9,false)),.q (.bin .eql true (.t 10) (.k (.int .i32 9)))⟩,.a 12 (.pick (.t 9) (.k (.bool true)) (.t 11)),.v 13 12,⟨some 14,(some (13,false)),.q (.mv (.t 3))⟩,⟨some 15,(some (13,false)),.q (.bin .eql true (.t 14) (.k (.int .i32 10)))⟩,.a 16 (.pick (.t 13) (.k (.bool true)) (.t 15)),.v 6 16]) (.cond (.t 6) (.seq (.reg [.q 2 (.mv (.i 1))]) .ret) (.seq (.reg [.v 18 3,.q 19 (.bin .eql true (.t 18) (.k (.int .i32 35))),.v 17 19]) (.cond (.t 17) (.seq (.reg [.q 2 (.mv (.i 2))]) .ret) (.seq (.reg [.v 21 3,.q 22 (.bin .geq true (.t 21) (.k (.int .i32 97))),.v 23 22,⟨some 24,(some (23,true)),.q (.mv (.t 3))⟩,⟨some 25,(some (23,true)),.q (.bin .leq true (.t 24) (.k (.int .i32 122)))⟩,.a 26 (.pick (.t 23) (.t 25) (.k (.bool false))),.v 27 26,⟨some 28,(some (27,false)),.q (.mv (.t 3))⟩,⟨some 29,(some (27,false)),.q (.bin .geq true (.t 28) (.k (.int .i32 65)))⟩,⟨some 30,(some (27,false)),.q (.mv (.t 29))⟩,⟨some 31,(some (30,true)),.q (.mv (.t 3))⟩,⟨some 32,(some (30,true)),.q (.bin .leq true (.t 31) (.k (.int .i32 90)))⟩,⟨some 33,(some (27,false)),.pick (.t 30) (.t 32) (.k (.bool false))⟩,.a 34 (.pick (.t 27) (.k (.bool true)) (.t 33)),.v 20 34]) (.cond (.t 20) (.seq (.reg [.q 2 (.mv (.i 3))]) .ret) (.seq (.reg [.v 36 3,.q 37 (.bin .geq true (.t 36) (.k (.int .i32 48))),.v 38 37,⟨some 39,(some (38,true)),.q (.mv (.t 3))⟩,⟨some 40,(some (38,true)),.q (.bin .leq true (.t 39) (.k (.int .i32 57)))⟩,.a 41 (.pick (.t 38) (.t 40) (.k (.bool false))),.v 35 41]) (.cond (.t 35) (.seq (.reg [.q 2 (.mv (.i 4))]) .ret) (.seq (.reg [.v 43 3,.q 44 (.bin .eql true (.t 43) (.k (.int .i32 45))),.v 42 44]) (.cond (.t 42) (.seq (.reg [.q 2 (.mv (.i 5))]) .ret) (.seq (.reg [.v 46 3,.q 47 (.bin .eql true (.t 46) (.k (.int .i32 95))),.v 45 47]) (.cond (.t 45) (.seq (.reg [.q 2 (.mv (.i 6))]) .ret) (.seq (.reg [.v 49 3,.q 50 (.bin .eql true (.t 49) (.k (.int .i32 34))),.v 48 50]) (.cond (.t 48) (.seq (.reg [.q 2 (.mv (.i 7))]) .ret) (.seq (.reg [.v 52 0,.a 53 (.cq 119 [(.k (.string (mk [123,125,40,41,91,93,58,59,44,61,46,63,33,38,124,64]))),(.t 52)]),.q 54 (.bin .geq true (.t 53) (.i 0)),.v 51 54]) (.cond (.t 51) (.seq (.reg [.q 2 (.mv (.i 8))]) .ret) .skip)))))))))))))))))) (.seq (.reg [.q 2 (.mv (.i 0))]) .ret))
def U9:List RV:=[.mv (.t 2)]
theorem aH3:aY Tryz.prog true ⟨fun r k=>if r=16/\k=1 then .q else .own [],fun _=>false⟩ Tryz.f108=some (U7,U9):=by kernel_rfl
def OA:PC:=.seq (.reg [.v 2 0,.q 3 (.nc (.t 2)),.q 4 (.fa 0 (.t 3)),.l 5 (.ld1 (.t 4)),.q 6 (.eqP false (.t 5) (.k (.pointer none)))]) (.cond (.t 6) (.reg [.v 7 0,.v 8 0,.q 9 (.cu (.t 8)),.v 10 9,.q 11 (.c4u 95 2 (.t 10)),.q 12 (.nc (.t 7)),.q 13 (.fa 0 (.t 12)),.s (.st 1 (.t 13) (.t 11))]) (.seq (.reg [.v 14 0,.q 15 (.nc (.t 14)),.q 16 (.fa 0 (.t 15)),.l 17 (.ld1 (.t 16)),.v 18 0,.q 19 (.eqP true (.t 17) (.t 18))]) (.cond (.t 19) (.no) .skip)))
def OH:List RV:=[]
theorem aIG:aY Tryz.prog true ⟨fun _ _=>.own [],fun _=>false⟩ Tryz.f109=some (OA,OH):=by kernel_rfl
def VA:PC:=.seq (.reg [.q 6 (.mv (.k (.bool false)))]) (.seq (.seq (.reg [.v 8 0,.a 9 (.cl 38 [(.t 8)] [0]),.e 7 (.al (.agg #[(.int .i64 0),(.string (mk [])),(.int .i64 0),(.int .i64 0)]) 74),.s (.st 4 (.t 7) (.t 9))]) (.seq (.reg [.q 10 (.fa 0 (.t 7)),.l 11 (.ld1 (.t 10)),.v 12 1,.q 13 (.bin .neq true (.t 11) (.t 12)),.v 14 13,⟨some 15,(some (14,false)),.q (.fa 1 (.t 7))⟩,⟨some 16,(some (14,false)),.l (.ld1 (.t 15))⟩,⟨some 17,(some (14,false)),.q (.mv (.t 2))⟩,⟨some 18,(some (14,false)),.q (.bin .neq true (.t 16) (.t 17))⟩,.a 19 (.pick (.t 14) (.k (.bool true)) (.t 18))]) (.cond (.t 19) (.seq (.reg [.q 6 (.mv (.k (.bool false)))]) .ret) .skip))) (.seq (.reg [.v 20 0,.a 21 (.cl 81 [(.t 20)] [0])]) (.seq (.reg [.q 6 (.mv (.k (.bool true)))]) .ret)))
def VR:List RV:=[.mv (.t 6)]
theorem aG5:aY Tryz.prog true ⟨fun r k=>if r=1/\k=1 then .own [0] else if r=4/\k=1 then .own [0] else .own [],fun _=>false⟩ Tryz.f116=some (VA,VR):=by kernel_rfl
def pc120_4:PC:=.seq (.gh (.reg [.q 7 (.mv (.k (.int .u64 0)))])) (.seq (.seq (.reg [.v 11 1,.q 12 (.lnS (.t 11)),.q 13 (.mv (.i 0))]) (.block 0 (.loop (.seq (.reg [.q 14 (.bin .lss true (.t 13) (.t 12))]) (.seq (.cond (.t 14) .skip (.exit 0)) (.seq (.block 1 (.seq (.reg [.v 15 13,.v 8 15]) (.seq (.reg [.v 16 1,.v 17 8,.a 18 (.ix (.t 16) (.t 17)),.q 19 (.bin .sub true (.t 18) (.k (.int .u8 48))),.q 20 (.cvt .u64 (.t 19)),.v 9 20]) (.seq (.seq (.reg [.v 21 7,.v 22 6,.v 23 9,.q 24 (.bin .sub true (.t 22) (.t 23)),.q 25 (.bin .quo true (.t 24) (.k (.int .u64 10))),.q 26 (.bin .gtr true (.t 21) (.t 25))]) (.cond (.t 26) (.seq (.reg [.q 4 (.mv (.i 0)),.q 5 (.mv (.k (.bool false)))]) .ret) .skip)) (.reg [.v 27 7,.q 28 (.bin .mul true (.k (.int .u64 10)) (.t 27)),.v 29 9,.q 30 (.bin .add true (.t 28) (.t 29)),.v 7 30]))))) (.reg [.q 31 (.bin .add true (.t 13) (.i 1)),.v 13 31]))))))) (.seq (.seq (.reg [.v 32 0]) (.cond (.t 32) (.seq (.reg [.v 33 7,.q 34 (.neg false (.t 33)),.q 35 (.cvt .i64 (.t 34)),.v 4 35,.q 5 (.mv (.k (.bool true)))]) .ret) .skip)) (.seq (.reg [.v 36 7,.q 37 (.cvt .i64 (.t 36)),.v 4 37,.q 5 (.mv (.k (.bool true)))]) .ret)))
@[go_sem ↓] theorem aJ3:bT pc120_4:=bY _
def WW:PC:=.seq (.reg [.q 4 (.mv (.i 0)),.q 5 (.mv (.k (.bool false)))]) (.seq (.reg [.q 6 (.mv (.k (.int .u64 9223372036854775807)))]) (.seq (.seq (.reg [.v 10 0]) (.cond (.t 10) (.reg [.q 6 (.mv (.k (.int .u64 9223372036854775808)))]) .skip)) (pc120_4)))
def FB:List RV:=[.mv (.t 4),.mv (.t 5)]
theorem aI4:aY Tryz.prog true ⟨fun _ _=>.own [],fun r=>[4].contains r⟩ Tryz.f120=some (WW,FB):=by kernel_rfl
def VE:PC:=.seq (.reg [.q 4 (.mv (.k (.bool false)))]) (.seq (.reg [.v 5 0,.v 6 1,.a 7 (.cq 122 [(.t 5),(.t 6)]),.q 8 (.bin .geq true (.t 7) (.i 0)),.v 4 8]) .ret)
def UM:List RV:=[.mv (.t 4)]
theorem aJE:aY Tryz.prog true ⟨fun r k=>if r=1/\k=2 then .q else .own [],fun _=>false⟩ Tryz.f111=some (VE,UM):=by kernel_rfl
def VG:PC:=.seq (.reg [.q 4 (.mv (.i 0))]) (.seq (.seq (.reg [.v 6 0,.q 7 (.lnL (.t 6)),.q 8 (.mv (.i 0))]) (.block 0 (.loop (.seq (.reg [.q 9 (.bin .lss true (.t 8) (.t 7))]) (.seq (.cond (.t 9) .skip (.exit 0)) (.seq (.block 1 (.seq (.reg [.v 10 8,.v 5 10]) (.seq (.reg [.v 11 1,.v 12 0,.v 13 5,.l 14 (.ia 1 (.t 12) (.t 13)),.l 15 (.ld1 (.t 14)),.q 16 (.bin .eql true (.t 11) (.t 15))]) (.cond (.t 16) (.seq (.reg [.v 17 5,.v 4 17]) .ret) .skip)))) (.reg [.q 18 (.bin .add true (.t 8) (.i 1)),.v 8 18]))))))) (.seq (.reg [.q 4 (.mv (.i (-1)))]) .ret))
def UD:List RV:=[.mv (.t 4)]
theorem aJH:aY Tryz.prog true ⟨fun _ _=>.own [],fun _=>false⟩ Tryz.f122=some (VG,UD):=by kernel_rfl
def aA0:PC:=.seq (.reg [.e 1 (.bx 25 (.t 0)),.q 2 (.mv (.i 0))]) (.seq (.seq (.reg [.q 13 (.fa 0 (.t 1)),.l 14 (.ld1 (.t 13)),.q 15 (.bin .lss true (.t 14) (.i 1)),.v 16 15,⟨some 17,(some (16,false)),.q (.fa 0 (.t 1))⟩,⟨some 18,(some (16,false)),.l (.ld1 (.t 17))⟩,⟨some 19,(some (16,false)),.q (.bin .gtr true (.t 18) (.i 999))⟩,.a 20 (.pick (.t 16) (.k (.bool true)) (.t 19))]) (.cond (.t 20) (.seq (.reg [.q 2 (.mv (.i 4))]) .ret) .skip)) (.seq (.seq (.reg [.l 21 (.ldn 3 (.t 1)),.a 22 (.cq 72 [(.t 21)])]) (.cond (.t 22) (.seq (.reg [.q 2 (.mv (.i 3))]) .ret) .skip)) (.seq (.seq (.reg [.q 23 (.fa 1 (.t 1)),.l 24 (.ld1 (.t 23)),.q 25 (.lnL (.t 24)),.q 26 (.mv (.i 0))]) (.block 0 (.loop (.seq (.reg [.q 27 (.bin .lss true (.t 26) (.t 25))]) (.seq (.cond (.t 27) .skip (.exit 0)) (.seq (.block 1 (.seq (.reg [.v 28 26,.l 29 (.ia 3 (.t 24) (.t 26)),.l 30 (.ldn 3 (.t 29)),.e 4 (.al (.agg #[(.string (mk [])),(.slice none 0 0),(.slice none 0 0)]) 62),.v 3 28,.s (.st 3 (.t 4) (.t 30))]) (.seq (.seq (.reg [.q 31 (.fa 0 (.t 4)),.l 32 (.ld1 (.t 31)),.a 33 (.cq 73 [(.t 32)]),.q 34 (.not (.t 33))]) (.cond (.t 34) (.seq (.reg [.q 2 (.mv (.i 5))]) .ret) .skip)) (.seq (.seq (.reg [.q 35 (.fa 1 (.t 1)),.l 36 (.ld1 (.t 35)),.v 37 3,.q 38 (.sf 3 (.t 36) none (some (.t 37))),.q 39 (.lnL (.t 38)),.q 40 (.mv (.i 0))]) (.block 2 (.loop (.seq (.reg [.q 41 (.bin .lss true (.t 40) (.t 39))]) (.seq (.cond (.t 41) .skip (.exit 2)) (.seq (.block 3 (.seq (.reg [.l 42 (.ia 3 (.t 38) (.t 40)),.l 43 (.ldn 3 (.t 42)),.e 6 (.al (.agg #[(.string (mk [])),(.slice none 0 0),(.slice none 0 0)]) 62),.s (.st 3 (.t 6) (.t 43))]) (.seq (.reg [.q 44 (.fa 0 (.t 6)),.l 45 (.ld1 (.t 44)),.q 46 (.fa 0 (.t 4)),.l 47 (.ld1 (.t 46)),.q 48 (.bin .eql true (.t 45) (.t 47))]) (.cond (.t 48) (.seq (.reg [.q 2 (.mv (.i 7))]) .ret) .skip)))) (.reg [.q 49 (.bin .add true (.t 40) (.i 1)),.v 40 49]))))))) (.seq (.reg [.l 50 (.ldn 3 (.t 4)),.a 51 (.cq 74 [(.t 50)]),.v 7 51]) (.seq (.reg [.v 52 7,.q 53 (.bin .neq true (.t 52) (.i 0))]) (.cond (.t 53) (.seq (.reg [.v 54 7,.v 2 54]) .ret) .skip))))))) (.reg [.q 55 (.bin .add true (.t 26) (.i 1)),.v 26 55]))))))) (.seq (.reg [.l 56 (.ldn 3 (.t 1)),.a 57 (.cl 75 [(.t 56)] []),.e 8 (.al (.agg #[(.map none),(.map none)]) 117),.s (.st 2 (.t 8) (.t 57))]) (.seq (.seq (.reg [.q 58 (.fa 2 (.t 1)),.l 59 (.ld1 (.t 58)),.q 60 (.lnL (.t 59)),.q 61 (.mv (.i 0))]) (.block 4 (.loop (.seq (.reg [.q 62 (.bin .lss true (.t 61) (.t 60))]) (.seq (.cond (.t 62) .skip (.exit 4)) (.seq (.block 5 (.seq (.reg [.v 63 61,.l 64 (.ia 2 (.t 59) (.t 61)),.l 65 (.ldn 2 (.t 64)),.e 10 (.al (.agg #[(.string (mk [])),(.slice none 0 0)]) 56),.v 9 63,.s (.st 2 (.t 10) (.t 65))]) (.seq (.seq (.reg [.l 66 (.ldn 3 (.t 1)),.v 67 9,.q 68 (.fa 0 (.t 10)),.l 69 (.ld1 (.t 68)),.a 70 (.cq 76 [(.t 66),(.t 67),(.t 69)]),.v 11 70]) (.seq (.reg [.v 71 11,.q 72 (.bin .neq true (.t 71) (.i 0))]) (.cond (.t 72) (.seq (.reg [.v 73 11,.v 2 73]) .ret) .skip))) (.seq (.reg [.l 74 (.ldn 2 (.t 8)),.l 75 (.ldn 2 (.t 10)),.a 76 (.cl 77 [(.t 74),(.t 75)] [1,2]),.v 12 76]) (.seq (.reg [.v 77 12,.q 78 (.bin .neq true (.t 77) (.i 0))]) (.cond (.t 78) (.seq (.reg [.v 79 12,.v 2 79]) .ret) .skip)))))) (.reg [.q 80 (.bin .add true (.t 61) (.i 1)),.v 61 80]))))))) (.seq (.reg [.l 81 (.ldn 3 (.t 1)),.l 82 (.ldn 2 (.t 8)),.a 83 (.cl 78 [(.t 81),(.t 82)] [1,2]),.v 2 83]) .ret))))))
def aBW:List RV:=[.mv (.t 2)]
theorem aKM:aY Tryz.prog true ⟨fun r k=>if r=3/\k=1 then .q else if r=8/\k=2 then .q else if r=16/\k=1 then .q else if r=24/\k=4 then .q else if r=27/\k=2 then .own [1,2] else if r=31/\k=2 then .own [1,2] else .own [],fun _=>false⟩ Tryz.f31=some (aA0,aBW):=by kernel_rfl
def Z0:PC:=.seq (.reg [.e 1 (.bx 25 (.t 0)),.q 2 (.mv (.k (.bool false)))]) (.seq (.seq (.reg [.q 7 (.fa 1 (.t 1)),.l 8 (.ld1 (.t 7)),.q 9 (.lnL (.t 8)),.q 10 (.bin .gtr true (.t 9) (.i 16)),.v 11 10,⟨some 12,(some (11,false)),.q (.fa 2 (.t 1))⟩,⟨some 13,(some (11,false)),.l (.ld1 (.t 12))⟩,⟨some 14,(some (11,false)),.q (.lnL (.t 13))⟩,⟨some 15,(some (11,false)),.q (.fa 1 (.t 1))⟩,⟨some 16,(some (11,false)),.l (.ld1 (.t 15))⟩,⟨some 17,(some (11,false)),.q (.lnL (.t 16))⟩,⟨some 18,(some (11,false)),.q (.bin .sub true (.i 16) (.t 17))⟩,⟨some 19,(some (11,false)),.q (.bin .gtr true (.t 14) (.t 18))⟩,.a 20 (.pick (.t 11) (.k (.bool true)) (.t 19))]) (.cond (.t 20) (.seq (.reg [.q 2 (.mv (.k (.bool true)))]) .ret) .skip)) (.seq (.seq (.reg [.q 21 (.fa 1 (.t 1)),.l 22 (.ld1 (.t 21)),.q 23 (.lnL (.t 22)),.q 24 (.mv (.i 0))]) (.block 0 (.loop (.seq (.reg [.q 25 (.bin .lss true (.t 24) (.t 23))]) (.seq (.cond (.t 25) .skip (.exit 0)) (.seq (.block 1 (.seq (.reg [.l 26 (.ia 3 (.t 22) (.t 24)),.l 27 (.ldn 3 (.t 26)),.e 4 (.al (.agg #[(.string (mk [])),(.slice none 0 0),(.slice none 0 0)]) 62),.s (.st 3 (.t 4) (.t 27))]) (.seq (.reg [.q 28 (.fa 1 (.t 4)),.l 29 (.ld1 (.t 28)),.q 30 (.lnL (.t 29)),.q 31 (.bin .gtr true (.t 30) (.i 16))]) (.cond (.t 31) (.seq (.reg [.q 2 (.mv (.k (.bool true)))]) .ret) .skip)))) (.reg [.q 32 (.bin .add true (.t 24) (.i 1)),.v 24 32]))))))) (.seq (.seq (.reg [.q 33 (.fa 2 (.t 1)),.l 34 (.ld1 (.t 33)),.q 35 (.lnL (.t 34)),.q 36 (.mv (.i 0))]) (.block 2 (.loop (.seq (.reg [.q 37 (.bin .lss true (.t 36) (.t 35))]) (.seq (.cond (.t 37) .skip (.exit 2)) (.seq (.block 3 (.seq (.reg [.l 38 (.ia 2 (.t 34) (.t 36)),.l 39 (.ldn 2 (.t 38)),.e 6 (.al (.agg #[(.string (mk [])),(.slice none 0 0)]) 56),.s (.st 2 (.t 6) (.t 39))]) (.seq (.reg [.q 40 (.fa 1 (.t 6)),.l 41 (.ld1 (.t 40)),.q 42 (.lnL (.t 41)),.q 43 (.bin .gtr true (.t 42) (.i 16))]) (.cond (.t 43) (.seq (.reg [.q 2 (.mv (.k (.bool true)))]) .ret) .skip)))) (.reg [.q 44 (.bin .add true (.t 36) (.i 1)),.v 36 44]))))))) (.seq (.reg [.q 2 (.mv (.k (.bool false)))]) .ret))))
def aE7:List RV:=[.mv (.t 2)]
theorem aNQ:aY Tryz.prog true ⟨fun _ _=>.own [],fun _=>false⟩ Tryz.f72=some (Z0,aE7):=by kernel_rfl
def SV:PC:=.seq (.reg [.q 2 (.mv (.k (.bool false)))]) (.seq (.reg [.v 3 0,.a 4 (.cq 95 [(.t 3)]),.v 5 4,⟨some 6,(some (5,true)),.q (.mv (.t 0))⟩,⟨some 7,(some (5,true)),.ix (.t 6) (.i 0)⟩,⟨some 8,(some (5,true)),.q (.bin .geq true (.t 7) (.k (.int .u8 65)))⟩,.a 9 (.pick (.t 5) (.t 8) (.k (.bool false))),.v 10 9,⟨some 11,(some (10,true)),.q (.mv (.t 0))⟩,⟨some 12,(some (10,true)),.ix (.t 11) (.i 0)⟩,⟨some 13,(some (10,true)),.q (.bin .leq true (.t 12) (.k (.int .u8 90)))⟩,.a 14 (.pick (.t 10) (.t 13) (.k (.bool false))),.v 2 14]) .ret)
def UB:List RV:=[.mv (.t 2)]
theorem aLZ:aY Tryz.prog true ⟨fun r k=>if r=1/\k=1 then .q else .own [],fun _=>false⟩ Tryz.f73=some (SV,UB):=by kernel_rfl
def aAJ:PC:=.seq (.reg [.e 1 (.bx 62 (.t 0)),.q 2 (.mv (.i 0))]) (.seq (.seq (.reg [.q 6 (.fa 1 (.t 1)),.l 7 (.ld1 (.t 6)),.q 8 (.lnL (.t 7)),.q 9 (.bin .eql true (.t 8) (.i 0)),.v 10 9,⟨some 11,(some (10,false)),.q (.fa 1 (.t 1))⟩,⟨some 12,(some (10,false)),.l (.ld1 (.t 11))⟩,⟨some 13,(some (10,false)),.q (.lnL (.t 12))⟩,⟨some 14,(some (10,false)),.q (.fa 2 (.t 1))⟩,⟨some 15,(some (10,false)),.l (.ld1 (.t 14))⟩,⟨some 16,(some (10,false)),.q (.lnL (.t 15))⟩,⟨some 17,(some (10,false)),.q (.bin .neq true (.t 13) (.t 16))⟩,.a 18 (.pick (.t 10) (.k (.bool true)) (.t 17))]) (.cond (.t 18) (.seq (.reg [.q 2 (.mv (.i 2))]) .ret) .skip)) (.seq (.seq (.reg [.q 19 (.fa 1 (.t 1)),.l 20 (.ld1 (.t 19)),.q 21 (.lnL (.t 20)),.q 22 (.mv (.i 0))]) (.block 0 (.loop (.seq (.reg [.q 23 (.bin .lss true (.t 22) (.t 21))]) (.seq (.cond (.t 23) .skip (.exit 0)) (.seq (.block 1 (.seq (.reg [.v 24 22,.l 25 (.ia 1 (.t 20) (.t 22)),.l 26 (.ld1 (.t 25)),.v 3 24,.v 4 26]) (.seq (.reg [.q 27 (.fa 2 (.t 1)),.l 28 (.ld1 (.t 27)),.v 29 3,.l 30 (.ia 1 (.t 28) (.t 29)),.l 31 (.ld1 (.t 30)),.v 5 31]) (.block 2 (.seq (.reg [.v 33 4,.a 34 (.cq 95 [(.t 33)]),.q 35 (.not (.t 34)),.v 32 35]) (.cond (.t 32) (.seq (.reg [.q 2 (.mv (.i 5))]) .ret) (.seq (.reg [.q 37 (.fa 1 (.t 1)),.l 38 (.ld1 (.t 37)),.v 39 3,.q 40 (.sf 1 (.t 38) none (some (.t 39))),.v 41 4,.a 42 (.cq 111 [(.t 40),(.t 41)]),.v 36 42]) (.cond (.t 36) (.seq (.reg [.q 2 (.mv (.i 7))]) .ret) (.seq (.reg [.v 44 5,.q 45 (.bin .lss true (.t 44) (.i 0)),.v 46 45,⟨some 47,(some (46,false)),.q (.mv (.t 5))⟩,⟨some 48,(some (46,false)),.q (.bin .gtr true (.t 47) (.i 127))⟩,.a 49 (.pick (.t 46) (.k (.bool true)) (.t 48)),.v 43 49]) (.cond (.t 43) (.seq (.reg [.q 2 (.mv (.i 4))]) .ret) (.seq (.reg [.v 51 3,.q 52 (.bin .eql true (.t 51) (.i 0)),.v 53 52,⟨some 54,(some (53,true)),.q (.mv (.t 5))⟩,⟨some 55,(some (53,true)),.q (.bin .neq true (.t 54) (.i 0))⟩,.a 56 (.pick (.t 53) (.t 55) (.k (.bool false))),.v 57 56,⟨some 58,(some (57,false)),.q (.mv (.t 3))⟩,⟨some 59,(some (57,false)),.q (.bin .gtr true (.t 58) (.i 0))⟩,⟨some 60,(some (57,false)),.q (.mv (.t 59))⟩,⟨some 61,(some (60,true)),.q (.mv (.t 5))⟩,⟨some 62,(some (60,true)),.q (.fa 2 (.t 1))⟩,⟨some 63,(some (60,true)),.l (.ld1 (.t 62))⟩,⟨some 64,(some (60,true)),.q (.mv (.t 3))⟩,⟨some 65,(some (60,true)),.q (.bin .sub true (.t 64) (.i 1))⟩,⟨some 66,(some (60,true)),.l (.ia 1 (.t 63) (.t 65))⟩,⟨some 67,(some (60,true)),.l (.ld1 (.t 66))⟩,⟨some 68,(some (60,true)),.q (.bin .leq true (.t 61) (.t 67))⟩,⟨some 69,(some (57,false)),.pick (.t 60) (.t 68) (.k (.bool false))⟩,.a 70 (.pick (.t 57) (.k (.bool true)) (.t 69)),.v 50 70]) (.cond (.t 50) (.seq (.reg [.q 2 (.mv (.i 2))]) .ret) .skip)))))))))))) (.reg [.q 71 (.bin .add true (.t 22) (.i 1)),.v 22 71]))))))) (.seq (.reg [.q 2 (.mv (.i 0))]) .ret)))
def aGA:List RV:=[.mv (.t 2)]
theorem aLM:aY Tryz.prog true ⟨fun r k=>if r=7/\k=1 then .q else if r=9/\k=5 then .q else .own [],fun _=>false⟩ Tryz.f74=some (aAJ,aGA):=by kernel_rfl
def aDG:PC:=.seq (.reg [.e 1 (.bx 25 (.t 0)),.e 2 (.al (.agg #[(.map none),(.map none)]) 117)]) (.seq (.reg [.e 6 (.mm .string),.e 7 (.mm .string),.q 8 (.bd [(.map none),(.map none)] [(0,1,(.t 6)),(1,1,(.t 7))]),.e 3 (.al (.agg #[(.map none),(.map none)]) 117),.s (.st 2 (.t 3) (.t 8))]) (.seq (.seq (.reg [.q 9 (.fa 2 (.t 1)),.l 10 (.ld1 (.t 9)),.q 11 (.lnL (.t 10)),.q 12 (.bin .sub true (.t 11) (.i 1)),.v 4 12]) (.block 0 (.loop (.seq (.seq (.reg [.v 13 4,.q 14 (.bin .geq true (.t 13) (.i 0))]) (.cond (.t 14) .skip (.exit 0))) (.seq (.block 1 (.reg [.q 17 (.fa 0 (.t 3)),.l 18 (.ld1 (.t 17)),.q 19 (.fa 2 (.t 1)),.l 20 (.ld1 (.t 19)),.v 21 4,.l 22 (.ia 2 (.t 20) (.t 21)),.q 23 (.fa 0 (.t 22)),.l 24 (.ld1 (.t 23)),.q 25 (.fa 2 (.t 1)),.l 26 (.ld1 (.t 25)),.v 27 4,.l 28 (.ia 2 (.t 26) (.t 27)),.l 29 (.ldn 2 (.t 28)),.s (.mu .string (.t 18) (.t 24) (.t 29))])) (.reg [.v 15 4,.q 16 (.bin .sub true (.t 15) (.i 1)),.v 4 16])))))) (.seq (.seq (.reg [.q 30 (.fa 1 (.t 1)),.l 31 (.ld1 (.t 30)),.q 32 (.lnL (.t 31)),.q 33 (.bin .sub true (.t 32) (.i 1)),.v 5 33]) (.block 2 (.loop (.seq (.seq (.reg [.v 34 5,.q 35 (.bin .geq true (.t 34) (.i 0))]) (.cond (.t 35) .skip (.exit 2))) (.seq (.block 3 (.reg [.q 38 (.fa 1 (.t 3)),.l 39 (.ld1 (.t 38)),.q 40 (.fa 1 (.t 1)),.l 41 (.ld1 (.t 40)),.v 42 5,.l 43 (.ia 3 (.t 41) (.t 42)),.q 44 (.fa 0 (.t 43)),.l 45 (.ld1 (.t 44)),.q 46 (.fa 1 (.t 1)),.l 47 (.ld1 (.t 46)),.v 48 5,.l 49 (.ia 3 (.t 47) (.t 48)),.l 50 (.ldn 3 (.t 49)),.s (.mu .string (.t 39) (.t 45) (.t 50))])) (.reg [.v 36 5,.q 37 (.bin .sub true (.t 36) (.i 1)),.v 5 37])))))) (.seq (.reg [.l 51 (.ldn 2 (.t 3)),.s (.st 2 (.t 2) (.t 51))]) .ret))))
def aC5:List RV:=[.ld (.ldn 2 (.t 2))]
theorem aMT:aY Tryz.prog true ⟨fun _ _=>.own [],fun _=>false⟩ Tryz.f75=some (aDG,aC5):=by kernel_rfl
def aDX:PC:=.seq (.reg [.e 3 (.bx 25 (.t 0)),.q 6 (.mv (.i 0))]) (.seq (.seq (.reg [.v 11 2,.a 12 (.cq 73 [(.t 11)]),.q 13 (.not (.t 12))]) (.cond (.t 13) (.seq (.reg [.q 6 (.mv (.i 5))]) .ret) .skip)) (.seq (.seq (.reg [.q 14 (.fa 1 (.t 3)),.l 15 (.ld1 (.t 14)),.q 16 (.lnL (.t 15)),.q 17 (.mv (.i 0))]) (.block 0 (.loop (.seq (.reg [.q 18 (.bin .lss true (.t 17) (.t 16))]) (.seq (.cond (.t 18) .skip (.exit 0)) (.seq (.block 1 (.seq (.reg [.l 19 (.ia 3 (.t 15) (.t 17)),.l 20 (.ldn 3 (.t 19)),.e 8 (.al (.agg #[(.string (mk [])),(.slice none 0 0),(.slice none 0 0)]) 62),.s (.st 3 (.t 8) (.t 20))]) (.seq (.reg [.q 21 (.fa 0 (.t 8)),.l 22 (.ld1 (.t 21)),.v 23 2,.q 24 (.bin .eql true (.t 22) (.t 23))]) (.cond (.t 24) (.seq (.reg [.q 6 (.mv (.i 7))]) .ret) .skip)))) (.reg [.q 25 (.bin .add true (.t 17) (.i 1)),.v 17 25]))))))) (.seq (.seq (.reg [.q 26 (.fa 2 (.t 3)),.l 27 (.ld1 (.t 26)),.v 28 1,.q 29 (.sf 2 (.t 27) none (some (.t 28))),.q 30 (.lnL (.t 29)),.q 31 (.mv (.i 0))]) (.block 2 (.loop (.seq (.reg [.q 32 (.bin .lss true (.t 31) (.t 30))]) (.seq (.cond (.t 32) .skip (.exit 2)) (.seq (.block 3 (.seq (.reg [.l 33 (.ia 2 (.t 29) (.t 31)),.l 34 (.ldn 2 (.t 33)),.e 10 (.al (.agg #[(.string (mk [])),(.slice none 0 0)]) 56),.s (.st 2 (.t 10) (.t 34))]) (.seq (.reg [.q 35 (.fa 0 (.t 10)),.l 36 (.ld1 (.t 35)),.v 37 2,.q 38 (.bin .eql true (.t 36) (.t 37))]) (.cond (.t 38) (.seq (.reg [.q 6 (.mv (.i 7))]) .ret) .skip)))) (.reg [.q 39 (.bin .add true (.t 31) (.i 1)),.v 31 39]))))))) (.seq (.reg [.q 6 (.mv (.i 0))]) .ret))))
def aDW:List RV:=[.mv (.t 6)]
theorem aML:aY Tryz.prog true ⟨fun r k=>if r=1/\k=1 then .q else .own [],fun _=>false⟩ Tryz.f76=some (aDX,aDW):=by kernel_rfl
def aCZ:PC:=.seq (.reg [.e 2 (.bx 117 (.t 0)),.e 3 (.bx 56 (.t 1)),.q 4 (.mv (.i 0))]) (.seq (.seq (.reg [.q 9 (.fa 1 (.t 3)),.l 10 (.ld1 (.t 9)),.q 11 (.lnL (.t 10)),.q 12 (.mv (.i 0))]) (.block 0 (.loop (.seq (.reg [.q 13 (.bin .lss true (.t 12) (.t 11))]) (.seq (.cond (.t 13) .skip (.exit 0)) (.seq (.block 1 (.seq (.reg [.v 14 12,.l 15 (.ia 7 (.t 10) (.t 12)),.l 16 (.ldn 7 (.t 15)),.e 6 (.al (.agg #[(.int .i64 0),(.string (mk [])),(.int .i64 0),(.int .i64 0),(.string (mk [])),(.slice none 0 0),(.bool false)]) 64),.v 5 14,.s (.st 7 (.t 6) (.t 16))]) (.seq (.block 2 (.seq (.reg [.q 18 (.fa 0 (.t 6)),.l 19 (.ld1 (.t 18)),.q 20 (.bin .lss true (.t 19) (.i 1)),.v 21 20,⟨some 22,(some (21,false)),.q (.fa 0 (.t 6))⟩,⟨some 23,(some (21,false)),.l (.ld1 (.t 22))⟩,⟨some 24,(some (21,false)),.q (.bin .gtr true (.t 23) (.i 127))⟩,.a 25 (.pick (.t 21) (.k (.bool true)) (.t 24)),.v 17 25]) (.cond (.t 17) (.seq (.reg [.q 4 (.mv (.i 4))]) .ret) (.seq (.reg [.v 27 5,.q 28 (.bin .gtr true (.t 27) (.i 0)),.v 29 28,⟨some 30,(some (29,true)),.q (.fa 0 (.t 6))⟩,⟨some 31,(some (29,true)),.l (.ld1 (.t 30))⟩,⟨some 32,(some (29,true)),.q (.fa 1 (.t 3))⟩,⟨some 33,(some (29,true)),.l (.ld1 (.t 32))⟩,⟨some 34,(some (29,true)),.q (.mv (.t 5))⟩,⟨some 35,(some (29,true)),.q (.bin .sub true (.t 34) (.i 1))⟩,⟨some 36,(some (29,true)),.l (.ia 7 (.t 33) (.t 35))⟩,⟨some 37,(some (29,true)),.q (.fa 0 (.t 36))⟩,⟨some 38,(some (29,true)),.l (.ld1 (.t 37))⟩,⟨some 39,(some (29,true)),.q (.bin .leq true (.t 31) (.t 38))⟩,.a 40 (.pick (.t 29) (.t 39) (.k (.bool false))),.v 26 40]) (.cond (.t 26) (.seq (.reg [.q 4 (.mv (.i 2))]) .ret) (.seq (.reg [.q 42 (.fa 1 (.t 6)),.l 43 (.ld1 (.t 42)),.a 44 (.cq 95 [(.t 43)]),.q 45 (.not (.t 44)),.v 41 45]) (.cond (.t 41) (.seq (.reg [.q 4 (.mv (.i 5))]) .ret) .skip))))))) (.seq (.seq (.reg [.q 46 (.fa 1 (.t 3)),.l 47 (.ld1 (.t 46)),.v 48 5,.q 49 (.sf 7 (.t 47) none (some (.t 48))),.q 50 (.lnL (.t 49)),.q 51 (.mv (.i 0))]) (.block 3 (.loop (.seq (.reg [.q 52 (.bin .lss true (.t 51) (.t 50))]) (.seq (.cond (.t 52) .skip (.exit 3)) (.seq (.block 4 (.seq (.reg [.l 53 (.ia 7 (.t 49) (.t 51)),.l 54 (.ldn 7 (.t 53)),.e 8 (.al (.agg #[(.int .i64 0),(.string (mk [])),(.int .i64 0),(.int .i64 0),(.string (mk [])),(.slice none 0 0),(.bool false)]) 64),.s (.st 7 (.t 8) (.t 54))]) (.seq (.reg [.q 55 (.fa 1 (.t 8)),.l 56 (.ld1 (.t 55)),.q 57 (.fa 1 (.t 6)),.l 58 (.ld1 (.t 57)),.q 59 (.bin .eql true (.t 56) (.t 58))]) (.cond (.t 59) (.seq (.reg [.q 4 (.mv (.i 7))]) .ret) .skip)))) (.reg [.q 60 (.bin .add true (.t 51) (.i 1)),.v 51 60]))))))) (.seq (.reg [.l 61 (.ldn 2 (.t 2)),.q 62 (.fa 2 (.t 6)),.l 63 (.ldn 4 (.t 62)),.a 64 (.cl 112 [(.t 61),(.t 63)] [0,1]),.q 65 (.not (.t 64))]) (.cond (.t 65) (.seq (.reg [.q 4 (.mv (.i 13))]) .ret) .skip)))))) (.reg [.q 66 (.bin .add true (.t 12) (.i 1)),.v 12 66]))))))) (.seq (.reg [.q 4 (.mv (.i 0))]) .ret))
def aB9:List RV:=[.mv (.t 4)]
theorem aKT:aY Tryz.prog true ⟨fun r k=>if r=8/\k=2 then .q else if r=16/\k=3 then .own [0,1] else .own [],fun _=>false⟩ Tryz.f77=some (aCZ,aB9):=by kernel_rfl
def aFG:PC:=.seq (.reg [.e 2 (.bx 25 (.t 0)),.e 3 (.bx 117 (.t 1)),.q 4 (.mv (.i 0))]) (.seq (.seq (.reg [.q 9 (.fa 2 (.t 2)),.l 10 (.ld1 (.t 9)),.q 11 (.lnL (.t 10)),.q 12 (.mv (.i 0))]) (.block 0 (.loop (.seq (.reg [.q 13 (.bin .lss true (.t 12) (.t 11))]) (.seq (.cond (.t 13) .skip (.exit 0)) (.seq (.block 1 (.seq (.reg [.l 14 (.ia 2 (.t 10) (.t 12)),.l 15 (.ldn 2 (.t 14)),.e 6 (.al (.agg #[(.string (mk [])),(.slice none 0 0)]) 56),.s (.st 2 (.t 6) (.t 15))]) (.seq (.ord  [.q (.l 16 (.ldn 2 (.t 3))),.q (.q 17 (.fa 0 (.t 6))),.q (.l 18 (.ld1 (.t 17))),.q (.q 20 (.fa 0 (.t 6))),.q (.l 21 (.ld1 (.t 20))),.m (.a 19 (.cl 113 [(.t 16),(.t 18)] [0,1])),.rc (.q 20 (.fa 0 (.t 6))),.rc (.l 21 (.ld1 (.t 20))),.m (.a 22 (.cq 111 [(.t 19),(.t 21)]))]) (.cond (.t 22) (.seq (.reg [.q 4 (.mv (.i 19))]) .ret) .skip)))) (.reg [.q 23 (.bin .add true (.t 12) (.i 1)),.v 12 23]))))))) (.seq (.seq (.reg [.q 24 (.fa 2 (.t 2)),.l 25 (.ld1 (.t 24)),.q 26 (.lnL (.t 25)),.q 27 (.mv (.i 0))]) (.block 2 (.loop (.seq (.reg [.q 28 (.bin .lss true (.t 27) (.t 26))]) (.seq (.cond (.t 28) .skip (.exit 2)) (.seq (.block 3 (.seq (.reg [.l 29 (.ia 2 (.t 25) (.t 27)),.l 30 (.ldn 2 (.t 29)),.e 8 (.al (.agg #[(.string (mk [])),(.slice none 0 0)]) 56),.s (.st 2 (.t 8) (.t 30))]) (.seq (.reg [.l 31 (.ldn 2 (.t 3)),.l 32 (.ldn 2 (.t 8)),.a 33 (.cl 114 [(.t 31),(.t 32)] [0,1]),.q 34 (.bin .gtr true (.t 33) (.i 6))]) (.cond (.t 34) (.seq (.reg [.q 4 (.mv (.i 9))]) .ret) .skip)))) (.reg [.q 35 (.bin .add true (.t 27) (.i 1)),.v 27 35]))))))) (.seq (.reg [.q 4 (.mv (.i 0))]) .ret)))
def aAZ:List RV:=[.mv (.t 4)]
theorem aLD:aY Tryz.prog true ⟨fun r k=>if r=4/\k=3 then .own [0,1] else if r=4/\k=6 then .q else if r=10/\k=2 then .own [0,1] else .own [],fun _=>false⟩ Tryz.f78=some (aFG,aAZ):=by kernel_rfl
def kY:PC:=.seq (.reg [.e 2 (.bx 117 (.t 0)),.e 3 (.bx 37 (.t 1)),.q 4 (.mv (.k (.bool false)))]) (.seq (.seq (.reg [.q 10 (.fa 0 (.t 3)),.l 11 (.ld1 (.t 10))]) (.block 0 (.seq (.reg [.q 13 (.bin .eql true (.t 11) (.i 1)),.v 12 13]) (.cond (.t 12) (.seq (.reg [.q 14 (.fa 1 (.t 3)),.l 15 (.ld1 (.t 14)),.q 16 (.bin .eql true (.t 15) (.i 0)),.v 17 16,⟨some 18,(some (17,true)),.q (.fa 2 (.t 3))⟩,⟨some 19,(some (17,true)),.l (.ld1 (.t 18))⟩,⟨some 20,(some (17,true)),.q (.bin .eql true (.t 19) (.k (.string (mk []))))⟩,.a 21 (.pick (.t 17) (.t 20) (.k (.bool false))),.v 22 21,⟨some 23,(some (22,true)),.q (.fa 3 (.t 3))⟩,⟨some 24,(some (22,true)),.l (.ld1 (.t 23))⟩,⟨some 25,(some (22,true)),.q (.lnL (.t 24))⟩,⟨some 26,(some (22,true)),.q (.bin .eql true (.t 25) (.i 0))⟩,.a 27 (.pick (.t 22) (.t 26) (.k (.bool false))),.v 4 27]) .ret) (.seq (.seq (.reg [.q 29 (.bin .eql true (.t 11) (.i 2)),.v 28 29]) (.cond (.t 28) .skip (.reg [.q 30 (.bin .eql true (.t 11) (.i 3)),.v 28 30]))) (.cond (.t 28) (.seq (.reg [.q 31 (.fa 1 (.t 3)),.l 32 (.ld1 (.t 31)),.q 33 (.bin .eql true (.t 32) (.i 64)),.v 34 33,⟨some 35,(some (34,true)),.q (.fa 0 (.t 3))⟩,⟨some 36,(some (34,true)),.l (.ld1 (.t 35))⟩,⟨some 37,(some (34,true)),.q (.bin .eql true (.t 36) (.i 2))⟩,.a 38 (.pick (.t 34) (.t 37) (.k (.bool false))),.v 5 38]) (.seq (.reg [.q 39 (.fa 1 (.t 3)),.l 40 (.ld1 (.t 39)),.q 41 (.bin .eql true (.t 40) (.i 8)),.v 42 41,⟨some 43,(some (42,false)),.q (.fa 1 (.t 3))⟩,⟨some 44,(some (42,false)),.l (.ld1 (.t 43))⟩,⟨some 45,(some (42,false)),.q (.bin .eql true (.t 44) (.i 16))⟩,.a 46 (.pick (.t 42) (.k (.bool true)) (.t 45)),.v 47 46,⟨some 48,(some (47,false)),.q (.fa 1 (.t 3))⟩,⟨some 49,(some (47,false)),.l (.ld1 (.t 48))⟩,⟨some 50,(some (47,false)),.q (.bin .eql true (.t 49) (.i 32))⟩,.a 51 (.pick (.t 47) (.k (.bool true)) (.t 50)),.v 52 51,⟨some 53,(some (52,false)),.q (.mv (.t 5))⟩,.a 54 (.pick (.t 52) (.k (.bool true)) (.t 53)),.v 55 54,⟨some 56,(some (55,true)),.q (.fa 2 (.t 3))⟩,⟨some 57,(some (55,true)),.l (.ld1 (.t 56))⟩,⟨some 58,(some (55,true)),.q (.bin .eql true (.t 57) (.k (.string (mk []))))⟩,.a 59 (.pick (.t 55) (.t 58) (.k (.bool false))),.v 60 59,⟨some 61,(some (60,true)),.q (.fa 3 (.t 3))⟩,⟨some 62,(some (60,true)),.l (.ld1 (.t 61))⟩,⟨some 63,(some (60,true)),.q (.lnL (.t 62))⟩,⟨some 64,(some (60,true)),.q (.bin .eql true (.t 63) (.i 0))⟩,.a 65 (.pick (.t 60) (.t 64) (.k (.bool false))),.v 4 65]) .ret)) (.seq (.reg [.q 67 (.bin .eql true (.t 11) (.i 4)),.v 66 67]) (.cond (.t 66) (.seq (.reg [.q 68 (.fa 1 (.t 3)),.l 69 (.ld1 (.t 68)),.q 70 (.bin .geq true (.t 69) (.i 1)),.v 71 70,⟨some 72,(some (71,true)),.q (.fa 1 (.t 3))⟩,⟨some 73,(some (71,true)),.l (.ld1 (.t 72))⟩,⟨some 74,(some (71,true)),.q (.bin .leq true (.t 73) (.i 2000))⟩,.a 75 (.pick (.t 71) (.t 74) (.k (.bool false))),.v 76 75,⟨some 77,(some (76,true)),.q (.fa 2 (.t 3))⟩,⟨some 78,(some (76,true)),.l (.ld1 (.t 77))⟩,⟨some 79,(some (76,true)),.q (.bin .eql true (.t 78) (.k (.string (mk []))))⟩,.a 80 (.pick (.t 76) (.t 79) (.k (.bool false))),.v 81 80,⟨some 82,(some (81,true)),.q (.fa 3 (.t 3))⟩,⟨some 83,(some (81,true)),.l (.ld1 (.t 82))⟩,⟨some 84,(some (81,true)),.q (.lnL (.t 83))⟩,⟨some 85,(some (81,true)),.q (.bin .eql true (.t 84) (.i 0))⟩,.a 86 (.pick (.t 81) (.t 85) (.k (.bool false))),.v 4 86]) .ret) (.seq (.reg [.q 88 (.bin .eql true (.t 11) (.i 5)),.v 87 88]) (.cond (.t 87) (.seq (.reg [.q 89 (.fa 1 (.t 3)),.l 90 (.ld1 (.t 89)),.q 91 (.bin .geq true (.t 90) (.i 1)),.v 92 91,⟨some 93,(some (92,true)),.q (.fa 1 (.t 3))⟩,⟨some 94,(some (92,true)),.l (.ld1 (.t 93))⟩,⟨some 95,(some (92,true)),.q (.bin .leq true (.t 94) (.i 32))⟩,.a 96 (.pick (.t 92) (.t 95) (.k (.bool false))),.v 97 96,⟨some 98,(some (97,true)),.q (.fa 2 (.t 3))⟩,⟨some 99,(some (97,true)),.l (.ld1 (.t 98))⟩,⟨some 100,(some (97,true)),.q (.bin .eql true (.t 99) (.k (.string (mk []))))⟩,.a 101 (.pick (.t 97) (.t 100) (.k (.bool false))),.v 102 101,⟨some 103,(some (102,true)),.q (.fa 3 (.t 3))⟩,⟨some 104,(some (102,true)),.l (.ld1 (.t 103))⟩,⟨some 105,(some (102,true)),.q (.lnL (.t 104))⟩,⟨some 106,(some (102,true)),.q (.bin .eql true (.t 105) (.i 1))⟩,.a 107 (.pick (.t 102) (.t 106) (.k (.bool false))),.v 108 107,⟨some 109,(some (108,true)),.l (.ldn 2 (.t 2))⟩,⟨some 110,(some (108,true)),.q (.fa 3 (.t 3))⟩,⟨some 111,(some (108,true)),.l (.ld1 (.t 110))⟩,⟨some 112,(some (108,true)),.l (.ia 4 (.t 111) (.i 0))⟩,⟨some 113,(some (108,true)),.l (.ldn 4 (.t 112))⟩,⟨some 114,(some (108,true)),.cl 112 [(.t 109),(.t 113)] [0,1]⟩,.a 115 (.pick (.t 108) (.t 114) (.k (.bool false))),.v 4 115]) .ret) (.seq (.reg [.q 117 (.bin .eql true (.t 11) (.i 6)),.v 116 117]) (.cond (.t 116) (.seq (.reg [.q 119 (.fa 0 (.t 2)),.l 120 (.ld1 (.t 119)),.q 121 (.fa 2 (.t 3)),.l 122 (.ld1 (.t 121)),.l 123 (.lk .string (.agg #[(.string (mk [])),(.slice none 0 0)]) true (.t 120) (.t 122)),.v 118 123,.q 124 (.ex (.t 118) 0),.q 125 (.ex (.t 118) 1),.e 6 (.al (.agg #[(.string (mk [])),(.slice none 0 0)]) 56),.s (.st 2 (.t 6) (.t 124)),.v 7 125]) (.seq (.reg [.v 126 7,.v 127 126,⟨some 128,(some (127,true)),.q (.fa 1 (.t 3))⟩,⟨some 129,(some (127,true)),.l (.ld1 (.t 128))⟩,⟨some 130,(some (127,true)),.q (.bin .eql true (.t 129) (.i 0))⟩,.a 131 (.pick (.t 127) (.t 130) (.k (.bool false))),.v 132 131,⟨some 133,(some (132,true)),.q (.fa 3 (.t 3))⟩,⟨some 134,(some (132,true)),.l (.ld1 (.t 133))⟩,⟨some 135,(some (132,true)),.q (.lnL (.t 134))⟩,⟨some 136,(some (132,true)),.q (.bin .eql true (.t 135) (.i 0))⟩,.a 137 (.pick (.t 132) (.t 136) (.k (.bool false))),.v 4 137]) .ret)) (.seq (.reg [.q 139 (.bin .eql true (.t 11) (.i 7)),.v 138 139]) (.cond (.t 138) (.seq (.reg [.q 141 (.fa 1 (.t 2)),.l 142 (.ld1 (.t 141)),.q 143 (.fa 2 (.t 3)),.l 144 (.ld1 (.t 143)),.l 145 (.lk .string (.agg #[(.string (mk [])),(.slice none 0 0),(.slice none 0 0)]) true (.t 142) (.t 144)),.v 140 145,.q 146 (.ex (.t 140) 0),.q 147 (.ex (.t 140) 1),.e 8 (.al (.agg #[(.string (mk [])),(.slice none 0 0),(.slice none 0 0)]) 62),.s (.st 3 (.t 8) (.t 146)),.v 9 147]) (.seq (.reg [.v 148 9,.v 149 148,⟨some 150,(some (149,true)),.q (.fa 1 (.t 3))⟩,⟨some 151,(some (149,true)),.l (.ld1 (.t 150))⟩,⟨some 152,(some (149,true)),.q (.bin .eql true (.t 151) (.i 0))⟩,.a 153 (.pick (.t 149) (.t 152) (.k (.bool false))),.v 154 153,⟨some 155,(some (154,true)),.q (.fa 3 (.t 3))⟩,⟨some 156,(some (154,true)),.l (.ld1 (.t 155))⟩,⟨some 157,(some (154,true)),.q (.lnL (.t 156))⟩,⟨some 158,(some (154,true)),.q (.bin .eql true (.t 157) (.i 0))⟩,.a 159 (.pick (.t 154) (.t 158) (.k (.bool false))),.v 4 159]) .ret)) .skip)))))))))))))) (.seq (.reg [.q 4 (.mv (.k (.bool false)))]) .ret))
def lC:List RV:=[.mv (.t 4)]
theorem aIB:aY Tryz.prog true ⟨fun r k=>if r=11/\k=25 then .own [0,1] else .own [],fun _=>false⟩ Tryz.f112=some (kY,lC):=by kernel_rfl
def WB:PC:=.seq (.reg [.e 2 (.bx 117 (.t 0)),.q 4 (.mv (.k (.slice none 0 0)))]) (.seq (.reg [.e 8 (.mm .string),.e 5 (.al (.map none) 154),.s (.st 1 (.t 5) (.t 8))]) (.seq (.reg [.e 6 (.al (.slice none 0 0) 52)]) (.seq (.reg [.e 7 (.al .nilFunc 155)]) (.seq (.reg [.q 9 (.mf 123 [(.t 5),(.t 6),(.t 2),(.t 7)]),.s (.st 1 (.t 7) (.t 9))]) (.seq (.gh (.reg [.l 10 (.ld1 (.t 7)),.q 11 (.fa 0 (.t 2)),.l 12 (.ld1 (.t 11)),.v 13 1,.l 14 (.lk .string (.agg #[(.string (mk [])),(.slice none 0 0)]) false (.t 12) (.t 13)),.a 15 (.ca (.t 10) [(.t 14)] [0,1,2,3,4,5,6,7])])) (.seq (.reg [.l 16 (.ld1 (.t 6)),.a 17 (.cl 125 [(.t 16)] [7])]) (.seq (.reg [.l 18 (.ld1 (.t 6)),.v 4 18]) .ret)))))))
def WA:List RV:=[.mv (.t 4)]
theorem aHD:aY Tryz.prog true ⟨fun r k=>if r=5/\k=5 then .own [0,1,2,3,4,5,6,7] else if r=6/\k=1 then .own [7] else .own [],fun r=>[5].contains r⟩ Tryz.f113=some (WB,WA):=by kernel_rfl
def UZ:PC:=.seq (.reg [.e 2 (.bx 117 (.t 0)),.e 3 (.bx 56 (.t 1)),.q 4 (.mv (.i 0))]) (.seq (.reg [.e 7 (.mm .string),.e 5 (.al (.map none) 158),.s (.st 1 (.t 5) (.t 7))]) (.seq (.reg [.e 6 (.al .nilFunc 159)]) (.seq (.reg [.q 8 (.mf 126 [(.t 5),(.t 6),(.t 2)]),.s (.st 1 (.t 6) (.t 8))]) (.seq (.reg [.l 9 (.ld1 (.t 6)),.l 10 (.ldn 2 (.t 3)),.a 11 (.ca (.t 9) [(.t 10)] [0,1,2,4,5,6]),.v 4 11]) .ret))))
def VB:List RV:=[.mv (.t 4)]
theorem aIZ:aY Tryz.prog true ⟨fun r k=>if r=4/\k=2 then .own [0,1,2,4,5,6] else .own [],fun _=>false⟩ Tryz.f114=some (UZ,VB):=by kernel_rfl
def WL:PC:=.seq (.reg [.e 5 (.bx 56 (.t 0))]) (.seq (.reg [.q 12 (.fa 1 (.t 5)),.l 13 (.ld1 (.t 12)),.q 14 (.lnL (.t 13)),.q 15 (.mv (.i 0))]) (.block 0 (.loop (.seq (.reg [.q 16 (.bin .lss true (.t 15) (.t 14))]) (.seq (.cond (.t 16) .skip (.exit 0)) (.seq (.block 1 (.seq (.reg [.l 17 (.ia 7 (.t 13) (.t 15)),.l 18 (.ldn 7 (.t 17)),.e 7 (.al (.agg #[(.int .i64 0),(.string (mk [])),(.int .i64 0),(.int .i64 0),(.string (mk [])),(.slice none 0 0),(.bool false)]) 64),.s (.st 7 (.t 7) (.t 18))]) (.seq (.reg [.q 20 (.fa 2 (.t 7)),.l 21 (.ldn 4 (.t 20)),.a 22 (.cl 124 [(.t 21)] []),.v 19 22,.q 23 (.ex (.t 19) 0),.q 24 (.ex (.t 19) 1),.v 8 23,.v 9 24]) (.seq (.seq (.reg [.v 25 9,.q 26 (.not (.t 25)),.v 27 26,⟨some 28,(some (27,false)),.l (.ld1 (.t 1))⟩,⟨some 29,(some (27,false)),.q (.mv (.t 8))⟩,⟨some 30,(some (27,false)),.l (.lk .string (.bool false) false (.t 28) (.t 29))⟩,.a 31 (.pick (.t 27) (.k (.bool true)) (.t 30))]) (.cond (.t 31) (.exit 1) .skip)) (.seq (.reg [.l 32 (.ld1 (.t 1)),.v 33 8,.s (.mu .string (.t 32) (.t 33) (.k (.bool true)))]) (.seq (.reg [.l 34 (.ld1 (.t 2)),.v 35 8,.e 36 (.bsl 9 1 [(.t 35)]),.e 37 (.ap 9 1 16 (.t 34) (.t 36)),.s (.st 1 (.t 2) (.t 37))]) (.seq (.reg [.q 39 (.fa 0 (.t 3)),.l 40 (.ld1 (.t 39)),.v 41 8,.l 42 (.lk .string (.agg #[(.string (mk [])),(.slice none 0 0)]) true (.t 40) (.t 41)),.v 38 42,.q 43 (.ex (.t 38) 0),.q 44 (.ex (.t 38) 1),.e 10 (.al (.agg #[(.string (mk [])),(.slice none 0 0)]) 56),.s (.st 2 (.t 10) (.t 43)),.v 11 44]) (.seq (.reg [.v 45 11]) (.cond (.t 45) (.reg [.l 46 (.ld1 (.t 4)),.l 47 (.ldn 2 (.t 10)),.a 48 (.ca (.t 46) [(.t 47)] [0,1,2,3,4,5,6,7])]) .skip))))))))) (.reg [.q 49 (.bin .add true (.t 15) (.i 1)),.v 15 49])))))))
def WQ:List RV:=[]
theorem aG3:aY Tryz.prog true ⟨fun r k=>if r=10/\k=2 then .own [0,1,2,3,4,5,6,7] else .own [],fun _=>false⟩ Tryz.f123=some (WL,WQ):=by kernel_rfl
def VC:PC:=.seq (.reg [.e 1 (.bx 37 (.t 0)),.q 2 (.mv (.k (.string (mk [])))),.q 3 (.mv (.k (.bool false)))]) (.seq (.block 0 (.loop (.seq (.seq (.reg [.q 4 (.fa 0 (.t 1)),.l 5 (.ld1 (.t 4)),.q 6 (.bin .eql true (.t 5) (.i 5)),.v 7 6,⟨some 8,(some (7,true)),.q (.fa 3 (.t 1))⟩,⟨some 9,(some (7,true)),.l (.ld1 (.t 8))⟩,⟨some 10,(some (7,true)),.q (.lnL (.t 9))⟩,⟨some 11,(some (7,true)),.q (.bin .eql true (.t 10) (.i 1))⟩,.a 12 (.pick (.t 7) (.t 11) (.k (.bool false)))]) (.cond (.t 12) .skip (.exit 0))) (.block 1 (.reg [.q 13 (.fa 3 (.t 1)),.l 14 (.ld1 (.t 13)),.l 15 (.ia 4 (.t 14) (.i 0)),.l 16 (.ldn 4 (.t 15)),.s (.st 4 (.t 1) (.t 16))]))))) (.seq (.reg [.q 17 (.fa 2 (.t 1)),.l 18 (.ld1 (.t 17)),.q 19 (.fa 0 (.t 1)),.l 20 (.ld1 (.t 19)),.q 21 (.bin .eql true (.t 20) (.i 6)),.v 22 21,⟨some 23,(some (22,false)),.q (.fa 0 (.t 1))⟩,⟨some 24,(some (22,false)),.l (.ld1 (.t 23))⟩,⟨some 25,(some (22,false)),.q (.bin .eql true (.t 24) (.i 7))⟩,.a 26 (.pick (.t 22) (.k (.bool true)) (.t 25)),.v 2 18,.v 3 26]) .ret))
def V7:List RV:=[.mv (.t 2),.mv (.t 3)]
theorem aHF:aY Tryz.prog true ⟨fun _ _=>.own [],fun _=>false⟩ Tryz.f124=some (VC,V7):=by kernel_rfl
def N1:PC:=.seq (.reg [.e 4 (.bx 56 (.t 0)),.q 5 (.mv (.i 0))]) (.seq (.seq (.reg [.l 14 (.ld1 (.t 1)),.q 15 (.fa 0 (.t 4)),.l 16 (.ld1 (.t 15)),.l 17 (.lk .string (.int .i64 0) true (.t 14) (.t 16)),.v 13 17,.q 18 (.ex (.t 13) 0),.q 19 (.ex (.t 13) 1),.v 6 18,.v 7 19]) (.seq (.reg [.v 20 7]) (.cond (.t 20) (.seq (.reg [.v 21 6,.v 5 21]) .ret) .skip))) (.seq (.reg [.q 8 (.mv (.i 0))]) (.seq (.seq (.reg [.q 22 (.fa 1 (.t 4)),.l 23 (.ld1 (.t 22)),.q 24 (.lnL (.t 23)),.q 25 (.mv (.i 0))]) (.block 0 (.loop (.seq (.reg [.q 26 (.bin .lss true (.t 25) (.t 24))]) (.seq (.cond (.t 26) .skip (.exit 0)) (.seq (.block 1 (.seq (.reg [.l 27 (.ia 7 (.t 23) (.t 25)),.l 28 (.ldn 7 (.t 27)),.e 10 (.al (.agg #[(.int .i64 0),(.string (mk [])),(.int .i64 0),(.int .i64 0),(.string (mk [])),(.slice none 0 0),(.bool false)]) 64),.s (.st 7 (.t 10) (.t 28))]) (.seq (.ord  [.q (.q 29 (.fa 2 (.t 10))),.q (.l 30 (.ldn 4 (.t 29))),.m (.e 12 (.al (.agg #[(.int .i64 0),(.int .i64 0),(.string (mk [])),(.slice none 0 0)]) 37)),.rc (.q 29 (.fa 2 (.t 10))),.rc (.l 30 (.ldn 4 (.t 29))),.m (.q 11 (.mv (.i 0))),.rc (.q 29 (.fa 2 (.t 10))),.rc (.l 30 (.ldn 4 (.t 29))),.m (.s (.st 4 (.t 12) (.t 30)))]) (.seq (.block 2 (.loop (.seq (.seq (.reg [.q 31 (.fa 0 (.t 12)),.l 32 (.ld1 (.t 31)),.q 33 (.bin .eql true (.t 32) (.i 5))]) (.cond (.t 33) .skip (.exit 2))) (.block 3 (.seq (.reg [.v 34 11,.q 35 (.bin .add true (.t 34) (.i 1)),.v 11 35]) (.reg [.q 36 (.fa 3 (.t 12)),.l 37 (.ld1 (.t 36)),.l 38 (.ia 4 (.t 37) (.i 0)),.l 39 (.ldn 4 (.t 38)),.s (.st 4 (.t 12) (.t 39))])))))) (.seq (.seq (.reg [.q 40 (.fa 0 (.t 12)),.l 41 (.ld1 (.t 40)),.q 42 (.bin .eql true (.t 41) (.i 6))]) (.cond (.t 42) (.reg [.v 43 11,.l 44 (.ld1 (.t 2)),.q 45 (.fa 0 (.t 3)),.l 46 (.ld1 (.t 45)),.q 47 (.fa 2 (.t 12)),.l 48 (.ld1 (.t 47)),.l 49 (.lk .string (.agg #[(.string (mk [])),(.slice none 0 0)]) false (.t 46) (.t 48)),.a 50 (.ca (.t 44) [(.t 49)] [0,1,2,3,4,5]),.q 51 (.bin .add true (.t 43) (.t 50)),.v 11 51]) .skip)) (.reg [.v 52 8,.v 53 11,.q 54 (.mx true (.t 52) (.t 53)),.v 8 54])))))) (.reg [.q 55 (.bin .add true (.t 25) (.i 1)),.v 25 55]))))))) (.seq (.reg [.l 56 (.ld1 (.t 1)),.q 57 (.fa 0 (.t 4)),.l 58 (.ld1 (.t 57)),.v 59 8,.q 60 (.bin .add true (.t 59) (.i 1)),.s (.mu .string (.t 56) (.t 58) (.t 60))]) (.seq (.reg [.v 61 8,.q 62 (.bin .add true (.t 61) (.i 1)),.v 5 62]) .ret)))))
def NI:List RV:=[.mv (.t 5)]
theorem aIN:aY Tryz.prog true ⟨fun r k=>if r=13/\k=7 then .own [0,1,2,3,4,5] else .own [],fun _=>false⟩ Tryz.f126=some (N1,NI):=by kernel_rfl
def pc9:PC:=.seq (.reg [.e 1 (.bx 25 (.t 0)),.q 2 (.mv (.i 0))]) (.seq (.seq (.reg [.q 11 (.fa 0 (.t 1)),.l 12 (.ld1 (.t 11)),.q 13 (.bin .lss true (.t 12) (.i 1)),.v 14 13,⟨some 15,(some (14,false)),.q (.fa 0 (.t 1))⟩,⟨some 16,(some (14,false)),.l (.ld1 (.t 15))⟩,⟨some 17,(some (14,false)),.q (.bin .gtr true (.t 16) (.i 999))⟩,.a 18 (.pick (.t 14) (.k (.bool true)) (.t 17))]) (.cond (.t 18) (.seq (.reg [.q 2 (.mv (.i 4))]) .ret) .skip)) (.seq (.seq (.reg [.l 19 (.ldn 3 (.t 1)),.a 20 (.cq 25 [(.t 19)])]) (.cond (.t 20) (.seq (.reg [.q 2 (.mv (.i 3))]) .ret) .skip)) (.seq (.seq (.reg [.q 3 (.mv (.i 0))]) (.block 0 (.loop (.seq (.seq (.reg [.v 21 3,.q 22 (.fa 1 (.t 1)),.l 23 (.ld1 (.t 22)),.q 24 (.lnL (.t 23)),.q 25 (.bin .lss true (.t 21) (.t 24))]) (.cond (.t 25) .skip (.exit 0))) (.seq (.block 1 (.seq (.reg [.l 28 (.ldn 3 (.t 1)),.v 29 3,.a 30 (.cq 26 [(.t 28),(.t 29)]),.v 4 30]) (.seq (.reg [.v 31 4,.q 32 (.bin .neq true (.t 31) (.i 0))]) (.cond (.t 32) (.seq (.reg [.v 33 4,.v 2 33]) .ret) .skip)))) (.reg [.v 26 3,.q 27 (.bin .add true (.t 26) (.i 1)),.v 3 27])))))) (.seq (.seq (.reg [.q 5 (.mv (.i 0))]) (.block 2 (.loop (.seq (.seq (.reg [.v 34 5,.q 35 (.fa 2 (.t 1)),.l 36 (.ld1 (.t 35)),.q 37 (.lnL (.t 36)),.q 38 (.bin .lss true (.t 34) (.t 37))]) (.cond (.t 38) .skip (.exit 2))) (.seq (.block 3 (.seq (.reg [.l 41 (.ldn 3 (.t 1)),.v 42 5,.a 43 (.cq 27 [(.t 41),(.t 42)]),.v 6 43]) (.seq (.reg [.v 44 6,.q 45 (.bin .neq true (.t 44) (.i 0))]) (.cond (.t 45) (.seq (.reg [.v 46 6,.v 2 46]) .ret) .skip)))) (.reg [.v 39 5,.q 40 (.bin .add true (.t 39) (.i 1)),.v 5 40])))))) (.seq (.seq (.reg [.q 7 (.mv (.i 0))]) (.block 4 (.loop (.seq (.seq (.reg [.v 47 7,.q 48 (.fa 2 (.t 1)),.l 49 (.ld1 (.t 48)),.q 50 (.lnL (.t 49)),.q 51 (.bin .lss true (.t 47) (.t 50))]) (.cond (.t 51) .skip (.exit 4))) (.seq (.block 5 (.seq (.reg [.l 54 (.ldn 3 (.t 1)),.q 55 (.fa 2 (.t 1)),.l 56 (.ld1 (.t 55)),.v 57 7,.l 58 (.ia 2 (.t 56) (.t 57)),.q 59 (.fa 0 (.t 58)),.l 60 (.ld1 (.t 59)),.a 61 (.cl 28 [(.t 54),(.t 60)] []),.v 8 61]) (.seq (.reg [.v 62 8,.v 63 8,.q 64 (.lnL (.t 63)),.q 65 (.fa 2 (.t 1)),.l 66 (.ld1 (.t 65)),.v 67 7,.l 68 (.ia 2 (.t 66) (.t 67)),.q 69 (.fa 0 (.t 68)),.l 70 (.ld1 (.t 69)),.a 71 (.cq 29 [(.t 62),(.t 64),(.t 70)])]) (.cond (.t 71) (.seq (.reg [.q 2 (.mv (.i 19))]) .ret) .skip)))) (.reg [.v 52 7,.q 53 (.bin .add true (.t 52) (.i 1)),.v 7 53])))))) (.seq (.reg [.l 72 (.ldn 3 (.t 1)),.a 73 (.cl 30 [(.t 72)] []),.v 9 73]) (.seq (.seq (.reg [.q 10 (.mv (.i 0))]) (.block 6 (.loop (.seq (.seq (.reg [.v 74 10,.v 75 9,.q 76 (.lnL (.t 75)),.q 77 (.bin .lss true (.t 74) (.t 76))]) (.cond (.t 77) .skip (.exit 6))) (.seq (.block 7 (.seq (.reg [.v 80 9,.v 81 10,.l 82 (.ia 1 (.t 80) (.t 81)),.l 83 (.ld1 (.t 82)),.q 84 (.bin .gtr true (.t 83) (.i 6))]) (.cond (.t 84) (.seq (.reg [.q 2 (.mv (.i 9))]) .ret) .skip))) (.reg [.v 78 10,.q 79 (.bin .add true (.t 78) (.i 1)),.v 10 79])))))) (.seq (.reg [.q 2 (.mv (.i 0))]) .ret))))))))
def rs9:List RV:=[.mv (.t 2)]
theorem ok9:aY Tryz.prog true ⟨fun r k=>if r=3/\k=1 then .q else if r=8/\k=2 then .q else if r=14/\k=2 then .q else if r=21/\k=9 then .q else .own [],fun _=>false⟩ Tryz.f9=some (pc9,rs9):=by kernel_rfl
def JR:PC:=.seq (.reg [.e 1 (.bx 25 (.t 0)),.q 2 (.mv (.k (.bool false)))]) (.seq (.seq (.reg [.q 5 (.fa 1 (.t 1)),.l 6 (.ld1 (.t 5)),.q 7 (.lnL (.t 6)),.q 8 (.bin .gtr true (.t 7) (.i 16)),.v 9 8,⟨some 10,(some (9,false)),.q (.fa 2 (.t 1))⟩,⟨some 11,(some (9,false)),.l (.ld1 (.t 10))⟩,⟨some 12,(some (9,false)),.q (.lnL (.t 11))⟩,⟨some 13,(some (9,false)),.q (.bin .gtr true (.t 12) (.i 16))⟩,.a 14 (.pick (.t 9) (.k (.bool true)) (.t 13)),.v 15 14,⟨some 16,(some (15,false)),.q (.fa 1 (.t 1))⟩,⟨some 17,(some (15,false)),.l (.ld1 (.t 16))⟩,⟨some 18,(some (15,false)),.q (.lnL (.t 17))⟩,⟨some 19,(some (15,false)),.q (.fa 2 (.t 1))⟩,⟨some 20,(some (15,false)),.l (.ld1 (.t 19))⟩,⟨some 21,(some (15,false)),.q (.lnL (.t 20))⟩,⟨some 22,(some (15,false)),.q (.bin .add true (.t 18) (.t 21))⟩,⟨some 23,(some (15,false)),.q (.bin .gtr true (.t 22) (.i 16))⟩,.a 24 (.pick (.t 15) (.k (.bool true)) (.t 23))]) (.cond (.t 24) (.seq (.reg [.q 2 (.mv (.k (.bool true)))]) .ret) .skip)) (.seq (.seq (.reg [.q 3 (.mv (.i 0))]) (.block 0 (.loop (.seq (.seq (.reg [.v 25 3,.q 26 (.fa 1 (.t 1)),.l 27 (.ld1 (.t 26)),.q 28 (.lnL (.t 27)),.q 29 (.bin .lss true (.t 25) (.t 28))]) (.cond (.t 29) .skip (.exit 0))) (.seq (.block 1 (.seq (.reg [.q 32 (.fa 1 (.t 1)),.l 33 (.ld1 (.t 32)),.v 34 3,.l 35 (.ia 3 (.t 33) (.t 34)),.q 36 (.fa 1 (.t 35)),.l 37 (.ld1 (.t 36)),.q 38 (.lnL (.t 37)),.q 39 (.bin .gtr true (.t 38) (.i 16))]) (.cond (.t 39) (.seq (.reg [.q 2 (.mv (.k (.bool true)))]) .ret) .skip))) (.reg [.v 30 3,.q 31 (.bin .add true (.t 30) (.i 1)),.v 3 31])))))) (.seq (.seq (.reg [.q 4 (.mv (.i 0))]) (.block 2 (.loop (.seq (.seq (.reg [.v 40 4,.q 41 (.fa 2 (.t 1)),.l 42 (.ld1 (.t 41)),.q 43 (.lnL (.t 42)),.q 44 (.bin .lss true (.t 40) (.t 43))]) (.cond (.t 44) .skip (.exit 2))) (.seq (.block 3 (.seq (.reg [.q 47 (.fa 2 (.t 1)),.l 48 (.ld1 (.t 47)),.v 49 4,.l 50 (.ia 2 (.t 48) (.t 49)),.q 51 (.fa 1 (.t 50)),.l 52 (.ld1 (.t 51)),.q 53 (.lnL (.t 52)),.q 54 (.bin .gtr true (.t 53) (.i 16))]) (.cond (.t 54) (.seq (.reg [.q 2 (.mv (.k (.bool true)))]) .ret) .skip))) (.reg [.v 45 4,.q 46 (.bin .add true (.t 45) (.i 1)),.v 4 46])))))) (.seq (.reg [.q 2 (.mv (.k (.bool false)))]) .ret))))
def G0:List RV:=[.mv (.t 2)]
theorem aN7:aY Tryz.prog true ⟨fun _ _=>.own [],fun _=>false⟩ Tryz.f25=some (JR,G0):=by kernel_rfl
def aDL:PC:=.seq (.reg [.e 2 (.bx 25 (.t 0)),.q 4 (.mv (.i 0))]) (.seq (.reg [.q 8 (.fa 1 (.t 2)),.l 9 (.ld1 (.t 8)),.v 10 1,.l 11 (.ia 3 (.t 9) (.t 10)),.l 12 (.ldn 3 (.t 11)),.e 5 (.al (.agg #[(.string (mk [])),(.slice none 0 0),(.slice none 0 0)]) 62),.s (.st 3 (.t 5) (.t 12))]) (.seq (.seq (.reg [.q 13 (.fa 0 (.t 5)),.l 14 (.ld1 (.t 13)),.a 15 (.cq 64 [(.t 14)]),.q 16 (.not (.t 15))]) (.cond (.t 16) (.seq (.reg [.q 4 (.mv (.i 5))]) .ret) .skip)) (.seq (.seq (.reg [.q 6 (.mv (.i 0))]) (.block 0 (.loop (.seq (.seq (.reg [.v 17 6,.v 18 1,.q 19 (.bin .lss true (.t 17) (.t 18))]) (.cond (.t 19) .skip (.exit 0))) (.seq (.block 1 (.seq (.reg [.q 22 (.fa 1 (.t 2)),.l 23 (.ld1 (.t 22)),.v 24 6,.l 25 (.ia 3 (.t 23) (.t 24)),.q 26 (.fa 0 (.t 25)),.l 27 (.ld1 (.t 26)),.q 28 (.fa 0 (.t 5)),.l 29 (.ld1 (.t 28)),.q 30 (.bin .eql true (.t 27) (.t 29))]) (.cond (.t 30) (.seq (.reg [.q 4 (.mv (.i 7))]) .ret) .skip))) (.reg [.v 20 6,.q 21 (.bin .add true (.t 20) (.i 1)),.v 6 21])))))) (.seq (.seq (.reg [.q 31 (.fa 1 (.t 5)),.l 32 (.ld1 (.t 31)),.q 33 (.lnL (.t 32)),.q 34 (.bin .eql true (.t 33) (.i 0)),.v 35 34,⟨some 36,(some (35,false)),.q (.fa 2 (.t 5))⟩,⟨some 37,(some (35,false)),.l (.ld1 (.t 36))⟩,⟨some 38,(some (35,false)),.q (.lnL (.t 37))⟩,⟨some 39,(some (35,false)),.q (.fa 1 (.t 5))⟩,⟨some 40,(some (35,false)),.l (.ld1 (.t 39))⟩,⟨some 41,(some (35,false)),.q (.lnL (.t 40))⟩,⟨some 42,(some (35,false)),.q (.bin .neq true (.t 38) (.t 41))⟩,.a 43 (.pick (.t 35) (.k (.bool true)) (.t 42))]) (.cond (.t 43) (.seq (.reg [.q 4 (.mv (.i 2))]) .ret) .skip)) (.seq (.seq (.reg [.q 7 (.mv (.i 0))]) (.block 2 (.loop (.seq (.seq (.reg [.v 44 7,.q 45 (.fa 1 (.t 5)),.l 46 (.ld1 (.t 45)),.q 47 (.lnL (.t 46)),.q 48 (.bin .lss true (.t 44) (.t 47))]) (.cond (.t 48) .skip (.exit 2))) (.seq (.block 3 (.seq (.seq (.reg [.q 51 (.fa 1 (.t 5)),.l 52 (.ld1 (.t 51)),.v 53 7,.l 54 (.ia 1 (.t 52) (.t 53)),.l 55 (.ld1 (.t 54)),.a 56 (.cq 65 [(.t 55)]),.q 57 (.not (.t 56))]) (.cond (.t 57) (.seq (.reg [.q 4 (.mv (.i 5))]) .ret) .skip)) (.seq (.seq (.reg [.q 58 (.fa 1 (.t 5)),.l 59 (.ld1 (.t 58)),.v 60 7,.q 61 (.fa 1 (.t 5)),.l 62 (.ld1 (.t 61)),.v 63 7,.l 64 (.ia 1 (.t 62) (.t 63)),.l 65 (.ld1 (.t 64)),.a 66 (.cq 29 [(.t 59),(.t 60),(.t 65)])]) (.cond (.t 66) (.seq (.reg [.q 4 (.mv (.i 7))]) .ret) .skip)) (.seq (.seq (.reg [.q 67 (.fa 2 (.t 5)),.l 68 (.ld1 (.t 67)),.v 69 7,.l 70 (.ia 1 (.t 68) (.t 69)),.l 71 (.ld1 (.t 70)),.q 72 (.bin .lss true (.t 71) (.i 0)),.v 73 72,⟨some 74,(some (73,false)),.q (.fa 2 (.t 5))⟩,⟨some 75,(some (73,false)),.l (.ld1 (.t 74))⟩,⟨some 76,(some (73,false)),.q (.mv (.t 7))⟩,⟨some 77,(some (73,false)),.l (.ia 1 (.t 75) (.t 76))⟩,⟨some 78,(some (73,false)),.l (.ld1 (.t 77))⟩,⟨some 79,(some (73,false)),.q (.bin .gtr true (.t 78) (.i 127))⟩,.a 80 (.pick (.t 73) (.k (.bool true)) (.t 79))]) (.cond (.t 80) (.seq (.reg [.q 4 (.mv (.i 4))]) .ret) .skip)) (.seq (.reg [.v 81 7,.q 82 (.bin .eql true (.t 81) (.i 0)),.v 83 82,⟨some 84,(some (83,true)),.q (.fa 2 (.t 5))⟩,⟨some 85,(some (83,true)),.l (.ld1 (.t 84))⟩,⟨some 86,(some (83,true)),.q (.mv (.t 7))⟩,⟨some 87,(some (83,true)),.l (.ia 1 (.t 85) (.t 86))⟩,⟨some 88,(some (83,true)),.l (.ld1 (.t 87))⟩,⟨some 89,(some (83,true)),.q (.bin .neq true (.t 88) (.i 0))⟩,.a 90 (.pick (.t 83) (.t 89) (.k (.bool false))),.v 91 90,⟨some 92,(some (91,false)),.q (.mv (.t 7))⟩,⟨some 93,(some (91,false)),.q (.bin .gtr true (.t 92) (.i 0))⟩,⟨some 94,(some (91,false)),.q (.mv (.t 93))⟩,⟨some 95,(some (94,true)),.q (.fa 2 (.t 5))⟩,⟨some 96,(some (94,true)),.l (.ld1 (.t 95))⟩,⟨some 97,(some (94,true)),.q (.mv (.t 7))⟩,⟨some 98,(some (94,true)),.l (.ia 1 (.t 96) (.t 97))⟩,⟨some 99,(some (94,true)),.l (.ld1 (.t 98))⟩,⟨some 100,(some (94,true)),.q (.fa 2 (.t 5))⟩,⟨some 101,(some (94,true)),.l (.ld1 (.t 100))⟩,⟨some 102,(some (94,true)),.q (.mv (.t 7))⟩,⟨some 103,(some (94,true)),.q (.bin .sub true (.t 102) (.i 1))⟩,⟨some 104,(some (94,true)),.l (.ia 1 (.t 101) (.t 103))⟩,⟨some 105,(some (94,true)),.l (.ld1 (.t 104))⟩,⟨some 106,(some (94,true)),.q (.bin .leq true (.t 99) (.t 105))⟩,⟨some 107,(some (91,false)),.pick (.t 94) (.t 106) (.k (.bool false))⟩,.a 108 (.pick (.t 91) (.k (.bool true)) (.t 107))]) (.cond (.t 108) (.seq (.reg [.q 4 (.mv (.i 2))]) .ret) .skip)))))) (.reg [.v 49 7,.q 50 (.bin .add true (.t 49) (.i 1)),.v 7 50])))))) (.seq (.reg [.q 4 (.mv (.i 0))]) .ret))))))
def aE1:List RV:=[.mv (.t 4)]
theorem aOF:aY Tryz.prog true ⟨fun r k=>if r=2/\k=2 then .q else if r=14/\k=5 then .q else if r=16/\k=8 then .q else .own [],fun _=>false⟩ Tryz.f26=some (aDL,aE1):=by kernel_rfl
def aBQ:PC:=.seq (.reg [.e 2 (.bx 25 (.t 0)),.q 4 (.mv (.i 0))]) (.seq (.reg [.q 12 (.fa 2 (.t 2)),.l 13 (.ld1 (.t 12)),.v 14 1,.l 15 (.ia 2 (.t 13) (.t 14)),.l 16 (.ldn 2 (.t 15)),.e 5 (.al (.agg #[(.string (mk [])),(.slice none 0 0)]) 56),.s (.st 2 (.t 5) (.t 16))]) (.seq (.seq (.reg [.q 17 (.fa 0 (.t 5)),.l 18 (.ld1 (.t 17)),.a 19 (.cq 64 [(.t 18)]),.q 20 (.not (.t 19))]) (.cond (.t 20) (.seq (.reg [.q 4 (.mv (.i 5))]) .ret) .skip)) (.seq (.seq (.reg [.l 22 (.ldn 3 (.t 2)),.q 23 (.fa 0 (.t 5)),.l 24 (.ld1 (.t 23)),.a 25 (.cl 66 [(.t 22),(.t 24)] []),.v 21 25,.q 26 (.ex (.t 21) 0),.q 27 (.ex (.t 21) 1),.e 6 (.al (.agg #[(.string (mk [])),(.slice none 0 0),(.slice none 0 0)]) 62),.s (.st 3 (.t 6) (.t 26)),.v 7 27]) (.seq (.reg [.v 28 7]) (.cond (.t 28) (.seq (.reg [.q 4 (.mv (.i 7))]) .ret) .skip))) (.seq (.seq (.reg [.q 8 (.mv (.i 0))]) (.block 0 (.loop (.seq (.seq (.reg [.v 29 8,.v 30 1,.q 31 (.bin .lss true (.t 29) (.t 30))]) (.cond (.t 31) .skip (.exit 0))) (.seq (.block 1 (.seq (.reg [.q 34 (.fa 2 (.t 2)),.l 35 (.ld1 (.t 34)),.v 36 8,.l 37 (.ia 2 (.t 35) (.t 36)),.q 38 (.fa 0 (.t 37)),.l 39 (.ld1 (.t 38)),.q 40 (.fa 0 (.t 5)),.l 41 (.ld1 (.t 40)),.q 42 (.bin .eql true (.t 39) (.t 41))]) (.cond (.t 42) (.seq (.reg [.q 4 (.mv (.i 7))]) .ret) .skip))) (.reg [.v 32 8,.q 33 (.bin .add true (.t 32) (.i 1)),.v 8 33])))))) (.seq (.seq (.reg [.q 9 (.mv (.i 0))]) (.block 2 (.loop (.seq (.seq (.reg [.v 43 9,.q 44 (.fa 1 (.t 5)),.l 45 (.ld1 (.t 44)),.q 46 (.lnL (.t 45)),.q 47 (.bin .lss true (.t 43) (.t 46))]) (.cond (.t 47) .skip (.exit 2))) (.seq (.block 3 (.seq (.reg [.q 50 (.fa 1 (.t 5)),.l 51 (.ld1 (.t 50)),.v 52 9,.l 53 (.ia 7 (.t 51) (.t 52)),.l 54 (.ldn 7 (.t 53)),.e 10 (.al (.agg #[(.int .i64 0),(.string (mk [])),(.int .i64 0),(.int .i64 0),(.string (mk [])),(.slice none 0 0),(.bool false)]) 64),.s (.st 7 (.t 10) (.t 54))]) (.seq (.seq (.reg [.q 55 (.fa 0 (.t 10)),.l 56 (.ld1 (.t 55)),.q 57 (.bin .lss true (.t 56) (.i 1)),.v 58 57,⟨some 59,(some (58,false)),.q (.fa 0 (.t 10))⟩,⟨some 60,(some (58,false)),.l (.ld1 (.t 59))⟩,⟨some 61,(some (58,false)),.q (.bin .gtr true (.t 60) (.i 127))⟩,.a 62 (.pick (.t 58) (.k (.bool true)) (.t 61))]) (.cond (.t 62) (.seq (.reg [.q 4 (.mv (.i 4))]) .ret) .skip)) (.seq (.seq (.reg [.v 63 9,.q 64 (.bin .gtr true (.t 63) (.i 0)),.v 65 64,⟨some 66,(some (65,true)),.q (.fa 0 (.t 10))⟩,⟨some 67,(some (65,true)),.l (.ld1 (.t 66))⟩,⟨some 68,(some (65,true)),.q (.fa 1 (.t 5))⟩,⟨some 69,(some (65,true)),.l (.ld1 (.t 68))⟩,⟨some 70,(some (65,true)),.q (.mv (.t 9))⟩,⟨some 71,(some (65,true)),.q (.bin .sub true (.t 70) (.i 1))⟩,⟨some 72,(some (65,true)),.l (.ia 7 (.t 69) (.t 71))⟩,⟨some 73,(some (65,true)),.q (.fa 0 (.t 72))⟩,⟨some 74,(some (65,true)),.l (.ld1 (.t 73))⟩,⟨some 75,(some (65,true)),.q (.bin .leq true (.t 67) (.t 74))⟩,.a 76 (.pick (.t 65) (.t 75) (.k (.bool false)))]) (.cond (.t 76) (.seq (.reg [.q 4 (.mv (.i 2))]) .ret) .skip)) (.seq (.seq (.reg [.q 77 (.fa 1 (.t 10)),.l 78 (.ld1 (.t 77)),.a 79 (.cq 65 [(.t 78)]),.q 80 (.not (.t 79))]) (.cond (.t 80) (.seq (.reg [.q 4 (.mv (.i 5))]) .ret) .skip)) (.seq (.seq (.reg [.q 11 (.mv (.i 0))]) (.block 4 (.loop (.seq (.seq (.reg [.v 81 11,.v 82 9,.q 83 (.bin .lss true (.t 81) (.t 82))]) (.cond (.t 83) .skip (.exit 4))) (.seq (.block 5 (.seq (.reg [.q 86 (.fa 1 (.t 5)),.l 87 (.ld1 (.t 86)),.v 88 11,.l 89 (.ia 7 (.t 87) (.t 88)),.q 90 (.fa 1 (.t 89)),.l 91 (.ld1 (.t 90)),.q 92 (.fa 1 (.t 10)),.l 93 (.ld1 (.t 92)),.q 94 (.bin .eql true (.t 91) (.t 93))]) (.cond (.t 94) (.seq (.reg [.q 4 (.mv (.i 7))]) .ret) .skip))) (.reg [.v 84 11,.q 85 (.bin .add true (.t 84) (.i 1)),.v 11 85])))))) (.seq (.reg [.l 95 (.ldn 3 (.t 2)),.q 96 (.fa 2 (.t 10)),.l 97 (.ldn 4 (.t 96)),.a 98 (.cq 67 [(.t 95),(.t 97)]),.q 99 (.not (.t 98))]) (.cond (.t 99) (.seq (.reg [.q 4 (.mv (.i 13))]) .ret) .skip)))))))) (.reg [.v 48 9,.q 49 (.bin .add true (.t 48) (.i 1)),.v 9 49])))))) (.seq (.reg [.q 4 (.mv (.i 0))]) .ret))))))
def aFW:List RV:=[.mv (.t 4)]
theorem aLR:aY Tryz.prog true ⟨fun r k=>if r=2/\k=2 then .q else if r=20/\k=2 then .q else if r=27/\k=3 then .q else .own [],fun _=>false⟩ Tryz.f27=some (aBQ,aFW):=by kernel_rfl
def aCH:PC:=.seq (.reg [.e 2 (.bx 25 (.t 0)),.q 4 (.mv (.k (.slice none 0 0)))]) (.seq (.reg [.q 5 (.mv (.k (.slice none 0 0)))]) (.seq (.reg [.v 13 1,.e 14 (.bsl 9 1 [(.t 13)]),.v 6 14]) (.seq (.seq (.reg [.q 7 (.mv (.i 0))]) (.block 0 (.loop (.seq (.seq (.reg [.v 15 7,.v 16 6,.q 17 (.lnL (.t 16)),.q 18 (.bin .lss true (.t 15) (.t 17))]) (.cond (.t 18) .skip (.exit 0))) (.seq (.block 1 (.seq (.ord  [.q (.l 22 (.ldn 3 (.t 2))),.q (.v 23 6),.q (.v 24 7),.q (.l 25 (.ia 1 (.t 23) (.t 24))),.q (.l 26 (.ld1 (.t 25))),.m (.a 27 (.cl 68 [(.t 22),(.t 26)] [])),.q (.v 21 27),.q (.q 28 (.ex (.t 21) 0)),.q (.q 29 (.ex (.t 21) 1)),.m (.e 8 (.al (.agg #[(.string (mk [])),(.slice none 0 0)]) 56)),.rc (.v 21 27),.rc (.q 28 (.ex (.t 21) 0)),.rc (.q 29 (.ex (.t 21) 1)),.m (.s (.st 2 (.t 8) (.t 28))),.rc (.q 29 (.ex (.t 21) 1)),.m (.v 9 29)]) (.seq (.reg [.q 10 (.mv (.i 0))]) (.block 2 (.loop (.seq (.seq (.reg [.v 30 10,.q 31 (.fa 1 (.t 8)),.l 32 (.ld1 (.t 31)),.q 33 (.lnL (.t 32)),.q 34 (.bin .lss true (.t 30) (.t 33))]) (.cond (.t 34) .skip (.exit 2))) (.seq (.block 3 (.seq (.reg [.q 37 (.fa 1 (.t 8)),.l 38 (.ld1 (.t 37)),.v 39 10,.l 40 (.ia 7 (.t 38) (.t 39)),.q 41 (.fa 2 (.t 40)),.l 42 (.ldn 4 (.t 41)),.a 43 (.cl 69 [(.t 42)] []),.v 11 43]) (.seq (.reg [.q 12 (.mv (.i 0))]) (.block 4 (.loop (.seq (.seq (.reg [.v 44 12,.v 45 11,.q 46 (.lnL (.t 45)),.q 47 (.bin .lss true (.t 44) (.t 46))]) (.cond (.t 47) .skip (.exit 4))) (.seq (.block 5 (.seq (.reg [.v 50 5,.v 51 5,.q 52 (.lnL (.t 51)),.v 53 11,.v 54 12,.l 55 (.ia 1 (.t 53) (.t 54)),.l 56 (.ld1 (.t 55)),.a 57 (.cq 29 [(.t 50),(.t 52),(.t 56)]),.q 58 (.not (.t 57))]) (.cond (.t 58) (.seq (.reg [.v 59 5,.v 60 11,.v 61 12,.l 62 (.ia 1 (.t 60) (.t 61)),.l 63 (.ld1 (.t 62)),.a 64 (.cl 70 [(.t 59),(.t 63)] []),.v 5 64]) (.reg [.v 65 6,.v 66 11,.v 67 12,.l 68 (.ia 1 (.t 66) (.t 67)),.l 69 (.ld1 (.t 68)),.e 70 (.bsl 9 1 [(.t 69)]),.e 71 (.ap 9 1 16 (.t 65) (.t 70)),.v 6 71])) .skip))) (.reg [.v 48 12,.q 49 (.bin .add true (.t 48) (.i 1)),.v 12 49])))))))) (.reg [.v 35 10,.q 36 (.bin .add true (.t 35) (.i 1)),.v 10 36])))))))) (.reg [.v 19 7,.q 20 (.bin .add true (.t 19) (.i 1)),.v 7 20])))))) (.seq (.reg [.v 72 5,.v 4 72]) .ret))))
def aCK:List RV:=[.mv (.t 4)]
theorem aLE:aY Tryz.prog true ⟨fun r k=>if r=14/\k=7 then .q else .own [],fun _=>false⟩ Tryz.f28=some (aCH,aCK):=by kernel_rfl
def aFA:PC:=.seq (.reg [.q 6 (.mv (.k (.bool false)))]) (.seq (.seq (.reg [.q 7 (.mv (.i 0))]) (.block 0 (.loop (.seq (.seq (.reg [.v 8 7,.v 9 1,.q 10 (.bin .lss true (.t 8) (.t 9)),.v 11 10,⟨some 12,(some (11,true)),.q (.mv (.t 7))⟩,⟨some 13,(some (11,true)),.q (.mv (.t 0))⟩,⟨some 14,(some (11,true)),.q (.lnL (.t 13))⟩,⟨some 15,(some (11,true)),.q (.bin .lss true (.t 12) (.t 14))⟩,.a 16 (.pick (.t 11) (.t 15) (.k (.bool false)))]) (.cond (.t 16) .skip (.exit 0))) (.seq (.block 1 (.seq (.reg [.v 19 0,.v 20 7,.l 21 (.ia 1 (.t 19) (.t 20)),.l 22 (.ld1 (.t 21)),.v 23 2,.q 24 (.bin .eql true (.t 22) (.t 23))]) (.cond (.t 24) (.seq (.reg [.q 6 (.mv (.k (.bool true)))]) .ret) .skip))) (.reg [.v 17 7,.q 18 (.bin .add true (.t 17) (.i 1)),.v 7 18])))))) (.seq (.reg [.q 6 (.mv (.k (.bool false)))]) .ret))
def aDJ:List RV:=[.mv (.t 6)]
theorem aL9:aY Tryz.prog true ⟨fun _ _=>.own [],fun _=>false⟩ Tryz.f29=some (aFA,aDJ):=by kernel_rfl
def aDO:PC:=.seq (.reg [.e 1 (.bx 25 (.t 0)),.q 2 (.mv (.k (.slice none 0 0)))]) (.seq (.reg [.q 8 (.fa 2 (.t 1)),.l 9 (.ld1 (.t 8)),.q 10 (.lnL (.t 9)),.e 11 (.mk 3 1 8 [(.int .i64 0)] (.t 10) (.t 10)),.v 3 11]) (.seq (.seq (.reg [.q 4 (.mv (.i 0))]) (.block 0 (.loop (.seq (.seq (.reg [.v 12 4,.q 13 (.fa 2 (.t 1)),.l 14 (.ld1 (.t 13)),.q 15 (.lnL (.t 14)),.q 16 (.bin .leq true (.t 12) (.t 15))]) (.cond (.t 16) .skip (.exit 0))) (.seq (.block 1 (.seq (.reg [.q 5 (.mv (.i 0))]) (.block 2 (.loop (.seq (.seq (.reg [.v 19 5,.q 20 (.fa 2 (.t 1)),.l 21 (.ld1 (.t 20)),.q 22 (.lnL (.t 21)),.q 23 (.bin .lss true (.t 19) (.t 22))]) (.cond (.t 23) .skip (.exit 2))) (.seq (.block 3 (.seq (.reg [.q 6 (.mv (.i 0))]) (.seq (.seq (.reg [.q 7 (.mv (.i 0))]) (.block 4 (.loop (.seq (.seq (.reg [.v 26 7,.q 27 (.fa 2 (.t 1)),.l 28 (.ld1 (.t 27)),.v 29 5,.l 30 (.ia 2 (.t 28) (.t 29)),.q 31 (.fa 1 (.t 30)),.l 32 (.ld1 (.t 31)),.q 33 (.lnL (.t 32)),.q 34 (.bin .lss true (.t 26) (.t 33))]) (.cond (.t 34) .skip (.exit 4))) (.seq (.block 5 (.reg [.v 37 6,.l 38 (.ldn 3 (.t 1)),.v 39 3,.q 40 (.fa 2 (.t 1)),.l 41 (.ld1 (.t 40)),.v 42 5,.l 43 (.ia 2 (.t 41) (.t 42)),.q 44 (.fa 1 (.t 43)),.l 45 (.ld1 (.t 44)),.v 46 7,.l 47 (.ia 7 (.t 45) (.t 46)),.q 48 (.fa 2 (.t 47)),.l 49 (.ldn 4 (.t 48)),.a 50 (.cq 71 [(.t 38),(.t 39),(.t 49)]),.q 51 (.mx true (.t 37) (.t 50)),.v 6 51])) (.reg [.v 35 7,.q 36 (.bin .add true (.t 35) (.i 1)),.v 7 36])))))) (.reg [.v 52 3,.v 53 5,.v 54 6,.q 55 (.bin .add true (.i 1) (.t 54)),.l 56 (.ia 1 (.t 52) (.t 53)),.s (.st 1 (.t 56) (.t 55))])))) (.reg [.v 24 5,.q 25 (.bin .add true (.t 24) (.i 1)),.v 5 25]))))))) (.reg [.v 17 4,.q 18 (.bin .add true (.t 17) (.i 1)),.v 4 18])))))) (.seq (.reg [.v 57 3,.v 2 57]) .ret)))
def aAM:List RV:=[.mv (.t 2)]
theorem aKL:aY Tryz.prog true ⟨fun r k=>if r=12/\k=13 then .q else .own [],fun _=>false⟩ Tryz.f30=some (aDO,aAM):=by kernel_rfl
def SU:PC:=.seq (.reg [.q 2 (.mv (.k (.bool false)))]) (.seq (.reg [.v 3 0,.a 4 (.cq 65 [(.t 3)]),.v 5 4,⟨some 6,(some (5,true)),.q (.mv (.t 0))⟩,⟨some 7,(some (5,true)),.ix (.t 6) (.i 0)⟩,⟨some 8,(some (5,true)),.q (.bin .geq true (.t 7) (.k (.int .u8 65)))⟩,.a 9 (.pick (.t 5) (.t 8) (.k (.bool false))),.v 10 9,⟨some 11,(some (10,true)),.q (.mv (.t 0))⟩,⟨some 12,(some (10,true)),.ix (.t 11) (.i 0)⟩,⟨some 13,(some (10,true)),.q (.bin .leq true (.t 12) (.k (.int .u8 90)))⟩,.a 14 (.pick (.t 10) (.t 13) (.k (.bool false))),.v 2 14]) .ret)
def SY:List RV:=[.mv (.t 2)]
theorem aK1:aY Tryz.prog true ⟨fun r k=>if r=1/\k=1 then .q else .own [],fun _=>false⟩ Tryz.f64=some (SU,SY):=by kernel_rfl
def aBC:PC:=.seq (.reg [.q 2 (.mv (.k (.bool false)))]) (.seq (.seq (.reg [.v 6 0,.q 7 (.lnS (.t 6)),.q 8 (.bin .lss true (.t 7) (.i 1)),.v 9 8,⟨some 10,(some (9,false)),.q (.mv (.t 0))⟩,⟨some 11,(some (9,false)),.q (.lnS (.t 10))⟩,⟨some 12,(some (9,false)),.q (.bin .gtr true (.t 11) (.i 16))⟩,.a 13 (.pick (.t 9) (.k (.bool true)) (.t 12))]) (.cond (.t 13) (.seq (.reg [.q 2 (.mv (.k (.bool false)))]) .ret) .skip)) (.seq (.seq (.reg [.q 3 (.mv (.i 0))]) (.block 0 (.loop (.seq (.seq (.reg [.v 14 3,.v 15 0,.q 16 (.lnS (.t 15)),.q 17 (.bin .lss true (.t 14) (.t 16))]) (.cond (.t 17) .skip (.exit 0))) (.seq (.block 1 (.seq (.reg [.v 20 0,.v 21 3,.a 22 (.ix (.t 20) (.t 21)),.q 23 (.bin .geq true (.t 22) (.k (.int .u8 97))),.v 24 23,⟨some 25,(some (24,true)),.q (.mv (.t 0))⟩,⟨some 26,(some (24,true)),.q (.mv (.t 3))⟩,⟨some 27,(some (24,true)),.ix (.t 25) (.t 26)⟩,⟨some 28,(some (24,true)),.q (.bin .leq true (.t 27) (.k (.int .u8 122)))⟩,.a 29 (.pick (.t 24) (.t 28) (.k (.bool false))),.v 30 29,⟨some 31,(some (30,false)),.q (.mv (.t 0))⟩,⟨some 32,(some (30,false)),.q (.mv (.t 3))⟩,⟨some 33,(some (30,false)),.ix (.t 31) (.t 32)⟩,⟨some 34,(some (30,false)),.q (.bin .geq true (.t 33) (.k (.int .u8 65)))⟩,⟨some 35,(some (30,false)),.q (.mv (.t 34))⟩,⟨some 36,(some (35,true)),.q (.mv (.t 0))⟩,⟨some 37,(some (35,true)),.q (.mv (.t 3))⟩,⟨some 38,(some (35,true)),.ix (.t 36) (.t 37)⟩,⟨some 39,(some (35,true)),.q (.bin .leq true (.t 38) (.k (.int .u8 90)))⟩,⟨some 40,(some (30,false)),.pick (.t 35) (.t 39) (.k (.bool false))⟩,.a 41 (.pick (.t 30) (.k (.bool true)) (.t 40)),.v 4 41]) (.seq (.reg [.v 42 0,.v 43 3,.a 44 (.ix (.t 42) (.t 43)),.q 45 (.bin .eql true (.t 44) (.k (.int .u8 95))),.v 46 45,⟨some 47,(some (46,false)),.q (.mv (.t 0))⟩,⟨some 48,(some (46,false)),.q (.mv (.t 3))⟩,⟨some 49,(some (46,false)),.ix (.t 47) (.t 48)⟩,⟨some 50,(some (46,false)),.q (.bin .geq true (.t 49) (.k (.int .u8 48)))⟩,⟨some 51,(some (46,false)),.q (.mv (.t 50))⟩,⟨some 52,(some (51,true)),.q (.mv (.t 0))⟩,⟨some 53,(some (51,true)),.q (.mv (.t 3))⟩,⟨some 54,(some (51,true)),.ix (.t 52) (.t 53)⟩,⟨some 55,(some (51,true)),.q (.bin .leq true (.t 54) (.k (.int .u8 57)))⟩,⟨some 56,(some (46,false)),.pick (.t 51) (.t 55) (.k (.bool false))⟩,.a 57 (.pick (.t 46) (.k (.bool true)) (.t 56)),.v 5 57]) (.seq (.reg [.v 58 4,.q 59 (.not (.t 58)),.v 60 59,⟨some 61,(some (60,true)),.q (.mv (.t 3))⟩,⟨some 62,(some (60,true)),.q (.bin .eql true (.t 61) (.i 0))⟩,⟨some 63,(some (60,true)),.q (.mv (.t 62))⟩,⟨some 64,(some (63,false)),.q (.mv (.t 5))⟩,⟨some 65,(some (63,false)),.q (.not (.t 64))⟩,⟨some 66,(some (60,true)),.pick (.t 63) (.k (.bool true)) (.t 65)⟩,.a 67 (.pick (.t 60) (.t 66) (.k (.bool false)))]) (.cond (.t 67) (.seq (.reg [.q 2 (.mv (.k (.bool false)))]) .ret) .skip))))) (.reg [.v 18 3,.q 19 (.bin .add true (.t 18) (.i 1)),.v 3 19])))))) (.seq (.reg [.q 2 (.mv (.k (.bool true)))]) .ret)))
def aAR:List RV:=[.mv (.t 2)]
theorem aL7:aY Tryz.prog true ⟨fun _ _=>.own [],fun _=>false⟩ Tryz.f65=some (aBC,aAR):=by kernel_rfl
def aE0:PC:=.seq (.reg [.e 2 (.bx 25 (.t 0)),.e 4 (.al (.agg #[(.string (mk [])),(.slice none 0 0),(.slice none 0 0)]) 62),.q 5 (.mv (.k (.bool false)))]) (.seq (.seq (.reg [.q 6 (.mv (.i 0))]) (.block 0 (.loop (.seq (.seq (.reg [.v 7 6,.q 8 (.fa 1 (.t 2)),.l 9 (.ld1 (.t 8)),.q 10 (.lnL (.t 9)),.q 11 (.bin .lss true (.t 7) (.t 10))]) (.cond (.t 11) .skip (.exit 0))) (.seq (.block 1 (.seq (.reg [.q 14 (.fa 1 (.t 2)),.l 15 (.ld1 (.t 14)),.v 16 6,.l 17 (.ia 3 (.t 15) (.t 16)),.q 18 (.fa 0 (.t 17)),.l 19 (.ld1 (.t 18)),.v 20 1,.q 21 (.bin .eql true (.t 19) (.t 20))]) (.cond (.t 21) (.seq (.reg [.q 22 (.fa 1 (.t 2)),.l 23 (.ld1 (.t 22)),.v 24 6,.l 25 (.ia 3 (.t 23) (.t 24)),.l 26 (.ldn 3 (.t 25)),.s (.st 3 (.t 4) (.t 26)),.q 5 (.mv (.k (.bool true)))]) .ret) .skip))) (.reg [.v 12 6,.q 13 (.bin .add true (.t 12) (.i 1)),.v 6 13])))))) (.seq (.reg [.q 27 (.bd [(.string (mk [])),(.slice none 0 0),(.slice none 0 0)] []),.s (.st 3 (.t 4) (.t 27)),.q 5 (.mv (.k (.bool false)))]) .ret))
def aCA:List RV:=[.ld (.ldn 3 (.t 4)),.mv (.t 5)]
theorem aMA:aY Tryz.prog true ⟨fun _ _=>.own [],fun _=>false⟩ Tryz.f66=some (aE0,aCA):=by kernel_rfl
def qN:PC:=.seq (.reg [.e 2 (.bx 25 (.t 0)),.e 3 (.bx 37 (.t 1)),.q 4 (.mv (.k (.bool false)))]) (.seq (.seq (.reg [.q 9 (.fa 0 (.t 3)),.l 10 (.ld1 (.t 9))]) (.block 0 (.seq (.reg [.q 12 (.bin .eql true (.t 10) (.i 1)),.v 11 12]) (.cond (.t 11) (.seq (.reg [.q 13 (.fa 1 (.t 3)),.l 14 (.ld1 (.t 13)),.q 15 (.bin .eql true (.t 14) (.i 0)),.v 16 15,⟨some 17,(some (16,true)),.q (.fa 2 (.t 3))⟩,⟨some 18,(some (16,true)),.l (.ld1 (.t 17))⟩,⟨some 19,(some (16,true)),.q (.bin .eql true (.t 18) (.k (.string (mk []))))⟩,.a 20 (.pick (.t 16) (.t 19) (.k (.bool false))),.v 21 20,⟨some 22,(some (21,true)),.l (.ldn 4 (.t 3))⟩,⟨some 23,(some (21,true)),.cq 110 [(.t 22)]⟩,.a 24 (.pick (.t 21) (.t 23) (.k (.bool false))),.v 4 24]) .ret) (.seq (.reg [.q 26 (.bin .eql true (.t 10) (.i 2)),.v 25 26]) (.cond (.t 25) (.seq (.reg [.q 27 (.fa 1 (.t 3)),.l 28 (.ld1 (.t 27)),.q 29 (.bin .eql true (.t 28) (.i 8)),.v 30 29,⟨some 31,(some (30,false)),.q (.fa 1 (.t 3))⟩,⟨some 32,(some (30,false)),.l (.ld1 (.t 31))⟩,⟨some 33,(some (30,false)),.q (.bin .eql true (.t 32) (.i 16))⟩,.a 34 (.pick (.t 30) (.k (.bool true)) (.t 33)),.v 35 34,⟨some 36,(some (35,false)),.q (.fa 1 (.t 3))⟩,⟨some 37,(some (35,false)),.l (.ld1 (.t 36))⟩,⟨some 38,(some (35,false)),.q (.bin .eql true (.t 37) (.i 32))⟩,.a 39 (.pick (.t 35) (.k (.bool true)) (.t 38)),.v 40 39,⟨some 41,(some (40,false)),.q (.fa 1 (.t 3))⟩,⟨some 42,(some (40,false)),.l (.ld1 (.t 41))⟩,⟨some 43,(some (40,false)),.q (.bin .eql true (.t 42) (.i 64))⟩,.a 44 (.pick (.t 40) (.k (.bool true)) (.t 43)),.v 45 44,⟨some 46,(some (45,true)),.q (.fa 2 (.t 3))⟩,⟨some 47,(some (45,true)),.l (.ld1 (.t 46))⟩,⟨some 48,(some (45,true)),.q (.bin .eql true (.t 47) (.k (.string (mk []))))⟩,.a 49 (.pick (.t 45) (.t 48) (.k (.bool false))),.v 50 49,⟨some 51,(some (50,true)),.l (.ldn 4 (.t 3))⟩,⟨some 52,(some (50,true)),.cq 110 [(.t 51)]⟩,.a 53 (.pick (.t 50) (.t 52) (.k (.bool false))),.v 4 53]) .ret) (.seq (.reg [.q 55 (.bin .eql true (.t 10) (.i 3)),.v 54 55]) (.cond (.t 54) (.seq (.reg [.q 56 (.fa 1 (.t 3)),.l 57 (.ld1 (.t 56)),.q 58 (.bin .eql true (.t 57) (.i 8)),.v 59 58,⟨some 60,(some (59,false)),.q (.fa 1 (.t 3))⟩,⟨some 61,(some (59,false)),.l (.ld1 (.t 60))⟩,⟨some 62,(some (59,false)),.q (.bin .eql true (.t 61) (.i 16))⟩,.a 63 (.pick (.t 59) (.k (.bool true)) (.t 62)),.v 64 63,⟨some 65,(some (64,false)),.q (.fa 1 (.t 3))⟩,⟨some 66,(some (64,false)),.l (.ld1 (.t 65))⟩,⟨some 67,(some (64,false)),.q (.bin .eql true (.t 66) (.i 32))⟩,.a 68 (.pick (.t 64) (.k (.bool true)) (.t 67)),.v 69 68,⟨some 70,(some (69,true)),.q (.fa 2 (.t 3))⟩,⟨some 71,(some (69,true)),.l (.ld1 (.t 70))⟩,⟨some 72,(some (69,true)),.q (.bin .eql true (.t 71) (.k (.string (mk []))))⟩,.a 73 (.pick (.t 69) (.t 72) (.k (.bool false))),.v 74 73,⟨some 75,(some (74,true)),.l (.ldn 4 (.t 3))⟩,⟨some 76,(some (74,true)),.cq 110 [(.t 75)]⟩,.a 77 (.pick (.t 74) (.t 76) (.k (.bool false))),.v 4 77]) .ret) (.seq (.reg [.q 79 (.bin .eql true (.t 10) (.i 4)),.v 78 79]) (.cond (.t 78) (.seq (.reg [.q 80 (.fa 1 (.t 3)),.l 81 (.ld1 (.t 80)),.q 82 (.bin .geq true (.t 81) (.i 1)),.v 83 82,⟨some 84,(some (83,true)),.q (.fa 1 (.t 3))⟩,⟨some 85,(some (83,true)),.l (.ld1 (.t 84))⟩,⟨some 86,(some (83,true)),.q (.bin .leq true (.t 85) (.i 2000))⟩,.a 87 (.pick (.t 83) (.t 86) (.k (.bool false))),.v 88 87,⟨some 89,(some (88,true)),.q (.fa 2 (.t 3))⟩,⟨some 90,(some (88,true)),.l (.ld1 (.t 89))⟩,⟨some 91,(some (88,true)),.q (.bin .eql true (.t 90) (.k (.string (mk []))))⟩,.a 92 (.pick (.t 88) (.t 91) (.k (.bool false))),.v 93 92,⟨some 94,(some (93,true)),.l (.ldn 4 (.t 3))⟩,⟨some 95,(some (93,true)),.cq 110 [(.t 94)]⟩,.a 96 (.pick (.t 93) (.t 95) (.k (.bool false))),.v 4 96]) .ret) (.seq (.reg [.q 98 (.bin .eql true (.t 10) (.i 5)),.v 97 98]) (.cond (.t 97) (.seq (.reg [.q 99 (.fa 1 (.t 3)),.l 100 (.ld1 (.t 99)),.q 101 (.bin .geq true (.t 100) (.i 1)),.v 102 101,⟨some 103,(some (102,true)),.q (.fa 1 (.t 3))⟩,⟨some 104,(some (102,true)),.l (.ld1 (.t 103))⟩,⟨some 105,(some (102,true)),.q (.bin .leq true (.t 104) (.i 32))⟩,.a 106 (.pick (.t 102) (.t 105) (.k (.bool false))),.v 107 106,⟨some 108,(some (107,true)),.q (.fa 2 (.t 3))⟩,⟨some 109,(some (107,true)),.l (.ld1 (.t 108))⟩,⟨some 110,(some (107,true)),.q (.bin .eql true (.t 109) (.k (.string (mk []))))⟩,.a 111 (.pick (.t 107) (.t 110) (.k (.bool false))),.v 112 111,⟨some 113,(some (112,true)),.q (.fa 3 (.t 3))⟩,⟨some 114,(some (112,true)),.l (.ld1 (.t 113))⟩,⟨some 115,(some (112,true)),.q (.lnL (.t 114))⟩,⟨some 116,(some (112,true)),.q (.bin .eql true (.t 115) (.i 1))⟩,.a 117 (.pick (.t 112) (.t 116) (.k (.bool false))),.v 118 117,⟨some 119,(some (118,true)),.l (.ldn 3 (.t 2))⟩,⟨some 120,(some (118,true)),.q (.fa 3 (.t 3))⟩,⟨some 121,(some (118,true)),.l (.ld1 (.t 120))⟩,⟨some 122,(some (118,true)),.l (.ia 4 (.t 121) (.i 0))⟩,⟨some 123,(some (118,true)),.l (.ldn 4 (.t 122))⟩,⟨some 124,(some (118,true)),.cq 67 [(.t 119),(.t 123)]⟩,.a 125 (.pick (.t 118) (.t 124) (.k (.bool false))),.v 4 125]) .ret) (.seq (.reg [.q 127 (.bin .eql true (.t 10) (.i 6)),.v 126 127]) (.cond (.t 126) (.seq (.reg [.l 129 (.ldn 3 (.t 2)),.q 130 (.fa 2 (.t 3)),.l 131 (.ld1 (.t 130)),.a 132 (.cl 68 [(.t 129),(.t 131)] []),.v 128 132,.q 133 (.ex (.t 128) 0),.q 134 (.ex (.t 128) 1),.e 5 (.al (.agg #[(.string (mk [])),(.slice none 0 0)]) 56),.s (.st 2 (.t 5) (.t 133)),.v 6 134]) (.seq (.reg [.v 135 6,.v 136 135,⟨some 137,(some (136,true)),.q (.fa 1 (.t 3))⟩,⟨some 138,(some (136,true)),.l (.ld1 (.t 137))⟩,⟨some 139,(some (136,true)),.q (.bin .eql true (.t 138) (.i 0))⟩,.a 140 (.pick (.t 136) (.t 139) (.k (.bool false))),.v 141 140,⟨some 142,(some (141,true)),.l (.ldn 4 (.t 3))⟩,⟨some 143,(some (141,true)),.cq 110 [(.t 142)]⟩,.a 144 (.pick (.t 141) (.t 143) (.k (.bool false))),.v 4 144]) .ret)) (.seq (.reg [.q 146 (.bin .eql true (.t 10) (.i 7)),.v 145 146]) (.cond (.t 145) (.seq (.reg [.l 148 (.ldn 3 (.t 2)),.q 149 (.fa 2 (.t 3)),.l 150 (.ld1 (.t 149)),.a 151 (.cl 66 [(.t 148),(.t 150)] []),.v 147 151,.q 152 (.ex (.t 147) 0),.q 153 (.ex (.t 147) 1),.e 7 (.al (.agg #[(.string (mk [])),(.slice none 0 0),(.slice none 0 0)]) 62),.s (.st 3 (.t 7) (.t 152)),.v 8 153]) (.seq (.reg [.v 154 8,.v 155 154,⟨some 156,(some (155,true)),.q (.fa 1 (.t 3))⟩,⟨some 157,(some (155,true)),.l (.ld1 (.t 156))⟩,⟨some 158,(some (155,true)),.q (.bin .eql true (.t 157) (.i 0))⟩,.a 159 (.pick (.t 155) (.t 158) (.k (.bool false))),.v 160 159,⟨some 161,(some (160,true)),.l (.ldn 4 (.t 3))⟩,⟨some 162,(some (160,true)),.cq 110 [(.t 161)]⟩,.a 163 (.pick (.t 160) (.t 162) (.k (.bool false))),.v 4 163]) .ret)) .skip)))))))))))))))) (.seq (.reg [.q 4 (.mv (.k (.bool false)))]) .ret))
def qY:List RV:=[.mv (.t 4)]
theorem aNM:aY Tryz.prog true ⟨fun r k=>if r=3/\k=10 then .q else if r=5/\k=25 then .q else if r=7/\k=20 then .q else if r=9/\k=15 then .q else if r=11/\k=25 then .q else if r=14/\k=8 then .q else if r=17/\k=8 then .q else .own [],fun _=>false⟩ Tryz.f67=some (qN,qY):=by kernel_rfl
def aER:PC:=.seq (.reg [.e 2 (.bx 25 (.t 0)),.e 4 (.al (.agg #[(.string (mk [])),(.slice none 0 0)]) 56),.q 5 (.mv (.k (.bool false)))]) (.seq (.seq (.reg [.q 6 (.mv (.i 0))]) (.block 0 (.loop (.seq (.seq (.reg [.v 7 6,.q 8 (.fa 2 (.t 2)),.l 9 (.ld1 (.t 8)),.q 10 (.lnL (.t 9)),.q 11 (.bin .lss true (.t 7) (.t 10))]) (.cond (.t 11) .skip (.exit 0))) (.seq (.block 1 (.seq (.reg [.q 14 (.fa 2 (.t 2)),.l 15 (.ld1 (.t 14)),.v 16 6,.l 17 (.ia 2 (.t 15) (.t 16)),.q 18 (.fa 0 (.t 17)),.l 19 (.ld1 (.t 18)),.v 20 1,.q 21 (.bin .eql true (.t 19) (.t 20))]) (.cond (.t 21) (.seq (.reg [.q 22 (.fa 2 (.t 2)),.l 23 (.ld1 (.t 22)),.v 24 6,.l 25 (.ia 2 (.t 23) (.t 24)),.l 26 (.ldn 2 (.t 25)),.s (.st 2 (.t 4) (.t 26)),.q 5 (.mv (.k (.bool true)))]) .ret) .skip))) (.reg [.v 12 6,.q 13 (.bin .add true (.t 12) (.i 1)),.v 6 13])))))) (.seq (.reg [.q 27 (.bd [(.string (mk [])),(.slice none 0 0)] []),.s (.st 2 (.t 4) (.t 27)),.q 5 (.mv (.k (.bool false)))]) .ret))
def aDM:List RV:=[.ld (.ldn 2 (.t 4)),.mv (.t 5)]
theorem aM8:aY Tryz.prog true ⟨fun _ _=>.own [],fun _=>false⟩ Tryz.f68=some (aER,aDM):=by kernel_rfl
def aDQ:PC:=.seq (.reg [.e 1 (.bx 37 (.t 0)),.q 2 (.mv (.k (.slice none 0 0)))]) (.seq (.seq (.reg [.q 5 (.fa 0 (.t 1)),.l 6 (.ld1 (.t 5)),.q 7 (.bin .eql true (.t 6) (.i 6)),.v 8 7,⟨some 9,(some (8,false)),.q (.fa 0 (.t 1))⟩,⟨some 10,(some (8,false)),.l (.ld1 (.t 9))⟩,⟨some 11,(some (8,false)),.q (.bin .eql true (.t 10) (.i 7))⟩,.a 12 (.pick (.t 8) (.k (.bool true)) (.t 11))]) (.cond (.t 12) (.seq (.reg [.q 13 (.fa 2 (.t 1)),.l 14 (.ld1 (.t 13)),.e 15 (.bsl 9 1 [(.t 14)]),.v 2 15]) .ret) .skip)) (.seq (.reg [.q 3 (.mv (.k (.slice none 0 0)))]) (.seq (.seq (.reg [.q 4 (.mv (.i 0))]) (.block 0 (.loop (.seq (.seq (.reg [.v 16 4,.q 17 (.fa 3 (.t 1)),.l 18 (.ld1 (.t 17)),.q 19 (.lnL (.t 18)),.q 20 (.bin .lss true (.t 16) (.t 19))]) (.cond (.t 20) .skip (.exit 0))) (.seq (.block 1 (.reg [.v 23 3,.q 24 (.fa 3 (.t 1)),.l 25 (.ld1 (.t 24)),.v 26 4,.l 27 (.ia 4 (.t 25) (.t 26)),.l 28 (.ldn 4 (.t 27)),.a 29 (.cl 69 [(.t 28)] []),.e 30 (.ap 9 1 16 (.t 23) (.t 29)),.v 3 30])) (.reg [.v 21 4,.q 22 (.bin .add true (.t 21) (.i 1)),.v 4 22])))))) (.seq (.reg [.v 31 3,.v 2 31]) .ret))))
def ZS:List RV:=[.mv (.t 2)]
theorem aNA:aY Tryz.prog true ⟨fun _ _=>.own [],fun _=>false⟩ Tryz.f69=some (aDQ,ZS):=by kernel_rfl
def aFV:PC:=.seq (.reg [.q 4 (.mv (.k (.slice none 0 0)))]) (.seq (.reg [.q 5 (.mv (.k (.slice none 0 0)))]) (.seq (.reg [.q 6 (.mv (.k (.bool false)))]) (.seq (.seq (.reg [.q 7 (.mv (.i 0))]) (.block 0 (.loop (.seq (.seq (.reg [.v 8 7,.v 9 0,.q 10 (.lnL (.t 9)),.q 11 (.bin .lss true (.t 8) (.t 10))]) (.cond (.t 11) .skip (.exit 0))) (.seq (.block 1 (.seq (.seq (.reg [.v 14 6,.q 15 (.not (.t 14)),.v 16 15,⟨some 17,(some (16,true)),.q (.mv (.t 1))⟩,⟨some 18,(some (16,true)),.q (.mv (.t 0))⟩,⟨some 19,(some (16,true)),.q (.mv (.t 7))⟩,⟨some 20,(some (16,true)),.l (.ia 1 (.t 18) (.t 19))⟩,⟨some 21,(some (16,true)),.l (.ld1 (.t 20))⟩,⟨some 22,(some (16,true)),.q (.bin .leq true (.t 17) (.t 21))⟩,.a 23 (.pick (.t 16) (.t 22) (.k (.bool false)))]) (.cond (.t 23) (.seq (.reg [.q 6 (.mv (.k (.bool true)))]) (.seq (.reg [.v 24 1,.v 25 0,.v 26 7,.l 27 (.ia 1 (.t 25) (.t 26)),.l 28 (.ld1 (.t 27)),.q 29 (.bin .lss true (.t 24) (.t 28))]) (.cond (.t 29) (.reg [.v 30 5,.v 31 1,.e 32 (.bsl 9 1 [(.t 31)]),.e 33 (.ap 9 1 16 (.t 30) (.t 32)),.v 5 33]) .skip))) .skip)) (.reg [.v 34 5,.v 35 0,.v 36 7,.l 37 (.ia 1 (.t 35) (.t 36)),.l 38 (.ld1 (.t 37)),.e 39 (.bsl 9 1 [(.t 38)]),.e 40 (.ap 9 1 16 (.t 34) (.t 39)),.v 5 40]))) (.reg [.v 12 7,.q 13 (.bin .add true (.t 12) (.i 1)),.v 7 13])))))) (.seq (.seq (.reg [.v 41 6,.q 42 (.not (.t 41))]) (.cond (.t 42) (.reg [.v 43 5,.v 44 1,.e 45 (.bsl 9 1 [(.t 44)]),.e 46 (.ap 9 1 16 (.t 43) (.t 45)),.v 5 46]) .skip)) (.seq (.reg [.v 47 5,.v 4 47]) .ret)))))
def aEP:List RV:=[.mv (.t 4)]
theorem aLO:aY Tryz.prog true ⟨fun _ _=>.own [],fun _=>false⟩ Tryz.f70=some (aFV,aEP):=by kernel_rfl
def aEQ:PC:=.seq (.reg [.e 3 (.bx 25 (.t 0)),.e 5 (.bx 37 (.t 2)),.q 6 (.mv (.i 0))]) (.seq (.seq (.reg [.q 8 (.fa 0 (.t 5)),.l 9 (.ld1 (.t 8)),.q 10 (.bin .eql true (.t 9) (.i 5)),.v 11 10,⟨some 12,(some (11,true)),.q (.fa 3 (.t 5))⟩,⟨some 13,(some (11,true)),.l (.ld1 (.t 12))⟩,⟨some 14,(some (11,true)),.q (.lnL (.t 13))⟩,⟨some 15,(some (11,true)),.q (.bin .gtr true (.t 14) (.i 0))⟩,.a 16 (.pick (.t 11) (.t 15) (.k (.bool false)))]) (.cond (.t 16) (.seq (.reg [.l 17 (.ldn 3 (.t 3)),.v 18 1,.q 19 (.fa 3 (.t 5)),.l 20 (.ld1 (.t 19)),.l 21 (.ia 4 (.t 20) (.i 0)),.l 22 (.ldn 4 (.t 21)),.a 23 (.cq 71 [(.t 17),(.t 18),(.t 22)]),.q 24 (.bin .add true (.i 1) (.t 23)),.v 6 24]) .ret) .skip)) (.seq (.seq (.reg [.q 7 (.mv (.i 0))]) (.block 0 (.loop (.seq (.seq (.reg [.v 25 7,.q 26 (.fa 2 (.t 3)),.l 27 (.ld1 (.t 26)),.q 28 (.lnL (.t 27)),.q 29 (.bin .lss true (.t 25) (.t 28))]) (.cond (.t 29) .skip (.exit 0))) (.seq (.block 1 (.seq (.reg [.q 32 (.fa 0 (.t 5)),.l 33 (.ld1 (.t 32)),.q 34 (.bin .eql true (.t 33) (.i 6)),.v 35 34,⟨some 36,(some (35,true)),.q (.fa 2 (.t 3))⟩,⟨some 37,(some (35,true)),.l (.ld1 (.t 36))⟩,⟨some 38,(some (35,true)),.q (.mv (.t 7))⟩,⟨some 39,(some (35,true)),.l (.ia 2 (.t 37) (.t 38))⟩,⟨some 40,(some (35,true)),.q (.fa 0 (.t 39))⟩,⟨some 41,(some (35,true)),.l (.ld1 (.t 40))⟩,⟨some 42,(some (35,true)),.q (.fa 2 (.t 5))⟩,⟨some 43,(some (35,true)),.l (.ld1 (.t 42))⟩,⟨some 44,(some (35,true)),.q (.bin .eql true (.t 41) (.t 43))⟩,.a 45 (.pick (.t 35) (.t 44) (.k (.bool false)))]) (.cond (.t 45) (.seq (.reg [.v 46 1,.v 47 7,.l 48 (.ia 1 (.t 46) (.t 47)),.l 49 (.ld1 (.t 48)),.v 6 49]) .ret) .skip))) (.reg [.v 30 7,.q 31 (.bin .add true (.t 30) (.i 1)),.v 7 31])))))) (.seq (.reg [.q 6 (.mv (.i 0))]) .ret)))
def aDV:List RV:=[.mv (.t 6)]
theorem aN8:aY Tryz.prog true ⟨fun r k=>if r=2/\k=6 then .q else .own [],fun _=>false⟩ Tryz.f71=some (aEQ,aDV):=by kernel_rfl
def U1:PC:=.seq (.reg [.e 1 (.bx 37 (.t 0)),.q 2 (.mv (.k (.bool false)))]) (.seq (.reg [.q 3 (.fa 3 (.t 1)),.l 4 (.ld1 (.t 3)),.q 5 (.lnL (.t 4)),.q 6 (.bin .eql true (.t 5) (.i 0)),.v 2 6]) .ret)
def V6:List RV:=[.mv (.t 2)]
theorem aGI:aY Tryz.prog true ⟨fun _ _=>.own [],fun _=>false⟩ Tryz.f110=some (U1,V6):=by kernel_rfl
def aEJ:PC:=.seq (.reg [.q 2 (.mv (.k (.slice none 0 0))),.q 3 (.mv (.i 0)),.q 4 (.mv (.i 0))]) (.seq (.seq (.reg [.v 12 0,.q 13 (.lnS (.t 12)),.q 14 (.bin .gtr true (.t 13) (.i 4000))]) (.cond (.t 14) (.seq (.reg [.q 2 (.mv (.k (.slice none 0 0))),.q 3 (.mv (.i 3)),.q 4 (.mv (.i 0))]) .ret) .skip)) (.seq (.reg [.q 5 (.mv (.k (.slice none 0 0)))]) (.seq (.reg [.v 15 0,.a 16 (.cq 86 [(.t 15),(.i 0)]),.v 6 16]) (.seq (.block 0 (.loop (.seq (.seq (.reg [.v 17 6,.v 18 0,.q 19 (.lnS (.t 18)),.q 20 (.bin .lss true (.t 17) (.t 19))]) (.cond (.t 20) .skip (.exit 0))) (.block 1 (.seq (.reg [.v 21 6,.q 22 (.bd [(.int .i64 0),(.string (mk [])),(.int .i64 0),(.int .i64 0)] [(3,1,(.t 21))]),.e 7 (.al (.agg #[(.int .i64 0),(.string (mk [])),(.int .i64 0),(.int .i64 0)]) 74),.s (.st 4 (.t 7) (.t 22))]) (.seq (.reg [.v 23 6,.q 24 (.bin .add true (.t 23) (.i 1)),.v 8 24,.q 9 (.mv (.i 0)),.q 10 (.mv (.i 0))]) (.seq (.reg [.v 25 0,.v 26 6,.a 27 (.ix (.t 25) (.t 26)),.v 11 27]) (.seq (.block 2 (.seq (.reg [.v 30 11,.a 31 (.cq 87 [(.t 30)]),.v 29 31]) (.cond (.t 29) (.seq (.reg [.v 33 0,.v 34 6,.a 35 (.cl 88 [(.t 33),(.t 34)] []),.v 32 35,.q 36 (.ex (.t 32) 0),.q 37 (.ex (.t 32) 1),.q 38 (.ex (.t 32) 2),.v 8 36,.v 9 37,.v 10 38]) (.seq (.reg [.q 39 (.fa 0 (.t 7)),.s (.st 1 (.t 39) (.i 1))]) (.reg [.v 40 0,.v 41 6,.v 42 8,.q 43 (.ss (.t 40) (some (.t 41)) (some (.t 42))),.q 44 (.fa 1 (.t 7)),.s (.st 1 (.t 44) (.t 43))]))) (.seq (.reg [.v 46 11,.a 47 (.cq 89 [(.t 46)]),.v 48 47,⟨some 49,(some (48,false)),.q (.mv (.t 11))⟩,⟨some 50,(some (48,false)),.q (.bin .eql true (.t 49) (.k (.int .u8 45)))⟩,.a 51 (.pick (.t 48) (.k (.bool true)) (.t 50)),.v 45 51]) (.cond (.t 45) (.seq (.reg [.v 53 0,.v 54 6,.a 55 (.cl 90 [(.t 53),(.t 54)] []),.v 52 55,.q 56 (.ex (.t 52) 0),.q 57 (.ex (.t 52) 1),.q 58 (.ex (.t 52) 2),.q 59 (.ex (.t 52) 3),.v 8 56,.q 60 (.fa 2 (.t 7)),.s (.st 1 (.t 60) (.t 57)),.v 9 58,.v 10 59]) (.reg [.q 61 (.fa 0 (.t 7)),.s (.st 1 (.t 61) (.i 2))])) (.seq (.reg [.v 63 11,.q 64 (.bin .eql true (.t 63) (.k (.int .u8 34))),.v 62 64]) (.cond (.t 62) (.seq (.reg [.v 66 0,.v 67 6,.a 68 (.cl 91 [(.t 66),(.t 67)] []),.v 65 68,.q 69 (.ex (.t 65) 0),.q 70 (.ex (.t 65) 1),.q 71 (.ex (.t 65) 2),.q 72 (.ex (.t 65) 3),.v 8 69,.q 73 (.fa 1 (.t 7)),.s (.st 1 (.t 73) (.t 70)),.v 9 71,.v 10 72]) (.reg [.q 74 (.fa 0 (.t 7)),.s (.st 1 (.t 74) (.i 3))])) (.seq (.reg [.v 76 11,.a 77 (.cq 92 [(.t 76)]),.v 75 77]) (.cond (.t 75) (.seq (.reg [.q 78 (.fa 0 (.t 7)),.s (.st 1 (.t 78) (.i 4))]) (.reg [.v 79 0,.v 80 6,.v 81 8,.q 82 (.ss (.t 79) (some (.t 80)) (some (.t 81))),.q 83 (.fa 1 (.t 7)),.s (.st 1 (.t 83) (.t 82))])) (.seq (.reg [.v 28 6,.q 2 (.mv (.k (.slice none 0 0))),.q 3 (.mv (.i 2)),.v 4 28]) .ret)))))))))) (.seq (.seq (.reg [.v 84 9,.q 85 (.bin .neq true (.t 84) (.i 0))]) (.cond (.t 85) (.seq (.reg [.v 86 9,.v 87 10,.q 2 (.mv (.k (.slice none 0 0))),.v 3 86,.v 4 87]) .ret) .skip)) (.seq (.reg [.v 88 5,.l 89 (.ldn 4 (.t 7)),.e 90 (.bsl 74 4 [(.t 89)]),.e 91 (.ap 74 4 40 (.t 88) (.t 90)),.v 5 91]) (.reg [.v 92 0,.v 93 8,.a 94 (.cq 86 [(.t 92),(.t 93)]),.v 6 94]))))))))))) (.seq (.reg [.v 95 5,.v 96 0,.q 97 (.lnS (.t 96)),.q 98 (.bd [(.int .i64 0),(.string (mk [])),(.int .i64 0),(.int .i64 0)] [(3,1,(.t 97))]),.e 99 (.bsl 74 4 [(.t 98)]),.e 100 (.ap 74 4 40 (.t 95) (.t 99)),.v 2 100,.q 3 (.mv (.i 0)),.q 4 (.mv (.i 0))]) .ret)))))
def aC3:List RV:=[.mv (.t 2),.mv (.t 3),.mv (.t 4)]
theorem aJ9:aY Tryz.prog true ⟨fun r k=>if r=4/\k=1 then .q else if r=10/\k=1 then .q else if r=14/\k=1 then .q else if r=20/\k=1 then .q else if r=26/\k=2 then .q else .own [],fun _=>false⟩ Tryz.f45=some (aEJ,aC3):=by kernel_rfl
def aFR:PC:=.seq (.reg [.q 4 (.mv (.i 0))]) (.seq (.reg [.q 5 (.mv (.k (.bool false)))]) (.seq (.block 0 (.loop (.seq (.seq (.reg [.v 7 1,.v 8 0,.q 9 (.lnS (.t 8)),.q 10 (.bin .lss true (.t 7) (.t 9))]) (.cond (.t 10) .skip (.exit 0))) (.block 1 (.seq (.reg [.v 11 0,.v 12 1,.a 13 (.ix (.t 11) (.t 12)),.v 6 13]) (.seq (.seq (.reg [.v 14 6,.q 15 (.bin .eql true (.t 14) (.k (.int .u8 10)))]) (.cond (.t 15) (.reg [.q 5 (.mv (.k (.bool false)))]) .skip)) (.seq (.seq (.reg [.v 16 6,.q 17 (.bin .eql true (.t 16) (.k (.int .u8 35)))]) (.cond (.t 17) (.reg [.q 5 (.mv (.k (.bool true)))]) .skip)) (.seq (.seq (.reg [.v 18 5,.q 19 (.not (.t 18)),.v 20 19,⟨some 21,(some (20,true)),.q (.mv (.t 6))⟩,⟨some 22,(some (20,true)),.q (.bin .neq true (.t 21) (.k (.int .u8 32)))⟩,.a 23 (.pick (.t 20) (.t 22) (.k (.bool false))),.v 24 23,⟨some 25,(some (24,true)),.q (.mv (.t 6))⟩,⟨some 26,(some (24,true)),.q (.bin .neq true (.t 25) (.k (.int .u8 9)))⟩,.a 27 (.pick (.t 24) (.t 26) (.k (.bool false))),.v 28 27,⟨some 29,(some (28,true)),.q (.mv (.t 6))⟩,⟨some 30,(some (28,true)),.q (.bin .neq true (.t 29) (.k (.int .u8 10)))⟩,.a 31 (.pick (.t 28) (.t 30) (.k (.bool false)))]) (.cond (.t 31) (.seq (.reg [.v 32 1,.v 4 32]) .ret) .skip)) (.reg [.v 33 1,.q 34 (.bin .add true (.t 33) (.i 1)),.v 1 34]))))))))) (.seq (.reg [.v 35 1,.v 4 35]) .ret)))
def aF6:List RV:=[.mv (.t 4)]
theorem aNG:aY Tryz.prog true ⟨fun _ _=>.own [],fun _=>false⟩ Tryz.f86=some (aFR,aF6):=by kernel_rfl
def aBJ:PC:=.seq (.reg [.q 2 (.mv (.k (.bool false)))]) (.seq (.reg [.v 3 0,.q 4 (.bin .geq true (.t 3) (.k (.int .u8 97))),.v 5 4,⟨some 6,(some (5,true)),.q (.mv (.t 0))⟩,⟨some 7,(some (5,true)),.q (.bin .leq true (.t 6) (.k (.int .u8 122)))⟩,.a 8 (.pick (.t 5) (.t 7) (.k (.bool false))),.v 9 8,⟨some 10,(some (9,false)),.q (.mv (.t 0))⟩,⟨some 11,(some (9,false)),.q (.bin .geq true (.t 10) (.k (.int .u8 65)))⟩,⟨some 12,(some (9,false)),.q (.mv (.t 11))⟩,⟨some 13,(some (12,true)),.q (.mv (.t 0))⟩,⟨some 14,(some (12,true)),.q (.bin .leq true (.t 13) (.k (.int .u8 90)))⟩,⟨some 15,(some (9,false)),.pick (.t 12) (.t 14) (.k (.bool false))⟩,.a 16 (.pick (.t 9) (.k (.bool true)) (.t 15)),.v 2 16]) .ret)
def aAT:List RV:=[.mv (.t 2)]
theorem aKD:aY Tryz.prog true ⟨fun _ _=>.own [],fun _=>false⟩ Tryz.f87=some (aBJ,aAT):=by kernel_rfl
def aE2:PC:=.seq (.reg [.q 4 (.mv (.i 0)),.q 5 (.mv (.i 0)),.q 6 (.mv (.i 0))]) (.seq (.reg [.v 8 1,.v 7 8]) (.seq (.block 0 (.loop (.seq (.seq (.reg [.v 9 7,.v 10 0,.q 11 (.lnS (.t 10)),.q 12 (.bin .lss true (.t 9) (.t 11)),.v 13 12,⟨some 14,(some (13,true)),.q (.mv (.t 0))⟩,⟨some 15,(some (13,true)),.q (.mv (.t 7))⟩,⟨some 16,(some (13,true)),.ix (.t 14) (.t 15)⟩,⟨some 17,(some (13,true)),.cq 117 [(.t 16)]⟩,.a 18 (.pick (.t 13) (.t 17) (.k (.bool false)))]) (.cond (.t 18) .skip (.exit 0))) (.block 1 (.reg [.v 19 7,.q 20 (.bin .add true (.t 19) (.i 1)),.v 7 20]))))) (.seq (.seq (.reg [.v 21 7,.v 22 1,.q 23 (.bin .sub true (.t 21) (.t 22)),.q 24 (.bin .gtr true (.t 23) (.i 16))]) (.cond (.t 24) (.seq (.reg [.v 25 7,.v 26 1,.v 4 25,.q 5 (.mv (.i 3)),.v 6 26]) .ret) .skip)) (.seq (.seq (.reg [.v 27 7,.v 28 0,.q 29 (.lnS (.t 28)),.q 30 (.bin .lss true (.t 27) (.t 29)),.v 31 30,⟨some 32,(some (31,true)),.q (.mv (.t 0))⟩,⟨some 33,(some (31,true)),.q (.mv (.t 7))⟩,⟨some 34,(some (31,true)),.ix (.t 32) (.t 33)⟩,⟨some 35,(some (31,true)),.q (.bin .eql true (.t 34) (.k (.int .u8 45)))⟩,.a 36 (.pick (.t 31) (.t 35) (.k (.bool false)))]) (.cond (.t 36) (.seq (.reg [.v 37 7,.v 38 7,.v 4 37,.q 5 (.mv (.i 2)),.v 6 38]) .ret) .skip)) (.seq (.reg [.v 39 7,.v 4 39,.q 5 (.mv (.i 0)),.q 6 (.mv (.i 0))]) .ret)))))
def Z3:List RV:=[.mv (.t 4),.mv (.t 5),.mv (.t 6)]
theorem aLW:aY Tryz.prog true ⟨fun r k=>if r=2/\k=8 then .q else .own [],fun _=>false⟩ Tryz.f88=some (aE2,Z3):=by kernel_rfl
def aEB:PC:=.seq (.reg [.q 2 (.mv (.k (.bool false)))]) (.seq (.reg [.v 3 0,.q 4 (.bin .geq true (.t 3) (.k (.int .u8 48))),.v 5 4,⟨some 6,(some (5,true)),.q (.mv (.t 0))⟩,⟨some 7,(some (5,true)),.q (.bin .leq true (.t 6) (.k (.int .u8 57)))⟩,.a 8 (.pick (.t 5) (.t 7) (.k (.bool false))),.v 2 8]) .ret)
def aA7:List RV:=[.mv (.t 2)]
theorem aKP:aY Tryz.prog true ⟨fun _ _=>.own [],fun _=>false⟩ Tryz.f89=some (aEB,aA7):=by kernel_rfl
def pc90_6:PC:=.seq (.gh (.reg [.v 31 0,.v 32 1,.v 33 8,.q 34 (.ss (.t 31) (some (.t 32)) (some (.t 33))),.a 35 (.cl 118 [(.t 34)] []),.v 30 35,.q 36 (.ex (.t 30) 0),.q 37 (.ex (.t 30) 1),.v 9 36,.v 10 37])) (.seq (.seq (.reg [.v 38 10,.q 39 (.bin .eql true (.t 38) (.i 2))]) (.cond (.t 39) (.seq (.reg [.v 40 8,.v 41 1,.v 4 40,.q 5 (.mv (.i 0)),.q 6 (.mv (.i 2)),.v 7 41]) .ret) .skip)) (.seq (.seq (.reg [.v 42 10,.q 43 (.bin .eql true (.t 42) (.i 1))]) (.cond (.t 43) (.seq (.reg [.v 44 8,.v 45 1,.v 4 44,.q 5 (.mv (.i 0)),.q 6 (.mv (.i 4)),.v 7 45]) .ret) .skip)) (.seq (.seq (.reg [.v 46 8,.v 47 0,.q 48 (.lnS (.t 47)),.q 49 (.bin .lss true (.t 46) (.t 48)),.v 50 49,⟨some 51,(some (50,true)),.q (.mv (.t 0))⟩,⟨some 52,(some (50,true)),.q (.mv (.t 8))⟩,⟨some 53,(some (50,true)),.ix (.t 51) (.t 52)⟩,⟨some 54,(some (50,true)),.cq 117 [(.t 53)]⟩,⟨some 55,(some (50,true)),.q (.mv (.t 54))⟩,⟨some 56,(some (55,false)),.q (.mv (.t 0))⟩,⟨some 57,(some (55,false)),.q (.mv (.t 8))⟩,⟨some 58,(some (55,false)),.ix (.t 56) (.t 57)⟩,⟨some 59,(some (55,false)),.q (.bin .eql true (.t 58) (.k (.int .u8 45)))⟩,⟨some 60,(some (50,true)),.pick (.t 55) (.k (.bool true)) (.t 59)⟩,.a 61 (.pick (.t 50) (.t 60) (.k (.bool false)))]) (.cond (.t 61) (.seq (.reg [.v 62 8,.v 63 8,.v 4 62,.q 5 (.mv (.i 0)),.q 6 (.mv (.i 2)),.v 7 63]) .ret) .skip)) (.seq (.reg [.v 64 8,.v 65 9,.v 4 64,.v 5 65,.q 6 (.mv (.i 0)),.q 7 (.mv (.i 0))]) .ret))))
@[go_sem ↓] theorem aOK:bT pc90_6:=bY _
def aB5:PC:=.seq (.reg [.q 4 (.mv (.i 0)),.q 5 (.mv (.i 0)),.q 6 (.mv (.i 0)),.q 7 (.mv (.i 0))]) (.seq (.reg [.v 11 1,.v 8 11]) (.seq (.seq (.reg [.v 12 0,.v 13 8,.a 14 (.ix (.t 12) (.t 13)),.q 15 (.bin .eql true (.t 14) (.k (.int .u8 45)))]) (.cond (.t 15) (.reg [.v 16 8,.q 17 (.bin .add true (.t 16) (.i 1)),.v 8 17]) .skip)) (.seq (.block 0 (.loop (.seq (.seq (.reg [.v 18 8,.v 19 0,.q 20 (.lnS (.t 19)),.q 21 (.bin .lss true (.t 18) (.t 20)),.v 22 21,⟨some 23,(some (22,true)),.q (.mv (.t 0))⟩,⟨some 24,(some (22,true)),.q (.mv (.t 8))⟩,⟨some 25,(some (22,true)),.ix (.t 23) (.t 24)⟩,⟨some 26,(some (22,true)),.cq 89 [(.t 25)]⟩,.a 27 (.pick (.t 22) (.t 26) (.k (.bool false)))]) (.cond (.t 27) .skip (.exit 0))) (.block 1 (.reg [.v 28 8,.q 29 (.bin .add true (.t 28) (.i 1)),.v 8 29]))))) (pc90_6))))
def M4:List RV:=[.mv (.t 4),.mv (.t 5),.mv (.t 6),.mv (.t 7)]
theorem aMW:aY Tryz.prog true ⟨fun r k=>if r=4/\k=8 then .q else if r=11/\k=8 then .q else .own [],fun r=>[6].contains r⟩ Tryz.f90=some (aB5,M4):=by kernel_rfl
def aBO:PC:=.seq (.reg [.q 4 (.mv (.i 0)),.q 5 (.mv (.k (.string (mk [])))),.q 6 (.mv (.i 0)),.q 7 (.mv (.i 0))]) (.seq (.reg [.q 8 (.mv (.k (.string (mk []))))]) (.seq (.reg [.v 11 1,.q 12 (.bin .add true (.t 11) (.i 1)),.v 9 12]) (.block 0 (.loop (.block 1 (.seq (.seq (.reg [.v 13 9,.v 14 0,.q 15 (.lnS (.t 14)),.q 16 (.bin .geq true (.t 13) (.t 15))]) (.cond (.t 16) (.seq (.reg [.v 17 9,.v 18 0,.q 19 (.lnS (.t 18)),.v 4 17,.q 5 (.mv (.k (.string (mk [])))),.q 6 (.mv (.i 2)),.v 7 19]) .ret) .skip)) (.seq (.reg [.v 20 0,.v 21 9,.a 22 (.ix (.t 20) (.t 21)),.v 10 22]) (.seq (.seq (.reg [.v 23 10,.q 24 (.bin .eql true (.t 23) (.k (.int .u8 34)))]) (.cond (.t 24) (.seq (.seq (.reg [.v 25 8,.q 26 (.lnS (.t 25)),.q 27 (.bin .gtr true (.t 26) (.i 200))]) (.cond (.t 27) (.seq (.reg [.v 28 9,.v 29 1,.v 4 28,.q 5 (.mv (.k (.string (mk [])))),.q 6 (.mv (.i 3)),.v 7 29]) .ret) .skip)) (.seq (.reg [.v 30 9,.q 31 (.bin .add true (.t 30) (.i 1)),.v 32 8,.v 4 31,.v 5 32,.q 6 (.mv (.i 0)),.q 7 (.mv (.i 0))]) .ret)) .skip)) (.seq (.seq (.reg [.v 33 10,.q 34 (.bin .lss true (.t 33) (.k (.int .u8 32))),.v 35 34,⟨some 36,(some (35,false)),.q (.mv (.t 10))⟩,⟨some 37,(some (35,false)),.q (.bin .gtr true (.t 36) (.k (.int .u8 126)))⟩,.a 38 (.pick (.t 35) (.k (.bool true)) (.t 37)),.v 39 38,⟨some 40,(some (39,false)),.q (.mv (.t 10))⟩,⟨some 41,(some (39,false)),.q (.bin .eql true (.t 40) (.k (.int .u8 92)))⟩,⟨some 42,(some (39,false)),.q (.mv (.t 41))⟩,⟨some 43,(some (42,true)),.q (.mv (.t 9))⟩,⟨some 44,(some (42,true)),.q (.bin .add true (.t 43) (.i 1))⟩,⟨some 45,(some (42,true)),.q (.mv (.t 0))⟩,⟨some 46,(some (42,true)),.q (.lnS (.t 45))⟩,⟨some 47,(some (42,true)),.q (.bin .geq true (.t 44) (.t 46))⟩,⟨some 48,(some (42,true)),.q (.mv (.t 47))⟩,⟨some 49,(some (48,false)),.q (.mv (.t 0))⟩,⟨some 50,(some (48,false)),.q (.mv (.t 9))⟩,⟨some 51,(some (48,false)),.q (.bin .add true (.t 50) (.i 1))⟩,⟨some 52,(some (48,false)),.ix (.t 49) (.t 51)⟩,⟨some 53,(some (48,false)),.q (.bin .neq true (.t 52) (.k (.int .u8 34)))⟩,⟨some 54,(some (48,false)),.q (.mv (.t 53))⟩,⟨some 55,(some (54,true)),.q (.mv (.t 0))⟩,⟨some 56,(some (54,true)),.q (.mv (.t 9))⟩,⟨some 57,(some (54,true)),.q (.bin .add true (.t 56) (.i 1))⟩,⟨some 58,(some (54,true)),.ix (.t 55) (.t 57)⟩,⟨some 59,(some (54,true)),.q (.bin .neq true (.t 58) (.k (.int .u8 92)))⟩,⟨some 60,(some (48,false)),.pick (.t 54) (.t 59) (.k (.bool false))⟩,⟨some 61,(some (42,true)),.pick (.t 48) (.k (.bool true)) (.t 60)⟩,⟨some 62,(some (39,false)),.pick (.t 42) (.t 61) (.k (.bool false))⟩,.a 63 (.pick (.t 39) (.k (.bool true)) (.t 62))]) (.cond (.t 63) (.seq (.reg [.v 64 9,.v 65 9,.v 4 64,.q 5 (.mv (.k (.string (mk [])))),.q 6 (.mv (.i 2)),.v 7 65]) .ret) .skip)) (.seq (.seq (.reg [.v 66 10,.q 67 (.bin .eql true (.t 66) (.k (.int .u8 92)))]) (.cond (.t 67) (.reg [.v 68 9,.q 69 (.bin .add true (.t 68) (.i 1)),.v 9 69]) .skip)) (.seq (.reg [.v 70 8,.v 71 0,.v 72 9,.v 73 9,.q 74 (.bin .add true (.t 73) (.i 1)),.q 75 (.ss (.t 71) (some (.t 72)) (some (.t 74))),.q 76 (.bin .add true (.t 70) (.t 75)),.v 8 76]) (.reg [.v 77 9,.q 78 (.bin .add true (.t 77) (.i 1)),.v 9 78]))))))))))))
def aEC:List RV:=[.mv (.t 4),.mv (.t 5),.mv (.t 6),.mv (.t 7)]
theorem aLV:aY Tryz.prog true ⟨fun _ _=>.own [],fun _=>false⟩ Tryz.f91=some (aBO,aEC):=by kernel_rfl
def aD2:PC:=.seq (.reg [.q 2 (.mv (.k (.bool false)))]) (.seq (.reg [.q 3 (.mv (.k (.string (mk [123,125,40,41,91,93,58,59,44,61,46,63,33,38,124,64]))))]) (.seq (.seq (.reg [.q 4 (.mv (.i 0))]) (.block 0 (.loop (.seq (.seq (.reg [.v 5 4,.v 6 3,.q 7 (.lnS (.t 6)),.q 8 (.bin .lss true (.t 5) (.t 7))]) (.cond (.t 8) .skip (.exit 0))) (.seq (.block 1 (.seq (.reg [.v 11 3,.v 12 4,.a 13 (.ix (.t 11) (.t 12)),.v 14 0,.q 15 (.bin .eql true (.t 13) (.t 14))]) (.cond (.t 15) (.seq (.reg [.q 2 (.mv (.k (.bool true)))]) .ret) .skip))) (.reg [.v 9 4,.q 10 (.bin .add true (.t 9) (.i 1)),.v 4 10])))))) (.seq (.reg [.q 2 (.mv (.k (.bool false)))]) .ret)))
def aBK:List RV:=[.mv (.t 2)]
theorem aN0:aY Tryz.prog true ⟨fun _ _=>.own [],fun _=>false⟩ Tryz.f92=some (aD2,aBK):=by kernel_rfl
def V0:PC:=.seq (.reg [.q 2 (.mv (.k (.bool false)))]) (.seq (.reg [.v 3 0,.a 4 (.cq 87 [(.t 3)]),.v 5 4,⟨some 6,(some (5,false)),.q (.mv (.t 0))⟩,⟨some 7,(some (5,false)),.cq 89 [(.t 6)]⟩,.a 8 (.pick (.t 5) (.k (.bool true)) (.t 7)),.v 9 8,⟨some 10,(some (9,false)),.q (.mv (.t 0))⟩,⟨some 11,(some (9,false)),.q (.bin .eql true (.t 10) (.k (.int .u8 95)))⟩,.a 12 (.pick (.t 9) (.k (.bool true)) (.t 11)),.v 2 12]) .ret)
def UX:List RV:=[.mv (.t 2)]
theorem aH1:aY Tryz.prog true ⟨fun r k=>if r=1/\k=1 then .q else if r=1/\k=4 then .q else .own [],fun _=>false⟩ Tryz.f117=some (V0,UX):=by kernel_rfl
def pc118_4:PC:=.seq (.seq (.gh (.reg [.v 16 4,.v 17 0,.q 18 (.lnS (.t 17)),.q 19 (.bin .geq true (.t 16) (.t 18)),.v 20 19,⟨some 21,(some (20,false)),.q (.mv (.t 0))⟩,⟨some 22,(some (20,false)),.q (.lnS (.t 21))⟩,⟨some 23,(some (20,false)),.q (.mv (.t 4))⟩,⟨some 24,(some (20,false)),.q (.bin .sub true (.t 22) (.t 23))⟩,⟨some 25,(some (20,false)),.q (.bin .gtr true (.t 24) (.i 1))⟩,⟨some 26,(some (20,false)),.q (.mv (.t 25))⟩,⟨some 27,(some (26,true)),.q (.mv (.t 0))⟩,⟨some 28,(some (26,true)),.q (.mv (.t 4))⟩,⟨some 29,(some (26,true)),.ix (.t 27) (.t 28)⟩,⟨some 30,(some (26,true)),.q (.bin .eql true (.t 29) (.k (.int .u8 48)))⟩,⟨some 31,(some (20,false)),.pick (.t 26) (.t 30) (.k (.bool false))⟩,.a 32 (.pick (.t 20) (.k (.bool true)) (.t 31)),.v 33 32,⟨some 34,(some (33,false)),.q (.mv (.t 4))⟩,⟨some 35,(some (33,false)),.q (.bin .eql true (.t 34) (.i 1))⟩,⟨some 36,(some (33,false)),.q (.mv (.t 35))⟩,⟨some 37,(some (36,true)),.q (.mv (.t 0))⟩,⟨some 38,(some (36,true)),.q (.mv (.t 4))⟩,⟨some 39,(some (36,true)),.ix (.t 37) (.t 38)⟩,⟨some 40,(some (36,true)),.q (.bin .eql true (.t 39) (.k (.int .u8 48)))⟩,⟨some 41,(some (33,false)),.pick (.t 36) (.t 40) (.k (.bool false))⟩,.a 42 (.pick (.t 33) (.k (.bool true)) (.t 41))])) (.cond (.t 42) (.seq (.reg [.q 2 (.mv (.i 0)),.q 3 (.mv (.i 2))]) .ret) .skip)) (.seq (.reg [.q 5 (.mv (.k (.int .u64 0)))]) (.seq (.seq (.reg [.v 43 4,.v 6 43]) (.block 0 (.loop (.seq (.seq (.reg [.v 44 6,.v 45 0,.q 46 (.lnS (.t 45)),.q 47 (.bin .lss true (.t 44) (.t 46))]) (.cond (.t 47) .skip (.exit 0))) (.seq (.block 1 (.seq (.seq (.reg [.v 50 0,.v 51 6,.a 52 (.ix (.t 50) (.t 51)),.a 53 (.cq 89 [(.t 52)]),.q 54 (.not (.t 53))]) (.cond (.t 54) (.seq (.reg [.q 2 (.mv (.i 0)),.q 3 (.mv (.i 2))]) .ret) .skip)) (.seq (.seq (.reg [.v 55 5,.q 56 (.bin .gtr true (.t 55) (.k (.int .u64 1000000000000000000)))]) (.cond (.t 56) (.seq (.reg [.q 2 (.mv (.i 0)),.q 3 (.mv (.i 1))]) .ret) .skip)) (.reg [.v 57 5,.q 58 (.bin .mul true (.k (.int .u64 10)) (.t 57)),.v 59 0,.v 60 6,.a 61 (.ix (.t 59) (.t 60)),.q 62 (.bin .sub true (.t 61) (.k (.int .u8 48))),.q 63 (.cvt .u64 (.t 62)),.q 64 (.bin .add true (.t 58) (.t 63)),.v 5 64])))) (.reg [.v 48 6,.q 49 (.bin .add true (.t 48) (.i 1)),.v 6 49])))))) (.seq (.seq (.reg [.v 65 4,.q 66 (.bin .eql true (.t 65) (.i 1))]) (.cond (.t 66) (.seq (.seq (.reg [.v 67 5,.q 68 (.bin .gtr true (.t 67) (.k (.int .u64 9223372036854775808)))]) (.cond (.t 68) (.seq (.reg [.q 2 (.mv (.i 0)),.q 3 (.mv (.i 1))]) .ret) .skip)) (.seq (.reg [.v 69 5,.q 70 (.bin .sub true (.t 69) (.k (.int .u64 1))),.q 71 (.cvt .i64 (.t 70)),.q 72 (.bin .sub true (.i 0) (.t 71)),.q 73 (.bin .sub true (.t 72) (.i 1)),.v 2 73,.q 3 (.mv (.i 0))]) .ret)) .skip)) (.seq (.seq (.reg [.v 74 5,.q 75 (.bin .gtr true (.t 74) (.k (.int .u64 9223372036854775807)))]) (.cond (.t 75) (.seq (.reg [.q 2 (.mv (.i 0)),.q 3 (.mv (.i 1))]) .ret) .skip)) (.seq (.reg [.v 76 5,.q 77 (.cvt .i64 (.t 76)),.v 2 77,.q 3 (.mv (.i 0))]) .ret)))))
@[go_sem ↓] theorem aJ1:bT pc118_4:=bY _
def UV:PC:=.seq (.reg [.q 2 (.mv (.i 0)),.q 3 (.mv (.i 0))]) (.seq (.reg [.q 4 (.mv (.i 0))]) (.seq (.seq (.reg [.v 7 4,.v 8 0,.q 9 (.lnS (.t 8)),.q 10 (.bin .lss true (.t 7) (.t 9)),.v 11 10,⟨some 12,(some (11,true)),.q (.mv (.t 0))⟩,⟨some 13,(some (11,true)),.ix (.t 12) (.i 0)⟩,⟨some 14,(some (11,true)),.q (.bin .eql true (.t 13) (.k (.int .u8 45)))⟩,.a 15 (.pick (.t 11) (.t 14) (.k (.bool false)))]) (.cond (.t 15) (.reg [.q 4 (.mv (.i 1))]) .skip)) (pc118_4)))
def FJ:List RV:=[.mv (.t 2),.mv (.t 3)]
theorem aHX:aY Tryz.prog true ⟨fun r k=>if r=10/\k=3 then .q else .own [],fun r=>[4].contains r⟩ Tryz.f118=some (UV,FJ):=by kernel_rfl
def bR (c:Int):Bool:=(decide (97<=c) && decide (c<=122)) || (decide (65<=c) && decide (c<=90))
def hZ (c:Int):Bool:=decide (48<=c) && decide (c<=57)
def fP (c:Int):Bool:=bR c || hZ c || c == 95
def marksB:List UInt8:=[123,125,40,41,91,93,58,59,44,61,46,63,33,38,124,64]
def eK (c:Int):Bool:=decide (c.toNat.toUInt8 ∈ marksB)
def d8 (c:Int):Int:=
 bif c == 32 || c == 9 || c == 10 then 1 else bif c == 35 then 2 else bif bR c then 3 else bif hZ c then 4
 else bif c == 45 then 5 else bif c == 95 then 6 else bif c == 34 then 7 else bif eK c then 8 else 0
theorem EV (l:List UInt8) (c:UInt8):decide (0<=Lib.indexByte l c)=decide (c ∈ l):=by
 rw [decide_eq_decide]
 induction l with
 | nil=>simp [Lib.indexByte]
 | cons b l ih=>
  have hge:=Lib.indexByte_ge l c
  rw [Lib.indexByte]
  by_cases hb:b=c
  · simp [hb]
  · have hb2:(b == c)=false:=by simpa using hb
    have hb3:¬ c=b:=fun e=>hb e.symm
    simp only [hb2,Bool.false_eq_true,if_false,List.mem_cons,hb3,false_or,<-ih]
    by_cases h:Lib.indexByte l c=-1
    · simp [h]
    · have h2:(Lib.indexByte l c == -1)=false:=by simpa using h
      simp only [h2,Bool.false_eq_true,if_false]; omega
def dW (l:List UInt8) (at':Nat):Int:=match l[at']? with | some c=>d8 c.toNat | none=>-1
def dB:Bool->List UInt8->Nat
 | _,[]=>0
 | r,c :: l=>
  let r':=bif c == 35 then true else bif c == 10 then false else r
  bif !r' && !(c == 32 || c == 9 || c == 10) then 0 else dB r' l + 1
def b7 (l:List UInt8) (a:Nat):Nat:=a + dB false (l.drop a)
theorem yY:∀ r l,dB r l<=l.length
 | _,[]=>Nat.le_refl 0
 | r,c :: l=>by
  simp only [dB,List.length_cons]
  cases hh:(!(bif c == 35 then true else bif c == 10 then false else r) && !(c == 32 || c == 9 || c == 10))
  · have:=yY (bif c == 35 then true else bif c == 10 then false else r) l; simp only [aF]; omega
  · simp
theorem pT {l:List UInt8} {a:Nat} (h:a<=l.length):b7 l a<=l.length:=by
 have:=yY false (l.drop a); simp at this; unfold b7; omega
theorem aBB (c:UInt8):(d8 c.toNat == 1)=(c == 32 || c == 9 || c == 10):=by
 have:=dL (p:=fun c=>(d8 c.toNat == 1) == (c == 32 || c == 9 || c == 10)) (by decide +kernel) c
 simpa using this
theorem T8 (c:UInt8):(d8 c.toNat == 2)=(c == 35):=by
 have:=dL (p:=fun c=>(d8 c.toNat == 2) == (c == 35)) (by decide +kernel) c
 simpa using this
theorem D5 (l:List UInt8):dB true l=bif decide (0<=Lib.indexByte l 10) then (Lib.indexByte l 10).toNat + dB false (l.drop (Lib.indexByte l 10).toNat) else l.length:=by
 induction l with
 | nil=>rfl
 | cons c l ih=>
  have hge:=Lib.indexByte_ge l 10
  by_cases hc:c=10
  · subst hc; simp [dB,Lib.indexByte]
  · have hc2:(c == 10)=false:=by simpa using hc
    have e:dB true (c :: l)=dB true l + 1:=by simp [dB,hc2]
    rw [e,ih,Lib.indexByte]
    simp only [hc2,Bool.false_eq_true,if_false]
    by_cases h:Lib.indexByte l 10=-1
    · simp [h]
    · have h2:(Lib.indexByte l 10 == -1)=false:=by simpa using h
      have h3:0<=Lib.indexByte l 10:=by omega
      have h4:0<=Lib.indexByte l 10 + 1:=by omega
      have h5:(Lib.indexByte l 10 + 1).toNat=(Lib.indexByte l 10).toNat + 1:=by omega
      simp only [h2,Bool.false_eq_true,if_false,h3,h4,decide_true,aK,h5,List.drop_succ_cons]
      omega
theorem dC {l:List UInt8} {i:Nat} {c:UInt8} (h:l[i]? = some c):l.drop i=c :: l.drop (i + 1):=by
 obtain ⟨hi,rfl⟩:=bC.1 h
 exact List.drop_eq_getElem_cons hi
theorem OF {l:List UInt8} {i:Nat} {c:UInt8} (h:l[i]? = some c) (hc:(c == 32 || c == 9 || c == 10)=true):b7 l (i + 1)=b7 l i:=by
 have h35:(c == 35)=false:=by
  have:=dL (p:=fun c=>!(c == 32 || c == 9 || c == 10) || !(c == 35)) (by decide +kernel) c
  simp only [hc,Bool.not_true,Bool.false_or] at this; simpa using this
 simp only [b7,dC h,dB,h35,hc,aF,Bool.not_true,Bool.and_false,Bool.cond_self]
 omega
theorem BF {l:List UInt8} {i:Nat} {c:UInt8} (h:l[i]? = some c) (hc:(c == 32 || c == 9 || c == 10)=false) (h35:(c == 35)=false):b7 l i=i:=by
 simp only [b7,dC h,dB,h35,hc,aF,Bool.not_false,Bool.and_true,Bool.cond_self]
 simp
theorem IF {l:List UInt8} {i:Nat} (h:l.length<=i):b7 l i=i:=by
 simp [b7,List.drop_eq_nil_iff.2 h,dB]
theorem DM {l:List UInt8} {i:Nat} (h:l[i]? = some 35):b7 l i=i + dB true (l.drop i):=by
 simp [b7,dC h,dB]
theorem OE {l:List UInt8} {i:Nat} (h:l[i]? = some 35) (h0:0<=Lib.indexByte (l.drop i) 10) :
 ∃ n:Nat,Lib.indexByte (l.drop i) 10=n/\0 < n/\i + n<=l.length/\b7 l (i + n)=b7 l i:=by
 obtain ⟨n,hn⟩:∃ n:Nat,Lib.indexByte (l.drop i) 10=n:=⟨_,(Int.toNat_of_nonneg h0).symm⟩
 have h1:dB true (l.drop i)=n + dB false ((l.drop i).drop n):=by rw [D5,hn]; simp
 have hp:0 < n:=by
  rcases Nat.eq_zero_or_pos n with h2 | h2
  · subst h2; rw [dC h,Lib.indexByte] at hn
    exfalso
    have hge:=Lib.indexByte_ge (l.drop (i + 1)) 10
    simp at hn
    split at hn<;>omega
  · exact h2
 have hle:=yY true (l.drop i)
 simp only [List.length_drop] at hle
 have hi:i < l.length:=(bC.1 h).1
 refine ⟨n,hn,hp,by omega,?_⟩
 rw [DM h,h1,b7,List.drop_drop]
 omega
theorem M9 {l:List UInt8} {i:Nat} (h:l[i]? = some 35) (h0:¬ 0<=Lib.indexByte (l.drop i) 10):b7 l l.length=b7 l i:=by
 have hi:i < l.length:=(bC.1 h).1
 rw [DM h,D5,IF (Nat.le_refl _)]
 simp [h0]; omega
inductive R where
 | ok (k:Int) (t:List UInt8) (n:Int) (z:Nat)
 | bad (e t:Int)
def a8 (c:UInt8):Bool:=fP c.toNat
def b5 (p:UInt8->Bool) (l:List UInt8) (a:Nat):Nat:=a + ((l.drop a).takeWhile p).length
theorem jE {p:UInt8->Bool} {l:List UInt8} {a:Nat} {c:UInt8} (h:l[a]? = some c) (hp:p c=true):b5 p l (a + 1)=b5 p l a:=by
 simp only [b5,dC h,List.takeWhile_cons,hp,if_true,List.length_cons]; omega
theorem nL {p:UInt8->Bool} {l:List UInt8} {a:Nat} (h:∀ c,l[a]? = some c->p c=false):b5 p l a=a:=by
 rcases bL a l.length with h1 | h1
 · have h2:=getD_some (l:=l) 0 h1
   simp only [b5,dC h2,List.takeWhile_cons,h _ h2,Bool.false_eq_true,if_false,List.length_nil,Nat.add_zero]
 · simp [b5,List.drop_eq_nil_iff.2 h1]
theorem oT {p:UInt8->Bool} {l:List UInt8} {a:Nat} (h:a<=l.length):b5 p l a<=l.length:=by
 have:=(List.takeWhile_sublist (l:=l.drop a) p).length_le
 simp at this; unfold b5; omega
theorem rX {p:UInt8->Bool} {l:List UInt8} {a:Nat}:a<=b5 p l a:=by unfold b5; omega
theorem HW (c:UInt8):(d8 c.toNat == 3 || d8 c.toNat == 4 || d8 c.toNat == 6)=a8 c:=by
 have:=dL (p:=fun c=>(d8 c.toNat == 3 || d8 c.toNat == 4 || d8 c.toNat == 6) == a8 c) (by decide +kernel) c
 simpa using this
theorem aDH (c:UInt8):(d8 c.toNat == 5)=(c == 45):=by
 have:=dL (p:=fun c=>(d8 c.toNat == 5) == (c == 45)) (by decide +kernel) c
 simpa using this
def hJ (l:List UInt8) (a:Nat):R:=
 let z:=b5 a8 l a
 bif decide (16 < z - a) then .bad 3 a else bif l[z]? == some 45 then .bad 2 z else .ok 1 ((l.take z).drop a) 0 z
theorem s7 {p:UInt8->Bool} {l:List UInt8} {a:Nat}:∀ c ∈ (l.take (b5 p l a)).drop a,p c=true:=by
 intro c hc
 have e:(l.take (b5 p l a)).drop a=(l.drop a).takeWhile p:=by
  rw [List.drop_take,b5,Nat.add_sub_cancel_left]
  exact (List.prefix_iff_eq_take.1 (List.takeWhile_prefix p)).symm
 rw [e] at hc
 have:∀ (q:List UInt8),∀ c ∈ q.takeWhile p,p c=true:=by
  intro q
  induction q with
  | nil=>intro c h; simp at h
  | cons x q ih=>
   intro c h
   rw [List.takeWhile_cons] at h
   split at h
   · rcases List.mem_cons.1 h with rfl | h
     · assumption
     · exact ih c h
   · simp at h
 exact this _ c hc
def bO (c:UInt8):Bool:=hZ c.toNat
theorem aK8 (c:UInt8):(d8 c.toNat == 4)=bO c:=by
 have:=dL (p:=fun c=>(d8 c.toNat == 4) == bO c) (by decide +kernel) c
 simpa using this
theorem aDT (c:UInt8):(d8 c.toNat == 3 || d8 c.toNat == 6 || d8 c.toNat == 5)=((a8 c && !bO c) || c == 45):=by
 have:=dL (p:=fun c=>(d8 c.toNat == 3 || d8 c.toNat == 6 || d8 c.toNat == 5) == ((a8 c && !bO c) || c == 45)) (by decide +kernel) c
 simpa using this
theorem kD {c:UInt8}:bO c=true ↔ 48<=c.toNat/\c.toNat<=57:=by
 simp [bO,hZ]; omega
def valL (lim:Nat):Nat->List UInt8->Option Nat
 | n,[]=>some n
 | n,c :: l=>if (lim - (c.toNat - 48)) / 10 < n then none else valL lim (10 * n + (c.toNat - 48)) l
def cY (neg:Bool):Nat:=bif neg then 9223372036854775808 else 9223372036854775807
theorem LW {lim:Nat} (h:9<=lim):∀ {l:List UInt8} {n m:Nat},n<=lim->(∀ c ∈ l,bO c=true)->valL lim n l=some m->m<=lim
 | [],n,m,hn,_,hv=>by simp [valL] at hv; omega
 | c :: l,n,m,hn,hd,hv=>by
  simp only [valL] at hv
  split at hv
  · cases hv
  · rename_i hc
    have:=kD.1 (hd c (by simp))
    exact LW h (by omega) (fun x hx=>hd x (by simp [hx])) hv
def signed (neg:Bool) (n:Nat):Int:=bif neg then -n else n
def mT (l:List UInt8) (i:Nat):Bool:=match l[i]? with | some c=>a8 c && !bO c || c == 45 | none=>false
def gY (l:List UInt8) (a:Nat):R:=
 let neg:=l[a]? == some 45
 let f:=bif neg then a + 1 else a
 let z:=b5 bO l f
 let s:=(l.take z).drop f
 bif s == [] || (s[0]? == some 48 && (decide (1 < s.length) || neg)) then .bad 2 a
 else match valL (cY neg) 0 s with
  | none=>.bad 4 a
  | some n=>bif mT l z then .bad 2 z else .ok 2 [] (signed neg n) z
end Go.Proofs.YtgogpogophflhaaGreatDoor
namespace Go.Proofs
open Go.Shelf
def Tryz.lays137_ren:Go.Shelf.Ren:=⟨fun | 137=>119 | 217=>131 | 266=>139 | n=>n,fun | 9=>9 | 5=>5 | 3=>3 | n=>n,fun | n=>n⟩
theorem Tryz.lays137:Go.Proofs.Lays.n137 Tryz.prog Tryz.lays137_ren:={
 mixed:=by kernel_rfl
 f137:=Tryz.func119.trans (congrArg some (by kernel_rfl))
 f217:=Tryz.func131.trans (congrArg some (by kernel_rfl))
 f266:=Tryz.func139.trans (congrArg some (by kernel_rfl))
 t3:=Tryz.underlying3
 a3:=Tryz.isAgg3
 z3:=Tryz.sizeOf3
 v3:=Tryz.zeroValue3
 t5:=Tryz.underlying5
 a5:=Tryz.isAgg5
 z5:=Tryz.sizeOf5
 v5:=Tryz.zeroValue5
 t9:=Tryz.underlying9
 a9:=Tryz.isAgg9
 z9:=Tryz.sizeOf9
 v9:=Tryz.zeroValue9 }
open Go.RowKit in
theorem Tryz.strings_IndexByte (s:ByteArray) (c:Int) (w:World) :
 Calls Tryz.prog 119 #[.string s,.int .u8 c] w fun e w'=>e=.returned (.int .i64 (Lib.indexByte s.data.toList c.toNat.toUInt8))/\w'=w:=Any.strings_IndexByte Tryz.lays137 s c w
end Go.Proofs
namespace Go.Proofs.YtgogpogophflhaaGreatDoor
open Go.W
abbrev iA (k:IntKind) (n:Int):A:=.c1 (.vl (.int k n))
abbrev bA (b:Bool):A:=.c1 (.vl (.bool b))
abbrev tA (b:ByteArray):A:=.c1 (.vl (.string b))
def wI:List S->Prop:=fun xs=>match xs with
 | [.va (.c1 (.vl (.int .u8 c)))]=>0<=c/\c<=255
 | _=>False
theorem gW {xs:List S} (h:wI xs):∃ c:Int,xs=[iS .u8 c]/\0<=c/\c<=255:=by
 unfold wI at h
 split at h
 · exact ⟨_,rfl,h⟩
 · exact h.elim
def KF (f:Int->Value):List S->A:=fun xs=>match xs with
 | [.va (.c1 (.vl (.int .u8 c)))]=>.c1 (.vl (f c))
 | _=>.gs []
def kW (f:Int->Value):Fun:=⟨wI,KF f,fun xs h=>by obtain ⟨c,rfl,_⟩:=gW h; trivial⟩
theorem mI {f:Int->Value}:∀ xs H K,(kW f).sp xs H K->xs.length=1:=fun xs H K h=>by obtain ⟨c,rfl,_⟩:=gW h.1.1; rfl
attribute [go_sem] kW wI KF
def E4:List S->Prop:=fun xs=>match xs with | [.va (.c1 (.vl (.string _))),.va (.c1 (.vl (.int .u8 _)))]=>True | _=>False
def VT:List S->A:=fun xs=>match xs with | [.va (.c1 (.vl (.string s))),.va (.c1 (.vl (.int .u8 c)))]=>iA .i64 (Lib.indexByte (bl s) c.toNat.toUInt8) | _=>.gs []
theorem BJ {xs:List S} (h:E4 xs):∃ s c,xs=[tS s,iS .u8 c]:=by
 unfold E4 at h
 split at h
 · exact ⟨_,_,rfl⟩
 · exact h.elim
def fnIb:Fun:=⟨E4,VT,fun xs h=>by obtain ⟨s,c,rfl⟩:=BJ h; trivial⟩
attribute [go_sem] fnIb E4 VT
theorem mIb:Meets Tryz.prog 119 fnIb.sp:=by
 refine ⟨by kernel_rfl,?_⟩
 rintro xs vs E ro w K hl hrel hr ⟨⟨h,hE⟩,hK⟩ _
 obtain ⟨s,c,rfl⟩:=BJ h
 obtain ⟨v0,v1,rfl⟩:∃ v0 v1,vs=[v0,v1]:=by
  match vs,hl with
  | [v0,v1],_=>exact ⟨v0,v1,rfl⟩
 have h0:v0=.string s:=hrel 0 _ _ rfl rfl
 have h1:v1=.int .u8 c:=hrel 1 _ _ rfl rfl
 subst h0 h1
 refine (Tryz.strings_IndexByte s c w).mono ?_
 rintro e w' ⟨rfl,rfl⟩
 exact ⟨iS .i64 _,_,E,ro,rfl,rfl,by rw [hE]; exact hK,hr⟩
theorem J9:Meets Tryz.prog 87 (kW fun c=>.bool (bR c)).sp:=by
 refine aG Tryz.func87 aKD 1 (by rw [Tryz.ntmps87]; decide) (aB _) mI ?_
 rintro xs H K ⟨⟨h,rfl⟩,hK⟩
 obtain ⟨c,rfl,hc⟩:=gW h
 simp -dsimp only [go_sem,aBJ,aAT] at hK ⊢
 and_intros
 all_goals first | exact cZ hK (by simp [bR]) | (simp; omega)
theorem AL:Meets Tryz.prog 89 (kW fun c=>.bool (hZ c)).sp:=by
 refine aG Tryz.func89 aKP 1 (by rw [Tryz.ntmps89]; decide) (aB _) mI ?_
 rintro xs H K ⟨⟨h,rfl⟩,hK⟩
 obtain ⟨c,rfl,hc⟩:=gW h
 simp -dsimp only [go_sem,aEB,aA7] at hK ⊢
 exact cZ hK (by simp [hZ])
theorem P0:Meets Tryz.prog 117 (kW fun c=>.bool (fP c)).sp:=by
 refine aG Tryz.func117 aH1 1 (by rw [Tryz.ntmps117]; decide) (aI J9 (aI AL (aB _))) mI ?_
 rintro xs H K ⟨⟨h,rfl⟩,hK⟩
 obtain ⟨c,rfl,hc⟩:=gW h
 simp -dsimp only [go_sem,V0,UX] at hK ⊢
 and_intros
 all_goals first | exact cZ hK (by simp [fP]) | (intros; simp_all; done) | omega
theorem Q0:Meets Tryz.prog 108 (kW fun c=>.int .i64 (d8 c)).sp:=by
 refine aG Tryz.func108 aH3 1 (by rw [Tryz.ntmps108]; decide) (aI mIb (aB _)) mI ?_
 rintro xs H K ⟨⟨h,rfl⟩,hK⟩
 obtain ⟨c,rfl,hc⟩:=gW h
 simp -dsimp (maxSteps:=9^6) only [go_sem,U7,U9] at hK ⊢
 have hw:IntKind.i32.wrap c=c:=pE (by simp [inr,IntKind.min,IntKind.max,IntKind.signed,IntKind.bits]; omega)
 rw [hw]
 have hm:decide (0<=Lib.indexByte [123,125,40,41,91,93,58,59,44,61,46,63,33,38,124,64] c.toNat.toUInt8)=eK c:=EV _ _
 rw [hm]
 clear hm hw
 refine ⟨fun h1=>cZ hK ?_,fun h1=>⟨fun h2=>cZ hK ?_,fun h2=>⟨by simp; omega,fun h3=>cZ hK ?_,fun h3=>⟨fun h4=>cZ hK ?_,fun h4=>⟨fun h5=>cZ hK ?_,fun h5=>⟨fun h6=>cZ hK ?_,fun h6=>⟨fun h7=>cZ hK ?_,fun h7=>⟨fun h8=>cZ hK ?_,fun h8=>cZ hK ?_⟩⟩⟩⟩⟩⟩⟩⟩
 all_goals simp only [d8,bR,hZ, *,aK,aF]
theorem aH8:Meets Tryz.prog 92 (kW fun c=>.bool (eK c)).sp:=by
 refine aG Tryz.func92 aN0 1 (by rw [Tryz.ntmps92]; decide) (aB _) mI ?_
 rintro xs H K ⟨⟨h,rfl⟩,hK⟩
 obtain ⟨c,rfl,hc⟩:=gW h
 simp -dsimp only [go_sem,aD2,aBK] at hK ⊢
 have hml:marksB.length=16:=rfl
 refine aR (α:=Nat) (fun i=>[(0,iS .u8 c),(3,.va (tA (mk marksB))),(4,iS .i64 i)]) (fun _=>[]) (fun i=>i<=16/\∀ j < i,marksB[j]? ≠ some c.toNat.toUInt8) (fun i=>16 - i) 0 0 ⟨by omega,by omega⟩ ?_ rfl ?_
 · simp [go_sem,marksB]
 rintro i ⟨hi,hj⟩
 simp -dsimp only [go_sem,hml]
 refine ⟨fun h1=>⟨by simp at h1; omega,fun b hb=>⟨fun h2=>cZ hK ?_,fun h2=>⟨by omega,aC (i + 1) 0 ⟨by simp at h1; omega,?_⟩ (by simp at h1; omega) (by simp [go_sem]) rfl⟩⟩⟩,fun h1=>cZ hK ?_⟩
 · simp only [eK]
   congr; symm
   rw [decide_eq_true_eq]
   simp at h2
   rw [<-h2]
   simpa using bW hb
 · intro j hj2 e
   by_cases hji:j=i
   · subst hji
     rw [hb] at e
     simp only [aH] at e
     rw [e] at h2
     simp at h2; omega
   · exact hj j (by omega) e
 · simp only [eK]
   congr; symm
   rw [decide_eq_false_iff_not]
   intro hm
   obtain ⟨j,h3⟩:=List.mem_iff_getElem?.1 hm
   refine hj j ?_ h3
   have:=(bC.1 h3).1
   simp at h1; omega
abbrev lT (s:ByteArray) (a e t:Int):B:=.cells [.vl (.string s),.vl (.int .i64 a),.vl (.int .i64 e),.vl (.int .i64 t)] 92
def vM (pre:List UInt8->Int->Int->Int->Prop) (post:ByteArray->Int->Int->Int->(S->Hp->Prop)->Prop):W.Spec:=fun xs H K=>
 match xs,H with
 | [.va (.c1 (.pt 0 0))],[.cells [.vl (.string s),.vl (.int .i64 a),.vl (.int .i64 e),.vl (.int .i64 t)] 92]=>
  (0<=a/\a<=(bl s).length/\(bl s).length<=4000/\pre (bl s) a e t)/\post s a e t K
 | _,_=>False
theorem nR {pre:List UInt8->Int->Int->Int->Prop} {post:ByteArray->Int->Int->Int->(S->Hp->Prop)->Prop} {xs:List S} {H:Hp} {K:S->Hp->Prop} (h:vM pre post xs H K) :
 ∃ s a e t,xs=[.va (.c1 (.pt 0 0))]/\H=[lT s a e t]/\0<=a/\a<=(bl s).length/\(bl s).length<=4000/\pre (bl s) a e t/\post s a e t K:=by
 unfold vM at h
 split at h
 · obtain ⟨⟨h1,h2,h3,h4⟩,h5⟩:=h
   exact ⟨_,_,_,_,rfl,rfl,h1,h2,h3,h4,h5⟩
 · exact h.elim
theorem zC {pre:List UInt8->Int->Int->Int->Prop} {post:ByteArray->Int->Int->Int->(S->Hp->Prop)->Prop}:∀ xs H K,vM pre post xs H K->xs.length=1:=fun xs H K h=>by
 obtain ⟨s,a,e,t,rfl,_⟩:=nR h; rfl
attribute [go_sem ↓] vM
def BA:W.Spec:=vM (fun _ _ _ _=>True) fun s a e t K=>K (iS .i64 (dW (bl s) a.toNat)) [lT s a e t]
attribute [go_sem ↓] BA lT
theorem E6:Meets Tryz.prog 101 BA:=by
 refine aG Tryz.func101 aGX 1 (by rw [Tryz.ntmps101]; decide) (aI Q0 (aB _)) zC ?_
 intro xs H K h
 obtain ⟨s,a,e,t,rfl,rfl,h0,h1,h2,-,hK⟩:=nR h
 simp -dsimp only [go_sem,VI,UJ] at hK ⊢
 refine ⟨fun h3=>cZ hK ?_,fun h3=>⟨by simp at h3; omega,fun c hc=>⟨⟨by omega,by have:=c.toNat_lt; omega⟩,cZ hK ?_⟩⟩⟩
 · simp at h3; rw [dW,List.getElem?_eq_none (by omega)]
 · rw [dW,hc]
def rE:W.Spec:=fun xs H K=>
 match xs,H with
 | [.va (.c1 (.pt 0 0)),.va (.c1 (.vl (.int .i64 x))),.va (.c1 (.vl (.int .i64 y)))],[.cells [.vl (.string s),.vl (.int .i64 a),.vl (.int .i64 e),.vl (.int .i64 t)] 92]=>
  K (.tu []) [lT s a (bif e == 0 then x else e) (bif e == 0 then y else t)]
 | _,_=>False
attribute [go_sem ↓] rE
theorem xQ {xs:List S} {H:Hp} {K:S->Hp->Prop} (h:rE xs H K) :
 ∃ x y s a e t,xs=[.va (.c1 (.pt 0 0)),iS .i64 x,iS .i64 y]/\H=[lT s a e t]/\K (.tu []) [lT s a (bif e == 0 then x else e) (bif e == 0 then y else t)]:=by
 unfold rE at h
 split at h
 · exact ⟨_,_,_,_,_,_,rfl,rfl,h⟩
 · exact h.elim
theorem FM:Meets Tryz.prog 105 rE:=by
 refine aG Tryz.func105 aHY 3 (by rw [Tryz.ntmps105]; decide) (aB _) (fun xs H K h=>by obtain ⟨x,y,s,a,e,t,rfl,_⟩:=xQ h; rfl) ?_
 intro xs H K h
 obtain ⟨x,y,s,a,e,t,rfl,rfl,hK⟩:=xQ h
 simp -dsimp only [go_sem,WM,UF] at hK ⊢
 refine ⟨fun h1=>?_,fun h1=>?_⟩
 · simp only [h1,aK] at hK; exact .done hK
 · simp only [h1,aF] at hK; exact .done hK
def QW:W.Spec:=vM (fun _ _ _ _=>True) fun s a e t K=>K (.tu []) [lT s (b7 (bl s) a.toNat) e t]
attribute [go_sem ↓] QW
theorem aI6:Meets Tryz.prog 100 QW:=by
 refine aG Tryz.func100 aG0 1 (by rw [Tryz.ntmps100]; decide) (aA E6 (aI mIb (aB _))) zC ?_
 intro xs H K h
 obtain ⟨s,a,e,t,rfl,rfl,h0,h1,h2,-,hK⟩:=nR h
 simp -dsimp only [go_sem,WY,U2] at hK ⊢
 refine aR (α:=Nat) (fun i=>[(0,.va (.c1 (.pt 0 0)))]) (fun i=>[lT s i e t]) (fun i=>i<=(bl s).length/\b7 (bl s) i=b7 (bl s) a.toNat) (fun i=>(bl s).length - i) a.toNat 1 ⟨by omega,rfl⟩ ?_ ?_ ?_
 · simp [go_sem]
 · simp [go_sem]; omega
 rintro i ⟨hi,hj⟩
 simp -dsimp only [go_sem]
 have hget:i < (bl s).length->(bl s)[i]? = some ((bl s).getD i 0):=getD_some 0
 refine ⟨fun h3=>⟨⟨by omega,by omega,h2⟩,fun h4=>⟨by omega,aC (i + 1) 1 ?_ ?_ ?_ ?_⟩,fun h4=>⟨fun h5=>⟨by omega,fun h6=>?_,fun h6=>?_⟩,fun h5=>?_⟩⟩,fun h3=>?_⟩
 · simp at h3
   have h7:=hget h3
   rw [dW,h7] at h4
   simp only [aBB] at h4
   exact ⟨h3,by rw [OF h7 h4,hj]⟩
 · simp at h3; omega
 · simp [go_sem]
 · simp [go_sem]
 · simp at h3
   have h7:=hget h3
   rw [dW,h7] at h5
   simp only [T8,beq_iff_eq] at h5
   rw [h5] at h7
   have h8:Nat.toUInt8 10=(10:UInt8):=rfl
   rw [h8] at h6 ⊢
   obtain ⟨n,hn,hp,hl,hs⟩:=OE h7 (by simpa using h6)
   rw [hn]
   refine ⟨by omega,aC (i + n) 1 ⟨hl,by rw [hs,hj]⟩ (by omega) (by simp [go_sem]) (by simp [go_sem])⟩
 · simp at h3
   have h7:=hget h3
   rw [dW,h7] at h5
   simp only [T8,beq_iff_eq] at h5
   rw [h5] at h7
   have h8:Nat.toUInt8 10=(10:UInt8):=rfl
   rw [h8] at h6
   exact aC (bl s).length 1 ⟨Nat.le_refl _,by rw [M9 h7 (by simpa using h6),hj]⟩ (by omega) (by simp [go_sem]) (by simp [go_sem])
 · simp at h3
   have h7:=hget h3
   rw [dW,h7] at h5 h4
   simp only [T8,aBB] at h5 h4
   rw [<-hj,BF h7 h4 h5] at hK
   exact .done hK
 · simp at h3
   rw [<-hj,IF h3] at hK
   exact .done hK
abbrev tW (k:Int) (x:ByteArray) (n a:Int):List C:=[.vl (.int .i64 k),.vl (.string x),.vl (.int .i64 n),.vl (.int .i64 a)]
def l7 (s:ByteArray) (a:Int) (K:S->Hp->Prop):R->Prop
 | .ok k x n z=>K (.va (.gs (tW k (mk x) n a))) [lT s z 0 0]
 | .bad e' t'=>∀ k x n y (z:Nat),K (.va (.gs (tW k x n y))) [lT s z e' t']
def Tok:R->Int->Int->ByteArray->Int->Int->Int->Int->Int->Prop
 | .ok k x n z,a,k',x',n',a',z',e',t'=>k'=k/\x'=mk x/\n'=n/\a'=a/\z'=z/\e'=0/\t'=0
 | .bad e t,_,_,_,_,_,z',e',t'=>e'=e/\t'=t/\∃ z:Nat,z'=z
def MS (s:ByteArray) (a:Int) (K:S->Hp->Prop) (r:R):Prop:=∀ k x n y z e t,Tok r a k x n y z e t->K (.va (.gs (tW k x n y))) [lT s z e t]
theorem ZY {s:ByteArray} {a:Int} {K:S->Hp->Prop} {r:R} (h:MS s a K r):l7 s a K r:=by
 cases r with
 | ok k x n z=>exact h _ _ _ _ _ _ _ ⟨rfl,rfl,rfl,rfl,rfl,rfl,rfl⟩
 | bad e t=>exact fun k x n y z=>h k x n y z e t ⟨rfl,rfl,z,rfl⟩
def w8 (pre:List UInt8->Nat->Prop) (f:List UInt8->Nat->R):W.Spec:=vM (fun l a e t=>e=0/\t=0/\pre l a.toNat) fun s a _ _ K=>MS s a K (f (bl s) a.toNat)
theorem oJ {pre:List UInt8->Nat->Prop} {f:List UInt8->Nat->R} {xs:List S} {H:Hp} {K:S->Hp->Prop} (h:w8 pre f xs H K) :
 ∃ s a,xs=[.va (.c1 (.pt 0 0))]/\H=[lT s a 0 0]/\0<=a/\a<=(bl s).length/\(bl s).length<=4000/\pre (bl s) a.toNat/\l7 s a K (f (bl s) a.toNat):=by
 obtain ⟨s,a,e,t,rfl,rfl,h0,h1,h2,⟨rfl,rfl,h3⟩,h4⟩:=nR h
 exact ⟨_,_,rfl,rfl,h0,h1,h2,h3,ZY h4⟩
theorem wD {pre:List UInt8->Nat->Prop} {f:List UInt8->Nat->R}:∀ xs H K,w8 pre f xs H K->xs.length=1:=fun xs H K h=>by
 obtain ⟨s,a,rfl,_⟩:=oJ h; rfl
attribute [go_sem ↓] w8 tW MS
def RL:W.Spec:=w8 (fun _ _=>True) hJ
attribute [go_sem ↓] RL
theorem aIF:Meets Tryz.prog 102 RL:=by
 refine aG Tryz.func102 aII 1 (by rw [Tryz.ntmps102]; decide) (aA E6 (aA FM (aB _))) wD ?_
 intro xs H K h
 obtain ⟨s,a,rfl,rfl,h0,h1,h2,-,hK⟩:=oJ h
 simp -dsimp only [go_sem,U8,V5] at hK ⊢
 refine ⟨⟨h0,h1,h2⟩,aR (α:=Nat) (fun i=>[(0,.va (.c1 (.pt 0 0))),(2,.va (.c1 (.pt 1 0))),(3,iS .i64 a),(4,iS .i64 (dW (bl s) i))]) (fun i=>[lT s i 0 0,.cells (tW 0 (mk []) 0 0) 74]) (fun i=>a.toNat<=i/\i<=(bl s).length/\b5 a8 (bl s) i=b5 a8 (bl s) a.toNat) (fun i=>(bl s).length - i) a.toNat 2 ⟨Nat.le_refl _,by omega,rfl⟩ ?_ ?_ ?_⟩
 · simp -dsimp only [go_sem]
 · simp [go_sem]; omega
 rintro i ⟨hai,hi,hj⟩
 simp -dsimp only [go_sem]
 have hget:i < (bl s).length->(bl s)[i]? = some ((bl s).getD i 0):=getD_some 0
 have hz:(dW (bl s) i == 3 || dW (bl s) i == 4 || dW (bl s) i == 6)=false->b5 a8 (bl s) a.toNat=i:=fun h=>by
  rw [<-hj]; exact nL fun c hc=>by rw [dW,hc] at h; simp only [HW] at h; exact h
 have hm:(dW (bl s) i == 5)=((bl s)[i]? == some 45):=by
  unfold dW
  cases hc:(bl s)[i]? with
  | none=>rfl
  | some c=>simp only [aDH]; rfl
 refine ⟨fun h3=>?_,fun h3=>?_⟩
 · have hlt:i < (bl s).length:=by
    rcases bL i (bl s).length with h4 | h4
    · exact h4
    · rw [dW,List.getElem?_eq_none h4] at h3; simp at h3
   have h7:=hget hlt
   refine ⟨by omega,⟨by omega,by omega,h2⟩,aC (i + 1) 2 ⟨by omega,hlt,?_⟩ (by omega) ?_ ?_⟩
   · rw [dW,h7] at h3; simp only [HW] at h3
     rw [jE h7 h3,hj]
   · simp -dsimp only [go_sem]; simp [go_sem]
   · simp [go_sem]
 · have hz:=hz h3
   simp only [hJ,hz,hm.symm] at hK
   refine ⟨by omega,fun h4=>⟨⟨by omega,by omega,h2⟩,fun h5=>⟨by omega,?_⟩,fun h5=>⟨by omega,?_⟩⟩,fun h4=>⟨⟨by omega,by omega,h2⟩,fun h5=>⟨by omega,?_⟩,fun h5=>⟨by omega,?_⟩⟩⟩
   all_goals refine .sel [0] (by simp) (by simp) rfl (.done ?_)
   all_goals simp only [decide_eq_true_eq,decide_eq_false_iff_not] at h4
   · have h6:decide (16 < i - a.toNat)=true:=by simp; omega
     simp only [h6,aK,l7] at hK
     have:=hK 1 (mk (List.drop a.toNat (List.take i (bl s)))) 0 a i
     rw [Int.toNat_of_nonneg h0] at this
     exact this
   · have h6:decide (16 < i - a.toNat)=true:=by simp; omega
     simp only [h6,aK,l7] at hK
     have:=hK 1 (mk (List.drop a.toNat (List.take i (bl s)))) 0 a i
     rw [Int.toNat_of_nonneg h0] at this
     exact this
   · have h6:decide (16 < i - a.toNat)=false:=by simp; omega
     simp only [h6,h5,aK,aF,l7] at hK
     exact hK 1 (mk (List.drop a.toNat (List.take i (bl s)))) 0 a i
   · have h6:decide (16 < i - a.toNat)=false:=by simp; omega
     simp only [h6,h5,aF,l7] at hK
     exact hK
def uM (neg:Bool) (l:List UInt8):Int:=match valL (cY neg) 0 l with | some n=>signed neg n | none=>0
def qX (neg:Bool) (l:List UInt8):Bool:=(valL (cY neg) 0 l).isSome
def rU:W.Spec:=fun xs H K=>
 match xs,H with
 | [.va (.c1 (.vl (.bool neg))),.va (.c1 (.vl (.string s)))],[]=>((bl s).length<=4000/\∀ c ∈ bl s,bO c=true)/\
  K (.tu [iA .i64 (uM neg (bl s)),bA (qX neg (bl s))]) []
 | _,_=>False
attribute [go_sem ↓] rU
theorem xG {xs:List S} {H:Hp} {K:S->Hp->Prop} (h:rU xs H K):∃ neg s,xs=[bS neg,tS s]/\H=[]/\(bl s).length<=4000/\(∀ c ∈ bl s,bO c=true)/\
 K (.tu [iA .i64 (uM neg (bl s)),bA (qX neg (bl s))]) []:=by
 unfold rU at h
 split at h
 · exact ⟨_,_,rfl,rfl,h.1.1,h.1.2,h.2⟩
 · exact h.elim
theorem aBG:Meets Tryz.prog 120 rU:=by
 refine aG Tryz.func120 aI4 2 (by rw [Tryz.ntmps120]; decide) (aB _) (fun xs H K h=>by obtain ⟨neg,s,rfl,_⟩:=xG h; rfl) ?_
 intro xs H K h
 obtain ⟨neg,s,rfl,rfl,hl,hd,hK⟩:=xG h
 have rest:vc [] 0 pc120_4.ungh (cJ [(0,bS neg),(1,tS s),(6,iS .u64 (cY neg))]) [] (eO 0 FB K):=by
  simp -dsimp only [go_sem,pc120_4,FB]
  refine aR (α:=Nat × Nat) (fun z=>[(0,bS neg),(1,tS s),(6,iS .u64 (cY neg)),(7,iS .u64 z.2),(12,iS .i64 (bl s).length),(13,iS .i64 z.1)]) (fun _=>[]) (fun z=>z.1<=(bl s).length/\z.2<=cY neg/\valL (cY neg) z.2 ((bl s).drop z.1)=valL (cY neg) 0 (bl s)) (fun z=>(bl s).length - z.1) (0,0) 0 ⟨by omega,by omega,rfl⟩ ?_ rfl ?_
  · simp [go_sem]
  rintro ⟨i,n⟩ ⟨hi,hn,hv⟩
  simp only at hi hn hv
  have hL:cY neg<=9223372036854775808/\9<=cY neg:=by cases neg<;>simp [cY]
  simp -dsimp only [go_sem]
  refine ⟨fun h1=>⟨by simp at h1; omega,fun c hc=>?_⟩,fun h1=>?_⟩
  · simp at h1
    have hdc:=kD.1 (hd c (bW hc))
    have w1:IntKind.u64.wrap ((c.toNat:Int) - 48)=(c.toNat:Int) - 48:=pE (by simp [inr,IntKind.min,IntKind.max,IntKind.signed,IntKind.bits]; omega)
    have hq:((cY neg:Int) - ((c.toNat:Int) - 48)).tdiv 10=((cY neg - (c.toNat - 48)) / 10:Nat):=by
     rw [Int.tdiv_eq_ediv_of_nonneg (by omega)]; omega
    rw [dC hc] at hv
    rw [w1,hq]
    refine ⟨by omega,by omega,⟨by decide,by omega⟩,fun h2=>?_,fun h2=>?_⟩
    · simp only [decide_eq_true_eq,Int.ofNat_lt] at h2
      simp only [valL,h2,if_true] at hv
      simp only [uM,qX,<-hv] at hK
      exact .done hK
    · simp only [decide_eq_false_iff_not,Int.ofNat_lt] at h2
      simp only [valL,h2,if_false] at hv
      refine ⟨by omega,by omega,by omega,aC (i + 1,10 * n + (c.toNat - 48)) 0 ⟨h1,by omega,hv⟩ (by simp only; omega) ?_ rfl⟩
      simp [go_sem]
      omega
  · simp at h1
    have hi2:i=(bl s).length:=by omega
    subst hi2
    simp only [List.drop_length,valL] at hv
    simp only [uM,qX,<-hv] at hK
    refine ⟨fun h2=>cZ hK ?_,fun h2=>cZ hK ?_⟩
    · subst h2
      simp [signed,iA,bA,IntKind.wrap,IntKind.signed,IntKind.bits]
      omega
    · subst h2
      simp [signed,iA,bA,IntKind.wrap,IntKind.signed,IntKind.bits,cY] at hn ⊢
      omega
 simp -dsimp only [go_sem,WW,FB]
 refine ⟨fun h=>cA 0 rest ?_ rfl,fun h=>cA 0 rest ?_ rfl⟩
 all_goals simp [go_sem,cY,h]
def VN:W.Spec:=w8 (fun l a=>∃ c,l[a]? = some c/\(bO c=true\/c=45)) gY
attribute [go_sem ↓] VN
theorem JX {l:List UInt8} {i:Nat}:(dW l i == 4)=(match l[i]? with | some c=>bO c | none=>false):=by
 unfold dW
 cases l[i]? with
 | none=>rfl
 | some c=>exact aK8 c
theorem NT {l:List UInt8} {i:Nat}:(dW l i == 5)=(l[i]? == some 45):=by
 unfold dW
 cases hc:l[i]? with
 | none=>rfl
 | some c=>simp only [aDH]; rfl
theorem XB {l:List UInt8} {i:Nat}:(dW l i == 3 || dW l i == 6 || dW l i == 5)=mT l i:=by
 unfold dW mT
 cases hc:l[i]? with
 | none=>rfl
 | some c=>simp only [aDT]
theorem ZK:Meets Tryz.prog 103 VN:=by
 refine aG Tryz.func103 aGH 1 (by rw [Tryz.ntmps103]; decide) (aA E6 (aA FM (aA aBG (aB _)))) wD ?_
 intro xs H K h
 obtain ⟨s,a,rfl,rfl,h0,h1,h2,⟨c0,hc0,hc1⟩,hK⟩:=oJ h
 have hlt:a.toNat < (bl s).length:=(bC.1 hc0).1
 generalize hneg:((bl s)[a.toNat]? == some 45)=neg at hK
 generalize hfe:(bif neg then a.toNat + 1 else a.toNat)=f
 have hf1:a.toNat<=f/\f<=(bl s).length:=by subst hfe; cases neg<;>simp<;>omega
 have rest:vc [(101,.s BA),(105,.s rE),(120,.s rU)] 1 pc103_5.ungh (cJ [(0,.va (.c1 (.pt 0 0))),(2,.va (.c1 (.pt 1 0))),(3,iS .i64 a),(4,bS neg)]) [lT s f 0 0,.cells (tW 0 (mk []) 0 0) 74] (eO 1 wT K):=by
  simp -dsimp only [go_sem,pc103_5,wT]
  refine aR (α:=Nat) (fun i=>[(0,.va (.c1 (.pt 0 0))),(2,.va (.c1 (.pt 1 0))),(3,iS .i64 a),(4,bS neg),(5,iS .i64 f)]) (fun i=>[lT s i 0 0,.cells (tW 0 (mk []) 0 0) 74]) (fun i=>f<=i/\i<=(bl s).length/\b5 bO (bl s) i=b5 bO (bl s) f) (fun i=>(bl s).length - i) f 2 ⟨Nat.le_refl _,hf1.2,rfl⟩ ?_ ?_ ?_
  · simp -dsimp only [go_sem]
  · simp -dsimp only [go_sem]
  rintro i ⟨hai,hi,hj⟩
  simp -dsimp only [go_sem]
  refine ⟨by omega,fun h3=>?_,fun h3=>?_⟩
  · rw [JX] at h3
    split at h3
    · rename_i c hc
      have hlt':=(bC.1 hc).1
      refine ⟨by omega,aC (i + 1) 2 ⟨by omega,hlt',by rw [jE hc h3,hj]⟩ (by omega) ?_ ?_⟩
      · simp -dsimp only [go_sem]
      · simp -dsimp only [go_sem]; simp
    · cases h3
  · have hz:b5 bO (bl s) f=i:=by
     rw [<-hj]
     refine nL fun c hc=>?_
     rw [JX,hc] at h3
     exact h3
    have hcond:∀ c:UInt8,((List.drop f (List.take i (bl s)) == [])=false->(List.drop f (List.take i (bl s)))[0]? = some c)->
     (List.drop f (List.take i (bl s)) == [] || (c.toNat:Int) == 48 && (decide (1 < ((List.drop f (List.take i (bl s))).length:Int)) || neg)) =
     (List.drop f (List.take i (bl s)) == [] || ((List.drop f (List.take i (bl s)))[0]? == some 48 && (decide (1 < (List.drop f (List.take i (bl s))).length) || neg))):=by
     intro c hc
     cases hd:(List.drop f (List.take i (bl s))) with
     | nil=>rfl
     | cons x l=>
      rw [hd] at hc
      have:=hc rfl
      simp only [List.getElem?_cons_zero,aH] at this
      subst this
      rw [gX 48]
      have h9:decide (1 < (((x :: l).length:Nat):Int))=decide (1 < (x :: l).length):=by rw [decide_eq_decide]; omega
      rw [h9]
      simp only [List.getElem?_cons_zero]
      rfl
    simp only [gY,hneg,hfe,hz] at hK
    refine ⟨by omega,fun h4=>⟨by omega,by cases hd:(List.drop f (List.take i (bl s)))<;>simp_all⟩,fun c hc=>⟨fun h5 h6=>by rw [h5]; simpa using h6,fun h5 h6=>by simp_all,fun h5=>?_,fun h5=>?_⟩⟩
    · rw [hcond c hc] at h5
      simp only [h5,aK,l7] at hK
      refine .sel [0] (by simp) (by simp) rfl (.done ?_)
      have:=hK 0 (mk []) 0 0 i
      rw [Int.toNat_of_nonneg h0] at this
      exact this
    · rw [hcond c hc] at h5
      simp only [h5,aF] at hK
      have hdig:∀ c ∈ List.drop f (List.take i (bl s)),bO c=true:=by
       intro c hc
       rw [<-hz] at hc
       exact s7 c hc
      refine ⟨⟨by simp; omega,hdig⟩,?_⟩
      have rest2:∀ e t:Int,(e=0/\t=0/\qX neg ((List.take i (bl s)).drop f)=true\/e=4/\t=a/\qX neg ((List.take i (bl s)).drop f)=false)->vc [(101,.s BA),(105,.s rE),(120,.s rU)] 1 pc103_15.ungh (cJ [(0,.va (.c1 (.pt 0 0))),(2,.va (.c1 (.pt 1 0))),(3,iS .i64 a),(7,iS .i64 (uM neg ((List.take i (bl s)).drop f)))]) [lT s i e t,.cells (tW 0 (mk []) 0 0) 74] (eO 1 wT K):=by
       intro e t het
       simp -dsimp only [go_sem,pc103_15,wT]
       rw [XB]
       refine ⟨by omega,fun h7=>.sel [0] (by simp) (by simp) rfl (.done ?_),fun h7=>.sel [0] (by simp) (by simp) rfl (.done ?_)⟩
       · rcases het with ⟨rfl,rfl,hb⟩ | ⟨rfl,rfl,hb⟩
         · cases hv:valL (cY neg) 0 (List.drop f (List.take i (bl s))) with
           | none=>simp [qX,hv] at hb
           | some n=>
            simp only [hv,h7,aK,l7] at hK
            exact hK _ _ _ _ i
         · cases hv:valL (cY neg) 0 (List.drop f (List.take i (bl s))) with
           | some n=>simp [qX,hv] at hb
           | none=>
            simp only [hv,l7] at hK
            have:=hK 2 (mk []) (uM neg (List.drop f (List.take i (bl s)))) t i
            rw [Int.toNat_of_nonneg h0] at this
            exact this
       · rcases het with ⟨rfl,rfl,hb⟩ | ⟨rfl,rfl,hb⟩
         · cases hv:valL (cY neg) 0 (List.drop f (List.take i (bl s))) with
           | none=>simp [qX,hv] at hb
           | some n=>
            simp only [hv,h7,aF,l7] at hK
            simp only [uM,hv]
            exact hK
         · cases hv:valL (cY neg) 0 (List.drop f (List.take i (bl s))) with
           | some n=>simp [qX,hv] at hb
           | none=>
            simp only [hv,l7] at hK
            have:=hK 2 (mk []) (uM neg (List.drop f (List.take i (bl s)))) t i
            rw [Int.toNat_of_nonneg h0] at this
            exact this
      refine ⟨fun h6=>cA 2 (rest2 4 a (.inr ⟨rfl,rfl,by simpa using h6⟩)) ?_ ?_,fun h6=>cA 2 (rest2 0 0 (.inl ⟨rfl,rfl,by simpa using h6⟩)) ?_ ?_⟩
      all_goals simp -dsimp only [go_sem]
 simp -dsimp only [go_sem,VX,wT]
 rw [NT,hneg]
 refine ⟨by omega,fun h3=>⟨by omega,cA 2 rest ?_ ?_⟩,fun h3=>cA 2 rest ?_ ?_⟩
 all_goals simp -dsimp only [go_sem]
 all_goals (subst h3; simp at hfe; subst hfe; simp; try omega)
abbrev GP (c:UInt8):List C:=[.vl (.int .u8 c.toNat)]
def p9 (p:C) (n:Nat) (xs:List (List C)):Prop:=(p=.vl (.pointer none)\/p=.pt 0 0)/\n=xs.length/\(∀ r ∈ xs,∃ c:UInt8,r=GP c)/\xs.length<=1000000000
def M0:W.Spec:=fun av H K=>
 match av,H with
 | [.va (.c1 (.pt 0 0))],[.cells [p,.sl 1 n] 95,.row xs 5 1]=>p9 p n xs/\K (.tu []) [.cells [.pt 0 0,.sl 1 n] 95,.row xs 5 1]
 | _,_=>False
theorem EQ {av:List S} {H:Hp} {K:S->Hp->Prop} (h:M0 av H K):∃ p n xs,av=[.va (.c1 (.pt 0 0))]/\H=[.cells [p,.sl 1 n] 95,.row xs 5 1]/\p9 p n xs/\
 K (.tu []) [.cells [.pt 0 0,.sl 1 n] 95,.row xs 5 1]:=by
 unfold M0 at h
 split at h
 · exact ⟨_,_,_,rfl,rfl,h⟩
 · exact h.elim
attribute [go_sem ↓] M0
theorem MZ:Meets Tryz.prog 109 M0:=by
 refine aG Tryz.func109 aIG 1 (by rw [Tryz.ntmps109]; decide) (aB _) (fun av H K h=>by obtain ⟨_,_,_,rfl,_⟩:=EQ h; rfl) ?_
 intro av H K h
 obtain ⟨p,n,xs,rfl,rfl,hp,hK⟩:=EQ h
 rcases hp.1 with rfl | rfl
 · simp -dsimp only [go_sem,OA,OH] at hK ⊢
   simp only [Option.isNone,Bool.true_eq_false,false_implies,and_true,true_implies]
   exact .done hK
 · simp -dsimp only [go_sem,OA,OH] at hK ⊢
   exact .done hK
def NV:W.Spec:=fun av H K=>
 match av,H with
 | [.va (.c1 (.pt 0 0)),.va (.c1 (.vl (.int .u8 c)))],[.cells [p,.sl 1 n] 95,.row xs 5 1]=>(p9 p n xs/\0<=c/\c<=255)/\
  K (.va (.c1 (.vl .nilIface))) [.cells [.pt 0 0,.sl 1 (n + 1)] 95,.row (xs ++ [[.vl (.int .u8 c)]]) 5 1]
 | _,_=>False
theorem DR {av:List S} {H:Hp} {K:S->Hp->Prop} (h:NV av H K):∃ p n xs c,av=[.va (.c1 (.pt 0 0)),iS .u8 c]/\H=[.cells [p,.sl 1 n] 95,.row xs 5 1]/\p9 p n xs/\(0<=c/\c<=255)/\
 K (.va (.c1 (.vl .nilIface))) [.cells [.pt 0 0,.sl 1 (n + 1)] 95,.row (xs ++ [[.vl (.int .u8 c)]]) 5 1]:=by
 unfold NV at h
 split at h
 · exact ⟨_,_,_,_,rfl,rfl,h.1.1,h.1.2,h.2⟩
 · exact h.elim
attribute [go_sem ↓] NV
theorem MU:Meets Tryz.prog 61 NV:=by
 refine aG Tryz.func61 aNB 2 (by rw [Tryz.ntmps61]; decide) (aA MZ (aB _)) (fun av H K h=>by obtain ⟨_,_,_,_,rfl,_⟩:=DR h; rfl) ?_
 intro av H K h
 obtain ⟨p,n,xs,c,rfl,rfl,hp,hc,hK⟩:=DR h
 obtain ⟨hp1,rfl,hp2,hp3⟩:=hp
 rcases hp1 with rfl | rfl
 all_goals
  simp -dsimp only [go_sem,aEV,ZW] at hK ⊢
  refine ⟨⟨by simp,rfl,hp2,hp3⟩,by omega,.sel [0,1] (by simp) (by simp) rfl (.done ?_)⟩
  simpa [go_sem] using hK
def EY:W.Spec:=fun av H K=>
 match av,H with
 | [.va (.c1 (.pt 0 0))],[.cells [p,.sl 1 n] 95,.row xs 5 1]=>p9 p n xs/\K (iS .i64 n) [.cells [p,.sl 1 n] 95,.row xs 5 1]
 | _,_=>False
theorem AJ {av:List S} {H:Hp} {K:S->Hp->Prop} (h:EY av H K):∃ p n xs,av=[.va (.c1 (.pt 0 0))]/\H=[.cells [p,.sl 1 n] 95,.row xs 5 1]/\p9 p n xs/\
 K (iS .i64 n) [.cells [p,.sl 1 n] 95,.row xs 5 1]:=by
 unfold EY at h
 split at h
 · exact ⟨_,_,_,rfl,rfl,h⟩
 · exact h.elim
attribute [go_sem ↓] EY
theorem aKN:Meets Tryz.prog 60 EY:=by
 refine aG Tryz.func60 aLP 1 (by rw [Tryz.ntmps60]; decide) (aB _) (fun av H K h=>by obtain ⟨_,_,_,rfl,_⟩:=AJ h; rfl) ?_
 intro av H K h
 obtain ⟨p,n,xs,rfl,rfl,⟨hp1,rfl,hp2,hp3⟩,hK⟩:=AJ h
 simp -dsimp only [go_sem,aDR,aDK] at hK ⊢
 exact .done hK
def FR:W.Spec:=fun av H K=>
 match av,H with
 | [.va (.c1 (.pt 0 0))],[.cells [p,.sl 1 n] 95,.row xs 5 1]=>p9 p n xs/\K (tS (mk (pJ xs))) [.cells [p,.sl 1 n] 95,.dead]
 | _,_=>False
theorem AH {av:List S} {H:Hp} {K:S->Hp->Prop} (h:FR av H K):∃ p n xs,av=[.va (.c1 (.pt 0 0))]/\H=[.cells [p,.sl 1 n] 95,.row xs 5 1]/\p9 p n xs/\
 K (tS (mk (pJ xs))) [.cells [p,.sl 1 n] 95,.dead]:=by
 unfold FR at h
 split at h
 · exact ⟨_,_,_,rfl,rfl,h⟩
 · exact h.elim
attribute [go_sem ↓] FR
theorem YJ:Meets Tryz.prog 63 FR:=by
 refine aG Tryz.func63 aMN 1 (by rw [Tryz.ntmps63]; decide) (aB _) (fun av H K h=>by obtain ⟨_,_,_,rfl,_⟩:=AH h; rfl) ?_
 intro av H K h
 obtain ⟨p,n,xs,rfl,rfl,⟨hp1,rfl,hp2,hp3⟩,hK⟩:=AH h
 simp -dsimp only [go_sem,aC7,aDY] at hK ⊢
 exact ⟨⟨hp2,by omega⟩,.done hK⟩
def quoL:Nat->List UInt8->List UInt8->Nat × Option (List UInt8)
 | i,[],_=>(i,none)
 | i,c :: r,out=>
  bif decide (c < 32) || decide (126 < c) then (i,none)
  else bif c == 34 then (i + 1,some out)
  else bif c == 92 then match r with
   | d :: r'=>bif d == 34 || d == 92 then quoL (i + 2) r' (out ++ [d]) else (i,none)
   | []=>(i,none)
  else quoL (i + 1) r (out ++ [c])
theorem pS (i:Nat) (out:List UInt8):quoL i [] out=(i,none):=by rw [quoL.eq_def]
theorem gK (i:Nat) (c:UInt8) (r out:List UInt8):quoL i (c :: r) out=bif decide (c < 32) || decide (126 < c) then (i,none)
 else bif c == 34 then (i + 1,some out)
 else bif c == 92 then match r with
  | d :: r'=>bif d == 34 || d == 92 then quoL (i + 2) r' (out ++ [d]) else (i,none)
  | []=>(i,none)
 else quoL (i + 1) r (out ++ [c]):=by rw [quoL.eq_def]
def gG (l:List UInt8) (a:Nat):R:=match quoL (a + 1) (l.drop (a + 1)) [] with
 | (i,none)=>.bad 2 i
 | (z,some out)=>bif decide (200 < out.length) then .bad 3 a else .ok 3 out 0 z
def QU:W.Spec:=w8 (fun l a=>l[a]? = some 34) gG
attribute [go_sem ↓] QU
theorem aI7:Meets Tryz.prog 104 QU:=by
 refine aG Tryz.func104 aG4 1 (by rw [Tryz.ntmps104]; decide) (aA FM (aA MU (aA aKN (aA YJ (aB _))))) wD ?_
 intro xs H K h
 obtain ⟨s,a,rfl,rfl,h0,h1,h2,hc0,hK⟩:=oJ h
 have hlt:a.toNat < (bl s).length:=(bC.1 hc0).1
 simp -dsimp only [go_sem,V9,VF] at hK ⊢
 refine ⟨by omega,cI (α:=C × Nat × List UInt8) (fun z=>[(0,.va (.c1 (.pt 0 0))),(2,.va (.c1 (.pt 1 0))),(3,iS .i64 a),(4,.va (.c1 (.pt 2 0)))])
  (fun z=>[lT s z.2.1 0 0,.cells (tW 0 (mk []) 0 0) 74,.cells [z.1,.sl 3 z.2.2.length] 95,.row (z.2.2.map GP) 5 1])
  (fun z=>(z.1=.vl (.pointer none)\/z.1=.pt 2 0)/\z.2.1<=(bl s).length/\z.2.2.length<=z.2.1/\quoL z.2.1 ((bl s).drop z.2.1) z.2.2=quoL (a.toNat + 1) ((bl s).drop (a.toNat + 1)) []) (fun z=>(bl s).length - z.2.1)
  (.nilc 2 1 5 1 _ _ rfl rfl (hY (.vl (.pointer none),a.toNat + 1,[]) 4 ⟨.inl rfl,by simp only; omega,by simp,rfl⟩ ?_ ?_)) ?_⟩
 · simp -dsimp only [go_sem]
 · simp -dsimp only [go_sem]; simp; omega
 rintro ⟨p,i,out⟩ ⟨hp,hi,ho,hq⟩
 simp only at hp hi ho hq
 have hby:∀ r ∈ out.map GP,∃ c:UInt8,r=GP c:=fun r hr=>by obtain ⟨c,_,rfl⟩:=List.mem_map.1 hr; exact ⟨c,rfl⟩
 have hbl:(out.map GP).length<=1000000000:=by simp; omega
 have hrb:pJ (out.map GP)=out:=by
  simp only [pJ,List.map_map]
  conv=>rhs; rw [<-List.map_id out]
  apply List.map_congr_left
  intro c _
  simp [C.gi,GP]
 have hn:(bl s).length<=i->quoL i ((bl s).drop i) out=(i,none):=fun h=>by rw [List.drop_eq_nil_iff.2 h,pS]
 have hcs:∀ c:UInt8,(bl s)[i]? = some c->(bl s).drop i=c :: (bl s).drop (i + 1):=fun c hc=>dC hc
 have lt32:∀ c:UInt8,decide ((c.toNat:Int) < 32)=decide (c < 32):=fun c=>by rw [decide_eq_decide,UInt8.lt_iff_toNat_lt]; show (c.toNat:Int) < 32 ↔ c.toNat < 32; omega
 have gt126:∀ c:UInt8,decide (126 < (c.toNat:Int))=decide (126 < c):=fun c=>by rw [decide_eq_decide,UInt8.lt_iff_toNat_lt]; show 126 < (c.toNat:Int) ↔ 126 < c.toNat; omega
 have e34:∀ c:UInt8,((c.toNat:Int) == 34)=(c == 34):=fun c=>gX 34
 have e92:∀ c:UInt8,((c.toNat:Int) == 92)=(c == 92):=fun c=>gX 92
 have n34:∀ c:UInt8,((c.toNat:Int) != 34)=!(c == 34):=fun c=>by rw [bne,e34]
 have n92:∀ c:UInt8,((c.toNat:Int) != 92)=!(c == 92):=fun c=>by rw [bne,e92]
 have bad:quoL (a.toNat + 1) ((bl s).drop (a.toNat + 1)) []=(i,none)->∀ k x n y,K (.va (.gs (tW k x n y))) [lT s i 2 i]:=fun h=>by
  simp only [gG,h,l7] at hK
  exact fun k x n y=>hK k x n y i
 rcases hp with rfl | rfl
 all_goals
  simp -dsimp only [go_sem,lt32,gt126,e34,e92,n34,n92,hrb]
  refine ⟨fun h3=>by simp at h3; omega,fun c hc=>⟨fun h3=>by simp at h3; omega,fun c1 hc1=>⟨fun h3=>?_,fun h3=>?_⟩⟩⟩
  · refine .sel [0] (by simp) (by simp) rfl (.done (bad ?_ _ _ _ _))
    rw [<-hq]
    by_cases h4:(bl s).length<=i
    · exact hn h4
    · have h5:decide (((bl s).length:Int)<=i)=false:=by simp; omega
      have h6:=hc h5
      rw [hcs c h6,gK]
      by_cases h7:c < 32
      · simp [h7]
      · have h8:=hc1 (by rw [h5]; simp [h7])
        rw [h6] at h8
        simp only [aH] at h8
        subst h8
        simp only [h5,h7,decide_false,Bool.false_or] at h3
        simp [h3]
  · simp only [Bool.or_eq_false_iff] at h3
    obtain ⟨⟨h4,h5⟩,h6⟩:=h3
    have hc':=hc h4
    have hc1':=hc1 (by rw [h4,h5]; rfl)
    rw [hc'] at hc1'
    simp only [aH] at hc1'
    subst hc1'
    simp at h4
    refine ⟨by omega,fun c2 hc2=>?_⟩
    rw [hc'] at hc2
    simp only [aH] at hc2
    subst hc2
    rw [hcs c hc',gK] at hq
    simp only [h5,h6,Bool.false_or,aF] at hq
    refine ⟨fun h7=>?_,fun h7=>?_⟩
    · simp only [h7,aK] at hq
      simp only [gG,<-hq] at hK
      refine ⟨by omega,⟨by simp,by simp,hby,hbl⟩,fun h8=>⟨⟨by simp,by simp,hby,hbl⟩,.sel [0] (by simp) (by simp) rfl (.done ?_)⟩,fun h8=>⟨⟨by simp,by simp,hby,hbl⟩,.sel [0] (by simp) (by simp) rfl (.done ?_)⟩⟩
      · have h9:decide (200 < out.length)=true:=by simp at h8 ⊢; omega
        simp only [h9,aK,l7] at hK
        have:=hK 3 (mk out) 0 a (i + 1)
        rw [Int.toNat_of_nonneg h0] at this
        exact this
      · have h9:decide (200 < out.length)=false:=by simp at h8 ⊢; omega
        simp only [h9,aF,l7] at hK
        exact hK
    · simp only [h7,aF] at hq
      have hi1:((i:Int) + 1).toNat=i + 1:=by omega
      rw [hi1]
      refine ⟨fun h8=>⟨by omega,fun _=>by omega,fun h9=>by simp at h9; omega,fun c1 hc1'=>⟨fun _=>by omega,fun h9=>by simp at h9; omega,fun c2 hc2=>⟨fun h9 h10=>by rw [h9,h10]; rfl,fun h9=>?_,fun h9=>?_⟩⟩⟩,fun h8=>?_⟩
      · refine .sel [0] (by simp) (by simp) rfl (.done (bad ?_ _ _ _ _))
        simp only [h8,aK] at hq
        rw [<-hq]
        by_cases h10:(bl s).length<=i + 1
        · rw [List.drop_eq_nil_iff.2 h10]
        · have h11:decide (((bl s).length:Int)<=i + 1)=false:=by simp; omega
          have h12:=hc1' h11
          rw [dC h12]
          simp only [h11,Bool.false_or,Bool.and_eq_true,Bool.not_eq_true'] at h9
          have h13:=hc2 (by rw [h11,h9.1]; rfl)
          rw [h12] at h13
          simp only [aH] at h13
          subst h13
          simp only [h9.1,h9.2,Bool.or_self,aF]
      · simp only [Bool.or_eq_false_iff] at h9
        have h12:=hc1' h9.1
        have hlt1:=(bC.1 h12).1
        refine ⟨by omega,by omega,fun c3 hc3=>?_⟩
        rw [h12] at hc3
        simp only [aH] at hc3
        subst hc3
        have h14:(c1 == 34 || c1 == 92)=true:=by
         cases h15:(c1 == 34) with
         | true=>rfl
         | false=>
          have h13:=hc2 (by rw [h9.1,h15]; rfl)
          rw [h12] at h13
          simp only [aH] at h13
          subst h13
          rw [h15] at h9
          simpa using h9.2
        simp only [h8,aK,dC h12,h14] at hq
        refine ⟨⟨⟨by simp,by simp,hby,hbl⟩,by omega,by have:=c1.toNat_lt; omega⟩,by omega,aC (.pt 2 0,i + 2,out ++ [c1]) 4 ⟨.inr rfl,by simp only; omega,by simp; omega,hq⟩ (by simp only; omega) ?_ ?_⟩
        · simp -dsimp only [go_sem]
        · simp -dsimp only [go_sem]; simp; omega
      · simp only [h8,aF] at hq
        refine ⟨⟨⟨by simp,by simp,hby,hbl⟩,by omega,by have:=c.toNat_lt; omega⟩,by omega,aC (.pt 2 0,i + 1,out ++ [c]) 4 ⟨.inr rfl,by simp only; omega,by simp; omega,hq⟩ (by simp only; omega) ?_ ?_⟩
        · simp -dsimp only [go_sem]
        · simp -dsimp only [go_sem]; simp
def dH (l:List UInt8) (p:Nat):R:=match l[p]? with
 | none=>.ok 0 [] 0 p
 | some c=>bif bR c.toNat then hJ l p else bif bO c || c == 45 then gY l p else bif c == 34 then gG l p
  else bif eK c.toNat then .ok 4 [c] 0 (p + 1) else .bad 2 p
theorem aFJ (c:UInt8):(d8 c.toNat == 3)=bR c.toNat:=by
 have:=dL (p:=fun c=>(d8 c.toNat == 3) == bR c.toNat) (by decide +kernel) c
 simpa using this
theorem U0 (c:UInt8):(d8 c.toNat == 4 || d8 c.toNat == 5)=(bO c || c == 45):=by
 have:=dL (p:=fun c=>(d8 c.toNat == 4 || d8 c.toNat == 5) == (bO c || c == 45)) (by decide +kernel) c
 simpa using this
theorem aDA (c:UInt8):(d8 c.toNat == 7)=(c == 34):=by
 have:=dL (p:=fun c=>(d8 c.toNat == 7) == (c == 34)) (by decide +kernel) c
 simpa using this
theorem aLG (c:UInt8):(d8 c.toNat == 8)=eK c.toNat:=by
 have:=dL (p:=fun c=>(d8 c.toNat == 8) == eK c.toNat) (by decide +kernel) c
 simpa using this
theorem aIQ (c:UInt8):(d8 c.toNat == -1)=false:=by
 have:=dL (p:=fun c=>(d8 c.toNat == -1) == false) (by decide +kernel) c
 simpa using this
def QS:W.Spec:=vM (fun _ _ e t=>e=0/\t=0) fun s a _ _ K=>MS s (b7 (bl s) a.toNat) K (dH (bl s) (b7 (bl s) a.toNat))
attribute [go_sem ↓] QS
theorem aH6:Meets Tryz.prog 58 QS:=by
 refine aG Tryz.func58 aNZ 1 (by rw [Tryz.ntmps58]; decide)
  (aA aI6 (aA E6 (aA aIF (aA ZK (aA aI7 (aA FM (aB _))))))) zC ?_
 intro xs H K h
 obtain ⟨s,a,e,t,rfl,rfl,h0,h1,h2,⟨rfl,rfl⟩,hK⟩:=nR h
 generalize hp:b7 (bl s) a.toNat=p at hK
 have hpl:p<=(bl s).length:=by rw [<-hp]; exact pT (by omega)
 have hfin:∀ {k x n y z e t} {B2:B},Tok (dH (bl s) p) p k x n y z e t->W.Fin 1 K (.va (.gs (tW k x n y))) [lT s z e t,B2]:=fun h=>.sel [0] (by simp) (by simp) rfl (.done (hK _ _ _ _ _ _ _ h))
 have ht:dH (bl s) p=match (bl s)[p]? with
  | none=>.ok 0 [] 0 p
  | some c=>bif d8 c.toNat == 3 then hJ (bl s) p else bif d8 c.toNat == 4 || d8 c.toNat == 5 then gY (bl s) p else bif d8 c.toNat == 7 then gG (bl s) p
   else bif d8 c.toNat == 8 then .ok 4 [c] 0 (p + 1) else .bad 2 p:=by
  unfold dH
  cases (bl s)[p]? with
  | none=>rfl
  | some c=>simp only [aFJ,U0,aDA,aLG]
 rw [ht] at hfin
 simp -dsimp only [go_sem,aCI,aB1,hp] at ⊢
 cases hc:(bl s)[p]? with
 | none=>
  rw [hc] at hfin
  have hk:dW (bl s) p=-1:=by rw [dW,hc]
  simp only [hk]
  refine ⟨⟨h0,h1,h2⟩,⟨by omega,by omega,h2⟩,fun _=>hfin ⟨rfl,rfl,rfl,rfl,rfl,rfl,rfl⟩,fun h=>by simp at h⟩
 | some c=>
  rw [hc] at hfin
  have hplt:p < (bl s).length:=(bC.1 hc).1
  have hk:dW (bl s) p=d8 c.toNat:=by rw [dW,hc]
  have hd:(List.take (p + 1) (bl s)).drop p=[c]:=by
   rw [List.drop_take,dC hc]; simp
  simp only [hk,aIQ]
  have q45:=U0 c
  have q7:=aDA c
  have hi1:((p:Int) + 1 - 1)=p:=by omega
  have hi2:((p:Int) + 1).toNat=p + 1:=by omega
  rw [hi1,hi2]
  refine ⟨⟨h0,h1,h2⟩,⟨by omega,by omega,h2⟩,fun h=>by simp at h,fun _=>?_⟩
  simp only [Int.toNat_natCast,hd]
  repeat' (first | apply And.intro | intro)
  all_goals first
   | omega
   | (refine hfin ?_; simp_all; done)
   | (exact ⟨c,rfl,by simp_all⟩)
   | (simp_all; done)
   | skip
  · rename_i g3 g4 g5 g7 g8
    refine hfin ?_
    simp only [g3,g4,g5,g7,g8,aK,aF,Bool.or_self]
    exact ⟨rfl,rfl,rfl,rfl,by simp,rfl,rfl⟩
  · rename_i g3 g4 g5 g7 g8
    refine hfin ?_
    simp only [g3,g4,g5,g7,g8,aF,Bool.or_self]
    exact ⟨rfl,rfl,p,rfl⟩
structure Tk where
 k:Int
 x:List UInt8
 n:Int
 a:Nat
abbrev cQ (t:Tk):List C:=tW t.k (mk t.x) t.n t.a
inductive SR where
 | ok (l:List Tk)
 | bad (e t:Int)
def SR.cons (t:Tk):SR->SR
 | .ok l=>.ok (t :: l)
 | .bad e t=>.bad e t
def SR.app (acc:List Tk):SR->SR
 | .ok l=>.ok (acc ++ l)
 | .bad e t=>.bad e t
theorem SR.app_cons (acc:List Tk) (t:Tk) (r:SR):SR.app acc (SR.cons t r)=SR.app (acc ++ [t]) r:=by cases r<;>simp [SR.app,SR.cons]
def eV:Nat->List UInt8->Nat->SR
 | 0,_,_=>.ok []
 | f + 1,l,a=>match dH l (b7 l a) with
  | .bad e t=>.bad e t
  | .ok k x n z=>bif k == 0 then .ok [⟨k,x,n,b7 l a⟩] else SR.cons ⟨k,x,n,b7 l a⟩ (eV f l z)
def bD (l:List UInt8):SR:=bif decide (4000 < l.length) then .bad 3 0 else eV (l.length + 1) l 0
def SR.toks:SR->List Tk
 | .ok l=>l
 | .bad _ _=>[]
def SR.err:SR->Int
 | .ok _=>0
 | .bad e _=>e
def SR.off:SR->Int
 | .ok _=>0
 | .bad _ t=>t
theorem NP {l:List UInt8} {a:Nat} {c:UInt8} (hc:l[a]? = some c) (hd:bO c=true\/c=45):(∀ {e t},gY l a=.bad e t->e ≠ 0)/\∀ {k x n z},gY l a=.ok k x n z->k ≠ 0/\a < z/\z<=l.length:=by
 have hlt:a < l.length:=(bC.1 hc).1
 have hne:(l[a]? == some 45)=(c == 45):=by rw [hc]; rfl
 have hge:(bif c == 45 then a + 1 else a)<=l.length:=by cases (c == 45)<;>simp<;>omega
 have hz2:=oT (p:=bO) hge
 have hz:∀ {p:UInt8->Bool} {f:Nat},f<=b5 p l f:=fun {p f}=>rX
 have hz1:a < b5 bO l (bif c == 45 then a + 1 else a):=by
  rcases hd with hd | hd
  · have h45:(c == 45)=false:=by
     have:=dL (p:=fun c=>!(bO c) || !(c == 45)) (by decide +kernel) c
     simpa [hd] using this
    simp only [h45,aF]
    rw [<-jE hc hd]
    exact Nat.lt_of_lt_of_le (Nat.lt_succ_self a) hz
  · subst hd
    simp only [beq_self_eq_true,aK]
    exact Nat.lt_of_lt_of_le (Nat.lt_succ_self a) hz
 constructor
 · intro e t h
   unfold gY at h
   simp only at h
   revert h
   cases (List.drop (bif l[a]? == some 45 then a + 1 else a) (List.take (b5 bO l (bif l[a]? == some 45 then a + 1 else a)) l) == [] || ((List.drop (bif l[a]? == some 45 then a + 1 else a) (List.take (b5 bO l (bif l[a]? == some 45 then a + 1 else a)) l))[0]? == some 48 && (decide (1 < (List.drop (bif l[a]? == some 45 then a + 1 else a) (List.take (b5 bO l (bif l[a]? == some 45 then a + 1 else a)) l)).length) || l[a]? == some 45))) with
   | true=>intro h; simp only [aK,R.bad.injEq] at h; omega
   | false=>
    simp only [aF]
    split
    · intro h; simp only [R.bad.injEq] at h; omega
    · cases mT l (b5 bO l (bif l[a]? == some 45 then a + 1 else a))<;>simp only [aK,aF,R.bad.injEq,reduceCtorEq,false_implies]; intro h; omega
 · intro k x n z h
   unfold gY at h
   simp only at h
   rw [hne] at h
   revert h
   generalize (List.drop (bif c == 45 then a + 1 else a) (List.take (b5 bO l (bif c == 45 then a + 1 else a)) l))=q
   cases (q == [] || (q[0]? == some 48 && (decide (1 < q.length) || c == 45))) with
   | true=>intro h; simp only [aK,reduceCtorEq] at h
   | false=>
    simp only [aF]
    split
    · intro h; cases h
    · cases mT l (b5 bO l (bif c == 45 then a + 1 else a))<;>simp only [aK,aF,R.ok.injEq,reduceCtorEq,false_implies]
      rintro ⟨rfl,rfl,rfl,rfl⟩
      exact ⟨by decide,hz1,hz2⟩
theorem J3 {l:List UInt8} {a:Nat} {c:UInt8} (hc:l[a]? = some c) (hd:bR c.toNat=true):(∀ {e t},hJ l a=.bad e t->e ≠ 0)/\∀ {k x n z},hJ l a=.ok k x n z->k ≠ 0/\a < z/\z<=l.length:=by
 have hlt:a < l.length:=(bC.1 hc).1
 have hz2:=oT (p:=a8) (Nat.le_of_lt hlt)
 have hw:a8 c=true:=by simp [a8,fP,hd]
 have hz1:a < b5 a8 l a:=by
  rw [<-jE hc hw]
  exact Nat.lt_of_lt_of_le (Nat.lt_succ_self a) rX
 unfold hJ
 simp only
 cases decide (16 < b5 a8 l a - a)<;>cases (l[b5 a8 l a]? == some 45)<;>simp only [aK,aF]
 all_goals refine ⟨fun {e t} h=>?_,fun {k x n z} h=>?_⟩
 all_goals simp only [R.bad.injEq,R.ok.injEq,reduceCtorEq] at h
 all_goals first | omega | (obtain ⟨rfl,rfl,rfl,rfl⟩:=h; exact ⟨by decide,hz1,hz2⟩)
theorem J7 {l:List UInt8} {a:Nat} (hc:l[a]? = some 34):(∀ {e t},gG l a=.bad e t->e ≠ 0)/\∀ {k x n z},gG l a=.ok k x n z->k ≠ 0/\a < z/\z<=l.length:=by
 have hlt:a < l.length:=(bC.1 hc).1
 have key:∀ (m:Nat) (r:List UInt8) (i:Nat) (out:List UInt8) (z:Nat) (o:List UInt8),r.length=m->quoL i r out=(z,some o)->i < z/\z<=i + r.length:=by
  intro m
  induction m using Nat.strongRecOn with
  | ind m ih=>
   intro r i out z o hm h
   cases r with
   | nil=>rw [pS] at h; cases h
   | cons c r=>
    rw [gK] at h
    simp only [List.length_cons] at hm
    revert h
    cases (decide (c < 32) || decide (126 < c)) with
    | true=>intro h; cases h
    | false=>
     cases (c == 34) with
     | true=>intro h; simp only [aF,aK,Prod.mk.injEq] at h; simp; omega
     | false=>
      cases (c == 92) with
      | true=>
       simp only [aF,aK]
       cases r with
       | nil=>intro h; cases h
       | cons d r'=>
        simp only
        cases (d == 34 || d == 92) with
        | true=>intro h; have:=ih r'.length (by simp at hm; omega) r' _ _ _ _ rfl h; simp; omega
        | false=>intro h; cases h
      | false=>
       simp only [aF]
       intro h; have:=ih r.length (by omega) r _ _ _ _ rfl h; simp; omega
 unfold gG
 split
 · constructor
   · intro e t h; simp only [R.bad.injEq] at h; omega
   · intro k x n z h; cases h
 · rename_i z o hq
   have:=key _ _ _ _ _ _ rfl hq
   simp only [List.length_drop] at this
   cases decide (200 < o.length)<;>simp [R.bad.injEq,R.ok.injEq]
   all_goals (intros; omega)
theorem zQ {l:List UInt8} {p:Nat} (hp:p<=l.length):(∀ {e t},dH l p=.bad e t->e ≠ 0)/\∀ {k x n z},dH l p=.ok k x n z->(k=0->p=l.length)/\(k ≠ 0->p < z/\z<=l.length):=by
 unfold dH
 cases hc:l[p]? with
 | none=>
  have:l.length<=p:=List.getElem?_eq_none_iff.1 hc
  simp only [R.ok.injEq,reduceCtorEq,false_implies,implies_true,true_and]
  rintro k x n z ⟨rfl,rfl,rfl,rfl⟩
  exact ⟨fun _=>by omega,fun h=>absurd rfl h⟩
 | some c=>
  have hlt:p < l.length:=(bC.1 hc).1
  simp only
  cases h1:bR c.toNat with
  | true=>
   simp only [aK]
   obtain ⟨q1,q2⟩:=J3 hc h1
   exact ⟨q1,fun h=>⟨fun e=>absurd e (q2 h).1,fun _=>(q2 h).2⟩⟩
  | false=>
   simp only [aF]
   cases h2:(bO c || c == 45) with
   | true=>
    simp only [aK]
    obtain ⟨q1,q2⟩:=NP hc (by simpa using h2)
    exact ⟨q1,fun h=>⟨fun e=>absurd e (q2 h).1,fun _=>(q2 h).2⟩⟩
   | false=>
    simp only [aF]
    cases h3:(c == 34) with
    | true=>
     simp only [aK]
     have:c=34:=by simpa using h3
     subst this
     obtain ⟨q1,q2⟩:=J7 hc
     exact ⟨q1,fun h=>⟨fun e=>absurd e (q2 h).1,fun _=>(q2 h).2⟩⟩
    | false=>
     simp only [aF]
     cases eK c.toNat with
     | true=>
      simp only [aK,R.ok.injEq,reduceCtorEq,false_implies,implies_true,true_and]
      rintro k x n z ⟨rfl,rfl,rfl,rfl⟩
      exact ⟨fun e=>by omega,fun _=>by omega⟩
     | false=>
      simp only [aF,R.bad.injEq,reduceCtorEq,false_implies,implies_true,and_true]
      rintro e t ⟨rfl,rfl⟩
      decide
theorem yB {l:List UInt8} {a:Nat}:a<=b7 l a:=by unfold b7; omega
def i7:W.Spec:=fun xs H K=>
 match xs,H with
 | [.va (.c1 (.vl (.string s)))],[]=>K (.tu [.c1 (.fz ((bD (bl s)).toks.map cQ)),iA .i64 (bD (bl s)).err,iA .i64 (bD (bl s)).off]) []
 | _,_=>False
theorem nC {xs:List S} {H:Hp} {K:S->Hp->Prop} (h:i7 xs H K):∃ s,xs=[tS s]/\H=[]/\K (.tu [.c1 (.fz ((bD (bl s)).toks.map cQ)),iA .i64 (bD (bl s)).err,iA .i64 (bD (bl s)).off]) []:=by
 unfold i7 at h
 split at h
 · exact ⟨_,rfl,rfl,h⟩
 · exact h.elim
attribute [go_sem ↓] i7
theorem aI5:Meets Tryz.prog 22 i7:=by
 refine aG Tryz.func22 aKJ 1 (by rw [Tryz.ntmps22]; decide) (aA aH6 (aB _)) (fun xs H K h=>by obtain ⟨s,rfl,_⟩:=nC h; rfl) ?_
 intro xs H K h
 obtain ⟨s,rfl,rfl,hK⟩:=nC h
 simp -dsimp only [go_sem,aEM,aCC] at hK ⊢
 refine ⟨fun h1=>?_,fun h1=>?_⟩
 · have h2:decide (4000 < (bl s).length)=true:=by simp at h1 ⊢; omega
   simp only [bD,h2,aK,SR.toks,SR.err,SR.off] at hK
   exact .done hK
 have h2:decide (4000 < (bl s).length)=false:=by simp at h1 ⊢; omega
 have hlen:(bl s).length<=4000:=by simpa using h2
 refine cI (α:=Nat × Nat × List Tk) (fun z=>[(5,.va (.c1 (.pt 0 0))),(6,.va (.c1 (.sl 1 z.2.2.length)))]) (fun z=>[lT s z.2.1 0 0,.row (z.2.2.map cQ) 74 4])
  (fun z=>(bl s).length < z.1 + z.2.1/\z.2.1<=(bl s).length/\z.2.2.length<=z.2.1/\SR.app z.2.2 (eV z.1 (bl s) z.2.1)=bD (bl s)) (fun z=>z.1)
  (.nil 6 74 4 ?_ (hY ((bl s).length + 1,0,[]) 2 ⟨by simp only; omega,by simp,by simp,?_⟩ ?_ ?_)) ?_
 · simp -dsimp only [go_sem]; rfl
 · simp only [bD,h2,aF]
   cases eV ((bl s).length + 1) (bl s) 0<;>rfl
 · simp -dsimp only [go_sem]
 · simp -dsimp only [go_sem]; rfl
 rintro ⟨f,a,acc⟩ ⟨hf,ha,hac,hr⟩
 simp only at hf ha hac hr
 simp -dsimp only [go_sem]
 have hpl:b7 (bl s) a<=(bl s).length:=pT ha
 have hpa:a<=b7 (bl s) a:=yB
 obtain ⟨hb,ho⟩:=zQ hpl
 obtain ⟨f,rfl⟩:∃ g,f=g + 1:=⟨f - 1,by omega⟩
 rw [eV] at hr
 refine ⟨⟨by omega,by omega,hlen⟩,fun k x n y z e t ht=>?_⟩
 cases hR:dH (bl s) (b7 (bl s) a) with
 | bad e' t'=>
  rw [hR] at ht hr
  obtain ⟨rfl,rfl,z,rfl⟩:=ht
  have he:=hb hR
  simp only [SR.app] at hr
  rw [<-hr] at hK
  simp only [SR.toks,SR.err,SR.off] at hK
  refine ⟨fun h3=>.z (?_),fun h3=>absurd h3 (by simpa using he)⟩
  simpa [go_sem] using hK
 | ok k' x' n' z'=>
  rw [hR] at ht hr
  obtain ⟨rfl,rfl,rfl,rfl,rfl,rfl,rfl⟩:=ht
  obtain ⟨o1,o2⟩:=ho hR
  refine ⟨fun h3=>absurd h3 (by simp),fun _=>⟨by omega,fun h3=>?_,fun h3=>?_⟩⟩
  · simp only [h3,aK,SR.app] at hr
    rw [<-hr] at hK
    simp only [SR.toks,SR.err,SR.off,List.map_append,List.map_cons,List.map_nil] at hK
    refine .pub 1 _ _ _ rfl (.sel [] (by simp) (by simp [cC]) rfl (.done ?_))
    simpa [go_sem] using hK
  · simp only [h3,aF,SR.app_cons] at hr
    obtain ⟨o3,o4⟩:=o2 (by simpa using h3)
    refine aC (f,z',acc ++ [⟨k,x',n,b7 (bl s) a⟩]) 2 ⟨by simp only; omega,o4,by simp; omega,hr⟩ (by simp only; omega) ?_ ?_
    · simp -dsimp only [go_sem]
    · simp -dsimp only [go_sem]
def bX (l:List UInt8):Bool:=match l with
 | []=>false
 | c :: _=>decide (l.length<=16) && bR c.toNat && l.all a8
def BB:List S->Prop:=fun xs=>match xs with
 | [.va (.c1 (.vl (.string _)))]=>True
 | _=>False
theorem iO {xs:List S} (h:BB xs):∃ s,xs=[tS s]:=by
 unfold BB at h
 split at h
 · exact ⟨_,rfl⟩
 · exact h.elim
def PP (f:List UInt8->Value):List S->A:=fun xs=>match xs with
 | [.va (.c1 (.vl (.string s)))]=>.c1 (.vl (f (bl s)))
 | _=>.gs []
def sA (f:List UInt8->Value):Fun:=⟨BB,PP f,fun xs h=>by obtain ⟨s,rfl⟩:=iO h; trivial⟩
theorem nW {f:List UInt8->Value}:∀ xs H K,(sA f).sp xs H K->xs.length=1:=fun xs H K h=>by obtain ⟨s,rfl⟩:=iO h.1.1; rfl
attribute [go_sem] sA BB PP
theorem qG {l:List UInt8} (h:16 < l.length):bX l=false:=by
 cases l with
 | nil=>rfl
 | cons c l=>
  simp only [bX]
  have:decide ((c :: l).length<=16)=false:=by simp at h ⊢; omega
  rw [this]; rfl
theorem zY {l:List UInt8} {c:UInt8} (h:l[0]? = some c) (hc:bR c.toNat=false):bX l=false:=by
 cases l with
 | nil=>rfl
 | cons d l=>simp at h; subst h; simp [bX,hc]
theorem C5 {l:List UInt8} {i:Nat} {c:UInt8} (h:l[i]? = some c) (hc:a8 c=false):bX l=false:=by
 cases l with
 | nil=>rfl
 | cons d l=>
  have:(d :: l).all a8=false:=by rw [List.all_eq_false]; exact ⟨c,bW h,by simp [hc]⟩
  simp only [bX,this,Bool.and_false]
theorem wF {l:List UInt8} {c:UInt8} (h:l[0]? = some c) (hl:l.length<=16) (hc:bR c.toNat=true) (ha:∀ (j:Nat) (x:UInt8),l[j]? = some x->a8 x=true):bX l=true:=by
 cases l with
 | nil=>simp at h
 | cons d l=>
  simp at h; subst h
  have h1:(d :: l).all a8=true:=by
   rw [List.all_eq_true]; intro x hx
   obtain ⟨j,hj⟩:=List.mem_iff_getElem?.1 hx
   exact ha j x hj
  simp only [bX,h1,hc,Bool.and_true,decide_eq_true_eq]; exact hl
theorem XT (c:UInt8):((d8 c.toNat != 3) && (d8 c.toNat != 4) && (d8 c.toNat != 6))=!(a8 c):=by
 rw [<-HW]; simp [bne,Bool.not_or]
theorem wN:Meets Tryz.prog 95 (sA fun l=>.bool (bX l)).sp:=by
 refine aG Tryz.func95 aKW 1 (by rw [Tryz.ntmps95]; decide) (aI Q0 (aB _)) nW ?_
 rintro xs H K ⟨⟨h,rfl⟩,hK⟩
 obtain ⟨s,rfl⟩:=iO h
 have hn:∀ c:UInt8,(d8 c.toNat != 3)=!(bR c.toNat):=fun c=>by rw [bne,aFJ]
 simp -dsimp only [go_sem,Z6,aD8,hn] at hK ⊢
 generalize hg:(bl s == [] || decide (16 < ((bl s).length:Int)))=g
 have hg1:g=false->0 < (bl s).length/\(bl s).length<=16:=fun h=>by
  subst hg; simp at h
  exact ⟨List.length_pos_iff.2 h.1,by omega⟩
 have hg2:g=true->bX (bl s)=false:=fun h=>by
  subst hg; simp at h
  rcases h with h | h
  · rw [h]; rfl
  · exact qG (by omega)
 refine ⟨fun h=>⟨by omega,by have:=hg1 h; omega⟩,fun c hc=>⟨fun h=>?_,fun h=>?_,fun h=>?_⟩⟩
 · have:=c.toNat_lt; omega
 · refine cZ hK ?_
   cases g with
   | true=>rw [hg2 rfl]
   | false=>simp at h; rw [zY (hc rfl) h]
 simp at h
 obtain ⟨rfl,h3⟩:=h
 have hc:=hc rfl
 obtain ⟨hl0,hl⟩:=hg1 rfl
 refine aR (α:=Nat) (fun i=>[(0,tS s),(19,iS .i64 (bl s).length),(20,iS .i64 i)]) (fun i=>[]) (fun i=>i<=(bl s).length/\∀ (j:Nat) (x:UInt8),j < i->(bl s)[j]? = some x->a8 x=true) (fun i=>(bl s).length - i) 0 0 ⟨by omega,by omega⟩ ?_ ?_ ?_
 · simp -dsimp only [go_sem]; simp
 · simp [go_sem]
 rintro i ⟨hi,ha⟩
 simp -dsimp only [go_sem,XT]
 have hlt:(bl s).length < 2^64:=by omega
 refine ⟨fun h1=>⟨⟨by omega,by simpa using h1⟩,fun d hd=>⟨by have:=d.toNat_lt; omega,fun h2=>?_,fun h2=>⟨by omega,?_⟩⟩⟩,fun h1=>?_⟩
 · refine cZ hK ?_
   rw [C5 hd h2]
 · refine aC (i + 1) 0 ⟨by have:=(bC.1 hd).1; omega,fun j x hj hx=>?_⟩ (by have:=(bC.1 hd).1; omega) ?_ ?_
   · rcases bL j i with h4 | h4
     · exact ha j x h4 hx
     · obtain rfl:j=i:=by omega
       rw [hd] at hx; obtain rfl:=bK hx
       simpa [a8] using h2
   · simp -dsimp only [go_sem]; simp
   · simp [go_sem]
 · refine cZ hK ?_
   have:i=(bl s).length:=by simp at h1; omega
   subst this
   rw [wF hc hl h3 fun j x hx=>ha j x (bC.1 hx).1 hx]
def qTrue:Fun:=⟨fun xs=>xs=[],fun _=>bA true,fun xs h=>trivial⟩
theorem QD:∀ xs H K,qTrue.sp xs H K->xs.length=0:=fun xs H K h=>by rw [show xs=[] from h.1.1]; rfl
attribute [go_sem] qTrue
theorem FU (l:List UInt8):bl (mk l)=l:=by simp [bl,mk]
end Go.Proofs.YtgogpogophflhaaGreatDoor
namespace Go.W
section
variable {P:Program} {f:FuncId} {s:Spec}
def pubB (n:Nat) (s:Spec):Spec:=fun ar H K=>match H[n]? with
 | some (.row xs _ _)=>s (ar.map (S.pub n xs)) (cC n xs H) K
 | _=>False
def dropB (s:Spec):Spec:=fun ar H K=>s (ar.map fun a=>a.nf.ren (loc [])) [] fun r H'=>K (r.ren (back [] H.length)) (pX [] H (H'.map (B.ren (back [] H.length))))
theorem Rel.rebase {X:Ctx} {E:Es} {ro:RO} {w:World} (h:Rel X E ro w):Rel ⟨w,eG E,ro,gm E⟩ E ro w:=
 ⟨h.own,h.inj,h.apart,h.rd,Ext.refl _,fun _ _ _ h=>.inl h,fun n b g blk hn en hl=>.inr (f0.2 ⟨n,g,blk,hn,en,hl⟩),.refl _,Nat.le_refl _,fun _ _ _=>rfl,rfl,rfl,rfl⟩
theorem Rel.over {X:Ctx} {E E':Es} {ro ro':RO} {w w':World} (h:Rel X E ro w) (k:Rel ⟨w,eG E,ro,gm E⟩ E' ro' w'):Rel X E' ro' w' where
 own:=k.own
 inj:=k.inj
 apart:=k.apart
 rd:=k.rd
 ro0:=h.ro0.trans k.ro0
 rob:=fun b off v hc=>by
  rcases k.rob b off v hc with q | ⟨q | q,q'⟩
  · rcases h.rob b off v q with r | ⟨r,r'⟩
    · exact .inl r
    · exact .inr ⟨r,by rw [(k.ro0 b off v q).2]; exact r'⟩
  · simp only at q; have:=h.sz; exact .inr ⟨.inl (by omega),q'⟩
  · obtain ⟨n,g,blk,hE,hgb,hl⟩:=f0.1 q
    exact .inr ⟨h.par n b g blk hE hgb hl,q'⟩
 par:=fun n b g blk hn en hl=>by
  rcases k.par n b g blk hn en hl with q | q
  · simp only at q; have:=h.sz; exact .inl (by omega)
  · obtain ⟨n',g',blk',hE,hgb,hl'⟩:=f0.1 q
    exact h.par n' b g' blk' hE hgb hl'
 gx:=h.gx.trans k.gx
 sz:=Nat.le_trans h.sz k.sz
 keep:=fun b hb hp=>by
  rw [k.keep b (by have:=h.sz; simp only; omega) (fun hb'=>?_)]
  · exact h.keep b hb hp
  · obtain ⟨n,g,blk,hE,hgb,hl⟩:=f0.1 hb'
    rcases h.par n b g blk hE hgb hl with q | q
    · omega
    · exact hp q
 os:=k.os.trans h.os
 tape:=k.tape.trans h.tape
 output:=k.output.trans h.output
theorem Meets.pubB (h:Meets P f s) (n:Nat):Meets P f (pubB n s):=by
 refine ⟨h.1,fun ar vs E ro w K hl hrel hr hs hG=>?_⟩
 unfold W.pubB at hs
 split at hs
 · rename_i xs T sz hn
   obtain ⟨g,hE⟩:∃ g,E[n]? = some (g,.row xs T sz):=by
    simp only [hp,List.getElem?_map] at hn
    cases hE:E[n]? with
    | none=>rw [hE] at hn; cases hn
    | some y=>rw [hE] at hn; simp at hn; exact ⟨y.1,by rw [<-hn]⟩
   obtain ⟨ro',hext,hfz,hglen,hr'⟩:=hr.pubR hE
   have hcall:=h.2 (ar.map (S.pub n xs)) vs (cN (B.pub n xs) (E.set n (g,.dead))) ro' w K (by simpa using hl) (fun i x v hx hv=>by
    rw [List.getElem?_map] at hx
    cases hi:ar[i]? with
    | none=>rw [hi] at hx; cases hx
    | some y=>
     rw [hi] at hx
     simp only [Option.map_some,aH] at hx
     subst hx
     rw [gM,fC hE]
     exact S.rel_pub hext (cT hE) hglen hfz (hrel i y v hi hv)) hr'.rebase (by rw [iZ,hp_kill]; exact hs) (hG.mono hext)
   refine hcall.mono ?_
   rintro e w' ⟨r,v,E',ro2,rfl,hrv,hR,hrel'⟩
   exact ⟨r,v,E',ro2,rfl,hrv,hR,hr'.over hrel'⟩
 · exact hs.elim
theorem Meets.dropB (h:Meets P f s):Meets P f (dropB s):=by
 refine ⟨h.1,fun ar vs E ro w K hl hrel hr hs hG=>?_⟩
 unfold W.dropB at hs
 have hnd:([]:List Nat).Nodup:=.nil
 have hlt:∀ n ∈ ([]:List Nat),n < E.length:=fun n hn=>by cases hn
 have gxl:∀ (n m:Nat) (g:Gb),loc [] n=some m->(gm E)[n]? = some g->(gm (cN (B.ren (loc [])) (eI E [])))[m]? = some g:=fun n m g h1 h2=>by rw [gM]; exact wC n m g h1 h2
 have hloc:Rel ⟨w,eG (cN (B.ren (loc [])) (eI E [])),ro,gm (cN (B.ren (loc [])) (eI E []))⟩ (cN (B.ren (loc [])) (eI E [])) ro w:=by
  have h0:Rel ⟨w,eG E,ro,[]⟩ E ro w:=⟨hr.own,hr.inj,hr.apart,hr.rd,Ext.refl _,fun _ _ _ h=>.inl h,fun n b g blk hn en hl=>.inr (f0.2 ⟨n,g,blk,hn,en,hl⟩),fun n g hn=>by simp at hn,Nat.le_refl _,fun _ _ _=>rfl,rfl,rfl,rfl⟩
  exact (h0.sel hnd hlt (fun n g hn=>by simp at hn)).here
 have hcall:=h.2 (ar.map fun s=>s.nf.ren (loc [])) vs (cN (B.ren (loc [])) (eI E [])) ro w _ (by simpa using hl) (fun i x v hx hv=>by
  rw [List.getElem?_map] at hx
  cases hi:ar[i]? with
  | none=>rw [hi] at hx; cases hx
  | some y=>
   rw [hi] at hx
   simp only [Option.map_some,aH] at hx
   subst hx
   exact S.rel_ren gxl (S.rel_nf (hrel i y v hi hv))) hloc (by rw [iZ,xC]; exact hs) hG
 refine hcall.mono ?_
 rintro e w' ⟨r,v,E',ro',rfl,hrv,hR,hrel'⟩
 obtain ⟨q1,q2,q3⟩:=hr.back hnd hlt rfl hrel'
 refine ⟨_,v,_,ro',rfl,S.rel_ren q3 hrv,?_,q1⟩
 rw [yW,iZ]
 rw [eX] at hR
 exact hR
def lend1 (s:Spec):Spec:=pubB 0 (dropB s)
theorem Meets.lend1 (h:Meets P f s):Meets P f (lend1 s):=h.dropB.pubB 0
def lend2 (s:Spec):Spec:=pubB 0 (pubB 1 (dropB s))
theorem Meets.lend2 (h:Meets P f s):Meets P f (lend2 s):=(h.dropB.pubB 1).pubB 0
attribute [go_sem ↓] pubB dropB lend1 lend2
end
end Go.W
namespace Go.Proofs.YtgogpogophflhaaGreatDoor
open Go.W
theorem uK {α:Type} {row:α->List C} {l:List α} {n:Nat} {c:α} (h:l[n]? = some c) (p:List C->Prop):(∀ r,(l.map row)[n]? = some r->p r)=p (row c):=by
 rw [List.getElem?_map,h]; simp
theorem aQ {α:Type} {row:α->List C} {l:List α} {n:Nat} {c:α} (h:l[n]? = some c) (p:List C->Prop):(∀ r,(l.map row)[((n:Nat):Int).toNat]? = some r->p r)=p (row c):=by
 rw [Int.toNat_natCast,List.getElem?_map,h]; simp
theorem iQ {α:Type} {row:α->List C} {n:Nat} (h:∀ a,(row a).length=n) (l:List α):(∀ r:List C,r ∈ l.map row->r.length=n)=True:=eq_true fun r hr=>by obtain ⟨x,_,rfl⟩:=List.mem_map.1 hr; exact h x
inductive Ty where
 | mk (k s:Int) (n:ByteArray) (e:List Ty)
instance:Inhabited Ty:=⟨.mk 0 0 ByteArray.empty []⟩
def Ty.k:Ty->Int | .mk k _ _ _=>k
def Ty.s:Ty->Int | .mk _ s _ _=>s
def Ty.n:Ty->ByteArray | .mk _ _ n _=>n
def Ty.e:Ty->List Ty | .mk _ _ _ e=>e
mutual
def aP:Ty->List C
 | .mk k s n e=>[.vl (.int .i64 k),.vl (.int .i64 s),.vl (.string n),.fz (n4 e)]
def n4:List Ty->List (List C)
 | []=>[]
 | t :: r=>aP t :: n4 r
end
theorem aZ:∀ l:List Ty,n4 l=l.map aP
 | []=>rfl
 | t :: r=>by rw [n4,aZ r]; rfl
theorem bM (t:Ty):aP t=[.vl (.int .i64 t.k),.vl (.int .i64 t.s),.vl (.string t.n),.fz (t.e.map aP)]:=by
 cases t with
 | mk k s n e=>rw [aP,aZ]; rfl
mutual
theorem wZ:∀ {a b:Ty},aP a=aP b->a=b
 | .mk k s n e,.mk k' s' n' e',h=>by
  rw [aP,aP] at h
  simp only [List.cons.injEq,C.vl.injEq,Value.int.injEq,Value.string.injEq,C.fz.injEq,true_and,and_true] at h
  obtain ⟨rfl,rfl,rfl,h4⟩:=h
  rw [JG h4]
theorem JG:∀ {a b:List Ty},n4 a=n4 b->a=b
 | [],[],_=>rfl
 | [],_ :: _,h=>by rw [n4,n4] at h; cases h
 | _ :: _,[],h=>by rw [n4,n4] at h; cases h
 | x :: a,y :: b,h=>by
  rw [n4,n4] at h
  obtain ⟨h1,h2⟩:=List.cons.inj h
  rw [wZ h1,JG h2]
end
mutual
def Ty.h:Ty->Nat
 | .mk _ _ _ e=>Ty.hs e + 1
def Ty.hs:List Ty->Nat
 | []=>0
 | t :: r=>max t.h (Ty.hs r)
end
theorem Ty.hs_mem:∀ {l:List Ty} {t:Ty},t ∈ l->t.h<=Ty.hs l
 | x :: l,t,h=>by
  rw [Ty.hs]
  rcases List.mem_cons.1 h with rfl | h
  · omega
  · have:=Ty.hs_mem h; omega
structure Fl where
 num:Int
 nm:ByteArray
 ty:Ty
 opt:Bool
instance:Inhabited Fl:=⟨⟨0,ByteArray.empty,default,false⟩⟩
def bH (f:Fl):List C:=[.vl (.int .i64 f.num),.vl (.string f.nm),.vl (.int .i64 f.ty.k),.vl (.int .i64 f.ty.s),.vl (.string f.ty.n),.fz (f.ty.e.map aP),.vl (.bool f.opt)]
structure St where
 nm:ByteArray
 fs:List Fl
instance:Inhabited St:=⟨⟨ByteArray.empty,[]⟩⟩
def aL (s:St):List C:=[.vl (.string s.nm),.fz (s.fs.map bH)]
abbrev eD (n:Int):List C:=[.vl (.int .i64 n)]
abbrev bQ (b:ByteArray):List C:=[.vl (.string b)]
structure En where
 nm:ByteArray
 ns:List ByteArray
 vs:List Int
instance:Inhabited En:=⟨⟨ByteArray.empty,[],[]⟩⟩
def aO (e:En):List C:=[.vl (.string e.nm),.fz (e.ns.map bQ),.fz (e.vs.map eD)]
structure Sc where
 ver:Int
 es:List En
 ss:List St
instance:Inhabited Sc:=⟨⟨0,[],[]⟩⟩
def aD (s:Sc):List C:=[.vl (.int .i64 s.ver),.fz (s.es.map aO),.fz (s.ss.map aL)]
theorem oQ {α β:Type} {f:α->β} (hf:∀ {a b},f a=f b->a=b):∀ {l m:List α},l.map f=m.map f->l=m
 | [],[],_=>rfl
 | [],_ :: _,h=>by cases h
 | _ :: _,[],h=>by cases h
 | x :: l,y :: m,h=>by
  simp only [List.map_cons,List.cons.injEq] at h
  rw [hf h.1,oQ hf h.2]
theorem CL {a b:Int} (h:eD a=eD b):a=b:=by simpa using h
theorem CG {a b:ByteArray} (h:bQ a=bQ b):a=b:=by simpa using h
theorem CZ {a b:Fl} (h:bH a=bH b):a=b:=by
 obtain ⟨a1,a2,a3,a4⟩:=a
 obtain ⟨b1,b2,b3,b4⟩:=b
 simp only [bH,List.cons.injEq,C.vl.injEq,Value.int.injEq,Value.string.injEq,Value.bool.injEq,C.fz.injEq,true_and,and_true] at h
 obtain ⟨rfl,rfl,h3,h4,h5,h6,rfl⟩:=h
 have:a3=b3:=wZ (by rw [bM,bM,h3,h4,h5,h6])
 rw [this]
theorem CV {a b:St} (h:aL a=aL b):a=b:=by
 obtain ⟨a1,a2⟩:=a
 obtain ⟨b1,b2⟩:=b
 simp only [aL,List.cons.injEq,C.vl.injEq,Value.string.injEq,C.fz.injEq,and_true] at h
 obtain ⟨rfl,h2⟩:=h
 rw [oQ CZ h2]
theorem CW {a b:En} (h:aO a=aO b):a=b:=by
 obtain ⟨a1,a2,a3⟩:=a
 obtain ⟨b1,b2,b3⟩:=b
 simp only [aO,List.cons.injEq,C.vl.injEq,Value.string.injEq,C.fz.injEq,and_true] at h
 obtain ⟨rfl,h2,h3⟩:=h
 rw [oQ CG h2,oQ CL h3]
theorem X5 {a b:Sc} (h:aD a=aD b):a=b:=by
 obtain ⟨a1,a2,a3⟩:=a
 obtain ⟨b1,b2,b3⟩:=b
 simp only [aD,List.cons.injEq,C.vl.injEq,Value.int.injEq,C.fz.injEq,true_and,and_true] at h
 obtain ⟨rfl,h2,h3⟩:=h
 rw [oQ CW h2,oQ CV h3]
noncomputable def xF {α β:Type} [Inhabited α] (f:α->β) (b:β):α:=Classical.epsilon fun a=>f a=b
theorem nY {α β:Type} [Inhabited α] {f:α->β} (hf:∀ {a b},f a=f b->a=b) (a:α):xF f (f a)=a:=hf (Classical.epsilon_spec (p:=fun x=>f x=f a) ⟨a,rfl⟩)
theorem oP {α β:Type} [Inhabited α] {f:α->β} (hf:∀ {a b},f a=f b->a=b) (l:List α):(l.map f).map (xF f)=l:=by
 rw [List.map_map,show (xF f ∘ f)=id from funext fun a=>nY hf a,List.map_id]
noncomputable def C.ty:=xF aP
noncomputable def C.fl:=xF bH
noncomputable def C.st:=xF aL
noncomputable def C.en:=xF aO
noncomputable def C.sc:=xF aD
noncomputable def C.bs:=xF bQ
noncomputable def C.it:=xF eD
@[go_sem] theorem jS (t:Ty):C.ty (aP t)=t:=nY wZ t
@[go_sem] theorem aQJ (t:Fl):C.fl (bH t)=t:=nY CZ t
@[go_sem] theorem PO (t:St):C.st (aL t)=t:=nY CV t
@[go_sem] theorem HM (t:En):C.en (aO t)=t:=nY CW t
@[go_sem] theorem f6 (t:Sc):C.sc (aD t)=t:=nY X5 t
@[go_sem] theorem aQT (t:ByteArray):C.bs (bQ t)=t:=nY CG t
@[go_sem] theorem aSG (t:Int):C.it (eD t)=t:=nY CL t
@[go_sem] theorem aQ6 (l:List Ty):(l.map aP).map C.ty=l:=oP wZ l
@[go_sem] theorem aQY (l:List Fl):(l.map bH).map C.fl=l:=oP CZ l
@[go_sem] theorem aRF (l:List St):(l.map aL).map C.st=l:=oP CV l
@[go_sem] theorem aRC (l:List En):(l.map aO).map C.en=l:=oP CW l
@[go_sem] theorem aST (l:List ByteArray):(l.map bQ).map C.bs=l:=oP CG l
@[go_sem] theorem z7 (l:List Int):(l.map eD).map C.it=l:=oP CL l
theorem dF (t:Ty):(aP t).length=4:=by rw [bM]; rfl
theorem MD (t:Fl):(bH t).length=7:=rfl
theorem XR (t:St):(aL t).length=2:=rfl
theorem Y4 (t:En):(aO t).length=3:=rfl
theorem BG {a b:ByteArray} (h:bl a=bl b):a=b:=by rw [<-nA a,<-nA b,h]
theorem dO (a b:ByteArray):(bl a == bl b)=decide (a=b):=by
 rw [Bool.eq_iff_iff,beq_iff_eq,decide_eq_true_eq]
 exact ⟨BG,fun h=>by rw [h]⟩
def dS (n:Int):Prop:=-9223372036854775808<=n/\n<=9223372036854775807
inductive TyOk:Ty->Prop
 | mk {k s:Int} {n:ByteArray} {e:List Ty}:dS k->dS s->n.size<=9223372036854775807->e.length<=9223372036854775807->(∀ t ∈ e,TyOk t)->TyOk (.mk k s n e)
theorem TyOk.len {t:Ty} (h:TyOk t):t.e.length<=9223372036854775807:=by cases h; assumption
theorem TyOk.k {t:Ty} (h:TyOk t):dS t.k:=by cases h; assumption
theorem TyOk.s {t:Ty} (h:TyOk t):dS t.s:=by cases h; assumption
theorem TyOk.n {t:Ty} (h:TyOk t):t.n.size<=9223372036854775807:=by cases h; assumption
theorem TyOk.e {t:Ty} (h:TyOk t):∀ u ∈ t.e,TyOk u:=by cases h; assumption
structure Fl.ok (f:Fl):Prop where
 num:dS f.num
 nm:f.nm.size<=9223372036854775807
 ty:TyOk f.ty
structure St.ok (s:St):Prop where
 nm:s.nm.size<=9223372036854775807
 len:s.fs.length<=9223372036854775807
 fs:∀ f ∈ s.fs,f.ok
structure En.ok (e:En):Prop where
 nm:e.nm.size<=9223372036854775807
 ln:e.ns.length<=9223372036854775807
 lv:e.vs.length<=9223372036854775807
 ns:∀ n ∈ e.ns,n.size<=9223372036854775807
 vs:∀ n ∈ e.vs,dS n
structure Sc.ok (s:Sc):Prop where
 ver:dS s.ver
 le:s.es.length<=9223372036854775807
 ls:s.ss.length<=9223372036854775807
 es:∀ e ∈ s.es,e.ok
 ss:∀ t ∈ s.ss,t.ok
def fZ (r:List C):Prop:=∃ t,r=aP t/\TyOk t
def ON (r:List C):Prop:=∃ s:St,r=aL s/\s.ok
def yX (r:List C):Prop:=∃ e:En,r=aO e/\e.ok
def qS (r:List C):Prop:=∃ s:Sc,r=aD s/\s.ok
theorem fK {t:Ty} (h:TyOk t):fZ (aP t):=⟨t,rfl,h⟩
theorem KJ {t:St} (h:t.ok):ON (aL t):=⟨t,rfl,h⟩
theorem CO {t:En} (h:t.ok):yX (aO t):=⟨t,rfl,h⟩
theorem CC {t:Sc} (h:t.ok):qS (aD t):=⟨t,rfl,h⟩
def MW (p:List C->Prop):List S->Prop:=fun av=>match av with
 | [.va (.gs r)]=>p r
 | _=>False
theorem fT {p:List C->Prop} {av:List S} (h:MW p av):∃ r,av=[.va (.gs r)]/\p r:=by
 unfold MW at h
 split at h
 · exact ⟨_,rfl,h⟩
 · exact h.elim
def aFS {α:Type} (d:List C->α) (f:α->A):List S->A:=fun av=>match av with
 | [.va (.gs r)]=>f (d r)
 | _=>.gs []
attribute [go_sem] MW aFS
def fN (l:List UInt8):Bool:=bX l && match l with | c :: _=>decide (65<=(c.toNat:Int)) && decide ((c.toNat:Int)<=90) | []=>false
theorem D6:Meets Tryz.prog 73 (sA fun l=>.bool (fN l)).sp:=by
 refine aG Tryz.func73 aLZ 1 (by rw [Tryz.ntmps73]; decide) (aI wN (aB _)) nW ?_
 rintro xs H K ⟨⟨h,rfl⟩,hK⟩
 obtain ⟨s,rfl⟩:=iO h
 have hK':K (.va (.c1 (.vl (.bool (fN (bl s)))))) []:=hK
 clear hK h
 unfold fN at hK'
 cases hn:bX (bl s) with
 | false=>
  rw [hn] at hK'
  simp -dsimp only [go_sem,SV,UB,hn]
  exact .done hK'
 | true=>
  cases hl:bl s with
  | nil=>rw [hl] at hn; cases hn
  | cons c r=>
   rw [hl] at hn hK'
   rw [hn] at hK'
   simp -dsimp only [go_sem,SV,UB,hl,hn]
   refine ⟨by omega,fun d hd=>⟨fun _=>by omega,fun e he=>?_⟩⟩
   subst hd
   cases hc:decide (65<=(c.toNat:Int)) with
   | false=>simp only [hc,Bool.true_and,Bool.false_and] at hK'; exact .done hK'
   | true=>
    obtain rfl:=he hc
    simp only [hc,Bool.true_and] at hK'; exact .done hK'
def tB (rs:List (List C)):Prop:=∃ l:List ByteArray,rs=l.map bQ/\l.length<=9223372036854775807
theorem oO {l:List ByteArray} (h:l.length<=9223372036854775807):tB (l.map bQ):=⟨l,rfl,h⟩
def FI:List S->Prop:=fun av=>match av with
 | [.va (.c1 (.fz rs)),.va (.c1 (.vl (.string _)))]=>tB rs
 | _=>False
theorem oD {av:List S} (h:FI av):∃ (l:List ByteArray) (x:ByteArray),av=[.va (.c1 (.fz (l.map bQ))),tS x]/\l.length<=9223372036854775807:=by
 unfold FI at h
 split at h
 · obtain ⟨l,rfl,h⟩:=h; exact ⟨l,_,rfl,h⟩
 · exact h.elim
noncomputable def WZ (f:List ByteArray->ByteArray->Value):List S->A:=fun av=>match av with
 | [.va (.c1 (.fz rs)),.va (.c1 (.vl (.string x)))]=>.c1 (.vl (f (rs.map C.bs) x))
 | _=>.gs []
noncomputable def B9 (f:List ByteArray->ByteArray->Value):Fun:=⟨FI,WZ f,fun av h=>by obtain ⟨l,x,rfl,_⟩:=oD h; trivial⟩
theorem JH {f}:∀ av H K,(B9 f).sp av H K->av.length=2:=fun av H K h=>by obtain ⟨l,x,rfl,_⟩:=oD h.1.1; rfl
attribute [go_sem] B9 FI WZ
def tU:List ByteArray->ByteArray->Nat->Int
 | [],_,_=>-1
 | y :: l,x,i=>bif decide (x=y) then (i:Int) else tU l x (i + 1)
def cO (l:List ByteArray) (x:ByteArray):Bool:=l.any fun y=>decide (x=y)
theorem rF (l:List ByteArray) (x:ByteArray):cO l x=true ↔ x ∈ l:=by
 unfold cO; rw [List.any_eq_true]
 exact ⟨fun ⟨y,hy,h⟩=>by rw [of_decide_eq_true h]; exact hy,fun h=>⟨x,h,by simp⟩⟩
theorem LO:∀ (l:List ByteArray) (x:ByteArray) (i:Nat),decide (0<=tU l x i)=cO l x
 | [],_,_=>by simp [tU,cO]
 | y :: l,x,i=>by
  simp only [tU]
  by_cases h:x=y
  · simp [h,cO]
  · have:=LO l x (i + 1)
    simp [h,cO] at this ⊢; exact this
theorem ZL:Meets Tryz.prog 122 (B9 fun l x=>.int .i64 (tU l x 0)).sp:=by
 refine aG Tryz.func122 aJH 2 (by rw [Tryz.ntmps122]; decide) (aB _) JH ?_
 rintro av H K ⟨⟨h,rfl⟩,hK⟩
 obtain ⟨l,x,rfl,hl⟩:=oD h
 have hK:K (iS .i64 (tU l x 0)) []:=by
  have:(B9 fun l x=>.int .i64 (tU l x 0)).val [.va (.c1 (.fz (l.map bQ))),tS x]=iA .i64 (tU l x 0):=by simp -dsimp only [go_sem]
  rw [this] at hK; exact hK
 simp -dsimp only [go_sem,VG,UD]
 refine aR (α:=Nat) (fun i=>[(0,.va (.c1 (.fz (l.map bQ)))),(1,tS x),(7,iS .i64 l.length),(8,iS .i64 i)]) (fun _=>[])
  (fun i=>i<=l.length/\tU (l.drop i) x i=tU l x 0) (fun i=>l.length - i) 0 0 ⟨Nat.zero_le _,rfl⟩ ?_ ?_ ?_
 · simp [go_sem]
 · simp [go_sem]
 rintro i ⟨hi,ho⟩
 rcases bL i l.length with hlt | hge
 · have hg:decide ((i:Int) < (l.length:Int))=true:=by simp; omega
   have hx:l[i]? = some l[i]:=bB hlt
   have q1:=uK (row:=bQ) hx
   have q2:=aQ (row:=bQ) hx
   rw [List.drop_eq_getElem_cons hlt] at ho
   simp only [tU] at ho
   generalize l[i]=y at *
   cases hc:decide (x=y) with
   | true=>
    rw [hc,aK] at ho
    simp -dsimp only [go_sem,hg,↓q2,hc,dO]
    and_intros
    all_goals first
     | omega
     | exact .done (by rw [ho]; exact hK)
   | false=>
    rw [hc,aF] at ho
    simp -dsimp only [go_sem,hg,↓q2,hc,dO]
    and_intros
    all_goals first
     | omega
     | skip
    refine aC (i + 1) 0 ⟨by omega,ho⟩ (by omega) ?_ ?_
    · simp [go_sem]
    · simp [go_sem]
 · have hg:decide ((i:Int) < (l.length:Int))=false:=by simp; omega
   have:l.drop i=[]:=List.drop_eq_nil_iff.2 (by omega)
   rw [this] at ho
   simp -dsimp only [go_sem,hg]
   exact .done (by rw [show (-1:Int)=tU l x 0 from ho]; exact hK)
theorem A8:Meets Tryz.prog 111 (B9 fun l x=>.bool (cO l x)).sp:=by
 refine aG Tryz.func111 aJE 2 (by rw [Tryz.ntmps111]; decide) (aI ZL (aB _)) JH ?_
 rintro av H K ⟨⟨h,rfl⟩,hK⟩
 obtain ⟨l,x,rfl,hl⟩:=oD h
 have hK:K (bS (cO l x)) []:=by
  have:(B9 fun l x=>.bool (cO l x)).val [.va (.c1 (.fz (l.map bQ))),tS x]=bA (cO l x):=by simp -dsimp only [go_sem]
  rw [this] at hK; exact hK
 simp -dsimp only [go_sem,VE,UM,oO hl,LO]
 exact .done hK
theorem iL {α:Type} (row:α->List C) (l:List α) (n:Nat):(l.map row).take n=(l.take n).map row:=List.map_take.symm
theorem pO {α:Type} (l:List α) (n:Nat):(l.take n).length<=l.length:=by rw [List.length_take]; omega
theorem mY (b:ByteArray):(bQ b).length=1:=rfl
noncomputable def p7 {α:Type} (p:List C->Prop) (d:List C->α) (f:α->Value):Fun:=⟨MW p,aFS d fun a=>.c1 (.vl (f a)),fun av h=>by obtain ⟨r,rfl,_⟩:=fT h; trivial⟩
theorem kK {α:Type} {p:List C->Prop} {d:List C->α} {f:α->Value}:∀ av H K,(p7 p d f).sp av H K->av.length=1:=fun av H K h=>by obtain ⟨r,rfl,_⟩:=fT h.1.1; rfl
attribute [go_sem] p7
theorem dJ {α:Type} {l:List α} {i:Nat} {x:α} (hx:l[i]? = some x) (p:α->Bool):(l.drop i).any p=(p x || (l.drop (i + 1)).any p):=by
 obtain ⟨h,rfl⟩:=bC.1 hx
 rw [List.drop_eq_getElem_cons h,List.any_cons]
theorem fU {α:Type} {l:List α} (p:α->Bool):(l.drop l.length).any p=false:=by rw [List.drop_length]; rfl
def c8 (s:Sc):Bool:=decide (16 < s.es.length) || decide (16 < s.es.length + s.ss.length) || s.es.any (fun e=>decide (16 < e.ns.length)) || s.ss.any (fun t=>decide (16 < t.fs.length))
theorem aBZ:Meets Tryz.prog 72 (p7 qS C.sc fun s=>.bool (c8 s)).sp:=by
 refine aG Tryz.func72 aNQ 1 (by rw [Tryz.ntmps72]; decide) (aB _) kK ?_
 rintro av H K ⟨⟨h,rfl⟩,hK⟩
 obtain ⟨_,rfl,s,rfl,hs⟩:=fT h
 have hK:K (bS (c8 s)) []:=by
  have:(p7 qS C.sc fun s=>.bool (c8 s)).val [.va (.gs (aD s))]=bA (c8 s):=by simp -dsimp only [go_sem]
  rw [this] at hK; exact hK
 obtain ⟨hv,hle,hls,hes,hss⟩:=hs
 simp -dsimp only [go_sem,aD,Z0,aE7]
 refine ⟨fun _=>by omega,fun h1=>?_,fun h1=>?_⟩
 · have:c8 s=true:=by
    simp only [Bool.or_eq_true,decide_eq_true_eq] at h1
    unfold c8
    rcases h1 with h1 | h1
    · simp [show 16 < s.es.length by omega]
    · simp [show 16 < s.es.length + s.ss.length by omega]
   rw [this] at hK
   exact .z ((by simpa [go_sem] using hK))
 simp only [Bool.or_eq_false_iff,decide_eq_false_iff_not] at h1
 have hL:c8 s=(s.es.any (fun e=>decide (16 < e.ns.length)) || s.ss.any (fun t=>decide (16 < t.fs.length))):=by
  unfold c8; rw [decide_eq_false (by omega),decide_eq_false (by omega)]; rfl
 refine aR (α:=Nat) (fun i=>[(1,.va (.c1 (.pt 0 0))),(22,.va (.c1 (.fz (s.es.map aO)))),(23,iS .i64 s.es.length),(24,iS .i64 i)]) (fun _=>[.cells (aD s) 25])
  (fun i=>i<=s.es.length/\(s.es.drop i).any (fun e=>decide (16 < e.ns.length))=s.es.any (fun e=>decide (16 < e.ns.length))) (fun i=>s.es.length - i) 0 1 ⟨Nat.zero_le _,rfl⟩ ?_ ?_ ?_
 · simp [go_sem]
 · simp [go_sem,aD]
 rintro i ⟨hi,ho⟩
 rcases bL i s.es.length with hlt | hge
 · have hg:decide ((i:Int) < (s.es.length:Int))=true:=by simp; omega
   obtain ⟨e,hx⟩:∃ e,s.es[i]? = some e:=⟨_,bB hlt⟩
   have q2:=aQ (row:=aO) hx
   rw [dJ hx] at ho
   simp -dsimp only [go_sem,hg,↓q2,aO,aD]
   and_intros
   all_goals first
    | omega
    | skip
   · intro hc
     have hc':decide (16 < e.ns.length)=true:=by simp at hc; simp; omega
     have:c8 s=true:=by simp only [hL,<-ho,hc',Bool.true_or]
     rw [this] at hK
     exact .z ((by simpa [go_sem] using hK))
   · intro hc
     refine ⟨by omega,aC (i + 1) 1 ⟨by omega,?_⟩ (by omega) ?_ ?_⟩
     · have hc':decide (16 < e.ns.length)=false:=by simp at hc; simp; omega
       rw [<-ho,hc',Bool.false_or]
     · simp [go_sem]
     · simp [go_sem,aD]
 · have hg:decide ((i:Int) < (s.es.length:Int))=false:=by simp; omega
   obtain rfl:i=s.es.length:=by omega
   rw [fU] at ho
   rw [<-ho,Bool.false_or] at hL
   simp -dsimp only [go_sem,hg,aD]
   refine aR (α:=Nat) (fun i=>[(1,.va (.c1 (.pt 0 0))),(34,.va (.c1 (.fz (s.ss.map aL)))),(35,iS .i64 s.ss.length),(36,iS .i64 i)]) (fun _=>[.cells (aD s) 25])
    (fun i=>i<=s.ss.length/\(s.ss.drop i).any (fun e=>decide (16 < e.fs.length))=s.ss.any (fun e=>decide (16 < e.fs.length))) (fun i=>s.ss.length - i) 0 1 ⟨Nat.zero_le _,rfl⟩ ?_ ?_ ?_
   · simp [go_sem]
   · simp [go_sem,aD]
   clear hi ho hge hg
   rintro i ⟨hi,ho⟩
   rcases bL i s.ss.length with hlt | hge
   · have hg:decide ((i:Int) < (s.ss.length:Int))=true:=by simp; omega
     obtain ⟨e,hx⟩:∃ e,s.ss[i]? = some e:=⟨_,bB hlt⟩
     have q2:=aQ (row:=aL) hx
     rw [dJ hx] at ho
     simp -dsimp only [go_sem,hg,↓q2,aL,aD]
     and_intros
     all_goals first
      | omega
      | skip
     · intro hc
       have hc':decide (16 < e.fs.length)=true:=by simp at hc; simp; omega
       have:c8 s=true:=by simp only [hL,<-ho,hc',Bool.true_or]
       rw [this] at hK
       exact .z ((by simpa [go_sem] using hK))
     · intro hc
       refine ⟨by omega,aC (i + 1) 1 ⟨by omega,?_⟩ (by omega) ?_ ?_⟩
       · have hc':decide (16 < e.fs.length)=false:=by simp at hc; simp; omega
         rw [<-ho,hc',Bool.false_or]
       · simp [go_sem]
       · simp [go_sem,aD]
   · have hg:decide ((i:Int) < (s.ss.length:Int))=false:=by simp; omega
     obtain rfl:i=s.ss.length:=by omega
     rw [fU] at ho
     simp -dsimp only [go_sem,hg,aD]
     rw [hL,<-ho] at hK
     exact .z ((by simpa [go_sem] using hK))
def fE (f:Nat->Int):Nat->Nat->Int
 | 0,_=>0
 | n + 1,i=>bif f i == 0 then fE f n (i + 1) else f i
theorem LA {f:Nat->Int} {m i:Nat} (h:i < m):fE f (m - i) i=bif f i == 0 then fE f (m - (i + 1)) (i + 1) else f i:=by
 obtain ⟨k,rfl⟩:∃ k,m=i + k + 1:=⟨m - i - 1,by omega⟩
 rw [show i + k + 1 - i=k + 1 by omega,show i + k + 1 - (i + 1)=k by omega]; rfl
theorem n9 {f:Nat->Int} {m i:Nat} (h:i < m) (h0:f i=0):fE f (m - i) i=fE f (m - (i + 1)) (i + 1):=by rw [LA h,h0]; rfl
theorem mB {f:Nat->Int} {m i:Nat} (h:i < m) (h0:f i ≠ 0):fE f (m - i) i=f i:=by
 rw [LA h,beq_eq_false_iff_ne.2 h0]; rfl
theorem nM (f:Nat->Int) (m:Nat):fE f (m - m) m=0:=by rw [Nat.sub_self]; rfl
def gU (e:En) (k:Nat):Int:=match e.ns[k]?,e.vs[k]? with
 | some nm,some n=>bif !(bX (bl nm)) then 5 else bif cO (e.ns.take k) nm then 7 else bif decide (n < 0) || decide (127 < n) then 4 else
  bif (decide ((k:Int)=0) && decide (n ≠ 0)) || (decide (0 < (k:Int)) && match e.vs[k - 1]? with | some m=>decide (n<=m) | none=>false) then 2 else 0
 | _,_=>0
def nJ (e:En):Int:=bif decide (e.ns.length=0) || decide (e.ns.length ≠ e.vs.length) then 2 else fE (gU e) e.ns.length 0
theorem NC:Meets Tryz.prog 74 (p7 yX C.en fun e=>.int .i64 (nJ e)).sp:=by
 refine aG Tryz.func74 aLM 1 (by rw [Tryz.ntmps74]; decide) (aI wN (aI A8 (aB _))) kK ?_
 rintro av H K ⟨⟨h,rfl⟩,hK⟩
 obtain ⟨_,rfl,e,rfl,he⟩:=fT h
 have hK:K (iS .i64 (nJ e)) []:=by
  have:(p7 yX C.en fun e=>.int .i64 (nJ e)).val [.va (.gs (aO e))]=iA .i64 (nJ e):=by simp -dsimp only [go_sem]
  rw [this] at hK; exact hK
 clear h
 obtain ⟨_,hln,hlv,_,_⟩:=he
 simp -dsimp only [go_sem,aO,aAJ,aGA]
 refine ⟨fun h1=>?_,fun h1=>?_⟩
 · have:nJ e=2:=by
    unfold nJ
    have:(decide (e.ns.length=0) || decide (e.ns.length ≠ e.vs.length))=true:=by
     simp only [Bool.or_eq_true,beq_iff_eq,bne_iff_ne,decide_eq_true_eq] at h1 ⊢; omega
    rw [this]; rfl
   rw [this] at hK
   exact .z ((by simpa [go_sem] using hK))
 simp only [Bool.or_eq_false_iff,beq_eq_false_iff_ne,bne_eq_false_iff_eq,ne_eq] at h1
 have hl:e.ns.length=e.vs.length:=by omega
 have hF:nJ e=fE (gU e) (e.ns.length - 0) 0:=by
  unfold nJ; rw [decide_eq_false (by omega),decide_eq_false (by omega)]; rfl
 refine aR (α:=Nat) (fun i=>[(1,.va (.c1 (.pt 0 0))),(20,.va (.c1 (.fz (e.ns.map bQ)))),(21,iS .i64 e.ns.length),(22,iS .i64 i)]) (fun _=>[.cells (aO e) 62])
  (fun i=>i<=e.ns.length/\fE (gU e) (e.ns.length - i) i=fE (gU e) (e.ns.length - 0) 0) (fun i=>e.ns.length - i) 0 1 ⟨Nat.zero_le _,rfl⟩ ?_ ?_ ?_
 · simp [go_sem]
 · simp [go_sem,aO]
 rintro i ⟨hi,ho⟩
 rcases bL i e.ns.length with hlt | hge
 · have hg:decide ((i:Int) < (e.ns.length:Int))=true:=by simp; omega
   obtain ⟨nm,hx⟩:∃ nm,e.ns[i]? = some nm:=⟨_,bB hlt⟩
   obtain ⟨n,hy⟩:∃ nm,e.vs[i]? = some nm:=⟨_,bB (by omega)⟩
   have q1:=aQ (row:=bQ) hx
   have q2:=aQ (row:=eD) hy
   have ht:tB ((e.ns.take i).map bQ):=oO (Nat.le_trans (pO _ _) hln)
   have hA:gU e i=bif !(bX (bl nm)) then (5:Int) else bif cO (e.ns.take i) nm then 7 else bif decide (n < 0) || decide (127 < n) then 4 else
    bif (decide ((i:Int)=0) && decide (n ≠ 0)) || (decide (0 < (i:Int)) && match e.vs[i - 1]? with | some m=>decide (n<=m) | none=>false) then 2 else 0:=by
    unfold gU; rw [hx,hy]
   have fin:∀ x:Int,gU e i=x->x ≠ 0->W.Fin 0 K (iS .i64 x) [.cells (aO e) 62]:=fun x h1 h2=>by
    rw [hF,<-ho,mB hlt (by rw [h1]; exact h2),h1] at hK
    exact .z ((by simpa [go_sem] using hK))
   have dG:gU e i=0->fE (gU e) (e.ns.length - (i + 1)) (i + 1)=fE (gU e) (e.ns.length - 0) 0:=fun h1=>by rw [<-ho,n9 hlt h1]
   rcases Nat.eq_zero_or_pos i with h0 | h0
   · subst h0
     have g1:decide ((0:Int) < 0)=false:=rfl
     have g2:((0:Int) == 0)=true:=rfl
     have hb0:cO [] nm=false:=rfl
     have ht0:tB []:=⟨[],rfl,Nat.zero_le _⟩
     rw [Int.natCast_zero] at *
     cases hc1:bX (bl nm) with
     | false=>
      simp -dsimp only [go_sem,hg,↓q1,↓q2,aO,hc1]
      exact ⟨by omega,by omega,fin 5 (by rw [hA,hc1]; rfl) (by decide)⟩
     | true=>
      cases hc3:(decide (n < 0) || decide (127 < n)) with
      | true=>
       simp -dsimp only [go_sem,hg,↓q1,↓q2,aO,ht0,hb0,iL,iQ mY,hc1,hc3]
       exact ⟨by omega,by omega,by omega,fin 4 (by rw [hA,hc1,hc3]; rfl) (by decide)⟩
      | false=>
       cases hn:(n != 0) with
       | true=>
        simp -dsimp only [go_sem,hg,↓q1,↓q2,aO,ht0,hb0,iL,iQ mY,Bool.false_and,g1,g2,hc1,hc3,hn]
        exact ⟨by omega,by omega,by omega,fin 2 (by rw [hA,hc1,hc3]; simp at hn; simp [hn,cO]) (by decide)⟩
       | false=>
        simp -dsimp only [go_sem,hg,↓q1,↓q2,aO,ht0,hb0,iL,iQ mY,Bool.true_and,g1,g2,hc1,hc3,hn]
        refine ⟨by omega,by omega,by omega,by omega,aC 1 1 ⟨by omega,dG ?_⟩ (by omega) ?_ ?_⟩
        · rw [hA,hc1,hc3]; simp at hn; simp [hn,cO]
        · simp [go_sem]
        · simp [go_sem,aO]
   · have g1:decide (0 < (i:Int))=true:=by simp; omega
     have g2:((i:Int) == 0)=false:=by simp; omega
     obtain ⟨m,hm⟩:∃ m,e.vs[i - 1]? = some m:=⟨_,bB (by omega)⟩
     have q4:((i:Int) - 1).toNat=i - 1:=by omega
     cases hc1:bX (bl nm) with
     | false=>
      simp -dsimp only [go_sem,hg,↓q1,↓q2,aO,hc1]
      exact ⟨by omega,by omega,fin 5 (by rw [hA,hc1]; rfl) (by decide)⟩
     | true=>
      cases hc2:cO (e.ns.take i) nm with
      | true=>
       simp -dsimp only [go_sem,hg,↓q1,↓q2,aO,ht,iL,iQ mY,hc1,hc2]
       exact ⟨by omega,by omega,by omega,fin 7 (by rw [hA,hc1,hc2]; rfl) (by decide)⟩
      | false=>
       cases hc3:(decide (n < 0) || decide (127 < n)) with
       | true=>
        simp -dsimp only [go_sem,hg,↓q1,↓q2,aO,ht,iL,iQ mY,hc1,hc2,hc3]
        exact ⟨by omega,by omega,by omega,fin 4 (by rw [hA,hc1,hc2,hc3]; rfl) (by decide)⟩
       | false=>
        simp -dsimp only [go_sem,hg,↓q1,↓q2,aO,ht,iL,iQ mY,Bool.true_and,g1,g2,hc1,hc2,hc3,q4]
        refine ⟨by omega,by omega,by omega,by omega,by omega,fun x hx'=>?_⟩
        rw [hm] at hx'
        obtain rfl:=bK hx'
        refine ⟨fun hn=>fin 2 (by rw [hA,hc1,hc2,hc3,hm,g1]; simp at hn; simp [hn]) (by decide),fun hn=>⟨by omega,aC (i + 1) 1 ⟨by omega,dG ?_⟩ (by omega) ?_ ?_⟩⟩
        · have hi0:i ≠ 0:=by omega
          rw [hA,hc1,hc2,hc3,hm,g1]; simp at hn; simp [hi0,show ¬ n<=m by omega]
        · simp [go_sem]
        · simp [go_sem,aO]
 · have hg:decide ((i:Int) < (e.ns.length:Int))=false:=by simp; omega
   obtain rfl:i=e.ns.length:=by omega
   rw [nM] at ho
   simp -dsimp only [go_sem,hg,aO]
   rw [hF,<-ho] at hK
   exact .z ((by simpa [go_sem] using hK))
def fF (ss:List St) (n:ByteArray):Bool:=ss.any fun s=>decide (s.nm=n)
def dT (es:List En) (n:ByteArray):Bool:=es.any fun s=>decide (s.nm=n)
def jI (s:Sc) (i:Nat) (n:ByteArray):Int:=bif !(fN (bl n)) then 5 else bif dT s.es n then 7 else bif fF (s.ss.take i) n then 7 else 0
def E9:List S->Prop:=fun av=>match av with
 | [.va (.gs r),.va (.c1 (.vl (.int .i64 i))),.va (.c1 (.vl (.string _)))]=>qS r/\0<=i/\i<=((C.sc r).ss.length:Int)
 | _=>False
theorem sR {av:List S} (h:E9 av):∃ (s:Sc) (i:Nat) (n:ByteArray),av=[.va (.gs (aD s)),iS .i64 i,tS n]/\s.ok/\i<=s.ss.length:=by
 unfold E9 at h
 split at h
 · obtain ⟨⟨s,rfl,hs⟩,h1,h2⟩:=h
   rename_i i n
   rw [f6] at h2
   exact ⟨s,i.toNat,n,by rw [Int.toNat_of_nonneg h1],hs,by omega⟩
 · exact h.elim
noncomputable def UR:List S->A:=fun av=>match av with
 | [.va (.gs r),.va (.c1 (.vl (.int .i64 i))),.va (.c1 (.vl (.string n)))]=>iA .i64 (jI (C.sc r) i.toNat n)
 | _=>.gs []
noncomputable def cnFn:Fun:=⟨E9,UR,fun av h=>by obtain ⟨s,i,n,rfl,_⟩:=sR h; trivial⟩
theorem TS:∀ av H K,cnFn.sp av H K->av.length=3:=fun av H K h=>by obtain ⟨s,i,n,rfl,_⟩:=sR h.1.1; rfl
attribute [go_sem] cnFn E9 UR
theorem MY:Meets Tryz.prog 76 cnFn.sp:=by
 refine aG Tryz.func76 aML 3 (by rw [Tryz.ntmps76]; decide) (aI D6 (aB _)) TS ?_
 rintro av H K ⟨⟨h,rfl⟩,hK⟩
 obtain ⟨s,j,n,rfl,hs,hj⟩:=sR h
 have hK:K (iS .i64 (jI s j n)) []:=by
  have:cnFn.val [.va (.gs (aD s)),iS .i64 j,tS n]=iA .i64 (jI s j n):=by simp -dsimp only [go_sem,Int.toNat_natCast]
  rw [this] at hK; exact hK
 clear h
 obtain ⟨hv,hle,hls,hes,hss⟩:=hs
 have fin:∀ x:Int,jI s j n=x->W.Fin 0 K (iS .i64 x) [.cells (aD s) 25]:=fun x h1=>by
  rw [h1] at hK
  exact .z ((by simpa [go_sem] using hK))
 have fin2:∀ (x:Int) (b:B),jI s j n=x->W.Fin 0 K (iS .i64 x) [.cells (aD s) 25,b]:=fun x b h1=>by
  rw [h1] at hK
  exact .z ((by simpa [go_sem] using hK))
 simp -dsimp only [go_sem,aD,aDX,aDW]
 refine ⟨fun h1=>fin 5 (by unfold jI; rw [h1]; rfl),fun h1=>?_⟩
 simp only [Bool.not_eq_false'] at h1
 refine aR (α:=Nat) (fun i=>[(1,iS .i64 j),(2,tS n),(3,.va (.c1 (.pt 0 0))),(15,.va (.c1 (.fz (s.es.map aO)))),(16,iS .i64 s.es.length),(17,iS .i64 i)]) (fun _=>[.cells (aD s) 25])
  (fun i=>i<=s.es.length/\dT (s.es.drop i) n=dT s.es n) (fun i=>s.es.length - i) 0 1 ⟨Nat.zero_le _,rfl⟩ ?_ ?_ ?_
 · simp [go_sem]
 · simp [go_sem,aD]
 rintro i ⟨hi,ho⟩
 rcases bL i s.es.length with hlt | hge
 · have hg:decide ((i:Int) < (s.es.length:Int))=true:=by simp; omega
   obtain ⟨e,hx⟩:∃ e,s.es[i]? = some e:=⟨_,bB hlt⟩
   have q2:=aQ (row:=aO) hx
   rw [dT,dJ hx] at ho
   simp -dsimp only [go_sem,hg,↓q2,aO,aD,dO]
   and_intros
   all_goals first
    | omega
    | skip
   · intro hc
     rw [hc,Bool.true_or] at ho
     exact fin2 7 _ (by unfold jI; rw [h1,<-ho]; rfl)
   · intro hc
     rw [hc,Bool.false_or] at ho
     refine ⟨by omega,aC (i + 1) 1 ⟨by omega,ho⟩ (by omega) ?_ ?_⟩
     · simp [go_sem]
     · simp [go_sem,aD]
 · have hg:decide ((i:Int) < (s.es.length:Int))=false:=by simp; omega
   obtain rfl:i=s.es.length:=by omega
   rw [dT,fU] at ho
   simp -dsimp only [go_sem,hg,aD,iL,Int.toNat_natCast]
   refine ⟨?_,?_⟩
   · exact ⟨by omega,fun r hr=>by obtain ⟨x,_,rfl⟩:=List.mem_map.1 hr; exact XR x⟩
   refine aR (α:=Nat) (fun i=>[(2,tS n),(3,.va (.c1 (.pt 0 0))),(29,.va (.c1 (.fz ((s.ss.take j).map aL)))),(30,iS .i64 (s.ss.take j).length),(31,iS .i64 i)]) (fun _=>[.cells (aD s) 25])
    (fun i=>i<=(s.ss.take j).length/\fF ((s.ss.take j).drop i) n=fF (s.ss.take j) n) (fun i=>(s.ss.take j).length - i) 0 1 ⟨Nat.zero_le _,rfl⟩ ?_ ?_ ?_
   · simp [go_sem]
   · simp [go_sem,aD]
   have hlj:=pO s.ss j
   generalize hl:s.ss.take j=l at *
   clear hi hge hg
   rintro i ⟨hi,ho2⟩
   rcases bL i l.length with hlt | hge
   · have hg:decide ((i:Int) < (l.length:Int))=true:=by simp; omega
     obtain ⟨e,hx⟩:∃ e,l[i]? = some e:=⟨_,bB hlt⟩
     have q2:=aQ (row:=aL) hx
     rw [fF,dJ hx] at ho2
     simp -dsimp only [go_sem,hg,↓q2,aL,aD,dO]
     and_intros
     all_goals first
      | omega
      | skip
     · intro hc
       rw [hc,Bool.true_or] at ho2
       exact fin2 7 _ (by unfold jI; rw [h1,<-ho,hl,<-ho2]; rfl)
     · intro hc
       rw [hc,Bool.false_or] at ho2
       refine ⟨by omega,aC (i + 1) 1 ⟨by omega,ho2⟩ (by omega) ?_ ?_⟩
       · simp [go_sem]
       · simp [go_sem,aD]
   · have hg:decide ((i:Int) < (l.length:Int))=false:=by simp; omega
     obtain rfl:i=l.length:=by omega
     rw [fF,fU] at ho2
     simp -dsimp only [go_sem,hg,aD]
     exact fin 0 (by unfold jI; rw [h1,<-ho,hl,<-ho2]; rfl)
mutual
def valF (ss:List St) (es:List En):Ty->Bool
 | .mk k s n e=>bif k == 1 then s == 0 && bl n == [] && (e.length:Int) == 0
  else bif k == 2 then (s == 8 || s == 16 || s == 32 || s == 64) && bl n == [] && (e.length:Int) == 0
  else bif k == 3 then (s == 8 || s == 16 || s == 32 || (s == 64 && false)) && bl n == [] && (e.length:Int) == 0
  else bif k == 4 then decide (1<=s) && decide (s<=2000) && bl n == [] && (e.length:Int) == 0
  else bif k == 5 then decide (1<=s) && decide (s<=32) && bl n == [] && qB ss es e
  else bif k == 6 then fF ss n && s == 0 && (e.length:Int) == 0
  else bif k == 7 then dT es n && s == 0 && (e.length:Int) == 0 else false
def qB (ss:List St) (es:List En):List Ty->Bool
 | []=>false
 | u :: r=>valF ss es u && r.isEmpty
end
def fS (ss:List St) (n:ByteArray):Option St:=ss.find? fun s=>decide (s.nm=n)
def pZ (es:List En) (n:ByteArray):Option En:=es.find? fun s=>decide (s.nm=n)
theorem HD (ss:List St) (n:ByteArray):(fS ss n).isSome=fF ss n:=by unfold fS fF; rw [Bool.eq_iff_iff,List.find?_isSome,List.any_eq_true]
abbrev j5 (s:St):A:=.gs (aL s)
abbrev kH (s:En):A:=.gs (aO s)
def mJ (ks:List Value) (vs:List St) (ss:List St):Prop:=∀ n,jX ks (vs.map j5) (.string n)=(fS ss n).map j5
def DD (ks:List Value) (vs:List En) (es:List En):Prop:=∀ n,jX ks (vs.map kH) (.string n)=(pZ es n).map kH
@[go_sem] theorem YZ (f:Nat->Option Nat) (l:List St):(l.map j5).map (A.ren f)=l.map j5:=by rw [List.map_map]; rfl
@[go_sem] theorem ZE (f:Nat->Option Nat) (l:List En):(l.map kH).map (A.ren f)=l.map kH:=by rw [List.map_map]; rfl
@[go_sem] theorem aP3 (n:Nat) (xs:List (List C)) (l:List St):(l.map j5).map (A.pub n xs)=l.map j5:=by rw [List.map_map]; rfl
@[go_sem] theorem aQA (n:Nat) (xs:List (List C)) (l:List En):(l.map kH).map (A.pub n xs)=l.map kH:=by rw [List.map_map]; rfl
abbrev n7:S:=.va (.gs [.mp 0,.mp 1])
abbrev iD (ks:List Value) (vs:List St) (ks':List Value) (vs':List En):Hp:=[.map .string ks (vs.map j5),.map .string ks' (vs'.map kH)]
def WF (N:Nat):W.Spec:=fun av H K=>∃ (ss:List St) (es:List En) (t:Ty) (ks:List Value) (vs:List St) (ks':List Value) (vs':List En),av=[n7,.va (.gs (aP t))]/\H=iD ks vs ks' vs'/\
 mJ ks vs ss/\DD ks' vs' es/\TyOk t/\t.h<=N/\K (bS (valF ss es t)) (iD ks vs ks' vs')
theorem L0 (es:List En) (n:ByteArray):(pZ es n).isSome=dT es n:=by unfold pZ dT; rw [Bool.eq_iff_iff,List.find?_isSome,List.any_eq_true]
theorem XD {N:Nat} {ss:List St} {es:List En} {t:Ty} {ks:List Value} {vs:List St} {ks':List Value} {vs':List En} {K:S->Hp->Prop} (h1:mJ ks vs ss) (h2:DD ks' vs' es) (h3:TyOk t) (h4:t.h<=N) (hK:K (bS (valF ss es t)) (iD ks vs ks' vs')) :
 WF N [n7,.va (.gs (aP t))] (iD ks vs ks' vs') K:=⟨ss,es,t,ks,vs,ks',vs',rfl,rfl,h1,h2,h3,h4,hK⟩
@[go_sem] theorem aL5 (t:Ty):(aP t).take 4=aP t:=by rw [bM]; rfl
@[go_sem] theorem aSJ (t:Ty):(aP t).map C.nf=aP t:=by rw [bM]; rfl
@[go_sem] theorem aPE (t:Ty) (f:Nat->Option Nat):(aP t).map (C.ren f)=aP t:=by rw [bM]; rfl
theorem Ty.h_pos (t:Ty):0 < t.h:=by cases t; rw [Ty.h]; omega
theorem QY:∀ N,Meets Tryz.prog 112 (WF N)
 | 0=>⟨by kernel_rfl,by rintro xs vs E ro w K _ _ _ ⟨_,_,t,_,_,_,_,_,_,_,_,_,h,_⟩; have:=t.h_pos; omega⟩
 | N + 1=>by
  refine aG Tryz.func112 aIB 2 (by rw [Tryz.ntmps112]; decide) (aA (QY N) (aB _)) (fun av H K h=>by obtain ⟨_,_,_,_,_,_,_,rfl,_⟩:=h; rfl) ?_
  rintro av H K ⟨ss,es,t,ks,vs,ks',vs',rfl,rfl,h1,h2,h3,h4,hK⟩
  cases t with
  | mk k s n e=>
  have fin:∀ (b:Bool) (B1 B2:B),valF ss es (.mk k s n e)=b->W.Fin 2 K (bS b) [.map .string ks (vs.map j5),.map .string ks' (vs'.map kH),B1,B2]:=fun b B1 B2 h=>by
   rw [h] at hK
   exact .sel [0,1] (by simp) (by simp) rfl (.done (by simp -dsimp only [go_sem]; simpa using hK))
  by_cases k1:(k == 1)=true
  · have hF:=valF.eq_1 ss es k s n e
    rw [k1] at hF
    simp only [aK] at hF
    simp -dsimp only [go_sem,aP,aZ,kY,lC,k1]
    exact fin _ _ _ hF
  rw [Bool.not_eq_true] at k1
  by_cases k2:(k == 2)=true
  · have hF:=valF.eq_1 ss es k s n e
    rw [k1,k2] at hF
    simp only [aK,aF] at hF
    simp -dsimp only [go_sem,aP,aZ,kY,lC,k1,k2]
    exact fin _ _ _ hF
  rw [Bool.not_eq_true] at k2
  by_cases k3:(k == 3)=true
  · have hF:=valF.eq_1 ss es k s n e
    rw [k1,k2,k3] at hF
    simp only [aK,aF] at hF
    simp -dsimp only [go_sem,aP,aZ,kY,lC,k1,k2,k3]
    exact fin _ _ _ hF
  rw [Bool.not_eq_true] at k3
  by_cases k4:(k == 4)=true
  · have hF:=valF.eq_1 ss es k s n e
    rw [k1,k2,k3,k4] at hF
    simp only [aK,aF] at hF
    simp -dsimp only [go_sem,aP,aZ,kY,lC,k1,k2,k3,k4]
    exact fin _ _ _ hF
  rw [Bool.not_eq_true] at k4
  by_cases k5:(k == 5)=true
  · have hF:=valF.eq_1 ss es k s n e
    rw [k1,k2,k3,k4,k5] at hF
    simp only [aK,aF] at hF
    cases hc:(decide (1<=s) && decide (s<=32) && bl n == [] && (e.length:Int) == 1) with
    | false=>
     have hF':valF ss es (.mk k s n e)=false:=by
      rw [hF]
      cases h0:(decide (1<=s) && decide (s<=32) && bl n == []) with
      | false=>rfl
      | true=>
       rw [h0,Bool.true_and] at hc
       match e,hc with
       | [],_=>rfl
       | [u],hc=>simp at hc
       | u :: v :: r,_=>simp [qB]
     simp (maxSteps:=9^6) -dsimp only [go_sem,aP,aZ,kY,lC,k1,k2,k3,k4,k5,hc]
     exact fin _ _ _ hF'
    | true=>
     obtain ⟨u,rfl⟩:∃ u,e=[u]:=by
      simp only [Bool.and_eq_true,beq_iff_eq] at hc
      exact List.length_eq_one_iff.1 (by omega)
     have h0:(decide (1<=s) && decide (s<=32) && bl n == [])=true:=by
      simp only [Bool.and_eq_true] at hc ⊢; exact hc.1
     have hF':valF ss es (.mk k s n [u])=valF ss es u:=by rw [hF,h0]; simp [qB]
     have hh:u.h<=N:=by rw [Ty.h,Ty.hs,Ty.hs] at h4; omega
     have hu:TyOk u:=h3.e u (by simp [Ty.e])
     have hc':(decide (1<=s) && decide (s<=32) && bl n == [] && ((1:Nat):Int) == 1)=true:=hc
     simp (maxSteps:=9^6) -dsimp only [go_sem,aP,aZ,kY,lC,k1,k2,k3,k4,k5,hc']
     refine ⟨⟨by omega,fun r hr=>by subst hr; exact dF u⟩,fun r hr=>?_⟩
     subst hr
     refine ⟨by rw [dF]; exact Nat.le_refl _,?_⟩
     simp -dsimp only [go_sem]
     refine XD h1 h2 hu hh ?_
     simp (maxSteps:=9^6) -dsimp only [go_sem]
     exact fin _ _ _ hF'
  rw [Bool.not_eq_true] at k5
  by_cases k6:(k == 6)=true
  · have hF:=valF.eq_1 ss es k s n e
    rw [k1,k2,k3,k4,k5,k6] at hF
    simp only [aK,aF] at hF
    have hm:=h1 n
    rw [<-HD] at hF
    cases hf:fS ss n with
    | none=>
     rw [hf] at hm hF
     simp only [Option.map_none] at hm
     simp (maxSteps:=9^6) -dsimp only [go_sem,aP,aZ,kY,lC,k1,k2,k3,k4,k5,k6,hm]
     refine .sel [0,1] (by simp) (by simp) rfl (.done ?_)
     rw [hF] at hK
     simp -dsimp only [go_sem]; simpa using hK
    | some d=>
     rw [hf] at hm hF
     simp only [Option.map_some] at hm
     simp (maxSteps:=9^6) -dsimp only [go_sem,aP,aZ,kY,lC,k1,k2,k3,k4,k5,k6,hm]
     refine ⟨by simp [aL,go_sem],by simp [aL],.sel [0,1] (by simp) (by simp) rfl (.done ?_)⟩
     rw [hF] at hK
     simp -dsimp only [go_sem]; simpa using hK
  rw [Bool.not_eq_true] at k6
  by_cases k7:(k == 7)=true
  · have hF:=valF.eq_1 ss es k s n e
    rw [k1,k2,k3,k4,k5,k6,k7] at hF
    simp only [aK,aF] at hF
    have hm:=h2 n
    rw [<-L0] at hF
    cases hf:pZ es n with
    | none=>
     rw [hf] at hm hF
     simp only [Option.map_none] at hm
     simp (maxSteps:=9^6) -dsimp only [go_sem,aP,aZ,kY,lC,k1,k2,k3,k4,k5,k6,k7,hm]
     refine .sel [0,1] (by simp) (by simp) rfl (.done ?_)
     rw [hF] at hK
     simp -dsimp only [go_sem]; simpa using hK
    | some d=>
     rw [hf] at hm hF
     simp only [Option.map_some] at hm
     simp (maxSteps:=9^6) -dsimp only [go_sem,aP,aZ,kY,lC,k1,k2,k3,k4,k5,k6,k7,hm]
     refine ⟨by simp [aO,go_sem],by simp [aO],.sel [0,1] (by simp) (by simp) rfl (.done ?_)⟩
     rw [hF] at hK
     simp -dsimp only [go_sem]; simpa using hK
  rw [Bool.not_eq_true] at k7
  have hF:=valF.eq_1 ss es k s n e
  rw [k1,k2,k3,k4,k5,k6,k7] at hF
  simp only [aF] at hF
  simp -dsimp only [go_sem,aP,aZ,kY,lC,k1,k2,k3,k4,k5,k6,k7]
  exact fin _ _ _ hF
end Go.Proofs.YtgogpogophflhaaGreatDoor
