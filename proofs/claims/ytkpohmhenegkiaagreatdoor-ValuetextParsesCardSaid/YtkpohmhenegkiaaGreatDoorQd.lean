/- Lemmas and walks for the proof. -/
import Derived.Test.YtkpohmhenegkiaaGreatDoorQc
import Derived.Shelf.Slices.Clone
import Derived.Test.YtkpohmhenegkiaaGreatDoorProg
set_option maxRecDepth 100000
set_option maxHeartbeats 8000000
namespace Go.Proofs.YtkpohmhenegkiaaGreatDoor
open Go.W
def kU (r:List C):Prop:=∃ s:Sc,r=aF s/\s.fit
theorem fO {s:Sc} (h:s.fit):kU (aF s):=⟨s,rfl,h⟩
noncomputable def ckFn:Fun:=wN kU C.sc fun s=>.int .i64 (eP s)
attribute [go_sem] ckFn
theorem JP {a b:Int} (h:a ≠ 0):(bif a != 0 then a else b)=a:=by rw [bne,beq_eq_false_iff_ne.2 h]; rfl
theorem LJ {a b:Int} (h:a=0):(bif a != 0 then a else b)=b:=by rw [h]; rfl
def okS (s:Sc) (n:ByteArray):Bool:=eP s == 0 && f6 s.ss n
def aGV (N:Nat):W.Spec:=fun av H K=>∃ t:Ty,av=[.va (.gs (aQ t))]/\H=[]/\TyOk t/\TySm t/\t.h<=N/\K (.va (.gs (aQ t))) []
theorem R4 {N:Nat} {t:Ty} {K:S->Hp->Prop} (h1:TyOk t) (h2:TySm t) (h3:t.h<=N) (hK:K (.va (.gs (aQ t))) []):aGV N [.va (.gs (aQ t))] [] K:=⟨t,rfl,rfl,h1,h2,h3,hK⟩
theorem gE {α:Type} {l:List α} {i:Nat} {x:α} (h:l[i]? = some x):l.take (i + 1)=l.take i ++ [x]:=by rw [List.take_add_one,h]; rfl
theorem PS (t:Ty):∀ c ∈ aQ t,c.shut=true/\c.one:=by rw [aJ]; simp [go_sem,C.shut]
theorem DX:∀ N,Meets Tryz.prog 149 (aGV N)
 | 0=>⟨by kernel_rfl,by rintro xs vs E ro w K _ _ _ ⟨t,_,_,_,_,h,_⟩; have:=t.h_pos; omega⟩
 | N + 1=>by
  refine aE Tryz.func149 aK9 1 (by rw [Tryz.ntmps149]; decide) (aB (DX N) (aA _)) (fun av H K h=>by obtain ⟨_,rfl,_⟩:=h; rfl) ?_
  rintro av H K ⟨⟨k,s,n,e⟩,rfl,rfl,h1,h2,h3,hK⟩
  have hle:=h1.len
  have hoe:=h1.e
  obtain ⟨hl,hse⟩:e.length<=1000000000/\∀ t ∈ e,TySm t:=by cases h2; exact ⟨by assumption,by assumption⟩
  simp only [Ty.e] at hle hoe
  simp (maxSteps:=1000000) -dsimp only [go_sem,aQ,aZ,YJ,Z4]
  refine dW (α:=Nat) (fun i=>[(2,.va (.c1 (.pt 1 0))),(3,.va (.c1 (.pt 2 0))),(14,.va (.c1 (.fz (e.map aQ)))),(15,iS .i64 e.length),(16,iS .i64 i)]) (fun i=>[.cells (aQ (.mk k s n e)) 28,.cells [.vl (.int .i64 0),.vl (.int .i64 0),.vl (.string (mk [])),.vl (.slice none 0 0)] 28,.cells [.vl (.int .i64 k),.vl (.int .i64 s),.vl (.string n),.sl 3 i] 28,.row ((e.take i).map aQ) 28 4])
   (fun i=>i<=e.length) (fun i=>e.length - i) (.nilc 2 3 28 4 [.vl (.int .i64 k),.vl (.int .i64 s),.vl (.string n),.vl (.slice none 0 0)] 28 rfl rfl (lR 0 4 (Nat.zero_le _) ?_ ?_)) ?_
  · simp -dsimp only [go_sem]<;>simp
  · simp -dsimp only [go_sem,aQ,aZ]<;>simp
  intro i hi
  have hz:(e.take i).length=i:=by rw [List.length_take]; omega
  rcases bF i e.length with hlt | hge
  · have hg:decide ((i:Int) < (e.length:Int))=true:=by simp; omega
    obtain ⟨u,hx⟩:∃ t,e[i]? = some t:=⟨_,a7 hlt⟩
    have q1:=aV (row:=aQ) hx
    have hu:=bT hx
    simp (maxSteps:=1000000) -dsimp only [go_sem,hg,↓q1,iQ]
    refine ⟨by omega,aAZ u,R4 (hoe u hu) (hse u hu) ?_ ?_⟩
    · have:=Ty.hs_mem hu; rw [Ty.h] at h3; omega
    simp (maxSteps:=1000000) -dsimp only [go_sem,iQ]
    refine ⟨PS u,PS u,hz,by omega,by omega,aC (i + 1) 4 (by omega) (by omega) ?_ ?_⟩
    · simp -dsimp only [go_sem]<;>simp
    · simp -dsimp only [go_sem,aQ,aZ,gE hx]<;>simp
  · have hg:decide ((i:Int) < (e.length:Int))=false:=by simp; omega
    obtain rfl:i=e.length:=by omega
    rw [List.take_length]
    simp (maxSteps:=1000000) -dsimp only [go_sem,hg]
    refine .pub 3 _ _ _ rfl (.sel [] (by simp) (by simp [cT]) rfl (.done ?_))
    simp -dsimp only [go_sem,cT]
    simpa [aQ,aZ] using hK
def aH3:W.Spec:=fun av H K=>∃ f:Fl,av=[.va (.gs (aY f))]/\H=[]/\f.ok/\TySm f.ty/\K (.va (.gs (aY f))) []
theorem RX {f:Fl} {K:S->Hp->Prop} (h1:f.ok) (h2:TySm f.ty) (hK:K (.va (.gs (aY f))) []):aH3 [.va (.gs (aY f))] [] K:=⟨f,rfl,rfl,h1,h2,hK⟩
theorem AD:Meets Tryz.prog 130 aH3:=by
 refine eQ 0 (t:=fun N=>fun av H K=>∃ f:Fl,av=[.va (.gs (aY f))]/\H=[]/\f.ok/\TySm f.ty/\f.ty.h=N/\K (.va (.gs (aY f))) []) (fun N=>?_) fun av H K ⟨f,e1,e2,h1,h2,hK⟩=>⟨f.ty.h,f,e1,e2,h1,h2,rfl,hK⟩
 refine aE Tryz.func130 aMK 1 (by rw [Tryz.ntmps130]; decide) (aB (DX N) (aA _)) (fun av H K h=>by obtain ⟨_,rfl,_⟩:=h; rfl) ?_
 rintro av H K ⟨f,rfl,rfl,h1,h2,rfl,hK⟩
 simp (maxSteps:=1000000) -dsimp only [go_sem,aY,Y2,Y4,vH]
 refine R4 h1.ty h2 (Nat.le_refl _) ?_
 simp (maxSteps:=1000000) -dsimp only [go_sem,aJ]
 exact .sel [] (by simp) (by simp) rfl (.done (by simpa [go_sem,aY] using hK))
def V8:W.Spec:=fun av H K=>∃ t:St,av=[.va (.gs (aR t))]/\H=[]/\t.ok/\(t.fs.length<=1000000000/\∀ f ∈ t.fs,TySm f.ty)/\K (.va (.gs (aR t))) []
theorem aDE {t:St} {K:S->Hp->Prop} (h1:t.ok) (h2:t.fs.length<=1000000000/\∀ f ∈ t.fs,TySm f.ty) (hK:K (.va (.gs (aR t))) []):V8 [.va (.gs (aR t))] [] K:=⟨t,rfl,rfl,h1,h2,hK⟩
theorem KJ:Meets Tryz.prog 129 V8:=by
 refine aE Tryz.func129 aLP 1 (by rw [Tryz.ntmps129]; decide) (aB AD (aA _)) (fun av H K h=>by obtain ⟨_,rfl,_⟩:=h; rfl) ?_
 rintro av H K ⟨⟨n,l⟩,rfl,rfl,h1,⟨hl,hse⟩,hK⟩
 obtain ⟨hn,_,hfs⟩:=h1
 simp only at hn hl hse hfs
 simp (maxSteps:=1000000) -dsimp only [go_sem,aR,WW,YZ]
 refine dW (α:=Nat) (fun i=>[(2,.va (.c1 (.pt 1 0))),(3,.va (.c1 (.pt 2 0))),(10,.va (.c1 (.fz (l.map aY)))),(11,iS .i64 l.length),(12,iS .i64 i)]) (fun i=>[.cells (aR ⟨n,l⟩) 95,.cells [.vl (.string (mk [])),.vl (.slice none 0 0)] 95,.cells [.vl (.string n),.sl 3 i] 95,.row ((l.take i).map aY) 97 7])
  (fun i=>i<=l.length) (fun i=>l.length - i) (.nilc 2 1 97 7 [.vl (.string n),.vl (.slice none 0 0)] 95 rfl rfl (lR 0 4 (Nat.zero_le _) ?_ ?_)) ?_
 · simp -dsimp only [go_sem]<;>simp
 · simp -dsimp only [go_sem,aR]<;>simp
 intro i hi
 have hz:(l.take i).length=i:=by rw [List.length_take]; omega
 rcases bF i l.length with hlt | hge
 · have hg:decide ((i:Int) < (l.length:Int))=true:=by simp; omega
   obtain ⟨u,hx⟩:∃ t,l[i]? = some t:=⟨_,a7 hlt⟩
   have q1:=aV (row:=aY) hx
   have hu:=bT hx
   have hcd:aY u=[.vl (.int .i64 u.num),.vl (.string u.nm),.vl (.int .i64 u.ty.k),.vl (.int .i64 u.ty.s),.vl (.string u.ty.n),.fz (u.ty.e.map aQ),.vl (.bool u.opt)]:=rfl
   simp (maxSteps:=1000000) -dsimp only [go_sem,hg,↓q1,aY]
   refine ⟨by omega,RX (hfs u hu) (hse u hu) ?_⟩
   simp (maxSteps:=1000000) -dsimp only [go_sem,aY]
   refine ⟨hz,by omega,by omega,aC (i + 1) 4 (by omega) (by omega) ?_ ?_⟩
   · simp -dsimp only [go_sem]<;>simp
   · simp -dsimp only [go_sem,aR,gE hx]<;>simp [aY]
 · have hg:decide ((i:Int) < (l.length:Int))=false:=by simp; omega
   obtain rfl:i=l.length:=by omega
   rw [List.take_length]
   simp (maxSteps:=1000000) -dsimp only [go_sem,hg]
   refine .pub 3 _ _ _ rfl (.sel [] (by simp) (by simp [cT]) rfl (.done ?_))
   simp -dsimp only [go_sem,cT]
   simpa [aR] using hK
theorem iG {α:Type} {l:List α} {i:Nat} {x:α} (hx:l[i]? = some x) (p:α->Bool):(l.drop i).find? p=bif p x then some x else (l.drop (i + 1)).find? p:=by
 obtain ⟨h,rfl⟩:=bC.1 hx
 rw [List.drop_eq_getElem_cons h,List.find?_cons]
 cases p l[i]<;>rfl
def kR:W.Spec:=fun av H K=>∃ (s:Sc) (n:ByteArray),av=[.va (.gs (aF s)),tS n]/\H=[]/\s.fit/\K (.tu [.gs (aR ((fS s.ss n).getD default)),bA (f6 s.ss n)]) []
theorem iR {s:Sc} {n:ByteArray} {K:S->Hp->Prop} (h:s.fit) (hK:K (.tu [.gs (aR ((fS s.ss n).getD default)),bA (f6 s.ss n)]) []):kR [.va (.gs (aF s)),tS n] [] K:=⟨s,n,rfl,rfl,h,hK⟩
theorem C0:aR default=[.vl (.string (mk [])),.fz []]:=rfl
theorem C2:aY default=[.vl (.int .i64 0),.vl (.string (mk [])),.vl (.int .i64 0),.vl (.int .i64 0),.vl (.string (mk [])),.fz [],.vl (.bool false)]:=rfl
theorem nU:Meets Tryz.prog 103 kR:=by
 refine aE Tryz.func103 aKF 2 (by rw [Tryz.ntmps103]; decide) (aB KJ (aA _)) (fun av H K h=>by obtain ⟨_,_,rfl,_⟩:=h; rfl) ?_
 rintro av H K ⟨s,n,rfl,rfl,hs,hK⟩
 rw [<-tO] at hK
 have hl:=hs.ok.ls
 simp -dsimp only [go_sem,aF,XK,WQ]
 refine aK (α:=Nat) (fun i=>[(1,tS n),(2,.va (.c1 (.pt 0 0))),(4,.va (.c1 (.pt 1 0))),(9,.va (.c1 (.fz (s.ss.map aR)))),(10,iS .i64 s.ss.length),(11,iS .i64 i)]) (fun _=>[.cells (aF s) 25,.cells [.vl (.string (mk [])),.vl (.slice none 0 0)] 95])
  (fun i=>i<=s.ss.length/\fS (s.ss.drop i) n=fS s.ss n) (fun i=>s.ss.length - i) 0 2 ⟨Nat.zero_le _,rfl⟩ ?_ ?_ ?_
 · simp [go_sem]
 · simp [go_sem,aF]
 rintro i ⟨hi,ho⟩
 rcases bF i s.ss.length with hlt | hge
 · have hg:decide ((i:Int) < (s.ss.length:Int))=true:=by simp; omega
   obtain ⟨t,hx⟩:∃ e,s.ss[i]? = some e:=⟨_,a7 hlt⟩
   have q2:=aV (row:=aR) hx
   have htm:=bT hx
   rw [fS,iG hx] at ho
   cases hc:decide (t.nm=n) with
   | true=>
    rw [hc,aN] at ho
    rw [<-ho] at hK
    simp (maxSteps:=1000000) -dsimp only [go_sem,hg,↓q2,aR,aF,dC,hc]
    refine ⟨by omega,aDE (hs.ok.ss t htm) (hs.sm t htm) ?_⟩
    simp (maxSteps:=1000000) -dsimp only [go_sem,aR]
    exact .sel [] (by simp) (by simp) rfl (.done (by simpa [go_sem,aR] using hK))
   | false=>
    rw [hc,aH] at ho
    simp (maxSteps:=1000000) -dsimp only [go_sem,hg,↓q2,aR,aF,dC,hc]
    refine ⟨by omega,by omega,aC (i + 1) 2 ⟨by omega,ho⟩ (by omega) ?_ ?_⟩
    · simp [go_sem]
    · simp [go_sem,aF]
 · have hg:decide ((i:Int) < (s.ss.length:Int))=false:=by simp; omega
   obtain rfl:i=s.ss.length:=by omega
   rw [List.drop_length] at ho
   rw [<-ho] at hK
   simp -dsimp only [go_sem,hg,aF]
   exact .sel [] (by simp) (by simp) rfl (.done (by simpa [go_sem,fS,C0] using hK))
def fF (l:List Fl) (k:Int):Option Fl:=l.find? fun f=>decide (f.num=k)
def rD:W.Spec:=fun av H K=>∃ (t:St) (k:Int),av=[.va (.gs (aR t)),iS .i64 k]/\H=[]/\t.ok/\(∀ f ∈ t.fs,TySm f.ty)/\K (.tu [.gs (aY ((fF t.fs k).getD default)),bA (fF t.fs k).isSome]) []
theorem KT {t:St} {k:Int} {K:S->Hp->Prop} (h:t.ok) (h2:∀ f ∈ t.fs,TySm f.ty) (hK:K (.tu [.gs (aY ((fF t.fs k).getD default)),bA (fF t.fs k).isSome]) []):rD [.va (.gs (aR t)),iS .i64 k] [] K:=⟨t,k,rfl,rfl,h,h2,hK⟩
theorem sU:Meets Tryz.prog 104 rD:=by
 refine aE Tryz.func104 aKV 2 (by rw [Tryz.ntmps104]; decide) (aB AD (aA _)) (fun av H K h=>by obtain ⟨_,_,rfl,_⟩:=h; rfl) ?_
 rintro av H K ⟨s,n,rfl,rfl,hs,hsm,hK⟩
 have hl:=hs.len
 simp -dsimp only [go_sem,aR,ZF,ZI]
 refine aK (α:=Nat) (fun i=>[(1,iS .i64 n),(2,.va (.c1 (.pt 0 0))),(4,.va (.c1 (.pt 1 0))),(9,.va (.c1 (.fz (s.fs.map aY)))),(10,iS .i64 s.fs.length),(11,iS .i64 i)]) (fun _=>[.cells (aR s) 95,.cells [.vl (.int .i64 0),.vl (.string (mk [])),.vl (.int .i64 0),.vl (.int .i64 0),.vl (.string (mk [])),.vl (.slice none 0 0),.vl (.bool false)] 97])
  (fun i=>i<=s.fs.length/\fF (s.fs.drop i) n=fF s.fs n) (fun i=>s.fs.length - i) 0 2 ⟨Nat.zero_le _,rfl⟩ ?_ ?_ ?_
 · simp [go_sem]
 · simp [go_sem,aR]
 rintro i ⟨hi,ho⟩
 rcases bF i s.fs.length with hlt | hge
 · have hg:decide ((i:Int) < (s.fs.length:Int))=true:=by simp; omega
   obtain ⟨t,hx⟩:∃ e,s.fs[i]? = some e:=⟨_,a7 hlt⟩
   have q2:=aV (row:=aY) hx
   have htm:=bT hx
   rw [fF,iG hx] at ho
   have hq:(t.num == n)=decide (t.num=n):=rfl
   cases hc:decide (t.num=n) with
   | true=>
    rw [hc,aN] at ho
    rw [<-ho] at hK
    simp (maxSteps:=1000000) -dsimp only [go_sem,hg,↓q2,aY,aR,hq,hc]
    refine ⟨by omega,RX (hs.fs t htm) (hsm t htm) ?_⟩
    simp (maxSteps:=1000000) -dsimp only [go_sem,aY]
    exact .sel [] (by simp) (by simp) rfl (.done (by simpa [go_sem,aY] using hK))
   | false=>
    rw [hc,aH] at ho
    simp (maxSteps:=1000000) -dsimp only [go_sem,hg,↓q2,aY,aR,hq,hc]
    refine ⟨by omega,by omega,aC (i + 1) 2 ⟨by omega,ho⟩ (by omega) ?_ ?_⟩
    · simp [go_sem]
    · simp [go_sem,aR]
 · have hg:decide ((i:Int) < (s.fs.length:Int))=false:=by simp; omega
   obtain rfl:i=s.fs.length:=by omega
   rw [List.drop_length] at ho
   rw [<-ho] at hK
   simp -dsimp only [go_sem,hg,aR]
   exact .sel [] (by simp) (by simp) rfl (.done (by simpa [go_sem,fF,C2] using hK))
@[go_sem] theorem aT9 (t:Ty) (H:Hp):(aQ t).map (C.bor H)=aQ t:=by rw [aJ]; rfl
theorem yG:Meets Tryz.prog 86 (y8 fun l=>.bool (c8 l)).sp:=by
 refine aE Tryz.func86 aPG 1 (by rw [Tryz.ntmps86]; decide) (aA _) sO ?_
 rintro xs H K ⟨⟨h,rfl⟩,hK⟩
 obtain ⟨s,rfl⟩:=jZ h
 simp -dsimp only [go_sem,aIW,aHK] at hK ⊢
 refine ⟨fun h1=>?_,fun h1=>?_⟩
 · refine cA hK ?_
   have:c8 (bl s)=false:=by
    simp at h1
    rcases h1 with h1 | h1
    · have:bl s=[]:=List.length_eq_zero_iff.1 (by omega)
      rw [this]; rfl
    · exact sN (by omega)
   rw [this]
 · have hlen:0 < (bl s).length/\(bl s).length<=16:=by simp at h1; omega
   obtain ⟨hl0,hl⟩:=hlen
   refine aK (α:=Nat) (fun i=>[(0,tS s),(3,iS .i64 i)]) (fun i=>[]) (fun i=>i<=(bl s).length/\(∀ (j:Nat) (x:UInt8),j < i->(bl s)[j]? = some x->bB x=true)/\(0 < i->∀ x,(bl s)[0]? = some x->bK x.toNat=true)) (fun i=>(bl s).length - i) 0 0 ⟨by omega,by omega,by omega⟩ ?_ ?_ ?_
   · simp -dsimp only [go_sem]; simp
   · simp [go_sem]
   rintro i ⟨hi,ha,hb⟩
   rcases bF i (bl s).length with hlt | hge
   · have hg:decide ((i:Int) < ((bl s).length:Int))=true:=by simp; omega
     obtain ⟨c,hc⟩:∃ c,(bl s)[i]? = some c:=⟨_,a7 hlt⟩
     have bad:(i=0/\bK c.toNat=false)\/bB c=false->W.Fin 0 K (bS false) []:=fun h=>cA hK (by
      rcases h with ⟨rfl,h⟩ | h
      · rw [A1 hc h]
      · rw [L2 hc h])
     have cP:bB c=true->(i=0->bK c.toNat=true)->(i + 1<=(bl s).length/\(∀ (j:Nat) (x:UInt8),j < i + 1->(bl s)[j]? = some x->bB x=true)/\(0 < i + 1->∀ x,(bl s)[0]? = some x->bK x.toNat=true)):=fun h1 h2=>⟨by omega,fun j x hj hx=>by
      rcases bF j i with h4 | h4
      · exact ha j x h4 hx
      · obtain rfl:j=i:=by omega
        rw [hc] at hx; obtain rfl:=bN hx; exact h1,fun _ x hx=>by
      rcases Nat.eq_zero_or_pos i with h0 | h0
      · subst h0; rw [hc] at hx; obtain rfl:=bN hx; exact h2 rfl
      · exact hb h0 x hx⟩
     have hb255:=c.toNat_lt
     have hcs:(0<=(c.toNat:Int)/\(c.toNat:Int)<=47)\/(48<=(c.toNat:Int)/\(c.toNat:Int)<=57)\/(58<=(c.toNat:Int)/\(c.toNat:Int)<=64)\/(65<=(c.toNat:Int)/\(c.toNat:Int)<=90)\/(91<=(c.toNat:Int)/\(c.toNat:Int)<=94)\/(95<=(c.toNat:Int)/\(c.toNat:Int)<=95)\/(96<=(c.toNat:Int)/\(c.toNat:Int)<=96)\/(97<=(c.toNat:Int)/\(c.toNat:Int)<=122)\/(123<=(c.toNat:Int)/\(c.toNat:Int)<=255):=by omega
     rcases hcs with h2 | h2 | h2 | h2 | h2 | h2 | h2 | h2 | h2
     · have d1:decide (97<=(c.toNat:Int))=false:=decide_eq_false (by omega)
       have d2:decide ((c.toNat:Int)<=122)=true:=decide_eq_true (by omega)
       have d3:decide (65<=(c.toNat:Int))=false:=decide_eq_false (by omega)
       have d4:decide ((c.toNat:Int)<=90)=true:=decide_eq_true (by omega)
       have d5:((c.toNat:Int) == 95)=false:=by simp; omega
       have d6:decide (48<=(c.toNat:Int))=false:=decide_eq_false (by omega)
       have d7:decide ((c.toNat:Int)<=57)=true:=decide_eq_true (by omega)
       have hL:bK c.toNat=false:=by unfold bK; rw [d1,d2,d3,d4]; rfl
       have hW:bB c=false:=by unfold bB eO fX; rw [hL,d5,d6,d7]; rfl
       rcases Nat.eq_zero_or_pos i with h0 | h0
       · have hz:((i:Int) == 0)=true:=by simp; omega
         simp (maxSteps:=1000000) -dsimp only [go_sem,hg,hc,aI,forall_eq',Int.toNat_natCast,d1,d3,d5,d6,hz,Bool.true_and,Bool.and_true,Bool.false_and,Bool.and_false,Bool.not_true,Bool.not_false]
         repeat' first | intro _ | apply And.intro
         all_goals first | omega | (rename_i h9; simp at h9; done) | skip
         all_goals exact bad (by rw [hL,hW]; exact .inl ⟨h0,rfl⟩)
       · have hz:((i:Int) == 0)=false:=by simp; omega
         simp (maxSteps:=1000000) -dsimp only [go_sem,hg,hc,aI,forall_eq',Int.toNat_natCast,d1,d3,d5,d6,hz,Bool.true_and,Bool.and_true,Bool.false_and,Bool.not_false]
         repeat' first | intro _ | apply And.intro
         all_goals first | omega | (rename_i h9; simp at h9; done) | skip
         all_goals exact bad (by rw [hL,hW]; exact .inr rfl)
     · have d1:decide (97<=(c.toNat:Int))=false:=decide_eq_false (by omega)
       have d2:decide ((c.toNat:Int)<=122)=true:=decide_eq_true (by omega)
       have d3:decide (65<=(c.toNat:Int))=false:=decide_eq_false (by omega)
       have d4:decide ((c.toNat:Int)<=90)=true:=decide_eq_true (by omega)
       have d5:((c.toNat:Int) == 95)=false:=by simp; omega
       have d6:decide (48<=(c.toNat:Int))=true:=decide_eq_true (by omega)
       have d7:decide ((c.toNat:Int)<=57)=true:=decide_eq_true (by omega)
       have hL:bK c.toNat=false:=by unfold bK; rw [d1,d2,d3,d4]; rfl
       have hW:bB c=true:=by unfold bB eO fX; rw [hL,d5,d6,d7]; rfl
       rcases Nat.eq_zero_or_pos i with h0 | h0
       · have hz:((i:Int) == 0)=true:=by simp; omega
         simp (maxSteps:=1000000) -dsimp only [go_sem,hg,hc,aI,forall_eq',Int.toNat_natCast,d1,d3,d5,d6,hz,Bool.true_and,Bool.and_true,Bool.false_and,Bool.and_false,Bool.not_true,Bool.not_false]
         repeat' first | intro _ | apply And.intro
         all_goals first | omega | (rename_i h9; simp at h9; done) | skip
         all_goals exact bad (by rw [hL,hW]; exact .inl ⟨h0,rfl⟩)
       · have hz:((i:Int) == 0)=false:=by simp; omega
         simp (maxSteps:=1000000) -dsimp only [go_sem,hg,hc,aI,forall_eq',Int.toNat_natCast,d1,d3,d5,d6,d7,hz,Bool.true_and,Bool.and_true,Bool.false_and,Bool.not_false]
         repeat' first | intro _ | apply And.intro
         all_goals first | omega | (rename_i h9; simp at h9; done) | skip
         all_goals exact aC (i + 1) 0 (cP (by rw [hW]) (fun h3=>by omega)) (by omega) (by simp -dsimp only [go_sem]; simp) (by simp [go_sem])
     · have d1:decide (97<=(c.toNat:Int))=false:=decide_eq_false (by omega)
       have d2:decide ((c.toNat:Int)<=122)=true:=decide_eq_true (by omega)
       have d3:decide (65<=(c.toNat:Int))=false:=decide_eq_false (by omega)
       have d4:decide ((c.toNat:Int)<=90)=true:=decide_eq_true (by omega)
       have d5:((c.toNat:Int) == 95)=false:=by simp; omega
       have d6:decide (48<=(c.toNat:Int))=true:=decide_eq_true (by omega)
       have d7:decide ((c.toNat:Int)<=57)=false:=decide_eq_false (by omega)
       have hL:bK c.toNat=false:=by unfold bK; rw [d1,d2,d3,d4]; rfl
       have hW:bB c=false:=by unfold bB eO fX; rw [hL,d5,d6,d7]; rfl
       rcases Nat.eq_zero_or_pos i with h0 | h0
       · have hz:((i:Int) == 0)=true:=by simp; omega
         simp (maxSteps:=1000000) -dsimp only [go_sem,hg,hc,aI,forall_eq',Int.toNat_natCast,d1,d3,d5,d6,hz,Bool.true_and,Bool.and_true,Bool.false_and,Bool.and_false,Bool.not_true,Bool.not_false]
         repeat' first | intro _ | apply And.intro
         all_goals first | omega | (rename_i h9; simp at h9; done) | skip
         all_goals exact bad (by rw [hL,hW]; exact .inl ⟨h0,rfl⟩)
       · have hz:((i:Int) == 0)=false:=by simp; omega
         simp (maxSteps:=1000000) -dsimp only [go_sem,hg,hc,aI,forall_eq',Int.toNat_natCast,d1,d3,d5,d6,d7,hz,Bool.true_and,Bool.and_true,Bool.false_and,Bool.not_false]
         repeat' first | intro _ | apply And.intro
         all_goals first | omega | (rename_i h9; simp at h9; done) | skip
         all_goals exact bad (by rw [hL,hW]; exact .inr rfl)
     · have d1:decide (97<=(c.toNat:Int))=false:=decide_eq_false (by omega)
       have d2:decide ((c.toNat:Int)<=122)=true:=decide_eq_true (by omega)
       have d3:decide (65<=(c.toNat:Int))=true:=decide_eq_true (by omega)
       have d4:decide ((c.toNat:Int)<=90)=true:=decide_eq_true (by omega)
       have d5:((c.toNat:Int) == 95)=false:=by simp; omega
       have d6:decide (48<=(c.toNat:Int))=true:=decide_eq_true (by omega)
       have d7:decide ((c.toNat:Int)<=57)=false:=decide_eq_false (by omega)
       have hL:bK c.toNat=true:=by unfold bK; rw [d1,d2,d3,d4]; rfl
       have hW:bB c=true:=by unfold bB eO fX; rw [hL,d5,d6,d7]; rfl
       rcases Nat.eq_zero_or_pos i with h0 | h0
       · have hz:((i:Int) == 0)=true:=by simp; omega
         simp (maxSteps:=1000000) -dsimp only [go_sem,hg,hc,aI,forall_eq',Int.toNat_natCast,d1,d3,d4,d5,d6,hz,Bool.true_and,Bool.and_true,Bool.false_and,Bool.and_false,Bool.not_true,Bool.not_false]
         repeat' first | intro _ | apply And.intro
         all_goals first | omega | (rename_i h9; simp at h9; done) | skip
         all_goals exact aC (i + 1) 0 (cP (by rw [hW]) (fun h3=>by rw [hL])) (by omega) (by simp -dsimp only [go_sem]; simp) (by simp [go_sem])
       · have hz:((i:Int) == 0)=false:=by simp; omega
         simp (maxSteps:=1000000) -dsimp only [go_sem,hg,hc,aI,forall_eq',Int.toNat_natCast,d1,d3,d4,d5,d6,d7,hz,Bool.true_and,Bool.and_true,Bool.false_and,Bool.not_false]
         repeat' first | intro _ | apply And.intro
         all_goals first | omega | (rename_i h9; simp at h9; done) | skip
         all_goals exact aC (i + 1) 0 (cP (by rw [hW]) (fun h3=>by rw [hL])) (by omega) (by simp -dsimp only [go_sem]; simp) (by simp [go_sem])
     · have d1:decide (97<=(c.toNat:Int))=false:=decide_eq_false (by omega)
       have d2:decide ((c.toNat:Int)<=122)=true:=decide_eq_true (by omega)
       have d3:decide (65<=(c.toNat:Int))=true:=decide_eq_true (by omega)
       have d4:decide ((c.toNat:Int)<=90)=false:=decide_eq_false (by omega)
       have d5:((c.toNat:Int) == 95)=false:=by simp; omega
       have d6:decide (48<=(c.toNat:Int))=true:=decide_eq_true (by omega)
       have d7:decide ((c.toNat:Int)<=57)=false:=decide_eq_false (by omega)
       have hL:bK c.toNat=false:=by unfold bK; rw [d1,d2,d3,d4]; rfl
       have hW:bB c=false:=by unfold bB eO fX; rw [hL,d5,d6,d7]; rfl
       rcases Nat.eq_zero_or_pos i with h0 | h0
       · have hz:((i:Int) == 0)=true:=by simp; omega
         simp (maxSteps:=1000000) -dsimp only [go_sem,hg,hc,aI,forall_eq',Int.toNat_natCast,d1,d3,d4,d5,d6,hz,Bool.true_and,Bool.and_true,Bool.false_and,Bool.and_false,Bool.not_true,Bool.not_false]
         repeat' first | intro _ | apply And.intro
         all_goals first | omega | (rename_i h9; simp at h9; done) | skip
         all_goals exact bad (by rw [hL,hW]; exact .inl ⟨h0,rfl⟩)
       · have hz:((i:Int) == 0)=false:=by simp; omega
         simp (maxSteps:=1000000) -dsimp only [go_sem,hg,hc,aI,forall_eq',Int.toNat_natCast,d1,d3,d4,d5,d6,d7,hz,Bool.true_and,Bool.and_true,Bool.false_and,Bool.not_false]
         repeat' first | intro _ | apply And.intro
         all_goals first | omega | (rename_i h9; simp at h9; done) | skip
         all_goals exact bad (by rw [hL,hW]; exact .inr rfl)
     · have d1:decide (97<=(c.toNat:Int))=false:=decide_eq_false (by omega)
       have d2:decide ((c.toNat:Int)<=122)=true:=decide_eq_true (by omega)
       have d3:decide (65<=(c.toNat:Int))=true:=decide_eq_true (by omega)
       have d4:decide ((c.toNat:Int)<=90)=false:=decide_eq_false (by omega)
       have d5:((c.toNat:Int) == 95)=true:=by simp; omega
       have d6:decide (48<=(c.toNat:Int))=true:=decide_eq_true (by omega)
       have d7:decide ((c.toNat:Int)<=57)=false:=decide_eq_false (by omega)
       have hL:bK c.toNat=false:=by unfold bK; rw [d1,d2,d3,d4]; rfl
       have hW:bB c=true:=by unfold bB eO fX; rw [hL,d5,d6,d7]; rfl
       rcases Nat.eq_zero_or_pos i with h0 | h0
       · have hz:((i:Int) == 0)=true:=by simp; omega
         simp (maxSteps:=1000000) -dsimp only [go_sem,hg,hc,aI,forall_eq',Int.toNat_natCast,d1,d3,d4,d5,hz,Bool.true_and,Bool.and_true,Bool.false_and,Bool.and_false,Bool.not_true,Bool.not_false]
         repeat' first | intro _ | apply And.intro
         all_goals first | omega | (rename_i h9; simp at h9; done) | skip
         all_goals exact bad (by rw [hL,hW]; exact .inl ⟨h0,rfl⟩)
       · have hz:((i:Int) == 0)=false:=by simp; omega
         simp (maxSteps:=1000000) -dsimp only [go_sem,hg,hc,aI,forall_eq',Int.toNat_natCast,d1,d3,d4,d5,hz,Bool.true_and,Bool.and_true,Bool.false_and,Bool.not_true,Bool.not_false]
         repeat' first | intro _ | apply And.intro
         all_goals first | omega | (rename_i h9; simp at h9; done) | skip
         all_goals exact aC (i + 1) 0 (cP (by rw [hW]) (fun h3=>by omega)) (by omega) (by simp -dsimp only [go_sem]; simp) (by simp [go_sem])
     · have d1:decide (97<=(c.toNat:Int))=false:=decide_eq_false (by omega)
       have d2:decide ((c.toNat:Int)<=122)=true:=decide_eq_true (by omega)
       have d3:decide (65<=(c.toNat:Int))=true:=decide_eq_true (by omega)
       have d4:decide ((c.toNat:Int)<=90)=false:=decide_eq_false (by omega)
       have d5:((c.toNat:Int) == 95)=false:=by simp; omega
       have d6:decide (48<=(c.toNat:Int))=true:=decide_eq_true (by omega)
       have d7:decide ((c.toNat:Int)<=57)=false:=decide_eq_false (by omega)
       have hL:bK c.toNat=false:=by unfold bK; rw [d1,d2,d3,d4]; rfl
       have hW:bB c=false:=by unfold bB eO fX; rw [hL,d5,d6,d7]; rfl
       rcases Nat.eq_zero_or_pos i with h0 | h0
       · have hz:((i:Int) == 0)=true:=by simp; omega
         simp (maxSteps:=1000000) -dsimp only [go_sem,hg,hc,aI,forall_eq',Int.toNat_natCast,d1,d3,d4,d5,d6,hz,Bool.true_and,Bool.and_true,Bool.false_and,Bool.and_false,Bool.not_true,Bool.not_false]
         repeat' first | intro _ | apply And.intro
         all_goals first | omega | (rename_i h9; simp at h9; done) | skip
         all_goals exact bad (by rw [hL,hW]; exact .inl ⟨h0,rfl⟩)
       · have hz:((i:Int) == 0)=false:=by simp; omega
         simp (maxSteps:=1000000) -dsimp only [go_sem,hg,hc,aI,forall_eq',Int.toNat_natCast,d1,d3,d4,d5,d6,d7,hz,Bool.true_and,Bool.and_true,Bool.false_and,Bool.not_false]
         repeat' first | intro _ | apply And.intro
         all_goals first | omega | (rename_i h9; simp at h9; done) | skip
         all_goals exact bad (by rw [hL,hW]; exact .inr rfl)
     · have d1:decide (97<=(c.toNat:Int))=true:=decide_eq_true (by omega)
       have d2:decide ((c.toNat:Int)<=122)=true:=decide_eq_true (by omega)
       have d3:decide (65<=(c.toNat:Int))=true:=decide_eq_true (by omega)
       have d4:decide ((c.toNat:Int)<=90)=false:=decide_eq_false (by omega)
       have d5:((c.toNat:Int) == 95)=false:=by simp; omega
       have d6:decide (48<=(c.toNat:Int))=true:=decide_eq_true (by omega)
       have d7:decide ((c.toNat:Int)<=57)=false:=decide_eq_false (by omega)
       have hL:bK c.toNat=true:=by unfold bK; rw [d1,d2,d3,d4]; rfl
       have hW:bB c=true:=by unfold bB eO fX; rw [hL,d5,d6,d7]; rfl
       rcases Nat.eq_zero_or_pos i with h0 | h0
       · have hz:((i:Int) == 0)=true:=by simp; omega
         simp (maxSteps:=1000000) -dsimp only [go_sem,hg,hc,aI,forall_eq',Int.toNat_natCast,d1,d2,d5,d6,hz,Bool.true_and,Bool.and_true,Bool.false_and,Bool.and_false,Bool.not_true,Bool.not_false]
         repeat' first | intro _ | apply And.intro
         all_goals first | omega | (rename_i h9; simp at h9; done) | skip
         all_goals exact aC (i + 1) 0 (cP (by rw [hW]) (fun h3=>by rw [hL])) (by omega) (by simp -dsimp only [go_sem]; simp) (by simp [go_sem])
       · have hz:((i:Int) == 0)=false:=by simp; omega
         simp (maxSteps:=1000000) -dsimp only [go_sem,hg,hc,aI,forall_eq',Int.toNat_natCast,d1,d2,d5,d6,d7,hz,Bool.true_and,Bool.and_true,Bool.false_and,Bool.not_true,Bool.not_false]
         repeat' first | intro _ | apply And.intro
         all_goals first | omega | (rename_i h9; simp at h9; done) | skip
         all_goals exact aC (i + 1) 0 (cP (by rw [hW]) (fun h3=>by rw [hL])) (by omega) (by simp -dsimp only [go_sem]; simp) (by simp [go_sem])
     · have d1:decide (97<=(c.toNat:Int))=true:=decide_eq_true (by omega)
       have d2:decide ((c.toNat:Int)<=122)=false:=decide_eq_false (by omega)
       have d3:decide (65<=(c.toNat:Int))=true:=decide_eq_true (by omega)
       have d4:decide ((c.toNat:Int)<=90)=false:=decide_eq_false (by omega)
       have d5:((c.toNat:Int) == 95)=false:=by simp; omega
       have d6:decide (48<=(c.toNat:Int))=true:=decide_eq_true (by omega)
       have d7:decide ((c.toNat:Int)<=57)=false:=decide_eq_false (by omega)
       have hL:bK c.toNat=false:=by unfold bK; rw [d1,d2,d3,d4]; rfl
       have hW:bB c=false:=by unfold bB eO fX; rw [hL,d5,d6,d7]; rfl
       rcases Nat.eq_zero_or_pos i with h0 | h0
       · have hz:((i:Int) == 0)=true:=by simp; omega
         simp (maxSteps:=1000000) -dsimp only [go_sem,hg,hc,aI,forall_eq',Int.toNat_natCast,d1,d2,d3,d4,d5,d6,hz,Bool.true_and,Bool.and_true,Bool.and_false,Bool.not_true,Bool.not_false]
         repeat' first | intro _ | apply And.intro
         all_goals first | omega | (rename_i h9; simp at h9; done) | skip
         all_goals exact bad (by rw [hL,hW]; exact .inl ⟨h0,rfl⟩)
       · have hz:((i:Int) == 0)=false:=by simp; omega
         simp (maxSteps:=1000000) -dsimp only [go_sem,hg,hc,aI,forall_eq',Int.toNat_natCast,d1,d2,d3,d4,d5,d6,d7,hz,Bool.true_and,Bool.and_true,Bool.not_false]
         repeat' first | intro _ | apply And.intro
         all_goals first | omega | (rename_i h9; simp at h9; done) | skip
         all_goals exact bad (by rw [hL,hW]; exact .inr rfl)
   · have hg:decide ((i:Int) < ((bl s).length:Int))=false:=by simp; omega
     obtain rfl:i=(bl s).length:=by omega
     obtain ⟨c,hc⟩:∃ c,(bl s)[0]? = some c:=⟨_,a7 hl0⟩
     simp (maxSteps:=1000000) -dsimp only [go_sem,hg]
     refine cA hK ?_
     rw [EK hc hl (hb hl0 c hc) fun j x hx=>ha j x (bC.1 hx).1 hx]
theorem H0:Meets Tryz.prog 85 (y8 fun l=>.bool (vW l)).sp:=by
 refine aE Tryz.func85 aQT 1 (by rw [Tryz.ntmps85]; decide) (aG yG (aA _)) sO ?_
 rintro xs H K ⟨⟨h,rfl⟩,hK⟩
 obtain ⟨s,rfl⟩:=jZ h
 have hK':K (.va (.c1 (.vl (.bool (vW (bl s)))))) []:=hK
 clear hK h
 unfold vW at hK'
 cases hn:c8 (bl s) with
 | false=>
  rw [hn] at hK'
  simp -dsimp only [go_sem,VR,VK,hn]
  exact .done hK'
 | true=>
  cases hl:bl s with
  | nil=>rw [hl] at hn; cases hn
  | cons c r=>
   rw [hl] at hn hK'
   rw [hn] at hK'
   simp -dsimp only [go_sem,VR,VK,hl,hn]
   refine ⟨by omega,fun d hd=>⟨fun _=>by omega,fun e he=>?_⟩⟩
   subst hd
   cases hc:decide (65<=(c.toNat:Int)) with
   | false=>simp only [hc,Bool.true_and,Bool.false_and] at hK'; exact .done hK'
   | true=>
    obtain rfl:=he hc
    simp only [hc,Bool.true_and] at hK'; exact .done hK'
theorem aAV:Meets Tryz.prog 116 (wN fH C.ty fun t=>.bool ((t.e.length:Int) == 0)).sp:=by
 refine aE Tryz.func116 aJ7 1 (by rw [Tryz.ntmps116]; decide) (aA _) uW ?_
 rintro av H K ⟨⟨h,rfl⟩,hK⟩
 obtain ⟨_,rfl,t,rfl,ht⟩:=jD h
 have hK:K (bS ((t.e.length:Int) == 0)) []:=by
  have:(wN fH C.ty fun t=>.bool ((t.e.length:Int) == 0)).val [.va (.gs (aQ t))]=bA ((t.e.length:Int) == 0):=by simp -dsimp only [go_sem]
  rw [this] at hK; exact hK
 simp (maxSteps:=1000000) -dsimp only [go_sem,aJ,WK,ZU]
 exact .sel [] (by simp) (by simp) rfl (.done (by simpa [go_sem] using hK))
def FU:List S->Prop:=fun av=>match av with
 | [.va (.c1 (.fz rs)),.va (.c1 (.vl (.int .i64 k))),.va (.c1 (.vl (.string _)))]=>BN rs/\0<=k/\k<=9223372036854775807
 | _=>False
theorem rS {av:List S} (h:FU av):∃ (l:List ByteArray) (n:Nat) (x:ByteArray),av=[.va (.c1 (.fz (l.map bM))),iS .i64 n,tS x]/\l.length<=9223372036854775807/\(n:Int)<=9223372036854775807:=by
 unfold FU at h
 split at h
 · obtain ⟨⟨l,rfl,h1⟩,h2,h3⟩:=h
   rename_i k x
   exact ⟨l,k.toNat,x,by rw [Int.toNat_of_nonneg h2],h1,by omega⟩
 · exact h.elim
noncomputable def WH:List S->A:=fun av=>match av with
 | [.va (.c1 (.fz rs)),.va (.c1 (.vl (.int .i64 k))),.va (.c1 (.vl (.string x)))]=>bA (dM ((rs.map C.bs).take k.toNat) x)
 | _=>.gs []
noncomputable def inFn:Fun:=⟨FU,WH,fun av h=>by obtain ⟨l,n,x,rfl,_⟩:=rS h; trivial⟩
theorem U2:∀ av H K,inFn.sp av H K->av.length=3:=fun av H K h=>by obtain ⟨l,n,x,rfl,_⟩:=rS h.1.1; rfl
attribute [go_sem] inFn FU WH
theorem V2:Meets Tryz.prog 50 inFn.sp:=by
 refine aE Tryz.func50 aRR 3 (by rw [Tryz.ntmps50]; decide) (aA _) U2 ?_
 rintro av H K ⟨⟨h,rfl⟩,hK⟩
 obtain ⟨l,n,x,rfl,hl,hn⟩:=rS h
 have hK:K (bS (dM (l.take n) x)) []:=by
  have:inFn.val [.va (.c1 (.fz (l.map bM))),iS .i64 n,tS x]=bA (dM (l.take n) x):=by simp -dsimp only [go_sem,Int.toNat_natCast]
  rw [this] at hK; exact hK
 clear h
 simp (maxSteps:=1000000) -dsimp only [go_sem,aIP,aGN]
 refine aK (α:=Nat) (fun i=>[(0,.va (.c1 (.fz (l.map bM)))),(1,iS .i64 n),(2,tS x),(7,iS .i64 i)]) (fun _=>[])
  (fun i=>i<=(l.take n).length/\dM ((l.take n).drop i) x=dM (l.take n) x) (fun i=>l.length - i) 0 0 ⟨Nat.zero_le _,rfl⟩ ?_ ?_ ?_
 · simp [go_sem]
 · simp [go_sem]
 rintro i ⟨hi,ho⟩
 have hlt0:(l.take n).length=min n l.length:=by simp
 rcases bF i (l.take n).length with hlt | hge
 · have g1:decide ((i:Int) < (n:Int))=true:=by simp; omega
   have g2:decide ((i:Int) < (l.length:Int))=true:=by simp; omega
   obtain ⟨y,hx⟩:∃ y,l[i]? = some y:=⟨_,a7 (by omega)⟩
   have hx':(l.take n)[i]? = some y:=by rw [List.getElem?_take,if_pos (by omega)]; exact hx
   have q2:=aV (row:=bM) hx
   rw [dM,iI hx'] at ho
   simp (maxSteps:=1000000) -dsimp only [go_sem,g1,g2,↓q2,dC]
   have hsy:decide (y=x)=decide (x=y):=by simp [eq_comm]
   refine ⟨by omega,fun hc=>?_,fun hc=>⟨by omega,aC (i + 1) 0 ⟨by omega,?_⟩ (by omega) ?_ ?_⟩⟩
   · rw [<-hsy,hc,Bool.true_or] at ho
     rw [<-ho] at hK
     exact .done hK
   · rw [<-hsy,hc,Bool.false_or] at ho
     exact ho
   · simp [go_sem]
   · simp [go_sem]
 · obtain rfl:i=(l.take n).length:=by omega
   rw [dM,pU] at ho
   rw [<-ho] at hK
   generalize hm:(l.take n).length=m at *
   rcases bF m n with h1 | h1
   · have g1:decide ((m:Int) < (n:Int))=true:=by simp; omega
     have g2:decide ((m:Int) < (l.length:Int))=false:=by simp; omega
     simp (maxSteps:=1000000) -dsimp only [go_sem,g1,g2]
     exact .done hK
   · have g1:decide ((m:Int) < (n:Int))=false:=by simp; omega
     simp (maxSteps:=1000000) -dsimp only [go_sem,g1]
     exact .done hK
theorem xB:Meets Tryz.prog 69 kR:=by
 refine aE Tryz.func69 aQ4 2 (by rw [Tryz.ntmps69]; decide) (aA _) (fun av H K h=>by obtain ⟨_,_,rfl,_⟩:=h; rfl) ?_
 rintro av H K ⟨s,n,rfl,rfl,hs,hK⟩
 rw [<-tO] at hK
 have hl:=hs.ok.ls
 simp -dsimp only [go_sem,aF,aH2,aHD]
 refine aK (α:=Nat) (fun i=>[(1,tS n),(2,.va (.c1 (.pt 0 0))),(4,.va (.c1 (.pt 1 0))),(6,iS .i64 i)]) (fun _=>[.cells (aF s) 25,.cells [.vl (.string (mk [])),.vl (.slice none 0 0)] 95])
  (fun i=>i<=s.ss.length/\fS (s.ss.drop i) n=fS s.ss n) (fun i=>s.ss.length - i) 0 2 ⟨Nat.zero_le _,rfl⟩ ?_ ?_ ?_
 · simp [go_sem]
 · simp [go_sem,aF]
 rintro i ⟨hi,ho⟩
 rcases bF i s.ss.length with hlt | hge
 · have hg:decide ((i:Int) < (s.ss.length:Int))=true:=by simp; omega
   obtain ⟨t,hx⟩:∃ e,s.ss[i]? = some e:=⟨_,a7 hlt⟩
   have q2:=aV (row:=aR) hx
   rw [fS,iG hx] at ho
   cases hc:decide (t.nm=n) with
   | true=>
    rw [hc,aN] at ho
    rw [<-ho] at hK
    simp (maxSteps:=1000000) -dsimp only [go_sem,hg,↓q2,aR,aF,dC,hc]
    refine ⟨by omega,by omega,.sel [] (by simp) (by simp) rfl (.done (by simpa [go_sem,aR] using hK))⟩
   | false=>
    rw [hc,aH] at ho
    simp (maxSteps:=1000000) -dsimp only [go_sem,hg,↓q2,aR,aF,dC,hc]
    refine ⟨by omega,by omega,aC (i + 1) 2 ⟨by omega,ho⟩ (by omega) ?_ ?_⟩
    · simp [go_sem]
    · simp [go_sem,aF]
 · have hg:decide ((i:Int) < (s.ss.length:Int))=false:=by simp; omega
   obtain rfl:i=s.ss.length:=by omega
   rw [List.drop_length] at ho
   rw [<-ho] at hK
   simp -dsimp only [go_sem,hg,aF]
   exact .sel [] (by simp) (by simp) rfl (.done (by simpa [go_sem,fS,C0] using hK))
def qW:W.Spec:=fun av H K=>∃ (s:Sc) (n:ByteArray),av=[.va (.gs (aF s)),tS n]/\H=[]/\s.fit/\K (.tu [.gs (bG ((dJ s.es n).getD default)),bA (f9 s.es n)]) []
theorem kC {s:Sc} {n:ByteArray} {K:S->Hp->Prop} (h:s.fit) (hK:K (.tu [.gs (bG ((dJ s.es n).getD default)),bA (f9 s.es n)]) []):qW [.va (.gs (aF s)),tS n] [] K:=⟨s,n,rfl,rfl,h,hK⟩
theorem BW:bG default=[.vl (.string (mk [])),.fz [],.fz []]:=rfl
theorem HR:Meets Tryz.prog 76 qW:=by
 refine aE Tryz.func76 aQD 2 (by rw [Tryz.ntmps76]; decide) (aA _) (fun av H K h=>by obtain ⟨_,_,rfl,_⟩:=h; rfl) ?_
 rintro av H K ⟨s,n,rfl,rfl,hs,hK⟩
 rw [<-uG] at hK
 have hl:=hs.ok.le
 simp -dsimp only [go_sem,aF,aET,aIY]
 refine aK (α:=Nat) (fun i=>[(1,tS n),(2,.va (.c1 (.pt 0 0))),(4,.va (.c1 (.pt 1 0))),(6,iS .i64 i)]) (fun _=>[.cells (aF s) 25,.cells [.vl (.string (mk [])),.vl (.slice none 0 0),.vl (.slice none 0 0)] 92])
  (fun i=>i<=s.es.length/\dJ (s.es.drop i) n=dJ s.es n) (fun i=>s.es.length - i) 0 2 ⟨Nat.zero_le _,rfl⟩ ?_ ?_ ?_
 · simp [go_sem]
 · simp [go_sem,aF]
 rintro i ⟨hi,ho⟩
 rcases bF i s.es.length with hlt | hge
 · have hg:decide ((i:Int) < (s.es.length:Int))=true:=by simp; omega
   obtain ⟨t,hx⟩:∃ e,s.es[i]? = some e:=⟨_,a7 hlt⟩
   have q2:=aV (row:=bG) hx
   rw [dJ,iG hx] at ho
   cases hc:decide (t.nm=n) with
   | true=>
    rw [hc,aN] at ho
    rw [<-ho] at hK
    simp (maxSteps:=1000000) -dsimp only [go_sem,hg,↓q2,bG,aF,dC,hc]
    refine ⟨by omega,by omega,.sel [] (by simp) (by simp) rfl (.done (by simpa [go_sem,bG] using hK))⟩
   | false=>
    rw [hc,aH] at ho
    simp (maxSteps:=1000000) -dsimp only [go_sem,hg,↓q2,bG,aF,dC,hc]
    refine ⟨by omega,by omega,aC (i + 1) 2 ⟨by omega,ho⟩ (by omega) ?_ ?_⟩
    · simp [go_sem]
    · simp [go_sem,aF]
 · have hg:decide ((i:Int) < (s.es.length:Int))=false:=by simp; omega
   obtain rfl:i=s.es.length:=by omega
   rw [List.drop_length] at ho
   rw [<-ho] at hK
   simp -dsimp only [go_sem,hg,aF]
   exact .sel [] (by simp) (by simp) rfl (.done (by simpa [go_sem,dJ,BW] using hK))
end Go.Proofs.YtkpohmhenegkiaaGreatDoor
namespace Go.Proofs
open Go.Shelf
def Tryz.lays16_ren:Go.Shelf.Ren:=⟨fun | 16=>126 | n=>n,fun | 24=>89 | n=>n,fun | n=>n⟩
theorem Tryz.lays16:Go.Proofs.Lays2.n16 Tryz.prog Tryz.lays16_ren:={
 mixed:=by kernel_rfl
 f16:=Tryz.func126.trans (congrArg some (by kernel_rfl))
 t4:=Tryz.underlying4
 a4:=Tryz.isAgg4
 z4:=Tryz.sizeOf4
 v4:=Tryz.zeroValue4
 t9:=Tryz.underlying9
 a9:=Tryz.isAgg9
 z9:=Tryz.sizeOf9
 v9:=Tryz.zeroValue9
 t24:=Tryz.underlying89
 a24:=Tryz.isAgg89
 z24:=Tryz.sizeOf89
 v24:=Tryz.zeroValue89
 i9:=by kernel_rfl }
def Tryz.lays15_ren:Go.Shelf.Ren:=⟨fun | 15=>127 | n=>n,fun | 22=>90 | n=>n,fun | n=>n⟩
theorem Tryz.lays15:Go.Proofs.Lays2.n15 Tryz.prog Tryz.lays15_ren:={
 mixed:=by kernel_rfl
 f15:=Tryz.func127.trans (congrArg some (by kernel_rfl))
 t3:=Tryz.underlying3
 a3:=Tryz.isAgg3
 z3:=Tryz.sizeOf3
 v3:=Tryz.zeroValue3
 t4:=Tryz.underlying4
 a4:=Tryz.isAgg4
 z4:=Tryz.sizeOf4
 v4:=Tryz.zeroValue4
 t22:=Tryz.underlying90
 a22:=Tryz.isAgg90
 z22:=Tryz.sizeOf90
 v22:=Tryz.zeroValue90
 i3:=by kernel_rfl }
end Go.Proofs
namespace Go.Proofs.YtkpohmhenegkiaaGreatDoor
open Go.W Go.RowKit
theorem aBI {X:Ctx} {E:Es} {ro:RO} {w w':World} (h:Rel X E ro w) {blk:B} {g:Gb} (hb:∀ k,k < w.heap.size->w'.heap[k]? = w.heap[k]?) (hsz:w.heap.size<=w'.heap.size)
 (h1:w'.os=w.os) (h2:w'.tape=w.tape) (h3:w'.output=w.output) (hob:∀ b,g.ob=some b->w.heap.size<=b) (hon:blk.On (gm (E ++ [(g,blk)])) ro w' g):Rel X (E ++ [(g,blk)]) ro w':=by
 have hext:GExt (gm E) (gm (E ++ [(g,blk)])):=cY _
 have hget:∀ (n:Nat) (y:Gb × B),(E ++ [(g,blk)])[n]? = some y->(n=E.length/\y=(g,blk))\/(n < E.length/\E[n]? = some y):=by
  intro n y hy
  rw [List.getElem?_append] at hy
  split at hy
  · exact .inr ⟨by assumption,hy⟩
  · have:n - E.length=0:=by
     rcases Nat.eq_zero_or_pos (n - E.length) with h0 | h0
     · exact h0
     · rw [List.getElem?_eq_none (by simp; omega)] at hy; cases hy
    rw [this] at hy
    exact .inl ⟨by omega,by simpa using hy.symm⟩
 have old:∀ (n k:Nat) (gn:Gb) (bk:B),E[n]? = some (gn,bk)->gn.ob=some k->bk.live=true->k < w.heap.size:=fun n k gn bk hy hk hl=>(h.own n _ bk hy).lt hl hk
 refine ⟨fun n g' bk hy=>?_,fun n m gn gm bn bm k hy hz en em ln lm=>?_,fun k off c hc n gn bk hy en=>?_,fun k off c hc=>?_,h.ro0,h.rob,fun n k gn bk hy en ln=>?_,h.gx.trans hext,Nat.le_trans h.sz hsz,fun k hk hp=>?_,by rw [h1]; exact h.os,by rw [h2]; exact h.tape,by rw [h3]; exact h.output⟩
 · rcases hget n _ hy with ⟨rfl,he⟩ | ⟨hlt,hy'⟩
   · simp only [Prod.mk.injEq] at he; obtain ⟨rfl,rfl⟩:=he; exact hon
   · by_cases hlv:bk.live=true
     · exact (h.own n g' bk hy').same hext (Ext.refl _) fun k hk=>hb k (old n k g' bk hy' hk hlv)
     · cases bk<;>simp [B.live] at hlv; trivial
 · rcases hget n _ hy with ⟨rfl,he⟩ | ⟨hlt,hy'⟩<;>rcases hget m _ hz with ⟨rfl,he2⟩ | ⟨hlt2,hz'⟩
   · rfl
   · simp only [Prod.mk.injEq] at he; obtain ⟨rfl,rfl⟩:=he; have:=old m k gm bm hz' em lm; have:=hob k en; omega
   · simp only [Prod.mk.injEq] at he2; obtain ⟨rfl,rfl⟩:=he2; have:=old n k gn bn hy' en ln; have:=hob k em; omega
   · exact h.inj n m gn gm bn bm k hy' hz' en em ln lm
 · rcases hget n _ hy with ⟨rfl,he⟩ | ⟨hlt,hy'⟩
   · simp only [Prod.mk.injEq] at he; obtain ⟨rfl,rfl⟩:=he; have:=h.cell_lt hc; have:=hob k en; omega
   · exact h.apart k off c hc n gn bk hy' en
 · have:=h.rd k off c hc
   rw [<-this]
   simp only [World.cell?,hb k (h.cell_lt hc)]
 · rcases hget n _ hy with ⟨rfl,he⟩ | ⟨hlt,hy'⟩
   · simp only [Prod.mk.injEq] at he; obtain ⟨rfl,rfl⟩:=he; have:=hob k en; have:=h.sz; exact .inl (by omega)
   · exact h.par n k gn bk hy' en ln
 · rw [hb k (by have:=h.sz; omega)]
   exact h.keep k hk hp
theorem LE {X:Ctx} {ro:RO} {w w':World} (h:Rel X [] ro w) (hX:X.g0.length=0) {T:TypeId} {v:Value} {cs:List Value} (hne:cs ≠ []) (_hone:∀ u ∈ cs,u.oneCell'=true) (ho:w'.ownsRow w.heap.size T 1 v cs.length cs) (hb:Below w.heap.size w w') {K:S->Hp->Prop} (hK:K (.va (.c1 (.fz (cs.map fun u=>[C.vl u])))) []) :
 ∃ r' E' ro',K r' (hp E')/\r'.rel (gm E') ro' v/\Rel X E' ro' w':=by
 have hlen:0 < cs.length:=List.length_pos_iff.2 hne
 obtain ⟨h1,h2⟩:=ho
 rcases h2 with ⟨_,h0⟩ | ⟨b,cap,cur,rfl,hbb,hcell,hcap,hmax,hcs,htk⟩
 · omega
 have hfl:(cs.map fun u=>[C.vl u]).flatten=cs.map C.vl:=by
  clear h1 hlen hcap htk hK hne _hone
  induction cs with
  | nil=>rfl
  | cons x l ih=>rw [List.map_cons,List.flatten_cons,ih]; rfl
 let g:Gb:=⟨some b,true,cs.length,cap,T,cs⟩
 have hR:Rel X ([] ++ [(g,.row (cs.map fun u=>[C.vl u]) T 1)]) ro w':=by
  refine aBI h (fun k hk=>hb.block k hk) hb.size hb.os hb.tape hb.output (fun b' hb'=>by cases hb'; exact hbb) ⟨rfl,by simp [g],fun x hx=>?_,fun c hc=>?_,⟨by simp [g],.inr ⟨b,cap,cur,?_,Nat.zero_le _,hcell,by simp; exact hcap,hmax,hcs,?_⟩⟩,?_,fun b' _=>(by show 0 < cap; omega)⟩
  · obtain ⟨y,_,rfl⟩:=List.mem_map.1 hx; rfl
  · rw [hfl] at hc; obtain ⟨y,_,rfl⟩:=List.mem_map.1 hc; rfl
  · simp [bI,g]
  · rw [List.length_map]; exact htk
  · rw [hfl]
    refine ⟨by simp [g],fun i x y hx hy=>?_⟩
    rw [List.getElem?_map] at hx
    have hy:cs[i]? = some y:=hy
    rw [hy] at hx
    cases hx; rfl
 refine EG (X:=X) (k0:=0) hX (r:=.va (.c1 (.sl 0 (cs.map fun u=>[C.vl u]).length))) (.pub 0 _ T 1 (by rfl) (.sel [] (by simp) (by simp [cT]) rfl (.done ?_))) rfl ?_ hR
 · simp -dsimp only [go_sem,cT]; simpa using hK
 · refine ⟨g,rfl,rfl,by simp [g],⟨_,_,_,rfl⟩,fun _=>?_⟩
   simp [g,bI]
theorem oT {X:Ctx} {ro:RO} {w w':World} (h:Rel X [] ro w) {o:Option Addr} {c:Nat} (hb:Below w.heap.size w w') {K:S->Hp->Prop} (hK:K (.va (.c1 (.fz []))) []) :
 ∃ r' E' ro',K r' (hp E')/\r'.rel (gm E') ro' (.slice o 0 c)/\Rel X E' ro' w':=
 ⟨.va (.c1 (.fz [])),[],ro,hK,FzR.mk (ro:=ro) [] 1 none o (fun h=>absurd rfl h) c (fun _=>undef) (by simp) (Nat.zero_le _) (by simp) (by simp) (by simp) (by simp) (by simp),h.aside (fun k hk=>hb.block k hk) hb.size hb.os hb.tape hb.output⟩
def XV:W.Spec:=fun av H K=>∃ l:List ByteArray,av=[.va (.c1 (.fz (l.map bM)))]/\H=[]/\l.length<=1000000000/\K (.va (.c1 (.fz (l.map bM)))) []
theorem aB3 {l:List ByteArray} {K:S->Hp->Prop} (h:l.length<=1000000000) (hK:K (.va (.c1 (.fz (l.map bM)))) []):XV [.va (.c1 (.fz (l.map bM)))] [] K:=⟨l,rfl,rfl,h,hK⟩
theorem TO (l:List ByteArray):(l.map bM).flatten=(l.map Value.string).map C.vl:=by
 induction l with
 | nil=>rfl
 | cons x l ih=>rw [List.map_cons,List.flatten_cons,ih]; rfl
theorem S7 (l:List ByteArray):(l.map Value.string).map (fun u=>[C.vl u])=l.map bM:=by rw [List.map_map]; rfl
theorem aQP:Meets Tryz.prog 126 XV:=by
 refine ⟨by kernel_rfl,fun av vs E ro w K hlen hrel hR hs _=>?_⟩
 obtain ⟨l,rfl,hH,hl,hK⟩:=hs
 match E,hH with
 | [],_=>
  match vs,hlen with
  | [v0],_=>
   have r0:FzR ro (l.map bM) v0:=hrel 0 _ _ rfl rfl
   cases hl0:l with
   | nil=>
    subst hl0
    generalize hx:([]:List ByteArray).map bM=xs at r0
    cases r0 with
    | mk xs sz o oa hoa cap us hz hc ho h1 h2 h3 h4=>
     subst hx
     have hK:K (.va (.c1 (.fz []))) []:=hK
     cases oa with
     | none=>
      refine (Any.slices_Clone_string_nil Tryz.lays16 0 cap w).mono ?_
      rintro e w' ⟨rfl,rfl⟩
      obtain ⟨r',E',ro',a1,a2,a3⟩:=oT (o:=none) (c:=0) hR (Below.refl _ _) hK
      exact ⟨r',_,E',ro',rfl,a2,a1,a3⟩
     | some a=>
      refine (Any.slices_Clone_string_zero Tryz.lays16 a cap w).mono ?_
      rintro e w' ⟨v',rfl,hown,_,hb⟩
      obtain ⟨o',c',rfl⟩:∃ o' c',v'=.slice o' 0 c':=by
       rcases hown.2 with ⟨rfl,_⟩ | ⟨b,c',cur,rfl,_⟩
       · exact ⟨none,0,rfl⟩
       · exact ⟨_,c',rfl⟩
      obtain ⟨r',E',ro',a1,a2,a3⟩:=oT (o:=o') (c:=c') hR hb hK
      exact ⟨r',_,E',ro',rfl,a2,a1,a3⟩
   | cons x0 lt=>
    have hne:l ≠ []:=by rw [hl0]; exact List.cons_ne_nil _ _
    clear hl0
    generalize hx:l.map bM=xs at r0
    cases r0 with
    | mk xs sz o oa hoa cap us hz hc ho h1 h2 h3 h4=>
     subst hx
     have hne2:l.map bM ≠ []:=by simpa using hne
     obtain ⟨⟨b,off⟩,rfl⟩:=Option.isSome_iff_exists.1 (ho hne2)
     obtain rfl:=hoa hne2
     have hcell:∀ j,j < l.length->w.cell? ⟨b,off + j,none⟩=some (Value.string (l.getD j ByteArray.empty)):=fun j hj=>by
      have hf:(l.map bM).flatten[j]? = some (.vl (Value.string (l.getD j ByteArray.empty))):=by
       rw [TO,List.getElem?_map,List.getElem?_map,a7 hj]
       simp [hj]
      have e1:=h1 j _ hf
      have e2:=h2 j _ hf
      rw [e2] at e1
      exact hR.rd b (off + j) _ e1
     have key:=Any.slices_Clone_string Tryz.lays16 b off l.length cap l w (Nat.le_refl _) (by omega) hcell
     rw [List.take_length] at key
     rw [List.length_map]
     refine key.mono ?_
     rintro e w' ⟨v',rfl,hown,_,hb⟩
     rw [<-List.length_map (f:=Value.string)] at hown
     obtain ⟨r',E',ro',a1,a2,a3⟩:=LE hR rfl (cs:=l.map Value.string) (by simpa using hne) (fun u hu=>by obtain ⟨y,_,rfl⟩:=List.mem_map.1 hu; rfl) hown hb (by rw [S7]; exact hK)
     exact ⟨r',_,E',ro',rfl,a2,a1,a3⟩
def XM:W.Spec:=fun av H K=>∃ l:List Int,av=[.va (.c1 (.fz (l.map cH)))]/\H=[]/\l.length<=1000000000/\K (.va (.c1 (.fz (l.map cH)))) []
theorem aCD {l:List Int} {K:S->Hp->Prop} (h:l.length<=1000000000) (hK:K (.va (.c1 (.fz (l.map cH)))) []):XM [.va (.c1 (.fz (l.map cH)))] [] K:=⟨l,rfl,rfl,h,hK⟩
theorem VD (l:List Int):(l.map cH).flatten=(l.map (Value.int .i64)).map C.vl:=by
 induction l with
 | nil=>rfl
 | cons x l ih=>rw [List.map_cons,List.flatten_cons,ih]; rfl
theorem U8 (l:List Int):(l.map (Value.int .i64)).map (fun u=>[C.vl u])=l.map cH:=by rw [List.map_map]; rfl
theorem aRC:Meets Tryz.prog 127 XM:=by
 refine ⟨by kernel_rfl,fun av vs E ro w K hlen hrel hR hs _=>?_⟩
 obtain ⟨l,rfl,hH,hl,hK⟩:=hs
 match E,hH with
 | [],_=>
  match vs,hlen with
  | [v0],_=>
   have r0:FzR ro (l.map cH) v0:=hrel 0 _ _ rfl rfl
   cases hl0:l with
   | nil=>
    subst hl0
    generalize hx:([]:List Int).map cH=xs at r0
    cases r0 with
    | mk xs sz o oa hoa cap us hz hc ho h1 h2 h3 h4=>
     subst hx
     have hK:K (.va (.c1 (.fz []))) []:=hK
     cases oa with
     | none=>
      refine (Any.slices_Clone_int_nil Tryz.lays15 0 cap w).mono ?_
      rintro e w' ⟨rfl,rfl⟩
      obtain ⟨r',E',ro',a1,a2,a3⟩:=oT (o:=none) (c:=0) hR (Below.refl _ _) hK
      exact ⟨r',_,E',ro',rfl,a2,a1,a3⟩
     | some a=>
      refine (Any.slices_Clone_int_zero Tryz.lays15 a cap w).mono ?_
      rintro e w' ⟨v',rfl,hown,_,hb⟩
      obtain ⟨o',c',rfl⟩:∃ o' c',v'=.slice o' 0 c':=by
       rcases hown.2 with ⟨rfl,_⟩ | ⟨b,c',cur,rfl,_⟩
       · exact ⟨none,0,rfl⟩
       · exact ⟨_,c',rfl⟩
      obtain ⟨r',E',ro',a1,a2,a3⟩:=oT (o:=o') (c:=c') hR hb hK
      exact ⟨r',_,E',ro',rfl,a2,a1,a3⟩
   | cons x0 lt=>
    have hne:l ≠ []:=by rw [hl0]; exact List.cons_ne_nil _ _
    clear hl0
    generalize hx:l.map cH=xs at r0
    cases r0 with
    | mk xs sz o oa hoa cap us hz hc ho h1 h2 h3 h4=>
     subst hx
     have hne2:l.map cH ≠ []:=by simpa using hne
     obtain ⟨⟨b,off⟩,rfl⟩:=Option.isSome_iff_exists.1 (ho hne2)
     obtain rfl:=hoa hne2
     have hcell:∀ j,j < l.length->w.cell? ⟨b,off + j,none⟩=some (Value.int .i64 (l.getD j 0)):=fun j hj=>by
      have hf:(l.map cH).flatten[j]? = some (.vl (Value.int .i64 (l.getD j 0))):=by
       rw [VD,List.getElem?_map,List.getElem?_map,a7 hj]
       simp [hj]
      have e1:=h1 j _ hf
      have e2:=h2 j _ hf
      rw [e2] at e1
      exact hR.rd b (off + j) _ e1
     have key:=Any.slices_Clone_int Tryz.lays15 b off l.length cap l w (Nat.le_refl _) (by omega) hcell
     rw [List.take_length] at key
     rw [List.length_map]
     refine key.mono ?_
     rintro e w' ⟨v',rfl,hown,_,hb⟩
     rw [<-List.length_map (f:=(Value.int .i64))] at hown
     obtain ⟨r',E',ro',a1,a2,a3⟩:=LE hR rfl (cs:=l.map (Value.int .i64)) (by simpa using hne) (fun u hu=>by obtain ⟨y,_,rfl⟩:=List.mem_map.1 hu; rfl) hown hb (by rw [U8]; exact hK)
     exact ⟨r',_,E',ro',rfl,a2,a1,a3⟩
end Go.Proofs.YtkpohmhenegkiaaGreatDoor
namespace Go.Proofs.YtkpohmhenegkiaaGreatDoor
open Go.W
theorem yT:Meets Tryz.prog 98 qW:=by
 refine aE Tryz.func98 aTI 2 (by rw [Tryz.ntmps98]; decide) (aB aQP (aB aRC (aA _))) (fun av H K h=>by obtain ⟨_,_,rfl,_⟩:=h; rfl) ?_
 rintro av H K ⟨s,n,rfl,rfl,hs,hK⟩
 rw [<-uG] at hK
 have hl:=hs.ok.le
 simp -dsimp only [go_sem,aF,aHL,aHW]
 refine aK (α:=Nat) (fun i=>[(1,tS n),(2,.va (.c1 (.pt 0 0))),(4,.va (.c1 (.pt 1 0))),(9,.va (.c1 (.fz (s.es.map bG)))),(10,iS .i64 s.es.length),(11,iS .i64 i)]) (fun _=>[.cells (aF s) 25,.cells [.vl (.string (mk [])),.vl (.slice none 0 0),.vl (.slice none 0 0)] 92])
  (fun i=>i<=s.es.length/\dJ (s.es.drop i) n=dJ s.es n) (fun i=>s.es.length - i) 0 2 ⟨Nat.zero_le _,rfl⟩ ?_ ?_ ?_
 · simp [go_sem]
 · simp [go_sem,aF]
 rintro i ⟨hi,ho⟩
 rcases bF i s.es.length with hlt | hge
 · have hg:decide ((i:Int) < (s.es.length:Int))=true:=by simp; omega
   obtain ⟨t,hx⟩:∃ e,s.es[i]? = some e:=⟨_,a7 hlt⟩
   have q2:=aV (row:=bG) hx
   have htm:=bT hx
   rw [dJ,iG hx] at ho
   cases hc:decide (t.nm=n) with
   | true=>
    rw [hc,aN] at ho
    rw [<-ho] at hK
    simp (maxSteps:=1000000) -dsimp only [go_sem,hg,↓q2,bG,aF,dC,hc]
    refine ⟨by omega,aB3 (hs.en t htm).1 ?_⟩
    simp (maxSteps:=1000000) -dsimp only [go_sem]
    refine aCD (hs.en t htm).2 ?_
    simp (maxSteps:=1000000) -dsimp only [go_sem]
    exact .sel [] (by simp) (by simp) rfl (.done (by simpa [go_sem,bG] using hK))
   | false=>
    rw [hc,aH] at ho
    simp (maxSteps:=1000000) -dsimp only [go_sem,hg,↓q2,bG,aF,dC,hc]
    refine ⟨by omega,by omega,aC (i + 1) 2 ⟨by omega,ho⟩ (by omega) ?_ ?_⟩
    · simp [go_sem]
    · simp [go_sem,aF]
 · have hg:decide ((i:Int) < (s.es.length:Int))=false:=by simp; omega
   obtain rfl:i=s.es.length:=by omega
   rw [List.drop_length] at ho
   rw [<-ho] at hK
   simp -dsimp only [go_sem,hg,aF]
   exact .sel [] (by simp) (by simp) rfl (.done (by simpa [go_sem,dJ,BW] using hK))
noncomputable def eqB {α:Type} (a b:α):Bool:=@decide (a=b) (Classical.propDecidable _)
theorem aCS:Meets Tryz.prog 46 (wN qN C.sc fun s=>.bool (eS s)).sp:=by
 refine aE Tryz.func46 aQ0 1 (by rw [Tryz.ntmps46]; decide) (aA _) uW ?_
 rintro av H K ⟨⟨h,rfl⟩,hK⟩
 obtain ⟨_,rfl,s,rfl,hs⟩:=jD h
 have hK:K (bS (eS s)) []:=by
  have:(wN qN C.sc fun s=>.bool (eS s)).val [.va (.gs (aF s))]=bA (eS s):=by simp -dsimp only [go_sem]
  rw [this] at hK; exact hK
 obtain ⟨hv,hle,hls,hes,hss⟩:=hs
 have big:eS s=true->∀ R:Hp,W.Fin 0 K (bS true) R:=fun h R=>by
  rw [h] at hK
  exact .sel [] (by simp) (by simp) rfl (.done (by simpa [go_sem] using hK))
 cases d1:decide (16 < (s.es.length:Int)) with
 | true=>
  simp (maxSteps:=1000000) -dsimp only [go_sem,aF,G1,GM,d1]
  exact big (by unfold eS; rw [show decide (16 < s.es.length)=true by simp at d1 ⊢; omega]; simp) _
 | false=>
 cases d2:decide (16 < (s.ss.length:Int)) with
 | true=>
  simp (maxSteps:=1000000) -dsimp only [go_sem,aF,G1,GM,d1,d2]
  exact big (by unfold eS; rw [show decide (16 < s.es.length + s.ss.length)=true by simp at d2 ⊢; omega]; simp) _
 | false=>
 cases d3:decide (16 < (s.es.length:Int) + (s.ss.length:Int)) with
 | true=>
  simp (maxSteps:=1000000) -dsimp only [go_sem,aF,G1,GM,d1,d2,d3]
  exact ⟨by simp at d1 d2; omega,big (by unfold eS; rw [show decide (16 < s.es.length + s.ss.length)=true by simp at d3 ⊢; omega]; simp) _⟩
 | false=>
 simp (maxSteps:=1000000) -dsimp only [go_sem,aF,G1,GM,d1,d2,d3]
 simp only [decide_eq_false_iff_not] at d1 d2 d3
 refine ⟨by omega,?_⟩
 have hL:eS s=(s.es.any (fun e=>decide (16 < e.ns.length)) || s.ss.any (fun t=>decide (16 < t.fs.length))):=by
  unfold eS; rw [decide_eq_false (by omega),decide_eq_false (by omega)]; rfl
 refine aK (α:=Nat) (fun i=>[(1,.va (.c1 (.pt 0 0))),(3,iS .i64 i)]) (fun _=>[.cells (aF s) 25])
  (fun i=>i<=s.es.length/\(s.es.drop i).any (fun e=>decide (16 < e.ns.length))=s.es.any (fun e=>decide (16 < e.ns.length))) (fun i=>s.es.length - i) 0 1 ⟨Nat.zero_le _,rfl⟩ ?_ ?_ ?_
 · simp [go_sem]
 · simp [go_sem,aF]
 rintro i ⟨hi,ho⟩
 rcases bF i s.es.length with hlt | hge
 · have hg:decide ((i:Int) < (s.es.length:Int))=true:=by simp; omega
   obtain ⟨e,hx⟩:∃ e,s.es[i]? = some e:=⟨_,a7 hlt⟩
   have q2:=aV (row:=bG) hx
   rw [iI hx] at ho
   simp (maxSteps:=1000000) -dsimp only [go_sem,hg,↓q2,bG,aF]
   and_intros
   all_goals first
    | omega
    | skip
   · intro hc
     have hc':decide (16 < e.ns.length)=true:=by simp at hc; simp; omega
     have:eS s=true:=by simp only [hL,<-ho,hc',Bool.true_or]
     rw [this] at hK
     exact .sel [] (by simp) (by simp) rfl (.done (by simpa [go_sem] using hK))
   · intro hc
     refine ⟨by omega,aC (i + 1) 1 ⟨by omega,?_⟩ (by omega) ?_ ?_⟩
     · have hc':decide (16 < e.ns.length)=false:=by simp at hc; simp; omega
       rw [<-ho,hc',Bool.false_or]
     · simp [go_sem]
     · simp [go_sem,aF]
 · have hg:decide ((i:Int) < (s.es.length:Int))=false:=by simp; omega
   obtain rfl:i=s.es.length:=by omega
   rw [pU] at ho
   rw [<-ho,Bool.false_or] at hL
   simp (maxSteps:=1000000) -dsimp only [go_sem,hg,aF]
   refine aK (α:=Nat) (fun i=>[(1,.va (.c1 (.pt 0 0))),(4,iS .i64 i)]) (fun _=>[.cells (aF s) 25])
    (fun i=>i<=s.ss.length/\(s.ss.drop i).any (fun e=>decide (16 < e.fs.length))=s.ss.any (fun e=>decide (16 < e.fs.length))) (fun i=>s.ss.length - i) 0 1 ⟨Nat.zero_le _,rfl⟩ ?_ ?_ ?_
   · simp [go_sem]
   · simp [go_sem,aF]
   clear hi ho hge hg
   rintro i ⟨hi,ho⟩
   rcases bF i s.ss.length with hlt | hge
   · have hg:decide ((i:Int) < (s.ss.length:Int))=true:=by simp; omega
     obtain ⟨e,hx⟩:∃ e,s.ss[i]? = some e:=⟨_,a7 hlt⟩
     have q2:=aV (row:=aR) hx
     rw [iI hx] at ho
     simp (maxSteps:=1000000) -dsimp only [go_sem,hg,↓q2,aR,aF]
     and_intros
     all_goals first
      | omega
      | skip
     · intro hc
       have hc':decide (16 < e.fs.length)=true:=by simp at hc; simp; omega
       have:eS s=true:=by simp only [hL,<-ho,hc',Bool.true_or]
       rw [this] at hK
       exact .sel [] (by simp) (by simp) rfl (.done (by simpa [go_sem] using hK))
     · intro hc
       refine ⟨by omega,aC (i + 1) 1 ⟨by omega,?_⟩ (by omega) ?_ ?_⟩
       · have hc':decide (16 < e.fs.length)=false:=by simp at hc; simp; omega
         rw [<-ho,hc',Bool.false_or]
       · simp [go_sem]
       · simp [go_sem,aF]
   · have hg:decide ((i:Int) < (s.ss.length:Int))=false:=by simp; omega
     obtain rfl:i=s.ss.length:=by omega
     rw [pU] at ho
     simp (maxSteps:=1000000) -dsimp only [go_sem,hg,aF]
     rw [hL,<-ho] at hK
     exact .sel [] (by simp) (by simp) rfl (.done (by simpa [go_sem] using hK))
def GF (len:Sc->Nat):List S->Prop:=fun av=>match av with
 | [.va (.gs r),.va (.c1 (.vl (.int .i64 i)))]=>kU r/\0<=i/\i < (len (C.sc r):Int)
 | _=>False
theorem mR {len:Sc->Nat} {av:List S} (h:GF len av):∃ (s:Sc) (i:Nat),av=[.va (.gs (aF s)),iS .i64 i]/\s.fit/\i < len s:=by
 unfold GF at h
 split at h
 · obtain ⟨⟨a,rfl,ha⟩,h1,h2⟩:=h
   rw [fB] at h2
   rename_i i
   exact ⟨a,i.toNat,by rw [Int.toNat_of_nonneg h1],ha,by omega⟩
 · exact h.elim
noncomputable def WZ (f:Sc->Nat->Int):List S->A:=fun av=>match av with
 | [.va (.gs r),.va (.c1 (.vl (.int .i64 i)))]=>iA .i64 (f (C.sc r) i.toNat)
 | _=>.gs []
noncomputable def BT (len:Sc->Nat) (f:Sc->Nat->Int):Fun:=⟨GF len,WZ f,fun av h=>by obtain ⟨a,b,rfl,_⟩:=mR h; trivial⟩
theorem KC {len:Sc->Nat} {f:Sc->Nat->Int}:∀ av H K,(BT len f).sp av H K->av.length=2:=fun av H K h=>by obtain ⟨a,b,rfl,_⟩:=mR h.1.1; rfl
attribute [go_sem] BT GF WZ
theorem aAE:Meets Tryz.prog 47 (BT (fun s=>s.es.length) jR).sp:=by
 refine aE Tryz.func47 aTD 2 (by rw [Tryz.ntmps47]; decide) (aG H0 (aG yG (aG V2 (aA _)))) KC ?_
 rintro av H K ⟨⟨h,rfl⟩,hK⟩
 obtain ⟨s,i,rfl,hs,hi⟩:=mR (len:=fun s=>s.es.length) h
 have hK:K (iS .i64 (jR s i)) []:=by
  have:(BT (fun s=>s.es.length) jR).val [.va (.gs (aF s)),iS .i64 i]=iA .i64 (jR s i):=by simp -dsimp only [go_sem,Int.toNat_natCast]
  rw [this] at hK; exact hK
 clear h
 have hle:=hs.ok.le
 have fin:∀ (x:Int) (R:Hp),jR s i=x->W.Fin 0 K (iS .i64 x) R:=fun x R h=>by
  rw [h] at hK
  exact .sel [] (by simp) (by simp) rfl (.done (by simpa [go_sem] using hK))
 obtain ⟨e,hx⟩:∃ e,s.es[i]? = some e:=⟨_,a7 hi⟩
 have q1:=aV (row:=bG) hx
 obtain ⟨_,hln,hlv,_,_⟩:=hs.ok.es e (bT hx)
 have hA:jR s i=bif !(vW (bl e.nm)) then 5 else bif f9 (s.es.take i) e.nm then 7 else EA e:=by unfold jR; rw [hx]
 simp (maxSteps:=1000000) -dsimp only [go_sem,aF,aC2,aG1,↓q1,bG]
 refine ⟨by omega,fun h1=>fin 5 _ (by rw [hA,h1]; rfl),fun h1=>?_⟩
 rw [h1] at hA
 simp only [aH] at hA
 refine aK (α:=Nat) (fun j=>[(1,iS .i64 i),(2,.va (.c1 (.pt 0 0))),(5,.va (.c1 (.pt 1 0))),(6,iS .i64 j)]) (fun _=>[.cells (aF s) 25,.cells (bG e) 92])
  (fun j=>j<=i/\f9 ((s.es.take i).drop j) e.nm=f9 (s.es.take i) e.nm) (fun j=>i - j) 0 2 ⟨Nat.zero_le _,rfl⟩ ?_ ?_ ?_
 · simp [go_sem]
 · simp [go_sem,aF,bG]
 have hti:(s.es.take i).length=i:=by rw [List.length_take]; omega
 rintro j ⟨hj,ho⟩
 rcases bF j i with hlt | hge
 · have hg:decide ((j:Int) < (i:Int))=true:=by simp; omega
   obtain ⟨d,hd⟩:∃ d,s.es[j]? = some d:=⟨_,a7 (by omega)⟩
   have hd':(s.es.take i)[j]? = some d:=by rw [List.getElem?_take,if_pos hlt]; exact hd
   have q2:=aV (row:=bG) hd
   rw [f9,iI hd'] at ho
   simp (maxSteps:=1000000) -dsimp only [go_sem,hg,↓q2,bG,aF,dC]
   refine ⟨by omega,fun hc=>?_,fun hc=>?_⟩
   · rw [hc,Bool.true_or] at ho
     exact fin 7 _ (by rw [hA,<-ho]; rfl)
   · rw [hc,Bool.false_or] at ho
     refine ⟨by omega,aC (j + 1) 2 ⟨by omega,ho⟩ (by omega) ?_ ?_⟩
     · simp [go_sem]
     · simp [go_sem,aF,bG]
 · obtain rfl:j=i:=by omega
   have hg:decide ((j:Int) < (j:Int))=false:=by simp
   rw [List.drop_eq_nil_of_le (by omega)] at ho
   rw [<-ho] at hA
   replace hA:jR s j=EA e:=hA
   clear ho hti
   simp (maxSteps:=1000000) -dsimp only [go_sem,hg,bG,aF]
   refine ⟨fun h1=>?_,fun h1=>?_⟩
   · refine fin 2 _ ?_
     rw [hA]
     unfold EA
     have:(decide (e.ns.length=0) || decide (e.ns.length ≠ e.vs.length))=true:=by
      simp only [Bool.or_eq_true,beq_iff_eq,bne_iff_ne,decide_eq_true_eq] at h1 ⊢; omega
     rw [this]; rfl
   simp only [Bool.or_eq_false_iff,beq_eq_false_iff_ne,bne_eq_false_iff_eq,ne_eq] at h1
   have hl:e.ns.length=e.vs.length:=by omega
   have hF:jR s j=fE (kN e) (e.ns.length - 0) 0:=by
    rw [hA]; unfold EA; rw [decide_eq_false (by omega),decide_eq_false (by omega)]; rfl
   clear hA hg hge hj
   refine aK (α:=Nat) (fun k=>[(5,.va (.c1 (.pt 1 0))),(7,iS .i64 k)]) (fun _=>[.cells (aF s) 25,.cells (bG e) 92])
    (fun k=>k<=e.ns.length/\fE (kN e) (e.ns.length - k) k=fE (kN e) (e.ns.length - 0) 0) (fun k=>e.ns.length - k) 0 2 ⟨Nat.zero_le _,rfl⟩ ?_ ?_ ?_
   · simp [go_sem]
   · simp [go_sem,aF,bG]
   rintro k ⟨hk,ho⟩
   rcases bF k e.ns.length with hlt | hge
   · have hg:decide ((k:Int) < (e.ns.length:Int))=true:=by simp; omega
     obtain ⟨nm,hx2⟩:∃ nm,e.ns[k]? = some nm:=⟨_,a7 hlt⟩
     obtain ⟨n,hy⟩:∃ nm,e.vs[k]? = some nm:=⟨_,a7 (by omega)⟩
     have q2:=aV (row:=bM) hx2
     have q3:=aV (row:=cH) hy
     have hbs:BN (e.ns.map bM):=uF hln
     have hk0:(0<=(k:Int))=True:=by simp
     have hk1:((k:Int)<=9223372036854775807)=True:=by simp; omega
     have hA:kN e k=bif !(c8 (bl nm)) then (5:Int) else bif dM (e.ns.take k) nm then 7 else bif decide (n < 0) || decide (127 < n) then 4 else
      bif (decide ((k:Int)=0) && decide (n ≠ 0)) || (decide (0 < (k:Int)) && match e.vs[k - 1]? with | some m=>decide (n<=m) | none=>false) then 2 else 0:=by
      unfold kN; rw [hx2,hy]; rfl
     have fin':∀ (x:Int) (R:Hp),kN e k=x->x ≠ 0->W.Fin 0 K (iS .i64 x) R:=fun x R h1 h2=>fin x R (by
      rw [hF,<-ho,tU hlt (by rw [h1]; exact h2),h1])
     have cP:kN e k=0->fE (kN e) (e.ns.length - (k + 1)) (k + 1)=fE (kN e) (e.ns.length - 0) 0:=fun h1=>by rw [<-ho,zI hlt h1]
     cases hc1:c8 (bl nm) with
     | false=>
      simp (maxSteps:=1000000) -dsimp only [go_sem,hg,↓q2,bG,aF,hc1]
      exact ⟨by omega,fin' 5 _ (by rw [hA,hc1]; rfl) (by decide)⟩
     | true=>
      cases hc2:dM (e.ns.take k) nm with
      | true=>
       simp (maxSteps:=1000000) -dsimp only [go_sem,hg,↓q2,bG,aF,hc1,hc2,hbs,hk0,hk1,Int.toNat_natCast]
       exact ⟨by omega,by omega,fin' 7 _ (by rw [hA,hc1,hc2]; rfl) (by decide)⟩
      | false=>
       cases hc3:decide (n < 0) with
       | true=>
        simp (maxSteps:=1000000) -dsimp only [go_sem,hg,↓q2,↓q3,bG,aF,hc1,hc2,hbs,hk0,hk1,Int.toNat_natCast,hc3]
        exact ⟨by omega,by omega,by omega,fin' 4 _ (by rw [hA,hc1,hc2,hc3]; rfl) (by decide)⟩
       | false=>
       cases hc4:decide (127 < n) with
       | true=>
        simp (maxSteps:=1000000) -dsimp only [go_sem,hg,↓q2,↓q3,bG,aF,hc1,hc2,hbs,hk0,hk1,Int.toNat_natCast,hc3,hc4]
        exact ⟨by omega,by omega,by omega,by omega,fin' 4 _ (by rw [hA,hc1,hc2,hc3,hc4]; rfl) (by decide)⟩
       | false=>
       have hA2:kN e k=bif (decide ((k:Int)=0) && decide (n ≠ 0)) || (decide (0 < (k:Int)) && match e.vs[k - 1]? with | some m=>decide (n<=m) | none=>false) then 2 else 0:=by rw [hA,hc1,hc2,hc3,hc4]; rfl
       clear hA
       rcases Nat.eq_zero_or_pos k with h0 | h0
       · have g0:((k:Int) == 0)=true:=by simp; omega
         have g1:decide (0 < (k:Int))=false:=by simp; omega
         have g2:decide ((k:Int)=0)=true:=g0
         cases hn:(n != 0) with
         | true=>
          simp (maxSteps:=1000000) -dsimp only [go_sem,hg,↓q2,↓q3,bG,aF,hc1,hc2,hbs,hk0,hk1,Int.toNat_natCast,hc3,hc4,g0,g1,hn,Bool.and_false]
          and_intros
          all_goals first
           | omega
           | exact fin' 2 _ (by rw [hA2,g1,g2]; simp at hn; simp [hn]) (by decide)
         | false=>
          simp (maxSteps:=1000000) -dsimp only [go_sem,hg,↓q2,↓q3,bG,aF,hc1,hc2,hbs,hk0,hk1,Int.toNat_natCast,hc3,hc4,g0,g1,hn,Bool.and_false]
          and_intros
          all_goals first
           | omega
           | exact aC (k + 1) 2 ⟨by omega,cP (by rw [hA2,g1]; simp at hn; simp [hn])⟩ (by omega) (by simp [go_sem]) (by simp [go_sem,aF,bG])
       · have g0:((k:Int) == 0)=false:=by simp; omega
         have g1:decide (0 < (k:Int))=true:=by simp; omega
         have g2:decide ((k:Int)=0)=false:=g0
         obtain ⟨m,hm⟩:∃ m,e.vs[k - 1]? = some m:=⟨_,a7 (by omega)⟩
         have q4:((k:Int) - 1).toNat=k - 1:=by omega
         have q5:=qA (row:=cH) hm
         cases hn:decide (n<=m) with
         | true=>
          simp (maxSteps:=1000000) -dsimp only [go_sem,hg,↓q2,↓q3,bG,aF,hc1,hc2,hbs,hk0,hk1,Int.toNat_natCast,aI,forall_eq',hc3,hc4,g0,g1,q4,hm,hn,Bool.and_true]
          and_intros
          all_goals first
           | omega
           | exact fin' 2 _ (by rw [hA2,hm,g1]; simp only [hn]; simp) (by decide)
         | false=>
          simp (maxSteps:=1000000) -dsimp only [go_sem,hg,↓q2,↓q3,bG,aF,hc1,hc2,hbs,hk0,hk1,Int.toNat_natCast,aI,forall_eq',hc3,hc4,g0,g1,q4,hm,hn,Bool.and_true]
          and_intros
          all_goals first
           | omega
           | exact aC (k + 1) 2 ⟨by omega,cP (by rw [hA2,hm,g1,g2]; simp only [hn]; rfl)⟩ (by omega) (by simp [go_sem]) (by simp [go_sem,aF,bG])
   · have hg:decide ((k:Int) < (e.ns.length:Int))=false:=by simp; omega
     obtain rfl:k=e.ns.length:=by omega
     rw [z8] at ho
     simp (maxSteps:=1000000) -dsimp only [go_sem,hg,bG]
     exact fin 0 _ (by rw [hF,<-ho])
def F0 (N:Nat):List S->Prop:=fun av=>match av with
 | [.va (.gs r),.va (.gs q)]=>kU r/\fH q/\(C.ty q).h<=N
 | _=>False
theorem jL {N:Nat} {av:List S} (h:F0 N av):∃ s t,av=[.va (.gs (aF s)),.va (.gs (aQ t))]/\s.fit/\TyOk t/\t.h<=N:=by
 unfold F0 at h
 split at h
 · obtain ⟨⟨a,rfl,ha⟩,⟨b,rfl,hb⟩,hh⟩:=h
   rw [eT] at hh
   exact ⟨a,b,rfl,ha,hb,hh⟩
 · exact h.elim
noncomputable def M9:List S->A:=fun av=>match av with
 | [.va (.gs r),.va (.gs q)]=>bA (valF (C.sc r).ss (C.sc r).es (C.ty q))
 | _=>.gs []
noncomputable def C3 (N:Nat):Fun:=⟨F0 N,M9,fun av h=>by obtain ⟨a,b,rfl,_⟩:=jL h; trivial⟩
theorem HE {N:Nat}:∀ av H K,(C3 N).sp av H K->av.length=2:=fun av H K h=>by obtain ⟨a,b,rfl,_⟩:=jL h.1.1; rfl
attribute [go_sem] C3 F0 M9
theorem aTP {ss:List St} {es:List En} {s:Int} {n:ByteArray} {e:List Ty}:valF ss es (.mk 6 s n e)=(f6 ss n && s == 0 && (e.length:Int) == 0):=by
 rw [valF]; rfl
theorem aSY {ss:List St} {es:List En} {s:Int} {n:ByteArray} {e:List Ty}:valF ss es (.mk 7 s n e)=(f9 es n && s == 0 && (e.length:Int) == 0):=by
 rw [valF]; rfl
theorem SE:∀ N,Meets Tryz.prog 73 (C3 N).sp
 | 0=>⟨by kernel_rfl,by rintro xs vs E ro w K _ _ _ ⟨⟨h,_⟩,_⟩; obtain ⟨_,a,_,_,_,h⟩:=jL h; have:=a.h_pos; omega⟩
 | N + 1=>by
  refine aE Tryz.func73 aQB 2 (by rw [Tryz.ntmps73]; decide) (aG (SE N) (aG aAV (aB xB (aB HR (aA _))))) HE ?_
  rintro av H K ⟨⟨h,rfl⟩,hK⟩
  obtain ⟨sc,t,rfl,hs,ht,hh⟩:=jL h
  have hK:K (bS (valF sc.ss sc.es t)) []:=by
   have:(C3 (N + 1)).val [.va (.gs (aF sc)),.va (.gs (aQ t))]=bA (valF sc.ss sc.es t):=by simp -dsimp only [go_sem]
   rw [this] at hK; exact hK
  clear h
  have fin:∀ (b:Bool) (R:Hp),valF sc.ss sc.es t=b->W.Fin 0 K (bS b) R:=fun b R h=>by
   rw [h] at hK
   exact .sel [] (by simp) (by simp) rfl (.done (by simp -dsimp only [go_sem]; simpa using hK))
  have hit:fH (aQ t):=eE ht
  cases t with
  | mk k s n e=>
  have hcd:=eT (.mk k s n e)
  rw [aQ,aZ] at hcd hit
  have hcl:(Ty.mk k s n e).e.length=e.length:=rfl
  by_cases k1:(k == 1)=true
  · have hF:=valF.eq_1 sc.ss sc.es k s n e
    rw [k1] at hF
    simp only [aN] at hF
    simp (maxSteps:=1000000) -dsimp only [go_sem,aF,aQ,aZ,o8,pA,k1,hit,hcd,hcl]
    exact fin _ _ hF
  rw [Bool.not_eq_true] at k1
  by_cases k2:(k == 2)=true
  · have hF:=valF.eq_1 sc.ss sc.es k s n e
    rw [k1,k2] at hF
    simp only [aN,aH] at hF
    simp (maxSteps:=1000000) -dsimp only [go_sem,aF,aQ,aZ,o8,pA,k1,k2,hit,hcd,hcl]
    exact fin _ _ hF
  rw [Bool.not_eq_true] at k2
  by_cases k3:(k == 3)=true
  · have hF:=valF.eq_1 sc.ss sc.es k s n e
    rw [k1,k2,k3] at hF
    simp only [aN,aH,Bool.and_false,Bool.or_false] at hF
    simp (maxSteps:=1000000) -dsimp only [go_sem,aF,aQ,aZ,o8,pA,k1,k2,k3,hit,hcd,hcl]
    exact fin _ _ hF
  rw [Bool.not_eq_true] at k3
  by_cases k4:(k == 4)=true
  · have hF:=valF.eq_1 sc.ss sc.es k s n e
    rw [k1,k2,k3,k4] at hF
    simp only [aN,aH] at hF
    simp (maxSteps:=1000000) -dsimp only [go_sem,aF,aQ,aZ,o8,pA,k1,k2,k3,k4,hit,hcd,hcl]
    exact fin _ _ hF
  rw [Bool.not_eq_true] at k4
  by_cases k5:(k == 5)=true
  · have hF:=valF.eq_1 sc.ss sc.es k s n e
    rw [k1,k2,k3,k4,k5] at hF
    simp only [aN,aH] at hF
    cases hc:(decide (1<=s) && decide (s<=32) && bl n == [] && (e.length:Int) == 1) with
    | false=>
     have hF':valF sc.ss sc.es (.mk k s n e)=false:=by
      rw [hF]
      cases h0:(decide (1<=s) && decide (s<=32) && bl n == []) with
      | false=>rfl
      | true=>
       rw [h0,Bool.true_and] at hc
       match e,hc with
       | [],_=>rfl
       | [u],hc=>simp at hc
       | u :: v :: r,_=>simp [mV]
     simp (maxSteps:=1000000) -dsimp only [go_sem,aF,aQ,aZ,o8,pA,k1,k2,k3,k4,k5,hc]
     exact fin _ _ hF'
    | true=>
     obtain ⟨u,rfl⟩:∃ u,e=[u]:=by
      simp only [Bool.and_eq_true,beq_iff_eq] at hc
      exact List.length_eq_one_iff.1 (by omega)
     have h0:(decide (1<=s) && decide (s<=32) && bl n == [])=true:=by
      simp only [Bool.and_eq_true] at hc ⊢; exact hc.1
     have hF':valF sc.ss sc.es (.mk k s n [u])=valF sc.ss sc.es u:=by rw [hF,h0]; simp [mV]
     have hu2:u.h<=N:=by rw [Ty.h,Ty.hs,Ty.hs] at hh; omega
     have hu:fH (aQ u):=eE (ht.e u (by simp [Ty.e]))
     have hsf:=fO hs
     rw [aF] at hsf
     have hsd:=fB sc
     rw [aF] at hsd
     have hc':(decide (1<=s) && decide (s<=32) && bl n == [] && ((1:Nat):Int) == 1)=true:=hc
     simp (maxSteps:=1000000) -dsimp only [go_sem,aF,aQ,aZ,o8,pA,k1,k2,k3,k4,k5,hc']
     refine ⟨⟨by omega,fun r hr=>by subst hr; exact iQ u⟩,fun r hr=>?_⟩
     subst hr
     simp (maxSteps:=1000000) -dsimp only [go_sem,hsf,hsd,hu,iQ]
     exact ⟨hu2,fin _ _ hF'⟩
  rw [Bool.not_eq_true] at k5
  by_cases k6:(k == 6)=true
  · obtain rfl:k=6:=by simpa using k6
    have hF:=aTP (ss:=sc.ss) (es:=sc.es) (s:=s) (n:=n) (e:=e)
    simp (maxSteps:=1000000) -dsimp only [go_sem,aF,aQ,aZ,o8,pA,k1,k2,k3,k4,k5,k6]
    refine iR hs ?_
    cases hc:f6 sc.ss n with
    | false=>
     rw [hc] at hF
     simp (maxSteps:=1000000) -dsimp only [go_sem,aR,hit,hcd,hcl]
     exact fin _ _ hF
    | true=>
     rw [hc] at hF
     simp (maxSteps:=1000000) -dsimp only [go_sem,aR,hit,hcd,hcl]
     exact fin _ _ hF
  rw [Bool.not_eq_true] at k6
  by_cases k7:(k == 7)=true
  · obtain rfl:k=7:=by simpa using k7
    have hF:=aSY (ss:=sc.ss) (es:=sc.es) (s:=s) (n:=n) (e:=e)
    simp (maxSteps:=1000000) -dsimp only [go_sem,aF,aQ,aZ,o8,pA,k1,k2,k3,k4,k5,k6,k7]
    refine kC hs ?_
    cases hc:f9 sc.es n with
    | false=>
     rw [hc] at hF
     simp (maxSteps:=1000000) -dsimp only [go_sem,bG,hit,hcd,hcl]
     exact fin _ _ hF
    | true=>
     rw [hc] at hF
     simp (maxSteps:=1000000) -dsimp only [go_sem,bG,hit,hcd,hcl]
     exact fin _ _ hF
  rw [Bool.not_eq_true] at k7
  have hF:=valF.eq_1 sc.ss sc.es k s n e
  rw [k1,k2,k3,k4,k5,k6,k7] at hF
  simp only [aH] at hF
  simp (maxSteps:=1000000) -dsimp only [go_sem,aF,aQ,aZ,o8,pA,k1,k2,k3,k4,k5,k6,k7]
  exact fin _ _ hF
def GB:List S->Prop:=fun av=>match av with
 | [.va (.gs r),.va (.gs q)]=>kU r/\fH q
 | _=>False
theorem kL {av:List S} (h:GB av):∃ s t,av=[.va (.gs (aF s)),.va (.gs (aQ t))]/\s.fit/\TyOk t:=by
 unfold GB at h
 split at h
 · obtain ⟨⟨a,rfl,ha⟩,⟨b,rfl,hb⟩⟩:=h
   exact ⟨a,b,rfl,ha,hb⟩
 · exact h.elim
noncomputable def r0Fn:Fun:=⟨GB,M9,fun av h=>by obtain ⟨a,b,rfl,_⟩:=kL h; trivial⟩
attribute [go_sem] r0Fn GB
theorem K0:Meets Tryz.prog 73 r0Fn.sp:=eQ 0 SE fun av H K ⟨⟨h,e⟩,hK⟩=>by
 obtain ⟨a,b,rfl,ha,hb⟩:=kL h
 exact ⟨b.h,⟨⟨⟨fO ha,eE hb,by rw [eT]; exact Nat.le_refl _⟩,e⟩,hK⟩⟩
theorem PP:Meets Tryz.prog 48 (BT (fun s=>s.ss.length) j7).sp:=by
 refine aE Tryz.func48 aQA 2 (by rw [Tryz.ntmps48]; decide) (aG H0 (aB HR (aG yG (aG K0 (aA _))))) KC ?_
 rintro av H K ⟨⟨h,rfl⟩,hK⟩
 obtain ⟨s,i,rfl,hs,hi⟩:=mR (len:=fun s=>s.ss.length) h
 have hK:K (iS .i64 (j7 s i)) []:=by
  have:(BT (fun s=>s.ss.length) j7).val [.va (.gs (aF s)),iS .i64 i]=iA .i64 (j7 s i):=by simp -dsimp only [go_sem,Int.toNat_natCast]
  rw [this] at hK; exact hK
 clear h
 have hls:=hs.ok.ls
 have fin:∀ (x:Int) (R:Hp),j7 s i=x->W.Fin 0 K (iS .i64 x) R:=fun x R h=>by
  rw [h] at hK
  exact .sel [] (by simp) (by simp) rfl (.done (by simpa [go_sem] using hK))
 obtain ⟨t,hx⟩:∃ e,s.ss[i]? = some e:=⟨_,a7 hi⟩
 have q1:=aV (row:=aR) hx
 obtain ⟨_,hlf,hfs⟩:=hs.ok.ss t (bT hx)
 have hA:j7 s i=bif oM s i t.nm != 0 then oM s i t.nm else EP s.ss s.es t:=by unfold j7; rw [hx]
 have hsf:=fO hs
 rw [aF] at hsf
 have hsd:=fB s
 rw [aF] at hsd
 simp (maxSteps:=1000000) -dsimp only [go_sem,aF,aF8,aGT,↓q1,aR]
 refine ⟨by omega,fun h1=>fin 5 _ (by rw [hA]; unfold oM; rw [h1]; rfl),fun h1=>?_⟩
 refine kC hs ?_
 simp (maxSteps:=1000000) -dsimp only [go_sem,bG]
 refine ⟨fun h2=>fin 7 _ (by rw [hA]; unfold oM; rw [h1,h2]; rfl),fun h2=>?_⟩
 have hC:oM s i t.nm=bif f6 (s.ss.take i) t.nm then 7 else 0:=by unfold oM; rw [h1,h2]; rfl
 generalize ((dJ s.es t.nm).getD default)=dflt
 refine aK (α:=Nat) (fun j=>[(1,iS .i64 i),(2,.va (.c1 (.pt 0 0))),(5,.va (.c1 (.pt 1 0))),(8,iS .i64 j)]) (fun _=>[.cells (aF s) 25,.cells (aR t) 95])
  (fun j=>j<=i/\f6 ((s.ss.take i).drop j) t.nm=f6 (s.ss.take i) t.nm) (fun j=>i - j) 0 2 ⟨Nat.zero_le _,rfl⟩ ?_ ?_ ?_
 · simp [go_sem]
 · simp [go_sem,aF,aR]
 have hti:(s.ss.take i).length=i:=by rw [List.length_take]; omega
 rintro j ⟨hj,ho⟩
 rcases bF j i with hlt | hge
 · have hg:decide ((j:Int) < (i:Int))=true:=by simp; omega
   obtain ⟨d,hd⟩:∃ d,s.ss[j]? = some d:=⟨_,a7 (by omega)⟩
   have hd':(s.ss.take i)[j]? = some d:=by rw [List.getElem?_take,if_pos hlt]; exact hd
   have q2:=aV (row:=aR) hd
   rw [f6,iI hd'] at ho
   simp (maxSteps:=1000000) -dsimp only [go_sem,hg,↓q2,aR,aF,dC]
   refine ⟨by omega,fun hc=>?_,fun hc=>?_⟩
   · rw [hc,Bool.true_or] at ho
     exact fin 7 _ (by rw [hA,hC,<-ho]; rfl)
   · rw [hc,Bool.false_or] at ho
     refine ⟨by omega,aC (j + 1) 2 ⟨by omega,ho⟩ (by omega) ?_ ?_⟩
     · simp [go_sem]
     · simp [go_sem,aF,aR]
 · obtain rfl:j=i:=by omega
   have hg:decide ((j:Int) < (j:Int))=false:=by simp
   rw [List.drop_eq_nil_of_le (by omega)] at ho
   have hF:j7 s j=EP s.ss s.es t:=by rw [hA,hC,<-ho]; rfl
   clear ho hti hA hC q1 hj hge
   simp (maxSteps:=1000000) -dsimp only [go_sem,hg,aR,aF]
   clear hg
   refine aK (α:=Nat) (fun k=>[(2,.va (.c1 (.pt 0 0))),(5,.va (.c1 (.pt 1 0))),(9,iS .i64 k)]) (fun _=>[.cells (aF s) 25,.cells (aR t) 95])
    (fun k=>k<=t.fs.length/\fE (o6 s.ss s.es t) (t.fs.length - k) k=EP s.ss s.es t) (fun k=>t.fs.length - k) 0 2 ⟨Nat.zero_le _,rfl⟩ ?_ ?_ ?_
   · simp [go_sem]
   · simp [go_sem,aF,aR]
   rintro k ⟨hk,ho⟩
   rcases bF k t.fs.length with hlt | hge
   · have hg:decide ((k:Int) < (t.fs.length:Int))=true:=by simp; omega
     obtain ⟨f,hx2⟩:∃ nm,t.fs[k]? = some nm:=⟨_,a7 hlt⟩
     have q2:=aV (row:=aY) hx2
     have hf:f.ok:=hfs f (bT hx2)
     have hit:fH (aQ f.ty):=eE hf.ty
     have hA:o6 s.ss s.es t k=bif decide (f.num < 1) || decide (127 < f.num) then (4:Int) else bif decide (0 < (k:Int)) && (match t.fs[k - 1]? with | some g=>decide (f.num<=g.num) | none=>false) then 2 else
      bif !(c8 (bl f.nm)) then 5 else bif (t.fs.take k).any (fun g=>decide (g.nm=f.nm)) then 7 else bif !(valF s.ss s.es f.ty) then 13 else 0:=by
      unfold o6; rw [hx2]; rfl
     have fin':∀ (x:Int) (R:Hp),o6 s.ss s.es t k=x->x ≠ 0->W.Fin 0 K (iS .i64 x) R:=fun x R h1 h2=>fin x R (by
      rw [hF,<-ho,tU hlt (by rw [h1]; exact h2),h1])
     have cP:o6 s.ss s.es t k=0->fE (o6 s.ss s.es t) (t.fs.length - (k + 1)) (k + 1)=EP s.ss s.es t:=fun h1=>by rw [<-ho,zI hlt h1]
     cases c0:decide (f.num < 1) with
     | true=>
      rw [c0] at hA
      simp (maxSteps:=1000000) -dsimp only [go_sem,hg,↓q2,aY,aR,aF,c0]
      exact ⟨by omega,fin' 4 _ hA (by decide)⟩
     | false=>
     cases c1:decide (127 < f.num) with
     | true=>
      rw [c0,c1] at hA
      simp (maxSteps:=1000000) -dsimp only [go_sem,hg,↓q2,aY,aR,aF,c0,c1]
      exact ⟨by omega,fin' 4 _ hA (by decide)⟩
     | false=>
     rw [c0,c1] at hA
     simp only [Bool.or_self,aH] at hA
     rcases Nat.eq_zero_or_pos k with h0 | h0
     · have g1:decide (0 < (k:Int))=false:=by simp; omega
       rw [g1] at hA
       simp only [Bool.false_and,aH] at hA
       cases c3:c8 (bl f.nm) with
       | false=>
        rw [c3] at hA
        simp (maxSteps:=1000000) -dsimp only [go_sem,hg,↓q2,aY,aR,aF,c0,c1,c3,g1]
        exact ⟨by omega,fin' 5 _ hA (by decide)⟩
       | true=>
        rw [c3] at hA
        simp only [Bool.not_true,aH] at hA
        simp (maxSteps:=1000000) -dsimp only [go_sem,hg,↓q2,aY,aR,aF,c0,c1,c3,g1]
        refine ⟨by omega,?_⟩
        refine aK (α:=Nat) (fun j=>[(2,.va (.c1 (.pt 0 0))),(5,.va (.c1 (.pt 1 0))),(9,iS .i64 k),(10,.va (.c1 (.pt 2 0))),(11,iS .i64 j)])
         (fun _=>[.cells (aF s) 25,.cells (aR t) 95,.cells (aY f) 97])
         (fun j=>j<=k/\((t.fs.take k).drop j).any (fun g=>decide (g.nm=f.nm))=(t.fs.take k).any (fun g=>decide (g.nm=f.nm))) (fun j=>k - j) 0 3 ⟨Nat.zero_le _,rfl⟩ ?_ ?_ ?_
        · simp [go_sem]
        · simp [go_sem,aF,aR,aY]
        have htk:(t.fs.take k).length=k:=by rw [List.length_take]; omega
        rintro j ⟨hj,ho2⟩
        rcases bF j k with hjt | hjg
        · have hgj:decide ((j:Int) < (k:Int))=true:=by simp; omega
          obtain ⟨d,hd⟩:∃ e,t.fs[j]? = some e:=⟨_,a7 (by omega)⟩
          have hd':(t.fs.take k)[j]? = some d:=by rw [List.getElem?_take,if_pos hjt]; exact hd
          have q5:=aV (row:=aY) hd
          rw [iI hd'] at ho2
          simp (maxSteps:=1000000) -dsimp only [go_sem,hgj,↓q5,aY,aR,aF,dC]
          refine ⟨by omega,fun hc=>?_,fun hc=>?_⟩
          · rw [hc,Bool.true_or] at ho2
            rw [<-ho2] at hA
            exact fin' 7 _ hA (by decide)
          · rw [hc,Bool.false_or] at ho2
            refine ⟨by omega,aC (j + 1) 3 ⟨by omega,ho2⟩ (by omega) ?_ ?_⟩
            · simp [go_sem]
            · simp [go_sem,aF,aR,aY]
        · obtain rfl:j=k:=by omega
          have hgj:decide ((j:Int) < (j:Int))=false:=by simp
          rw [List.drop_eq_nil_of_le (by omega)] at ho2
          rw [<-ho2] at hA
          simp only [List.any_nil,aH] at hA
          simp (maxSteps:=1000000) -dsimp only [go_sem,hgj,aY,aR,aF,vH,hit,hsf,hsd]
          cases c5:valF s.ss s.es f.ty with
          | true=>
           rw [c5] at hA
           simp (maxSteps:=1000000) -dsimp only [go_sem]
           refine ⟨by omega,aC (j + 1) 2 ⟨by omega,cP hA⟩ (by omega) ?_ ?_⟩
           · simp [go_sem]
           · simp [go_sem,aF,aR]
          | false=>
           rw [c5] at hA
           simp (maxSteps:=1000000) -dsimp only [go_sem]
           exact fin' 13 _ hA (by decide)
     · have g1:decide (0 < (k:Int))=true:=by simp; omega
       obtain ⟨g,hy⟩:∃ m,t.fs[k - 1]? = some m:=⟨_,a7 (by omega)⟩
       have q4:((k:Int) - 1).toNat=k - 1:=by omega
       have q6:=qA (row:=aY) hy
       rw [g1,hy,Bool.true_and] at hA
       simp only at hA
       cases c2:decide (f.num<=g.num) with
       | true=>
        rw [c2] at hA
        simp (maxSteps:=1000000) -dsimp only [go_sem,hg,↓q2,aY,aR,aF,c0,c1,g1,q4,c2,hy,aI,forall_eq']
        exact ⟨by omega,by omega,by omega,fin' 2 _ hA (by decide)⟩
       | false=>
        rw [c2] at hA
        simp only [aH] at hA
        cases c3:c8 (bl f.nm) with
        | false=>
         rw [c3] at hA
         simp (maxSteps:=1000000) -dsimp only [go_sem,hg,↓q2,aY,aR,aF,c0,c1,c3,g1,q4,c2,hy,aI,forall_eq']
         exact ⟨by omega,by omega,by omega,fin' 5 _ hA (by decide)⟩
        | true=>
         rw [c3] at hA
         simp only [Bool.not_true,aH] at hA
         simp (maxSteps:=1000000) -dsimp only [go_sem,hg,↓q2,aY,aR,aF,c0,c1,c3,g1,q4,c2,hy,aI,forall_eq']
         refine ⟨by omega,by omega,by omega,?_⟩
         refine aK (α:=Nat) (fun j=>[(2,.va (.c1 (.pt 0 0))),(5,.va (.c1 (.pt 1 0))),(9,iS .i64 k),(10,.va (.c1 (.pt 2 0))),(11,iS .i64 j)])
          (fun _=>[.cells (aF s) 25,.cells (aR t) 95,.cells (aY f) 97])
          (fun j=>j<=k/\((t.fs.take k).drop j).any (fun g=>decide (g.nm=f.nm))=(t.fs.take k).any (fun g=>decide (g.nm=f.nm))) (fun j=>k - j) 0 3 ⟨Nat.zero_le _,rfl⟩ ?_ ?_ ?_
         · simp [go_sem]
         · simp [go_sem,aF,aR,aY]
         have htk:(t.fs.take k).length=k:=by rw [List.length_take]; omega
         rintro j ⟨hj,ho2⟩
         rcases bF j k with hjt | hjg
         · have hgj:decide ((j:Int) < (k:Int))=true:=by simp; omega
           obtain ⟨d,hd⟩:∃ e,t.fs[j]? = some e:=⟨_,a7 (by omega)⟩
           have hd':(t.fs.take k)[j]? = some d:=by rw [List.getElem?_take,if_pos hjt]; exact hd
           have q5:=aV (row:=aY) hd
           rw [iI hd'] at ho2
           simp (maxSteps:=1000000) -dsimp only [go_sem,hgj,↓q5,aY,aR,aF,dC]
           refine ⟨by omega,fun hc=>?_,fun hc=>?_⟩
           · rw [hc,Bool.true_or] at ho2
             rw [<-ho2] at hA
             exact fin' 7 _ hA (by decide)
           · rw [hc,Bool.false_or] at ho2
             refine ⟨by omega,aC (j + 1) 3 ⟨by omega,ho2⟩ (by omega) ?_ ?_⟩
             · simp [go_sem]
             · simp [go_sem,aF,aR,aY]
         · obtain rfl:j=k:=by omega
           have hgj:decide ((j:Int) < (j:Int))=false:=by simp
           rw [List.drop_eq_nil_of_le (by omega)] at ho2
           rw [<-ho2] at hA
           simp only [List.any_nil,aH] at hA
           simp (maxSteps:=1000000) -dsimp only [go_sem,hgj,aY,aR,aF,vH,hit,hsf,hsd]
           cases c5:valF s.ss s.es f.ty with
           | true=>
            rw [c5] at hA
            simp (maxSteps:=1000000) -dsimp only [go_sem]
            refine ⟨by omega,aC (j + 1) 2 ⟨by omega,cP hA⟩ (by omega) ?_ ?_⟩
            · simp [go_sem]
            · simp [go_sem,aF,aR]
           | false=>
            rw [c5] at hA
            simp (maxSteps:=1000000) -dsimp only [go_sem]
            exact fin' 13 _ hA (by decide)
   · have hg:decide ((k:Int) < (t.fs.length:Int))=false:=by simp; omega
     obtain rfl:k=t.fs.length:=by omega
     rw [z8] at ho
     simp (maxSteps:=1000000) -dsimp only [go_sem,hg,aR]
     exact fin 0 _ (by rw [hF,<-ho])
mutual
def dirF:Ty->List ByteArray
 | .mk k _ n e=>bif k == 6 || k == 7 then [n] else fG e
def fG:List Ty->List ByteArray
 | []=>[]
 | t :: r=>dirF t ++ fG r
end
theorem tN:∀ (a b:List Ty),fG (a ++ b)=fG a ++ fG b
 | [],b=>rfl
 | t :: r,b=>by rw [List.cons_append,fG,fG,tN r b,List.append_assoc]
theorem EU:∀ {l:List Ty} {t:Ty},t ∈ l->(dirF t).length<=(fG l).length
 | x :: l,t,h=>by
  rw [fG,List.length_append]
  rcases List.mem_cons.1 h with rfl | h
  · omega
  · have:=EU h; omega
def aE0 (N:Nat):W.Spec:=fun av H K=>∃ t:Ty,av=[.va (.gs (aQ t))]/\H=[]/\TyOk t/\t.h<=N/\(dirF t).length<=1000000000/\K (.va (.c1 (.fz ((dirF t).map bM)))) []
theorem aH7 {N:Nat} {t:Ty} {K:S->Hp->Prop} (h1:TyOk t) (h2:t.h<=N) (h3:(dirF t).length<=1000000000) (hK:K (.va (.c1 (.fz ((dirF t).map bM)))) []):aE0 N [.va (.gs (aQ t))] [] K:=⟨t,rfl,rfl,h1,h2,h3,hK⟩
theorem aC8 (l:List ByteArray):∀ r ∈ l.map bM,∀ c ∈ r,c.shut=true/\c.one:=fun r hr c hc=>by
 obtain ⟨x,_,rfl⟩:=List.mem_map.1 hr
 simp at hc; subst hc; simp [go_sem,C.shut]
theorem K5:∀ N,Meets Tryz.prog 87 (aE0 N)
 | 0=>⟨by kernel_rfl,by rintro xs vs E ro w K _ _ _ ⟨t,_,_,_,h,_⟩; have:=t.h_pos; omega⟩
 | N + 1=>by
  refine aE Tryz.func87 aRY 1 (by rw [Tryz.ntmps87]; decide) (aB (K5 N) (aA _)) (fun av H K h=>by obtain ⟨_,rfl,_⟩:=h; rfl) ?_
  rintro av H K ⟨⟨k,s,n,e⟩,rfl,rfl,h1,h2,h3,hK⟩
  have hle:=h1.len
  have hoe:=h1.e
  simp only [Ty.e] at hle hoe
  have hD:=dirF.eq_1 k s n e
  simp (maxSteps:=1000000) -dsimp only [go_sem,aQ,aZ,aCN,aH0]
  refine ⟨fun c1=>?_,fun c1=>?_⟩
  · rw [c1,aN] at hD
    rw [hD] at hK
    refine .pub 1 _ _ _ rfl (.sel [] (by simp) (by simp [cT]) rfl (.done ?_))
    simp -dsimp only [go_sem,cT]
    simpa using hK
  · rw [c1,aH] at hD
    rw [hD] at hK h3
    refine dW (α:=Nat) (fun i=>[(1,.va (.c1 (.pt 0 0))),(3,.va (.c1 (.sl 1 (fG (e.take i)).length))),(4,iS .i64 i)]) (fun i=>[.cells (aQ (.mk k s n e)) 28,.row ((fG (e.take i)).map bM) 9 1])
     (fun i=>i<=e.length) (fun i=>e.length - i) (.nil 3 9 1 rfl (lR 0 2 (Nat.zero_le _) ?_ ?_)) ?_
    · simp -dsimp only [go_sem]<;>simp [fG]
    · simp -dsimp only [go_sem,aQ,aZ]<;>simp [fG]
    intro i hi
    rcases bF i e.length with hlt | hge
    · have hg:decide ((i:Int) < (e.length:Int))=true:=by simp; omega
      obtain ⟨u,hx⟩:∃ t,e[i]? = some t:=⟨_,a7 hlt⟩
      have q1:=aV (row:=aQ) hx
      have hu:=bT hx
      have htn:fG (e.take (i + 1))=fG (e.take i) ++ dirF u:=by rw [gE hx,tN]; simp [fG]
      have hb:(fG (e.take (i + 1))).length<=1000000000:=by
       have:=tN (e.take (i + 1)) (e.drop (i + 1))
       rw [List.take_append_drop] at this
       rw [this,List.length_append] at h3; omega
      rw [htn,List.length_append] at hb
      simp (maxSteps:=1000000) -dsimp only [go_sem,hg,↓q1,iQ,aQ,aZ]
      refine ⟨by omega,aH7 (hoe u hu) ?_ ?_ ?_⟩
      · have:=Ty.hs_mem hu; rw [Ty.h] at h2; omega
      · have:=EU hu; omega
      simp (maxSteps:=1000000) -dsimp only [go_sem,UE aA0]
      refine ⟨aC8 _,by omega,by omega,aC (i + 1) 2 (by omega) (by omega) ?_ ?_⟩
      · simp -dsimp only [go_sem,htn]<;>simp
      · simp -dsimp only [go_sem,aQ,aZ,htn]<;>simp
    · have hg:decide ((i:Int) < (e.length:Int))=false:=by simp; omega
      obtain rfl:i=e.length:=by omega
      rw [List.take_length]
      simp (maxSteps:=1000000) -dsimp only [go_sem,hg,aQ,aZ]
      rw [<-List.length_map (f:=bM)]
      refine .pub 1 _ _ _ rfl (.sel [] (by simp) (by simp [cT]) rfl (.done ?_))
      simp -dsimp only [go_sem,cT]
      simpa using hK
def XR:W.Spec:=fun av H K=>∃ t:Ty,av=[.va (.gs (aQ t))]/\H=[]/\TyOk t/\(dirF t).length<=1000000000/\K (.va (.c1 (.fz ((dirF t).map bM)))) []
theorem aBC {t:Ty} {K:S->Hp->Prop} (h1:TyOk t) (h3:(dirF t).length<=1000000000) (hK:K (.va (.c1 (.fz ((dirF t).map bM)))) []):XR [.va (.gs (aQ t))] [] K:=⟨t,rfl,rfl,h1,h3,hK⟩
theorem TT:Meets Tryz.prog 87 XR:=eQ 0 K5 fun _av _H _K ⟨t,e1,e2,h1,h3,hK⟩=>⟨t.h,t,e1,e2,h1,Nat.le_refl _,h3,hK⟩
def eY (x:ByteArray):Bool->List ByteArray->List ByteArray
 | d,[]=>bif d then [] else [x]
 | d,y :: r=>bif !d && (Op.bytesLess (bl x) (bl y) || bl x == bl y) then (bif Op.bytesLess (bl x) (bl y) then x :: y :: eY x true r else y :: eY x true r) else y :: eY x d r
theorem GG (x:ByteArray):∀ (d:Bool) (l:List ByteArray),(eY x d l).length<=l.length + 1
 | d,[]=>by cases d<;>simp [eY]
 | d,y :: r=>by
  have h1:=j9 x r
  have h2:=GG x d r
  rw [eY]
  cases d<;>cases Op.bytesLess (bl x) (bl y)<;>cases bl x == bl y<;>simp [h1] at h2 ⊢<;>omega
where j9 (x:ByteArray):∀ l,eY x true l=l
 | []=>rfl
 | y :: r=>by rw [eY,j9 x r]; rfl
def aIZ:W.Spec:=fun av H K=>∃ (l:List ByteArray) (x:ByteArray),av=[.va (.c1 (.fz (l.map bM))),tS x]/\H=[]/\l.length<=1000000/\K (.va (.c1 (.fz ((eY x false l).map bM)))) []
theorem aGL {l:List ByteArray} {x:ByteArray} {K:S->Hp->Prop} (h:l.length<=1000000) (hK:K (.va (.c1 (.fz ((eY x false l).map bM)))) []):aIZ [.va (.c1 (.fz (l.map bM))),tS x] [] K:=⟨l,x,rfl,rfl,h,hK⟩
theorem aP5:Meets Tryz.prog 88 aIZ:=by
 refine aE Tryz.func88 aPQ 2 (by rw [Tryz.ntmps88]; decide) (aA _) (fun av H K h=>by obtain ⟨_,_,rfl,_⟩:=h; rfl) ?_
 rintro av H K ⟨l,x,rfl,rfl,hl,hK⟩
 have hlen:=GG x false l
 simp (maxSteps:=1000000) -dsimp only [go_sem,aFT,aFS]
 refine dW (α:=Nat × Bool × List ByteArray) (fun z=>[(0,.va (.c1 (.fz (l.map bM)))),(1,tS x),(5,.va (.c1 (.sl 0 z.2.2.length))),(6,bS z.2.1),(7,iS .i64 z.1)]) (fun z=>[.row (z.2.2.map bM) 9 1])
  (fun z=>z.1<=l.length/\z.2.2 ++ eY x z.2.1 (l.drop z.1)=eY x false l) (fun z=>l.length - z.1) (.nil 5 9 1 rfl (lR (0,false,[]) 1 ⟨Nat.zero_le _,rfl⟩ ?_ ?_)) ?_
 · simp -dsimp only [go_sem]<;>simp
 · simp -dsimp only [go_sem]<;>simp
 rintro ⟨i,d,o⟩ ⟨hi,ho⟩
 simp only at hi ho ⊢
 have hol:o.length<=l.length + 1:=by
  have:=congrArg List.length ho
  rw [List.length_append] at this; omega
 rcases bF i l.length with hlt | hge
 · have hg:decide ((i:Int) < (l.length:Int))=true:=by simp; omega
   obtain ⟨y,hx⟩:∃ t,l[i]? = some t:=⟨_,a7 hlt⟩
   have q1:=aV (row:=bM) hx
   have hdr:l.drop i=y :: l.drop (i + 1):=by
    obtain ⟨h,rfl⟩:=bC.1 hx
    exact List.drop_eq_getElem_cons h
   rw [hdr,eY] at ho
   have hst:∀ (u:ByteArray),[[C.vl (.string u)]]=[u].map bM:=fun _=>rfl
   cases d with
   | true=>
    simp only [Bool.not_true,Bool.false_and,aH] at ho
    simp (maxSteps:=1000000) -dsimp only [go_sem,hg,↓q1]
    and_intros
    all_goals first
     | omega
     | skip
    refine aC (i + 1,true,o ++ [y]) 1 ⟨by simp only; omega,by simp only [List.append_assoc,List.singleton_append]; exact ho⟩ (by simp only; omega) ?_ ?_
    · simp -dsimp only [go_sem]<;>simp
    · simp -dsimp only [go_sem]<;>simp
   | false=>
    simp only [Bool.not_false,Bool.true_and] at ho
    cases c2:Op.bytesLess (bl x) (bl y) with
    | true=>
     rw [c2] at ho
     simp only [Bool.true_or,aN] at ho
     simp (maxSteps:=1000000) -dsimp only [go_sem,hg,↓q1,c2,Bool.true_or]
     and_intros
     all_goals first
      | omega
      | skip
     refine aC (i + 1,true,o ++ [x,y]) 1 ⟨by simp only; omega,by simp only [List.append_assoc,List.cons_append,List.nil_append]; exact ho⟩ (by simp only; omega) ?_ ?_
     · simp -dsimp only [go_sem]<;>simp
     · simp -dsimp only [go_sem]<;>simp
    | false=>
     rw [c2] at ho
     simp only [Bool.false_or,aH] at ho
     cases c3:bl x == bl y with
     | true=>
      rw [c3] at ho
      simp only [aN] at ho
      simp (maxSteps:=1000000) -dsimp only [go_sem,hg,↓q1,c2,c3,Bool.false_or]
      and_intros
      all_goals first
       | omega
       | skip
      refine aC (i + 1,true,o ++ [y]) 1 ⟨by simp only; omega,by simp only [List.append_assoc,List.singleton_append]; exact ho⟩ (by simp only; omega) ?_ ?_
      · simp -dsimp only [go_sem]<;>simp
      · simp -dsimp only [go_sem]<;>simp
     | false=>
      rw [c3] at ho
      simp only [aH] at ho
      simp (maxSteps:=1000000) -dsimp only [go_sem,hg,↓q1,c2,c3,Bool.false_or]
      and_intros
      all_goals first
       | omega
       | skip
      refine aC (i + 1,false,o ++ [y]) 1 ⟨by simp only; omega,by simp only [List.append_assoc,List.singleton_append]; exact ho⟩ (by simp only; omega) ?_ ?_
      · simp -dsimp only [go_sem]<;>simp
      · simp -dsimp only [go_sem]<;>simp
 · have hg:decide ((i:Int) < (l.length:Int))=false:=by simp; omega
   obtain rfl:i=l.length:=by omega
   rw [List.drop_length] at ho
   simp only [eY] at ho
   cases d with
   | true=>
    simp only [aN,List.append_nil] at ho
    rw [<-ho] at hK
    simp (maxSteps:=1000000) -dsimp only [go_sem,hg]
    rw [<-List.length_map (f:=bM)]
    refine .pub 0 _ _ _ rfl (.sel [] (by simp) (by simp [cT]) rfl (.done ?_))
    simp -dsimp only [go_sem,cT]
    simpa using hK
   | false=>
    simp only [aH] at ho
    rw [<-ho] at hK
    simp (maxSteps:=1000000) -dsimp only [go_sem,hg]
    refine ⟨by omega,?_⟩
    have e1:o.length + 1=((o ++ [x]).map bM).length:=by simp
    have e2:o.map bM ++ [[C.vl (.string x)]]=(o ++ [x]).map bM:=by simp
    rw [e1,e2]
    refine .pub 0 _ _ _ rfl (.sel [] (by simp) (by simp [cT]) rfl (.done ?_))
    simp -dsimp only [go_sem,cT]
    simpa using hK
abbrev DR (a b:ByteArray):Prop:=bl a < bl b
theorem aGC (x:List UInt8):∀ y:List UInt8,Op.bytesLess x y=decide (x < y):=by
 induction x with
 | nil=>intro y; cases y<;>simp [Op.bytesLess]
 | cons a x ih=>
  intro y
  cases y with
  | nil=>simp [Op.bytesLess]
  | cons b y=>
   have:=ih y
   rw [Op.bytesLess,this,Bool.eq_iff_iff]
   simp [List.cons_lt_cons_iff]
theorem YW (a b:ByteArray):Op.bytesLess (bl a) (bl b)=decide (DR a b):=aGC _ _
theorem mQ (a:ByteArray):¬ DR a a:=List.lt_irrefl _
theorem E9 {a b c:ByteArray} (h:DR a b) (h2:DR b c):DR a c:=List.lt_trans h h2
theorem PY {a b:ByteArray} (h:¬ DR a b) (h2:a ≠ b):DR b a:=by
 have h3:bl b<=bl a:=List.not_lt.1 h
 exact Std.lt_of_le_of_ne h3 (fun e=>h2 (tZ e.symm))
def Asc (l:List ByteArray):Prop:=l.Pairwise DR
theorem KU:∀ {a b:List ByteArray},Asc a->Asc b->(∀ x,x ∈ a ↔ x ∈ b)->a=b
 | [],[],_,_,_=>rfl
 | [],y :: b,_,_,h=>by have:=(h y).2 List.mem_cons_self; cases this
 | x :: a,[],_,_,h=>by have:=(h x).1 List.mem_cons_self; cases this
 | x :: a,y :: b,h1,h2,h=>by
  obtain ⟨p1,p2⟩:=List.pairwise_cons.1 h1
  obtain ⟨p3,p4⟩:=List.pairwise_cons.1 h2
  have e:x=y:=by
   rcases List.mem_cons.1 ((h x).1 List.mem_cons_self) with e | e
   · exact e
   · rcases List.mem_cons.1 ((h y).2 List.mem_cons_self) with e2 | e2
     · exact e2.symm
     · exact absurd (E9 (p1 y e2) (p3 x e)) (mQ x)
  subst e
  rw [KU p2 p4 fun z=>?_]
  constructor
  · intro hz
    rcases List.mem_cons.1 ((h z).1 (List.mem_cons_of_mem _ hz)) with e | e
    · exact absurd (p1 z hz) (by rw [e]; exact mQ x)
    · exact e
  · intro hz
    rcases List.mem_cons.1 ((h z).2 (List.mem_cons_of_mem _ hz)) with e | e
    · exact absurd (p3 z hz) (by rw [e]; exact mQ x)
    · exact e
theorem Asc.nodup {l:List ByteArray} (h:Asc l):l.Nodup:=by
 unfold List.Nodup
 refine List.Pairwise.imp ?_ h
 intro a b h e
 subst e
 exact mQ a h
theorem j9 (x:ByteArray):∀ l,eY x true l=l
 | []=>rfl
 | y :: r=>by rw [eY,j9 x r]; rfl
theorem j6 {x z:ByteArray}:∀ {l:List ByteArray},z ∈ eY x false l ↔ z=x\/z ∈ l
 | []=>by simp [eY]
 | y :: r=>by
  rw [eY,j9]
  cases c1:Op.bytesLess (bl x) (bl y) with
  | true=>simp
  | false=>
   cases c2:bl x == bl y with
   | true=>
    have:x=y:=tZ (by simpa using c2)
    subst this
    simp
   | false=>
    have:=j6 (x:=x) (z:=z) (l:=r)
    simp [this]
    constructor
    · rintro (h | h | h)
      · exact .inr (.inl h)
      · exact .inl h
      · exact .inr (.inr h)
    · rintro (h | h | h)
      · exact .inr (.inl h)
      · exact .inl h
      · exact .inr (.inr h)
theorem IM {x:ByteArray}:∀ {l:List ByteArray},Asc l->Asc (eY x false l)
 | [],_=>by simp [eY,Asc]
 | y :: r,h=>by
  obtain ⟨p1,p2⟩:=List.pairwise_cons.1 h
  rw [eY,j9]
  cases c1:Op.bytesLess (bl x) (bl y) with
  | true=>
   rw [YW] at c1
   have c1:=of_decide_eq_true c1
   simp only [Bool.not_false,Bool.true_or,Bool.and_true,aN]
   refine List.pairwise_cons.2 ⟨fun z hz=>?_,h⟩
   rcases List.mem_cons.1 hz with rfl | hz
   · exact c1
   · exact E9 c1 (p1 z hz)
  | false=>
   cases c2:bl x == bl y with
   | true=>exact h
   | false=>
    rw [YW] at c1
    have c1:=of_decide_eq_false c1
    have c2:x ≠ y:=fun e=>by subst e; simp at c2
    simp only [Bool.not_false,Bool.true_and,Bool.or_self,aH]
    refine List.pairwise_cons.2 ⟨fun z hz=>?_,IM p2⟩
    rcases j6.1 hz with rfl | hz
    · exact PY c1 c2
    · exact p1 z hz
theorem V4 {l:List ByteArray} (h:l.Nodup):Asc (wY l):=by
 have h1:((l.map bl).mergeSort fun x y=>decide (x<=y)).Pairwise fun a b=>decide (a<=b)=true:=
  List.pairwise_mergeSort (le:=fun (x y:List UInt8)=>decide (x<=y)) (fun (a b c:List UInt8) h1 h2=>decide_eq_true (List.le_trans (of_decide_eq_true h1) (of_decide_eq_true h2))) (fun (a b:List UInt8)=>by
   rcases List.le_total a b with h | h<;>simp [h]) _
 have h2:((l.map bl).mergeSort fun x y=>decide (x<=y)).Nodup:=by
  rw [(List.mergeSort_perm _ _).nodup_iff]
  exact List.Pairwise.map bl (fun a b (hab:a ≠ b) e=>hab (tZ e)) h
 unfold wY Asc
 rw [List.pairwise_map]
 refine List.Pairwise.imp₂ (fun a b h1 h2=>?_) h1 h2
 exact Std.lt_of_le_of_ne (of_decide_eq_true h1) h2
theorem PZ (ss:List St) (n:ByteArray):Asc (gC ss n):=V4 (uA ss n)
theorem SA {e:List Ty} (h:((e.length:Int) == 0)=true):e=[]:=by simpa using h
theorem LA (ss:List St) (es:List En):∀ (N:Nat) (t:Ty),t.h<=N->valF ss es t=true->dirF t=bif bX t then [bY t] else []
 | 0,t,h,_=>absurd h (by have:=t.h_pos; omega)
 | N + 1,.mk k s n e,h,hv=>by
  cases k5:k == 5 with
  | true=>
   obtain rfl:k=5:=by simpa using k5
   obtain ⟨u,rfl,hu⟩:=xJ hv
   have:=LA ss es N u (by rw [Ty.h,Ty.hs,Ty.hs] at h; omega) hu
   unfold bX bY
   rw [DW]
   rw [dirF,fG,fG,List.append_nil,this]
   rfl
  | false=>
   have h1:fQ (.mk k s n e)=.mk k s n e:=zL (by rw [k5]; rfl)
   unfold bX bY
   rw [h1,dirF]
   simp only [Ty.k,Ty.n]
   cases k67:(k == 6 || k == 7) with
   | true=>rfl
   | false=>
    have he:e=[]:=by
     rw [Bool.or_eq_false_iff] at k67
     rw [valF,k5,k67.1,k67.2] at hv
     cases k1:k == 1<;>cases k2:k == 2<;>cases k3:k == 3<;>cases k4:k == 4<;>rw [k1,k2,k3,k4] at hv<;>simp only [aN,aH,Bool.and_eq_true,reduceCtorEq] at hv<;>first | exact SA hv.2 | exact absurd hv (by decide)
    subst he; rfl
theorem GP {ss:List St} {es:List En} {t:Ty} (hv:valF ss es t=true):dirF t=bif bX t then [bY t] else []:=LA ss es t.h t (Nat.le_refl _) hv
structure UI (ss:List St) (n:ByteArray) (i:Nat) (todo o:List ByteArray):Prop where
 hd:∃ r,todo=n :: r/\r.Nodup/\∀ x,x ∈ o ↔ x ∈ r
 rc:∀ x ∈ o,Reach ss n x
 dn:∀ j a,j < i->todo[j]? = some a->∀ y,dZ ss a y->y ∈ o
 asc:Asc o
theorem UI.init (ss:List St) (n:ByteArray):UI ss n 0 [n] []:=⟨⟨[],rfl,.nil,fun _x=>Iff.rfl⟩,fun _x h=>(List.not_mem_nil h).elim,fun _j _a h=>absurd h (Nat.not_lt_zero _),List.Pairwise.nil⟩
theorem QG {ss:List St} {es:List En} (g:Gd ss es) {n:ByteArray} {l:List ByteArray} (h:l.Nodup) (hr:∀ x ∈ l,Reach ss n x):l.length<=32:=Nat.le_trans (sV h fun x hx=>(jN ss n x).2 (hr x hx)) (g.vlen n)
theorem UI.len {ss:List St} {es:List En} (g:Gd ss es) {n:ByteArray} {i:Nat} {todo o:List ByteArray} (h:UI ss n i todo o):todo.length<=33/\o.length<=32:=by
 obtain ⟨r,rfl,h1,h2⟩:=h.hd
 have:=QG g h1 fun x hx=>h.rc x ((h2 x).2 hx)
 have:=QG g h.asc.nodup h.rc
 simp only [List.length_cons]; omega
theorem UI.rch {ss:List St} {n:ByteArray} {i k:Nat} {todo o:List ByteArray} (h:UI ss n i todo o) {a y:ByteArray} (ha:todo[k]? = some a) (hy:dZ ss a y):Reach ss n y:=by
 obtain ⟨r,rfl,h1,h2⟩:=h.hd
 cases k with
 | zero=>simp at ha; subst ha; exact .one hy
 | succ k=>
  simp at ha
  exact .more (h.rc a ((h2 a).2 (bT ha))) hy
theorem UI.add {ss:List St} {n:ByteArray} {i:Nat} {todo o:List ByteArray} (h:UI ss n i todo o) {y:ByteArray} (hr:Reach ss n y) (hy:y ∉ o) (hi:i<=todo.length):UI ss n i (todo ++ [y]) (eY y false o):=by
 obtain ⟨r,rfl,h1,h2⟩:=h.hd
 refine ⟨⟨r ++ [y],by simp,?_,fun x=>?_⟩,fun x hx=>?_,fun j a hj ha z hz=>?_,IM h.asc⟩
 · rw [List.nodup_append]
   exact ⟨h1,by simp,fun a ha b hb=>by simp at hb; subst hb; exact fun e=>hy ((h2 b).2 (e ▸ ha))⟩
 · rw [j6,h2]; simp [or_comm]
 · rcases j6.1 hx with rfl | hx
   · exact hr
   · exact h.rc x hx
 · rw [List.getElem?_append_left (by omega)] at ha
   exact j6.2 (.inr (h.dn j a hj ha z hz))
theorem UI.next {ss:List St} {n:ByteArray} {i:Nat} {todo o:List ByteArray} (h:UI ss n i todo o) {a:ByteArray} (ha:todo[i]? = some a) (hy:∀ y,dZ ss a y->y ∈ o):UI ss n (i + 1) todo o:=by
 refine ⟨h.hd,h.rc,fun j b hj hb y hyb=>?_,h.asc⟩
 rcases bF j i with h4 | h4
 · exact h.dn j b h4 hb y hyb
 · obtain rfl:j=i:=by omega
   rw [ha] at hb; obtain rfl:=bN hb
   exact hy y hyb
theorem UI.fin {ss:List St} {n:ByteArray} {todo o:List ByteArray} (h:UI ss n todo.length todo o):o=gC ss n:=by
 refine KU h.asc (PZ ss n) fun x=>?_
 rw [EL]
 refine ⟨h.rc x,fun hx=>?_⟩
 obtain ⟨r,e,h1,h2⟩:=h.hd
 have hn:∀ y,dZ ss n y->y ∈ o:=h.dn 0 n (by rw [e]; simp) (by rw [e]; rfl)
 induction hx with
 | one h=>exact hn _ h
 | more _ h3 ih=>
  obtain ⟨j,hj⟩:=List.mem_iff_getElem?.1 ((h2 _).1 ih)
  rename_i b c _
  have hj2:todo[j + 1]? = some b:=by rw [e]; simpa using hj
  exact h.dn (j + 1) _ (bC.1 hj2).1 hj2 _ h3
def aIK:W.Spec:=fun av H K=>∃ (s:Sc) (n:ByteArray),av=[.va (.gs (aF s)),tS n]/\H=[]/\s.fit/\Gd s.ss s.es/\K (.va (.c1 (.fz ((gC s.ss n).map bM)))) []
theorem aGX {s:Sc} {n:ByteArray} {K:S->Hp->Prop} (h:s.fit) (g:Gd s.ss s.es) (hK:K (.va (.c1 (.fz ((gC s.ss n).map bM)))) []):aIK [.va (.gs (aF s)),tS n] [] K:=⟨s,n,rfl,rfl,h,g,hK⟩
theorem aBS {ss:List St} {es:List En} {t:Ty} (hv:valF ss es t=true):(dirF t).length<=1:=by
 rw [GP hv]; cases bX t<;>simp
theorem MF {ss:List St} {es:List En} {t:Ty} (hv:valF ss es t=true) {y:ByteArray}:y ∈ dirF t ↔ bX t=true/\bY t=y:=by
 rw [GP hv]; cases bX t<;>simp [eq_comm]
theorem aJL:Meets Tryz.prog 49 aIK:=by
 refine aE Tryz.func49 aSM 2 (by rw [Tryz.ntmps49]; decide) (aB xB (aB TT (aG V2 (aB aP5 (aA _))))) (fun av H K h=>by obtain ⟨_,_,rfl,_⟩:=h; rfl) ?_
 rintro av H K ⟨s,n,rfl,rfl,hs,g,hK⟩
 simp (maxSteps:=1000000) -dsimp only [go_sem,aF,aF7,aFN]
 refine dW (α:=Nat × List ByteArray × List ByteArray) (fun z=>[(2,.va (.c1 (.pt 0 0))),(5,.va (.c1 (.fz (z.2.2.map bM)))),(6,.va (.c1 (.sl 1 z.2.1.length))),(7,iS .i64 z.1)]) (fun z=>[.cells (aF s) 25,.row (z.2.1.map bM) 9 1])
  (fun z=>z.1<=z.2.1.length/\UI s.ss n z.1 z.2.1 z.2.2) (fun z=>34 - z.1) (.nf 5 (lR (0,[n],[]) 2 ⟨Nat.zero_le _,UI.init _ _⟩ ?_ ?_)) ?_
 · simp -dsimp only [go_sem]<;>simp
 · simp -dsimp only [go_sem,aF]<;>simp
 rintro ⟨i,todo,o⟩ ⟨hi,hu⟩
 simp only at hi hu ⊢
 obtain ⟨htl,hol⟩:=hu.len g
 rcases bF i todo.length with hlt | hge
 · have hg:decide ((i:Int) < (todo.length:Int))=true:=by simp; omega
   obtain ⟨a,ha⟩:∃ a,todo[i]? = some a:=⟨_,a7 hlt⟩
   have q1:=aV (row:=bM) ha
   simp (maxSteps:=1000000) -dsimp only [go_sem,hg,aF,ha,aI,forall_eq']
   refine ⟨by omega,hlt,iR hs ?_⟩
   generalize hx:(fS s.ss a).getD default=x
   have hxf:∀ f ∈ x.fs,f.ok/\valF s.ss s.es f.ty=true:=fun f hf=>by
    cases hc:fS s.ss a with
    | none=>rw [hc] at hx; subst hx; cases hf
    | some t=>
     rw [hc] at hx
     subst hx
     exact ⟨(hs.ok.ss _ (gV hc).1).fs f hf,g.val _ (gV hc).1 f hf⟩
   have hxl:x.fs.length<=9223372036854775807:=by
    cases hc:fS s.ss a with
    | none=>rw [hc] at hx; subst hx; exact Nat.zero_le _
    | some t=>rw [hc] at hx; subst hx; exact (hs.ok.ss _ (gV hc).1).len
   have hxr:∀ y,dZ s.ss a y ↔ B1 x y:=fun y=>by unfold dZ; rw [hx]
   simp (maxSteps:=1000000) -dsimp only [go_sem,aR]
   refine aK (α:=Nat × List ByteArray × List ByteArray) (fun z=>[(2,.va (.c1 (.pt 0 0))),(5,.va (.c1 (.fz (z.2.2.map bM)))),(6,.va (.c1 (.sl 1 z.2.1.length))),(7,iS .i64 i),(8,.va (.c1 (.pt 2 0))),(10,iS .i64 z.1)]) (fun z=>[.cells (aF s) 25,.row (z.2.1.map bM) 9 1,.cells (aR x) 95])
    (fun z=>z.1<=x.fs.length/\z.2.1[i]? = some a/\UI s.ss n i z.2.1 z.2.2/\∀ f ∈ x.fs.take z.1,bX f.ty=true->bY f.ty ∈ z.2.2) (fun z=>x.fs.length - z.1) (0,todo,o) 3 ⟨Nat.zero_le _,ha,hu,fun f hf=>by cases hf⟩ ?_ ?_ ?_
   · simp -dsimp only [go_sem]<;>simp
   · simp -dsimp only [go_sem,aF,aR]<;>simp
   clear hu ha hlt hi htl hol hg q1
   rintro ⟨k,td,o⟩ ⟨hk,ha,hu,hr⟩
   simp only at hk ha hu hr ⊢
   obtain ⟨htl,hol⟩:=hu.len g
   have hil:=(bC.1 ha).1
   rcases bF k x.fs.length with hlt | hge
   · have hg:decide ((k:Int) < (x.fs.length:Int))=true:=by simp; omega
     obtain ⟨f,hf⟩:∃ a,x.fs[k]? = some a:=⟨_,a7 hlt⟩
     have q1:=aV (row:=aY) hf
     obtain ⟨hfo,hfv⟩:=hxf f (bT hf)
     simp (maxSteps:=1000000) -dsimp only [go_sem,hg,↓q1,aF,aR,aY,vH]
     have hdl:=aBS hfv
     refine ⟨by omega,aBC hfo.ty (by omega) ?_⟩
     simp (maxSteps:=1000000) -dsimp only [go_sem]
     have hdm:∀ y ∈ dirF f.ty,Reach s.ss n y:=fun y hy=>by
      obtain ⟨h1,h2⟩:=(MF hfv).1 hy
      exact hu.rch ha ((hxr y).2 ⟨f,bT hf,h1,h2⟩)
     have hdf:(∀ o':List ByteArray,(∀ y ∈ dirF f.ty,y ∈ o')->(∀ f ∈ x.fs.take k,bX f.ty=true->bY f.ty ∈ o')->∀ f ∈ x.fs.take (k + 1),bX f.ty=true->bY f.ty ∈ o'):=fun o' h1 h2 f' hf' hn=>by
      rw [gE hf] at hf'
      rcases List.mem_append.1 hf' with h | h
      · exact h2 f' h hn
      · obtain rfl:f'=f:=by simpa using h
        exact h1 _ ((MF hfv).2 ⟨hn,rfl⟩)
     generalize dirF f.ty=l at *
     refine aK (α:=Nat × List ByteArray × List ByteArray) (fun z=>[(2,.va (.c1 (.pt 0 0))),(5,.va (.c1 (.fz (z.2.2.map bM)))),(6,.va (.c1 (.sl 1 z.2.1.length))),(7,iS .i64 i),(8,.va (.c1 (.pt 2 0))),(10,iS .i64 k),(11,.va (.c1 (.fz (l.map bM)))),(12,iS .i64 z.1)]) (fun z=>[.cells (aF s) 25,.row (z.2.1.map bM) 9 1,.cells (aR x) 95])
      (fun z=>z.1<=l.length/\z.2.1[i]? = some a/\UI s.ss n i z.2.1 z.2.2/\(∀ f ∈ x.fs.take k,bX f.ty=true->bY f.ty ∈ z.2.2)/\∀ y ∈ l.take z.1,y ∈ z.2.2) (fun z=>l.length - z.1) (0,td,o) 3 ⟨Nat.zero_le _,ha,hu,hr,fun f hf=>by cases hf⟩ ?_ ?_ ?_
     · simp -dsimp only [go_sem]<;>simp
     · simp -dsimp only [go_sem,aF,aR]<;>simp
     clear hu ha hil htl hol hg q1 hr
     rintro ⟨j,td,o⟩ ⟨hj,ha,hu,hr,hjm⟩
     simp only at hj ha hu hr hjm ⊢
     obtain ⟨htl,hol⟩:=hu.len g
     have hil:=(bC.1 ha).1
     rcases bF j l.length with hjt | hjg
     · have hg:decide ((j:Int) < (l.length:Int))=true:=by simp; omega
       obtain ⟨y,hy⟩:∃ a,l[j]? = some a:=⟨_,a7 hjt⟩
       have q1:=aV (row:=bM) hy
       have hbs:BN (o.map bM):=uF (by omega)
       have e0:(0<=(o.length:Int))=True:=by simp
       have e1:((o.length:Int)<=9223372036854775807)=True:=by simp; omega
       have hto:o.take o.length=o:=List.take_length
       have hjm':∀ o':List ByteArray,(∀ z ∈ o,z ∈ o')->y ∈ o'->∀ z ∈ l.take (j + 1),z ∈ o':=fun o' h1 h2 z hz=>by
        rw [gE hy] at hz
        rcases List.mem_append.1 hz with h | h
        · exact h1 z (hjm z h)
        · obtain rfl:z=y:=by simpa using h
          exact h2
       cases hc:dM o y with
       | true=>
        simp (maxSteps:=1000000) -dsimp only [go_sem,hg,↓q1,aF,aR,hbs,e0,e1,Int.toNat_natCast,hto,hc]
        refine ⟨by omega,by omega,aC (j + 1,td,o) 3 ⟨by simp only; omega,ha,hu,hr,hjm' o (fun z h=>h) ((p7 _ _).1 hc)⟩ (by simp only; omega) ?_ ?_⟩
        · simp -dsimp only [go_sem]<;>simp
        · simp -dsimp only [go_sem,aF,aR]<;>simp
       | false=>
        have hyo:=vF.1 hc
        have hua:=hu.add (hdm y (bT hy)) hyo (by omega)
        have hmo:∀ z ∈ o,z ∈ eY y false o:=fun z hz=>j6.2 (.inr hz)
        have ha':(td ++ [y])[i]? = some a:=by rw [List.getElem?_append_left hil]; exact ha
        simp (maxSteps:=1000000) -dsimp only [go_sem,hg,↓q1,aF,aR,hbs,e0,e1,Int.toNat_natCast,hto,hc]
        refine ⟨by omega,by omega,aGL (by omega) ?_⟩
        simp (maxSteps:=1000000) -dsimp only [go_sem]
        and_intros
        all_goals first
         | omega
         | skip
        refine aC (j + 1,td ++ [y],eY y false o) 3 ⟨by simp only; omega,ha',hua,fun f hf hn=>hmo _ (hr f hf hn),hjm' _ hmo (j6.2 (.inl rfl))⟩ (by simp only; omega) ?_ ?_
        · simp -dsimp only [go_sem]<;>simp
        · simp -dsimp only [go_sem,aF,aR]<;>simp
     · have hg:decide ((j:Int) < (l.length:Int))=false:=by simp; omega
       obtain rfl:j=l.length:=by omega
       rw [List.take_length] at hjm
       simp (maxSteps:=1000000) -dsimp only [go_sem,hg,aF,aR]
       refine ⟨by omega,aC (k + 1,td,o) 3 ⟨by simp only; omega,ha,hu,hdf o hjm hr⟩ (by simp only; omega) ?_ ?_⟩
       · simp -dsimp only [go_sem]<;>simp
       · simp -dsimp only [go_sem,aF,aR]<;>simp
   · have hg:decide ((k:Int) < (x.fs.length:Int))=false:=by simp; omega
     obtain rfl:k=x.fs.length:=by omega
     rw [List.take_length] at hr
     simp (maxSteps:=1000000) -dsimp only [go_sem,hg,aF,aR]
     refine ⟨by omega,aC (i + 1,td,o) 2 ⟨by simp only; omega,hu.next ha fun y hy=>?_⟩ (by simp only; omega) ?_ ?_⟩
     · obtain ⟨f,h1,h2,rfl⟩:=(hxr y).1 hy
       exact hr f h1 h2
     · simp -dsimp only [go_sem]<;>simp
     · simp -dsimp only [go_sem,aF]<;>simp
 · have hg:decide ((i:Int) < (todo.length:Int))=false:=by simp; omega
   obtain rfl:i=todo.length:=by omega
   obtain rfl:=hu.fin
   simp (maxSteps:=1000000) -dsimp only [go_sem,hg,aF]
   exact .sel [] (by simp) (by simp) rfl (.done (by simpa [go_sem] using hK))
def eI:List St->List Int->ByteArray->Int
 | s :: ss,d :: ds,n=>bif decide (s.nm=n) then d else eI ss ds n
 | _,_,_=>0
theorem VP {ss:List St} {ds:List Int} {i:Nat} {x:St} {d:Int} (hx:ss[i]? = some x) (hd:ds[i]? = some d) (n:ByteArray):eI (ss.drop i) (ds.drop i) n=bif decide (x.nm=n) then d else eI (ss.drop (i + 1)) (ds.drop (i + 1)) n:=by
 obtain ⟨h,rfl⟩:=bC.1 hx
 obtain ⟨h2,rfl⟩:=bC.1 hd
 rw [List.drop_eq_getElem_cons h,List.drop_eq_getElem_cons h2]; rfl
theorem aBL {ss:List St} {ds:List Int} (n:ByteArray):eI (ss.drop ss.length) ds n=0:=by rw [List.drop_length]; simp [eI]
theorem w7 {n:ByteArray}:∀ {ss:List St} {ds:List Int},fS ss n=none->eI ss ds n=0
 | [],_,_=>by simp [eI]
 | s :: ss,[],_=>by simp [eI]
 | s :: ss,d :: ds,h=>by
  unfold fS at h
  rw [List.find?_cons] at h
  rw [eI]
  cases hc:decide (s.nm=n) with
  | true=>rw [hc] at h; simp at h
  | false=>rw [hc] at h; exact w7 (ss:=ss) h
theorem wV {n:ByteArray} {u:St}:∀ {ss:List St} {ds:List Int},ss.length=ds.length->fS ss n=some u->∃ j:Nat,ss[j]? = some u/\ds[j]? = some (eI ss ds n)
 | [],_,_,h=>by cases h
 | s :: ss,[],hl,_=>by simp at hl
 | s :: ss,d :: ds,hl,h=>by
  unfold fS at h
  rw [List.find?_cons] at h
  rw [eI]
  cases hc:decide (s.nm=n) with
  | true=>
   rw [hc] at h
   obtain rfl:s=u:=by simpa using h
   exact ⟨0,rfl,rfl⟩
  | false=>
   rw [hc] at h
   obtain ⟨j,h1,h2⟩:=wV (ss:=ss) (ds:=ds) (by simpa using hl) h
   exact ⟨j + 1,by simpa using h1,by simpa using h2⟩
def M6 (rs:List (List C)):Prop:=∃ l:List Int,rs=l.map cH
def F9 (N:Nat):List S->Prop:=fun av=>match av with
 | [.va (.gs r),.va (.c1 (.fz ds)),.va (.gs q)]=>kU r/\(M6 ds/\ds.length=(C.sc r).ss.length/\∀ d ∈ ds.map C.it,0<=d/\d<=1000000000000)/\fH q/\(cS (C.ty q)).1<=1000000000/\(C.ty q).h<=N
 | _=>False
theorem mO {N:Nat} {av:List S} (h:F9 N av):∃ (s:Sc) (l:List Int) (t:Ty),av=[.va (.gs (aF s)),.va (.c1 (.fz (l.map cH))),.va (.gs (aQ t))]/\s.fit/\(l.length=s.ss.length/\∀ d ∈ l,0<=d/\d<=1000000000000)/\TyOk t/\(cS t).1<=1000000000/\t.h<=N:=by
 unfold F9 at h
 split at h
 · obtain ⟨⟨a,rfl,ha⟩,⟨⟨l,rfl⟩,h1,h2⟩,⟨b,rfl,hb⟩,h3,h4⟩:=h
   rw [eT] at h3 h4
   rw [fB] at h1
   rw [y7] at h2
   exact ⟨a,l,b,rfl,ha,⟨by simpa using h1,h2⟩,hb,h3,h4⟩
 · exact h.elim
noncomputable def OW:List S->A:=fun av=>match av with
 | [.va (.gs r),.va (.c1 (.fz ds)),.va (.gs q)]=>iA .i64 (b9 (eI (C.sc r).ss (ds.map C.it)) (C.ty q))
 | _=>.gs []
noncomputable def OR (N:Nat):Fun:=⟨F9 N,OW,fun av h=>by obtain ⟨a,l,b,rfl,_⟩:=mO h; trivial⟩
theorem UV {N:Nat}:∀ av H K,(OR N).sp av H K->av.length=3:=fun av H K h=>by obtain ⟨a,l,b,rfl,_⟩:=mO h.1.1; rfl
attribute [go_sem] OR F9 OW
theorem wX {s:Int} {n:ByteArray} {u:Ty} {r:List Ty}:cS (.mk 5 s n (u :: r))=((cS u).1 + 1,(cS u).2):=by simp [cS,WX]
theorem GL {k s:Int} {n:ByteArray} {e:List Ty} (h:(k == 5 && decide (0 < (e.length:Int)))=false):cS (.mk k s n e)=(0,.mk k s n e):=by
 rw [cS]
 cases hk:k == 5 with
 | false=>rfl
 | true=>
  rw [hk,Bool.true_and] at h
  have:e=[]:=List.length_eq_zero_iff.1 (by simp at h; simp [h])
  subst this; rfl
theorem SG {dp:ByteArray->Int} {s:Int} {n:ByteArray} {u:Ty} {r:List Ty}:b9 dp (.mk 5 s n (u :: r))=1 + b9 dp u:=by unfold b9; rw [wX]; simp only; omega
theorem v8:∀ N,Meets Tryz.prog 89 (OR N).sp
 | 0=>⟨by kernel_rfl,by rintro xs vs E ro w K _ _ _ ⟨⟨h,_⟩,_⟩; obtain ⟨_,_,a,_,_,_,_,_,h⟩:=mO h; have:=a.h_pos; omega⟩
 | N + 1=>by
  refine aE Tryz.func89 aPL 3 (by rw [Tryz.ntmps89]; decide) (aG (v8 N) (aA _)) UV ?_
  rintro av H K ⟨⟨h,rfl⟩,hK⟩
  obtain ⟨sc,l,t,rfl,hs,⟨hl,hb⟩,ht,hlv,hh⟩:=mO h
  have hK:K (iS .i64 (b9 (eI sc.ss l) t)) []:=by
   have:(OR (N + 1)).val [.va (.gs (aF sc)),.va (.c1 (.fz (l.map cH))),.va (.gs (aQ t))]=iA .i64 (b9 (eI sc.ss l) t):=by simp -dsimp only [go_sem,y7]
   rw [this] at hK; exact hK
  clear h
  have hls:=hs.ok.ls
  have fin:∀ (b:Int) (R:Hp),b9 (eI sc.ss l) t=b->W.Fin 0 K (iS .i64 b) R:=fun b R h=>by
   rw [h] at hK
   exact .sel [] (by simp) (by simp) rfl (.done (by simp -dsimp only [go_sem]; simpa using hK))
  have hsf:=fO hs
  rw [aF] at hsf
  have hsd:=fB sc
  rw [aF] at hsd
  obtain ⟨k,s,n,e⟩:=t
  have hte:=ht.e
  have hte2:=ht.len
  simp only [Ty.e] at hte hte2
  have hin:M6 (l.map cH):=⟨l,rfl⟩
  have hr1:((l.map cH).length=sc.ss.length)=True:=by simp [hl]
  have hr2:(∀ d:Int,d ∈ l->0<=d/\d<=1000000000000)=True:=eq_true hb
  simp (maxSteps:=1000000) -dsimp only [go_sem,aF,aQ,aZ,aGO,aEU]
  cases c1:(k == 5 && decide (0 < (e.length:Int))) with
  | true=>
   simp only [Bool.and_eq_true,beq_iff_eq,decide_eq_true_eq] at c1
   obtain ⟨rfl,c1⟩:=c1
   obtain ⟨u,r,rfl⟩:∃ u r,e=u :: r:=by
    cases e with
    | nil=>simp at c1
    | cons u r=>exact ⟨u,r,rfl⟩
   rw [wX] at hlv
   have hux:(u :: r)[0]? = some u:=rfl
   have q1:=qA (row:=aQ) hux
   have hu:fH (aQ u):=eE (hte u List.mem_cons_self)
   have huh:u.h<=N:=by rw [Ty.h,Ty.hs] at hh; omega
   refine ⟨fun _=>?_,fun h=>by simp at h⟩
   have hul:((cS u).1<=1000000000)=True:=eq_true (by simp only at hlv; omega)
   have huh':(u.h<=N)=True:=eq_true huh
   have hfb:b9 (eI sc.ss l) u<=1001000000000/\0<=b9 (eI sc.ss l) u:=by
    have hd:eI sc.ss l (cS u).2.n<=1000000000000/\0<=eI sc.ss l (cS u).2.n:=by
     cases hf:fS sc.ss (cS u).2.n with
     | none=>rw [w7 hf]; omega
     | some v=>
      obtain ⟨j,_,h2⟩:=wV hl.symm hf
      have:=hb _ (bT h2); omega
    simp only at hlv
    unfold b9
    cases (cS u).2.k == 6<;>simp only [aN,aH]<;>omega
   simp (maxSteps:=1000000) -dsimp only [go_sem,iQ]
   refine ⟨by omega,fun x hx=>?_⟩
   subst hx
   simp only [hsd]
   exact ⟨⟨hsf,⟨hin,hl,hb⟩,hu,by simp only at hlv; omega,huh⟩,by omega,fin _ _ SG⟩
  | false=>
   have hst:=GL (s:=s) (n:=n) c1
   have hfd:b9 (eI sc.ss l) (.mk k s n e)=bif k == 6 then eI sc.ss l n else 0:=by unfold b9; rw [hst]; simp [Ty.k,Ty.n]
   refine ⟨fun h=>by simp at h,fun _=>?_⟩
   cases k6:k == 6 with
   | false=>
    rw [k6,aH] at hfd
    refine aK (α:=Nat) (fun i=>[(1,.va (.c1 (.fz (l.map cH)))),(3,.va (.c1 (.pt 0 0))),(5,.va (.c1 (.pt 1 0))),(7,iS .i64 i)]) (fun _=>[.cells (aF sc) 25,.cells (aQ (.mk k s n e)) 28])
     (fun i=>i<=sc.ss.length) (fun i=>sc.ss.length - i) 0 2 (Nat.zero_le _) ?_ ?_ ?_
    · simp -dsimp only [go_sem]<;>simp
    · simp -dsimp only [go_sem,aF,aQ,aZ]<;>simp
    intro i hi
    rcases bF i sc.ss.length with hlt | hge
    · have hg:decide ((i:Int) < (sc.ss.length:Int))=true:=by simp; omega
      simp (maxSteps:=1000000) -dsimp only [go_sem,hg,aF,aQ,aZ,k6]
      and_intros
      all_goals first
       | omega
       | skip
      refine aC (i + 1) 2 (by omega) (by omega) ?_ ?_
      · simp -dsimp only [go_sem]<;>simp
      · simp -dsimp only [go_sem,aF,aQ,aZ]<;>simp
    · have hg:decide ((i:Int) < (sc.ss.length:Int))=false:=by simp; omega
      simp (maxSteps:=1000000) -dsimp only [go_sem,hg,aF,aQ,aZ]
      exact fin 0 _ hfd
   | true=>
    rw [k6,aN] at hfd
    refine aK (α:=Nat) (fun i=>[(1,.va (.c1 (.fz (l.map cH)))),(3,.va (.c1 (.pt 0 0))),(5,.va (.c1 (.pt 1 0))),(7,iS .i64 i)]) (fun _=>[.cells (aF sc) 25,.cells (aQ (.mk k s n e)) 28])
     (fun i=>i<=sc.ss.length/\eI (sc.ss.drop i) (l.drop i) n=eI sc.ss l n) (fun i=>sc.ss.length - i) 0 2 ⟨Nat.zero_le _,rfl⟩ ?_ ?_ ?_
    · simp -dsimp only [go_sem]<;>simp
    · simp -dsimp only [go_sem,aF,aQ,aZ]<;>simp
    rintro i ⟨hi,ho⟩
    rcases bF i sc.ss.length with hlt | hge
    · have hg:decide ((i:Int) < (sc.ss.length:Int))=true:=by simp; omega
      obtain ⟨t,hx⟩:∃ e,sc.ss[i]? = some e:=⟨_,a7 hlt⟩
      obtain ⟨d,hd⟩:∃ e,l[i]? = some e:=⟨_,a7 (by omega)⟩
      have q2:=aV (row:=aR) hx
      have q3:=aV (row:=cH) hd
      rw [VP hx hd] at ho
      cases hc:decide (t.nm=n) with
      | true=>
       rw [hc,aN] at ho
       simp (maxSteps:=1000000) -dsimp only [go_sem,hg,↓q2,↓q3,aR,aF,aQ,aZ,dC,hc,k6]
       and_intros
       all_goals first
        | omega
        | exact fin _ _ (by rw [hfd,<-ho])
      | false=>
       rw [hc,aH] at ho
       simp (maxSteps:=1000000) -dsimp only [go_sem,hg,↓q2,aR,aF,aQ,aZ,dC,hc,k6]
       and_intros
       all_goals first
        | omega
        | skip
       refine aC (i + 1) 2 ⟨by omega,ho⟩ (by omega) ?_ ?_
       · simp -dsimp only [go_sem]<;>simp
       · simp -dsimp only [go_sem,aF,aQ,aZ]<;>simp
    · have hg:decide ((i:Int) < (sc.ss.length:Int))=false:=by simp; omega
      obtain rfl:i=sc.ss.length:=by omega
      rw [aBL] at ho
      simp (maxSteps:=1000000) -dsimp only [go_sem,hg,aF,aQ,aZ]
      exact fin 0 _ (by rw [hfd,<-ho])
def FJ:List S->Prop:=fun av=>match av with
 | [.va (.gs r),.va (.c1 (.fz ds)),.va (.gs q)]=>kU r/\(M6 ds/\ds.length=(C.sc r).ss.length/\∀ d ∈ ds.map C.it,0<=d/\d<=1000000000000)/\fH q/\(cS (C.ty q)).1<=1000000000
 | _=>False
theorem A7 {av:List S} (h:FJ av):∃ (s:Sc) (l:List Int) (t:Ty),av=[.va (.gs (aF s)),.va (.c1 (.fz (l.map cH))),.va (.gs (aQ t))]/\s.fit/\(l.length=s.ss.length/\∀ d ∈ l,0<=d/\d<=1000000000000)/\TyOk t/\(cS t).1<=1000000000:=by
 unfold FJ at h
 split at h
 · obtain ⟨⟨a,rfl,ha⟩,⟨⟨l,rfl⟩,h1,h2⟩,⟨b,rfl,hb⟩,h3⟩:=h
   rw [eT] at h3
   rw [fB] at h1
   rw [y7] at h2
   exact ⟨a,l,b,rfl,ha,⟨by simpa using h1,h2⟩,hb,h3⟩
 · exact h.elim
noncomputable def t0Fn:Fun:=⟨FJ,OW,fun av h=>by obtain ⟨a,l,b,rfl,_⟩:=A7 h; trivial⟩
attribute [go_sem] t0Fn FJ
theorem NL:Meets Tryz.prog 89 t0Fn.sp:=eQ 0 v8 fun av H K ⟨⟨h,e⟩,hK⟩=>by
 obtain ⟨a,l,b,rfl,ha,⟨h1,h2⟩,hb,h3⟩:=A7 h
 refine ⟨b.h,⟨⟨⟨fO ha,⟨⟨l,rfl⟩,by rw [fB]; simpa using h1,by rw [y7]; exact h2⟩,eE hb,by rw [eT]; exact h3,by rw [eT]; exact Nat.le_refl _⟩,e⟩,hK⟩⟩
theorem D9 {dp dq:ByteArray->Int} {l:List Fl} (h:∀ f ∈ l,b9 dp f.ty<=b9 dq f.ty):f5 dp l<=f5 dq l:=MJ (jV _ _) fun f hf=>Int.le_trans (h f hf) (MM hf)
structure DI (ss:List St) (r i:Nat) (d:List Int):Prop where
 len:d.length=ss.length
 lo:∀ (j:Nat) (t:St) (v:Int),ss[j]? = some t->d[j]? = some v->0<=v/\v<=dD ss t.nm/\(qU ss t.nm < r->v=dD ss t.nm)/\(j < i->qU ss t.nm < r + 1->v=dD ss t.nm)
theorem DI.ix {ss:List St} {es:List En} (_g:Gd ss es) {r i:Nat} {d:List Int} (h:DI ss r i d) (n:ByteArray):0<=eI ss d n/\eI ss d n<=dD ss n/\((fS ss n).isSome=true->qU ss n < r->eI ss d n=dD ss n):=by
 cases hf:fS ss n with
 | none=>
  rw [w7 hf]
  exact ⟨Int.le_refl _,FS ss n,fun h=>by simp at h⟩
 | some u=>
  obtain ⟨j,h1,h2⟩:=wV h.len.symm hf
  obtain ⟨a1,a2,a3,_⟩:=h.lo j u _ h1 h2
  obtain ⟨_,rfl⟩:=gV hf
  exact ⟨a1,a2,fun _ h=>a3 h⟩
theorem DI.all {ss:List St} {es:List En} (g:Gd ss es) {r i:Nat} {d:List Int} (h:DI ss r i d):∀ v ∈ d,0<=v/\v<=1000000000000:=fun v hv=>by
 obtain ⟨j,hj⟩:=List.mem_iff_getElem?.1 hv
 have hl:=(bC.1 hj).1
 obtain ⟨t,ht⟩:∃ t,ss[j]? = some t:=⟨_,a7 (by have:=h.len; omega)⟩
 obtain ⟨h1,h2,_⟩:=h.lo j t v ht hj
 have:=M4 g t.nm
 omega
theorem DI.fd {ss:List St} {es:List En} (g:Gd ss es) {r i:Nat} {d:List Int} (h:DI ss r i d) (t:Ty):b9 (eI ss d) t<=b9 (dD ss) t:=by
 unfold b9
 have:=h.ix g (cS t).2.n
 cases (cS t).2.k == 6<;>simp only [aN,aH]<;>omega
theorem DI.set {ss:List St} {es:List En} (g:Gd ss es) (ha:wB ss) {r i:Nat} {d:List Int} (h:DI ss r i d) {t:St} (ht:ss[i]? = some t):DI ss r (i + 1) (d.set i (1 + f5 (eI ss d) t.fs)):=by
 have htm:=bT ht
 have hD:=F5 g ha (g.nd t htm)
 have hle:f5 (eI ss d) t.fs<=f5 (dD ss) t.fs:=D9 fun f _=>h.fd g f.ty
 have heq:qU ss t.nm < r + 1->f5 (eI ss d) t.fs=f5 (dD ss) t.fs:=fun hr=>rX fun f hf=>by
  unfold b9
  cases hk:(cS f.ty).2.k == 6 with
  | false=>rfl
  | true=>
   obtain ⟨h1,u,h2⟩:=CG g (g.nd t htm) hf hk
   have h3:=CA h1 h2 ha
   rw [(h.ix g _).2.2 (by rw [h2]; rfl) (by omega)]
 have hn:=jV (eI ss d) t.fs
 refine ⟨by rw [List.length_set]; exact h.len,fun j u v hu hv=>?_⟩
 rw [List.getElem?_set] at hv
 by_cases e:i=j
 · subst e
   rw [ht] at hu; obtain rfl:=bN hu
   have hlt:i < d.length:=by have:=h.len; have:=(bC.1 ht).1; omega
   simp [hlt] at hv
   subst hv
   exact ⟨by omega,by omega,fun hr=>by rw [heq (by omega)]; omega,fun _ hr=>by rw [heq hr]; omega⟩
 · rw [if_neg e] at hv
   obtain ⟨a1,a2,a3,a4⟩:=h.lo j u v hu hv
   exact ⟨a1,a2,a3,fun hj hr=>a4 (by omega) hr⟩
theorem DI.up {ss:List St} {r:Nat} {d:List Int} (h:DI ss r ss.length d):DI ss (r + 1) 0 d:=⟨h.len,fun j t v ht hv=>by
 obtain ⟨a1,a2,_,a4⟩:=h.lo j t v ht hv
 exact ⟨a1,a2,fun hr=>a4 (bC.1 ht).1 hr,fun h=>absurd h (Nat.not_lt_zero _)⟩⟩
theorem DI.fin {ss:List St} {d:List Int} (h:DI ss (ss.length + 1) 0 d):d=ss.map fun t=>dD ss t.nm:=by
 refine List.ext_getElem? fun j=>?_
 rw [List.getElem?_map]
 cases ht:ss[j]? with
 | none=>
  rw [List.getElem?_eq_none_iff] at ht
  rw [List.getElem?_eq_none (by rw [h.len]; exact ht)]; rfl
 | some t=>
  obtain ⟨v,hv⟩:∃ v,d[j]? = some v:=⟨_,a7 (by rw [h.len]; exact (bC.1 ht).1)⟩
  obtain ⟨_,_,a3,_⟩:=h.lo j t v ht hv
  rw [hv,a3 (Nat.lt_succ_of_le (MH _ _))]; rfl
theorem DI.init (ss:List St):DI ss 0 0 (List.replicate ss.length 0):=⟨by simp,fun j t v ht hv=>by
 have:v=0:=by
  have:=bT hv
  exact (List.mem_replicate.1 this).2
 subst this
 exact ⟨Int.le_refl _,FS _ _,fun h=>absurd h (Nat.not_lt_zero _),fun h=>absurd h (Nat.not_lt_zero _)⟩⟩
def aI7:W.Spec:=fun av H K=>∃ s:Sc,av=[.va (.gs (aF s))]/\H=[]/\s.fit/\Gd s.ss s.es/\wB s.ss/\K (.va (.c1 (.fz ((s.ss.map fun t=>dD s.ss t.nm).map cH)))) []
theorem aIV {s:Sc} {K:S->Hp->Prop} (h:s.fit) (g:Gd s.ss s.es) (ha:wB s.ss) (hK:K (.va (.c1 (.fz ((s.ss.map fun t=>dD s.ss t.nm).map cH)))) []):aI7 [.va (.gs (aF s))] [] K:=⟨s,rfl,rfl,h,g,ha,hK⟩
theorem aAO {D:ByteArray->Int} {l:List Fl} {i:Nat} {f:Fl} (hx:l[i]? = some f):(l.take (i + 1)).foldl (gF D) 0=max ((l.take i).foldl (gF D) 0) (b9 D f.ty):=by
 rw [gE hx,List.foldl_append]; rfl
theorem aCF:Meets Tryz.prog 51 aI7:=by
 refine aE Tryz.func51 aSH 1 (by rw [Tryz.ntmps51]; decide) (aG NL (aA _)) (fun av H K h=>by obtain ⟨_,rfl,_⟩:=h; rfl) ?_
 rintro av H K ⟨s,rfl,rfl,hs,g,ha,hK⟩
 have hls:=g.n
 simp (maxSteps:=1000000) -dsimp only [go_sem,aF,aDI,aDG]
 refine ⟨⟨by omega,by omega,by omega⟩,fun h0=>?_,fun h0=>?_⟩
 · have hnil:s.ss=[]:=List.length_eq_zero_iff.1 (by omega)
   have hlen:s.ss.length=0:=by omega
   rw [hnil] at hK
   refine aK (α:=Nat) (fun i=>[(1,.va (.c1 (.pt 0 0))),(3,.va (.c1 (.fz []))),(4,iS .i64 i)]) (fun _=>[.cells (aF s) 25])
    (fun i=>i<=1) (fun i=>1 - i) 0 1 (Nat.zero_le _) ?_ ?_ ?_
   · simp -dsimp only [go_sem]<;>simp
   · simp -dsimp only [go_sem,aF]<;>simp
   intro i hi
   rcases Nat.eq_zero_or_pos i with h1 | h1
   · have hg:decide ((i:Int)<=(s.ss.length:Int))=true:=by simp; omega
     simp (maxSteps:=1000000) -dsimp only [go_sem,hg,aF]
     refine aK (α:=Unit) (fun _=>[(1,.va (.c1 (.pt 0 0))),(3,.va (.c1 (.fz []))),(4,iS .i64 i),(5,iS .i64 0)]) (fun _=>[.cells (aF s) 25])
      (fun _=>True) (fun _=>0) () 1 trivial ?_ ?_ ?_
     · simp -dsimp only [go_sem]<;>simp
     · simp -dsimp only [go_sem,aF]<;>simp
     intro _ _
     have hg:decide ((0:Int) < (s.ss.length:Int))=false:=by simp; omega
     simp (maxSteps:=1000000) -dsimp only [go_sem,hg,aF]
     refine ⟨by omega,aC (i + 1) 1 (by omega) (by omega) ?_ ?_⟩
     · simp -dsimp only [go_sem]<;>simp
     · simp -dsimp only [go_sem,aF]<;>simp
   · have hg:decide ((i:Int)<=(s.ss.length:Int))=false:=by simp; omega
     simp (maxSteps:=1000000) -dsimp only [go_sem,hg,aF]
     exact .sel [] (by simp) (by simp) rfl (.done (by simpa [go_sem] using hK))
 · have hsf:=fO hs
   rw [aF] at hsf
   have hsd:=fB s
   rw [aF] at hsd
   refine aK (α:=Nat × List Int) (fun z=>[(1,.va (.c1 (.pt 0 0))),(3,.va (.c1 (.sl 1 s.ss.length))),(4,iS .i64 z.1)]) (fun z=>[.cells (aF s) 25,.row (z.2.map cH) 3 1])
    (fun z=>z.1<=s.ss.length + 1/\DI s.ss z.1 0 z.2) (fun z=>s.ss.length + 1 - z.1) (0,List.replicate s.ss.length 0) 2 ⟨Nat.zero_le _,DI.init _⟩ ?_ ?_ ?_
   · simp -dsimp only [go_sem]<;>simp
   · simp -dsimp only [go_sem,aF]<;>simp
   rintro ⟨r,d⟩ ⟨hr,hd⟩
   simp only at hr hd ⊢
   rcases bF r (s.ss.length + 1) with hlt | hge
   · have hg:decide ((r:Int)<=(s.ss.length:Int))=true:=by simp; omega
     simp (maxSteps:=1000000) -dsimp only [go_sem,hg,aF]
     refine aK (α:=Nat × List Int) (fun z=>[(1,.va (.c1 (.pt 0 0))),(3,.va (.c1 (.sl 1 s.ss.length))),(4,iS .i64 r),(5,iS .i64 z.1)]) (fun z=>[.cells (aF s) 25,.row (z.2.map cH) 3 1])
      (fun z=>z.1<=s.ss.length/\DI s.ss r z.1 z.2) (fun z=>s.ss.length - z.1) (0,d) 2 ⟨Nat.zero_le _,hd⟩ ?_ ?_ ?_
     · simp -dsimp only [go_sem]<;>simp
     · simp -dsimp only [go_sem,aF]<;>simp
     clear hd hg
     rintro ⟨i,d⟩ ⟨hi,hd⟩
     simp only at hi hd ⊢
     rcases bF i s.ss.length with hit | hig
     · have hg:decide ((i:Int) < (s.ss.length:Int))=true:=by simp; omega
       obtain ⟨t,hx⟩:∃ e,s.ss[i]? = some e:=⟨_,a7 hit⟩
       have htm:=bT hx
       obtain ⟨_,htl,hfs⟩:=hs.ok.ss t htm
       have q1:=aV (row:=aR) hx
       have hset:=hd.set g ha hx
       have hmx:f5 (eI s.ss d) t.fs<=1000000000000:=by
        have h1:=D9 (l:=t.fs) fun f _=>hd.fd g f.ty
        have h2:=F5 g ha (g.nd t htm)
        have h3:=M4 g t.nm
        omega
       simp (maxSteps:=1000000) -dsimp only [go_sem,hg,aF]
       refine aK (α:=Nat) (fun k=>[(1,.va (.c1 (.pt 0 0))),(3,.va (.c1 (.sl 1 s.ss.length))),(4,iS .i64 r),(5,iS .i64 i),(6,iS .i64 ((t.fs.take k).foldl (gF (eI s.ss d)) 0)),(7,iS .i64 k)]) (fun _=>[.cells (aF s) 25,.row (d.map cH) 3 1])
        (fun k=>k<=t.fs.length) (fun k=>t.fs.length - k) 0 2 (Nat.zero_le _) ?_ ?_ ?_
       · simp -dsimp only [go_sem]<;>simp
       · simp -dsimp only [go_sem,aF]<;>simp
       intro k hk
       rcases bF k t.fs.length with hkt | hkg
       · have hg:decide ((k:Int) < (t.fs.length:Int))=true:=by simp; omega
         obtain ⟨f,hf⟩:∃ e,t.fs[k]? = some e:=⟨_,a7 hkt⟩
         have hfm:=bT hf
         have q2:=aV (row:=aY) hf
         have hity:fH (aQ f.ty):=eE (hfs f hfm).ty
         have hlv:((cS f.ty).1<=1000000000)=True:=eq_true (g.lv t htm f hfm)
         have hin:M6 (d.map cH):=⟨d,rfl⟩
         have hdl:d.length=s.ss.length:=hd.len
         have hall:(∀ v:Int,v ∈ d->0<=v/\v<=1000000000000)=True:=eq_true (hd.all g)
         simp (maxSteps:=1000000) -dsimp only [go_sem,hg,↓q1,aR,aF]
         simp (maxSteps:=1000000) -dsimp only [go_sem,aY,vH,hsf,hsd,hity,hlv,hin,hall,hdl,hf,aI,forall_eq']
         refine ⟨by omega,by omega,by omega,by omega,aC (k + 1) 2 (by omega) (by omega) ?_ ?_⟩
         · simp -dsimp only [go_sem,aAO hf]<;>simp
         · simp -dsimp only [go_sem,aF]<;>simp
       · have hg:decide ((k:Int) < (t.fs.length:Int))=false:=by simp; omega
         obtain rfl:k=t.fs.length:=by omega
         have hmx2:t.fs.foldl (gF (eI s.ss d)) 0=f5 (eI s.ss d) t.fs:=rfl
         rw [List.take_length,hmx2]
         have hn0:=jV (eI s.ss d) t.fs
         have hdl:d.length=s.ss.length:=hd.len
         obtain ⟨v0,hv0⟩:∃ e,d[i]? = some e:=⟨_,a7 (by omega)⟩
         simp (maxSteps:=1000000) -dsimp only [go_sem,hg,↓q1,aR,aF]
         simp (maxSteps:=1000000) -dsimp only [go_sem,hv0,aI,forall_eq']
         refine ⟨by omega,by omega,⟨by omega,hdl⟩,⟨hdl,by omega⟩,by omega,aC (i + 1,d.set i (1 + f5 (eI s.ss d) t.fs)) 2 ⟨by simp only; omega,hset⟩ (by simp only; omega) ?_ ?_⟩
         · simp -dsimp only [go_sem]<;>simp
         · simp -dsimp only [go_sem,aF]<;>simp [List.map_set]
     · have hg:decide ((i:Int) < (s.ss.length:Int))=false:=by simp; omega
       obtain rfl:i=s.ss.length:=by omega
       simp (maxSteps:=1000000) -dsimp only [go_sem,hg,aF]
       refine ⟨by omega,aC (r + 1,d) 2 ⟨by simp only; omega,hd.up⟩ (by simp only; omega) ?_ ?_⟩
       · simp -dsimp only [go_sem]<;>simp
       · simp -dsimp only [go_sem,aF]<;>simp
   · have hg:decide ((r:Int)<=(s.ss.length:Int))=false:=by simp; omega
     obtain rfl:r=s.ss.length + 1:=by omega
     have hfin:=hd.fin
     rw [<-hfin] at hK
     simp (maxSteps:=1000000) -dsimp only [go_sem,hg,aF]
     have e1:s.ss.length=(d.map cH).length:=by rw [List.length_map]; exact hd.len.symm
     rw [e1]
     refine .pub 1 _ _ _ rfl (.sel [] (by simp) (by simp [cT]) rfl (.done ?_))
     simp -dsimp only [go_sem,cT]
     simpa using hK
theorem aA6:Meets Tryz.prog 20 ckFn.sp:=by
 refine aE Tryz.func20 aR9 1 (by rw [Tryz.ntmps20]; decide) (aG aCS (aG aAE (aG PP (aB aJL (aG V2 (aB aCF (aA _))))))) uW ?_
 rintro av H K ⟨⟨h,rfl⟩,hK⟩
 obtain ⟨_,rfl,s,rfl,hs⟩:=jD h
 have hK:K (iS .i64 (eP s)) []:=by
  have:ckFn.val [.va (.gs (aF s))]=iA .i64 (eP s):=by simp -dsimp only [go_sem]
  rw [this] at hK; exact hK
 clear h
 have hfit:=hs
 have hsc:qN (aF s):=MQ hs.ok
 have hsf:kU (aF s):=fO hs
 obtain ⟨⟨hv,hle,hls,hes,hss⟩,hlv,_,_⟩:=hs
 have fin:∀ (x:Int) (R:Hp),eP s=x->W.Fin 0 K (iS .i64 x) R:=fun x R h1=>by
  rw [h1] at hK
  exact .sel [] (by simp) (by simp) rfl (.done (by simpa [go_sem] using hK))
 have hsc':=hsc
 have hsf':=hsf
 simp only [aF] at hsc' hsf'
 have hdec:C.sc [.vl (.int .i64 s.ver),.fz (s.es.map bG),.fz (s.ss.map aR)]=s:=fB s
 simp (maxSteps:=1000000) -dsimp only [go_sem,aF,aCY,aGU,hsc',hdec]
 refine ⟨fun h1=>fin 4 _ (by unfold eP; rw [h1]; rfl),fun c1=>⟨fun h1=>fin 3 _ (by unfold eP; rw [c1,h1]; rfl),fun c2=>?_⟩⟩
 have hF:eP s=bif JV s != 0 then JV s else bif ED s != 0 then ED s else vM s.ss:=by unfold eP; rw [c1,c2]; rfl
 refine aK (α:=Nat) (fun i=>[(1,.va (.c1 (.pt 0 0))),(3,iS .i64 i)]) (fun _=>[.cells (aF s) 25])
  (fun i=>i<=s.es.length/\fE (jR s) (s.es.length - i) i=JV s) (fun i=>s.es.length - i) 0 1 ⟨Nat.zero_le _,rfl⟩ ?_ ?_ ?_
 · simp -dsimp only [go_sem]<;>simp
 · simp -dsimp only [go_sem,aF]<;>simp
 rintro i ⟨hi,ho⟩
 rcases bF i s.es.length with hlt | hge
 · have hg:decide ((i:Int) < (s.es.length:Int))=true:=by simp; omega
   have fin':∀ (x:Int) (R:Hp),jR s i=x->x ≠ 0->W.Fin 0 K (iS .i64 x) R:=fun x R h1 h2=>fin x R (by
    rw [hF,<-ho,tU hlt (by rw [h1]; exact h2),h1]; exact JP h2)
   have cP:jR s i=0->fE (jR s) (s.es.length - (i + 1)) (i + 1)=JV s:=fun h1=>by rw [<-ho,zI hlt h1]
   simp (maxSteps:=1000000) -dsimp only [go_sem,hg,aF,hsf',hdec,Int.toNat_natCast]
   refine ⟨⟨by omega,by omega⟩,fun h1=>fin' _ _ rfl (by simpa using h1),fun h1=>?_⟩
   refine ⟨by omega,aC (i + 1) 1 ⟨by omega,cP (by simpa using h1)⟩ (by omega) ?_ ?_⟩
   · simp -dsimp only [go_sem]<;>simp
   · simp -dsimp only [go_sem,aF]<;>simp
 · have hg:decide ((i:Int) < (s.es.length:Int))=false:=by simp; omega
   obtain rfl:i=s.es.length:=by omega
   rw [z8] at ho
   rw [LJ ho.symm] at hF
   simp (maxSteps:=1000000) -dsimp only [go_sem,hg,aF]
   clear hi hge hg ho
   refine aK (α:=Nat) (fun i=>[(1,.va (.c1 (.pt 0 0))),(5,iS .i64 i)]) (fun _=>[.cells (aF s) 25])
    (fun i=>i<=s.ss.length/\fE (j7 s) (s.ss.length - i) i=ED s) (fun i=>s.ss.length - i) 0 1 ⟨Nat.zero_le _,rfl⟩ ?_ ?_ ?_
   · simp -dsimp only [go_sem]<;>simp
   · simp -dsimp only [go_sem,aF]<;>simp
   rintro i ⟨hi,ho⟩
   rcases bF i s.ss.length with hlt | hge
   · have hg:decide ((i:Int) < (s.ss.length:Int))=true:=by simp; omega
     have fin':∀ (x:Int) (R:Hp),j7 s i=x->x ≠ 0->W.Fin 0 K (iS .i64 x) R:=fun x R h1 h2=>fin x R (by
      rw [hF,<-ho,tU hlt (by rw [h1]; exact h2),h1]; exact JP h2)
     have cP:j7 s i=0->fE (j7 s) (s.ss.length - (i + 1)) (i + 1)=ED s:=fun h1=>by rw [<-ho,zI hlt h1]
     simp (maxSteps:=1000000) -dsimp only [go_sem,hg,aF,hsf',hdec,Int.toNat_natCast]
     refine ⟨⟨by omega,by omega⟩,fun h1=>fin' _ _ rfl (by simpa using h1),fun h1=>?_⟩
     refine ⟨by omega,aC (i + 1) 1 ⟨by omega,cP (by simpa using h1)⟩ (by omega) ?_ ?_⟩
     · simp -dsimp only [go_sem]<;>simp
     · simp -dsimp only [go_sem,aF]<;>simp
   · have hg:decide ((i:Int) < (s.ss.length:Int))=false:=by simp; omega
     obtain rfl:i=s.ss.length:=by omega
     rw [z8] at ho
     rw [LJ ho.symm] at hF
     have g:=L5 hfit c2 ho.symm
     simp (maxSteps:=1000000) -dsimp only [go_sem,hg,aF]
     clear hi hge hg ho
     refine aK (α:=Nat) (fun i=>[(1,.va (.c1 (.pt 0 0))),(7,iS .i64 i)]) (fun _=>[.cells (aF s) 25])
      (fun i=>i<=s.ss.length/\(s.ss.drop i).any (fun t=>dM (gC s.ss t.nm) t.nm)=s.ss.any (fun t=>dM (gC s.ss t.nm) t.nm)) (fun i=>s.ss.length - i) 0 1 ⟨Nat.zero_le _,rfl⟩ ?_ ?_ ?_
     · simp -dsimp only [go_sem]<;>simp
     · simp -dsimp only [go_sem,aF]<;>simp
     rintro i ⟨hi,ho⟩
     rcases bF i s.ss.length with hlt | hge
     · have hg:decide ((i:Int) < (s.ss.length:Int))=true:=by simp; omega
       obtain ⟨t,hx⟩:∃ t,s.ss[i]? = some t:=⟨_,a7 hlt⟩
       have q1:=aV (row:=aR) hx
       rw [iI hx] at ho
       have hv:=g.vlen t.nm
       have hul:=DS s.ss t.nm
       have hbs:BN ((gC s.ss t.nm).map bM):=uF (by rw [DS]; omega)
       have e0:(0<=((gC s.ss t.nm).length:Int))=True:=by simp
       have e1:(((gC s.ss t.nm).length:Int)<=9223372036854775807)=True:=by rw [hul]; exact eq_true (by omega)
       have hto:(gC s.ss t.nm).take (gC s.ss t.nm).length=gC s.ss t.nm:=List.take_length
       simp (maxSteps:=1000000) -dsimp only [go_sem,hg,↓q1,aR,aF]
       refine ⟨by omega,aGX hfit g ?_⟩
       simp (maxSteps:=1000000) -dsimp only [go_sem,hbs,e0,e1,Int.toNat_natCast,hto]
       refine ⟨by omega,fun hc=>?_,fun hc=>?_⟩
       · rw [hc,Bool.true_or] at ho
         exact fin 19 _ (by rw [hF]; unfold vM; rw [<-ho]; rfl)
       · rw [hc,Bool.false_or] at ho
         refine ⟨by omega,aC (i + 1) 1 ⟨by omega,ho⟩ (by omega) ?_ ?_⟩
         · simp -dsimp only [go_sem]<;>simp
         · simp -dsimp only [go_sem,aF]<;>simp
     · have hg:decide ((i:Int) < (s.ss.length:Int))=false:=by simp; omega
       obtain rfl:i=s.ss.length:=by omega
       rw [pU] at ho
       have ha:wB s.ss:=fun t ht=>jB ho.symm t ht
       have hF2:eP s=bif s.ss.any (fun t=>decide (6 < dD s.ss t.nm)) then 9 else 0:=by rw [hF]; unfold vM; rw [<-ho]; rfl
       simp (maxSteps:=1000000) -dsimp only [go_sem,hg,aF]
       refine aIV hfit g ha ?_
       simp (maxSteps:=1000000) -dsimp only [go_sem]
       clear hi hge hg ho
       refine aK (α:=Nat) (fun i=>[(9,.va (.c1 (.fz ((s.ss.map fun t=>dD s.ss t.nm).map cH)))),(10,iS .i64 i)]) (fun _=>[.cells (aF s) 25])
        (fun i=>i<=s.ss.length/\(s.ss.drop i).any (fun t=>decide (6 < dD s.ss t.nm))=s.ss.any (fun t=>decide (6 < dD s.ss t.nm))) (fun i=>s.ss.length - i) 0 1 ⟨Nat.zero_le _,rfl⟩ ?_ ?_ ?_
       · simp -dsimp only [go_sem]<;>simp
       · simp -dsimp only [go_sem,aF]<;>simp
       rintro i ⟨hi,ho⟩
       rcases bF i s.ss.length with hlt | hge
       · have hg:decide ((i:Int) < (s.ss.length:Int))=true:=by simp; omega
         obtain ⟨t,hx⟩:∃ t,s.ss[i]? = some t:=⟨_,a7 hlt⟩
         have hd:(s.ss.map fun t=>dD s.ss t.nm)[i]? = some (dD s.ss t.nm):=by rw [List.getElem?_map,hx]; rfl
         have q1:=aV (row:=cH) hd
         have hml:(s.ss.map fun t=>dD s.ss t.nm).length=s.ss.length:=by simp
         rw [iI hx] at ho
         generalize (s.ss.map fun t=>dD s.ss t.nm)=ds at *
         simp (maxSteps:=1000000) -dsimp only [go_sem,hml,hg,↓q1,aF]
         refine ⟨by omega,fun hc=>?_,fun hc=>?_⟩
         · rw [hc,Bool.true_or] at ho
           exact fin 9 _ (by rw [hF2,<-ho]; rfl)
         · rw [hc,Bool.false_or] at ho
           refine ⟨by omega,aC (i + 1) 1 ⟨by omega,ho⟩ (by omega) ?_ ?_⟩
           · simp -dsimp only [go_sem]<;>simp
           · simp -dsimp only [go_sem,aF]<;>simp
       · have hg:decide ((i:Int) < (s.ss.length:Int))=false:=by simp; omega
         obtain rfl:i=s.ss.length:=by omega
         rw [pU] at ho
         have hml:(s.ss.map fun t=>dD s.ss t.nm).length=s.ss.length:=by simp
         generalize (s.ss.map fun t=>dD s.ss t.nm)=ds at *
         simp (maxSteps:=1000000) -dsimp only [go_sem,hml,hg,aF]
         exact fin 0 _ (by rw [hF2,<-ho]; rfl)
def gJ:Nat->Ty->Nat
 | 0,_=>0
 | N + 1,t=>t.e.foldl (fun m u=>max m (1 + gJ N u)) 0
abbrev lF (N:Nat):Nat->Ty->Nat:=fun m u=>max m (1 + gJ N u)
theorem Z6 (N:Nat):∀ (l:List Ty) (m:Nat),m<=l.foldl (lF N) m
 | [],_=>Nat.le_refl _
 | u :: l,m=>Nat.le_trans (Nat.le_max_left _ _) (Z6 N l (max m (1 + gJ N u)))
theorem aDD {N:Nat} {l:List Ty} {u:Ty} (h:u ∈ l):∀ m,1 + gJ N u<=l.foldl (lF N) m:=by
 induction l with
 | nil=>cases h
 | cons v l ih=>
  intro m
  rcases List.mem_cons.1 h with rfl | h
  · exact Nat.le_trans (Nat.le_max_right m _) (Z6 N l _)
  · exact ih h _
theorem aKO {N B:Nat} {l:List Ty} (h:∀ u ∈ l,1 + gJ N u<=B):∀ m,m<=B->l.foldl (lF N) m<=B:=by
 induction l with
 | nil=>exact fun _ h=>h
 | cons v l ih=>exact fun m hm=>ih (fun u hu=>h u (List.mem_cons_of_mem _ hu)) _ (Nat.max_le.2 ⟨hm,h v List.mem_cons_self⟩)
theorem CV:∀ (N:Nat) (t:Ty),gJ N t<=N
 | 0,_=>Nat.le_refl _
 | N + 1,t=>aKO (fun u _=>by have:=CV N u; omega) 0 (Nat.zero_le _)
theorem O0:∀ (N:Nat) (t:Ty),gJ N t < N->t.h<=gJ N t + 1
 | 0,_,h=>absurd h (Nat.not_lt_zero _)
 | N + 1,.mk k s n e,h=>by
  have hu:∀ u ∈ e,u.h<=gJ (N + 1) (.mk k s n e):=fun u hu=>by
   have h1:1 + gJ N u<=gJ (N + 1) (.mk k s n e):=aDD (N:=N) (l:=e) hu 0
   have:=O0 N u (by omega)
   omega
  rw [Ty.h]
  have:∀ (l:List Ty),(∀ u ∈ l,u.h<=gJ (N + 1) (.mk k s n e))->Ty.hs l<=gJ (N + 1) (.mk k s n e):=by
   intro l
   induction l with
   | nil=>exact fun _=>Nat.zero_le _
   | cons v l ih=>
    intro h
    rw [Ty.hs]
    exact Nat.max_le.2 ⟨h v List.mem_cons_self,ih fun u hu=>h u (List.mem_cons_of_mem _ hu)⟩
  have:=this e hu
  omega
theorem aBV {N:Nat} {l:List Ty} {i:Nat} {u:Ty} (hx:l[i]? = some u):(l.take (i + 1)).foldl (lF N) 0=max ((l.take i).foldl (lF N) 0) (1 + gJ N u):=by
 rw [gE hx,List.foldl_append]; rfl
def FK (N:Nat):List S->Prop:=fun av=>match av with
 | [.va (.gs q),.va (.c1 (.vl (.int .i64 k)))]=>fH q/\k=(N:Int)/\N<=1000
 | _=>False
theorem mS {N:Nat} {av:List S} (h:FK N av):∃ t:Ty,av=[.va (.gs (aQ t)),iS .i64 N]/\TyOk t/\N<=1000:=by
 unfold FK at h
 split at h
 · obtain ⟨⟨t,rfl,ht⟩,rfl,h⟩:=h
   exact ⟨t,rfl,ht,h⟩
 · exact h.elim
noncomputable def XD (N:Nat):List S->A:=fun av=>match av with
 | [.va (.gs q),.va (.c1 (.vl (.int .i64 _)))]=>iA .i64 (gJ N (C.ty q))
 | _=>.gs []
noncomputable def C4 (N:Nat):Fun:=⟨FK N,XD N,fun av h=>by obtain ⟨a,rfl,_⟩:=mS h; trivial⟩
theorem HV {N:Nat}:∀ av H K,(C4 N).sp av H K->av.length=2:=fun av H K h=>by obtain ⟨a,rfl,_⟩:=mS h.1.1; rfl
attribute [go_sem] C4 FK XD
theorem aA4:Meets Tryz.prog 45 (C4 0).sp:=by
 refine aE Tryz.func45 aHV 2 (by rw [Tryz.ntmps45]; decide) (aA _) HV ?_
 rintro av H K ⟨⟨h,rfl⟩,hK⟩
 obtain ⟨t,rfl,ht,hN⟩:=mS h
 have hK:K (iS .i64 0) []:=by
  have:(C4 0).val [.va (.gs (aQ t)),iS .i64 ((0:Nat):Int)]=iA .i64 0:=by simp -dsimp only [go_sem]; rfl
  rw [this] at hK; exact hK
 clear h
 obtain ⟨k,s,n,e⟩:=t
 simp (maxSteps:=1000000) -dsimp only [go_sem,aQ,aZ,TC,U9]
 refine aK (α:=Unit) (fun i=>[(1,iS .i64 0),(2,.va (.c1 (.pt 0 0))),(5,iS .i64 0),(6,iS .i64 0)]) (fun _=>[.cells (aQ (.mk k s n e)) 28])
  (fun i=>True) (fun i=>0) () 1 trivial ?_ ?_ ?_
 · simp -dsimp only [go_sem]
   simp
 · simp -dsimp only [go_sem,aQ,aZ]
 intro _ _
 have hg2:decide ((0:Int) < 0)=false:=rfl
 cases hg:decide ((0:Int) < (e.length:Int)) with
 | true=>
  simp (maxSteps:=1000000) -dsimp only [go_sem,hg,hg2,aQ,aZ]
  exact .sel [] (by simp) (by simp) rfl (.done (by simp -dsimp only [go_sem]; exact hK))
 | false=>
  simp (maxSteps:=1000000) -dsimp only [go_sem,hg,hg2,aQ,aZ]
  exact .sel [] (by simp) (by simp) rfl (.done (by simp -dsimp only [go_sem]; exact hK))
theorem SJ:∀ N,Meets Tryz.prog 45 (C4 N).sp
 | 0=>aA4
 | N + 1=>by
  refine aE Tryz.func45 aHV 2 (by rw [Tryz.ntmps45]; decide) (aG (SJ N) (aA _)) HV ?_
  rintro av H K ⟨⟨h,rfl⟩,hK⟩
  obtain ⟨t,rfl,ht,hN⟩:=mS h
  have hK:K (iS .i64 (gJ (N + 1) t)) []:=by
   have:(C4 (N + 1)).val [.va (.gs (aQ t)),iS .i64 ((N + 1:Nat):Int)]=iA .i64 (gJ (N + 1) t):=by simp -dsimp only [go_sem]
   rw [this] at hK; exact hK
  clear h
  obtain ⟨k,s,n,e⟩:=t
  have hte:=ht.e
  have hte2:=ht.len
  simp only [Ty.e] at hte hte2
  have hK:K (iS .i64 ((e.foldl (lF N) 0:Nat):Int)) []:=hK
  simp (maxSteps:=1000000) -dsimp only [go_sem,aQ,aZ,TC,U9]
  refine aK (α:=Nat) (fun i=>[(1,iS .i64 ((N + 1:Nat):Int)),(2,.va (.c1 (.pt 0 0))),(5,iS .i64 (((e.take i).foldl (lF N) 0:Nat):Int)),(6,iS .i64 i)]) (fun _=>[.cells (aQ (.mk k s n e)) 28])
   (fun i=>i<=e.length) (fun i=>e.length - i) 0 1 (Nat.zero_le _) ?_ ?_ ?_
  · simp -dsimp only [go_sem]
    simp
  · simp -dsimp only [go_sem,aQ,aZ]
  intro i hi
  rcases bF i e.length with hlt | hge
  · have hg:decide ((i:Int) < (e.length:Int))=true:=by simp; omega
    have hg2:decide (0 < ((N + 1:Nat):Int))=true:=decide_eq_true (by omega)
    obtain ⟨u,hx⟩:∃ t,e[i]? = some t:=⟨_,a7 hlt⟩
    have q1:=aV (row:=aQ) hx
    have hu:fH (aQ u):=eE (hte u (bT hx))
    have hn1:((N + 1:Nat):Int) - 1=(N:Int):=by omega
    have hl:=CV N u
    simp (maxSteps:=1000000) -dsimp only [go_sem,hg,hg2,↓q1,aQ,aZ,iQ,hu,hn1]
    refine ⟨by omega,by omega,by omega,by omega,by omega,aC (i + 1) 1 (by omega) (by omega) ?_ ?_⟩
    · simp -dsimp only [go_sem,aBV hx]<;>simp<;>omega
    · simp -dsimp only [go_sem,aQ,aZ]
  · have hg:decide ((i:Int) < (e.length:Int))=false:=by simp; omega
    obtain rfl:i=e.length:=by omega
    rw [List.take_length]
    simp (maxSteps:=1000000) -dsimp only [go_sem,hg,aQ,aZ]
    exact .sel [] (by simp) (by simp) rfl (.done (by simp -dsimp only [go_sem]; exact hK))
mutual
def fewT:Ty->Bool
 | .mk k s n e=>bif decide (40 < (bl n).length) || decide (3 < e.length) || decide (8 < gJ 20 (.mk k s n e)) then false else FP e
def FP:List Ty->Bool
 | []=>true
 | t :: r=>fewT t && FP r
end
theorem s4:∀ l:List Ty,FP l=l.all fewT
 | []=>rfl
 | t :: r=>by rw [FP,s4 r]; rfl
theorem OS {k s:Int} {n:ByteArray} {e:List Ty} (h:fewT (.mk k s n e)=true):((bl n).length<=40/\e.length<=3/\gJ 20 (.mk k s n e)<=8)/\∀ u ∈ e,fewT u=true:=by
 rw [fewT] at h
 cases c:decide (40 < (bl n).length) || decide (3 < e.length) || decide (8 < gJ 20 (.mk k s n e)) with
 | true=>rw [c] at h; cases h
 | false=>
  rw [c] at h
  simp only [Bool.or_eq_false_iff,decide_eq_false_iff_not] at c
  refine ⟨by omega,fun u hu=>?_⟩
  simp only [aH,s4,List.all_eq_true] at h
  exact h u hu
theorem aJQ {t:Ty} (h:fewT t=true):t.h<=9:=by
 obtain ⟨k,s,n,e⟩:=t
 have h1:=(OS h).1.2.2
 have:=O0 20 (.mk k s n e) (by omega)
 omega
theorem RF:∀ (N:Nat) (t:Ty),t.h<=N->fewT t=true->TySm t
 | 0,t,h,_=>absurd h (by have:=t.h_pos; omega)
 | N + 1,.mk k s n e,h,hf=>by
  obtain ⟨⟨_,h2,_⟩,h3⟩:=OS hf
  refine .mk (by omega) fun u hu=>RF N u ?_ (h3 u hu)
  have:=Ty.hs_mem hu; rw [Ty.h] at h; omega
theorem aD0:∀ (N:Nat) (t:Ty),t.h<=N->(cS t).1<=t.h
 | 0,t,h=>absurd h (by have:=t.h_pos; omega)
 | N + 1,.mk k s n e,h=>by
  cases c:(k == 5 && decide (0 < (e.length:Int))) with
  | false=>rw [GL c]; exact Nat.zero_le _
  | true=>
   simp only [Bool.and_eq_true,beq_iff_eq,decide_eq_true_eq] at c
   obtain ⟨rfl,c⟩:=c
   cases e with
   | nil=>simp at c
   | cons u r=>
    rw [wX]
    have h2:=aD0 N u (by rw [Ty.h,Ty.hs] at h; omega)
    rw [Ty.h,Ty.hs]; simp only; omega
def FQ (N:Nat):List S->Prop:=fun av=>match av with
 | [.va (.gs q)]=>fH q/\(C.ty q).h<=N
 | _=>False
theorem mU {N:Nat} {av:List S} (h:FQ N av):∃ t:Ty,av=[.va (.gs (aQ t))]/\TyOk t/\t.h<=N:=by
 unfold FQ at h
 split at h
 · obtain ⟨⟨t,rfl,ht⟩,h⟩:=h
   rw [eT] at h
   exact ⟨t,rfl,ht,h⟩
 · exact h.elim
noncomputable def aAB:List S->A:=fun av=>match av with
 | [.va (.gs q)]=>bA (fewT (C.ty q))
 | _=>.gs []
noncomputable def NR (N:Nat):Fun:=⟨FQ N,aAB,fun av h=>by obtain ⟨a,rfl,_⟩:=mU h; trivial⟩
theorem SY {N:Nat}:∀ av H K,(NR N).sp av H K->av.length=1:=fun av H K h=>by obtain ⟨a,rfl,_⟩:=mU h.1.1; rfl
attribute [go_sem] NR FQ aAB
theorem E0:∀ N,Meets Tryz.prog 19 (NR N).sp
 | 0=>⟨by kernel_rfl,by rintro xs vs E ro w K _ _ _ ⟨⟨h,_⟩,_⟩; obtain ⟨a,_,_,h⟩:=mU h; have:=a.h_pos; omega⟩
 | N + 1=>by
  refine aE Tryz.func19 aPP 1 (by rw [Tryz.ntmps19]; decide) (aG (SJ 20) (aG (E0 N) (aA _))) SY ?_
  rintro av H K ⟨⟨h,rfl⟩,hK⟩
  obtain ⟨t,rfl,ht,hN⟩:=mU h
  have hK:K (bS (fewT t)) []:=by
   have:(NR (N + 1)).val [.va (.gs (aQ t))]=bA (fewT t):=by simp -dsimp only [go_sem]
   rw [this] at hK; exact hK
  clear h
  have hit:=eE ht
  obtain ⟨k,s,n,e⟩:=t
  have hte:=ht.e
  have hte2:=ht.len
  simp only [Ty.e] at hte hte2
  have fin:∀ (x:Bool) (R:Hp),fewT (.mk k s n e)=x->W.Fin 0 K (bS x) R:=fun x R h1=>by
   rw [h1] at hK
   exact .sel [] (by simp) (by simp) rfl (.done (by simpa [go_sem] using hK))
  have hcd:=eT (.mk k s n e)
  have hF:=fewT.eq_1 k s n e
  rw [aQ,aZ] at hit hcd
  generalize hlv:gJ 20 (.mk k s n e)=lv at hF
  have hl20:=CV 20 (.mk k s n e)
  rw [hlv] at hl20
  have e20:((20:Nat):Int)=20:=rfl
  have hb20:(20<=1000)=True:=by simp
  simp (maxSteps:=1000000) -dsimp only [go_sem,aQ,aZ,aHM,aDA,hit,hcd,hlv,e20,hb20]
  refine ⟨fun h1=>fin false _ ?_,fun h1=>?_⟩
  · rw [hF]
    simp only [Bool.or_eq_true,decide_eq_true_eq] at h1
    rw [show (decide (40 < (bl n).length) || decide (3 < e.length) || decide (8 < lv))=true by simp only [Bool.or_eq_true,decide_eq_true_eq]; omega]; rfl
  have hF2:fewT (.mk k s n e)=e.all fewT:=by
   simp only [Bool.or_eq_false_iff,decide_eq_false_iff_not] at h1
   rw [hF,show (decide (40 < (bl n).length) || decide (3 < e.length) || decide (8 < lv))=false by simp only [Bool.or_eq_false_iff,decide_eq_false_iff_not]; omega,s4]; rfl
  refine aK (α:=Nat) (fun i=>[(1,.va (.c1 (.pt 0 0))),(3,iS .i64 i)]) (fun i=>[.cells (aQ (.mk k s n e)) 28])
   (fun i=>i<=e.length/\∀ u ∈ e.take i,fewT u=true) (fun i=>e.length - i) 0 1 ⟨Nat.zero_le _,fun u hu=>by cases hu⟩ ?_ ?_ ?_
  · simp -dsimp only [go_sem]<;>simp
  · simp -dsimp only [go_sem,aQ,aZ]
  rintro i ⟨hi,ho⟩
  rcases bF i e.length with hlt | hge
  · have hg:decide ((i:Int) < (e.length:Int))=true:=by simp; omega
    obtain ⟨u,hx⟩:∃ t,e[i]? = some t:=⟨_,a7 hlt⟩
    have hum:=bT hx
    have q1:=aV (row:=aQ) hx
    have hu:fH (aQ u):=eE (hte u hum)
    have huh:(u.h<=N)=True:=eq_true (by have:=Ty.hs_mem hum; rw [Ty.h] at hN; omega)
    simp (maxSteps:=1000000) -dsimp only [go_sem,hg,↓q1,aQ,aZ,iQ,hu,huh]
    refine ⟨by omega,fun h1=>fin false _ ?_,fun h1=>?_⟩
    · rw [hF2,List.all_eq_false]; exact ⟨u,hum,by simpa using h1⟩
    · refine ⟨by omega,aC (i + 1) 1 ⟨by omega,fun v hv=>?_⟩ (by omega) ?_ ?_⟩
      · rw [gE hx] at hv
        rcases List.mem_append.1 hv with h | h
        · exact ho v h
        · obtain rfl:v=u:=by simpa using h
          simpa using h1
      · simp -dsimp only [go_sem]<;>simp
      · simp -dsimp only [go_sem,aQ,aZ]
  · have hg:decide ((i:Int) < (e.length:Int))=false:=by simp; omega
    obtain rfl:i=e.length:=by omega
    rw [List.take_length] at ho
    simp (maxSteps:=1000000) -dsimp only [go_sem,hg,aQ,aZ]
    exact fin true _ (by rw [hF2,List.all_eq_true]; exact ho)
noncomputable def f0Fn:Fun:=wN fH C.ty fun t=>.bool (fewT t)
attribute [go_sem] f0Fn
theorem JG:Meets Tryz.prog 19 f0Fn.sp:=eQ 0 E0 fun av H K ⟨⟨h,e⟩,hK⟩=>by
 obtain ⟨_,rfl,t,rfl,ht⟩:=jD h
 exact ⟨t.h,⟨⟨⟨eE ht,by rw [eT]; exact Nat.le_refl _⟩,e⟩,hK⟩⟩
def s7 (e:En):Bool:=!(decide (40 < (bl e.nm).length) || decide (18 < e.ns.length) || decide (18 < e.vs.length)) && e.ns.all fun n=>!(decide (40 < (bl n).length))
def rN (f:Fl):Bool:=!(decide (40 < (bl f.nm).length) || !(fewT f.ty))
def oD (t:St):Bool:=!(decide (40 < (bl t.nm).length) || decide (18 < t.fs.length)) && t.fs.all rN
def lD (s:Sc):Bool:=!(decide (18 < s.es.length) || decide (18 < s.ss.length)) && (s.es.all s7 && s.ss.all oD)
theorem CE {s:Sc} (h:s.ok) (hf:lD s=true):s.fit:=by
 unfold lD at hf
 simp only [Bool.and_eq_true,List.all_eq_true,Bool.not_eq_true',Bool.or_eq_false_iff,decide_eq_false_iff_not] at hf
 obtain ⟨_,he,hs⟩:=hf
 have hfl:∀ t ∈ s.ss,t.fs.length<=18/\∀ f ∈ t.fs,fewT f.ty=true:=fun t ht=>by
  have:=hs t ht
  unfold oD at this
  simp only [Bool.and_eq_true,List.all_eq_true,Bool.not_eq_true',Bool.or_eq_false_iff,decide_eq_false_iff_not] at this
  refine ⟨by omega,fun f hf=>?_⟩
  have:=this.2 f hf
  unfold rN at this
  simp only [Bool.not_eq_true',Bool.or_eq_false_iff,Bool.not_eq_false'] at this
  exact this.2
 refine ⟨h,fun t ht f hf=>?_,fun t ht=>⟨by have:=(hfl t ht).1; omega,fun f hf=>RF _ _ (Nat.le_refl _) ((hfl t ht).2 f hf)⟩,fun e hm=>?_⟩
 · have h1:=aJQ ((hfl t ht).2 f hf)
   have h2:=aD0 _ f.ty (Nat.le_refl _)
   omega
 · have:=he e hm
   unfold s7 at this
   simp only [Bool.and_eq_true,List.all_eq_true,Bool.not_eq_true',Bool.or_eq_false_iff,decide_eq_false_iff_not] at this
   omega
theorem nX {α:Type} {l:List α} {i:Nat} {x:α} (hx:l[i]? = some x) (p:α->Bool):(l.drop i).all p=(p x && (l.drop (i + 1)).all p):=by
 obtain ⟨h,rfl⟩:=bC.1 hx
 rw [List.drop_eq_getElem_cons h,List.all_cons]
theorem pK {α:Type} {l:List α} (p:α->Bool):(l.drop l.length).all p=true:=by rw [List.drop_length]; rfl
theorem aS5:Meets Tryz.prog 18 (wN qN C.sc fun s=>.bool (lD s)).sp:=by
 refine aE Tryz.func18 aQO 1 (by rw [Tryz.ntmps18]; decide) (aG JG (aA _)) uW ?_
 rintro av H K ⟨⟨h,rfl⟩,hK⟩
 obtain ⟨_,rfl,s,rfl,hs⟩:=jD h
 have hK:K (bS (lD s)) []:=by
  have:(wN qN C.sc fun s=>.bool (lD s)).val [.va (.gs (aF s))]=bA (lD s):=by simp -dsimp only [go_sem]
  rw [this] at hK; exact hK
 clear h
 obtain ⟨hv,hle,hls,hes,hss⟩:=hs
 have fin:∀ (x:Bool) (R:Hp),lD s=x->W.Fin 0 K (bS x) R:=fun x R h1=>by
  rw [h1] at hK
  exact .sel [] (by simp) (by simp) rfl (.done (by simpa [go_sem] using hK))
 simp (maxSteps:=1000000) -dsimp only [go_sem,aF,aGY,aD9]
 refine ⟨fun h1=>fin false _ ?_,fun h1=>?_⟩
 · unfold lD
   rw [show (decide (18 < s.es.length) || decide (18 < s.ss.length))=true by simp only [Bool.or_eq_true,decide_eq_true_eq] at h1 ⊢; omega]; rfl
 have hF:lD s=(s.es.all s7 && s.ss.all oD):=by
  unfold lD
  rw [show (decide (18 < s.es.length) || decide (18 < s.ss.length))=false by simp only [Bool.or_eq_false_iff,decide_eq_false_iff_not] at h1 ⊢; omega]; rfl
 refine aK (α:=Nat) (fun i=>[(1,.va (.c1 (.pt 0 0))),(3,iS .i64 i)]) (fun _=>[.cells (aF s) 25])
  (fun i=>i<=s.es.length/\(s.es.drop i).all s7=s.es.all s7) (fun i=>s.es.length - i) 0 1 ⟨Nat.zero_le _,rfl⟩ ?_ ?_ ?_
 · simp -dsimp only [go_sem]<;>simp
 · simp -dsimp only [go_sem,aF]<;>simp
 rintro i ⟨hi,ho⟩
 rcases bF i s.es.length with hlt | hge
 · have hg:decide ((i:Int) < (s.es.length:Int))=true:=by simp; omega
   obtain ⟨e,hx⟩:∃ e,s.es[i]? = some e:=⟨_,a7 hlt⟩
   have hem:=bT hx
   have q1:=aV (row:=bG) hx
   obtain ⟨_,hln,hlv,_,_⟩:=hes e hem
   rw [nX hx] at ho
   have bad:s7 e=false->∀ R,W.Fin 0 K (bS false) R:=fun h R=>fin false R (by rw [hF,<-ho,h]; rfl)
   have cst:∀ (a b:Nat),decide ((a:Int) < (b:Int))=decide (a < b):=fun a b=>by simp
   have hE:s7 e=(!(decide (40 < ((bl e.nm).length:Int)) || decide (18 < (e.ns.length:Int)) || decide (18 < (e.vs.length:Int))) && e.ns.all fun n=>!(decide (40 < ((bl n).length:Int)))):=by
    unfold s7
    have c40:∀ b:Nat,decide (40 < (b:Int))=decide (40 < b):=fun b=>by simp; omega
    have c18:∀ b:Nat,decide (18 < (b:Int))=decide (18 < b):=fun b=>by simp; omega
    simp only [c40,c18]
   cases d1:decide (40 < ((bl e.nm).length:Int)) with
   | true=>
    rw [d1] at hE
    simp (maxSteps:=1000000) -dsimp only [go_sem,hg,↓q1,bG,aF,d1]
    exact ⟨by omega,bad hE _⟩
   | false=>
   cases d2:decide (18 < (e.ns.length:Int)) with
   | true=>
    rw [d1,d2] at hE
    simp (maxSteps:=1000000) -dsimp only [go_sem,hg,↓q1,bG,aF,d1,d2]
    exact ⟨by omega,by omega,bad hE _⟩
   | false=>
   cases d3:decide (18 < (e.vs.length:Int)) with
   | true=>
    rw [d1,d2,d3] at hE
    simp (maxSteps:=1000000) -dsimp only [go_sem,hg,↓q1,bG,aF,d1,d2,d3]
    exact ⟨by omega,by omega,by omega,bad hE _⟩
   | false=>
    rw [d1,d2,d3] at hE
    simp only [Bool.or_self,Bool.not_false,Bool.true_and] at hE
    simp (maxSteps:=1000000) -dsimp only [go_sem,hg,↓q1,bG,aF,d1,d2,d3]
    refine ⟨by omega,by omega,by omega,?_⟩
    refine aK (α:=Nat) (fun k=>[(1,.va (.c1 (.pt 0 0))),(3,iS .i64 i),(4,iS .i64 k)]) (fun _=>[.cells (aF s) 25])
     (fun k=>k<=e.ns.length/\((e.ns.drop k).all fun n=>!(decide (40 < ((bl n).length:Int))))=e.ns.all fun n=>!(decide (40 < ((bl n).length:Int)))) (fun k=>e.ns.length - k) 0 1 ⟨Nat.zero_le _,rfl⟩ ?_ ?_ ?_
    · simp -dsimp only [go_sem]<;>simp
    · simp -dsimp only [go_sem,aF]<;>simp
    rintro k ⟨hk,ho2⟩
    rcases bF k e.ns.length with hkt | hkg
    · have hgk:decide ((k:Int) < (e.ns.length:Int))=true:=by simp; omega
      obtain ⟨n,hn⟩:∃ n,e.ns[k]? = some n:=⟨_,a7 hkt⟩
      have q2:=aV (row:=bM) hn
      rw [nX hn] at ho2
      simp (maxSteps:=1000000) -dsimp only [go_sem,↓q1,bG,aF,hgk]
      simp (maxSteps:=1000000) -dsimp only [go_sem,hn,aI,forall_eq']
      refine ⟨by omega,by omega,by omega,fun h2=>bad (by rw [hE,<-ho2,h2]; rfl) _,fun h2=>?_⟩
      rw [h2] at ho2
      refine ⟨by omega,aC (k + 1) 1 ⟨by omega,by simpa using ho2⟩ (by omega) ?_ ?_⟩
      · simp -dsimp only [go_sem]<;>simp
      · simp -dsimp only [go_sem,aF]<;>simp
    · have hgk:decide ((k:Int) < (e.ns.length:Int))=false:=by simp; omega
      obtain rfl:k=e.ns.length:=by omega
      rw [pK] at ho2
      rw [hE,<-ho2,Bool.true_and] at ho
      simp (maxSteps:=1000000) -dsimp only [go_sem,↓q1,bG,aF,hgk]
      refine ⟨by omega,by omega,aC (i + 1) 1 ⟨by omega,ho⟩ (by omega) ?_ ?_⟩
      · simp -dsimp only [go_sem]<;>simp
      · simp -dsimp only [go_sem,aF]<;>simp
 · have hg:decide ((i:Int) < (s.es.length:Int))=false:=by simp; omega
   obtain rfl:i=s.es.length:=by omega
   rw [pK] at ho
   rw [<-ho,Bool.true_and] at hF
   simp (maxSteps:=1000000) -dsimp only [go_sem,hg,aF]
   clear ho hi hge hg
   refine aK (α:=Nat) (fun i=>[(1,.va (.c1 (.pt 0 0))),(5,iS .i64 i)]) (fun _=>[.cells (aF s) 25])
    (fun i=>i<=s.ss.length/\(s.ss.drop i).all oD=s.ss.all oD) (fun i=>s.ss.length - i) 0 1 ⟨Nat.zero_le _,rfl⟩ ?_ ?_ ?_
   · simp -dsimp only [go_sem]<;>simp
   · simp -dsimp only [go_sem,aF]<;>simp
   rintro i ⟨hi,ho⟩
   rcases bF i s.ss.length with hlt | hge
   · have hg:decide ((i:Int) < (s.ss.length:Int))=true:=by simp; omega
     obtain ⟨e,hx⟩:∃ e,s.ss[i]? = some e:=⟨_,a7 hlt⟩
     have hem:=bT hx
     have q1:=aV (row:=aR) hx
     obtain ⟨_,hln,hfs⟩:=hss e hem
     rw [nX hx] at ho
     have bad:oD e=false->∀ R,W.Fin 0 K (bS false) R:=fun h R=>fin false R (by rw [hF,<-ho,h]; rfl)
     have hE:oD e=(!(decide (40 < ((bl e.nm).length:Int)) || decide (18 < (e.fs.length:Int))) && e.fs.all rN):=by
      unfold oD
      have c40:∀ b:Nat,decide (40 < (b:Int))=decide (40 < b):=fun b=>by simp; omega
      have c18:∀ b:Nat,decide (18 < (b:Int))=decide (18 < b):=fun b=>by simp; omega
      simp only [c40,c18]
     cases d1:decide (40 < ((bl e.nm).length:Int)) with
     | true=>
      rw [d1] at hE
      simp (maxSteps:=1000000) -dsimp only [go_sem,hg,↓q1,aR,aF,d1]
      exact ⟨by omega,bad hE _⟩
     | false=>
     cases d2:decide (18 < (e.fs.length:Int)) with
     | true=>
      rw [d1,d2] at hE
      simp (maxSteps:=1000000) -dsimp only [go_sem,hg,↓q1,aR,aF,d1,d2]
      exact ⟨by omega,by omega,bad hE _⟩
     | false=>
      rw [d1,d2] at hE
      simp only [Bool.or_self,Bool.not_false,Bool.true_and] at hE
      simp (maxSteps:=1000000) -dsimp only [go_sem,hg,↓q1,aR,aF,d1,d2]
      refine ⟨by omega,by omega,?_⟩
      refine aK (α:=Nat) (fun k=>[(1,.va (.c1 (.pt 0 0))),(5,iS .i64 i),(6,iS .i64 k)]) (fun _=>[.cells (aF s) 25])
       (fun k=>k<=e.fs.length/\(e.fs.drop k).all rN=e.fs.all rN) (fun k=>e.fs.length - k) 0 1 ⟨Nat.zero_le _,rfl⟩ ?_ ?_ ?_
      · simp -dsimp only [go_sem]<;>simp
      · simp -dsimp only [go_sem,aF]<;>simp
      rintro k ⟨hk,ho2⟩
      rcases bF k e.fs.length with hkt | hkg
      · have hgk:decide ((k:Int) < (e.fs.length:Int))=true:=by simp; omega
        obtain ⟨f,hn⟩:∃ n,e.fs[k]? = some n:=⟨_,a7 hkt⟩
        have q2:=aV (row:=aY) hn
        have hity:fH (aQ f.ty):=eE (hfs f (bT hn)).ty
        rw [nX hn] at ho2
        have hFl:rN f=!(decide (40 < ((bl f.nm).length:Int)) || !(fewT f.ty)):=by
         unfold rN
         have c40:∀ b:Nat,decide (40 < (b:Int))=decide (40 < b):=fun b=>by simp; omega
         simp only [c40]
        cases d3:decide (40 < ((bl f.nm).length:Int)) with
        | true=>
         rw [d3] at hFl
         simp (maxSteps:=1000000) -dsimp only [go_sem,↓q1,aR,aF,hgk]
         simp (maxSteps:=1000000) -dsimp only [go_sem,aY,hn,aI,forall_eq',d3]
         refine ⟨by omega,by omega,by omega,bad (by rw [hE,<-ho2,hFl]; rfl) _⟩
        | false=>
         rw [d3] at hFl
         simp only [Bool.false_or,Bool.not_not] at hFl
         rw [hFl] at ho2
         simp (maxSteps:=1000000) -dsimp only [go_sem,↓q1,aR,aF,hgk]
         simp (maxSteps:=1000000) -dsimp only [go_sem,aY,vH,hity,hn,aI,forall_eq',d3]
         refine ⟨by omega,by omega,by omega,by omega,by omega,fun h2=>bad (by rw [hE,<-ho2,h2]; rfl) _,fun h2=>?_⟩
         rw [show fewT f.ty=true by simpa using h2,Bool.true_and] at ho2
         refine ⟨by omega,aC (k + 1) 1 ⟨by omega,ho2⟩ (by omega) ?_ ?_⟩
         · simp -dsimp only [go_sem]<;>simp
         · simp -dsimp only [go_sem,aF]<;>simp
      · have hgk:decide ((k:Int) < (e.fs.length:Int))=false:=by simp; omega
        obtain rfl:k=e.fs.length:=by omega
        rw [pK] at ho2
        rw [hE,<-ho2,Bool.true_and] at ho
        simp (maxSteps:=1000000) -dsimp only [go_sem,↓q1,aR,aF,hgk]
        refine ⟨by omega,by omega,aC (i + 1) 1 ⟨by omega,ho⟩ (by omega) ?_ ?_⟩
        · simp -dsimp only [go_sem]<;>simp
        · simp -dsimp only [go_sem,aF]<;>simp
   · have hg:decide ((i:Int) < (s.ss.length:Int))=false:=by simp; omega
     obtain rfl:i=s.ss.length:=by omega
     rw [pK] at ho
     simp (maxSteps:=1000000) -dsimp only [go_sem,hg,aF]
     exact fin true _ (by rw [hF,<-ho])
def VI:PC:=.seq (.reg [.e 3 (.bx 25 (.t 0)),.e 4 (.bx 28 (.t 1)),.e 5 (.bx 32 (.t 2)),.q 6 (.mv (.i 0))]) (.seq (.seq (.reg [.l 7 (.ldn 5 (.t 5)),.a 8 (.cq 52 [(.t 7),(.i 6)]),.q 9 (.bin .gtr true (.t 8) (.i 6))]) (.cond (.t 9) (.seq (.reg [.q 6 (.mv (.i 9))]) .ret) .skip)) (.seq (.reg [.l 10 (.ldn 3 (.t 3)),.q 11 (.bd [(.int .i64 0),(.slice none 0 0),(.slice none 0 0)] [(0,3,(.t 10))]),.l 12 (.ldn 4 (.t 4)),.l 13 (.ldn 5 (.t 5)),.a 14 (.cq 53 [(.t 11),(.t 12),(.t 13)]),.v 6 14]) .ret))
def TV:List RV:=[.mv (.t 6)]
theorem aRF:aP Tryz.prog true ⟨fun r k=>if r=1/\k=1 then .q else if r=3/\k=4 then .q else .own [],fun _=>false⟩ Tryz.f23=some (VI,TV):=by kernel_rfl
def TA:PC:=.seq (.reg [.e 2 (.bx 32 (.t 0)),.q 4 (.mv (.i 0))]) (.seq (.seq (.reg [.q 10 (.fa 0 (.t 2)),.l 11 (.ld1 (.t 10)),.q 12 (.bin .neq true (.t 11) (.i 5)),.v 13 12,⟨some 14,(some (13,true)),.q (.fa 0 (.t 2))⟩,⟨some 15,(some (13,true)),.l (.ld1 (.t 14))⟩,⟨some 16,(some (13,true)),.q (.bin .neq true (.t 15) (.i 6))⟩,.a 17 (.pick (.t 13) (.t 16) (.k (.bool false))),.v 18 17,⟨some 19,(some (18,true)),.q (.fa 3 (.t 2))⟩,⟨some 20,(some (18,true)),.l (.ld1 (.t 19))⟩,⟨some 21,(some (18,true)),.q (.lnL (.t 20))⟩,⟨some 22,(some (18,true)),.q (.bin .eql true (.t 21) (.i 0))⟩,.a 23 (.pick (.t 18) (.t 22) (.k (.bool false))),.v 24 23,⟨some 25,(some (24,true)),.q (.fa 4 (.t 2))⟩,⟨some 26,(some (24,true)),.l (.ld1 (.t 25))⟩,⟨some 27,(some (24,true)),.q (.lnL (.t 26))⟩,⟨some 28,(some (24,true)),.q (.bin .eql true (.t 27) (.i 0))⟩,.a 29 (.pick (.t 24) (.t 28) (.k (.bool false)))]) (.cond (.t 29) (.seq (.reg [.q 4 (.mv (.i 0))]) .ret) .skip)) (.seq (.reg [.q 5 (.mv (.i 0))]) (.seq (.seq (.reg [.q 30 (.fa 3 (.t 2)),.l 31 (.ld1 (.t 30)),.q 32 (.lnL (.t 31)),.q 33 (.mv (.i 0))]) (.block 0 (.loop (.seq (.reg [.q 34 (.bin .lss true (.t 33) (.t 32))]) (.seq (.cond (.t 34) .skip (.exit 0)) (.seq (.block 1 (.seq (.reg [.l 35 (.ia 5 (.t 31) (.t 33)),.l 36 (.ldn 5 (.t 35)),.e 7 (.al (.agg #[(.int .i64 0),(.int .i64 0),(.string (mk [])),(.slice none 0 0),(.slice none 0 0)]) 32),.s (.st 5 (.t 7) (.t 36))]) (.seq (.reg [.v 37 5,.v 38 1,.q 39 (.bin .leq true (.t 37) (.t 38))]) (.cond (.t 39) (.reg [.v 40 5,.l 41 (.ldn 5 (.t 7)),.v 42 1,.q 43 (.bin .sub true (.t 42) (.i 1)),.a 44 (.cq 52 [(.t 41),(.t 43)]),.q 45 (.mx true (.t 40) (.t 44)),.v 5 45]) .skip)))) (.reg [.q 46 (.bin .add true (.t 33) (.i 1)),.v 33 46]))))))) (.seq (.seq (.reg [.q 47 (.fa 4 (.t 2)),.l 48 (.ld1 (.t 47)),.q 49 (.lnL (.t 48)),.q 50 (.mv (.i 0))]) (.block 2 (.loop (.seq (.reg [.q 51 (.bin .lss true (.t 50) (.t 49))]) (.seq (.cond (.t 51) .skip (.exit 2)) (.seq (.block 3 (.seq (.reg [.l 52 (.ia 6 (.t 48) (.t 50)),.l 53 (.ldn 6 (.t 52)),.e 9 (.al (.agg #[(.int .i64 0),(.int .i64 0),(.int .i64 0),(.string (mk [])),(.slice none 0 0),(.slice none 0 0)]) 57),.s (.st 6 (.t 9) (.t 53))]) (.seq (.reg [.v 54 5,.v 55 1,.q 56 (.bin .leq true (.t 54) (.t 55))]) (.cond (.t 56) (.reg [.v 57 5,.q 58 (.fa 1 (.t 9)),.l 59 (.ldn 5 (.t 58)),.v 60 1,.q 61 (.bin .sub true (.t 60) (.i 1)),.a 62 (.cq 52 [(.t 59),(.t 61)]),.q 63 (.mx true (.t 57) (.t 62)),.v 5 63]) .skip)))) (.reg [.q 64 (.bin .add true (.t 50) (.i 1)),.v 50 64]))))))) (.seq (.reg [.v 65 5,.q 66 (.bin .add true (.i 1) (.t 65)),.v 4 66]) .ret)))))
def VQ:List RV:=[.mv (.t 4)]
theorem aPK:aP Tryz.prog true ⟨fun r k=>if r=8/\k=4 then .q else if r=14/\k=5 then .q else .own [],fun _=>false⟩ Tryz.f52=some (TA,VQ):=by kernel_rfl
def yK:PC:=.seq (.reg [.e 3 (.bx 105 (.t 0)),.e 4 (.bx 28 (.t 1)),.e 5 (.bx 32 (.t 2)),.q 6 (.mv (.i 0))]) (.seq (.seq (.reg [.l 8 (.ldn 3 (.t 3)),.l 9 (.ldn 4 (.t 4)),.a 10 (.cq 90 [(.t 8),(.t 9)]),.q 11 (.not (.t 10)),.v 12 11,⟨some 13,(some (12,false)),.q (.fa 0 (.t 5))⟩,⟨some 14,(some (12,false)),.l (.ld1 (.t 13))⟩,⟨some 15,(some (12,false)),.q (.fa 0 (.t 4))⟩,⟨some 16,(some (12,false)),.l (.ld1 (.t 15))⟩,⟨some 17,(some (12,false)),.q (.bin .neq true (.t 14) (.t 16))⟩,.a 18 (.pick (.t 12) (.k (.bool true)) (.t 17))]) (.cond (.t 18) (.seq (.reg [.q 6 (.mv (.i 13))]) .ret) .skip)) (.seq (.reg [.l 19 (.ldn 3 (.t 3)),.q 20 (.mh 91 [(.t 19)]),.v 7 20]) (.seq (.seq (.reg [.q 21 (.fa 0 (.t 4)),.l 22 (.ld1 (.t 21))]) (.block 0 (.seq (.reg [.q 24 (.bin .eql true (.t 22) (.i 4)),.v 23 24]) (.cond (.t 23) (.reg [.l 25 (.ldn 3 (.t 3)),.q 26 (.mh 92 [(.t 25)]),.v 7 26]) (.seq (.reg [.q 28 (.bin .eql true (.t 22) (.i 5)),.v 27 28]) (.cond (.t 27) (.reg [.l 29 (.ldn 3 (.t 3)),.q 30 (.mh 93 [(.t 29)]),.v 7 30]) (.seq (.reg [.q 32 (.bin .eql true (.t 22) (.i 6)),.v 31 32]) (.cond (.t 31) (.reg [.l 33 (.ldn 3 (.t 3)),.q 34 (.mh 94 [(.t 33)]),.v 7 34]) .skip)))))))) (.seq (.reg [.v 35 7,.l 36 (.ldn 4 (.t 4)),.l 37 (.ldn 5 (.t 5)),.a 38 (.ca (.t 35) [(.t 36),(.t 37)] []),.v 6 38]) .ret))))
def yJ:List RV:=[.mv (.t 6)]
theorem aTF:aP Tryz.prog true ⟨fun r k=>if r=1/\k=2 then .q else .own [],fun _=>false⟩ Tryz.f53=some (yK,yJ):=by kernel_rfl
def aG4:PC:=.seq (.reg [.e 2 (.bx 25 (.t 0)),.e 3 (.bx 28 (.t 1)),.e 4 (.al (.agg #[(.int .i64 0),(.int .i64 0),(.string (mk [])),(.slice none 0 0),(.slice none 0 0)]) 32)]) (.seq (.reg [.l 5 (.ldn 3 (.t 2)),.q 6 (.bd [(.int .i64 0),(.slice none 0 0),(.slice none 0 0)] [(0,3,(.t 5))]),.l 7 (.ldn 4 (.t 3)),.a 8 (.cl 114 [(.t 6),(.t 7),(.i 22)] []),.s (.st 5 (.t 4) (.t 8))]) .ret)
def aG9:List RV:=[.ld (.ldn 5 (.t 4))]
theorem aO7:aP Tryz.prog true ⟨fun _ _=>.own [],fun _=>false⟩ Tryz.f71=some (aG4,aG9):=by kernel_rfl
def nN:PC:=.seq (.gh (.reg [.v 31 5,.v 32 31,⟨some 33,(some (32,true)),.q (.fa 1 (.t 3))⟩,⟨some 34,(some (32,true)),.l (.ld1 (.t 33))⟩,⟨some 35,(some (32,true)),.q (.bin .eql true (.t 34) (.i 8))⟩,⟨some 36,(some (32,true)),.q (.mv (.t 35))⟩,⟨some 37,(some (36,false)),.q (.fa 1 (.t 3))⟩,⟨some 38,(some (36,false)),.l (.ld1 (.t 37))⟩,⟨some 39,(some (36,false)),.q (.bin .eql true (.t 38) (.i 16))⟩,⟨some 40,(some (32,true)),.pick (.t 36) (.k (.bool true)) (.t 39)⟩,⟨some 41,(some (32,true)),.q (.mv (.t 40))⟩,⟨some 42,(some (41,false)),.q (.fa 1 (.t 3))⟩,⟨some 43,(some (41,false)),.l (.ld1 (.t 42))⟩,⟨some 44,(some (41,false)),.q (.bin .eql true (.t 43) (.i 32))⟩,⟨some 45,(some (32,true)),.pick (.t 41) (.k (.bool true)) (.t 44)⟩,⟨some 46,(some (32,true)),.q (.mv (.t 45))⟩,⟨some 47,(some (46,false)),.q (.fa 1 (.t 3))⟩,⟨some 48,(some (46,false)),.l (.ld1 (.t 47))⟩,⟨some 49,(some (46,false)),.q (.bin .eql true (.t 48) (.i 64))⟩,⟨some 50,(some (32,true)),.pick (.t 46) (.k (.bool true)) (.t 49)⟩,.a 51 (.pick (.t 32) (.t 50) (.k (.bool false))),.v 4 51])) .ret
@[go_sem ↓] theorem aPD:aT nN:=aU _
def pQ:PC:=.seq (.gh (.reg [.v 54 5,.v 55 54,⟨some 56,(some (55,true)),.q (.fa 1 (.t 3))⟩,⟨some 57,(some (55,true)),.l (.ld1 (.t 56))⟩,⟨some 58,(some (55,true)),.q (.bin .eql true (.t 57) (.i 8))⟩,⟨some 59,(some (55,true)),.q (.mv (.t 58))⟩,⟨some 60,(some (59,false)),.q (.fa 1 (.t 3))⟩,⟨some 61,(some (59,false)),.l (.ld1 (.t 60))⟩,⟨some 62,(some (59,false)),.q (.bin .eql true (.t 61) (.i 16))⟩,⟨some 63,(some (55,true)),.pick (.t 59) (.k (.bool true)) (.t 62)⟩,⟨some 64,(some (55,true)),.q (.mv (.t 63))⟩,⟨some 65,(some (64,false)),.q (.fa 1 (.t 3))⟩,⟨some 66,(some (64,false)),.l (.ld1 (.t 65))⟩,⟨some 67,(some (64,false)),.q (.bin .eql true (.t 66) (.i 32))⟩,⟨some 68,(some (55,true)),.pick (.t 64) (.k (.bool true)) (.t 67)⟩,.a 69 (.pick (.t 55) (.t 68) (.k (.bool false))),.v 4 69])) .ret
@[go_sem ↓] theorem aPF:aT pQ:=aU _
def lL:PC:=.seq (.gh (.reg [.q 85 (.fa 2 (.t 3)),.l 86 (.ld1 (.t 85)),.q 87 (.bin .eql true (.t 86) (.k (.string (mk [])))),.v 88 87,⟨some 89,(some (88,true)),.q (.fa 1 (.t 3))⟩,⟨some 90,(some (88,true)),.l (.ld1 (.t 89))⟩,⟨some 91,(some (88,true)),.q (.bin .geq true (.t 90) (.i 1))⟩,.a 92 (.pick (.t 88) (.t 91) (.k (.bool false))),.v 93 92,⟨some 94,(some (93,true)),.q (.fa 1 (.t 3))⟩,⟨some 95,(some (93,true)),.l (.ld1 (.t 94))⟩,⟨some 96,(some (93,true)),.q (.bin .leq true (.t 95) (.i 32))⟩,.a 97 (.pick (.t 93) (.t 96) (.k (.bool false))),.v 98 97,⟨some 99,(some (98,true)),.q (.fa 3 (.t 3))⟩,⟨some 100,(some (98,true)),.l (.ld1 (.t 99))⟩,⟨some 101,(some (98,true)),.q (.lnL (.t 100))⟩,⟨some 102,(some (98,true)),.q (.bin .eql true (.t 101) (.i 1))⟩,.a 103 (.pick (.t 98) (.t 102) (.k (.bool false))),.v 104 103,⟨some 105,(some (104,true)),.l (.ldn 3 (.t 2))⟩,⟨some 106,(some (104,true)),.q (.fa 3 (.t 3))⟩,⟨some 107,(some (104,true)),.l (.ld1 (.t 106))⟩,⟨some 108,(some (104,true)),.l (.ia 4 (.t 107) (.i 0))⟩,⟨some 109,(some (104,true)),.l (.ldn 4 (.t 108))⟩,⟨some 110,(some (104,true)),.cq 90 [(.t 105),(.t 109)]⟩,.a 111 (.pick (.t 104) (.t 110) (.k (.bool false))),.v 4 111])) .ret
@[go_sem ↓] theorem aND:aT lL:=aU _
def B9:PC:=.seq (.gh (.reg [.v 122 7,.v 123 122,⟨some 124,(some (123,true)),.q (.fa 1 (.t 3))⟩,⟨some 125,(some (123,true)),.l (.ld1 (.t 124))⟩,⟨some 126,(some (123,true)),.q (.bin .eql true (.t 125) (.i 0))⟩,.a 127 (.pick (.t 123) (.t 126) (.k (.bool false))),.v 128 127,⟨some 129,(some (128,true)),.q (.fa 3 (.t 3))⟩,⟨some 130,(some (128,true)),.l (.ld1 (.t 129))⟩,⟨some 131,(some (128,true)),.q (.lnL (.t 130))⟩,⟨some 132,(some (128,true)),.q (.bin .eql true (.t 131) (.i 0))⟩,.a 133 (.pick (.t 128) (.t 132) (.k (.bool false))),.v 4 133])) .ret
@[go_sem ↓] theorem aOI:aT B9:=aU _
def B6:PC:=.seq (.gh (.reg [.q 115 (.fa 0 (.t 2)),.l 116 (.ldn 3 (.t 115)),.q 117 (.fa 2 (.t 3)),.l 118 (.ld1 (.t 117)),.a 119 (.cl 103 [(.t 116),(.t 118)] []),.v 114 119,.q 120 (.ex (.t 114) 0),.q 121 (.ex (.t 114) 1),.e 6 (.al (.agg #[(.string (mk [])),(.slice none 0 0)]) 95),.s (.st 2 (.t 6) (.t 120)),.v 7 121])) (B9)
@[go_sem ↓] theorem aNI:aT B6:=aU _
def DO:PC:=.seq (.gh (.reg [.v 144 9,.v 145 144,⟨some 146,(some (145,true)),.q (.fa 1 (.t 3))⟩,⟨some 147,(some (145,true)),.l (.ld1 (.t 146))⟩,⟨some 148,(some (145,true)),.q (.bin .eql true (.t 147) (.i 0))⟩,.a 149 (.pick (.t 145) (.t 148) (.k (.bool false))),.v 150 149,⟨some 151,(some (150,true)),.q (.fa 3 (.t 3))⟩,⟨some 152,(some (150,true)),.l (.ld1 (.t 151))⟩,⟨some 153,(some (150,true)),.q (.lnL (.t 152))⟩,⟨some 154,(some (150,true)),.q (.bin .eql true (.t 153) (.i 0))⟩,.a 155 (.pick (.t 150) (.t 154) (.k (.bool false))),.v 4 155])) .ret
@[go_sem ↓] theorem aM8:aT DO:=aU _
def BV:PC:=.seq (.gh (.reg [.q 137 (.fa 0 (.t 2)),.l 138 (.ldn 3 (.t 137)),.q 139 (.fa 2 (.t 3)),.l 140 (.ld1 (.t 139)),.a 141 (.cl 98 [(.t 138),(.t 140)] []),.v 136 141,.q 142 (.ex (.t 136) 0),.q 143 (.ex (.t 136) 1),.e 8 (.al (.agg #[(.string (mk [])),(.slice none 0 0),(.slice none 0 0)]) 92),.s (.st 3 (.t 8) (.t 142)),.v 9 143])) (DO)
@[go_sem ↓] theorem aOK:aT BV:=aU _
def DB:PC:=.seq (.gh (.reg [.q 135 (.bin .eql true (.t 20) (.i 7)),.v 134 135])) (.cond (.t 134) (BV) .skip)
@[go_sem ↓] theorem aNG:aT DB:=aU _
def BY:PC:=.seq (.gh (.reg [.q 113 (.bin .eql true (.t 20) (.i 6)),.v 112 113])) (.cond (.t 112) (B6) (DB))
@[go_sem ↓] theorem aM0:aT BY:=aU _
def DE:PC:=.seq (.gh (.reg [.q 84 (.bin .eql true (.t 20) (.i 5)),.v 83 84])) (.cond (.t 83) (lL) (BY))
@[go_sem ↓] theorem aOB:aT DE:=aU _
def HX:PC:=.seq (.gh (.reg [.q 71 (.bin .eql true (.t 20) (.i 4)),.v 70 71])) (.cond (.t 70) (.seq (.reg [.v 72 5,.v 73 72,⟨some 74,(some (73,true)),.q (.fa 1 (.t 3))⟩,⟨some 75,(some (73,true)),.l (.ld1 (.t 74))⟩,⟨some 76,(some (73,true)),.q (.bin .geq true (.t 75) (.i 1))⟩,.a 77 (.pick (.t 73) (.t 76) (.k (.bool false))),.v 78 77,⟨some 79,(some (78,true)),.q (.fa 1 (.t 3))⟩,⟨some 80,(some (78,true)),.l (.ld1 (.t 79))⟩,⟨some 81,(some (78,true)),.q (.bin .leq true (.t 80) (.i 2000))⟩,.a 82 (.pick (.t 78) (.t 81) (.k (.bool false))),.v 4 82]) .ret) (DE))
@[go_sem ↓] theorem aPU:aT HX:=aU _
def H7:PC:=.seq (.gh (.reg [.q 53 (.bin .eql true (.t 20) (.i 3)),.v 52 53])) (.cond (.t 52) (pQ) (HX))
@[go_sem ↓] theorem aO1:aT H7:=aU _
def J2:PC:=.seq (.gh (.reg [.q 30 (.bin .eql true (.t 20) (.i 2)),.v 29 30])) (.cond (.t 29) (nN) (H7))
@[go_sem ↓] theorem aPY:aT J2:=aU _
def aGW:PC:=.seq (.reg [.e 2 (.bx 105 (.t 0)),.e 3 (.bx 28 (.t 1)),.q 4 (.mv (.k (.bool false)))]) (.seq (.reg [.q 10 (.fa 2 (.t 3)),.l 11 (.ld1 (.t 10)),.q 12 (.bin .eql true (.t 11) (.k (.string (mk [])))),.v 13 12,⟨some 14,(some (13,true)),.q (.fa 3 (.t 3))⟩,⟨some 15,(some (13,true)),.l (.ld1 (.t 14))⟩,⟨some 16,(some (13,true)),.q (.lnL (.t 15))⟩,⟨some 17,(some (13,true)),.q (.bin .eql true (.t 16) (.i 0))⟩,.a 18 (.pick (.t 13) (.t 17) (.k (.bool false))),.v 5 18]) (.seq (.seq (.reg [.q 19 (.fa 0 (.t 3)),.l 20 (.ld1 (.t 19))]) (.block 0 (.seq (.reg [.q 22 (.bin .eql true (.t 20) (.i 1)),.v 21 22]) (.cond (.t 21) (.seq (.reg [.v 23 5,.v 24 23,⟨some 25,(some (24,true)),.q (.fa 1 (.t 3))⟩,⟨some 26,(some (24,true)),.l (.ld1 (.t 25))⟩,⟨some 27,(some (24,true)),.q (.bin .eql true (.t 26) (.i 0))⟩,.a 28 (.pick (.t 24) (.t 27) (.k (.bool false))),.v 4 28]) .ret) (J2))))) (.seq (.reg [.q 4 (.mv (.k (.bool false)))]) .ret)))
def aG3:List RV:=[.mv (.t 4)]
theorem aSG:aP Tryz.prog true ⟨fun r k=>if r=12/\k=25 then .q else .own [],fun r=>[5,6,7,8,9,11,12,13,14,15,16,17,18].contains r⟩ Tryz.f90=some (aGW,aG3):=by kernel_rfl
def JJ:PC:=.gh (.reg [.q 29 (.fa 1 (.t 5)),.l 30 (.ld1 (.t 29)),.q 31 (.bin .eql true (.t 30) (.i 0)),.v 32 31,⟨some 33,(some (32,false)),.q (.fa 1 (.t 5))⟩,⟨some 34,(some (32,false)),.l (.ld1 (.t 33))⟩,⟨some 35,(some (32,false)),.q (.bin .eql true (.t 34) (.i 1))⟩,.a 36 (.pick (.t 32) (.k (.bool true)) (.t 35)),.v 7 36])
@[go_sem ↓] theorem aQW:aT JJ:=aU _
def BH:PC:=.gh (.reg [.q 39 (.fa 1 (.t 4)),.l 40 (.ld1 (.t 39)),.q 41 (.bin .eql true (.t 40) (.i 64)),.v 42 41,⟨some 43,(some (42,false)),.q (.fa 1 (.t 5))⟩,⟨some 44,(some (42,false)),.l (.ld1 (.t 43))⟩,⟨some 45,(some (42,false)),.q (.fa 1 (.t 4))⟩,⟨some 46,(some (42,false)),.l (.ld1 (.t 45))⟩,⟨some 47,(some (42,false)),.q (.bin .sub true (.t 46) (.i 1))⟩,⟨some 48,(some (42,false)),.q (.bin .shl true (.i (-1)) (.t 47))⟩,⟨some 49,(some (42,false)),.q (.bin .geq true (.t 44) (.t 48))⟩,⟨some 50,(some (42,false)),.q (.mv (.t 49))⟩,⟨some 51,(some (50,true)),.q (.fa 1 (.t 5))⟩,⟨some 52,(some (50,true)),.l (.ld1 (.t 51))⟩,⟨some 53,(some (50,true)),.q (.fa 1 (.t 4))⟩,⟨some 54,(some (50,true)),.l (.ld1 (.t 53))⟩,⟨some 55,(some (50,true)),.q (.bin .sub true (.t 54) (.i 1))⟩,⟨some 56,(some (50,true)),.q (.bin .shl true (.i 1) (.t 55))⟩,⟨some 57,(some (50,true)),.q (.bin .lss true (.t 52) (.t 56))⟩,⟨some 58,(some (42,false)),.pick (.t 50) (.t 57) (.k (.bool false))⟩,.a 59 (.pick (.t 42) (.k (.bool true)) (.t 58)),.v 7 59])
@[go_sem ↓] theorem aPZ:aT BH:=aU _
def DN:PC:=.gh (.reg [.q 62 (.fa 1 (.t 5)),.l 63 (.ld1 (.t 62)),.q 64 (.bin .geq true (.t 63) (.i 0)),.v 65 64,⟨some 66,(some (65,true)),.q (.fa 1 (.t 5))⟩,⟨some 67,(some (65,true)),.l (.ld1 (.t 66))⟩,⟨some 68,(some (65,true)),.q (.fa 1 (.t 4))⟩,⟨some 69,(some (65,true)),.l (.ld1 (.t 68))⟩,⟨some 70,(some (65,true)),.q (.bin .shl true (.i 1) (.t 69))⟩,⟨some 71,(some (65,true)),.q (.bin .lss true (.t 67) (.t 70))⟩,.a 72 (.pick (.t 65) (.t 71) (.k (.bool false))),.v 7 72])
@[go_sem ↓] theorem aNR:aT DN:=aU _
def B7:PC:=.gh (.reg [.q 83 (.fa 2 (.t 8)),.l 84 (.ld1 (.t 83)),.q 85 (.mf 118 [(.t 5)]),.a 86 (.cl 117 [(.t 84),(.t 85)] [2]),.v 7 86])
@[go_sem ↓] theorem aN9:aT B7:=aU _
def CM:PC:=.seq (.gh (.reg [.q 76 (.fa 0 (.t 3)),.l 77 (.ldn 3 (.t 76)),.q 78 (.fa 2 (.t 4)),.l 79 (.ld1 (.t 78)),.a 80 (.cl 98 [(.t 77),(.t 79)] []),.v 75 80,.q 81 (.ex (.t 75) 0),.q 82 (.ex (.t 75) 1),.e 8 (.al (.agg #[(.string (mk [])),(.slice none 0 0),(.slice none 0 0)]) 92),.s (.st 3 (.t 8) (.t 81)),.v 9 82])) (B7)
@[go_sem ↓] theorem aOC:aT CM:=aU _
def BU:PC:=.seq (.gh (.reg [.q 74 (.bin .eql true (.t 26) (.i 7)),.v 73 74])) (.cond (.t 73) (CM) .skip)
@[go_sem ↓] theorem aNS:aT BU:=aU _
def KB:PC:=.seq (.gh (.reg [.q 61 (.bin .eql true (.t 26) (.i 3)),.v 60 61])) (.cond (.t 60) (DN) (BU))
@[go_sem ↓] theorem aSZ:aT KB:=aU _
def GZ:PC:=.seq (.gh (.reg [.q 38 (.bin .eql true (.t 26) (.i 2)),.v 37 38])) (.cond (.t 37) (BH) (KB))
@[go_sem ↓] theorem aQM:aT GZ:=aU _
def kH:PC:=.seq (.seq (.gh (.reg [.v 87 7,.q 88 (.not (.t 87))])) (.cond (.t 88) (.seq (.reg [.q 6 (.mv (.i 4))]) .ret) .skip)) (.seq (.reg [.q 6 (.mv (.i 0))]) .ret)
@[go_sem ↓] theorem aNA:aT kH:=aU _
def JB:PC:=.seq (.reg [.e 3 (.bx 105 (.t 0)),.e 4 (.bx 28 (.t 1)),.e 5 (.bx 32 (.t 2)),.q 6 (.mv (.i 0))]) (.seq (.seq (.reg [.q 10 (.fa 2 (.t 5)),.l 11 (.ld1 (.t 10)),.q 12 (.bin .neq true (.t 11) (.k (.string (mk [])))),.v 13 12,⟨some 14,(some (13,false)),.q (.fa 3 (.t 5))⟩,⟨some 15,(some (13,false)),.l (.ld1 (.t 14))⟩,⟨some 16,(some (13,false)),.q (.lnL (.t 15))⟩,⟨some 17,(some (13,false)),.q (.bin .gtr true (.t 16) (.i 0))⟩,.a 18 (.pick (.t 13) (.k (.bool true)) (.t 17)),.v 19 18,⟨some 20,(some (19,false)),.q (.fa 4 (.t 5))⟩,⟨some 21,(some (19,false)),.l (.ld1 (.t 20))⟩,⟨some 22,(some (19,false)),.q (.lnL (.t 21))⟩,⟨some 23,(some (19,false)),.q (.bin .gtr true (.t 22) (.i 0))⟩,.a 24 (.pick (.t 19) (.k (.bool true)) (.t 23))]) (.cond (.t 24) (.seq (.reg [.q 6 (.mv (.i 13))]) .ret) .skip)) (.seq (.reg [.q 7 (.mv (.k (.bool false)))]) (.seq (.seq (.reg [.q 25 (.fa 0 (.t 4)),.l 26 (.ld1 (.t 25))]) (.block 0 (.seq (.reg [.q 28 (.bin .eql true (.t 26) (.i 1)),.v 27 28]) (.cond (.t 27) (JJ) (GZ))))) (kH))))
def IJ:List RV:=[.mv (.t 6)]
theorem aPN:aP Tryz.prog true ⟨fun r k=>if r=13/\k=3 then .own [2] else .own [],fun r=>[7,9,11,12,14,6,8,10,13].contains r⟩ Tryz.f91=some (JB,IJ):=by kernel_rfl
def aDJ:PC:=.seq (.reg [.e 3 (.bx 105 (.t 0)),.e 4 (.bx 28 (.t 1)),.e 5 (.bx 32 (.t 2)),.q 6 (.mv (.i 0))]) (.seq (.block 0 (.seq (.reg [.q 8 (.fa 1 (.t 5)),.l 9 (.ld1 (.t 8)),.q 10 (.bin .neq true (.t 9) (.i 0)),.v 11 10,⟨some 12,(some (11,false)),.q (.fa 3 (.t 5))⟩,⟨some 13,(some (11,false)),.l (.ld1 (.t 12))⟩,⟨some 14,(some (11,false)),.q (.lnL (.t 13))⟩,⟨some 15,(some (11,false)),.q (.bin .gtr true (.t 14) (.i 0))⟩,.a 16 (.pick (.t 11) (.k (.bool true)) (.t 15)),.v 17 16,⟨some 18,(some (17,false)),.q (.fa 4 (.t 5))⟩,⟨some 19,(some (17,false)),.l (.ld1 (.t 18))⟩,⟨some 20,(some (17,false)),.q (.lnL (.t 19))⟩,⟨some 21,(some (17,false)),.q (.bin .gtr true (.t 20) (.i 0))⟩,.a 22 (.pick (.t 17) (.k (.bool true)) (.t 21)),.v 7 22]) (.cond (.t 7) (.seq (.reg [.q 6 (.mv (.i 13))]) .ret) (.seq (.reg [.q 24 (.fa 2 (.t 5)),.l 25 (.ld1 (.t 24)),.q 26 (.lnS (.t 25)),.q 27 (.fa 1 (.t 4)),.l 28 (.ld1 (.t 27)),.q 29 (.bin .gtr true (.t 26) (.t 28)),.v 23 29]) (.cond (.t 23) (.seq (.reg [.q 6 (.mv (.i 3))]) .ret) .skip))))) (.seq (.reg [.q 6 (.mv (.i 0))]) .ret))
def aGR:List RV:=[.mv (.t 6)]
theorem aOO:aP Tryz.prog true ⟨fun _ _=>.own [],fun _=>false⟩ Tryz.f92=some (aDJ,aGR):=by kernel_rfl
def OP:PC:=.seq (.reg [.e 3 (.bx 105 (.t 0)),.e 4 (.bx 28 (.t 1)),.e 5 (.bx 32 (.t 2)),.q 6 (.mv (.i 0))]) (.seq (.block 0 (.seq (.reg [.q 11 (.fa 1 (.t 5)),.l 12 (.ld1 (.t 11)),.q 13 (.bin .neq true (.t 12) (.i 0)),.v 14 13,⟨some 15,(some (14,false)),.q (.fa 2 (.t 5))⟩,⟨some 16,(some (14,false)),.l (.ld1 (.t 15))⟩,⟨some 17,(some (14,false)),.q (.bin .neq true (.t 16) (.k (.string (mk []))))⟩,.a 18 (.pick (.t 14) (.k (.bool true)) (.t 17)),.v 19 18,⟨some 20,(some (19,false)),.q (.fa 4 (.t 5))⟩,⟨some 21,(some (19,false)),.l (.ld1 (.t 20))⟩,⟨some 22,(some (19,false)),.q (.lnL (.t 21))⟩,⟨some 23,(some (19,false)),.q (.bin .gtr true (.t 22) (.i 0))⟩,.a 24 (.pick (.t 19) (.k (.bool true)) (.t 23)),.v 10 24]) (.cond (.t 10) (.seq (.reg [.q 6 (.mv (.i 13))]) .ret) (.seq (.reg [.q 26 (.fa 3 (.t 5)),.l 27 (.ld1 (.t 26)),.q 28 (.lnL (.t 27)),.q 29 (.fa 1 (.t 4)),.l 30 (.ld1 (.t 29)),.q 31 (.bin .gtr true (.t 28) (.t 30)),.v 25 31]) (.cond (.t 25) (.seq (.reg [.q 6 (.mv (.i 3))]) .ret) .skip))))) (.seq (.seq (.reg [.q 32 (.fa 3 (.t 5)),.l 33 (.ld1 (.t 32)),.q 34 (.lnL (.t 33)),.q 35 (.mv (.i 0))]) (.block 1 (.loop (.seq (.reg [.q 36 (.bin .lss true (.t 35) (.t 34))]) (.seq (.cond (.t 36) .skip (.exit 1)) (.seq (.block 2 (.seq (.reg [.l 37 (.ia 5 (.t 33) (.t 35)),.l 38 (.ldn 5 (.t 37)),.e 8 (.al (.agg #[(.int .i64 0),(.int .i64 0),(.string (mk [])),(.slice none 0 0),(.slice none 0 0)]) 32),.s (.st 5 (.t 8) (.t 38))]) (.seq (.reg [.l 39 (.ldn 3 (.t 3)),.q 40 (.fa 3 (.t 4)),.l 41 (.ld1 (.t 40)),.l 42 (.ia 4 (.t 41) (.i 0)),.l 43 (.ldn 4 (.t 42)),.l 44 (.ldn 5 (.t 8)),.a 45 (.cq 53 [(.t 39),(.t 43),(.t 44)]),.v 9 45]) (.seq (.reg [.v 46 9,.q 47 (.bin .neq true (.t 46) (.i 0))]) (.cond (.t 47) (.seq (.reg [.v 48 9,.v 6 48]) .ret) .skip))))) (.reg [.q 49 (.bin .add true (.t 35) (.i 1)),.v 35 49]))))))) (.seq (.reg [.q 6 (.mv (.i 0))]) .ret)))
def M3:List RV:=[.mv (.t 6)]
theorem aS9:aP Tryz.prog true ⟨fun r k=>if r=8/\k=6 then .q else .own [],fun _=>false⟩ Tryz.f93=some (OP,M3):=by kernel_rfl
def yU:PC:=.seq (.gh (.reg [.v 63 13,.q 64 (.bin .neq true (.t 63) (.i 0))])) (.cond (.t 64) (.seq (.reg [.v 65 13,.v 6 65]) .ret) .skip)
@[go_sem ↓] theorem aR5:aT yU:=aU _
def GH:PC:=.seq (.gh (.reg [.l 57 (.ldn 3 (.t 3)),.q 58 (.fa 2 (.t 11)),.l 59 (.ldn 4 (.t 58)),.q 60 (.fa 1 (.t 10)),.l 61 (.ldn 5 (.t 60)),.a 62 (.cq 53 [(.t 57),(.t 59),(.t 61)]),.v 13 62])) (yU)
@[go_sem ↓] theorem aP9:aT GH:=aU _
def I2:PC:=.seq (.gh (.reg [.l 51 (.ldn 2 (.t 7)),.q 52 (.fa 0 (.t 10)),.l 53 (.ld1 (.t 52)),.a 54 (.cl 104 [(.t 51),(.t 53)] []),.v 50 54,.q 55 (.ex (.t 50) 0),.q 56 (.ex (.t 50) 1),.e 11 (.al (.agg #[(.int .i64 0),(.string (mk [])),(.int .i64 0),(.int .i64 0),(.string (mk [])),(.slice none 0 0),(.bool false)]) 97),.s (.st 7 (.t 11) (.t 55)),.v 12 56])) (GH)
@[go_sem ↓] theorem aQL:aT I2:=aU _
def AN:PC:=.seq (.seq (.gh (.reg [.q 22 (.fa 1 (.t 5)),.l 23 (.ld1 (.t 22)),.q 24 (.bin .neq true (.t 23) (.i 0)),.v 25 24,⟨some 26,(some (25,false)),.q (.fa 2 (.t 5))⟩,⟨some 27,(some (25,false)),.l (.ld1 (.t 26))⟩,⟨some 28,(some (25,false)),.q (.bin .neq true (.t 27) (.k (.string (mk []))))⟩,.a 29 (.pick (.t 25) (.k (.bool true)) (.t 28)),.v 30 29,⟨some 31,(some (30,false)),.q (.fa 3 (.t 5))⟩,⟨some 32,(some (30,false)),.l (.ld1 (.t 31))⟩,⟨some 33,(some (30,false)),.q (.lnL (.t 32))⟩,⟨some 34,(some (30,false)),.q (.bin .gtr true (.t 33) (.i 0))⟩,.a 35 (.pick (.t 30) (.k (.bool true)) (.t 34)),.v 36 35,⟨some 37,(some (36,false)),.l (.ldn 2 (.t 7))⟩,⟨some 38,(some (36,false)),.q (.fa 4 (.t 5))⟩,⟨some 39,(some (36,false)),.l (.ld1 (.t 38))⟩,⟨some 40,(some (36,false)),.cq 119 [(.t 37),(.t 39)]⟩,⟨some 41,(some (36,false)),.q (.not (.t 40))⟩,.a 42 (.pick (.t 36) (.k (.bool true)) (.t 41))])) (.cond (.t 42) (.seq (.reg [.q 6 (.mv (.i 13))]) .ret) .skip)) (.seq (.seq (.reg [.q 43 (.fa 4 (.t 5)),.l 44 (.ld1 (.t 43)),.q 45 (.lnL (.t 44)),.q 46 (.mv (.i 0))]) (.block 0 (.loop (.seq (.reg [.q 47 (.bin .lss true (.t 46) (.t 45))]) (.seq (.cond (.t 47) .skip (.exit 0)) (.seq (.block 1 (.seq (.reg [.l 48 (.ia 6 (.t 44) (.t 46)),.l 49 (.ldn 6 (.t 48)),.e 10 (.al (.agg #[(.int .i64 0),(.int .i64 0),(.int .i64 0),(.string (mk [])),(.slice none 0 0),(.slice none 0 0)]) 57),.s (.st 6 (.t 10) (.t 49))]) (I2))) (.reg [.q 66 (.bin .add true (.t 46) (.i 1)),.v 46 66]))))))) (.seq (.reg [.q 6 (.mv (.i 0))]) .ret))
@[go_sem ↓] theorem aOW:aT AN:=aU _
def aEK:PC:=.seq (.reg [.e 3 (.bx 105 (.t 0)),.e 4 (.bx 28 (.t 1)),.e 5 (.bx 32 (.t 2)),.q 6 (.mv (.i 0))]) (.seq (.reg [.q 15 (.fa 0 (.t 3)),.l 16 (.ldn 3 (.t 15)),.q 17 (.fa 2 (.t 4)),.l 18 (.ld1 (.t 17)),.a 19 (.cl 103 [(.t 16),(.t 18)] []),.v 14 19,.q 20 (.ex (.t 14) 0),.q 21 (.ex (.t 14) 1),.e 7 (.al (.agg #[(.string (mk [])),(.slice none 0 0)]) 95),.s (.st 2 (.t 7) (.t 20)),.v 8 21]) (AN))
def aDV:List RV:=[.mv (.t 6)]
theorem aRD:aP Tryz.prog true ⟨fun r k=>if r=2/\k=18 then .q else if r=8/\k=5 then .q else .own [],fun r=>[2,7,8,9].contains r⟩ Tryz.f94=some (aEK,aDV):=by kernel_rfl
def AM:PC:=.seq (.reg [.e 3 (.bx 105 (.t 0)),.e 4 (.bx 28 (.t 1)),.e 6 (.al (.agg #[(.int .i64 0),(.int .i64 0),(.string (mk [])),(.slice none 0 0),(.slice none 0 0)]) 32)]) (.seq (.seq (.reg [.v 12 2,.q 13 (.bin .lss true (.t 12) (.i 0)),.v 14 13,⟨some 15,(some (14,false)),.l (.ldn 3 (.t 3))⟩,⟨some 16,(some (14,false)),.l (.ldn 4 (.t 4))⟩,⟨some 17,(some (14,false)),.cq 90 [(.t 15),(.t 16)]⟩,⟨some 18,(some (14,false)),.q (.not (.t 17))⟩,.a 19 (.pick (.t 14) (.k (.bool true)) (.t 18))]) (.cond (.t 19) (.seq (.reg [.q 20 (.bd [(.int .i64 0),(.int .i64 0),(.string (mk [])),(.slice none 0 0),(.slice none 0 0)] []),.s (.st 5 (.t 6) (.t 20))]) .ret) .skip)) (.seq (.reg [.q 21 (.fa 0 (.t 4)),.l 22 (.ld1 (.t 21)),.q 23 (.bd [(.int .i64 0),(.int .i64 0),(.string (mk [])),(.slice none 0 0),(.slice none 0 0)] [(0,1,(.t 22))]),.e 7 (.al (.agg #[(.int .i64 0),(.int .i64 0),(.string (mk [])),(.slice none 0 0),(.slice none 0 0)]) 32),.s (.st 5 (.t 7) (.t 23))]) (.seq (.seq (.reg [.q 24 (.fa 0 (.t 4)),.l 25 (.ld1 (.t 24)),.q 26 (.bin .neq true (.t 25) (.i 6))]) (.cond (.t 26) (.seq (.reg [.l 27 (.ldn 5 (.t 7)),.s (.st 5 (.t 6) (.t 27))]) .ret) .skip)) (.seq (.reg [.q 29 (.fa 0 (.t 3)),.l 30 (.ldn 3 (.t 29)),.q 31 (.fa 2 (.t 4)),.l 32 (.ld1 (.t 31)),.a 33 (.cl 103 [(.t 30),(.t 32)] []),.v 28 33,.q 34 (.ex (.t 28) 0),.q 35 (.ex (.t 28) 1),.e 8 (.al (.agg #[(.string (mk [])),(.slice none 0 0)]) 95),.s (.st 2 (.t 8) (.t 34)),.v 9 35]) (.seq (.seq (.reg [.q 36 (.fa 1 (.t 8)),.l 37 (.ld1 (.t 36)),.q 38 (.lnL (.t 37)),.q 39 (.mv (.i 0))]) (.block 0 (.loop (.seq (.reg [.q 40 (.bin .lss true (.t 39) (.t 38))]) (.seq (.cond (.t 40) .skip (.exit 0)) (.seq (.block 1 (.seq (.reg [.l 41 (.ia 7 (.t 37) (.t 39)),.l 42 (.ldn 7 (.t 41)),.e 11 (.al (.agg #[(.int .i64 0),(.string (mk [])),(.int .i64 0),(.int .i64 0),(.string (mk [])),(.slice none 0 0),(.bool false)]) 97),.s (.st 7 (.t 11) (.t 42))]) (.seq (.reg [.q 43 (.fa 6 (.t 11)),.l 44 (.ld1 (.t 43)),.q 45 (.not (.t 44))]) (.cond (.t 45) (.ord  [.q (.q 46 (.fa 4 (.t 7))),.q (.l 47 (.ld1 (.t 46))),.q (.q 48 (.fa 0 (.t 11))),.q (.l 49 (.ld1 (.t 48))),.q (.l 50 (.ldn 3 (.t 3))),.q (.q 51 (.fa 2 (.t 11))),.q (.l 52 (.ldn 4 (.t 51))),.q (.v 53 2),.q (.q 54 (.bin .sub true (.t 53) (.i 1))),.m (.a 55 (.cl 114 [(.t 50),(.t 52),(.t 54)] [])),.rc (.q 46 (.fa 4 (.t 7))),.rc (.l 47 (.ld1 (.t 46))),.rc (.q 48 (.fa 0 (.t 11))),.rc (.l 49 (.ld1 (.t 48))),.q (.q 56 (.bd [(.int .i64 0),(.int .i64 0),(.int .i64 0),(.string (mk [])),(.slice none 0 0),(.slice none 0 0)] [(0,1,(.t 49)),(1,5,(.t 55))])),.m (.e 57 (.bsl 57 6 [(.t 56)])),.rc (.q 46 (.fa 4 (.t 7))),.rc (.l 47 (.ld1 (.t 46))),.m (.e 58 (.ap 57 6 88 (.t 47) (.t 57))),.q (.q 59 (.fa 4 (.t 7))),.m (.s (.st 1 (.t 59) (.t 58)))]) .skip)))) (.reg [.q 60 (.bin .add true (.t 39) (.i 1)),.v 39 60]))))))) (.seq (.reg [.l 61 (.ldn 5 (.t 7)),.s (.st 5 (.t 6) (.t 61))]) .ret))))))
def zK:List RV:=[.ld (.ldn 5 (.t 6))]
theorem aL3:aP Tryz.prog true ⟨fun r k=>if r=1/\k=5 then .q else .own [],fun _=>false⟩ Tryz.f114=some (AM,zK):=by kernel_rfl
def Y9:PC:=.seq (.reg [.q 3 (.mv (.k (.bool false)))]) (.seq (.reg [.v 4 0,.q 5 (.fa 1 (.t 1)),.l 6 (.ld1 (.t 5)),.q 7 (.bin .eql true (.t 4) (.t 6)),.v 3 7]) .ret)
def WL:List RV:=[.mv (.t 3)]
theorem aMT:aP Tryz.prog true ⟨fun _ _=>.own [],fun _=>false⟩ Tryz.f118=some (Y9,WL):=by kernel_rfl
def m5:PC:=.seq (.gh (.reg [.v 25 8,.q 26 (.not (.t 25)),.v 27 26,⟨some 28,(some (27,false)),.q (.mv (.t 5))⟩,⟨some 29,(some (27,false)),.q (.bin .gtr true (.t 28) (.i 0))⟩,⟨some 30,(some (27,false)),.q (.mv (.t 29))⟩,⟨some 31,(some (30,true)),.q (.mv (.t 1))⟩,⟨some 32,(some (30,true)),.q (.mv (.t 5))⟩,⟨some 33,(some (30,true)),.q (.bin .sub true (.t 32) (.i 1))⟩,⟨some 34,(some (30,true)),.l (.ia 6 (.t 31) (.t 33))⟩,⟨some 35,(some (30,true)),.q (.fa 0 (.t 34))⟩,⟨some 36,(some (30,true)),.l (.ld1 (.t 35))⟩,⟨some 37,(some (30,true)),.q (.fa 0 (.t 6))⟩,⟨some 38,(some (30,true)),.l (.ld1 (.t 37))⟩,⟨some 39,(some (30,true)),.q (.bin .geq true (.t 36) (.t 38))⟩,⟨some 40,(some (27,false)),.pick (.t 30) (.t 39) (.k (.bool false))⟩,.a 41 (.pick (.t 27) (.k (.bool true)) (.t 40))])) (.cond (.t 41) (.seq (.reg [.q 4 (.mv (.k (.bool false)))]) .ret) .skip)
@[go_sem ↓] theorem aNW:aT m5:=aU _
def CX:PC:=.seq (.gh (.reg [.l 19 (.ldn 2 (.t 2)),.q 20 (.fa 0 (.t 6)),.l 21 (.ld1 (.t 20)),.a 22 (.cl 104 [(.t 19),(.t 21)] []),.v 18 22,.q 23 (.ex (.t 18) 0),.q 24 (.ex (.t 18) 1),.e 7 (.al (.agg #[(.int .i64 0),(.string (mk [])),(.int .i64 0),(.int .i64 0),(.string (mk [])),(.slice none 0 0),(.bool false)]) 97),.s (.st 7 (.t 7) (.t 23)),.v 8 24])) (m5)
@[go_sem ↓] theorem aNF:aT CX:=aU _
def rA:PC:=.seq (.gh (.reg [.q 50 (.fa 6 (.t 10)),.l 51 (.ld1 (.t 50)),.q 52 (.not (.t 51)),.v 53 52,⟨some 54,(some (53,true)),.q (.mv (.t 1))⟩,⟨some 55,(some (53,true)),.q (.mf 142 [(.t 10)])⟩,⟨some 56,(some (53,true)),.cl 141 [(.t 54),(.t 55)] [1]⟩,⟨some 57,(some (53,true)),.q (.not (.t 56))⟩,.a 58 (.pick (.t 53) (.t 57) (.k (.bool false)))])) (.cond (.t 58) (.seq (.reg [.q 4 (.mv (.k (.bool false)))]) .ret) .skip)
@[go_sem ↓] theorem aJJ:aT rA:=aU _
def C5:PC:=.seq (.seq (.gh (.reg [.q 43 (.fa 1 (.t 2)),.l 44 (.ld1 (.t 43)),.q 45 (.lnL (.t 44)),.q 46 (.mv (.i 0))])) (.block 2 (.loop (.seq (.reg [.q 47 (.bin .lss true (.t 46) (.t 45))]) (.seq (.cond (.t 47) .skip (.exit 2)) (.seq (.block 3 (.seq (.reg [.l 48 (.ia 7 (.t 44) (.t 46)),.l 49 (.ldn 7 (.t 48)),.e 10 (.al (.agg #[(.int .i64 0),(.string (mk [])),(.int .i64 0),(.int .i64 0),(.string (mk [])),(.slice none 0 0),(.bool false)]) 97),.s (.st 7 (.t 10) (.t 49))]) (rA))) (.reg [.q 59 (.bin .add true (.t 46) (.i 1)),.v 46 59]))))))) (.seq (.reg [.q 4 (.mv (.k (.bool true)))]) .ret)
@[go_sem ↓] theorem aOE:aT C5:=aU _
def XP:PC:=.seq (.reg [.e 2 (.bx 95 (.t 0)),.q 4 (.mv (.k (.bool false)))]) (.seq (.seq (.reg [.v 11 1,.q 12 (.lnL (.t 11)),.q 13 (.mv (.i 0))]) (.block 0 (.loop (.seq (.reg [.q 14 (.bin .lss true (.t 13) (.t 12))]) (.seq (.cond (.t 14) .skip (.exit 0)) (.seq (.block 1 (.seq (.reg [.v 15 13,.l 16 (.ia 6 (.t 11) (.t 13)),.l 17 (.ldn 6 (.t 16)),.e 6 (.al (.agg #[(.int .i64 0),(.int .i64 0),(.int .i64 0),(.string (mk [])),(.slice none 0 0),(.slice none 0 0)]) 57),.v 5 15,.s (.st 6 (.t 6) (.t 17))]) (CX))) (.reg [.q 42 (.bin .add true (.t 13) (.i 1)),.v 13 42]))))))) (C5))
def X9:List RV:=[.mv (.t 4)]
theorem aKY:aP Tryz.prog true ⟨fun r k=>if r=11/\k=6 then .own [1] else .own [],fun r=>[4,5,8,11].contains r⟩ Tryz.f119=some (XP,X9):=by kernel_rfl
def ZR:PC:=.seq (.reg [.e 2 (.bx 57 (.t 0)),.q 3 (.mv (.k (.bool false)))]) (.seq (.reg [.q 4 (.fa 0 (.t 2)),.l 5 (.ld1 (.t 4)),.q 6 (.fa 0 (.t 1)),.l 7 (.ld1 (.t 6)),.q 8 (.bin .eql true (.t 5) (.t 7)),.v 3 8]) .ret)
def Z2:List RV:=[.mv (.t 3)]
theorem aMI:aP Tryz.prog true ⟨fun _ _=>.own [],fun _=>false⟩ Tryz.f142=some (ZR,Z2):=by kernel_rfl
def nE (v:Vl):Bool:=(v.k != 5) && (v.k != 6) && ((v.l.length:Int) == 0) && ((v.f.length:Int) == 0)
def lV (g:Vl->Int) (most:Int) (d:Int) (x:Vl):Int:=bif decide (d<=most) then max d (g x) else d
def qJ (g:Vl->Int) (most:Int) (d:Int) (x:Int × Vl):Int:=bif decide (d<=most) then max d (g x.2) else d
def IA (g:Vl->Int) (most:Int) (v:Vl):Int:=bif nE v then 0 else 1 + v.f.foldl (qJ g most) (v.l.foldl (lV g most) 0)
def sX:Nat->Vl->Int
 | 0=>IA (fun _=>0) (-1)
 | n + 1=>IA (sX n) n
def jC:Nat->Vl->Int
 | 0=>fun _=>0
 | n + 1=>sX n
theorem AV (n:Nat):sX n=IA (jC n) ((n:Int) - 1):=by
 cases n with
 | zero=>rfl
 | succ n=>rw [sX,jC]; congr 1; omega
theorem IK {g:Vl->Int} {most B:Int} (hg:∀ x,0<=g x/\g x<=B) {d:Int} (h:0<=d/\d<=B) (x:Vl):0<=lV g most d x/\lV g most d x<=B:=by
 unfold lV
 cases decide (d<=most)
 · exact h
 · have:=hg x; show 0<=max d (g x)/\max d (g x)<=B; omega
theorem P0 {g:Vl->Int} {most B:Int} (hg:∀ x,0<=g x/\g x<=B) {d:Int} (h:0<=d/\d<=B) (x:Int × Vl):0<=qJ g most d x/\qJ g most d x<=B:=IK hg h x.2
theorem qC {α:Type} {f:Int->α->Int} {B:Int} (h:∀ d x,0<=d/\d<=B->0<=f d x/\f d x<=B):∀ (l:List α) (d:Int),0<=d/\d<=B->0<=l.foldl f d/\l.foldl f d<=B
 | [],_,hd=>hd
 | x :: l,d,hd=>qC h l (f d x) (h d x hd)
theorem pS:∀ (n:Nat) (x:Vl),0<=jC n x/\jC n x<=n
 | 0,_=>⟨Int.le_refl _,Int.le_refl _⟩
 | n + 1,x=>by
  rw [jC,AV]
  unfold IA
  have h1:=qC (f:=lV (jC n) ((n:Int) - 1)) (fun d x h=>IK (pS n) h x) x.l 0 ⟨Int.le_refl _,by omega⟩
  have h2:=qC (f:=qJ (jC n) ((n:Int) - 1)) (fun d x h=>P0 (pS n) h x) x.f _ h1
  cases nE x
  · show 0<=1 + _/\1 + _<=_; omega
  · show (0:Int)<=0/\(0:Int)<=_; omega
theorem EO {α β:Type} {f:β->α->β} {l:List α} {i:Nat} {x:α} (h:l[i]? = some x) (d:β):(l.take (i + 1)).foldl f d=f ((l.take i).foldl f d) x:=by rw [gE h,List.foldl_append]; rfl
def A6 (n:Nat):List S->Prop:=fun av=>match av with
 | [.va (.gs r),.va (.c1 (.vl (.int .i64 k)))]=>0 < n/\tQ r/\k=(n:Int) - 2/\n<=100
 | _=>False
theorem lQ {n:Nat} {av:List S} (h:A6 n av):∃ m v,n=m + 1/\av=[.va (.gs (a8 v)),iS .i64 ((m:Int) - 1)]/\VlOk v/\m<=99:=by
 unfold A6 at h
 split at h
 · obtain ⟨h0,⟨v,rfl,hv⟩,rfl,hn⟩:=h
   refine ⟨n - 1,v,by omega,?_,hv,by omega⟩
   rw [show (n:Int) - 2=((n - 1:Nat):Int) - 1 by omega]
 · exact h.elim
noncomputable def QX (n:Nat):List S->A:=fun av=>match av with
 | [.va (.gs r),.va (.c1 (.vl (.int .i64 _)))]=>iA .i64 (jC n (C.vv r))
 | _=>.gs []
noncomputable def F6 (n:Nat):Fun:=⟨A6 n,QX n,fun av h=>by obtain ⟨m,v,_,rfl,_⟩:=lQ h; trivial⟩
theorem SI {n:Nat}:∀ av H K,(F6 n).sp av H K->av.length=2:=fun av H K h=>by obtain ⟨m,v,_,rfl,_⟩:=lQ h.1.1; rfl
attribute [go_sem] F6 A6 QX
theorem MU:∀ n,Meets Tryz.prog 52 (F6 n).sp
 | 0=>⟨by kernel_rfl,by rintro xs vs E ro w K _ _ _ ⟨⟨h,_⟩,_⟩; obtain ⟨m,_,h,_⟩:=lQ h; omega⟩
 | n + 1=>by
  refine aE Tryz.func52 aPK 2 (by rw [Tryz.ntmps52]; decide) (aG (MU n) (aA _)) SI ?_
  rintro av H K ⟨⟨h,rfl⟩,hK⟩
  obtain ⟨m,v,hm,rfl,hv,hm99⟩:=lQ h
  obtain rfl:m=n:=by omega
  have hK:K (iS .i64 (sX m v)) []:=by
   have:(F6 (m + 1)).val [.va (.gs (a8 v)),iS .i64 ((m:Int) - 1)]=iA .i64 (sX m v):=by simp -dsimp only [go_sem,jC]
   rw [this] at hK; exact hK
  clear h hm
  rw [AV] at hK
  unfold IA at hK
  have hll:=hv.ll
  have hlf:=hv.lf
  have bd1:=fun i=>qC (f:=lV (jC m) ((m:Int) - 1)) (fun d x h=>IK (pS m) h x) (v.l.take i) 0 ⟨Int.le_refl _,by omega⟩
  have fin:∀ (z:Int) (R:Hp),(bif nE v then 0 else 1 + v.f.foldl (qJ (jC m) ((m:Int) - 1)) (v.l.foldl (lV (jC m) ((m:Int) - 1)) 0))=z->W.Fin 0 K (iS .i64 z) R:=fun z R h=>by
   rw [h] at hK; exact .sel [] (by simp) (by simp) rfl (.done (by simpa [go_sem] using hK))
  clear hK
  cases hsc:nE v with
  | true=>
   have hs':=hsc
   unfold nE at hs'
   simp (maxSteps:=1000000) -dsimp only [go_sem,aM v,TA,VQ,hs']
   exact fin _ _ (by rw [hsc]; rfl)
  | false=>
   have hs':=hsc
   unfold nE at hs'
   rw [hsc] at fin
   simp (maxSteps:=1000000) -dsimp only [go_sem,aM v,TA,VQ,hs']
   refine aK (α:=Nat) (fun i=>[(1,iS .i64 ((m:Int) - 1)),(2,.va (.c1 (.pt 0 0))),(5,iS .i64 ((v.l.take i).foldl (lV (jC m) ((m:Int) - 1)) 0)),(31,.va (.c1 (.fz (v.l.map a8)))),(32,iS .i64 v.l.length),(33,iS .i64 i)]) (fun _=>[.cells (bP v) 32])
    (fun i=>i<=v.l.length) (fun i=>v.l.length - i) 0 1 (Nat.zero_le _) ?_ ?_ ?_
   · simp -dsimp only [go_sem]<;>simp
   · simp -dsimp only [go_sem,bP]<;>simp
   intro i hi
   rcases bF i v.l.length with hlt | hge
   · have hg:decide ((i:Int) < (v.l.length:Int))=true:=by simp; omega
     obtain ⟨x,hx⟩:∃ t,v.l[i]? = some t:=⟨_,a7 hlt⟩
     have q1:=OU hx
     have hxm:=bT hx
     have k1:=dB (hv.l x hxm)
     have k2:=gW x
     have ft:=EO (f:=lV (jC m) ((m:Int) - 1)) hx 0
     have hbd:=bd1 i
     generalize hd:(v.l.take i).foldl (lV (jC m) ((m:Int) - 1)) 0=d at *
     have hgb:=pS m x
     cases hc:decide (d<=(m:Int) - 1) with
     | true=>
      have hm0:0 < m:=by have:=of_decide_eq_true hc; omega
      have he:(m:Int) - 1 - 1=(m:Int) - 2:=by omega
      have hn:m<=100:=by omega
      simp (maxSteps:=1000000) -dsimp only [go_sem,hg,↓q1,bP,k1,k2,hc,he,hm0,hn]
      refine ⟨by omega,by omega,by omega,aC (i + 1) 1 (by omega) (by omega) ?_ ?_⟩
      · simp -dsimp only [go_sem,ft,lV,hc]<;>simp
      · simp -dsimp only [go_sem,bP]<;>simp [bP]
     | false=>
      simp (maxSteps:=1000000) -dsimp only [go_sem,hg,↓q1,bP,hc]
      refine ⟨by omega,by omega,aC (i + 1) 1 (by omega) (by omega) ?_ ?_⟩
      · simp -dsimp only [go_sem,ft,lV,hc]<;>simp
      · simp -dsimp only [go_sem,bP]<;>simp [bP]
   · have hg:decide ((i:Int) < (v.l.length:Int))=false:=by simp; omega
     obtain rfl:i=v.l.length:=by omega
     have hbd:=bd1 v.l.length
     rw [List.take_length] at hbd ⊢
     simp (maxSteps:=1000000) -dsimp only [go_sem,hg,bP]
     generalize v.l.foldl (lV (jC m) ((m:Int) - 1)) 0=D at *
     have bd2:=fun i=>qC (f:=qJ (jC m) ((m:Int) - 1)) (fun d x h=>P0 (pS m) h x) (v.f.take i) D hbd
     clear hi hge hg bd1
     refine aK (α:=Nat) (fun i=>[(1,iS .i64 ((m:Int) - 1)),(2,.va (.c1 (.pt 0 0))),(5,iS .i64 ((v.f.take i).foldl (qJ (jC m) ((m:Int) - 1)) D)),(48,.va (.c1 (.fz (v.f.map bH)))),(49,iS .i64 v.f.length),(50,iS .i64 i)]) (fun _=>[.cells (bP v) 32])
      (fun i=>i<=v.f.length) (fun i=>v.f.length - i) 0 1 (Nat.zero_le _) ?_ ?_ ?_
     · simp -dsimp only [go_sem]<;>simp
     · simp -dsimp only [go_sem,bP]<;>simp
     intro i hi
     rcases bF i v.f.length with hlt | hge
     · have hg:decide ((i:Int) < (v.f.length:Int))=true:=by simp; omega
       obtain ⟨x,hx⟩:∃ t,v.f[i]? = some t:=⟨_,a7 hlt⟩
       have q1:=oJ hx
       have hxm:=bT hx
       have k1:=dB (hv.f x hxm)
       have k2:=gW x.2
       have ft:=EO (f:=qJ (jC m) ((m:Int) - 1)) hx D
       have hbd2:=bd2 i
       generalize hd:(v.f.take i).foldl (qJ (jC m) ((m:Int) - 1)) D=d at *
       have hgb:=pS m x.2
       cases hc:decide (d<=(m:Int) - 1) with
       | true=>
        have hm0:0 < m:=by have:=of_decide_eq_true hc; omega
        have he:(m:Int) - 1 - 1=(m:Int) - 2:=by omega
        have hn:m<=100:=by omega
        simp (maxSteps:=1000000) -dsimp only [go_sem,hg,↓q1,bP,k1,k2,hc,he,hm0,hn]
        refine ⟨by omega,by omega,by omega,aC (i + 1) 1 (by omega) (by omega) ?_ ?_⟩
        · simp -dsimp only [go_sem,ft,qJ,hc]<;>simp
        · simp -dsimp only [go_sem,bP]<;>simp [bP]
       | false=>
        simp (maxSteps:=1000000) -dsimp only [go_sem,hg,↓q1,bP,hc]
        refine ⟨by omega,by omega,aC (i + 1) 1 (by omega) (by omega) ?_ ?_⟩
        · simp -dsimp only [go_sem,ft,qJ,hc]<;>simp
        · simp -dsimp only [go_sem,bP]<;>simp [bP]
     · have hg:decide ((i:Int) < (v.f.length:Int))=false:=by simp; omega
       obtain rfl:i=v.f.length:=by omega
       have hbd2:=bd2 v.f.length
       rw [List.take_length] at hbd2 ⊢
       simp (maxSteps:=1000000) -dsimp only [go_sem,hg,bP]
       exact ⟨by omega,fin _ _ rfl⟩
theorem AE:∀ N,Meets Tryz.prog 90 (C3 N).sp
 | 0=>⟨by kernel_rfl,by rintro xs vs E ro w K _ _ _ ⟨⟨h,_⟩,_⟩; obtain ⟨_,a,_,_,_,h⟩:=jL h; have:=a.h_pos; omega⟩
 | N + 1=>by
  refine aE Tryz.func90 aSG 2 (by rw [Tryz.ntmps90]; decide) (aG (AE N) (aB nU (aB yT (aA _)))) HE ?_
  rintro av H K ⟨⟨h,rfl⟩,hK⟩
  obtain ⟨sc,t,rfl,hs,ht,hh⟩:=jL h
  have hK:K (bS (valF sc.ss sc.es t)) []:=by
   have:(C3 (N + 1)).val [.va (.gs (aF sc)),.va (.gs (aQ t))]=bA (valF sc.ss sc.es t):=by simp -dsimp only [go_sem]
   rw [this] at hK; exact hK
  clear h
  have fin:∀ (b:Bool) (R:Hp),valF sc.ss sc.es t=b->W.Fin 0 K (bS b) R:=fun b R h=>by
   rw [h] at hK
   exact .sel [] (by simp) (by simp) rfl (.done (by simp -dsimp only [go_sem]; simpa using hK))
  clear hK
  cases t with
  | mk k s n e=>
  have hF:=valF.eq_1 sc.ss sc.es k s n e
  simp (maxSteps:=1000000) -dsimp only [go_sem,aF,aQ,aZ,aGW,aG3]
  refine ⟨fun k1=>fin _ _ (by rw [hF,k1]; simp only [aN]; ac_rfl),fun k1=>aD rfl (.done ?_)⟩
  rw [k1,aH] at hF
  simp (maxSteps:=1000000) -dsimp only [go_sem,J2]
  refine ⟨fun k2=>aD rfl (.done ?_),fun k2=>aD rfl (.done ?_)⟩
  · rw [k2,aN] at hF
    have hF':valF sc.ss sc.es (.mk k s n e)=((bl n == [] && (e.length:Int) == 0) && (s == 8 || s == 16 || s == 32 || s == 64)):=by rw [hF]; ac_rfl
    clear hF
    cases hp:(bl n == [] && (e.length:Int) == 0) with
    | false=>
     simp (maxSteps:=1000000) -dsimp only [go_sem,nN]
     exact fin _ _ (by rw [hF',hp]; rfl)
    | true=>
     rw [hp,Bool.true_and] at hF'
     cases h8:s == 8 with
     | true=>
      simp (maxSteps:=1000000) -dsimp only [go_sem,nN,h8]
      exact fin _ _ (by rw [hF',h8]; rfl)
     | false=>
     cases h16:s == 16 with
     | true=>
      simp (maxSteps:=1000000) -dsimp only [go_sem,nN,h8,h16]
      exact fin _ _ (by rw [hF',h8,h16]; rfl)
     | false=>
     cases h32:s == 32 with
     | true=>
      simp (maxSteps:=1000000) -dsimp only [go_sem,nN,h8,h16,h32]
      exact fin _ _ (by rw [hF',h8,h16,h32]; rfl)
     | false=>
      simp (maxSteps:=1000000) -dsimp only [go_sem,nN,h8,h16,h32]
      exact fin _ _ (by rw [hF',h8,h16,h32]; rfl)
  rw [k2,aH] at hF
  simp (maxSteps:=1000000) -dsimp only [go_sem,H7]
  refine ⟨fun k3=>aD rfl (.done ?_),fun k3=>aD rfl (.done ?_)⟩
  · rw [k3] at hF
    simp only [aN,Bool.and_false,Bool.or_false] at hF
    have hF':valF sc.ss sc.es (.mk k s n e)=((bl n == [] && (e.length:Int) == 0) && (s == 8 || s == 16 || s == 32)):=by rw [hF]; ac_rfl
    clear hF
    cases hp:(bl n == [] && (e.length:Int) == 0) with
    | false=>
     simp (maxSteps:=1000000) -dsimp only [go_sem,pQ]
     exact fin _ _ (by rw [hF',hp]; rfl)
    | true=>
     rw [hp,Bool.true_and] at hF'
     cases h8:s == 8 with
     | true=>
      simp (maxSteps:=1000000) -dsimp only [go_sem,pQ,h8]
      exact fin _ _ (by rw [hF',h8]; rfl)
     | false=>
     cases h16:s == 16 with
     | true=>
      simp (maxSteps:=1000000) -dsimp only [go_sem,pQ,h8,h16]
      exact fin _ _ (by rw [hF',h8,h16]; rfl)
     | false=>
      simp (maxSteps:=1000000) -dsimp only [go_sem,pQ,h8,h16]
      exact fin _ _ (by rw [hF',h8,h16]; rfl)
  rw [k3,aH] at hF
  simp (maxSteps:=1000000) -dsimp only [go_sem,HX]
  refine ⟨fun k4=>fin _ _ (by rw [hF,k4]; simp only [aN]; ac_rfl),fun k4=>aD rfl (.done ?_)⟩
  rw [k4,aH] at hF
  simp (maxSteps:=1000000) -dsimp only [go_sem,DE]
  refine ⟨fun k5=>aD rfl (.done ?_),fun k5=>aD rfl (.done ?_)⟩
  · rw [k5,aN] at hF
    have no:∀ {R:Hp},(bl n == [])=false\/decide (1<=s)=false\/decide (s<=32)=false\/((e.length:Int) == 1)=false->W.Fin 0 K (bS false) R:=fun h=>fin _ _ (by
     rw [hF]
     rcases h with h | h | h | h
     · rw [h,Bool.and_false,Bool.false_and]
     · rw [h,Bool.false_and,Bool.false_and,Bool.false_and]
     · rw [h,Bool.and_false,Bool.false_and,Bool.false_and]
     · match e,h with
       | [],_=>simp [mV]
       | [u],h=>simp at h
       | u :: v :: r,_=>simp [mV])
    cases h1:bl n == [] with
    | false=>
     simp (maxSteps:=1000000) -dsimp only [go_sem,lL,h1]
     exact no (.inl h1)
    | true=>
    cases h2:decide (1<=s) with
    | false=>
     simp (maxSteps:=1000000) -dsimp only [go_sem,lL,h1,h2]
     exact no (.inr (.inl h2))
    | true=>
    cases h3:decide (s<=32) with
    | false=>
     simp (maxSteps:=1000000) -dsimp only [go_sem,lL,h1,h2,h3]
     exact no (.inr (.inr (.inl h3)))
    | true=>
    cases h4:(e.length:Int) == 1 with
    | false=>
     simp (maxSteps:=1000000) -dsimp only [go_sem,lL,h1,h2,h3,h4]
     exact no (.inr (.inr (.inr h4)))
    | true=>
     have hl1:(e.length:Int)=1:=by simpa using h4
     obtain ⟨u,rfl⟩:∃ u,e=[u]:=List.length_eq_one_iff.1 (by omega)
     have hF':valF sc.ss sc.es (.mk k s n [u])=valF sc.ss sc.es u:=by rw [hF,h1,h2,h3]; simp [mV]
     have hu2:u.h<=N:=by rw [Ty.h,Ty.hs,Ty.hs] at hh; omega
     have hu:fH (aQ u):=eE (ht.e u (by simp [Ty.e]))
     have hsf:=fO hs
     rw [aF] at hsf
     have hsd:=fB sc
     rw [aF] at hsd
     have h4':(((1:Nat):Int) == 1)=true:=rfl
     simp (maxSteps:=1000000) -dsimp only [go_sem,lL,h1,h2,h3,h4']
     refine ⟨⟨by omega,fun r hr=>by subst hr; exact iQ u⟩,fun r hr=>?_⟩
     subst hr
     simp (maxSteps:=1000000) -dsimp only [go_sem,hsf,hsd,hu,iQ]
     exact ⟨hu2,fin _ _ hF'⟩
  rw [k5,aH] at hF
  simp (maxSteps:=1000000) -dsimp only [go_sem,BY]
  refine ⟨fun k6=>aD rfl (.done ?_),fun k6=>aD rfl (.done ?_)⟩
  · rw [k6,aN] at hF
    simp (maxSteps:=1000000) -dsimp only [go_sem,B6]
    refine iR hs ?_
    simp (maxSteps:=1000000) -dsimp only [go_sem,aR]
    refine aD rfl (.done ?_)
    cases h1:f6 sc.ss n<;>cases h2:s == 0 <;>
    · simp (maxSteps:=1000000) -dsimp only [go_sem,B9,h2]
      exact fin _ _ (by rw [hF,h1,h2]; rfl)
  rw [k6,aH] at hF
  simp (maxSteps:=1000000) -dsimp only [go_sem,DB]
  refine ⟨fun k7=>aD rfl (.done ?_),fun k7=>fin _ _ (by rw [hF,k7]; rfl)⟩
  rw [k7,aN] at hF
  simp (maxSteps:=1000000) -dsimp only [go_sem,BV]
  refine kC hs ?_
  simp (maxSteps:=1000000) -dsimp only [go_sem,bG]
  refine aD rfl (.done ?_)
  cases h1:f9 sc.es n<;>cases h2:s == 0 <;>
  · simp (maxSteps:=1000000) -dsimp only [go_sem,DO,h2]
    exact fin _ _ (by rw [hF,h1,h2]; rfl)
theorem wC:Meets Tryz.prog 90 r0Fn.sp:=eQ 0 AE fun av H K ⟨⟨h,e⟩,hK⟩=>by
 obtain ⟨a,b,rfl,ha,hb⟩:=kL h
 exact ⟨b.h,⟨⟨⟨fO ha,eE hb,by rw [eT]; exact Nat.le_refl _⟩,e⟩,hK⟩⟩
def EQ (s:Sc) (t:Ty) (n:Int):Bool:=
 bif t.k == 1 then n == 0 || n == 1
 else bif t.k == 2 then t.s == 64 || (decide (-(2 ^ (t.s.toNat - 1):Int)<=n) && decide (n < (2 ^ (t.s.toNat - 1):Int)))
 else bif t.k == 3 then decide (0<=n) && decide (n < (2 ^ t.s.toNat:Int))
 else bif t.k == 7 then ((dJ s.es t.n).getD default).vs.any fun x=>x == n else false
def oC (s:Sc) (t:Ty) (n:Int) (str:ByteArray) (ll lf:Int):Int:=bif !(bl str == []) || decide (0 < ll) || decide (0 < lf) then 13 else bif EQ s t n then 0 else 4
def oE (t:Ty) (n:Int) (str:ByteArray) (ll lf:Int):Int:=bif n != 0 || decide (0 < ll) || decide (0 < lf) then 13 else bif decide (t.s < ((bl str).length:Int)) then 3 else 0
def YL:Option Int->Int->Bool
 | none,_=>true
 | some q,n=>decide (q < n)
def ftA (fs:List Fl):Option Int->List (Int × Vl)->Bool
 | _,[]=>true
 | p,x :: r=>(fF fs x.1).isSome && YL p x.1 && ftA fs (some x.1) r
theorem wW (fs:List Fl) (p:Option Int) (x:Int × Vl) (r:List (Int × Vl)):ftA fs p (x :: r)=((fF fs x.1).isSome && YL p x.1 && ftA fs (some x.1) r):=by rw [ftA.eq_def]
theorem CO (fs:List Fl) (p:Option Int):ftA fs p []=true:=by rw [ftA.eq_def]
def lB (l:List (Int × Vl)) (n:Int):Bool:=l.any fun y=>y.1 == n
def dI (fs:List Fl) (l:List (Int × Vl)):Bool:=ftA fs none l && fs.all fun f=>f.opt || lB l f.num
mutual
def jQ (s:Sc) (t:Ty):Vl->Int
 | .mk k n str l f=>
  bif !(valF s.ss s.es t) || k != t.k then 13
  else bif t.k == 4 then oE t n str l.length f.length
  else bif t.k == 5 then (bif n != 0 || !(bl str == []) || decide (0 < (f.length:Int)) then 13 else bif decide (t.s < (l.length:Int)) then 3 else kV s (t.e.headD default) l)
  else bif t.k == 6 then (bif n != 0 || !(bl str == []) || decide (0 < (l.length:Int)) || !(dI ((fS s.ss t.n).getD default).fs f) then 13 else kF s ((fS s.ss t.n).getD default).fs f)
  else oC s t n str l.length f.length
def kV (s:Sc) (t:Ty):List Vl->Int
 | []=>0
 | v :: r=>bif jQ s t v != 0 then jQ s t v else kV s t r
def kF (s:Sc) (fs:List Fl):List (Int × Vl)->Int
 | []=>0
 | (i,v) :: r=>bif jQ s ((fF fs i).getD default).ty v != 0 then jQ s ((fF fs i).getD default).ty v else kF s fs r
end
theorem AF (s:Sc) (t:Ty) (v:Vl):jQ s t v=bif !(valF s.ss s.es t) || v.k != t.k then 13
 else bif t.k == 4 then oE t v.n v.s v.l.length v.f.length
 else bif t.k == 5 then (bif v.n != 0 || !(bl v.s == []) || decide (0 < (v.f.length:Int)) then 13 else bif decide (t.s < (v.l.length:Int)) then 3 else kV s (t.e.headD default) v.l)
 else bif t.k == 6 then (bif v.n != 0 || !(bl v.s == []) || decide (0 < (v.l.length:Int)) || !(dI ((fS s.ss t.n).getD default).fs v.f) then 13 else kF s ((fS s.ss t.n).getD default).fs v.f)
 else oC s t v.n v.s v.l.length v.f.length:=by cases v; rw [jQ]; rfl
theorem HQ (s:Sc) (fs:List Fl) (x:Int × Vl) (r:List (Int × Vl)):kF s fs (x :: r)=bif jQ s ((fF fs x.1).getD default).ty x.2 != 0 then jQ s ((fF fs x.1).getD default).ty x.2 else kF s fs r:=by cases x; rw [kF]
abbrev RZ:S:=.va (.c1 (.fn 118 [(false,[.pt 0 0])]))
def aHG:W.Spec:=fun av H K=>∃ (x:Int) (v:Vl),av=[iS .i64 x,.va (.c1 (.pt 0 0))]/\H=[.cells (bP v) 32]/\K (bS (x == v.n)) [.cells (bP v) 32]
theorem aGE {x:Int} {v:Vl} {K:S->Hp->Prop} (hK:K (bS (x == v.n)) [.cells (bP v) 32]):aHG [iS .i64 x,.va (.c1 (.pt 0 0))] [.cells (bP v) 32] K:=⟨x,v,rfl,rfl,hK⟩
theorem TG:Meets Tryz.prog 118 aHG:=by
 refine aE Tryz.func118 aMT 2 (by rw [Tryz.ntmps118]; decide) (aA _) (fun av H K h=>by obtain ⟨_,_,rfl,_⟩:=h; rfl) ?_
 rintro av H K ⟨x,v,rfl,rfl,hK⟩
 simp -dsimp only [go_sem,bP,Y9,WL]
 exact .sel [0] (by simp) (by simp) rfl (.done (by simpa [go_sem,bP] using hK))
def yM (p:Int->Bool):List Int->Nat->Int
 | [],_=>-1
 | x :: l,i=>bif p x then (i:Int) else yM p l (i + 1)
theorem K3 (p:Int->Bool):∀ (l:List Int) (i:Nat),decide (0<=yM p l i)=l.any p
 | [],_=>rfl
 | x :: l,i=>by
  rw [List.any_cons,yM]
  cases h:p x
  · rw [aH,K3 p l (i + 1),Bool.false_or]
  · simp
def aFZ:W.Spec:=fun av H K=>∃ (l:List Int) (v:Vl),av=[.va (.c1 (.fz (l.map cH))),RZ]/\H=[.cells (bP v) 32]/\l.length<=9223372036854775807/\K (iS .i64 (yM (fun x=>x == v.n) l 0)) [.cells (bP v) 32]
theorem aEC {l:List Int} {v:Vl} {K:S->Hp->Prop} (h:l.length<=9223372036854775807) (hK:K (iS .i64 (yM (fun x=>x == v.n) l 0)) [.cells (bP v) 32]):aFZ [.va (.c1 (.fz (l.map cH))),RZ] [.cells (bP v) 32] K:=⟨l,v,rfl,rfl,h,hK⟩
theorem aBD:Meets Tryz.prog 140 aFZ:=by
 refine aE Tryz.func140 aJS 2 (by rw [Tryz.ntmps140]; decide) (aB TG (aA _)) (fun av H K h=>by obtain ⟨_,_,rfl,_⟩:=h; rfl) ?_
 rintro av H K ⟨l,v,rfl,rfl,hl,hK⟩
 simp -dsimp only [go_sem,ZZ,ZL]
 refine aK (α:=Nat) (fun i=>[(0,.va (.c1 (.fz (l.map cH)))),(1,RZ),(7,iS .i64 l.length),(8,iS .i64 i)]) (fun _=>[.cells (bP v) 32])
  (fun i=>i<=l.length/\yM (fun x=>x == v.n) (l.drop i) i=yM (fun x=>x == v.n) l 0) (fun i=>l.length - i) 0 1 ⟨Nat.zero_le _,rfl⟩ ?_ ?_ ?_
 · simp -dsimp only [go_sem]<;>simp
 · simp -dsimp only [go_sem,bP]<;>simp
 rintro i ⟨hi,ho⟩
 rcases bF i l.length with hlt | hge
 · have hg:decide ((i:Int) < (l.length:Int))=true:=by simp; omega
   have hx:l[i]? = some l[i]:=a7 hlt
   have q2:=aV (row:=cH) hx
   rw [List.drop_eq_getElem_cons hlt,yM] at ho
   generalize l[i]=y at *
   simp -dsimp only [go_sem,hg,↓q2]
   refine ⟨by omega,aGE ?_⟩
   cases hc:y == v.n with
   | true=>
    rw [hc,aN] at ho
    simp -dsimp only [go_sem]
    exact .sel [0] (by simp) (by simp) rfl (.done (by simpa [go_sem,bP,ho] using hK))
   | false=>
    rw [hc,aH] at ho
    simp -dsimp only [go_sem]
    refine ⟨by omega,aC (i + 1) 1 ⟨by omega,ho⟩ (by omega) ?_ ?_⟩
    · simp -dsimp only [go_sem]<;>simp
    · simp -dsimp only [go_sem,bP]<;>simp [bP]
 · have hg:decide ((i:Int) < (l.length:Int))=false:=by simp; omega
   have:l.drop i=[]:=List.drop_eq_nil_iff.2 (by omega)
   rw [this] at ho
   simp -dsimp only [go_sem,hg]
   exact .sel [0] (by simp) (by simp) rfl (.done (by rw [show yM (fun x=>x == v.n) l 0=-1 from ho.symm] at hK; simpa [go_sem,bP] using hK))
def aFM:W.Spec:=fun av H K=>∃ (l:List Int) (v:Vl),av=[.va (.c1 (.fz (l.map cH))),RZ]/\H=[.cells (bP v) 32]/\l.length<=9223372036854775807/\K (bS (l.any fun x=>x == v.n)) [.cells (bP v) 32]
theorem aGM {l:List Int} {v:Vl} {K:S->Hp->Prop} (h:l.length<=9223372036854775807) (hK:K (bS (l.any fun x=>x == v.n)) [.cells (bP v) 32]):aFM [.va (.c1 (.fz (l.map cH))),RZ] [.cells (bP v) 32] K:=⟨l,v,rfl,rfl,h,hK⟩
theorem NU:Meets Tryz.prog 117 aFM:=by
 refine aE Tryz.func117 aJR 2 (by rw [Tryz.ntmps117]; decide) (aB aBD (aA _)) (fun av H K h=>by obtain ⟨_,_,rfl,_⟩:=h; rfl) ?_
 rintro av H K ⟨l,v,rfl,rfl,hl,hK⟩
 simp -dsimp only [go_sem,bP,YB,Y0]
 refine aEC hl ?_
 simp -dsimp only [go_sem,bP,K3]
 exact .sel [0] (by simp) (by simp) rfl (.done (by simpa [go_sem,bP] using hK))
abbrev RK:S:=.va (.c1 (.fn 142 [(false,[.pt 0 0])]))
def veX (x:Int × Vl):List C:=[.vl (.int .i64 x.1),.vl (.int .i64 x.2.k),.vl (.int .i64 x.2.n),.vl (.string x.2.s),.fz (x.2.l.map a8),.fz (x.2.f.map bH)]
def WT:W.Spec:=fun av H K=>∃ (x:Int × Vl) (f:Fl),av=[.va (.gs (veX x)),.va (.c1 (.pt 0 0))]/\H=[.cells (aY f) 97]/\K (bS (x.1 == f.num)) [.cells (aY f) 97]
theorem aB1 {x:Int × Vl} {f:Fl} {K:S->Hp->Prop} (hK:K (bS (x.1 == f.num)) [.cells (aY f) 97]):WT [.va (.gs (veX x)),.va (.c1 (.pt 0 0))] [.cells (aY f) 97] K:=⟨x,f,rfl,rfl,hK⟩
theorem aFA:Meets Tryz.prog 142 WT:=by
 refine aE Tryz.func142 aMI 2 (by rw [Tryz.ntmps142]; decide) (aA _) (fun av H K h=>by obtain ⟨_,_,rfl,_⟩:=h; rfl) ?_
 rintro av H K ⟨x,f,rfl,rfl,hK⟩
 simp -dsimp only [go_sem,veX,aY,ZR,Z2]
 exact .sel [0] (by simp) (by simp) rfl (.done (by simpa [go_sem,aY] using hK))
def AC (n:Int):List (Int × Vl)->Nat->Int
 | [],_=>-1
 | x :: l,i=>bif x.1 == n then (i:Int) else AC n l (i + 1)
theorem MR (n:Int):∀ (l:List (Int × Vl)) (i:Nat),decide (0<=AC n l i)=lB l n
 | [],_=>rfl
 | x :: l,i=>by
  rw [lB,List.any_cons,AC]
  cases h:x.1 == n
  · rw [aH,MR n l (i + 1),Bool.false_or]; rfl
  · simp
def aFD:W.Spec:=fun av H K=>∃ (l:List (Int × Vl)) (f:Fl),av=[.va (.c1 (.fz (l.map bH))),RK]/\H=[.cells (aY f) 97]/\l.length<=9223372036854775807/\K (iS .i64 (AC f.num l 0)) [.cells (aY f) 97]
theorem aEW {l:List (Int × Vl)} {f:Fl} {K:S->Hp->Prop} (h:l.length<=9223372036854775807) (hK:K (iS .i64 (AC f.num l 0)) [.cells (aY f) 97]):aFD [.va (.c1 (.fz (l.map bH))),RK] [.cells (aY f) 97] K:=⟨l,f,rfl,rfl,h,hK⟩
theorem aAL:Meets Tryz.prog 157 aFD:=by
 refine aE Tryz.func157 aJ5 2 (by rw [Tryz.ntmps157]; decide) (aB aFA (aA _)) (fun av H K h=>by obtain ⟨_,_,rfl,_⟩:=h; rfl) ?_
 rintro av H K ⟨l,f,rfl,rfl,hl,hK⟩
 simp -dsimp only [go_sem,XA,WN]
 refine aK (α:=Nat) (fun i=>[(0,.va (.c1 (.fz (l.map bH)))),(1,RK),(7,iS .i64 l.length),(8,iS .i64 i)]) (fun _=>[.cells (aY f) 97])
  (fun i=>i<=l.length/\AC f.num (l.drop i) i=AC f.num l 0) (fun i=>l.length - i) 0 1 ⟨Nat.zero_le _,rfl⟩ ?_ ?_ ?_
 · simp -dsimp only [go_sem]<;>simp
 · simp -dsimp only [go_sem,aY]<;>simp
 rintro i ⟨hi,ho⟩
 rcases bF i l.length with hlt | hge
 · have hg:decide ((i:Int) < (l.length:Int))=true:=by simp; omega
   have hx:l[i]? = some l[i]:=a7 hlt
   have q2:=oJ hx
   rw [List.drop_eq_getElem_cons hlt,AC] at ho
   generalize l[i]=y at *
   simp -dsimp only [go_sem,hg,↓q2]
   refine ⟨by omega,aB1 ?_⟩
   cases hc:y.1 == f.num with
   | true=>
    rw [hc,aN] at ho
    simp -dsimp only [go_sem]
    exact .sel [0] (by simp) (by simp) rfl (.done (by simpa [go_sem,aY,ho] using hK))
   | false=>
    rw [hc,aH] at ho
    simp -dsimp only [go_sem]
    refine ⟨by omega,aC (i + 1) 1 ⟨by omega,ho⟩ (by omega) ?_ ?_⟩
    · simp -dsimp only [go_sem]<;>simp
    · simp -dsimp only [go_sem,aY]<;>simp [aY]
 · have hg:decide ((i:Int) < (l.length:Int))=false:=by simp; omega
   have:l.drop i=[]:=List.drop_eq_nil_iff.2 (by omega)
   rw [this] at ho
   simp -dsimp only [go_sem,hg]
   exact .sel [0] (by simp) (by simp) rfl (.done (by rw [show AC f.num l 0=-1 from ho.symm] at hK; simpa [go_sem,aY] using hK))
def aCW:W.Spec:=fun av H K=>∃ (l:List (Int × Vl)) (f:Fl),av=[.va (.c1 (.fz (l.map bH))),RK]/\H=[.cells (aY f) 97]/\l.length<=9223372036854775807/\K (bS (lB l f.num)) [.cells (aY f) 97]
theorem aCU {l:List (Int × Vl)} {f:Fl} {K:S->Hp->Prop} (h:l.length<=9223372036854775807) (hK:K (bS (lB l f.num)) [.cells (aY f) 97]):aCW [.va (.c1 (.fz (l.map bH))),RK] [.cells (aY f) 97] K:=⟨l,f,rfl,rfl,h,hK⟩
theorem NJ:Meets Tryz.prog 141 aCW:=by
 refine aE Tryz.func141 aJO 2 (by rw [Tryz.ntmps141]; decide) (aB aAL (aA _)) (fun av H K h=>by obtain ⟨_,_,rfl,_⟩:=h; rfl) ?_
 rintro av H K ⟨l,f,rfl,rfl,hl,hK⟩
 simp -dsimp only [go_sem,aY,Z1,YK]
 refine aEW hl ?_
 simp -dsimp only [go_sem,aY,MR]
 exact .sel [0] (by simp) (by simp) rfl (.done (by simpa [go_sem,aY] using hK))
def FV (P:Sc->Ty->Vl->Prop):List S->Prop:=fun av=>match av with
 | [.va (.gs r),.va (.gs q),.va (.gs p)]=>kU r/\fH q/\tQ p/\P (C.sc r) (C.ty q) (C.vv p)
 | _=>False
theorem qY {P:Sc->Ty->Vl->Prop} {av:List S} (h:FV P av):∃ s t v,av=[.va (.gs (aF s)),.va (.gs (aQ t)),.va (.gs (a8 v))]/\s.fit/\TyOk t/\VlOk v/\P s t v:=by
 unfold FV at h
 split at h
 · obtain ⟨⟨s,rfl,hs⟩,⟨t,rfl,ht⟩,⟨v,rfl,hv⟩,h⟩:=h
   rw [fB,eT,lX] at h
   exact ⟨s,t,v,rfl,hs,ht,hv,h⟩
 · exact h.elim
noncomputable def W5 (f:Sc->Ty->Vl->Value):List S->A:=fun av=>match av with
 | [.va (.gs r),.va (.gs q),.va (.gs p)]=>.c1 (.vl (f (C.sc r) (C.ty q) (C.vv p)))
 | _=>.gs []
noncomputable def eL (P:Sc->Ty->Vl->Prop) (f:Sc->Ty->Vl->Value):Fun:=⟨FV P,W5 f,fun av h=>by obtain ⟨_,_,_,rfl,_⟩:=qY h; trivial⟩
theorem gK {P:Sc->Ty->Vl->Prop} {f:Sc->Ty->Vl->Value}:∀ av H K,(eL P f).sp av H K->av.length=3:=fun av H K h=>by obtain ⟨_,_,_,rfl,_⟩:=qY h.1.1; rfl
attribute [go_sem] eL FV W5
theorem eW {P:Sc->Ty->Vl->Prop} {f:Sc->Ty->Vl->Value} {av:List S} {H:Hp} {K:S->Hp->Prop} (h:(eL P f).sp av H K) :
 ∃ s t v,av=[.va (.gs (aF s)),.va (.gs (aQ t)),.va (.gs (a8 v))]/\H=[]/\s.fit/\TyOk t/\VlOk v/\P s t v/\K (.va (.c1 (.vl (f s t v)))) []:=by
 obtain ⟨⟨h,rfl⟩,hK⟩:=h
 obtain ⟨s,t,v,rfl,hs,ht,hv,hp⟩:=qY h
 have:(eL P f).val [.va (.gs (aF s)),.va (.gs (aQ t)),.va (.gs (a8 v))]=.c1 (.vl (f s t v)):=by simp -dsimp only [go_sem]
 rw [this] at hK
 exact ⟨s,t,v,rfl,rfl,hs,ht,hv,hp,hK⟩
theorem aIJ:Meets Tryz.prog 92 (eL (fun _ _ _=>True) fun _ t v=>.int .i64 (oE t v.n v.s v.l.length v.f.length)).sp:=by
 refine aE Tryz.func92 aOO 3 (by rw [Tryz.ntmps92]; decide) (aA _) gK ?_
 intro av H K h
 obtain ⟨s,t,v,rfl,rfl,hs,ht,hv,_,hK⟩:=eW h
 clear h
 have fin:∀ (z:Int) (R:Hp),oE t v.n v.s v.l.length v.f.length=z->W.Fin 0 K (iS .i64 z) R:=fun z R h=>by
  rw [h] at hK; exact .sel [] (by simp) (by simp) rfl (.done (by simpa [go_sem] using hK))
 clear hK
 unfold oE at fin
 cases h1:v.n != 0<;>cases h2:decide (0 < (v.l.length:Int))<;>cases h3:decide (0 < (v.f.length:Int))<;>cases h4:decide (t.s < ((bl v.s).length:Int)) <;>
 · rw [h1,h2,h3,h4] at fin
   simp (maxSteps:=1000000) -dsimp only [go_sem,aF,aJ t,aM v,aDJ,aGR,h1,h2,h3,h4]
   exact fin _ _ rfl
theorem aRP {ss:List St} {es:List En} {t:Ty} (h:valF ss es t=true) (k:(t.k == 2)=true):t.s=8\/t.s=16\/t.s=32\/t.s=64:=by
 cases t with
 | mk k0 s n e=>
  obtain rfl:k0=2:=by have k:(k0 == 2)=true:=k; simpa using k
  rw [valF] at h
  have:(s == 8 || s == 16 || s == 32 || s == 64)=true:=by
   simp only [show ((2:Int) == 1)=false from rfl,show ((2:Int) == 2)=true from rfl,aN,aH,Bool.and_eq_true] at h
   exact h.1.1
  show s=8\/s=16\/s=32\/s=64
  simp only [Bool.or_eq_true,beq_iff_eq] at this
  omega
theorem aOM {ss:List St} {es:List En} {t:Ty} (h:valF ss es t=true) (k:(t.k == 3)=true):t.s=8\/t.s=16\/t.s=32:=by
 cases t with
 | mk k0 s n e=>
  obtain rfl:k0=3:=by have k:(k0 == 3)=true:=k; simpa using k
  rw [valF] at h
  have:(s == 8 || s == 16 || s == 32)=true:=by
   simp only [show ((3:Int) == 1)=false from rfl,show ((3:Int) == 2)=false from rfl,show ((3:Int) == 3)=true from rfl,aN,aH,Bool.and_eq_true,Bool.and_false,Bool.or_false] at h
   exact h.1.1
  show s=8\/s=16\/s=32
  simp only [Bool.or_eq_true,beq_iff_eq] at this
  omega
theorem VO:Meets Tryz.prog 91 (eL (fun s t _=>valF s.ss s.es t=true) fun s t v=>.int .i64 (oC s t v.n v.s v.l.length v.f.length)).sp:=by
 refine aE Tryz.func91 aPN 3 (by rw [Tryz.ntmps91]; decide) (aB yT (aB NU (aA _))) gK ?_
 intro av H K h
 obtain ⟨s,t,v,rfl,rfl,hs,ht,hv,hp,hK⟩:=eW h
 clear h
 have fin:∀ (z:Int) (R:Hp),oC s t v.n v.s v.l.length v.f.length=z->W.Fin 0 K (iS .i64 z) R:=fun z R h=>by
  rw [h] at hK; exact .sel [] (by simp) (by simp) rfl (.done (by simpa [go_sem] using hK))
 clear hK
 unfold oC at fin
 cases h1:bl v.s == [] with
 | false=>
  rw [h1] at fin
  simp (maxSteps:=1000000) -dsimp only [go_sem,aF,aJ t,aM v,JB,IJ,h1]
  exact fin _ _ rfl
 | true=>
 cases h2:decide (0 < (v.l.length:Int)) with
 | true=>
  rw [h1,h2] at fin
  simp (maxSteps:=1000000) -dsimp only [go_sem,aF,aJ t,aM v,JB,IJ,h1,h2]
  exact fin _ _ rfl
 | false=>
 cases h3:decide (0 < (v.f.length:Int)) with
 | true=>
  rw [h1,h2,h3] at fin
  simp (maxSteps:=1000000) -dsimp only [go_sem,aF,aJ t,aM v,JB,IJ,h1,h2,h3]
  exact fin _ _ rfl
 | false=>
 rw [h1,h2,h3] at fin
 simp only [Bool.not_true,Bool.or_self,aH] at fin
 unfold EQ at fin
 simp (maxSteps:=1000000) -dsimp only [go_sem,aF,aJ t,aM v,JB,IJ,h1,h2,h3]
 refine ⟨fun k1=>aD rfl (.done ?_),fun k1=>aD rfl (.done ?_)⟩
 · rw [k1,aN] at fin
   simp (maxSteps:=1000000) -dsimp only [go_sem,JJ]
   refine aD rfl (.done ?_)
   cases h4:(v.n == 0 || v.n == 1) <;>
   · rw [h4] at fin
     simp (maxSteps:=1000000) -dsimp only [go_sem,kH]
     exact fin _ _ rfl
 rw [k1,aH] at fin
 simp (maxSteps:=1000000) -dsimp only [go_sem,GZ]
 refine ⟨fun k2=>aD rfl (.done ?_),fun k2=>aD rfl (.done ?_)⟩
 · rw [k2,aN] at fin
   cases h64:t.s == 64 with
   | true=>
    rw [h64] at fin
    simp (maxSteps:=1000000) -dsimp only [go_sem,BH,h64,Bool.false_and]
    refine aD rfl (.done ?_)
    simp (maxSteps:=1000000) -dsimp only [go_sem,kH]
    exact fin _ _ rfl
   | false=>
    rw [h64,Bool.false_or] at fin
    obtain ⟨b1,b2,e1,e2⟩:8<=t.s/\t.s<=32/\IntKind.i64.wrap (-1 * 2 ^ min (t.s - 1).toNat 64)=-(2 ^ (t.s.toNat - 1):Int)/\IntKind.i64.wrap (1 * 2 ^ min (t.s - 1).toNat 64)=(2 ^ (t.s.toNat - 1):Int):=by
     rcases aRP hp k2 with hz | hz | hz | hz
     · rw [hz]; decide
     · rw [hz]; decide
     · rw [hz]; decide
     · rw [hz] at h64; simp at h64
    have f1:(0<=t.s - 1)=True:=eq_true (by omega)
    have f2:(-9223372036854775808<=t.s - 1)=True:=eq_true (by omega)
    have f3:(t.s - 1<=9223372036854775807)=True:=eq_true (by omega)
    generalize (2 ^ (t.s.toNat - 1):Int)=hi at *
    cases h4:decide (-hi<=v.n)<;>cases h5:decide (v.n < hi) <;>
    · rw [h4,h5] at fin
      simp (maxSteps:=1000000) -dsimp only [go_sem,BH,h64,e1,e2,h4,h5,f1,f2,f3]
      refine aD rfl (.done ?_)
      simp (maxSteps:=1000000) -dsimp only [go_sem,kH]
      exact fin _ _ rfl
 rw [k2,aH] at fin
 simp (maxSteps:=1000000) -dsimp only [go_sem,KB]
 refine ⟨fun k3=>aD rfl (.done ?_),fun k3=>aD rfl (.done ?_)⟩
 · rw [k3,aN] at fin
   obtain ⟨b1,e1⟩:0<=t.s/\IntKind.i64.wrap (1 * 2 ^ min t.s.toNat 64)=(2 ^ t.s.toNat:Int):=by
    rcases aOM hp k3 with hz | hz | hz
    · rw [hz]; decide
    · rw [hz]; decide
    · rw [hz]; decide
   generalize (2 ^ t.s.toNat:Int)=hi at *
   cases h4:decide (0<=v.n)<;>cases h5:decide (v.n < hi) <;>
   · rw [h4,h5] at fin
     simp (maxSteps:=1000000) -dsimp only [go_sem,DN,e1,h4,h5,b1]
     refine aD rfl (.done ?_)
     simp (maxSteps:=1000000) -dsimp only [go_sem,kH]
     exact fin _ _ rfl
 rw [k3,aH] at fin
 simp (maxSteps:=1000000) -dsimp only [go_sem,BU]
 refine ⟨fun k7=>aD rfl (.done ?_),fun k7=>aD rfl (.done ?_)⟩
 · rw [k7,aN] at fin
   simp (maxSteps:=1000000) -dsimp only [go_sem,CM]
   refine kC (s:=s) hs ?_
   generalize hu:(dJ s.es t.n).getD default=u at *
   have hul:u.vs.length<=9223372036854775807:=by
    rw [<-hu]
    cases hf:dJ s.es t.n with
    | none=>exact Nat.zero_le _
    | some w=>exact (hs.ok.es w (LB hf).1).lv
   simp (maxSteps:=1000000) -dsimp only [go_sem,bG]
   refine aD rfl (.done ?_)
   simp (maxSteps:=1000000) -dsimp only [go_sem,B7]
   refine aGM hul ?_
   simp (maxSteps:=1000000) -dsimp only [go_sem,bP]
   refine aD rfl (.done ?_)
   cases h4:u.vs.any fun x=>x == v.n <;>
   · rw [h4] at fin
     simp (maxSteps:=1000000) -dsimp only [go_sem,kH]
     exact fin _ _ rfl
 rw [k7] at fin
 simp (maxSteps:=1000000) -dsimp only [go_sem,kH]
 exact fin _ _ rfl
theorem LK {a b:Int × Vl} (h:bH a=bH b):a=b:=by
 obtain ⟨i,x⟩:=a
 obtain ⟨j,y⟩:=b
 obtain ⟨h1,h2⟩:=List.cons.inj h
 have e:i=j:=by simpa using h1
 have e2:x=y:=vQ h2
 rw [e,e2]
instance:Inhabited (Int × Vl):=⟨(0,default)⟩
noncomputable def C.ve:=sA bH
@[go_sem] theorem aWE (v:Int × Vl):C.ve (bH v)=v:=jW LK v
@[go_sem] theorem aCO (l:List (Int × Vl)):(l.map bH).map C.ve=l:=kY LK l
def GC (r:List C):Prop:=∃ u:St,r=aR u/\u.ok/\∀ f ∈ u.fs,TySm f.ty
def aEN (rs:List (List C)):Prop:=∃ l:List (Int × Vl),rs=l.map bH/\l.length * 88<=140737488355328/\∀ x ∈ l,cD x.1/\VlOk x.2
theorem aAF {v:Vl} (h:VlOk v):aEN (v.f.map bH):=⟨v.f,rfl,h.lf,fun x hx=>⟨h.fn x hx,h.f x hx⟩⟩
theorem JO {s:Sc} (hs:s.fit) (n:ByteArray):GC (aR ((fS s.ss n).getD default)):=by
 refine ⟨_,rfl,?_⟩
 cases hf:fS s.ss n with
 | none=>exact ⟨St.ok_default,fun f hf=>(List.not_mem_nil hf).elim⟩
 | some w=>exact ⟨hs.ok.ss w (gV hf).1,(hs.sm w (gV hf).1).2⟩
def zC:List S->Prop:=fun av=>match av with
 | [.va (.gs r),.va (.c1 (.fz rs))]=>GC r/\aEN rs
 | _=>False
theorem pF {av:List S} (h:zC av):∃ (u:St) (l:List (Int × Vl)),av=[.va (.gs (aR u)),.va (.c1 (.fz (l.map bH)))]/\u.ok/\(∀ f ∈ u.fs,TySm f.ty)/\l.length * 88<=140737488355328/\∀ x ∈ l,cD x.1/\VlOk x.2:=by
 unfold zC at h
 split at h
 · obtain ⟨⟨u,rfl,h1,h2⟩,⟨l,rfl,h3,h4⟩⟩:=h; exact ⟨u,l,rfl,h1,h2,h3,h4⟩
 · exact h.elim
noncomputable def Q5:List S->A:=fun av=>match av with
 | [.va (.gs r),.va (.c1 (.fz rs))]=>bA (dI (C.st r).fs (rs.map C.ve))
 | _=>.gs []
noncomputable def ftFn1:Fun:=⟨zC,Q5,fun av h=>by obtain ⟨_,_,rfl,_⟩:=pF h; trivial⟩
theorem P2:∀ av H K,ftFn1.sp av H K->av.length=2:=fun av H K h=>by obtain ⟨_,_,rfl,_⟩:=pF h.1.1; rfl
attribute [go_sem] ftFn1 zC Q5
def wG (l:List (Int × Vl)):Nat->Option Int
 | 0=>none
 | j + 1=>(l[j]?).map (·.1)
theorem H3 {l:List (Int × Vl)} {n:Int} {x:Int × Vl} (h:l[n.toNat]? = some x) (p:List C->Prop):(∀ r,(l.map bH)[n.toNat]? = some r->p r)=p [.vl (.int .i64 x.1),.vl (.int .i64 x.2.k),.vl (.int .i64 x.2.n),.vl (.string x.2.s),.fz (x.2.l.map a8),.fz (x.2.f.map bH)]:=by
 rw [<-IC]; exact qA (row:=bH) h p
theorem aHE:Meets Tryz.prog 119 ftFn1.sp:=by
 refine aE Tryz.func119 aKY 2 (by rw [Tryz.ntmps119]; decide) (aB sU (aB NJ (aA _))) P2 ?_
 rintro av H K ⟨⟨h,rfl⟩,hK⟩
 obtain ⟨u,l,rfl,hu,hus,hl,hlo⟩:=pF h
 replace hK:K (bS (dI u.fs l)) []:=by
  have:ftFn1.val [.va (.gs (aR u)),.va (.c1 (.fz (l.map bH)))]=bA (dI u.fs l):=by simp -dsimp only [go_sem]
  rw [this] at hK; exact hK
 clear h
 have fin:∀ (b:Bool) (R:Hp),dI u.fs l=b->W.Fin 0 K (bS b) R:=fun b R h=>by
  rw [h] at hK; exact .sel [] (by simp) (by simp) rfl (.done (by simpa [go_sem] using hK))
 clear hK
 have hfl:=hu.len
 generalize hR:u.fs.all (fun f=>f.opt || lB l f.num)=R2
 have hF:dI u.fs l=(ftA u.fs none l && R2):=by rw [<-hR]; rfl
 rw [hF] at fin
 generalize hR0:(ftA u.fs none l && R2)=R0 at fin
 clear hF
 simp (maxSteps:=1000000) -dsimp only [go_sem,aR,XP,X9]
 refine aK (α:=Nat) (fun i=>[(1,.va (.c1 (.fz (l.map bH)))),(2,.va (.c1 (.pt 0 0))),(11,.va (.c1 (.fz (l.map bH)))),(12,iS .i64 l.length),(13,iS .i64 i)]) (fun _=>[.cells (aR u) 95])
  (fun i=>i<=l.length/\(ftA u.fs (wG l i) (l.drop i) && R2)=R0) (fun i=>l.length - i) 0 1 ⟨Nat.zero_le _,hR0⟩ ?_ ?_ ?_
 · simp -dsimp only [go_sem]<;>simp
 · simp -dsimp only [go_sem,aR]<;>simp
 rintro i ⟨hi,ho⟩
 rcases bF i l.length with hlt | hge
 · have hg:decide ((i:Int) < (l.length:Int))=true:=by simp; omega
   obtain ⟨x,hx⟩:∃ t,l[i]? = some t:=⟨_,a7 hlt⟩
   have q1:=oJ hx
   have hdr:l.drop i=x :: l.drop (i + 1):=by
    obtain ⟨h,rfl⟩:=bC.1 hx
    exact List.drop_eq_getElem_cons h
   have hpv:wG l (i + 1)=some x.1:=by rw [wG,hx]; rfl
   rw [hdr,wW,<-hpv] at ho
   simp (maxSteps:=1000000) -dsimp only [go_sem,hg,↓q1,aR]
   refine ⟨by omega,aD rfl (.done ?_)⟩
   simp (maxSteps:=1000000) -dsimp only [go_sem,CX]
   refine KT (t:=u) hu hus ?_
   cases hf:fF u.fs x.1 with
   | none=>
    rw [hf] at ho
    simp (maxSteps:=1000000) -dsimp only [go_sem,C2,Option.getD_none,Option.isSome_none]
    refine aD rfl (.done ?_)
    simp (maxSteps:=1000000) -dsimp only [go_sem,m5,Bool.false_and]
    exact fin _ _ ho.symm
   | some g=>
    rw [hf,Option.isSome_some,Bool.true_and] at ho
    simp (maxSteps:=1000000) -dsimp only [go_sem,aY,Option.getD_some,Option.isSome_some]
    refine aD rfl (.done ?_)
    cases hz:decide ((0:Int) < (i:Int)) with
    | false=>
     obtain rfl:i=0:=by have:=of_decide_eq_false hz; omega
     simp (maxSteps:=1000000) -dsimp only [go_sem,m5,hz]
     refine ⟨by omega,aC (0 + 1) 1 ⟨by omega,ho⟩ (by omega) ?_ ?_⟩
     · simp -dsimp only [go_sem]<;>simp
     · simp -dsimp only [go_sem,aR]<;>simp [aR]
    | true=>
     have hz':=of_decide_eq_true hz
     obtain ⟨y,hy⟩:∃ t,l[i - 1]? = some t:=⟨_,a7 (by omega)⟩
     have hti:((i:Int) - 1).toNat=i - 1:=by omega
     have q2:=fun p=>H3 (n:=(i:Int) - 1) (x:=y) (by rw [hti]; exact hy) p
     have hpi:wG l i=some y.1:=by
      match i,hz',hy with
      | j + 1,_,hy=>rw [wG]; rw [show j + 1 - 1=j by omega] at hy; rw [hy]; rfl
     rw [hpi,YL] at ho
     have f1:(0<=(i:Int) - 1)=True:=eq_true (by omega)
     have f2:((i:Int) - 1 < (l.length:Int))=True:=eq_true (by omega)
     cases hc:decide (x.1<=y.1) with
     | true=>
      have:decide (y.1 < x.1)=false:=by have:=of_decide_eq_true hc; simp; omega
      rw [this] at ho
      simp (maxSteps:=1000000) -dsimp only [go_sem,m5,hz,↓q2,hc,f1,f2]
      exact ⟨by omega,fin _ _ ho.symm⟩
     | false=>
      have:decide (y.1 < x.1)=true:=by have:=of_decide_eq_false hc; simp; omega
      rw [this,Bool.true_and] at ho
      simp (maxSteps:=1000000) -dsimp only [go_sem,m5,hz,↓q2,hc,f1,f2]
      refine ⟨by omega,by omega,aC (i + 1) 1 ⟨by omega,ho⟩ (by omega) ?_ ?_⟩
      · simp -dsimp only [go_sem]<;>simp
      · simp -dsimp only [go_sem,aR]<;>simp [aR]
 · have hg:decide ((i:Int) < (l.length:Int))=false:=by simp; omega
   obtain rfl:i=l.length:=by omega
   rw [List.drop_length,CO,Bool.true_and] at ho
   simp (maxSteps:=1000000) -dsimp only [go_sem,hg,aR]
   refine aD rfl (.done ?_)
   simp (maxSteps:=1000000) -dsimp only [go_sem,C5]
   clear hi hge hg hR0
   rw [<-hR] at ho
   clear hR
   refine aK (α:=Nat) (fun i=>[(1,.va (.c1 (.fz (l.map bH)))),(2,.va (.c1 (.pt 0 0))),(44,.va (.c1 (.fz (u.fs.map aY)))),(45,iS .i64 u.fs.length),(46,iS .i64 i)]) (fun _=>[.cells (aR u) 95])
    (fun i=>i<=u.fs.length/\(u.fs.drop i).all (fun f=>f.opt || lB l f.num)=R0) (fun i=>u.fs.length - i) 0 1 ⟨Nat.zero_le _,ho⟩ ?_ ?_ ?_
   · simp -dsimp only [go_sem]<;>simp
   · simp -dsimp only [go_sem,aR]<;>simp
   clear ho
   rintro i ⟨hi,ho⟩
   rcases bF i u.fs.length with hlt | hge
   · have hg:decide ((i:Int) < (u.fs.length:Int))=true:=by simp; omega
     obtain ⟨f,hx⟩:∃ t,u.fs[i]? = some t:=⟨_,a7 hlt⟩
     have q1:=aV (row:=aY) hx
     rw [nX hx] at ho
     simp (maxSteps:=1000000) -dsimp only [go_sem,hg,↓q1,aR,aY]
     refine ⟨by omega,aD rfl (.done ?_)⟩
     cases hop:f.opt with
     | true=>
      rw [hop,Bool.true_or,Bool.true_and] at ho
      simp (maxSteps:=1000000) -dsimp only [go_sem,rA]
      refine ⟨by omega,aC (i + 1) 1 ⟨by omega,ho⟩ (by omega) ?_ ?_⟩
      · simp -dsimp only [go_sem]<;>simp
      · simp -dsimp only [go_sem,aR]<;>simp [aR]
     | false=>
      rw [hop,Bool.false_or] at ho
      have cu:=fun K h=>aCU (l:=l) (f:=f) (K:=K) (by omega) h
      rw [aY,hop] at cu
      simp (maxSteps:=1000000) -dsimp only [go_sem,rA]
      refine cu _ ?_
      cases hc:lB l f.num with
      | false=>
       rw [hc,Bool.false_and] at ho
       simp (maxSteps:=1000000) -dsimp only [go_sem]
       exact fin _ _ ho.symm
      | true=>
       rw [hc,Bool.true_and] at ho
       simp (maxSteps:=1000000) -dsimp only [go_sem]
       refine ⟨by omega,aC (i + 1) 1 ⟨by omega,ho⟩ (by omega) ?_ ?_⟩
       · simp -dsimp only [go_sem]<;>simp
       · simp -dsimp only [go_sem,aR]<;>simp [aR]
   · have hg:decide ((i:Int) < (u.fs.length:Int))=false:=by simp; omega
     obtain rfl:i=u.fs.length:=by omega
     rw [pK] at ho
     simp (maxSteps:=1000000) -dsimp only [go_sem,hg,aR]
     exact fin _ _ ho.symm
abbrev ZY (s:Sc) (t:Ty) (v:Vl):Value:=.int .i64 (jQ s t v)
abbrev sJ (N:Nat):Sc->Ty->Vl->Prop:=fun _ _ v=>v.h<=N
def NG (s:Sc) (t:Ty) (v:Vl):Int:=bif v.n != 0 || !(bl v.s == []) || decide (0 < (v.f.length:Int)) then 13 else bif decide (t.s < (v.l.length:Int)) then 3 else kV s (t.e.headD default) v.l
def O7 (s:Sc) (t:Ty) (v:Vl):Int:=bif v.n != 0 || !(bl v.s == []) || decide (0 < (v.l.length:Int)) || !(dI ((fS s.ss t.n).getD default).fs v.f) then 13 else kF s ((fS s.ss t.n).getD default).fs v.f
theorem eJ {t:Ty} (h:TyOk t):fH [.vl (.int .i64 t.k),.vl (.int .i64 t.s),.vl (.string t.n),.fz (t.e.map aQ)]:=by rw [<-aJ]; exact eE h
theorem iV (t:Ty):C.ty [.vl (.int .i64 t.k),.vl (.int .i64 t.s),.vl (.string t.n),.fz (t.e.map aQ)]=t:=by rw [<-aJ,eT]
theorem fV {s:Sc} (h:s.fit):kU [.vl (.int .i64 s.ver),.fz (s.es.map bG),.fz (s.ss.map aR)]:=fO h
theorem jS (s:Sc):C.sc [.vl (.int .i64 s.ver),.fz (s.es.map bG),.fz (s.ss.map aR)]=s:=fB s
theorem CL {ss:List St} {es:List En} {t:Ty} (h:valF ss es t=true) (k:(t.k == 5)=true):∃ u,t.e=[u]/\valF ss es u=true:=by
 cases t with
 | mk k0 s n e=>
  obtain rfl:k0=5:=by have k:(k0 == 5)=true:=k; simpa using k
  exact xJ h
theorem aEF (N:Nat) (hc:Meets Tryz.prog 53 (eL (sJ N) ZY).sp):Meets Tryz.prog 93 (eL (fun s t v=>valF s.ss s.es t=true/\(t.k == 5)=true/\v.h<=N + 1) fun s t v=>.int .i64 (NG s t v)).sp:=by
 refine aE Tryz.func93 aS9 3 (by rw [Tryz.ntmps93]; decide) (aG hc (aA _)) gK ?_
 intro av H K h
 obtain ⟨s,t,v,rfl,rfl,hs,ht,hv,⟨hp,hk,hh⟩,hK⟩:=eW h
 clear h
 have fin:∀ (z:Int) (R:Hp),NG s t v=z->W.Fin 0 K (iS .i64 z) R:=fun z R h=>by
  rw [h] at hK; exact .sel [] (by simp) (by simp) rfl (.done (by simpa [go_sem] using hK))
 clear hK
 unfold NG at fin
 obtain ⟨u,he,hu⟩:=CL hp hk
 have huo:TyOk u:=ht.e u (by rw [he]; simp)
 have hll:=hv.ll
 rw [he] at fin
 simp only [List.headD_cons] at fin
 cases h0:(v.n != 0 || !(bl v.s == []) || decide (0 < (v.f.length:Int))) with
 | true=>
  rw [h0] at fin
  cases h1:v.n != 0<;>cases h2:bl v.s == []<;>cases h3:decide (0 < (v.f.length:Int)) <;>
  first
   | (exfalso; rw [h1,h2,h3] at h0; exact absurd h0 (by decide))
   | (simp (maxSteps:=1000000) -dsimp only [go_sem,aF,aJ t,aM v,OP,M3,h1,h2,h3]
      exact fin _ _ rfl)
 | false=>
 rw [h0] at fin
 obtain ⟨h1,h2,h3⟩:(v.n != 0)=false/\(bl v.s == [])=true/\decide (0 < (v.f.length:Int))=false:=by
  simp only [Bool.or_eq_false_iff,Bool.not_eq_false'] at h0; exact ⟨h0.1.1,h0.1.2,h0.2⟩
 cases h4:decide (t.s < (v.l.length:Int)) with
 | true=>
  rw [h4] at fin
  simp (maxSteps:=1000000) -dsimp only [go_sem,aF,aJ t,aM v,OP,M3,h1,h2,h3,h4]
  exact fin _ _ rfl
 | false=>
 rw [h4] at fin
 simp only [aH] at fin
 simp (maxSteps:=1000000) -dsimp only [go_sem,aF,aJ t,aM v,OP,M3,h1,h2,h3,h4]
 refine aK (α:=Nat) (fun i=>[(3,.va (.c1 (.pt 0 0))),(4,.va (.c1 (.pt 1 0))),(5,.va (.c1 (.pt 2 0))),(33,.va (.c1 (.fz (v.l.map a8)))),(34,iS .i64 v.l.length),(35,iS .i64 i)]) (fun _=>[.cells (aF s) 105,.cells [.vl (.int .i64 t.k),.vl (.int .i64 t.s),.vl (.string t.n),.fz (t.e.map aQ)] 28,.cells (bP v) 32])
  (fun i=>i<=v.l.length/\kV s u (v.l.drop i)=kV s u v.l) (fun i=>v.l.length - i) 0 3 ⟨Nat.zero_le _,rfl⟩ ?_ ?_ ?_
 · simp -dsimp only [go_sem]<;>simp
 · simp -dsimp only [go_sem,bP,aF]<;>simp
 rintro i ⟨hi,ho⟩
 rcases bF i v.l.length with hlt | hge
 · have hg:decide ((i:Int) < (v.l.length:Int))=true:=by simp; omega
   obtain ⟨x,hx⟩:∃ t,v.l[i]? = some t:=⟨_,a7 hlt⟩
   have q1:=OU hx
   have hxm:=bT hx
   have k1:=dB (hv.l x hxm)
   have k2:=gW x
   have k3:x.h<=N:=by have:=Vl.h_l hxm; omega
   have hdr:v.l.drop i=x :: v.l.drop (i + 1):=by
    obtain ⟨h,rfl⟩:=bC.1 hx
    exact List.drop_eq_getElem_cons h
   have k4:=eJ huo
   have k5:=iV u
   have k6:=fV hs
   have k7:=jS s
   rw [hdr,kV] at ho
   rw [he]
   cases h5:jQ s u x != 0 with
   | true=>
    rw [h5,aN] at ho
    simp (maxSteps:=1000000) -dsimp only [go_sem,hg,↓q1,bP,aF,aJ u,k1,k2,k3,k4,k5,k6,k7,h5,List.getElem?_cons_zero,aI,forall_eq']
    exact ⟨by omega,by omega,fin _ _ ho.symm⟩
   | false=>
    rw [h5,aH] at ho
    simp (maxSteps:=1000000) -dsimp only [go_sem,hg,↓q1,bP,aF,aJ u,k1,k2,k3,k4,k5,k6,k7,h5,List.getElem?_cons_zero,aI,forall_eq']
    refine ⟨by omega,by omega,by omega,aC (i + 1) 3 ⟨by omega,ho⟩ (by omega) ?_ ?_⟩
    · simp -dsimp only [go_sem]<;>simp
    · simp -dsimp only [go_sem,bP,aF]<;>simp [aJ u]
 · have hg:decide ((i:Int) < (v.l.length:Int))=false:=by simp; omega
   obtain rfl:i=v.l.length:=by omega
   rw [List.drop_length,kV] at ho
   simp (maxSteps:=1000000) -dsimp only [go_sem,hg,bP,aF]
   exact fin _ _ ho.symm
theorem I3:TyOk default:=.mk (by unfold cD; decide) (by unfold cD; decide) (by decide) (by decide) (fun _ h=>by cases h)
theorem aDW {fs:List Fl} {u:St} (hu:u.ok) (e:fs=u.fs) (k:Int):TyOk ((fF fs k).getD default).ty:=by
 subst e
 cases hf:fF u.fs k with
 | none=>exact I3
 | some g=>exact (hu.fs g (List.mem_of_find?_eq_some hf)).ty
theorem SM (N:Nat) (hc:Meets Tryz.prog 53 (eL (sJ N) ZY).sp):Meets Tryz.prog 94 (eL (fun _ _ v=>v.h<=N + 1) fun s t v=>.int .i64 (O7 s t v)).sp:=by
 refine aE Tryz.func94 aRD 3 (by rw [Tryz.ntmps94]; decide) (aG hc (aB nU (aG aHE (aB sU (aA _))))) gK ?_
 intro av H K h
 obtain ⟨s,t,v,rfl,rfl,hs,ht,hv,hh,hK⟩:=eW h
 clear h
 have fin:∀ (z:Int) (R:Hp),O7 s t v=z->W.Fin 0 K (iS .i64 z) R:=fun z R h=>by
  rw [h] at hK; exact .sel [] (by simp) (by simp) rfl (.done (by simpa [go_sem] using hK))
 clear hK
 unfold O7 at fin
 have hlf:=hv.lf
 have kS:=JO hs t.n
 have kE:=aAF hv
 simp (maxSteps:=1000000) -dsimp only [go_sem,aF,aJ t,aM v,aEK,aDV]
 refine iR (s:=s) hs ?_
 generalize (fS s.ss t.n).getD default=u at *
 obtain ⟨huo,hus⟩:u.ok/\∀ f ∈ u.fs,TySm f.ty:=by
  obtain ⟨w,hw,h1,h2⟩:=kS
  obtain rfl:=vC hw
  exact ⟨h1,h2⟩
 have kd:=QM u
 have kv:=aCO v.f
 rw [aR] at kS kd
 simp (maxSteps:=1000000) -dsimp only [go_sem,aR]
 refine aD rfl (.done ?_)
 cases h0:(v.n != 0 || !(bl v.s == []) || decide (0 < (v.l.length:Int)) || !(dI u.fs v.f)) with
 | true=>
  rw [h0] at fin
  cases h1:v.n != 0<;>cases h2:bl v.s == []<;>cases h3:decide (0 < (v.l.length:Int))<;>cases h4:dI u.fs v.f <;>
  first
   | (exfalso; rw [h1,h2,h3,h4] at h0; exact absurd h0 (by decide))
   | (simp (maxSteps:=1000000) -dsimp only [go_sem,AN,h1,h2,h3,h4,kS,kE,kd]
      exact fin _ _ rfl)
 | false=>
 rw [h0] at fin
 simp only [aH] at fin
 obtain ⟨h1,h2,h3,h4⟩:(v.n != 0)=false/\(bl v.s == [])=true/\decide (0 < (v.l.length:Int))=false/\dI u.fs v.f=true:=by
  simp only [Bool.or_eq_false_iff,Bool.not_eq_false'] at h0; exact ⟨h0.1.1.1,h0.1.1.2,h0.1.2,h0.2⟩
 simp (maxSteps:=1000000) -dsimp only [go_sem,AN,h1,h2,h3,h4,kS,kE,kd]
 refine aK (α:=Nat) (fun i=>[(3,.va (.c1 (.pt 0 0))),(4,.va (.c1 (.pt 1 0))),(5,.va (.c1 (.pt 2 0))),(7,.va (.c1 (.pt 3 0))),(44,.va (.c1 (.fz (v.f.map bH)))),(45,iS .i64 v.f.length),(46,iS .i64 i)]) (fun _=>[.cells (aF s) 105,.cells [.vl (.int .i64 t.k),.vl (.int .i64 t.s),.vl (.string t.n),.fz (t.e.map aQ)] 28,.cells (bP v) 32,.cells (aR u) 95])
  (fun i=>i<=v.f.length/\kF s u.fs (v.f.drop i)=kF s u.fs v.f) (fun i=>v.f.length - i) 0 4 ⟨Nat.zero_le _,rfl⟩ ?_ ?_ ?_
 · simp -dsimp only [go_sem]<;>simp
 · simp -dsimp only [go_sem,bP,aF,aR]<;>simp
 rintro i ⟨hi,ho⟩
 rcases bF i v.f.length with hlt | hge
 · have hg:decide ((i:Int) < (v.f.length:Int))=true:=by simp; omega
   obtain ⟨x,hx⟩:∃ t,v.f[i]? = some t:=⟨_,a7 hlt⟩
   have q1:=oJ hx
   have hxm:=bT hx
   have k1:=dB (hv.f x hxm)
   have k2:=gW x.2
   have k3:x.2.h<=N:=by have:=Vl.h_f hxm; omega
   have hdr:v.f.drop i=x :: v.f.drop (i + 1):=by
    obtain ⟨h,rfl⟩:=bC.1 hx
    exact List.drop_eq_getElem_cons h
   have k6:=fV hs
   have k7:=jS s
   rw [hdr,HQ] at ho
   have hgo:=aDW huo rfl x.1
   simp (maxSteps:=1000000) -dsimp only [go_sem,hg,↓q1,bP,aF,aR]
   refine ⟨by omega,aD rfl (.done ?_)⟩
   simp (maxSteps:=1000000) -dsimp only [go_sem,I2]
   refine KT (t:=u) huo hus ?_
   generalize (fF u.fs x.1).getD default=g at *
   have k4:=eJ hgo
   have k5:=iV g.ty
   simp (maxSteps:=1000000) -dsimp only [go_sem,aY]
   refine aD rfl (.done ?_)
   simp (maxSteps:=1000000) -dsimp only [go_sem,GH,k1,k2,k3,k4,k5,k6,k7]
   refine aD rfl (.done ?_)
   cases h5:jQ s g.ty x.2 != 0 with
   | true=>
    rw [h5,aN] at ho
    simp (maxSteps:=1000000) -dsimp only [go_sem,yU,h5]
    exact fin _ _ ho.symm
   | false=>
    rw [h5,aH] at ho
    simp (maxSteps:=1000000) -dsimp only [go_sem,yU,h5]
    refine ⟨by omega,aC (i + 1) 4 ⟨by omega,ho⟩ (by omega) ?_ ?_⟩
    · simp -dsimp only [go_sem]<;>simp
    · simp -dsimp only [go_sem,bP,aF,aR]<;>simp [bP,aF,aR]
 · have hg:decide ((i:Int) < (v.f.length:Int))=false:=by simp; omega
   obtain rfl:i=v.f.length:=by omega
   rw [List.drop_length,kF] at ho
   simp (maxSteps:=1000000) -dsimp only [go_sem,hg,bP,aF,aR]
   exact fin _ _ ho.symm
theorem B8:∀ N,Meets Tryz.prog 53 (eL (sJ N) ZY).sp
 | 0=>⟨by kernel_rfl,by rintro xs vs E ro w K _ _ _ h; obtain ⟨_,_,v,_,_,_,_,_,h,_⟩:=eW h; have:=v.h_pos; have h:v.h<=0:=h; omega⟩
 | N + 1=>by
  refine aE Tryz.func53 aTF 3 (by rw [Tryz.ntmps53]; decide) (aG wC (aG VO (aG aIJ (aG (aEF N (B8 N)) (aG (SM N (B8 N)) (aA _)))))) gK ?_
  intro av H K h
  obtain ⟨s,t,v,rfl,rfl,hs,ht,hv,hh,hK⟩:=eW h
  clear h
  have hh:v.h<=N + 1:=hh
  have fin:∀ (z:Int) (R:Hp),jQ s t v=z->W.Fin 0 K (iS .i64 z) R:=fun z R h=>by
   have hK:K (iS .i64 (jQ s t v)) []:=hK
   rw [h] at hK; exact .sel [] (by simp) (by simp) rfl (.done (by simpa [go_sem] using hK))
  clear hK
  rw [AF] at fin
  have k1:=dB hv
  have k2:=gW v
  have k4:=eJ ht
  have k5:=iV t
  have k6:=fV hs
  have k7:=jS s
  cases h1:valF s.ss s.es t with
  | false=>
   rw [h1] at fin
   simp (maxSteps:=1000000) -dsimp only [go_sem,aF,aJ t,aM v,yK,yJ,k4,k5,k6,k7,h1]
   exact fin _ _ rfl
  | true=>
  cases h2:v.k != t.k with
  | true=>
   rw [h1,h2] at fin
   simp (maxSteps:=1000000) -dsimp only [go_sem,aF,aJ t,aM v,yK,yJ,k4,k5,k6,k7,h1,h2]
   exact fin _ _ rfl
  | false=>
  rw [h1,h2] at fin
  simp only [Bool.not_true,Bool.or_self,aH] at fin
  cases h4:t.k == 4 with
  | true=>
   rw [h4,aN] at fin
   simp (maxSteps:=1000000) -dsimp only [go_sem,aF,aJ t,aM v,yK,yJ,k1,k2,k4,k5,k6,k7,h1,h2,h4,List.all_cons,List.all_nil]
   exact fin _ _ rfl
  | false=>
  rw [h4,aH] at fin
  cases h5:t.k == 5 with
  | true=>
   rw [h5,aN] at fin
   simp (maxSteps:=1000000) -dsimp only [go_sem,aF,aJ t,aM v,yK,yJ,k1,k2,k4,k5,k6,k7,h1,h2,h4,h5,hh,List.all_cons,List.all_nil]
   exact fin _ _ rfl
  | false=>
  rw [h5,aH] at fin
  cases h6:t.k == 6 with
  | true=>
   rw [h6,aN] at fin
   simp (maxSteps:=1000000) -dsimp only [go_sem,aF,aJ t,aM v,yK,yJ,k1,k2,k4,k5,k6,k7,h1,h2,h4,h5,h6,hh,List.all_cons,List.all_nil]
   exact fin _ _ rfl
  | false=>
  rw [h6,aH] at fin
  simp (maxSteps:=1000000) -dsimp only [go_sem,aF,aJ t,aM v,yK,yJ,k1,k2,k4,k5,k6,k7,h1,h2,h4,h5,h6,List.all_cons,List.all_nil]
  exact fin _ _ rfl
def f0 (s:Sc) (t:Ty) (v:Vl):Int:=bif decide (6 < sX 7 v) then 9 else jQ s t v
theorem aCK:Meets Tryz.prog 53 (eL (fun _ _ _=>True) ZY).sp:=eQ 0 B8 fun av H K h=>by
 obtain ⟨s,t,v,rfl,rfl,hs,ht,hv,_,hK⟩:=eW h
 refine ⟨v.h,⟨⟨fO hs,eE ht,DG hv,?_⟩,rfl⟩,?_⟩
 · show (C.vv (a8 v)).h<=v.h; rw [lX]; exact Nat.le_refl _
 · simpa -dsimp only [go_sem] using hK
theorem DA:Meets Tryz.prog 23 (eL (fun _ _ _=>True) fun s t v=>.int .i64 (f0 s t v)).sp:=by
 refine aE Tryz.func23 aRF 3 (by rw [Tryz.ntmps23]; decide) (aG (MU 8) (aG aCK (aA _))) gK ?_
 intro av H K h
 obtain ⟨s,t,v,rfl,rfl,hs,ht,hv,_,hK⟩:=eW h
 clear h
 have fin:∀ (z:Int) (R:Hp),f0 s t v=z->W.Fin 0 K (iS .i64 z) R:=fun z R h=>by
  rw [h] at hK; exact .sel [] (by simp) (by simp) rfl (.done (by simpa [go_sem] using hK))
 clear hK
 unfold f0 at fin
 have k1:=dB hv
 have k2:=gW v
 have k4:=eJ ht
 have k5:=iV t
 have k6:=fV hs
 have k7:=jS s
 have e8:((6:Int)=((8:Nat):Int) - 2)=True:=by decide
 have e9:jC 8 v=sX 7 v:=rfl
 cases h1:decide (6 < sX 7 v) with
 | true=>
  rw [h1] at fin
  simp (maxSteps:=1000000) -dsimp only [go_sem,aF,aJ t,aM v,VI,TV,k1,k2,e8,e9,h1]
  exact fin _ _ rfl
 | false=>
  rw [h1] at fin
  simp (maxSteps:=1000000) -dsimp only [go_sem,aF,aJ t,aM v,VI,TV,k1,k2,k4,k5,k6,k7,e8,e9,h1]
  exact fin _ _ rfl
end Go.Proofs.YtkpohmhenegkiaaGreatDoor
