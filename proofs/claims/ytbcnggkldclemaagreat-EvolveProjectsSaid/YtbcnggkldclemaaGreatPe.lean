/- Lemmas and walks for the proof. -/
import Derived.Test.YtbcnggkldclemaaGreatPd
import Derived.Test.YtbcnggkldclemaaGreatProg
import Derived.WalkKit
import Derived.Sort.Grow
import Derived.Lib.Bytealg
import Derived.Deep.Draws
import Derived.StillTail
import Derived.StillTactics
import Derived.Shelf.SlSortCmp.NoneTotal
import Derived.Shelf.Small.Strs
import Derived.ProofKit
import Derived.OpenShut
import Derived.ChangeStays
import Derived.Deep.Slices
import Derived.JoinedCond
import Derived.Shelf.Slices.Clone
import Derived.KernelRfl
namespace Go.Proofs.YtbcnggkldclemaaGreat
open Go.W
abbrev isH (l:List Is):Hp:=[.cells [.sl 1 l.length] 64,.row (l.map isC) 50 3]
def adSp:W.Spec:=fun av H K=>∃ (k n:Int) (t:ByteArray) (l:List Is),av=[.va (.c1 (.pt 0 0)),iS .i64 k,iS .i64 n,tS t]/\H=isH l/\l.length<=1000000/\K (.tu []) (isH (addF l ⟨k,n,t⟩))
theorem ad_use {k n:Int} {t:ByteArray} {l:List Is} {K:S->Hp->Prop} (h:l.length<=1000000) (hK:K (.tu []) (isH (addF l ⟨k,n,t⟩))):adSp [.va (.c1 (.pt 0 0)),iS .i64 k,iS .i64 n,tS t] (isH l) K:=⟨k,n,t,l,rfl,rfl,h,hK⟩
set_option maxRecDepth 100000 in
set_option maxHeartbeats 1000000 in
theorem mAdd:Meets Tryz.prog 22 adSp:=by
  refine meets_fn Tryz.func22 ok22 4 (by rw [Tryz.ntmps22]; decide) (meetsAll_nil _) (fun av H K h=>by obtain ⟨_,_,_,_,rfl,_⟩:=h; rfl) ?_
  rintro av H K ⟨k,n,t,l,rfl,rfl,hl,hK⟩
  unfold addF at hK
  simp (maxSteps:=1000000) -dsimp only [go_sem,pc22,rs22]
  refine vc_loop (α:=Nat) (fun i=>[(0,.va (.c1 (.pt 0 0))),(8,.va (.c1 (.pt 2 0))),(18,.va (.c1 (.sl 1 l.length))),(19,iS .i64 l.length),(20,iS .i64 i)]) (fun _=>[.cells [.sl 1 l.length] 64,.row (l.map isC) 50 3,.cells (isC ⟨k,n,t⟩) 50])
    (fun i=>i<=l.length/\(l.drop i).any (fun y=>decide ((⟨k,n,t⟩:Is)=y))=l.any (fun y=>decide ((⟨k,n,t⟩:Is)=y))) (fun i=>l.length - i) 0 3 ⟨Nat.zero_le _,rfl⟩ ?_ ?_ ?_
  · simp -dsimp only [go_sem]<;>simp
  · simp -dsimp only [go_sem,isC]<;>simp
  rintro i ⟨hi,ho⟩
  rcases Nat.lt_or_ge i l.length with hlt | hge
  · have hg:decide ((i:Int) < (l.length:Int))=true:=by simp; omega
    obtain ⟨y,hx⟩:∃ t,l[i]? = some t:=⟨_,List.getElem?_eq_getElem hlt⟩
    have q1:=row_rg' (row:=isC) hx
    have hdr:l.drop i=y :: l.drop (i + 1):=by
      obtain ⟨h,rfl⟩:=List.getElem?_eq_some_iff.1 hx
      exact List.drop_eq_getElem_cons h
    rw [hdr,List.any_cons] at ho
    simp (maxSteps:=1000000) -dsimp only [go_sem,hg,isC]
    have hcc:(k == y.k && (n == y.n && bl t == bl y.t))=decide ((⟨k,n,t⟩:Is)=y):=by
      rw [bl_beq,Bool.eq_iff_iff,decide_eq_true_eq,is_eq]
      simp
    refine ⟨by omega,hlt,fun z hz=>?_⟩
    rw [hx,Option.some.injEq] at hz
    subst hz
    rw [hcc]
    refine ⟨fun h1=>?_,fun h1=>⟨by omega,loop_next (i + 1) 3 ⟨by omega,?_⟩ (by omega) ?_ ?_⟩⟩
    · rw [h1,Bool.true_or] at ho
      rw [<-ho,Bool.cond_true] at hK
      refine .sel [0,1] (by simp) (by simp) rfl (.done ?_)
      simpa -dsimp [go_sem,isC,isH] using hK
    · rw [h1,Bool.false_or] at ho; exact ho
    · simp -dsimp only [go_sem]<;>simp
    · simp -dsimp only [go_sem,isC]<;>simp
  · have hg:decide ((i:Int) < (l.length:Int))=false:=by simp; omega
    obtain rfl:i=l.length:=by omega
    rw [List.drop_length,List.any_nil] at ho
    rw [<-ho,Bool.cond_false] at hK
    simp (maxSteps:=1000000) -dsimp only [go_sem,hg,isC]
    refine ⟨by omega,.sel [0,1] (by simp) (by simp) rfl (.done ?_)⟩
    simpa -dsimp [go_sem,isC,isH] using hK
end Go.Proofs.YtbcnggkldclemaaGreat
namespace Go.Proofs.YtbcnggkldclemaaGreat
open Go.W
noncomputable def wFn:Fun:=⟨sPre,wdVal,fun av h=>by obtain ⟨a,b,rfl,_⟩:=sPre_open h; trivial⟩
attribute [go_sem] wFn
theorem mWidens:Meets Tryz.prog 51 wFn.sp:=meets_all 0 mWidens' fun av H K ⟨⟨h,e⟩,hK⟩=>by
  obtain ⟨a,b,rfl,ha,hb⟩:=sPre_open h
  exact ⟨a.h,⟨⟨⟨isTy_mk ha,isTy_mk hb,by rw [ty_dec]; exact Nat.le_refl _⟩,e⟩,hK⟩⟩
structure StG (a:St):Prop where
  ok:a.ok
  len:a.fs.length<=1000
  sm:∀ f ∈ a.fs,TySm f.ty
def iuSpS:W.Spec:=fun av H K=>∃ (nm:ByteArray) (a b:St) (l:List Is),av=[.va (.c1 (.pt 0 0)),tS nm,.va (.gs (stC a)),.va (.gs (stC b))]/\H=isH l/\StG a/\StG b/\l.length<=900000/\K (.tu []) (isH (addA l (cmpS nm a b)))
theorem ius_use {nm:ByteArray} {a b:St} {l:List Is} {K:S->Hp->Prop} (h1:StG a) (h2:StG b) (h3:l.length<=900000) (hK:K (.tu []) (isH (addA l (cmpS nm a b)))):iuSpS [.va (.c1 (.pt 0 0)),tS nm,.va (.gs (stC a)),.va (.gs (stC b))] (isH l) K:=⟨nm,a,b,l,rfl,rfl,h1,h2,h3,hK⟩
theorem fm_next {α β:Type} {l:List α} {i:Nat} {x:α} (h:l[i]? = some x) (f:α->List β):(l.take (i + 1)).flatMap f=(l.take i).flatMap f ++ f x:=by rw [take_next h]; simp
theorem fm_take_le {α β:Type} {f:α->List β} {k:Nat} (h:∀ a,(f a).length<=k) (l:List α) (i:Nat):((l.take i).flatMap f).length<=l.length * k:=Nat.le_trans (fm_le fun a _=>h a) (Nat.mul_le_mul_right k (by rw [List.length_take]; omega))
theorem flC_isTy {f:Fl} (h:f.ok):isTy [.vl (.int .i64 f.ty.k),.vl (.int .i64 f.ty.s),.vl (.string f.ty.n),.fz (f.ty.e.map tyC)]:=by rw [<-tyC_eq]; exact isTy_mk h.ty
theorem flC_dTy (f:Fl):C.ty [.vl (.int .i64 f.ty.k),.vl (.int .i64 f.ty.s),.vl (.string f.ty.n),.fz (f.ty.e.map tyC)]=f.ty:=by rw [<-tyC_eq,ty_dec]
set_option maxRecDepth 100000 in
set_option maxHeartbeats 4000000 in
theorem mStructs:Meets Tryz.prog 23 iuSpS:=by
  refine meets_fn Tryz.func23 ok23 4 (by rw [Tryz.ntmps23]; decide) (meetsAll_s mAdd (meetsAll_s mFieldOfP (meetsAll_f mWidens (meetsAll_nil _)))) (fun av H K h=>by obtain ⟨_,_,_,_,rfl,_⟩:=h; rfl) ?_
  rintro av H K ⟨nm,a,b,l,rfl,rfl,ga,gb,hl,hK⟩
  have hla:=ga.len
  have hlb:=gb.len
  simp (maxSteps:=1000000) -dsimp only [go_sem,stC,pc23,rs23]
  have hbd:∀ i,(addA l ((a.fs.take i).flatMap (isA nm b))).length<=910000:=fun i=>by
    have h1:=addA_len ((a.fs.take i).flatMap (isA nm b)) l
    have h2:=fm_take_le (isA_len nm b) a.fs i
    omega
  refine vc_loop (α:=Nat) (fun i=>[(0,.va (.c1 (.pt 0 0))),(1,tS nm),(6,.va (.c1 (.pt 2 0))),(7,.va (.c1 (.pt 3 0))),(17,.va (.c1 (.fz (a.fs.map flC)))),(18,iS .i64 a.fs.length),(19,iS .i64 i)]) (fun i=>[.cells [.sl 1 (addA l ((a.fs.take i).flatMap (isA nm b))).length] 64,.row ((addA l ((a.fs.take i).flatMap (isA nm b))).map isC) 50 3,.cells (stC a) 45,.cells (stC b) 45])
    (fun i=>i<=a.fs.length) (fun i=>a.fs.length - i) 0 4 (Nat.zero_le _) ?_ ?_ ?_
  · simp -dsimp only [go_sem]<;>simp
  · simp -dsimp only [go_sem,stC]<;>simp [addA]
  intro i hi
  have hbi:=hbd i
  rcases Nat.lt_or_ge i a.fs.length with hlt | hge
  · have hg:decide ((i:Int) < (a.fs.length:Int))=true:=by simp; omega
    obtain ⟨f,hx⟩:∃ t,a.fs[i]? = some t:=⟨_,List.getElem?_eq_getElem hlt⟩
    have q1:=row_rg' (row:=flC) hx
    have hfm:=List.mem_of_getElem? hx
    have hnx:addA l ((a.fs.take (i + 1)).flatMap (isA nm b))=addA (addA l ((a.fs.take i).flatMap (isA nm b))) (isA nm b f):=by rw [fm_next hx,addA_app]
    generalize hL:addA l ((a.fs.take i).flatMap (isA nm b))=L at *
    have hft:=flC_isTy (ga.ok.fs f hfm)
    have hfd:=flC_dTy f
    simp (maxSteps:=1000000) -dsimp only [go_sem,hg,↓q1,stC,flC]
    refine ⟨by omega,fop_use (t:=b) gb.ok gb.sm ?_⟩
    cases hfo:fF b.fs f.num with
    | none=>
      cases ho:f.opt with
      | true=>
        have hv:isA nm b f=[]:=by unfold isA; rw [hfo]; simp [ho]
        rw [hv,addA_nil] at hnx
        simp (maxSteps:=1000000) -dsimp only [go_sem,Option.getD_none,Option.isSome_none,flC_def]
        refine ⟨by omega,loop_next (i + 1) 4 (by omega) (by omega) ?_ ?_⟩
        · simp -dsimp only [go_sem]<;>simp
        · simp -dsimp only [go_sem,stC,hnx]<;>simp
      | false=>
        have hv:isA nm b f=[⟨2,f.num,nm⟩]:=by unfold isA; rw [hfo]; simp [ho]
        rw [hv,addA_one] at hnx
        simp (maxSteps:=1000000) -dsimp only [go_sem,Option.getD_none,Option.isSome_none,flC_def]
        refine ad_use (l:=L) (by omega) ?_
        simp (maxSteps:=1000000) -dsimp only [go_sem]
        refine ⟨by omega,loop_next (i + 1) 4 (by omega) (by omega) ?_ ?_⟩
        · simp -dsimp only [go_sem]<;>simp
        · simp -dsimp only [go_sem,stC,hnx]<;>simp
    | some g=>
      have hgm:=(fF_some hfo).1
      have hgt:=flC_isTy (gb.ok.fs g hgm)
      have hgd:=flC_dTy g
      have hv:isA nm b f=(bif widF f.ty g.ty then [] else [⟨1,f.num,nm⟩]) ++ (bif f.opt == g.opt then [] else [⟨3,f.num,nm⟩]):=by unfold isA; rw [hfo]
      rw [hv] at hnx
      have eo:(f.opt != g.opt)=!(f.opt == g.opt):=rfl
      have hl1:=addF_len L ⟨1,f.num,nm⟩
      cases hw:widF f.ty g.ty with
      | true=>
        cases he:f.opt == g.opt with
        | true=>
          rw [hw,he] at hnx
          simp only [Bool.cond_true,List.append_nil,addA_nil] at hnx
          simp (maxSteps:=1000000) -dsimp only [go_sem,Option.getD_some,Option.isSome_some,flC,hft,hfd,hgt,hgd,hw,he,Bool.not_true]
          refine ⟨by omega,loop_next (i + 1) 4 (by omega) (by omega) ?_ ?_⟩
          · simp -dsimp only [go_sem]<;>simp
          · simp -dsimp only [go_sem,stC,hnx]<;>simp
        | false=>
          rw [hw,he] at hnx
          simp only [Bool.cond_true,Bool.cond_false,List.nil_append,addA_one] at hnx
          simp (maxSteps:=1000000) -dsimp only [go_sem,Option.getD_some,Option.isSome_some,flC,hft,hfd,hgt,hgd,hw,he,Bool.not_true,Bool.not_false]
          refine ad_use (l:=L) (by omega) ?_
          simp (maxSteps:=1000000) -dsimp only [go_sem]
          refine ⟨by omega,loop_next (i + 1) 4 (by omega) (by omega) ?_ ?_⟩
          · simp -dsimp only [go_sem]<;>simp
          · simp -dsimp only [go_sem,stC,hnx]<;>simp
      | false=>
        cases he:f.opt == g.opt with
        | true=>
          rw [hw,he] at hnx
          simp only [Bool.cond_true,Bool.cond_false,List.append_nil,addA_one] at hnx
          simp (maxSteps:=1000000) -dsimp only [go_sem,Option.getD_some,Option.isSome_some,flC,hft,hfd,hgt,hgd,hw,he,Bool.not_true,Bool.not_false]
          refine ad_use (l:=L) (by omega) ?_
          simp (maxSteps:=1000000) -dsimp only [go_sem]
          refine ⟨by omega,loop_next (i + 1) 4 (by omega) (by omega) ?_ ?_⟩
          · simp -dsimp only [go_sem]<;>simp
          · simp -dsimp only [go_sem,stC,hnx]<;>simp
        | false=>
          rw [hw,he] at hnx
          simp only [Bool.cond_false,List.singleton_append] at hnx
          rw [show addA L [⟨1,f.num,nm⟩,⟨3,f.num,nm⟩]=addF (addF L ⟨1,f.num,nm⟩) ⟨3,f.num,nm⟩ from rfl] at hnx
          simp (maxSteps:=1000000) -dsimp only [go_sem,Option.getD_some,Option.isSome_some,flC,hft,hfd,hgt,hgd,hw,he,Bool.not_true,Bool.not_false]
          refine ad_use (l:=L) (by omega) ?_
          simp (maxSteps:=1000000) -dsimp only [go_sem]
          refine ad_use (l:=addF L ⟨1,f.num,nm⟩) (by omega) ?_
          simp (maxSteps:=1000000) -dsimp only [go_sem]
          refine ⟨by omega,loop_next (i + 1) 4 (by omega) (by omega) ?_ ?_⟩
          · simp -dsimp only [go_sem]<;>simp
          · simp -dsimp only [go_sem,stC,hnx]<;>simp
  · have hg:decide ((i:Int) < (a.fs.length:Int))=false:=by simp; omega
    obtain rfl:i=a.fs.length:=by omega
    rw [List.take_length] at hbi ⊢
    have hcs:addA l (cmpS nm a b)=addA (addA l (a.fs.flatMap (isA nm b))) (b.fs.flatMap (isB nm a)):=by rw [cmpS,addA_app]
    rw [hcs] at hK
    clear hcs hbd
    generalize addA l (a.fs.flatMap (isA nm b))=L at *
    simp (maxSteps:=1000000) -dsimp only [go_sem,hg,stC]
    have hbd:∀ i,(addA L ((b.fs.take i).flatMap (isB nm a))).length<=920000:=fun i=>by
      have h1:=addA_len ((b.fs.take i).flatMap (isB nm a)) L
      have h2:=fm_take_le (isB_len nm a) b.fs i
      omega
    refine vc_loop (α:=Nat) (fun i=>[(0,.va (.c1 (.pt 0 0))),(1,tS nm),(6,.va (.c1 (.pt 2 0))),(7,.va (.c1 (.pt 3 0))),(63,.va (.c1 (.fz (b.fs.map flC)))),(64,iS .i64 b.fs.length),(65,iS .i64 i)]) (fun i=>[.cells [.sl 1 (addA L ((b.fs.take i).flatMap (isB nm a))).length] 64,.row ((addA L ((b.fs.take i).flatMap (isB nm a))).map isC) 50 3,.cells (stC a) 45,.cells (stC b) 45])
      (fun i=>i<=b.fs.length) (fun i=>b.fs.length - i) 0 4 (Nat.zero_le _) ?_ ?_ ?_
    · simp -dsimp only [go_sem]<;>simp
    · simp -dsimp only [go_sem,stC]<;>simp [addA]
    intro i hi
    have hbi:=hbd i
    rcases Nat.lt_or_ge i b.fs.length with hlt | hge
    · have hg:decide ((i:Int) < (b.fs.length:Int))=true:=by simp; omega
      obtain ⟨f,hx⟩:∃ t,b.fs[i]? = some t:=⟨_,List.getElem?_eq_getElem hlt⟩
      have q1:=row_rg' (row:=flC) hx
      have hnx:addA L ((b.fs.take (i + 1)).flatMap (isB nm a))=addA (addA L ((b.fs.take i).flatMap (isB nm a))) (isB nm a f):=by rw [fm_next hx,addA_app]
      generalize hL:addA L ((b.fs.take i).flatMap (isB nm a))=M at *
      simp (maxSteps:=1000000) -dsimp only [go_sem,hg,↓q1,stC,flC]
      refine ⟨by omega,fop_use (t:=a) ga.ok ga.sm ?_⟩
      cases hfo:fF a.fs f.num with
      | none=>
        cases ho:f.opt with
        | true=>
          have hv:isB nm a f=[]:=by unfold isB; rw [hfo]; simp [ho]
          rw [hv,addA_nil] at hnx
          simp (maxSteps:=1000000) -dsimp only [go_sem,Option.getD_none,Option.isSome_none,flC_def]
          refine ⟨by omega,loop_next (i + 1) 4 (by omega) (by omega) ?_ ?_⟩
          · simp -dsimp only [go_sem]<;>simp
          · simp -dsimp only [go_sem,stC,hnx]<;>simp
        | false=>
          have hv:isB nm a f=[⟨2,f.num,nm⟩]:=by unfold isB; rw [hfo]; simp [ho]
          rw [hv,addA_one] at hnx
          simp (maxSteps:=1000000) -dsimp only [go_sem,Option.getD_none,Option.isSome_none,flC_def]
          refine ad_use (l:=M) (by omega) ?_
          simp (maxSteps:=1000000) -dsimp only [go_sem]
          refine ⟨by omega,loop_next (i + 1) 4 (by omega) (by omega) ?_ ?_⟩
          · simp -dsimp only [go_sem]<;>simp
          · simp -dsimp only [go_sem,stC,hnx]<;>simp
      | some g=>
        have hv:isB nm a f=[]:=by unfold isB; rw [hfo]; simp
        rw [hv,addA_nil] at hnx
        simp (maxSteps:=1000000) -dsimp only [go_sem,Option.getD_some,Option.isSome_some,flC]
        refine ⟨by omega,loop_next (i + 1) 4 (by omega) (by omega) ?_ ?_⟩
        · simp -dsimp only [go_sem]<;>simp
        · simp -dsimp only [go_sem,stC,hnx]<;>simp
    · have hg:decide ((i:Int) < (b.fs.length:Int))=false:=by simp; omega
      obtain rfl:i=b.fs.length:=by omega
      rw [List.take_length]
      simp (maxSteps:=1000000) -dsimp only [go_sem,hg,stC]
      refine .sel [0,1] (by simp) (by simp) rfl (.done ?_)
      simpa -dsimp [go_sem,isH] using hK
end Go.Proofs.YtbcnggkldclemaaGreat
namespace Go.Proofs.YtbcnggkldclemaaGreat
open Go.W
def pc6_4:PC:=.seq (.gh (.reg [⟨some 19,none,.l (.ldn 3 (.t 1))⟩,⟨some 20,none,.l (.ldn 3 (.t 2))⟩,⟨some 21,none,.cq 12 [(.t 19),(.t 20),(.k (.string (mk [84,111,112])))]⟩,⟨some 22,none,.q (.mv (.t 21))⟩,⟨some 23,(some (22,true)),.q (.mv (.t 3))⟩,⟨some 24,(some (22,true)),.q (.lnL (.t 23))⟩,⟨some 25,(some (22,true)),.q (.bin .eql true (.t 24) (.k (.int .i64 1)))⟩,⟨some 26,none,.pick (.t 22) (.t 25) (.k (.bool false))⟩,⟨some 27,none,.q (.mv (.t 26))⟩,⟨some 28,(some (27,true)),.q (.mv (.t 3))⟩,⟨some 29,(some (27,true)),.l (.ia 3 (.t 28) (.k (.int .i64 0)))⟩,⟨some 30,(some (27,true)),.l (.ldn 3 (.t 29))⟩,⟨some 31,(some (27,true)),.q (.bd [(.int .i64 0),(.int .i64 0),(.string (mk []))] [(0,1,(.k (.int .i64 1))),(1,1,(.k (.int .i64 2))),(2,1,(.k (.string (mk [84,111,112]))))])⟩,⟨some 32,(some (27,true)),.q (.eqT false [(0,.int .i64),(1,.int .i64),(2,.str)] (.t 30) (.t 31))⟩,⟨some 33,none,.pick (.t 27) (.t 32) (.k (.bool false))⟩,⟨some 0,none,.q (.mv (.t 33))⟩])) .ret
@[go_sem ↓] theorem fold6_4 (Γ:Env) (k0:Nat) (fr:Fr) (H:Hp) (K:Ex->Fr->Hp->Prop):vc Γ k0 pc6_4 fr H K=vcn Γ k0 pc6_4 fr H K ⟨⟩:=rfl
def pc6_3:PC:=.seq (.gh (.reg [⟨some 16,none,.l (.ldn 3 (.t 2))⟩,⟨some 17,none,.l (.ldn 3 (.t 1))⟩,⟨some 18,none,.cl 11 [(.t 16),(.t 17),(.k (.string (mk [84,111,112])))] []⟩,⟨some 3,none,.q (.mv (.t 18))⟩])) (pc6_4)
@[go_sem ↓] theorem fold6_3 (Γ:Env) (k0:Nat) (fr:Fr) (H:Hp) (K:Ex->Fr->Hp->Prop):vc Γ k0 pc6_3 fr H K=vcn Γ k0 pc6_3 fr H K ⟨⟩:=rfl
def pc6:PC:=.seq (.reg [⟨some 0,none,.q (.mv (.k (.bool false)))⟩]) (.seq (.reg [⟨some 4,none,.q (.bd [(.int .i64 0),(.int .i64 0),(.string (mk [])),(.slice none 0 0)] [(0,1,(.k (.int .i64 2))),(1,1,(.k (.int .i64 8)))])⟩,⟨some 5,none,.q (.bd [(.int .i64 0),(.string (mk [])),(.int .i64 0),(.int .i64 0),(.string (mk [])),(.slice none 0 0),(.bool false)] [(0,1,(.k (.int .i64 2))),(1,1,(.k (.string (mk [120])))),(2,4,(.t 4))])⟩,⟨some 6,none,.e (.bsl 42 7 [(.t 5)])⟩,⟨some 7,none,.q (.bd [(.string (mk [])),(.slice none 0 0)] [(0,1,(.k (.string (mk [84,111,112])))),(1,1,(.t 6))])⟩,⟨some 8,none,.e (.bslx 45 2 [(.t 7)])⟩,⟨some 9,none,.q (.bd [(.int .i64 0),(.slice none 0 0),(.slice none 0 0)] [(0,1,(.k (.int .i64 1))),(2,1,(.t 8))])⟩,⟨some 1,none,.e (.al (.agg #[(.int .i64 0),(.slice none 0 0),(.slice none 0 0)]) 25)⟩,⟨none,none,.e (.st 3 (.t 1) (.t 9))⟩]) (.seq (.reg [⟨some 10,none,.q (.bd [(.int .i64 0),(.int .i64 0),(.string (mk [])),(.slice none 0 0)] [(0,1,(.k (.int .i64 2))),(1,1,(.k (.int .i64 16)))])⟩,⟨some 11,none,.q (.bd [(.int .i64 0),(.string (mk [])),(.int .i64 0),(.int .i64 0),(.string (mk [])),(.slice none 0 0),(.bool false)] [(0,1,(.k (.int .i64 2))),(1,1,(.k (.string (mk [120])))),(2,4,(.t 10))])⟩,⟨some 12,none,.e (.bsl 42 7 [(.t 11)])⟩,⟨some 13,none,.q (.bd [(.string (mk [])),(.slice none 0 0)] [(0,1,(.k (.string (mk [84,111,112])))),(1,1,(.t 12))])⟩,⟨some 14,none,.e (.bslx 45 2 [(.t 13)])⟩,⟨some 15,none,.q (.bd [(.int .i64 0),(.slice none 0 0),(.slice none 0 0)] [(0,1,(.k (.int .i64 2))),(2,1,(.t 14))])⟩,⟨some 2,none,.e (.al (.agg #[(.int .i64 0),(.slice none 0 0),(.slice none 0 0)]) 25)⟩,⟨none,none,.e (.st 3 (.t 2) (.t 15))⟩]) (pc6_3)))
def rs6:List RV:=[.mv (.t 0)]
theorem ok6:trFn Tryz.prog true ⟨fun r k=>if r=1/\k=4 then .q else if r=2/\k=4 then .q else if r=4/\k=2 then .q else .own [],fun r=>[3,4].contains r⟩ Tryz.f6=some (pc6,rs6):=by kernel_rfl
end Go.Proofs.YtbcnggkldclemaaGreat
namespace Go.Proofs.YtbcnggkldclemaaGreat
open Go.W
def nmSp:W.Spec:=fun av H K=>∃ (o n:Sc) (x:ByteArray),av=[.va (.gs (scC o)),.va (.gs (scC n)),tS x]/\H=[]/\o.fit/\n.fit/\K (.va (.c1 (.fz ((nmsF o n x).map stR)))) []
theorem nm_use {o n:Sc} {x:ByteArray} {K:S->Hp->Prop} (h1:o.fit) (h2:n.fit) (hK:K (.va (.c1 (.fz ((nmsF o n x).map stR)))) []):nmSp [.va (.gs (scC o)),.va (.gs (scC n)),tS x] [] K:=⟨o,n,x,rfl,rfl,h1,h2,hK⟩
set_option maxRecDepth 100000 in
set_option maxHeartbeats 1000000 in
theorem mNamesE:Meets Tryz.prog 21 nmSp:=by
  refine meets_fn Tryz.func21 ok21 3 (by rw [Tryz.ntmps21]; decide) (meetsAll_s mUsesP (meetsAll_f mContainsS (meetsAll_nil _))) (fun av H K h=>by obtain ⟨_,_,_,rfl,_⟩:=h; rfl) ?_
  rintro av H K ⟨o,n,x,rfl,rfl,ho,hn,hK⟩
  have ub:=usL_bs hn x
  have ul:=usL_len ho x
  have dbs:=bs_map (usL n x)
  unfold nmsF at hK
  simp (maxSteps:=1000000) -dsimp only [go_sem,scC,pc21,rs21]
  refine usp_use hn ?_
  generalize usL n x=O at *
  simp (maxSteps:=1000000) -dsimp only [go_sem]
  refine usp_use ho ?_
  generalize usL o x=l at *
  simp (maxSteps:=1000000) -dsimp only [go_sem]
  refine vc_loop (α:=Nat) (fun i=>[(7,.va (.c1 (.sl 2 (x :: (l.take i).filter (inB O)).length))),(8,.va (.c1 (.fz (O.map stR)))),(18,.va (.c1 (.fz (l.map stR)))),(19,iS .i64 l.length),(20,iS .i64 i)]) (fun i=>[.cells (scC o) 25,.cells (scC n) 25,.row ((x :: (l.take i).filter (inB O)).map stR) 9 1])
    (fun i=>i<=l.length) (fun i=>l.length - i) 0 3 (Nat.zero_le _) ?_ ?_ ?_
  · simp -dsimp only [go_sem]<;>simp
  · simp -dsimp only [go_sem,scC]<;>simp
  intro i hi
  have hlen:((l.take i).filter (inB O)).length<=32:=by have:=List.length_filter_le (inB O) (l.take i); rw [List.length_take] at this; omega
  rcases Nat.lt_or_ge i l.length with hlt | hge
  · have hg:decide ((i:Int) < (l.length:Int))=true:=by simp; omega
    obtain ⟨y,hx⟩:∃ t,l[i]? = some t:=⟨_,List.getElem?_eq_getElem hlt⟩
    have q1:=row_rg' (row:=stR) hx
    cases c:inB O y with
    | true=>
      have hnx:(l.take (i + 1)).filter (inB O)=(l.take i).filter (inB O) ++ [y]:=by rw [take_next hx]; simp [c]
      simp (maxSteps:=1000000) -dsimp only [go_sem,hg,↓q1,ub,dbs,c]
      and_intros
      all_goals first
        | omega
        | skip
      refine loop_next (i + 1) 3 (by omega) (by omega) ?_ ?_
      · simp -dsimp only [go_sem,hnx]<;>simp
      · simp -dsimp only [go_sem,hnx,scC]<;>simp
    | false=>
      have hnx:(l.take (i + 1)).filter (inB O)=(l.take i).filter (inB O):=by rw [take_next hx]; simp [c]
      simp (maxSteps:=1000000) -dsimp only [go_sem,hg,↓q1,ub,dbs,c]
      and_intros
      all_goals first
        | omega
        | skip
      refine loop_next (i + 1) 3 (by omega) (by omega) ?_ ?_
      · simp -dsimp only [go_sem,hnx]<;>simp
      · simp -dsimp only [go_sem,hnx,scC]<;>simp
  · have hg:decide ((i:Int) < (l.length:Int))=false:=by simp; omega
    obtain rfl:i=l.length:=by omega
    rw [List.take_length]
    simp (maxSteps:=1000000) -dsimp only [go_sem,hg]
    rw [show (l.filter (inB O)).length + 1=((x :: l.filter (inB O)).map stR).length by simp]
    refine .pub 2 _ _ _ rfl (.sel [] (by simp) (by simp [pubH]) rfl (.done ?_))
    simp -dsimp only [go_sem,pubH]
    simpa using hK
end Go.Proofs.YtbcnggkldclemaaGreat
namespace Go.Proofs.YtbcnggkldclemaaGreat
open Go.RowKit
def orI (a b c:Int):Int:=if a ≠ 0 then a else if b ≠ 0 then b else c
set_option maxRecDepth 1000000 in
theorem walkOr3 (a b c:Int) (bk cap:Nat) (w:World) (h0:w.cell? ⟨bk,0,none⟩=some (.int .i64 a)) (h1:w.cell? ⟨bk,1,none⟩=some (.int .i64 b)) (h2:w.cell? ⟨bk,2,none⟩=some (.int .i64 c)) :
    Calls Tryz.prog 28 #[.slice (some ⟨bk,0,none⟩) 3 cap] w fun e w'=>e=.returned (.int .i64 (orI a b c))/\w'=w:=by
  go_enter Tryz.func28,Tryz.ntmps28
  go_wp2
  go_loopw [8] (fun i w'=>∃ (k:Nat),i=.int .i64 k/\w'=w/\k<=3/\(1<=k->a=0)/\(2<=k->b=0)/\(3<=k->c=0)) (fun i _=>match i with | .int _ k=>3 - k.toNat | _=>0)
  case atStart=>exact ⟨0,rfl,rfl,by omega,by omega,by omega,by omega⟩
  case round=>
    obtain ⟨k,rfl,rfl,hk,e1,e2,e3⟩:=hrel
    match k,hk with
    | 0,_=>
      by_cases ha:a=0
      · subst ha
        go_wp2
        refine ⟨⟨1,by simp,trivial,by omega,fun _=>by simp,fun h=>absurd h (by omega),fun h=>absurd h (by omega)⟩,by decide⟩
      · go_wp2
        go_ret
        exact ⟨by simp [orI,ha],rfl⟩
    | 1,_=>
      obtain rfl:=e1 (by omega)
      by_cases hb:b=0
      · subst hb
        go_wp2
        refine ⟨⟨2,by simp,trivial,by omega,fun _=>by simp,fun _=>by simp,fun h=>absurd h (by omega)⟩,by decide⟩
      · go_wp2
        go_ret
        exact ⟨by simp [orI,hb],rfl⟩
    | 2,_=>
      obtain rfl:=e1 (by omega)
      obtain rfl:=e2 (by omega)
      by_cases hc:c=0
      · subst hc
        go_wp2
        refine ⟨⟨3,by simp,trivial,by omega,fun _=>by simp,fun _=>by simp,fun _=>by simp⟩,by decide⟩
      · go_wp2
        go_ret
        exact ⟨by simp [orI],rfl⟩
    | 3,_=>
      obtain rfl:=e1 (by omega)
      obtain rfl:=e2 (by omega)
      obtain rfl:=e3 (by omega)
      go_wp2
      go_ret
      exact ⟨by simp [orI],rfl⟩
theorem cell_new3 (W:World) (x y z:Value) (t:TypeId):(W.drew.alloc (.cells #[x,y,z] t)).cell? ⟨W.heap.size,0,none⟩=some x/\(W.drew.alloc (.cells #[x,y,z] t)).cell? ⟨W.heap.size,1,none⟩=some y/\(W.drew.alloc (.cells #[x,y,z] t)).cell? ⟨W.heap.size,2,none⟩=some z:=by
  refine ⟨?_,?_,?_⟩<;>(show (W.drew.alloc _).cell? ⟨W.drew.heap.size,_,none⟩=_; rw [World.cell?_alloc_mark]; rfl)
set_option maxHeartbeats 1000000 in
set_option maxRecDepth 1000000 in
theorem walkCmp (hc:∀ (a b:ByteArray) (w:World),Calls Tryz.prog 29 #[.string a,.string b] w fun e w'=>e=.returned (.int .i64 (Lib.compareBytes a.data.toList b.data.toList))/\w'=w) (k n k' n':Int) (t t':ByteArray) (hk:-1000<=k/\k<=1000) (hn:-1000<=n/\n<=1000) (hk':-1000<=k'/\k'<=1000) (hn':-1000<=n'/\n'<=1000) (w:World) :
    Calls Tryz.prog 27 #[.agg #[.int .i64 k,.int .i64 n,.string t],.agg #[.int .i64 k',.int .i64 n',.string t']] w fun e w'=>e=.returned (.int .i64 (orI (Lib.compareBytes t.data.toList t'.data.toList) (k - k') (n - n')))/\∃ q os',w'=Sort.grow (w.drewN q) os':=by
  go_enter Tryz.func27,Tryz.ntmps27
  go_wp2
  have c0:((w.alloc (.cells #[.int .i64 k,.int .i64 n,.string t] 50)).alloc (.cells #[.int .i64 k',.int .i64 n',.string t'] 50)).cell? ⟨w.heap.size,0,none⟩=some (.int .i64 k):=by go_simp
  have c1:((w.alloc (.cells #[.int .i64 k,.int .i64 n,.string t] 50)).alloc (.cells #[.int .i64 k',.int .i64 n',.string t'] 50)).cell? ⟨w.heap.size,1,none⟩=some (.int .i64 n):=by go_simp
  have c2:((w.alloc (.cells #[.int .i64 k,.int .i64 n,.string t] 50)).alloc (.cells #[.int .i64 k',.int .i64 n',.string t'] 50)).cell? ⟨w.heap.size,2,none⟩=some (.string t):=by go_simp
  have d0:((w.alloc (.cells #[.int .i64 k,.int .i64 n,.string t] 50)).alloc (.cells #[.int .i64 k',.int .i64 n',.string t'] 50)).cell? ⟨w.heap.size + 1,0,none⟩=some (.int .i64 k'):=by go_simp
  have d1:((w.alloc (.cells #[.int .i64 k,.int .i64 n,.string t] 50)).alloc (.cells #[.int .i64 k',.int .i64 n',.string t'] 50)).cell? ⟨w.heap.size + 1,1,none⟩=some (.int .i64 n'):=by go_simp
  have d2:((w.alloc (.cells #[.int .i64 k,.int .i64 n,.string t] 50)).alloc (.cells #[.int .i64 k',.int .i64 n',.string t'] 50)).cell? ⟨w.heap.size + 1,2,none⟩=some (.string t'):=by go_simp
  generalize hW:(w.alloc (.cells #[.int .i64 k,.int .i64 n,.string t] 50)).alloc (.cells #[.int .i64 k',.int .i64 n',.string t'] 50)=W at c0 c1 c2 d0 d1 d2 ⊢
  refine wp_region_still_tail 15 (by kernel_rfl) (by kernel_rfl) ?_
  simp only [List.take_succ_cons,List.take_zero,List.drop_succ_cons,List.drop_zero]
  change wpStill _ _ W.drew _ _ _
  repeat still_step
  still_call (hc _ _ _)
  repeat still_step
  try refine wpStill_nil ?_
  have w1:IntKind.i64.wrap (k - k')=k - k':=by simp [IntKind.wrap,IntKind.bits,IntKind.signed]; omega
  have w2:IntKind.i64.wrap (n - n')=n - n':=by simp [IntKind.wrap,IntKind.bits,IntKind.signed]; omega
  rw [w1,w2]
  change wpList _ _ _ _ _ W.drew
  have hor:Calls Tryz.prog 28 #[.slice (some ⟨W.heap.size,0,none⟩) 3 3] (W.drew.alloc (.cells #[.int .i64 (Lib.compareBytes t.data.toList t'.data.toList),.int .i64 (k - k'),.int .i64 (n - n')] 3)) _:=walkOr3 (Lib.compareBytes t.data.toList t'.data.toList) (k - k') (n - n') W.heap.size 3 _ (cell_new3 ..).1 (cell_new3 ..).2.1 (cell_new3 ..).2.2
  go_wp2_with (go_at_call 28; refine hor.mono ?_; rintro e w' ⟨rfl,rfl⟩)
  go_ret
  refine ⟨rfl,1, #[.cells #[.int .i64 k,.int .i64 n,.string t] 50] ++ #[.cells #[.int .i64 k',.int .i64 n',.string t'] 50] ++ #[.cells #[.int .i64 (Lib.compareBytes t.data.toList t'.data.toList),.int .i64 (k - k'),.int .i64 (n - n')] 3],?_⟩
  subst hW
  rw [<-Sort.grow_grow,<-Sort.grow_grow]
  simp only [Sort.alloc_eq_grow]
  rfl
end Go.Proofs.YtbcnggkldclemaaGreat
namespace Go.Proofs
open Go.Shelf
def Tryz.sortIs_ren:Go.Shelf.Ren:=⟨fun | 6=>26 | 15=>56 | 14=>55 | 28=>81 | 29=>82 | 20=>73 | 21=>74 | 22=>75 | 23=>76 | 24=>77 | 25=>78 | 26=>79 | 27=>80 | 46=>91 | 47=>92 | 48=>93 | 49=>94 | 50=>95 | 57=>98 | n=>n,fun | 22=>46 | 24=>50 | 25=>74 | 3=>3 | 39=>101 | 0=>0 | 53=>122 | 55=>124 | 4=>4 | 46=>115 | 45=>114 | 50=>119 | 5=>5 | 9=>9 | 66=>134 | 70=>138 | 76=>142 | 77=>143 | n=>n,fun | n=>n⟩
theorem Tryz.sortIs:Go.Proofs.SlLaysF0.n6 Tryz.prog Tryz.sortIs_ren:={
  mixed:=by kernel_rfl
  f6:=⟨"slices.SortFunc[[]robotics/evolve.Issue,robotics/evolve.Issue]",by decide,Tryz.func26.trans (congrArg some (by kernel_rfl))⟩
  f14:=⟨"slices.pdqsortCmpFunc[robotics/evolve.Issue]",by decide,Tryz.func55.trans (congrArg some (by kernel_rfl))⟩
  f15:=Tryz.func56.trans (congrArg some (by kernel_rfl))
  f20:=⟨"slices.insertionSortCmpFunc[robotics/evolve.Issue]",by decide,Tryz.func73.trans (congrArg some (by kernel_rfl))⟩
  f21:=⟨"slices.heapSortCmpFunc[robotics/evolve.Issue]",by decide,Tryz.func74.trans (congrArg some (by kernel_rfl))⟩
  f22:=⟨"slices.breakPatternsCmpFunc[robotics/evolve.Issue]",by decide,Tryz.func75.trans (congrArg some (by kernel_rfl))⟩
  f23:=⟨"slices.choosePivotCmpFunc[robotics/evolve.Issue]",by decide,Tryz.func76.trans (congrArg some (by kernel_rfl))⟩
  f24:=⟨"slices.reverseRangeCmpFunc[robotics/evolve.Issue]",by decide,Tryz.func77.trans (congrArg some (by kernel_rfl))⟩
  f25:=⟨"slices.partialInsertionSortCmpFunc[robotics/evolve.Issue]",by decide,Tryz.func78.trans (congrArg some (by kernel_rfl))⟩
  f26:=⟨"slices.partitionEqualCmpFunc[robotics/evolve.Issue]",by decide,Tryz.func79.trans (congrArg some (by kernel_rfl))⟩
  f27:=⟨"slices.partitionCmpFunc[robotics/evolve.Issue]",by decide,Tryz.func80.trans (congrArg some (by kernel_rfl))⟩
  f28:=Tryz.func81.trans (congrArg some (by kernel_rfl))
  f29:=Tryz.func82.trans (congrArg some (by kernel_rfl))
  f46:=⟨"slices.siftDownCmpFunc[robotics/evolve.Issue]",by decide,Tryz.func91.trans (congrArg some (by kernel_rfl))⟩
  f47:=Tryz.func92.trans (congrArg some (by kernel_rfl))
  f48:=Tryz.func93.trans (congrArg some (by kernel_rfl))
  f49:=⟨"slices.medianAdjacentCmpFunc[robotics/evolve.Issue]",by decide,Tryz.func94.trans (congrArg some (by kernel_rfl))⟩
  f50:=⟨"slices.medianCmpFunc[robotics/evolve.Issue]",by decide,Tryz.func95.trans (congrArg some (by kernel_rfl))⟩
  f57:=⟨"slices.order2CmpFunc[robotics/evolve.Issue]",by decide,Tryz.func98.trans (congrArg some (by kernel_rfl))⟩
  t0:=Tryz.underlying0
  a0:=Tryz.isAgg0
  z0:=Tryz.sizeOf0
  v0:=Tryz.zeroValue0
  t3:=Tryz.underlying3
  a3:=Tryz.isAgg3
  z3:=Tryz.sizeOf3
  v3:=Tryz.zeroValue3
  t4:=Tryz.underlying4
  a4:=Tryz.isAgg4
  z4:=Tryz.sizeOf4
  v4:=Tryz.zeroValue4
  t5:=Tryz.underlying5
  a5:=Tryz.isAgg5
  z5:=Tryz.sizeOf5
  v5:=Tryz.zeroValue5
  t9:=Tryz.underlying9
  a9:=Tryz.isAgg9
  z9:=Tryz.sizeOf9
  v9:=Tryz.zeroValue9
  t22:=Tryz.underlying46
  a22:=Tryz.isAgg46
  z22:=Tryz.sizeOf46
  v22:=Tryz.zeroValue46
  t25:=Tryz.underlying74
  a25:=Tryz.isAgg74
  z25:=Tryz.sizeOf74
  v25:=Tryz.zeroValue74
  t39:=Tryz.underlying101
  a39:=Tryz.isAgg101
  z39:=Tryz.sizeOf101
  v39:=Tryz.zeroValue101
  t45:=Tryz.underlying114
  a45:=Tryz.isAgg114
  z45:=Tryz.sizeOf114
  v45:=Tryz.zeroValue114
  t46:=Tryz.underlying115
  a46:=Tryz.isAgg115
  z46:=Tryz.sizeOf115
  v46:=Tryz.zeroValue115
  t50:=Tryz.underlying119
  a50:=Tryz.isAgg119
  z50:=Tryz.sizeOf119
  v50:=Tryz.zeroValue119
  t53:=Tryz.underlying122
  a53:=Tryz.isAgg122
  z53:=Tryz.sizeOf122
  v53:=Tryz.zeroValue122
  t55:=Tryz.underlying124
  a55:=Tryz.isAgg124
  z55:=Tryz.sizeOf124
  v55:=Tryz.zeroValue124
  t66:=Tryz.underlying134
  a66:=Tryz.isAgg134
  z66:=Tryz.sizeOf134
  v66:=Tryz.zeroValue134
  t70:=Tryz.underlying138
  a70:=Tryz.isAgg138
  z70:=Tryz.sizeOf138
  v70:=Tryz.zeroValue138
  t76:=Tryz.underlying142
  a76:=Tryz.isAgg142
  z76:=Tryz.sizeOf142
  v76:=Tryz.zeroValue142
  t77:=Tryz.underlying143
  a77:=Tryz.isAgg143
  z77:=Tryz.sizeOf143
  v77:=Tryz.zeroValue143 }
def Tryz.lays106_ren:Go.Shelf.Ren:=⟨fun | 106=>29 | 213=>57 | 265=>83 | n=>n,fun | 9=>9 | 3=>3 | n=>n,fun | n=>n⟩
theorem Tryz.lays106:Go.Proofs.Lays.n106 Tryz.prog Tryz.lays106_ren:={
  mixed:=by kernel_rfl
  f106:=Tryz.func29.trans (congrArg some (by kernel_rfl))
  f213:=Tryz.func57.trans (congrArg some (by kernel_rfl))
  f265:=Tryz.func83.trans (congrArg some (by kernel_rfl))
  t3:=Tryz.underlying3
  a3:=Tryz.isAgg3
  z3:=Tryz.sizeOf3
  v3:=Tryz.zeroValue3
  t9:=Tryz.underlying9
  a9:=Tryz.isAgg9
  z9:=Tryz.sizeOf9
  v9:=Tryz.zeroValue9 }
end Go.Proofs
namespace Go.W
open Go.RowKit
structure Stay (w w':World):Prop where
  os:w'.os=w.os
  out:w'.output=w.output
  size:w.heap.size<=w'.heap.size
  keep:∀ b:Nat,b < w.heap.size->w'.heap[b]? = w.heap[b]?
theorem Stay.kept {w w':World} (h:Stay w w') (may:MemPlace->Prop):w.keptBut w' may:=by
  refine ⟨h.os,h.out,fun i hi=>?_⟩
  rw [h.keep i hi]
  split
  · rename_i h1 h2; rw [h1] at h2; cases h2; exact ⟨rfl,rfl,rfl,fun _ _=>rfl⟩
  · rename_i h1 h2; rw [h1] at h2; cases h2; exact Or.inr ⟨rfl,rfl⟩
  · rfl
theorem Stay.frozen {w w':World} (h:Stay w w') {a:Addr} (ha:a.block < w.heap.size):w'.frozen? a=w.frozen? a:=by
  unfold World.frozen?; rw [h.keep _ ha]
theorem Stay.cell {w w':World} (h:Stay w w') {a:Addr} (ha:a.block < w.heap.size):w'.cell? a=w.cell? a:=by
  unfold World.cell?; rw [h.keep _ ha]
theorem rel_nil {w:World} {ro:RO} (h:∀ (b off:Nat) (v:Value),ro b off=some v->w.cell? ⟨b,off,none⟩=some v):Rel ⟨w,blks [],ro,gm []⟩ [] ro w where
  own:=fun n g blk h=>by simp at h
  inj:=fun n m gn gm bn bm b h=>by simp at h
  apart:=fun b off v _ n g blk h=>by simp at h
  rd:=h
  ro0:=fun _ _ _ h=>h
  rob:=fun b off v h=>.inl h
  par:=fun n b g blk h=>by simp at h
  gx:=.refl _
  sz:=Nat.le_refl _
  keep:=fun b _ _=>rfl
  os:=rfl
  tape:=rfl
  output:=rfl
theorem Meets.run {P:Program} {f:FuncId} {s:Fun} (hm:Meets P f s.sp) {av:List S} {vs:List Value} {ro:RO} {w:World} {x:A} (hpre:s.pre av) (hval:s.val av=x) (hl:av.length=vs.length)
    (hrel:∀ (i:Nat) (x:S) (v:Value),av[i]? = some x->vs[i]? = some v->x.rel (gm []) ro v) (hro:∀ (b off:Nat) (v:Value),ro b off=some v->w.cell? ⟨b,off,none⟩=some v) :
    Calls P f vs.toArray w fun e w'=>∃ v γ ro',e=.returned v/\S.rel γ ro' (.va x) v/\Stay w w':=by
  subst hval
  refine (hm.2 av vs [] ro w (fun r H=>r=.va (s.val av)/\H=[]) hl hrel (rel_nil hro) ⟨⟨hpre,rfl⟩,rfl,rfl⟩).mono ?_
  rintro e w' ⟨r,v,E',ro',rfl,h1,⟨rfl,h2⟩,h3⟩
  exact ⟨v,_,ro',rfl,h1,h3.os,h3.output,h3.sz,fun b hb=>h3.keep b hb (by simp [blks])⟩
theorem Meets.yes {P:Program} {f:FuncId} {s:Fun} (hm:Meets P f s.sp) {av:List S} {vs:List Value} {ro:RO} {w:World} (hpre:s.pre av) (hval:s.val av=.c1 (.vl (.bool true))) (hl:av.length=vs.length)
    (hrel:∀ (i:Nat) (x:S) (v:Value),av[i]? = some x->vs[i]? = some v->x.rel (gm []) ro v) (hro:∀ (b off:Nat) (v:Value),ro b off=some v->w.cell? ⟨b,off,none⟩=some v) :
    Calls P f vs.toArray w fun e w'=>e=.returned (.bool true)/\Stay w w':=by
  refine (hm.run hpre hval hl hrel hro).mono ?_
  rintro e w' ⟨v,γ,ro',rfl,h1,h2⟩
  have:v=.bool true:=h1
  exact ⟨by rw [this],h2⟩
section
variable {H:Type} {enc:TypeId × Value->H} {P:Program}
theorem post_of_stay {f:Func} {s:ChangeSpec} {apart fresh handsOn again:Bool} {W W':World} {args:Array Value} {v:Value} {ds gs:List (DataW H)} {before pa pv:List MemPlace}
    (hW:DataW.Whole enc P f.params.toList s.vars apart W args.toList ds gs before)
    (hres:∀ (b:Nat) (sp:Nat->Bool) (hd:Bool),DataW.TrodAll enc P W' b sp hd f.resultTypes.toList (v.resultList f.resultTypes.size) (s.fn H (ds ++ gs)).results [])
    (hargs:∀ sp:Nat->Bool,(∀ p ∈ before,sp p.block=true)->DataW.TrodAll enc P W' 0 sp true f.params.toList args.toList (s.fn H (ds ++ gs)).args pa)
    (hvars:∀ sp:Nat->Bool,(∀ p ∈ before,sp p.block=true)->DataW.TrodVars enc P W' sp s.vars (s.fn H (ds ++ gs)).vars pv)
    (hps:before=pa ++ pv) (hs:Stay W W')
    (hok:∀ (j:Nat) (t:TypeId) (r:Value),f.resultTypes[j]? = some t->(v.resultList f.resultTypes.size)[j]? = some r->Value.okWide P W' .any 0 t r) :
    s.post enc P f apart fresh handsOn again W args v W':=by
  have hlt:∀ p ∈ before,p.block < W.heap.size:=fun p hp=>hW.lt p hp
  have hsp:∀ p ∈ before,(fun b=>decide (b < W.heap.size)) p.block=true:=fun p hp=>by simpa using hlt p hp
  have hall:∀ p ∈ before,(fun _:Nat=>true) p.block=true:=fun _ _=>rfl
  obtain ⟨_,_,_,_,_,hz,hn⟩:=id hW
  refine ⟨ds,gs,before,[],pa,pv,hW,hres _ _ _,hargs _ hsp,hvars _ hsp,World.keptBut_mono (fun p hp=>⟨hp,.inr ?_⟩) (hs.kept (· ∈ before)),fun _=>⟨hok,_,_,([] ++ pa) ++ pv,
    ⟨[] ++ pa,pv,ChangeShapes.trodAll_append (hargs _ hall) (hres _ _ _),hvars _ hall,rfl,fun b off hp=>?_,fun ha=>?_⟩,fun p hp _=>?_⟩⟩
  · rw [hps,List.mem_append] at hp; exact hp
  · have hb:MemPlace.cell b off ∈ before:=by rw [hps]; simpa using hp
    rw [hs.frozen (hlt _ hb)]
    exact hz b off hb
  · have:=hn ha
    rw [hps] at this
    simpa using this
  · rw [hps]
    simpa using hp
end
end Go.W
namespace Go.W
open Go.RowKit
def roW (W:World):RO:=fun b off=>W.cell? ⟨b,off,none⟩
theorem roW_ok (W:World):∀ (b off:Nat) (v:Value),roW W b off=some v->W.cell? ⟨b,off,none⟩=some v:=fun _ _ _ h=>h
theorem fz_nil (ro:RO):FzR ro [] (.slice none 0 0):=
  FzR.mk [] 1 none none (fun h=>absurd rfl h) 0 (fun _=>.bool true) (by simp) (by simp) (by simp) (by simp) (by simp) (by simp) (by simp)
def slicesRoom (P:Program):Bool:=(List.range P.types.size).all fun t=>match P.underlying t with | some (.slice e)=>decide (0 < P.cellsOf e) | _=>true
section
variable {H:Type} {enc:TypeId × Value->H} {P:Program}
theorem stay_same {W W':World} (h:Stay W W') {p:MemPlace} (hp:p.block < W.heap.size):W.sameAt W' p:=by
  cases p with
  | cell b off=>exact h.cell (a:=⟨b,off,none⟩) hp
  | map b=>exact h.keep b hp
theorem trodAll_stay {W W':World} {sp:Nat->Bool} (hl:laidOutB P=true) (hm:mapsRowed P=true) (hs:slicesRoom P=true) (hst:Stay W W') :
    ∀ {ts:List TypeId} {vs:List Value} {ds:List (DataW H)} {ps:List MemPlace},(∀ t ∈ ts,t < P.types.size)->DataW.TrodAll enc P W 0 (fun _=>true) true ts vs ds ps->(∀ p ∈ ps,p.block < W.heap.size)->(∀ p ∈ ps,sp p.block=true)->
      DataW.TrodAll enc P W' 0 sp true ts vs ds ps
  | [],[],[],ps,_,h,_,_=>h
  | t :: ts,v :: vs,d :: ds,ps,ht,h,hb,hp=>by
    obtain ⟨p,q,⟨n,h1⟩,h2,rfl⟩:=h
    have hsz:∀ {t e:TypeId},t < P.types.size->P.underlying t=some (.slice e)->0 < P.cellsOf e:=fun {t e} ht hu=>by
      have:=List.all_eq_true.1 hs t (List.mem_range.2 ht)
      rw [hu] at this
      simpa using this
    exact ⟨p,q,⟨n,DataW.trod_stays (T:=(· < P.types.size)) (kids_rows hl hm) hsz (fun h=>by cases h) (ht t (by simp)) h1 (fun x hx=>stay_same hst (hb x (by simp [hx]))) (fun x hx=>hp x (by simp [hx]))⟩,
      trodAll_stay hl hm hs hst (fun u hu=>ht u (by simp [hu])) h2 (fun x hx=>hb x (by simp [hx])) (fun x hx=>hp x (by simp [hx])),rfl⟩
  | [],_ :: _,_,_,_,h,_,_=>h.elim
  | [],[],_ :: _,_,_,h,_,_=>h.elim
  | _ :: _,[],_,_,_,h,_,_=>h.elim
  | _ :: _,_ :: _,[],_,_,h,_,_=>h.elim
theorem law_post {f:Func} {s:ChangeSpec} {apart fresh handsOn again:Bool} {W W':World} {args:Array Value} {ds gs:List (DataW H)} {before:List MemPlace} {tb:TypeId}
    (hl:laidOutB P=true) (hm:mapsRowed P=true) (hsr:slicesRoom P=true) (hps:∀ t ∈ f.params.toList,t < P.types.size) (hrt:f.resultTypes=#[tb]) (htb:P.underlying tb=some .bool)
    (hvars:s.vars=[]) (hW:DataW.Whole enc P f.params.toList s.vars apart W args.toList ds gs before) (hfn:s.fn H (ds ++ gs)={ results:=[.lit (.bool true)],args:=ds,vars:=[] }) (hst:Stay W W') :
    s.post enc P f apart fresh handsOn again W args (.bool true) W':=by
  have hlt:∀ p ∈ before,p.block < W.heap.size:=fun p hp=>hW.lt p hp
  obtain ⟨p,q,hA,hV,hb,_,_⟩:=id hW
  have hq:q=[]:=by
    rw [hvars] at hV
    cases gs with
    | nil=>exact hV
    | cons g gs=>exact hV.elim
  subst hq
  have hbp:before=p:=by rw [hb]; simp
  refine post_of_stay (pa:=p) (pv:=[]) hW (fun b sp hd=>?_) (fun sp hsp=>?_) (fun sp hsp=>?_) hb hst ?_
  · rw [hrt,hfn]
    exact ⟨[],[],⟨1,by simp [DataW.trod,Value.cells,htb]⟩,rfl,rfl⟩
  · rw [hfn]
    rw [hbp] at hlt hsp
    exact trodAll_stay hl hm hsr hst hps hA hlt hsp
  · rw [hfn,hvars]; rfl
  · intro j t r h1 h2
    rw [hrt] at h1 h2
    match j with
    | 0=>
      cases h1
      cases h2
      simp [Value.okWide,Cell.okWide,Cell.ok,htb]
    | j + 1=>cases h1
end
end Go.W
namespace Go.W
open Go.Sort Go.Proofs
theorem perm_lift {α β:Type} {f:α->β}:∀ {l' l:List β},l'.Perm l->∀ {Z:List α},Z.map f=l->∃ Z':List α,Z'.map f=l'/\Z'.Perm Z:=by
  intro l' l h
  induction h with
  | nil=>intro Z hZ; exact ⟨Z,hZ,.refl _⟩
  | cons x _ ih=>
    intro Z hZ
    cases Z with
    | nil=>cases hZ
    | cons z Z=>
      simp only [List.map_cons,List.cons.injEq] at hZ
      obtain ⟨Z',h1,h2⟩:=ih hZ.2
      exact ⟨z :: Z',by simp [h1,hZ.1],h2.cons z⟩
  | swap x y l=>
    intro Z hZ
    match Z,hZ with
    | a :: b :: Z,hZ=>
      simp only [List.map_cons,List.cons.injEq] at hZ
      exact ⟨b :: a :: Z,by simp [hZ.1,hZ.2.1,hZ.2.2],.swap a b Z⟩
  | trans _ _ ih1 ih2=>
    intro Z hZ
    obtain ⟨Z1,h1,h2⟩:=ih2 hZ
    obtain ⟨Z2,h3,h4⟩:=ih1 h1
    exact ⟨Z2,h3,h4.trans h2⟩
theorem flatL_len {α:Type} {k:Nat}:∀ {l:List (List α)},(∀ x ∈ l,x.length=k)->l.flatten.length=l.length * k
  | [],_=>by simp
  | x :: l,h=>by
    rw [List.flatten_cons,List.length_append,flatL_len fun y hy=>h y (by simp [hy]),h x (by simp),List.length_cons,Nat.succ_mul]
    omega
theorem flatL_at {α:Type} {k:Nat}:∀ {l:List (List α)},(∀ x ∈ l,x.length=k)->∀ {i j:Nat},i < l.length->j < k->l.flatten[i * k + j]? = (l[i]?).bind (·[j]?)
  | [],_,i,j,hi,_=>by simp at hi
  | x :: l,h,i,j,hi,hj=>by
    have hx:=h x (by simp)
    cases i with
    | zero=>simp [List.getElem?_append,hx,hj]
    | succ i=>
      rw [List.flatten_cons,List.getElem?_append_right (by rw [hx,Nat.succ_mul]; omega),hx,show (i + 1) * k + j - k=i * k + j by rw [Nat.succ_mul]; omega]
      simpa using flatL_at (fun y hy=>h y (by simp [hy])) (by simpa using hi) hj
theorem flatK_list {α:Type} [Inhabited α] {enc:α->List Value} {k:Nat} (hk:∀ x,(enc x).length=k) (h0:0 < k) (l:List α):(flatK enc k l.toArray).toList=(l.map enc).flatten:=by
  have hl:∀ x ∈ l.map enc,x.length=k:=fun x hx=>by obtain ⟨a,_,rfl⟩:=List.mem_map.1 hx; exact hk a
  refine List.ext_getElem? fun t=>?_
  rcases Nat.lt_or_ge t (l.length * k) with ht | ht
  · have hd:t / k < l.length:=Nat.div_lt_of_lt_mul (by rwa [Nat.mul_comm])
    have hm:t % k < k:=Nat.mod_lt _ h0
    have e1:=flatL_at hl (i:=t / k) (j:=t % k) (by simpa using hd) hm
    rw [Nat.div_add_mod' t k] at e1
    rw [e1,List.getElem?_map,List.getElem?_eq_getElem hd]
    simp only [flatK]
    have hz:t % k < (enc l[t / k]).length:=by rw [hk]; exact hm
    simp [ht,hd,hz]
  · rw [List.getElem?_eq_none (by simpa using ht),List.getElem?_eq_none (by rw [flatL_len hl]; simpa using ht)]
theorem row_parts {ro:RO} {α:Type} {enc:α->List Value} {R:α->List C->Prop} {k:Nat} {row:List C->Prop} (hR:∀ r vs,row r->All2 (C.fv ro) r vs->∃ a,enc a=vs/\R a r) :
    ∀ {xs:List (List C)} {vs:List Value},(∀ r ∈ xs,row r)->(∀ r ∈ xs,r.length=k)->All2 (C.fv ro) xs.flatten vs->∃ Z:List (α × List C),Z.map Prod.snd=xs/\(Z.map fun z=>enc z.1).flatten=vs/\∀ z ∈ Z,R z.1 z.2/\All2 (C.fv ro) z.2 (enc z.1)
  | [],vs,_,_,h=>⟨[],rfl,by simpa using (All2.nil_inv h).symm,fun z hz=>by cases hz⟩
  | r :: xs,vs,h1,h2,h=>by
    rw [List.flatten_cons] at h
    have hr:=h2 r (by simp)
    have ha:All2 (C.fv ro) r (vs.take k):=by
      have:=h.take k
      rwa [List.take_left' hr] at this
    have hb:All2 (C.fv ro) xs.flatten (vs.drop k):=by
      have:=h.drop k
      rwa [List.drop_left' hr] at this
    obtain ⟨a,h3,h4⟩:=hR r _ (h1 r (by simp)) ha
    obtain ⟨Z,h5,h6,h7⟩:=row_parts hR (fun x hx=>h1 x (by simp [hx])) (fun x hx=>h2 x (by simp [hx])) hb
    refine ⟨(a,r) :: Z,by simp [h5],by simp [h6,h3],fun z hz=>?_⟩
    rcases List.mem_cons.1 hz with rfl | hz
    · exact ⟨h4,by rw [h3]; exact ha⟩
    · exact h7 z hz
def srSp (g T k:Nat) (row:List C->Prop) (lt:List C->List C->Bool):W.Spec:=fun av H K=>∃ xs:List (List C),av=[.va (.c1 (.sl 0 xs.length)),.va (.c1 (.fn g []))]/\H=[.row xs T k]/\(∀ r ∈ xs,row r)/\xs.length<=1000000000/\∀ xs':List (List C),xs'.Perm xs->xs'.Pairwise (fun a b=>lt b a=false)->K (.tu []) [.row xs' T k]
theorem fv_all {ro:RO} {r:List (List C)} {E:List (List Value)} (h:All2 (fun x y=>All2 (C.fv ro) x y) r E):All2 (C.fv ro) r.flatten E.flatten:=by
  induction r generalizing E with
  | nil=>rw [All2.nil_inv h]; exact .nil
  | cons x r ih=>
    obtain ⟨y,E',rfl,h1,h2⟩:=All2.cons_inv h
    rw [List.flatten_cons,List.flatten_cons]
    exact h1.app (ih h2)
set_option maxHeartbeats 1000000 in
theorem meets_srt {P:Program} {f g T k:Nat} (h0:0 < k) (hen:enters P f=true) {α:Type} [Inhabited α] {enc:α->List Value} (hk:∀ x,(enc x).length=k) {cf:α->α->Int} {row:List C->Prop} {lt:List C->List C->Bool} {R:α->List C->Prop}
    (hR:∀ (ro:RO) (r:List C) (vs:List Value),row r->All2 (C.fv ro) r vs->∃ a,enc a=vs/\R a r) (hlt:∀ a r b s,R a r->R b s->ltOf cf a b=lt r s)
    (key:∀ (blk cap:Nat) (d:Array α) (w:World),HoldsK enc k w blk 0 d->blk < w.heap.size->d.size < 4611686018427387904->Calls P f #[.slice (some ⟨blk,0,none⟩) d.size cap,.func (.func g) #[] #[]] w fun e w'=>
      e=.returned (.tuple #[])/\∃ d' n os,PermIn 0 d.size d d'/\SortedIn (ltOf cf) 0 d.size d'/\w'=sortWorldK enc k w blk 0 n d' os)
    (key0:∀ w:World,Calls P f #[.slice none 0 0,.func (.func g) #[] #[]] w fun e w'=>e=.returned (.tuple #[])/\w'=w):Meets P f (srSp g T k row lt):=by
  refine ⟨hen,fun av vs E ro w K hlen hrel hR0 hs=>?_⟩
  obtain ⟨xs,rfl,hH,hrow,hl,hK⟩:=hs
  match E,hH with
  | [(gb,blk)],hH=>
    obtain rfl:blk=.row xs T k:=by simpa [hp] using hH
    match vs,hlen with
    | [v0,v1],_=>
      have r0:=hrel 0 _ _ rfl rfl
      have r1:=hrel 1 _ _ rfl rfl
      obtain ⟨ws,hv1,hws⟩:∃ ws:List Value,v1=.func (.func g) #[] ws.toArray/\All2 (capR (gm [(gb,.row xs T k)]) ro) [] ws:=r1
      obtain rfl:=All2.nil_inv hws
      subst hv1
      have hon:=hR0.own 0 gb _ rfl
      obtain ⟨o1,o2,o3,o4,o5,o6,o7⟩:=hon
      obtain ⟨g',hg',_,_,_,hv0⟩:=r0
      obtain rfl:gb=g':=by simpa [gm] using hg'
      obtain rfl:=hv0 o2.symm
      obtain ⟨l1,l2⟩:=o5
      obtain ⟨Z,z1,z2,z3⟩:=row_parts (hR ro) hrow o3 o6
      rcases l2 with ⟨hn,h1⟩ | ⟨b,cap,cur,hsl,_,hb,hcap,hmax,hcs,htk⟩
      · obtain rfl:=List.eq_nil_of_length_eq_zero h1
        have hK:=hK [] (.refl _) .nil
        rw [show (Value.slice (obA gb.ob 0) ([]:List (List C)).length gb.cap)=.slice none 0 0 from hn]
        refine (key0 w).mono ?_
        rintro e w' ⟨rfl,rfl⟩
        exact ⟨.tu [],_,[(gb,.row [] T k)],ro,rfl,⟨[],rfl,.nil⟩,hK,hR0⟩
      have hob:gb.ob=some b:=by
        cases hgo:gb.ob with
        | none=>rw [hgo] at hsl; simp [obA] at hsl
        | some b'=>rw [hgo] at hsl; simp [obA] at hsl; rw [hsl.1]
      have hgc:gb.cap=cap:=by simp at hsl; exact hsl.2
      have hbs:b < w.heap.size:=by
        rcases Nat.lt_or_ge b w.heap.size with h' | h'
        · exact h'
        · rw [Array.getElem?_eq_none h'] at hb; cases hb
      have hZl:Z.length=xs.length:=by rw [<-z1,List.length_map]
      obtain ⟨d,hd⟩:∃ d:List α,d=Z.map Prod.fst:=⟨_,rfl⟩
      have hdl:d.length=xs.length:=by rw [hd,List.length_map,hZl]
      have hfl:(flatK enc k d.toArray).toList=gb.vs:=by
        rw [flatK_list hk h0,hd,List.map_map]; exact z2
      have hvl:gb.vs.length=xs.length * k:=l1
      have hcell:HoldsK enc k w b 0 d.toArray:=by
        intro j hj
        have hj':j < xs.length * k:=by simpa [hdl] using hj
        refine ⟨?_,by simp [World.frozen?,hb]⟩
        have e1:(flatK enc k d.toArray)[j]? = gb.vs[j]?:=by rw [<-hfl]; simp
        have e2:gb.vs[j]? = cur[j]?:=by
          rw [<-htk,List.getElem?_take,if_pos hj']; simp
        have hj2:j < (flatK enc k d.toArray).size:=by simpa using hj
        rw [Nat.zero_add]
        simp only [World.cell?,hb]
        rw [<-e2,<-e1,Array.getElem?_eq_getElem hj2,getElem!_pos _ j hj2]
        simp
      rw [hob,hgc]
      have hkey:=key b cap d.toArray w hcell hbs (by simp; omega)
      rw [show d.toArray.size=xs.length by simp [hdl]] at hkey
      refine hkey.mono ?_
      rintro e w' ⟨rfl,d',n,os,⟨hp1,_,hp3⟩,hsrt,rfl⟩
      rw [show (0:Nat)=0 from rfl] at hp3
      have hd's:d'.size=xs.length:=by rw [hp1]; simp [hdl]
      have hperm:d'.toList.Perm d:=by
        have e1:d'.extract 0 xs.length=d':=by rw [<-hd's]; simp
        have e2:d.toArray.extract 0 xs.length=d.toArray:=by rw [<-hdl]; simp
        rw [e1,e2] at hp3
        simpa using hp3
      obtain ⟨Z',y1,y2⟩:=perm_lift hperm hd.symm
      obtain ⟨xs',hx'⟩:∃ xs':List (List C),xs'=Z'.map Prod.snd:=⟨_,rfl⟩
      have hxp:xs'.Perm xs:=by rw [hx',<-z1]; exact y2.map _
      have hxl:xs'.length=xs.length:=hxp.length_eq
      have y3:∀ z ∈ Z',R z.1 z.2/\All2 (C.fv ro) z.2 (enc z.1):=fun z hz=>z3 z (y2.mem_iff.1 hz)
      have hsx:xs'.Pairwise (fun a b=>lt b a=false):=by
        rw [hx',List.pairwise_map,List.pairwise_iff_getElem]
        intro i j hi hj hij
        have hz1:=y3 Z'[i] (List.getElem_mem hi)
        have hz2:=y3 Z'[j] (List.getElem_mem hj)
        rw [<-hlt _ _ _ _ hz2.1 hz1.1]
        have hZ'l:Z'.length=xs.length:=by rw [<-hxl,hx',List.length_map]
        have:=hsrt i j (Nat.zero_le _) hij (by omega)
        have ei:d'[i]! = Z'[i].1:=by
          have:d'.toList[i]? = (Z'.map Prod.fst)[i]?:=by rw [y1]
          rw [getElem!_pos d' i (by omega)]
          simpa [hi,show i < d'.size by omega] using this
        have ej:d'[j]! = Z'[j].1:=by
          have:d'.toList[j]? = (Z'.map Prod.fst)[j]?:=by rw [y1]
          rw [getElem!_pos d' j (by omega)]
          simpa [hj,show j < d'.size by omega] using this
        rw [ei,ej] at this
        exact this
      have hK:=hK xs' hxp hsx
      obtain ⟨us,hus⟩:∃ us:List Value,us=(flatK enc k d').toList:=⟨_,rfl⟩
      have hul:us.length=xs.length * k:=by rw [hus]; simp [hd's]
      have hus2:us=(Z'.map fun z=>enc z.1).flatten:=by
        rw [hus,show d'=d'.toList.toArray by simp,flatK_list hk h0,<-y1,List.map_map]; rfl
      have hrel':All2 (C.fv ro) xs'.flatten us:=by
        rw [hus2,hx']
        refine fv_all ⟨by simp,fun i x y hx hy=>?_⟩
        rw [List.getElem?_map] at hx hy
        cases hz:Z'[i]? with
        | none=>rw [hz] at hx; cases hx
        | some z=>
          rw [hz] at hx hy
          cases hx; cases hy
          exact (y3 z (List.mem_of_getElem? hz)).2
      obtain ⟨W',hW⟩:∃ W',W'=sortWorldK enc k w b 0 n d' os:=⟨_,rfl⟩
      have hmod:(putRowK enc k (Sort.ahead w n) b 0 d').heap.size=w.heap.size:=by simp [putRowK,putRow,mapBlock,Sort.ahead]
      have hgo:∀ {j:Nat},j < w.heap.size->W'.heap[j]? = (putRowK enc k (Sort.ahead w n) b 0 d').heap[j]?:=fun {j} hj=>by
        rw [hW]; simp only [sortWorldK,grow]; rw [Array.getElem?_append_left (by rw [hmod]; exact hj)]
      have hb':W'.heap[b]? = some (.cells (putCells id 0 (flatK enc k d') cur) T (0,0)):=by
        rw [hgo hbs]
        unfold putRowK putRow mapBlock
        simp [Array.getElem?_modify,Sort.ahead,hb,onCells]
      have hne:∀ j,j ≠ b->j < w.heap.size->W'.heap[j]? = w.heap[j]?:=fun j h1 h2=>by
        rw [hgo h2]
        unfold putRowK putRow mapBlock
        simp [Array.getElem?_modify,Sort.ahead,Ne.symm h1]
      have hsz:w.heap.size<=W'.heap.size:=by rw [hW]; simp [sortWorldK,grow,hmod]
      have hrest:W'.os=w.os/\W'.tape=w.tape/\W'.output=w.output:=by rw [hW]; exact ⟨rfl,rfl,rfl⟩
      rw [<-hW]
      clear hW
      have htk':(putCells id 0 (flatK enc k d') cur).toList.take (xs'.length * k)=us:=by
        rw [hxl]
        refine List.ext_getElem? fun j=>?_
        rw [List.getElem?_take]
        rcases Nat.lt_or_ge j (xs.length * k) with hj | hj
        · rw [if_pos hj]
          have h1:j < cur.size:=by rw [hcs]; exact Nat.lt_of_lt_of_le hj (Nat.mul_le_mul_right k hcap)
          have h2:j < (flatK enc k d').size:=by simpa [hd's] using hj
          rw [hus]
          simp only [putCells,Array.getElem?_toList,Array.getElem?_mapIdx,Array.getElem?_eq_getElem h1,Option.map_some,Nat.zero_le,true_and,Nat.zero_add,Nat.sub_zero,id]
          rw [if_pos h2,Array.getElem?_eq_getElem h2,getElem!_pos _ j h2]
        · rw [if_neg (by omega),List.getElem?_eq_none (by omega)]
      have hown:B.On (gm [(⟨some b,true,xs'.length,cap,gb.T,us⟩,.row xs' T k)]) ro W' ⟨some b,true,xs'.length,cap,gb.T,us⟩ (.row xs' T k):=by
        refine ⟨rfl,rfl,fun x hx=>o3 x (hxp.mem_iff.1 hx),fun c hc=>?_,⟨by rw [hxl]; exact hul,.inr ⟨b,cap,putCells id 0 (flatK enc k d') cur,by simp [obA],Nat.zero_le _,hb',by rw [hxl]; exact hcap,hmax,by simp [putCells,hcs],htk'⟩⟩,hrel',fun b' _=>by have:=o7 b hob; rw [hgc] at this; exact this⟩
        obtain ⟨r,h1,h2⟩:=List.mem_flatten.1 hc
        exact o4 c (List.mem_flatten.2 ⟨r,hxp.mem_iff.1 h1,h2⟩)
      have hpb:b ∈ blks [(gb,.row xs T k)]:=by
        rcases hR0.par 0 b gb _ rfl hob rfl with h | h
        · exact absurd h (Nat.not_le.2 hbs)
        · exact h
      refine ⟨.tu [],_,[(⟨some b,true,xs'.length,cap,gb.T,us⟩,.row xs' T k)],ro,rfl,⟨[],rfl,.nil⟩,hK,?_⟩
      refine ⟨fun n gn bn hn=>?_,fun n m gn gm' bn bm b' hn hm h1 h2 l1 l2=>?_,fun b' off v hv n gn bn hn hgb=>?_,fun b' off v hv=>?_,hR0.ro0,hR0.rob,fun n b' gn bn hn hgb hl=>?_,?_,hsz,fun j hj hjb=>hne j (fun e=>hjb (e ▸ hpb)) hj,hrest.1,hrest.2.1,hrest.2.2⟩
      · match n,hn with
        | 0,hn=>cases hn; exact hown
        | n + 1,hn=>cases hn
      · match n,m,hn,hm with
        | 0,0,_,_=>rfl
        | n + 1,_,hn,_=>cases hn
        | _,m + 1,_,hm=>cases hm
      · match n,hn with
        | 0,hn=>
          cases hn
          have hbb:b=b':=by simpa using hgb
          subst hbb
          exact absurd (hR0.apart b off v hv 0 gb _ rfl hob) (by simp [B.live])
        | n + 1,hn=>cases hn
      · have hne':b' ≠ b:=fun e=>by
          subst e
          exact absurd (hR0.apart b' off v hv 0 gb _ rfl hob) (by simp [B.live])
        have:=hR0.rd b' off v hv
        rcases Nat.lt_or_ge b' w.heap.size with h' | h'
        · rw [World.cell?_of_block (hne b' hne' h')]
          exact this
        · simp [World.cell?,Array.getElem?_eq_none h'] at this
      · match n,hn with
        | 0,hn=>
          cases hn
          have:b=b':=by simpa using hgb
          subst this; exact .inr hpb
        | n + 1,hn=>cases hn
      · intro n g2 h2
        match n,h2 with
        | 0,h2=>
          cases h2
          exact ⟨_,rfl,o1.symm,.inl ⟨hob.symm,by rw [hxl]; exact o2.symm,hgc.symm⟩⟩
        | n + 1,h2=>cases h2
end Go.W
namespace Go.Proofs.YtbcnggkldclemaaGreat
open Go.W Go.Sort Go.RowKit
structure BI (x:Is):Prop where
  k:-1000<=x.k/\x.k<=1000
  n:-1000<=x.n/\x.n<=1000
abbrev IsB:={x:Is // BI x}
instance:Inhabited IsB:=⟨⟨⟨0,0,ByteArray.empty⟩,⟨by decide,by decide⟩⟩⟩
def encI (x:IsB):List Value:=[.int .i64 x.1.k,.int .i64 x.1.n,.string x.1.t]
def cfI (x y:IsB):Int:=orI (Lib.compareBytes (bl x.1.t) (bl y.1.t)) (x.1.k - y.1.k) (x.1.n - y.1.n)
theorem cmpB_facts:∀ a b:List UInt8,(Lib.compareBytes a b < 0 ↔ Op.bytesLess a b=true)/\(Lib.compareBytes a b=0 ↔ a=b)
  | [],[]=>by simp [Lib.compareBytes,Op.bytesLess]
  | [],_ :: _=>by simp [Lib.compareBytes,Op.bytesLess]
  | _ :: _,[]=>by simp [Lib.compareBytes,Op.bytesLess]
  | x :: a,y :: b=>by
    have ih:=cmpB_facts a b
    unfold Lib.compareBytes Op.bytesLess
    by_cases h1:x < y
    · have:x ≠ y:=fun e=>by subst e; exact UInt8.lt_irrefl _ h1
      simp [h1,this]
    · by_cases h2:y < x
      · have:x ≠ y:=fun e=>by subst e; exact h1 h2
        simp [h1,h2,this]
      · have:x=y:=UInt8.le_antisymm (UInt8.not_lt.1 h2) (UInt8.not_lt.1 h1)
        subst this
        simp [h1,ih.1,ih.2]
theorem ltI_of (x y:IsB):ltOf cfI x y=ltIB x.1 y.1:=by
  obtain ⟨h1,h2⟩:=cmpB_facts (bl x.1.t) (bl y.1.t)
  rw [Bool.eq_iff_iff,ltIB_iff]
  have hb:Op.bytesLess (bl x.1.t) (bl y.1.t)=true ↔ ltS x.1.t y.1.t:=by rw [bless,decide_eq_true_eq]
  have h3:=h1.trans hb
  unfold ltOf cfI orI ltI
  rw [decide_eq_true_eq,<-h3]
  by_cases c:Lib.compareBytes (bl x.1.t) (bl y.1.t)=0
  · have e:x.1.t=y.1.t:=bl_inj (h2.1 c)
    rw [c,if_neg (by simp)]
    by_cases d:x.1.k - y.1.k=0
    · rw [d,if_neg (by simp)]; simp only [e,true_and]; omega
    · rw [if_pos d]; simp only [e,true_and]; omega
  · have e:x.1.t ≠ y.1.t:=fun e=>c (h2.2 (by rw [e]))
    rw [if_pos c]
    simp [e]
theorem swoI:SWO (ltOf cfI) where
  irrefl x:=by
    rw [ltI_of]
    cases h:ltIB x.1 x.1 with
    | false=>rfl
    | true=>exact absurd (ltIB_iff.1 h) (ltI_irrefl _)
  trans x y z h1 h2:=by
    rw [ltI_of] at *
    exact ltIB_iff.2 (ltI_trans (ltIB_iff.1 h1) (ltIB_iff.1 h2))
  ntrans x y z h1 h2:=by
    rw [ltI_of] at *
    cases h:ltIB x.1 z.1 with
    | false=>rfl
    | true=>
      have h:=ltIB_iff.1 h
      have h1:¬ ltI x.1 y.1:=fun e=>by rw [ltIB_iff.2 e] at h1; cases h1
      have h2:¬ ltI y.1 z.1:=fun e=>by rw [ltIB_iff.2 e] at h2; cases h2
      by_cases e:x.1=y.1
      · rw [e] at h; exact absurd h h2
      · exact absurd (ltI_trans (ltI_total h1 e) h) h2
noncomputable def C.is:=unC isC
theorem is_dec (x:Is):C.is (isC x)=x:=unC_eq isC_inj x
def rowI (r:List C):Prop:=∃ x:Is,r=isC x/\BI x
noncomputable def ltR (r s:List C):Bool:=ltIB (C.is r) (C.is s)
theorem strCmp (a b:ByteArray) (w:World):Calls Tryz.prog 29 #[.string a,.string b] w fun e w'=>e=.returned (.int .i64 (Lib.compareBytes a.data.toList b.data.toList))/\w'=w:=Any.strings_Compare Tryz.lays106 a b w
theorem mSortI:Meets Tryz.prog 26 (srSp 27 50 3 rowI ltR):=by
  refine meets_srt (α:=IsB) (enc:=encI) (cf:=cfI) (R:=fun a r=>r=isC a.1) (by decide) (by kernel_rfl) (fun _=>rfl) ?_ ?_ ?_ ?_
  · rintro ro r vs ⟨x,rfl,hx⟩ h
    unfold isC at h
    obtain ⟨v0,vs0,rfl,h0,r0⟩:=All2.cons_inv h
    obtain ⟨v1,vs1,rfl,h1,r1⟩:=All2.cons_inv r0
    obtain ⟨v2,vs2,rfl,h2,r2⟩:=All2.cons_inv r1
    obtain rfl:=All2.nil_inv r2
    cases h0; cases h1; cases h2
    exact ⟨⟨x,hx⟩,rfl,rfl⟩
  · rintro a r b s rfl rfl
    rw [ltI_of]; unfold ltR; rw [is_dec,is_dec]
  · intro blk cap d w hH hblk hsz
    have eg:∀ args w,(callFunc 27 args).run Tryz.prog w=.ok (.enter 27 args) w:=enters_of Tryz.func27 (by kernel_rfl) rfl
    exact AnyQ.slices_SortFunc Tryz.sortIs 3 Tryz.isAgg50 Tryz.sizeOf50 encI (fun _=>rfl) (fun x v hv=>by simp [encI] at hv; rcases hv with rfl | rfl | rfl<;>rfl) cfI swoI 27 #[] blk 0 cap d w eg
      (fun m os dk _ x y=>walkCmp strCmp _ _ _ _ _ _ x.2.k x.2.n y.2.k y.2.n _) hH hblk hsz
  · exact fun w=>AnyF.slices_SortFunc_none { Tryz.sortIs with } none 0 _ w
theorem sr_use {l:List Is} {K:S->Hp->Prop} (hl:l.length<=1000000000) (hb:∀ x ∈ l,BI x) (hK:∀ l':List Is,l'.Perm l->l'.Pairwise (fun a b=>ltIB b a=false)->K (.tu []) [.row (l'.map isC) 50 3]) :
    srSp 27 50 3 rowI ltR [.va (.c1 (.sl 0 l.length)),.va (.c1 (.fn 27 []))] [.row (l.map isC) 50 3] K:=by
  refine ⟨l.map isC,by simp,rfl,fun r hr=>?_,by simpa using hl,fun xs' hp hs=>?_⟩
  · obtain ⟨x,hx,rfl⟩:=List.mem_map.1 hr
    exact ⟨x,rfl,hb x hx⟩
  · obtain ⟨l',rfl,h2⟩:=perm_lift hp rfl
    refine hK l' h2 ?_
    rw [List.pairwise_map] at hs
    refine hs.imp fun {a b} h=>?_
    unfold ltR at h
    rwa [is_dec,is_dec] at h
end Go.Proofs.YtbcnggkldclemaaGreat
namespace Go.Proofs
open Go.Shelf
def Tryz.lays16_ren:Go.Shelf.Ren:=⟨fun | 16=>52 | n=>n,fun | 24=>57 | n=>n,fun | n=>n⟩
theorem Tryz.lays16:Go.Proofs.Lays2.n16 Tryz.prog Tryz.lays16_ren:={
  mixed:=by kernel_rfl
  f16:=Tryz.func52.trans (congrArg some (by kernel_rfl))
  t4:=Tryz.underlying4
  a4:=Tryz.isAgg4
  z4:=Tryz.sizeOf4
  v4:=Tryz.zeroValue4
  t9:=Tryz.underlying9
  a9:=Tryz.isAgg9
  z9:=Tryz.sizeOf9
  v9:=Tryz.zeroValue9
  t24:=Tryz.underlying57
  a24:=Tryz.isAgg57
  z24:=Tryz.sizeOf57
  v24:=Tryz.zeroValue57
  i9:=by kernel_rfl }
def Tryz.lays15_ren:Go.Shelf.Ren:=⟨fun | 15=>53 | n=>n,fun | 22=>58 | n=>n,fun | n=>n⟩
theorem Tryz.lays15:Go.Proofs.Lays2.n15 Tryz.prog Tryz.lays15_ren:={
  mixed:=by kernel_rfl
  f15:=Tryz.func53.trans (congrArg some (by kernel_rfl))
  t3:=Tryz.underlying3
  a3:=Tryz.isAgg3
  z3:=Tryz.sizeOf3
  v3:=Tryz.zeroValue3
  t4:=Tryz.underlying4
  a4:=Tryz.isAgg4
  z4:=Tryz.sizeOf4
  v4:=Tryz.zeroValue4
  t22:=Tryz.underlying58
  a22:=Tryz.isAgg58
  z22:=Tryz.sizeOf58
  v22:=Tryz.zeroValue58
  i3:=by kernel_rfl }
end Go.Proofs
namespace Go.Proofs.YtbcnggkldclemaaGreat
open Go.W Go.RowKit
theorem new_any {X:Ctx} {E:Es} {ro:RO} {w w':World} (h:Rel X E ro w) {blk:B} {g:Gb} (hb:∀ k,k < w.heap.size->w'.heap[k]? = w.heap[k]?) (hsz:w.heap.size<=w'.heap.size)
    (h1:w'.os=w.os) (h2:w'.tape=w.tape) (h3:w'.output=w.output) (hob:∀ b,g.ob=some b->w.heap.size<=b) (hon:blk.On (gm (E ++ [(g,blk)])) ro w' g):Rel X (E ++ [(g,blk)]) ro w':=by
  have hext:GExt (gm E) (gm (E ++ [(g,blk)])):=gext_app _
  have hget:∀ (n:Nat) (y:Gb × B),(E ++ [(g,blk)])[n]? = some y->(n=E.length/\y=(g,blk))\/(n < E.length/\E[n]? = some y):=by
    intro n y hy
    rw [List.getElem?_append] at hy
    split at hy
    · exact .inr ⟨by assumption,hy⟩
    · have:n - E.length=0:=by
        rcases Nat.eq_zero_or_pos (n - E.length) with h0 | h0
        · exact h0
        · rw [List.getElem?_eq_none (by simp; omega)] at hy; cases hy
      rw [this] at hy
      exact .inl ⟨by omega,by simpa using hy.symm⟩
  have old:∀ (n k:Nat) (gn:Gb) (bk:B),E[n]? = some (gn,bk)->gn.ob=some k->bk.live=true->k < w.heap.size:=fun n k gn bk hy hk hl=>(h.own n _ bk hy).lt hl hk
  refine ⟨fun n g' bk hy=>?_,fun n m gn gm bn bm k hy hz en em ln lm=>?_,fun k off c hc n gn bk hy en=>?_,fun k off c hc=>?_,h.ro0,h.rob,fun n k gn bk hy en ln=>?_,h.gx.trans hext,Nat.le_trans h.sz hsz,fun k hk hp=>?_,by rw [h1]; exact h.os,by rw [h2]; exact h.tape,by rw [h3]; exact h.output⟩
  · rcases hget n _ hy with ⟨rfl,he⟩ | ⟨hlt,hy'⟩
    · simp only [Prod.mk.injEq] at he; obtain ⟨rfl,rfl⟩:=he; exact hon
    · by_cases hlv:bk.live=true
      · exact (h.own n g' bk hy').same hext (Ext.refl _) fun k hk=>hb k (old n k g' bk hy' hk hlv)
      · cases bk<;>simp [B.live] at hlv; trivial
  · rcases hget n _ hy with ⟨rfl,he⟩ | ⟨hlt,hy'⟩<;>rcases hget m _ hz with ⟨rfl,he2⟩ | ⟨hlt2,hz'⟩
    · rfl
    · simp only [Prod.mk.injEq] at he; obtain ⟨rfl,rfl⟩:=he; have:=old m k gm bm hz' em lm; have:=hob k en; omega
    · simp only [Prod.mk.injEq] at he2; obtain ⟨rfl,rfl⟩:=he2; have:=old n k gn bn hy' en ln; have:=hob k em; omega
    · exact h.inj n m gn gm bn bm k hy' hz' en em ln lm
  · rcases hget n _ hy with ⟨rfl,he⟩ | ⟨hlt,hy'⟩
    · simp only [Prod.mk.injEq] at he; obtain ⟨rfl,rfl⟩:=he; have:=h.cell_lt hc; have:=hob k en; omega
    · exact h.apart k off c hc n gn bk hy' en
  · have:=h.rd k off c hc
    rw [<-this]
    simp only [World.cell?,hb k (h.cell_lt hc)]
  · rcases hget n _ hy with ⟨rfl,he⟩ | ⟨hlt,hy'⟩
    · simp only [Prod.mk.injEq] at he; obtain ⟨rfl,rfl⟩:=he; have:=hob k en; have:=h.sz; exact .inl (by omega)
    · exact h.par n k gn bk hy' en ln
  · rw [hb k (by have:=h.sz; omega)]
    exact h.keep k hk hp
theorem row_any {X:Ctx} {ro:RO} {w w':World} (h:Rel X [] ro w) (hX:X.g0.length=0) {T:TypeId} {v:Value} {cs:List Value} (hne:cs ≠ []) (_hone:∀ u ∈ cs,u.oneCell'=true) (ho:w'.ownsRow w.heap.size T 1 v cs.length cs) (hb:Below w.heap.size w w') {K:S->Hp->Prop} (hK:K (.va (.c1 (.fz (cs.map fun u=>[C.vl u])))) []) :
    ∃ r' E' ro',K r' (hp E')/\r'.rel (gm E') ro' v/\Rel X E' ro' w':=by
  have hlen:0 < cs.length:=List.length_pos_iff.2 hne
  obtain ⟨h1,h2⟩:=ho
  rcases h2 with ⟨_,h0⟩ | ⟨b,cap,cur,rfl,hbb,hcell,hcap,hmax,hcs,htk⟩
  · omega
  have hfl:(cs.map fun u=>[C.vl u]).flatten=cs.map C.vl:=by
    clear h1 hlen hcap htk hK hne _hone
    induction cs with
    | nil=>rfl
    | cons x l ih=>rw [List.map_cons,List.flatten_cons,ih]; rfl
  let g:Gb:=⟨some b,true,cs.length,cap,T,cs⟩
  have hR:Rel X ([] ++ [(g,.row (cs.map fun u=>[C.vl u]) T 1)]) ro w':=by
    refine new_any h (fun k hk=>hb.block k hk) hb.size hb.os hb.tape hb.output (fun b' hb'=>by cases hb'; exact hbb) ⟨rfl,by simp [g],fun x hx=>?_,fun c hc=>?_,⟨by simp [g],.inr ⟨b,cap,cur,?_,Nat.zero_le _,hcell,by simp; exact hcap,hmax,hcs,?_⟩⟩,?_,fun b' _=>(by show 0 < cap; omega)⟩
    · obtain ⟨y,_,rfl⟩:=List.mem_map.1 hx; rfl
    · rw [hfl] at hc; obtain ⟨y,_,rfl⟩:=List.mem_map.1 hc; rfl
    · simp [obA,g]
    · rw [List.length_map]; exact htk
    · rw [hfl]
      refine ⟨by simp [g],fun i x y hx hy=>?_⟩
      rw [List.getElem?_map] at hx
      have hy:cs[i]? = some y:=hy
      rw [hy] at hx
      cases hx; rfl
  refine fin_sound (X:=X) (k0:=0) hX (r:=.va (.c1 (.sl 0 (cs.map fun u=>[C.vl u]).length))) (.pub 0 _ T 1 (by rfl) (.sel [] (by simp) (by simp [pubH]) rfl (.done ?_))) rfl ?_ hR
  · simp -dsimp only [go_sem,pubH]; simpa using hK
  · refine ⟨g,rfl,rfl,by simp [g],⟨_,_,_,rfl⟩,fun _=>?_⟩
    simp [g,obA]
theorem empty_any {X:Ctx} {ro:RO} {w w':World} (h:Rel X [] ro w) {o:Option Addr} {c:Nat} (hb:Below w.heap.size w w') {K:S->Hp->Prop} (hK:K (.va (.c1 (.fz []))) []) :
    ∃ r' E' ro',K r' (hp E')/\r'.rel (gm E') ro' (.slice o 0 c)/\Rel X E' ro' w':=
  ⟨.va (.c1 (.fz [])),[],ro,hK,FzR.mk (ro:=ro) [] 1 none o (fun h=>absurd rfl h) c (fun _=>undef) (by simp) (Nat.zero_le _) (by simp) (by simp) (by simp) (by simp) (by simp),h.aside (fun k hk=>hb.block k hk) hb.size hb.os hb.tape hb.output⟩
def clSSp:W.Spec:=fun av H K=>∃ l:List ByteArray,av=[.va (.c1 (.fz (l.map stR)))]/\H=[]/\l.length<=1000000000/\K (.va (.c1 (.fz (l.map stR)))) []
theorem clS_use {l:List ByteArray} {K:S->Hp->Prop} (h:l.length<=1000000000) (hK:K (.va (.c1 (.fz (l.map stR)))) []):clSSp [.va (.c1 (.fz (l.map stR)))] [] K:=⟨l,rfl,rfl,h,hK⟩
theorem clS_flat (l:List ByteArray):(l.map stR).flatten=(l.map Value.string).map C.vl:=by
  induction l with
  | nil=>rfl
  | cons x l ih=>rw [List.map_cons,List.flatten_cons,ih]; rfl
theorem clS_rows (l:List ByteArray):(l.map Value.string).map (fun u=>[C.vl u])=l.map stR:=by rw [List.map_map]; rfl
theorem mclS:Meets Tryz.prog 52 clSSp:=by
  refine ⟨by kernel_rfl,fun av vs E ro w K hlen hrel hR hs=>?_⟩
  obtain ⟨l,rfl,hH,hl,hK⟩:=hs
  match E,hH with
  | [],_=>
    match vs,hlen with
    | [v0],_=>
      have r0:FzR ro (l.map stR) v0:=hrel 0 _ _ rfl rfl
      cases hl0:l with
      | nil=>
        subst hl0
        generalize hx:([]:List ByteArray).map stR=xs at r0
        cases r0 with
        | mk xs sz o oa hoa cap us hz hc ho h1 h2 h3 h4=>
          subst hx
          have hK:K (.va (.c1 (.fz []))) []:=hK
          cases oa with
          | none=>
            refine (Any.slices_Clone_string_nil Tryz.lays16 0 cap w).mono ?_
            rintro e w' ⟨rfl,rfl⟩
            obtain ⟨r',E',ro',a1,a2,a3⟩:=empty_any (o:=none) (c:=0) hR (Below.refl _ _) hK
            exact ⟨r',_,E',ro',rfl,a2,a1,a3⟩
          | some a=>
            refine (Any.slices_Clone_string_zero Tryz.lays16 a cap w).mono ?_
            rintro e w' ⟨v',rfl,hown,_,hb⟩
            obtain ⟨o',c',rfl⟩:∃ o' c',v'=.slice o' 0 c':=by
              rcases hown.2 with ⟨rfl,_⟩ | ⟨b,c',cur,rfl,_⟩
              · exact ⟨none,0,rfl⟩
              · exact ⟨_,c',rfl⟩
            obtain ⟨r',E',ro',a1,a2,a3⟩:=empty_any (o:=o') (c:=c') hR hb hK
            exact ⟨r',_,E',ro',rfl,a2,a1,a3⟩
      | cons x0 lt=>
        have hne:l ≠ []:=by rw [hl0]; exact List.cons_ne_nil _ _
        clear hl0
        generalize hx:l.map stR=xs at r0
        cases r0 with
        | mk xs sz o oa hoa cap us hz hc ho h1 h2 h3 h4=>
          subst hx
          have hne2:l.map stR ≠ []:=by simpa using hne
          obtain ⟨⟨b,off⟩,rfl⟩:=Option.isSome_iff_exists.1 (ho hne2)
          obtain rfl:=hoa hne2
          have hcell:∀ j,j < l.length->w.cell? ⟨b,off + j,none⟩=some (Value.string (l.getD j ByteArray.empty)):=fun j hj=>by
            have hf:(l.map stR).flatten[j]? = some (.vl (Value.string (l.getD j ByteArray.empty))):=by
              rw [clS_flat,List.getElem?_map,List.getElem?_map,List.getElem?_eq_getElem hj]
              simp [hj]
            have e1:=h1 j _ hf
            have e2:=h2 j _ hf
            rw [e2] at e1
            exact hR.rd b (off + j) _ e1
          have key:=Any.slices_Clone_string Tryz.lays16 b off l.length cap l w (Nat.le_refl _) (by omega) hcell
          rw [List.take_length] at key
          rw [List.length_map]
          refine key.mono ?_
          rintro e w' ⟨v',rfl,hown,_,hb⟩
          rw [<-List.length_map (f:=Value.string)] at hown
          obtain ⟨r',E',ro',a1,a2,a3⟩:=row_any hR rfl (cs:=l.map Value.string) (by simpa using hne) (fun u hu=>by obtain ⟨y,_,rfl⟩:=List.mem_map.1 hu; rfl) hown hb (by rw [clS_rows]; exact hK)
          exact ⟨r',_,E',ro',rfl,a2,a1,a3⟩
def clISp:W.Spec:=fun av H K=>∃ l:List Int,av=[.va (.c1 (.fz (l.map inR)))]/\H=[]/\l.length<=1000000000/\K (.va (.c1 (.fz (l.map inR)))) []
theorem clI_use {l:List Int} {K:S->Hp->Prop} (h:l.length<=1000000000) (hK:K (.va (.c1 (.fz (l.map inR)))) []):clISp [.va (.c1 (.fz (l.map inR)))] [] K:=⟨l,rfl,rfl,h,hK⟩
theorem clI_flat (l:List Int):(l.map inR).flatten=(l.map (Value.int .i64)).map C.vl:=by
  induction l with
  | nil=>rfl
  | cons x l ih=>rw [List.map_cons,List.flatten_cons,ih]; rfl
theorem clI_rows (l:List Int):(l.map (Value.int .i64)).map (fun u=>[C.vl u])=l.map inR:=by rw [List.map_map]; rfl
theorem mclI:Meets Tryz.prog 53 clISp:=by
  refine ⟨by kernel_rfl,fun av vs E ro w K hlen hrel hR hs=>?_⟩
  obtain ⟨l,rfl,hH,hl,hK⟩:=hs
  match E,hH with
  | [],_=>
    match vs,hlen with
    | [v0],_=>
      have r0:FzR ro (l.map inR) v0:=hrel 0 _ _ rfl rfl
      cases hl0:l with
      | nil=>
        subst hl0
        generalize hx:([]:List Int).map inR=xs at r0
        cases r0 with
        | mk xs sz o oa hoa cap us hz hc ho h1 h2 h3 h4=>
          subst hx
          have hK:K (.va (.c1 (.fz []))) []:=hK
          cases oa with
          | none=>
            refine (Any.slices_Clone_int_nil Tryz.lays15 0 cap w).mono ?_
            rintro e w' ⟨rfl,rfl⟩
            obtain ⟨r',E',ro',a1,a2,a3⟩:=empty_any (o:=none) (c:=0) hR (Below.refl _ _) hK
            exact ⟨r',_,E',ro',rfl,a2,a1,a3⟩
          | some a=>
            refine (Any.slices_Clone_int_zero Tryz.lays15 a cap w).mono ?_
            rintro e w' ⟨v',rfl,hown,_,hb⟩
            obtain ⟨o',c',rfl⟩:∃ o' c',v'=.slice o' 0 c':=by
              rcases hown.2 with ⟨rfl,_⟩ | ⟨b,c',cur,rfl,_⟩
              · exact ⟨none,0,rfl⟩
              · exact ⟨_,c',rfl⟩
            obtain ⟨r',E',ro',a1,a2,a3⟩:=empty_any (o:=o') (c:=c') hR hb hK
            exact ⟨r',_,E',ro',rfl,a2,a1,a3⟩
      | cons x0 lt=>
        have hne:l ≠ []:=by rw [hl0]; exact List.cons_ne_nil _ _
        clear hl0
        generalize hx:l.map inR=xs at r0
        cases r0 with
        | mk xs sz o oa hoa cap us hz hc ho h1 h2 h3 h4=>
          subst hx
          have hne2:l.map inR ≠ []:=by simpa using hne
          obtain ⟨⟨b,off⟩,rfl⟩:=Option.isSome_iff_exists.1 (ho hne2)
          obtain rfl:=hoa hne2
          have hcell:∀ j,j < l.length->w.cell? ⟨b,off + j,none⟩=some (Value.int .i64 (l.getD j 0)):=fun j hj=>by
            have hf:(l.map inR).flatten[j]? = some (.vl (Value.int .i64 (l.getD j 0))):=by
              rw [clI_flat,List.getElem?_map,List.getElem?_map,List.getElem?_eq_getElem hj]
              simp [hj]
            have e1:=h1 j _ hf
            have e2:=h2 j _ hf
            rw [e2] at e1
            exact hR.rd b (off + j) _ e1
          have key:=Any.slices_Clone_int Tryz.lays15 b off l.length cap l w (Nat.le_refl _) (by omega) hcell
          rw [List.take_length] at key
          rw [List.length_map]
          refine key.mono ?_
          rintro e w' ⟨v',rfl,hown,_,hb⟩
          rw [<-List.length_map (f:=(Value.int .i64))] at hown
          obtain ⟨r',E',ro',a1,a2,a3⟩:=row_any hR rfl (cs:=l.map (Value.int .i64)) (by simpa using hne) (fun u hu=>by obtain ⟨y,_,rfl⟩:=List.mem_map.1 hu; rfl) hown hb (by rw [clI_rows]; exact hK)
          exact ⟨r',_,E',ro',rfl,a2,a1,a3⟩
end Go.Proofs.YtbcnggkldclemaaGreat
namespace Go.Proofs.YtbcnggkldclemaaGreat
open Go.W
set_option maxRecDepth 100000 in
theorem mEnumP:Meets Tryz.prog 24 enSpP:=by
  refine meets_fn Tryz.func24 ok24 2 (by rw [Tryz.ntmps24]; decide) (meetsAll_s mclS (meetsAll_s mclI (meetsAll_nil _))) (fun av H K h=>by obtain ⟨_,_,rfl,_⟩:=h; rfl) ?_
  rintro av H K ⟨s,n,rfl,rfl,hs,hK⟩
  rw [<-fEn_has] at hK
  have hl:=hs.ok.le
  simp -dsimp only [go_sem,scC,pc24,rs24]
  refine vc_loop (α:=Nat) (fun i=>[(1,tS n),(2,.va (.c1 (.pt 0 0))),(4,.va (.c1 (.pt 1 0))),(9,.va (.c1 (.fz (s.es.map enC)))),(10,iS .i64 s.es.length),(11,iS .i64 i)]) (fun _=>[.cells (scC s) 25,.cells [.vl (.string (mk [])),.vl (.slice none 0 0),.vl (.slice none 0 0)] 60])
    (fun i=>i<=s.es.length/\fEn (s.es.drop i) n=fEn s.es n) (fun i=>s.es.length - i) 0 2 ⟨Nat.zero_le _,rfl⟩ ?_ ?_ ?_
  · simp [go_sem]
  · simp [go_sem,scC]
  rintro i ⟨hi,ho⟩
  rcases Nat.lt_or_ge i s.es.length with hlt | hge
  · have hg:decide ((i:Int) < (s.es.length:Int))=true:=by simp; omega
    obtain ⟨t,hx⟩:∃ e,s.es[i]? = some e:=⟨_,List.getElem?_eq_getElem hlt⟩
    have q2:=row_rg' (row:=enC) hx
    have htm:=List.mem_of_getElem? hx
    rw [fEn,fnd_step hx] at ho
    cases hc:decide (t.nm=n) with
    | true=>
      rw [hc,Bool.cond_true] at ho
      rw [<-ho] at hK
      simp (maxSteps:=1000000) -dsimp only [go_sem,hg,↓q2,enC,scC,bl_beq,hc]
      refine ⟨by omega,clS_use (hs.en t htm).1 ?_⟩
      simp (maxSteps:=1000000) -dsimp only [go_sem]
      refine clI_use (hs.en t htm).2 ?_
      simp (maxSteps:=1000000) -dsimp only [go_sem]
      exact .sel [] (by simp) (by simp) rfl (.done (by simpa [go_sem,enC] using hK))
    | false=>
      rw [hc,Bool.cond_false] at ho
      simp (maxSteps:=1000000) -dsimp only [go_sem,hg,↓q2,enC,scC,bl_beq,hc]
      refine ⟨by omega,by omega,loop_next (i + 1) 2 ⟨by omega,ho⟩ (by omega) ?_ ?_⟩
      · simp [go_sem]
      · simp [go_sem,scC]
  · have hg:decide ((i:Int) < (s.es.length:Int))=false:=by simp; omega
    obtain rfl:i=s.es.length:=by omega
    rw [List.drop_length] at ho
    rw [<-ho] at hK
    simp -dsimp only [go_sem,hg,scC]
    exact .sel [] (by simp) (by simp) rfl (.done (by simpa [go_sem,fEn,enC_def] using hK))
end Go.Proofs.YtbcnggkldclemaaGreat
namespace Go.Proofs.YtbcnggkldclemaaGreat
open Go.W
theorem raw_BI {o n:Sc} (ho:o.fit) (hn:n.fit) (c1:checkF o=0) (c2:checkF n=0) (x:ByteArray):∀ z ∈ rawI o n x,BI z:=by
  intro z hz
  unfold rawI at hz
  obtain ⟨y,_,hy⟩:=List.mem_flatMap.1 hz
  unfold cmpN at hy
  cases h1:hasS o.ss y != hasS n.ss y with
  | true=>
    rw [h1] at hy
    obtain rfl:z=⟨5,0,y⟩:=by simpa using hy
    exact ⟨by dsimp only; omega,by dsimp only; omega⟩
  | false=>
    rw [h1,Bool.cond_false,List.mem_append] at hy
    rcases hy with hy | hy
    · cases h2:hasS o.ss y with
      | false=>rw [h2] at hy; cases hy
      | true=>
        have h3:hasS n.ss y=true:=by rw [h2] at h1; simpa using h1
        obtain ⟨t,e1,_,_,_,e3⟩:=str_good ho c1 h2
        obtain ⟨u,e4,_,_,_,e5⟩:=str_good hn c2 h3
        rw [h2,e1,e4] at hy
        simp only [Bool.cond_true,Option.getD_some,cmpS,List.mem_append,List.mem_flatMap] at hy
        rcases hy with ⟨f,hf,hy⟩ | ⟨f,hf,hy⟩
        · have hb:=(e3 f hf).1
          have:z.n=f.num/\1<=z.k/\z.k<=3:=by
            unfold isA at hy
            split at hy
            · cases ho':f.opt<;>rw [ho'] at hy
              · obtain rfl:=List.mem_singleton.1 hy; exact ⟨rfl,by dsimp only; omega,by dsimp only; omega⟩
              · cases hy
            · rename_i g _
              rcases List.mem_append.1 hy with hy | hy
              · cases hw:widF f.ty g.ty<;>rw [hw] at hy
                · obtain rfl:=List.mem_singleton.1 hy; exact ⟨rfl,by dsimp only; omega,by dsimp only; omega⟩
                · cases hy
              · cases hw:f.opt == g.opt<;>rw [hw] at hy
                · obtain rfl:=List.mem_singleton.1 hy; exact ⟨rfl,by dsimp only; omega,by dsimp only; omega⟩
                · cases hy
          exact ⟨by omega,by omega⟩
        · have hb:=(e5 f hf).1
          unfold isB at hy
          cases hw:(fF t.fs f.num).isNone && !f.opt<;>rw [hw] at hy
          · cases hy
          · obtain rfl:=List.mem_singleton.1 hy
            exact ⟨by dsimp only; omega,by show -1000<=f.num/\f.num<=1000; omega⟩
    · cases h2:hasE o.es y && hasE n.es y with
      | false=>rw [h2] at hy; cases hy
      | true=>
        rw [h2,Bool.cond_true,cmpE,cmpV,List.mem_map] at hy
        obtain ⟨v,hv,rfl⟩:=hy
        have hv:=(List.mem_filter.1 hv).1
        refine ⟨by show -1000<=(4:Int)/\(4:Int)<=1000; omega,?_⟩
        show -1000<=v/\v<=1000
        cases hf:fEn o.es y with
        | none=>rw [hf] at hv; cases hv
        | some e=>
          rw [hf] at hv
          have:=enu_vs ho c1 hf v hv
          omega
theorem stG_of {s:Sc} (hf:s.fit) (h:checkF s=0) (n:ByteArray):StG ((fS s.ss n).getD default):=by
  cases hs:fS s.ss n with
  | none=>exact ⟨⟨by decide,by decide,fun _ h=>(List.not_mem_nil h).elim⟩,by decide,fun _ h=>(List.not_mem_nil h).elim⟩
  | some t=>
    have hh:hasS s.ss n=true:=by rw [<-fS_has,hs]; rfl
    obtain ⟨u,e1,e2,_,e3,_⟩:=str_good hf h hh
    rw [e1] at hs
    cases hs
    exact ⟨hf.ok.ss t e2,by show t.fs.length<=1000; omega,(hf.sm t e2).2⟩
theorem enL_of {s:Sc} (hf:s.fit) (h:checkF s=0) (n:ByteArray):((fEn s.es n).getD default).vs.length<=16:=by
  cases hs:fEn s.es n with
  | none=>exact Nat.zero_le _
  | some e=>have:=enu_good hf h hs; show e.vs.length<=16; omega
theorem cmpV_len (nm:ByteArray) (vs:List Int) (e:En):(cmpV nm vs e).length<=vs.length:=by
  unfold cmpV; rw [List.length_map]; exact List.length_filter_le _ _
theorem cmpN_len {o n:Sc} (ho:o.fit) (hn:n.fit) (c1:checkF o=0) (c2:checkF n=0) (y:ByteArray):(cmpN o n y).length<=4000:=by
  unfold cmpN
  cases hasS o.ss y != hasS n.ss y with
  | true=>simp
  | false=>
    have g1:=(stG_of ho c1 y).len
    have g2:=(stG_of hn c2 y).len
    have h1:=fm_le (f:=isA y ((fS n.ss y).getD default)) (l:=((fS o.ss y).getD default).fs) fun a _=>isA_len y _ a
    have h2:=fm_le (f:=isB y ((fS o.ss y).getD default)) (l:=((fS n.ss y).getD default).fs) fun a _=>isB_len y _ a
    have h3:=enL_of ho c1 y
    have h4:=cmpV_len y ((fEn o.es y).getD default).vs ((fEn n.es y).getD default)
    rw [Bool.cond_false,List.length_append]
    cases hasS o.ss y<;>cases (hasE o.es y && hasE n.es y)<;>simp only [Bool.cond_true,Bool.cond_false,cmpS,cmpE,List.length_append,List.length_nil]<;>omega
theorem cmpV_next {vs:List Int} {j:Nat} {v:Int} (h:vs[j]? = some v) (nm:ByteArray) (e:En):cmpV nm (vs.take (j + 1)) e=cmpV nm (vs.take j) e ++ (bif inI e.vs v then [] else [⟨4,v,nm⟩]):=by
  have hI:inI e.vs v=e.vs.any (fun w=>decide (v=w)):=rfl
  unfold cmpV
  rw [take_next h,List.filter_append,List.map_append,hI]
  cases hh:e.vs.any (fun w=>decide (v=w)) with
  | true=>rw [List.filter_cons_of_neg (by rw [hh]; simp)]; rfl
  | false=>rw [List.filter_cons_of_pos (by rw [hh]; rfl)]; rfl
theorem cmpV_nil (nm:ByteArray) (e:En):cmpV nm [] e=[]:=rfl
theorem bif_nil {b:Bool}:(bif b then ([]:List Is) else [])=[]:=by cases b<;>rfl
def iuSp:W.Spec:=fun av H K=>∃ (o n:Sc) (x:ByteArray),av=[.va (.gs (scC o)),.va (.gs (scC n)),tS x]/\H=[]/\o.fit/\n.fit/\K (.va (.c1 (.fz ((issF o n x).map isC)))) []
theorem iu_use {o n:Sc} {x:ByteArray} {K:S->Hp->Prop} (h1:o.fit) (h2:n.fit) (hK:K (.va (.c1 (.fz ((issF o n x).map isC)))) []):iuSp [.va (.gs (scC o)),.va (.gs (scC n)),tS x] [] K:=⟨o,n,x,rfl,rfl,h1,h2,hK⟩
end Go.Proofs.YtbcnggkldclemaaGreat
namespace Go.Proofs.YtbcnggkldclemaaGreat
open Go.W
def pc4:PC:=.seq (.reg [⟨some 1,none,.e (.bx 25 (.t 0))⟩,⟨some 2,none,.q (.mv (.k (.bool false)))⟩]) (.seq (.reg [⟨some 3,none,.l (.ldn 3 (.t 1))⟩,⟨some 4,none,.cq 10 [(.t 3)]⟩,⟨some 5,none,.q (.not (.t 4))⟩,⟨some 2,none,.q (.mv (.t 5))⟩]) .ret)
def rs4:List RV:=[.mv (.t 2)]
theorem ok4:trFn Tryz.prog true ⟨fun r k=>if r=1/\k=1 then .q else .own [],fun _=>false⟩ Tryz.f4=some (pc4,rs4):=by kernel_rfl
end Go.Proofs.YtbcnggkldclemaaGreat
namespace Go.Proofs.YtbcnggkldclemaaGreat
open Go.W
structure ScG (s:Sc):Prop where
  fit:s.fit
  chk:checkF s=0
end Go.Proofs.YtbcnggkldclemaaGreat
namespace Go.Proofs.YtbcnggkldclemaaGreat
open Go.W
def levF:Nat->Ty->Nat
  | 0,_=>0
  | N + 1,t=>t.e.foldl (fun m u=>max m (1 + levF N u)) 0
abbrev lF (N:Nat):Nat->Ty->Nat:=fun m u=>max m (1 + levF N u)
theorem lF_ge (N:Nat):∀ (l:List Ty) (m:Nat),m<=l.foldl (lF N) m
  | [],_=>Nat.le_refl _
  | u :: l,m=>Nat.le_trans (Nat.le_max_left _ _) (lF_ge N l (max m (1 + levF N u)))
theorem lF_mem {N:Nat} {l:List Ty} {u:Ty} (h:u ∈ l):∀ m,1 + levF N u<=l.foldl (lF N) m:=by
  induction l with
  | nil=>cases h
  | cons v l ih=>
    intro m
    rcases List.mem_cons.1 h with rfl | h
    · exact Nat.le_trans (Nat.le_max_right m _) (lF_ge N l _)
    · exact ih h _
theorem lF_le {N B:Nat} {l:List Ty} (h:∀ u ∈ l,1 + levF N u<=B):∀ m,m<=B->l.foldl (lF N) m<=B:=by
  induction l with
  | nil=>exact fun _ h=>h
  | cons v l ih=>exact fun m hm=>ih (fun u hu=>h u (List.mem_cons_of_mem _ hu)) _ (Nat.max_le.2 ⟨hm,h v List.mem_cons_self⟩)
theorem levF_le:∀ (N:Nat) (t:Ty),levF N t<=N
  | 0,_=>Nat.le_refl _
  | N + 1,t=>lF_le (fun u _=>by have:=levF_le N u; omega) 0 (Nat.zero_le _)
theorem lev_h:∀ (N:Nat) (t:Ty),levF N t < N->t.h<=levF N t + 1
  | 0,_,h=>absurd h (Nat.not_lt_zero _)
  | N + 1,.mk k s n e,h=>by
    have hu:∀ u ∈ e,u.h<=levF (N + 1) (.mk k s n e):=fun u hu=>by
      have h1:1 + levF N u<=levF (N + 1) (.mk k s n e):=lF_mem (N:=N) (l:=e) hu 0
      have:=lev_h N u (by omega)
      omega
    rw [Ty.h]
    have:∀ (l:List Ty),(∀ u ∈ l,u.h<=levF (N + 1) (.mk k s n e))->Ty.hs l<=levF (N + 1) (.mk k s n e):=by
      intro l
      induction l with
      | nil=>exact fun _=>Nat.zero_le _
      | cons v l ih=>
        intro h
        rw [Ty.hs]
        exact Nat.max_le.2 ⟨h v List.mem_cons_self,ih fun u hu=>h u (List.mem_cons_of_mem _ hu)⟩
    have:=this e hu
    omega
theorem levF_gF {N:Nat} {l:List Ty} {i:Nat} {u:Ty} (hx:l[i]? = some u):(l.take (i + 1)).foldl (lF N) 0=max ((l.take i).foldl (lF N) 0) (1 + levF N u):=by
  rw [take_next hx,List.foldl_append]; rfl
def lePre (N:Nat):List S->Prop:=fun av=>match av with
  | [.va (.gs q),.va (.c1 (.vl (.int .i64 k)))]=>isTy q/\k=(N:Int)/\N<=1000
  | _=>False
theorem lePre_open {N:Nat} {av:List S} (h:lePre N av):∃ t:Ty,av=[.va (.gs (tyC t)),iS .i64 N]/\TyOk t/\N<=1000:=by
  unfold lePre at h
  split at h
  · obtain ⟨⟨t,rfl,ht⟩,rfl,h⟩:=h
    exact ⟨t,rfl,ht,h⟩
  · exact h.elim
noncomputable def leVal (N:Nat):List S->A:=fun av=>match av with
  | [.va (.gs q),.va (.c1 (.vl (.int .i64 _)))]=>iA .i64 (levF N (C.ty q))
  | _=>.gs []
noncomputable def leFn (N:Nat):Fun:=⟨lePre N,leVal N,fun av h=>by obtain ⟨a,rfl,_⟩:=lePre_open h; trivial⟩
theorem leFn_len {N:Nat}:∀ av H K,(leFn N).sp av H K->av.length=2:=fun av H K h=>by obtain ⟨a,rfl,_⟩:=lePre_open h.1.1; rfl
attribute [go_sem] leFn lePre leVal
set_option maxRecDepth 100000 in
set_option maxHeartbeats 1000000 in
theorem mLevel0:Meets Tryz.prog 48 (leFn 0).sp:=by
  refine meets_fn Tryz.func48 ok48 2 (by rw [Tryz.ntmps48]; decide) (meetsAll_nil _) leFn_len ?_
  rintro av H K ⟨⟨h,rfl⟩,hK⟩
  obtain ⟨t,rfl,ht,hN⟩:=lePre_open h
  have hK:K (iS .i64 0) []:=by
    have:(leFn 0).val [.va (.gs (tyC t)),iS .i64 ((0:Nat):Int)]=iA .i64 0:=by simp -dsimp only [go_sem]; rfl
    rw [this] at hK; exact hK
  clear h
  obtain ⟨k,s,n,e⟩:=t
  simp (maxSteps:=1000000) -dsimp only [go_sem,tyC,tysC_map,pc48,rs48]
  refine vc_loop (α:=Unit) (fun i=>[(1,iS .i64 0),(2,.va (.c1 (.pt 0 0))),(5,iS .i64 0),(6,iS .i64 0)]) (fun _=>[.cells (tyC (.mk k s n e)) 40])
    (fun i=>True) (fun i=>0) () 1 trivial ?_ ?_ ?_
  · simp -dsimp only [go_sem]
    simp
  · simp -dsimp only [go_sem,tyC,tysC_map]
  intro _ _
  have hg2:decide ((0:Int) < 0)=false:=rfl
  cases hg:decide ((0:Int) < (e.length:Int)) with
  | true=>
    simp (maxSteps:=1000000) -dsimp only [go_sem,hg,hg2,tyC,tysC_map]
    exact .sel [] (by simp) (by simp) rfl (.done (by simp -dsimp only [go_sem]; exact hK))
  | false=>
    simp (maxSteps:=1000000) -dsimp only [go_sem,hg,hg2,tyC,tysC_map]
    exact .sel [] (by simp) (by simp) rfl (.done (by simp -dsimp only [go_sem]; exact hK))
set_option maxRecDepth 100000 in
set_option maxHeartbeats 1000000 in
theorem mLevel:∀ N,Meets Tryz.prog 48 (leFn N).sp
  | 0=>mLevel0
  | N + 1=>by
    refine meets_fn Tryz.func48 ok48 2 (by rw [Tryz.ntmps48]; decide) (meetsAll_f (mLevel N) (meetsAll_nil _)) leFn_len ?_
    rintro av H K ⟨⟨h,rfl⟩,hK⟩
    obtain ⟨t,rfl,ht,hN⟩:=lePre_open h
    have hK:K (iS .i64 (levF (N + 1) t)) []:=by
      have:(leFn (N + 1)).val [.va (.gs (tyC t)),iS .i64 ((N + 1:Nat):Int)]=iA .i64 (levF (N + 1) t):=by simp -dsimp only [go_sem]
      rw [this] at hK; exact hK
    clear h
    obtain ⟨k,s,n,e⟩:=t
    have hte:=ht.e
    have hte2:=ht.len
    simp only [Ty.e] at hte hte2
    have hK:K (iS .i64 ((e.foldl (lF N) 0:Nat):Int)) []:=hK
    simp (maxSteps:=1000000) -dsimp only [go_sem,tyC,tysC_map,pc48,rs48]
    refine vc_loop (α:=Nat) (fun i=>[(1,iS .i64 ((N + 1:Nat):Int)),(2,.va (.c1 (.pt 0 0))),(5,iS .i64 (((e.take i).foldl (lF N) 0:Nat):Int)),(6,iS .i64 i)]) (fun _=>[.cells (tyC (.mk k s n e)) 40])
      (fun i=>i<=e.length) (fun i=>e.length - i) 0 1 (Nat.zero_le _) ?_ ?_ ?_
    · simp -dsimp only [go_sem]
      simp
    · simp -dsimp only [go_sem,tyC,tysC_map]
    intro i hi
    rcases Nat.lt_or_ge i e.length with hlt | hge
    · have hg:decide ((i:Int) < (e.length:Int))=true:=by simp; omega
      have hg2:decide (0 < ((N + 1:Nat):Int))=true:=decide_eq_true (by omega)
      obtain ⟨u,hx⟩:∃ t,e[i]? = some t:=⟨_,List.getElem?_eq_getElem hlt⟩
      have q1:=row_rg' (row:=tyC) hx
      have hu:isTy (tyC u):=isTy_mk (hte u (List.mem_of_getElem? hx))
      have hn1:((N + 1:Nat):Int) - 1=(N:Int):=by omega
      have hl:=levF_le N u
      simp (maxSteps:=1000000) -dsimp only [go_sem,hg,hg2,↓q1,tyC,tysC_map,tyC_len,hu,hn1]
      refine ⟨by omega,by omega,by omega,by omega,by omega,loop_next (i + 1) 1 (by omega) (by omega) ?_ ?_⟩
      · simp -dsimp only [go_sem,levF_gF hx]<;>simp<;>omega
      · simp -dsimp only [go_sem,tyC,tysC_map]
    · have hg:decide ((i:Int) < (e.length:Int))=false:=by simp; omega
      obtain rfl:i=e.length:=by omega
      rw [List.take_length]
      simp (maxSteps:=1000000) -dsimp only [go_sem,hg,tyC,tysC_map]
      exact .sel [] (by simp) (by simp) rfl (.done (by simp -dsimp only [go_sem]; exact hK))
mutual
def fewT:Ty->Bool
  | .mk k s n e=>bif decide (40 < (bl n).length) || decide (3 < e.length) || decide (8 < levF 20 (.mk k s n e)) then false else fewTs e
def fewTs:List Ty->Bool
  | []=>true
  | t :: r=>fewT t && fewTs r
end
theorem fewTs_all:∀ l:List Ty,fewTs l=l.all fewT
  | []=>rfl
  | t :: r=>by rw [fewTs,fewTs_all r]; rfl
theorem few_e {k s:Int} {n:ByteArray} {e:List Ty} (h:fewT (.mk k s n e)=true):((bl n).length<=40/\e.length<=3/\levF 20 (.mk k s n e)<=8)/\∀ u ∈ e,fewT u=true:=by
  rw [fewT] at h
  cases c:decide (40 < (bl n).length) || decide (3 < e.length) || decide (8 < levF 20 (.mk k s n e)) with
  | true=>rw [c] at h; cases h
  | false=>
    rw [c] at h
    simp only [Bool.or_eq_false_iff,decide_eq_false_iff_not] at c
    refine ⟨by omega,fun u hu=>?_⟩
    simp only [Bool.cond_false,fewTs_all,List.all_eq_true] at h
    exact h u hu
theorem few_h {t:Ty} (h:fewT t=true):t.h<=9:=by
  obtain ⟨k,s,n,e⟩:=t
  have h1:=(few_e h).1.2.2
  have:=lev_h 20 (.mk k s n e) (by omega)
  omega
theorem few_sm:∀ (N:Nat) (t:Ty),t.h<=N->fewT t=true->TySm t
  | 0,t,h,_=>absurd h (by have:=t.h_pos; omega)
  | N + 1,.mk k s n e,h,hf=>by
    obtain ⟨⟨_,h2,_⟩,h3⟩:=few_e hf
    refine .mk (by omega) fun u hu=>few_sm N u ?_ (h3 u hu)
    have:=Ty.hs_mem hu; rw [Ty.h] at h; omega
theorem lv_h:∀ (N:Nat) (t:Ty),t.h<=N->(lvT t).1<=t.h
  | 0,t,h=>absurd h (by have:=t.h_pos; omega)
  | N + 1,.mk k s n e,h=>by
    cases c:(k == 5 && decide (0 < (e.length:Int))) with
    | false=>rw [lvT_stop c]; exact Nat.zero_le _
    | true=>
      simp only [Bool.and_eq_true,beq_iff_eq,decide_eq_true_eq] at c
      obtain ⟨rfl,c⟩:=c
      cases e with
      | nil=>simp at c
      | cons u r=>
        rw [lvT_cons]
        have h2:=lv_h N u (by rw [Ty.h,Ty.hs] at h; omega)
        rw [Ty.h,Ty.hs]; simp only; omega
def ftPre (N:Nat):List S->Prop:=fun av=>match av with
  | [.va (.gs q)]=>isTy q/\(C.ty q).h<=N
  | _=>False
theorem ftPre_open {N:Nat} {av:List S} (h:ftPre N av):∃ t:Ty,av=[.va (.gs (tyC t))]/\TyOk t/\t.h<=N:=by
  unfold ftPre at h
  split at h
  · obtain ⟨⟨t,rfl,ht⟩,h⟩:=h
    rw [ty_dec] at h
    exact ⟨t,rfl,ht,h⟩
  · exact h.elim
noncomputable def ftVal:List S->A:=fun av=>match av with
  | [.va (.gs q)]=>bA (fewT (C.ty q))
  | _=>.gs []
noncomputable def ftFn (N:Nat):Fun:=⟨ftPre N,ftVal,fun av h=>by obtain ⟨a,rfl,_⟩:=ftPre_open h; trivial⟩
theorem ftFn_len {N:Nat}:∀ av H K,(ftFn N).sp av H K->av.length=1:=fun av H K h=>by obtain ⟨a,rfl,_⟩:=ftPre_open h.1.1; rfl
attribute [go_sem] ftFn ftPre ftVal
set_option maxRecDepth 100000 in
set_option maxHeartbeats 1000000 in
theorem mFewType':∀ N,Meets Tryz.prog 20 (ftFn N).sp
  | 0=>⟨by kernel_rfl,by rintro xs vs E ro w K _ _ _ ⟨⟨h,_⟩,_⟩; obtain ⟨a,_,_,h⟩:=ftPre_open h; have:=a.h_pos; omega⟩
  | N + 1=>by
    refine meets_fn Tryz.func20 ok20 1 (by rw [Tryz.ntmps20]; decide) (meetsAll_f (mLevel 20) (meetsAll_f (mFewType' N) (meetsAll_nil _))) ftFn_len ?_
    rintro av H K ⟨⟨h,rfl⟩,hK⟩
    obtain ⟨t,rfl,ht,hN⟩:=ftPre_open h
    have hK:K (bS (fewT t)) []:=by
      have:(ftFn (N + 1)).val [.va (.gs (tyC t))]=bA (fewT t):=by simp -dsimp only [go_sem]
      rw [this] at hK; exact hK
    clear h
    have hit:=isTy_mk ht
    obtain ⟨k,s,n,e⟩:=t
    have hte:=ht.e
    have hte2:=ht.len
    simp only [Ty.e] at hte hte2
    have fin:∀ (x:Bool) (R:Hp),fewT (.mk k s n e)=x->W.Fin 0 K (bS x) R:=fun x R h1=>by
      rw [h1] at hK
      exact .sel [] (by simp) (by simp) rfl (.done (by simpa [go_sem] using hK))
    have hcd:=ty_dec (.mk k s n e)
    have hF:=fewT.eq_1 k s n e
    rw [tyC,tysC_map] at hit hcd
    generalize hlv:levF 20 (.mk k s n e)=lv at hF
    have hl20:=levF_le 20 (.mk k s n e)
    rw [hlv] at hl20
    have e20:((20:Nat):Int)=20:=rfl
    have hb20:(20<=1000)=True:=by simp
    simp (maxSteps:=1000000) -dsimp only [go_sem,tyC,tysC_map,pc20,rs20,hit,hcd,hlv,e20,hb20]
    refine ⟨fun h1=>fin false _ ?_,fun h1=>?_⟩
    · rw [hF]
      simp only [Bool.or_eq_true,decide_eq_true_eq] at h1
      rw [show (decide (40 < (bl n).length) || decide (3 < e.length) || decide (8 < lv))=true by simp only [Bool.or_eq_true,decide_eq_true_eq]; omega]; rfl
    have hF2:fewT (.mk k s n e)=e.all fewT:=by
      simp only [Bool.or_eq_false_iff,decide_eq_false_iff_not] at h1
      rw [hF,show (decide (40 < (bl n).length) || decide (3 < e.length) || decide (8 < lv))=false by simp only [Bool.or_eq_false_iff,decide_eq_false_iff_not]; omega,fewTs_all]; rfl
    refine vc_loop (α:=Nat) (fun i=>[(1,.va (.c1 (.pt 0 0))),(3,iS .i64 i)]) (fun i=>[.cells (tyC (.mk k s n e)) 40])
      (fun i=>i<=e.length/\∀ u ∈ e.take i,fewT u=true) (fun i=>e.length - i) 0 1 ⟨Nat.zero_le _,fun u hu=>by cases hu⟩ ?_ ?_ ?_
    · simp -dsimp only [go_sem]<;>simp
    · simp -dsimp only [go_sem,tyC,tysC_map]
    rintro i ⟨hi,ho⟩
    rcases Nat.lt_or_ge i e.length with hlt | hge
    · have hg:decide ((i:Int) < (e.length:Int))=true:=by simp; omega
      obtain ⟨u,hx⟩:∃ t,e[i]? = some t:=⟨_,List.getElem?_eq_getElem hlt⟩
      have hum:=List.mem_of_getElem? hx
      have q1:=row_rg' (row:=tyC) hx
      have hu:isTy (tyC u):=isTy_mk (hte u hum)
      have huh:(u.h<=N)=True:=eq_true (by have:=Ty.hs_mem hum; rw [Ty.h] at hN; omega)
      simp (maxSteps:=1000000) -dsimp only [go_sem,hg,↓q1,tyC,tysC_map,tyC_len,hu,huh]
      refine ⟨by omega,fun h1=>fin false _ ?_,fun h1=>?_⟩
      · rw [hF2,List.all_eq_false]; exact ⟨u,hum,by simpa using h1⟩
      · refine ⟨by omega,loop_next (i + 1) 1 ⟨by omega,fun v hv=>?_⟩ (by omega) ?_ ?_⟩
        · rw [take_next hx] at hv
          rcases List.mem_append.1 hv with h | h
          · exact ho v h
          · obtain rfl:v=u:=by simpa using h
            simpa using h1
        · simp -dsimp only [go_sem]<;>simp
        · simp -dsimp only [go_sem,tyC,tysC_map]
    · have hg:decide ((i:Int) < (e.length:Int))=false:=by simp; omega
      obtain rfl:i=e.length:=by omega
      rw [List.take_length] at ho
      simp (maxSteps:=1000000) -dsimp only [go_sem,hg,tyC,tysC_map]
      exact fin true _ (by rw [hF2,List.all_eq_true]; exact ho)
noncomputable def f0Fn:Fun:=gFn isTy C.ty fun t=>.bool (fewT t)
attribute [go_sem] f0Fn
theorem mFewType:Meets Tryz.prog 20 f0Fn.sp:=meets_all 0 mFewType' fun av H K ⟨⟨h,e⟩,hK⟩=>by
  obtain ⟨_,rfl,t,rfl,ht⟩:=gPre_open h
  exact ⟨t.h,⟨⟨⟨isTy_mk ht,by rw [ty_dec]; exact Nat.le_refl _⟩,e⟩,hK⟩⟩
end Go.Proofs.YtbcnggkldclemaaGreat
namespace Go.Proofs.YtbcnggkldclemaaGreat
open Go.W
def fewE (e:En):Bool:=!(decide (40 < (bl e.nm).length) || decide (18 < e.ns.length) || decide (18 < e.vs.length)) && e.ns.all fun n=>!(decide (40 < (bl n).length))
def fewFl (f:Fl):Bool:=!(decide (40 < (bl f.nm).length) || !(fewT f.ty))
def fewSt (t:St):Bool:=!(decide (40 < (bl t.nm).length) || decide (18 < t.fs.length)) && t.fs.all fewFl
def fewS (s:Sc):Bool:=!(decide (18 < s.es.length) || decide (18 < s.ss.length)) && (s.es.all fewE && s.ss.all fewSt)
theorem few_fit {s:Sc} (h:s.ok) (hf:fewS s=true):s.fit:=by
  unfold fewS at hf
  simp only [Bool.and_eq_true,List.all_eq_true,Bool.not_eq_true',Bool.or_eq_false_iff,decide_eq_false_iff_not] at hf
  obtain ⟨_,he,hs⟩:=hf
  have hfl:∀ t ∈ s.ss,t.fs.length<=18/\∀ f ∈ t.fs,fewT f.ty=true:=fun t ht=>by
    have:=hs t ht
    unfold fewSt at this
    simp only [Bool.and_eq_true,List.all_eq_true,Bool.not_eq_true',Bool.or_eq_false_iff,decide_eq_false_iff_not] at this
    refine ⟨by omega,fun f hf=>?_⟩
    have:=this.2 f hf
    unfold fewFl at this
    simp only [Bool.not_eq_true',Bool.or_eq_false_iff,Bool.not_eq_false'] at this
    exact this.2
  refine ⟨h,fun t ht f hf=>?_,fun t ht=>⟨by have:=(hfl t ht).1; omega,fun f hf=>few_sm _ _ (Nat.le_refl _) ((hfl t ht).2 f hf)⟩,fun e hm=>?_⟩
  · have h1:=few_h ((hfl t ht).2 f hf)
    have h2:=lv_h _ f.ty (Nat.le_refl _)
    omega
  · have:=he e hm
    unfold fewE at this
    simp only [Bool.and_eq_true,List.all_eq_true,Bool.not_eq_true',Bool.or_eq_false_iff,decide_eq_false_iff_not] at this
    omega
theorem all_step {α:Type} {l:List α} {i:Nat} {x:α} (hx:l[i]? = some x) (p:α->Bool):(l.drop i).all p=(p x && (l.drop (i + 1)).all p):=by
  obtain ⟨h,rfl⟩:=List.getElem?_eq_some_iff.1 hx
  rw [List.drop_eq_getElem_cons h,List.all_cons]
theorem all_end {α:Type} {l:List α} (p:α->Bool):(l.drop l.length).all p=true:=by rw [List.drop_length]; rfl
set_option maxRecDepth 100000 in
set_option maxHeartbeats 4000000 in
theorem mFew:Meets Tryz.prog 10 (gFn isSc C.sc fun s=>.bool (fewS s)).sp:=by
  refine meets_fn Tryz.func10 ok10 1 (by rw [Tryz.ntmps10]; decide) (meetsAll_f mFewType (meetsAll_nil _)) gFn_len ?_
  rintro av H K ⟨⟨h,rfl⟩,hK⟩
  obtain ⟨_,rfl,s,rfl,hs⟩:=gPre_open h
  have hK:K (bS (fewS s)) []:=by
    have:(gFn isSc C.sc fun s=>.bool (fewS s)).val [.va (.gs (scC s))]=bA (fewS s):=by simp -dsimp only [go_sem]
    rw [this] at hK; exact hK
  clear h
  obtain ⟨hv,hle,hls,hes,hss⟩:=hs
  have fin:∀ (x:Bool) (R:Hp),fewS s=x->W.Fin 0 K (bS x) R:=fun x R h1=>by
    rw [h1] at hK
    exact .sel [] (by simp) (by simp) rfl (.done (by simpa [go_sem] using hK))
  simp (maxSteps:=1000000) -dsimp only [go_sem,scC,pc10,rs10]
  refine ⟨fun h1=>fin false _ ?_,fun h1=>?_⟩
  · unfold fewS
    rw [show (decide (18 < s.es.length) || decide (18 < s.ss.length))=true by simp only [Bool.or_eq_true,decide_eq_true_eq] at h1 ⊢; omega]; rfl
  have hF:fewS s=(s.es.all fewE && s.ss.all fewSt):=by
    unfold fewS
    rw [show (decide (18 < s.es.length) || decide (18 < s.ss.length))=false by simp only [Bool.or_eq_false_iff,decide_eq_false_iff_not] at h1 ⊢; omega]; rfl
  refine vc_loop (α:=Nat) (fun i=>[(1,.va (.c1 (.pt 0 0))),(3,iS .i64 i)]) (fun _=>[.cells (scC s) 25])
    (fun i=>i<=s.es.length/\(s.es.drop i).all fewE=s.es.all fewE) (fun i=>s.es.length - i) 0 1 ⟨Nat.zero_le _,rfl⟩ ?_ ?_ ?_
  · simp -dsimp only [go_sem]<;>simp
  · simp -dsimp only [go_sem,scC]<;>simp
  rintro i ⟨hi,ho⟩
  rcases Nat.lt_or_ge i s.es.length with hlt | hge
  · have hg:decide ((i:Int) < (s.es.length:Int))=true:=by simp; omega
    obtain ⟨e,hx⟩:∃ e,s.es[i]? = some e:=⟨_,List.getElem?_eq_getElem hlt⟩
    have hem:=List.mem_of_getElem? hx
    have q1:=row_rg' (row:=enC) hx
    obtain ⟨_,hln,hlv,_,_⟩:=hes e hem
    rw [all_step hx] at ho
    have bad:fewE e=false->∀ R,W.Fin 0 K (bS false) R:=fun h R=>fin false R (by rw [hF,<-ho,h]; rfl)
    have cst:∀ (a b:Nat),decide ((a:Int) < (b:Int))=decide (a < b):=fun a b=>by simp
    have hE:fewE e=(!(decide (40 < ((bl e.nm).length:Int)) || decide (18 < (e.ns.length:Int)) || decide (18 < (e.vs.length:Int))) && e.ns.all fun n=>!(decide (40 < ((bl n).length:Int)))):=by
      unfold fewE
      have c40:∀ b:Nat,decide (40 < (b:Int))=decide (40 < b):=fun b=>by simp; omega
      have c18:∀ b:Nat,decide (18 < (b:Int))=decide (18 < b):=fun b=>by simp; omega
      simp only [c40,c18]
    cases d1:decide (40 < ((bl e.nm).length:Int)) with
    | true=>
      rw [d1] at hE
      simp (maxSteps:=1000000) -dsimp only [go_sem,hg,↓q1,enC,scC,d1]
      exact ⟨by omega,bad hE _⟩
    | false=>
    cases d2:decide (18 < (e.ns.length:Int)) with
    | true=>
      rw [d1,d2] at hE
      simp (maxSteps:=1000000) -dsimp only [go_sem,hg,↓q1,enC,scC,d1,d2]
      exact ⟨by omega,by omega,bad hE _⟩
    | false=>
    cases d3:decide (18 < (e.vs.length:Int)) with
    | true=>
      rw [d1,d2,d3] at hE
      simp (maxSteps:=1000000) -dsimp only [go_sem,hg,↓q1,enC,scC,d1,d2,d3]
      exact ⟨by omega,by omega,by omega,bad hE _⟩
    | false=>
      rw [d1,d2,d3] at hE
      simp only [Bool.or_self,Bool.not_false,Bool.true_and] at hE
      simp (maxSteps:=1000000) -dsimp only [go_sem,hg,↓q1,enC,scC,d1,d2,d3]
      refine ⟨by omega,by omega,by omega,?_⟩
      refine vc_loop (α:=Nat) (fun k=>[(1,.va (.c1 (.pt 0 0))),(3,iS .i64 i),(4,iS .i64 k)]) (fun _=>[.cells (scC s) 25])
        (fun k=>k<=e.ns.length/\((e.ns.drop k).all fun n=>!(decide (40 < ((bl n).length:Int))))=e.ns.all fun n=>!(decide (40 < ((bl n).length:Int)))) (fun k=>e.ns.length - k) 0 1 ⟨Nat.zero_le _,rfl⟩ ?_ ?_ ?_
      · simp -dsimp only [go_sem]<;>simp
      · simp -dsimp only [go_sem,scC]<;>simp
      rintro k ⟨hk,ho2⟩
      rcases Nat.lt_or_ge k e.ns.length with hkt | hkg
      · have hgk:decide ((k:Int) < (e.ns.length:Int))=true:=by simp; omega
        obtain ⟨n,hn⟩:∃ n,e.ns[k]? = some n:=⟨_,List.getElem?_eq_getElem hkt⟩
        have q2:=row_rg' (row:=stR) hn
        rw [all_step hn] at ho2
        simp (maxSteps:=1000000) -dsimp only [go_sem,↓q1,enC,scC,hgk]
        simp (maxSteps:=1000000) -dsimp only [go_sem,hn,Option.some.injEq,forall_eq']
        refine ⟨by omega,by omega,by omega,fun h2=>bad (by rw [hE,<-ho2,h2]; rfl) _,fun h2=>?_⟩
        rw [h2] at ho2
        refine ⟨by omega,loop_next (k + 1) 1 ⟨by omega,by simpa using ho2⟩ (by omega) ?_ ?_⟩
        · simp -dsimp only [go_sem]<;>simp
        · simp -dsimp only [go_sem,scC]<;>simp
      · have hgk:decide ((k:Int) < (e.ns.length:Int))=false:=by simp; omega
        obtain rfl:k=e.ns.length:=by omega
        rw [all_end] at ho2
        rw [hE,<-ho2,Bool.true_and] at ho
        simp (maxSteps:=1000000) -dsimp only [go_sem,↓q1,enC,scC,hgk]
        refine ⟨by omega,by omega,loop_next (i + 1) 1 ⟨by omega,ho⟩ (by omega) ?_ ?_⟩
        · simp -dsimp only [go_sem]<;>simp
        · simp -dsimp only [go_sem,scC]<;>simp
  · have hg:decide ((i:Int) < (s.es.length:Int))=false:=by simp; omega
    obtain rfl:i=s.es.length:=by omega
    rw [all_end] at ho
    rw [<-ho,Bool.true_and] at hF
    simp (maxSteps:=1000000) -dsimp only [go_sem,hg,scC]
    clear ho hi hge hg
    refine vc_loop (α:=Nat) (fun i=>[(1,.va (.c1 (.pt 0 0))),(5,iS .i64 i)]) (fun _=>[.cells (scC s) 25])
      (fun i=>i<=s.ss.length/\(s.ss.drop i).all fewSt=s.ss.all fewSt) (fun i=>s.ss.length - i) 0 1 ⟨Nat.zero_le _,rfl⟩ ?_ ?_ ?_
    · simp -dsimp only [go_sem]<;>simp
    · simp -dsimp only [go_sem,scC]<;>simp
    rintro i ⟨hi,ho⟩
    rcases Nat.lt_or_ge i s.ss.length with hlt | hge
    · have hg:decide ((i:Int) < (s.ss.length:Int))=true:=by simp; omega
      obtain ⟨e,hx⟩:∃ e,s.ss[i]? = some e:=⟨_,List.getElem?_eq_getElem hlt⟩
      have hem:=List.mem_of_getElem? hx
      have q1:=row_rg' (row:=stC) hx
      obtain ⟨_,hln,hfs⟩:=hss e hem
      rw [all_step hx] at ho
      have bad:fewSt e=false->∀ R,W.Fin 0 K (bS false) R:=fun h R=>fin false R (by rw [hF,<-ho,h]; rfl)
      have hE:fewSt e=(!(decide (40 < ((bl e.nm).length:Int)) || decide (18 < (e.fs.length:Int))) && e.fs.all fewFl):=by
        unfold fewSt
        have c40:∀ b:Nat,decide (40 < (b:Int))=decide (40 < b):=fun b=>by simp; omega
        have c18:∀ b:Nat,decide (18 < (b:Int))=decide (18 < b):=fun b=>by simp; omega
        simp only [c40,c18]
      cases d1:decide (40 < ((bl e.nm).length:Int)) with
      | true=>
        rw [d1] at hE
        simp (maxSteps:=1000000) -dsimp only [go_sem,hg,↓q1,stC,scC,d1]
        exact ⟨by omega,bad hE _⟩
      | false=>
      cases d2:decide (18 < (e.fs.length:Int)) with
      | true=>
        rw [d1,d2] at hE
        simp (maxSteps:=1000000) -dsimp only [go_sem,hg,↓q1,stC,scC,d1,d2]
        exact ⟨by omega,by omega,bad hE _⟩
      | false=>
        rw [d1,d2] at hE
        simp only [Bool.or_self,Bool.not_false,Bool.true_and] at hE
        simp (maxSteps:=1000000) -dsimp only [go_sem,hg,↓q1,stC,scC,d1,d2]
        refine ⟨by omega,by omega,?_⟩
        refine vc_loop (α:=Nat) (fun k=>[(1,.va (.c1 (.pt 0 0))),(5,iS .i64 i),(6,iS .i64 k)]) (fun _=>[.cells (scC s) 25])
          (fun k=>k<=e.fs.length/\(e.fs.drop k).all fewFl=e.fs.all fewFl) (fun k=>e.fs.length - k) 0 1 ⟨Nat.zero_le _,rfl⟩ ?_ ?_ ?_
        · simp -dsimp only [go_sem]<;>simp
        · simp -dsimp only [go_sem,scC]<;>simp
        rintro k ⟨hk,ho2⟩
        rcases Nat.lt_or_ge k e.fs.length with hkt | hkg
        · have hgk:decide ((k:Int) < (e.fs.length:Int))=true:=by simp; omega
          obtain ⟨f,hn⟩:∃ n,e.fs[k]? = some n:=⟨_,List.getElem?_eq_getElem hkt⟩
          have q2:=row_rg' (row:=flC) hn
          have hity:isTy (tyC f.ty):=isTy_mk (hfs f (List.mem_of_getElem? hn)).ty
          rw [all_step hn] at ho2
          have hFl:fewFl f=!(decide (40 < ((bl f.nm).length:Int)) || !(fewT f.ty)):=by
            unfold fewFl
            have c40:∀ b:Nat,decide (40 < (b:Int))=decide (40 < b):=fun b=>by simp; omega
            simp only [c40]
          cases d3:decide (40 < ((bl f.nm).length:Int)) with
          | true=>
            rw [d3] at hFl
            simp (maxSteps:=1000000) -dsimp only [go_sem,↓q1,stC,scC,hgk]
            simp (maxSteps:=1000000) -dsimp only [go_sem,flC,hn,Option.some.injEq,forall_eq',d3]
            refine ⟨by omega,by omega,by omega,bad (by rw [hE,<-ho2,hFl]; rfl) _⟩
          | false=>
            rw [d3] at hFl
            simp only [Bool.false_or,Bool.not_not] at hFl
            rw [hFl] at ho2
            simp (maxSteps:=1000000) -dsimp only [go_sem,↓q1,stC,scC,hgk]
            simp (maxSteps:=1000000) -dsimp only [go_sem,flC,fl_ty,hity,hn,Option.some.injEq,forall_eq',d3]
            refine ⟨by omega,by omega,by omega,by omega,by omega,fun h2=>bad (by rw [hE,<-ho2,h2]; rfl) _,fun h2=>?_⟩
            rw [show fewT f.ty=true by simpa using h2,Bool.true_and] at ho2
            refine ⟨by omega,loop_next (k + 1) 1 ⟨by omega,ho2⟩ (by omega) ?_ ?_⟩
            · simp -dsimp only [go_sem]<;>simp
            · simp -dsimp only [go_sem,scC]<;>simp
        · have hgk:decide ((k:Int) < (e.fs.length:Int))=false:=by simp; omega
          obtain rfl:k=e.fs.length:=by omega
          rw [all_end] at ho2
          rw [hE,<-ho2,Bool.true_and] at ho
          simp (maxSteps:=1000000) -dsimp only [go_sem,↓q1,stC,scC,hgk]
          refine ⟨by omega,by omega,loop_next (i + 1) 1 ⟨by omega,ho⟩ (by omega) ?_ ?_⟩
          · simp -dsimp only [go_sem]<;>simp
          · simp -dsimp only [go_sem,scC]<;>simp
    · have hg:decide ((i:Int) < (s.ss.length:Int))=false:=by simp; omega
      obtain rfl:i=s.ss.length:=by omega
      rw [all_end] at ho
      simp (maxSteps:=1000000) -dsimp only [go_sem,hg,scC]
      exact fin true _ (by rw [hF,<-ho])
end Go.Proofs.YtbcnggkldclemaaGreat
namespace Go.Proofs.YtbcnggkldclemaaGreat
open Go.W
set_option maxRecDepth 100000 in
set_option maxHeartbeats 8000000 in
theorem mIssues:Meets Tryz.prog 11 iuSp:=by
  refine meets_fn Tryz.func11 ok11 3 (by rw [Tryz.ntmps11]; decide) (meetsAll_f mCheck (meetsAll_s mNamesE (meetsAll_s mStructP (meetsAll_s mEnumP (meetsAll_s mAdd (meetsAll_s mStructs (meetsAll_f mContainsI (meetsAll_s mSortI (meetsAll_nil _)))))))))
    (fun av H K h=>by obtain ⟨_,_,_,rfl,_⟩:=h; rfl) ?_
  rintro av H K ⟨o,n,x,rfl,rfl,ho,hn,hK⟩
  have hso:=isScF_mk ho
  have hsn:=isScF_mk hn
  have hdo:=sc_dec o
  have hdn:=sc_dec n
  rw [scC] at hso hsn hdo hdn
  have fin:∀ (l:List Is) (R:Hp),issF o n x=l->W.Fin 0 K (.va (.c1 (.fz (l.map isC)))) R:=fun l R h1=>by
    rw [h1] at hK
    exact .sel [] (by simp) (by simp) rfl (.done (by simpa [go_sem] using hK))
  by_cases c1:checkF o=0
  rotate_left
  · have e1:(checkF o != 0)=true:=by simpa using c1
    simp (maxSteps:=1000000) -dsimp only [go_sem,scC,pc11,rs11,hso,hsn,hdo,hdn,e1]
    exact fin [] _ (by unfold issF; rw [e1]; rfl)
  have e1:(checkF o != 0)=false:=by simp [c1]
  by_cases c2:checkF n=0
  rotate_left
  · have e2:(checkF n != 0)=true:=by simpa using c2
    simp (maxSteps:=1000000) -dsimp only [go_sem,scC,pc11,rs11,hso,hsn,hdo,hdn,e1,e2]
    exact fin [] _ (by unfold issF; rw [e1,e2]; rfl)
  have e2:(checkF n != 0)=false:=by simp [c2]
  have hiss:issF o n x=putA [] (rawI o n x):=by unfold issF; rw [e1,e2]; rfl
  have hlen:(nmsF o n x).length<=33:=by
    unfold nmsF
    have h1:=List.length_filter_le (inB (usL n x)) (usL o x)
    have h2:=usL_len ho x
    rw [List.length_cons]; omega
  simp (maxSteps:=1000000) -dsimp only [go_sem,scC,pc11,rs11,hso,hsn,hdo,hdn,e1,e2]
  refine nm_use ho hn ?_
  have hbd:∀ i,(addA [] (((nmsF o n x).take i).flatMap (cmpN o n))).length<=140000:=fun i=>by
    have h1:=addA_len (((nmsF o n x).take i).flatMap (cmpN o n)) []
    have h2:=fm_le (f:=cmpN o n) (l:=(nmsF o n x).take i) fun y _=>cmpN_len ho hn c1 c2 y
    have h3:((nmsF o n x).take i).length<=33:=by rw [List.length_take]; omega
    have h4:=Nat.mul_le_mul_right 4000 h3
    simp only [List.length_nil] at h1
    omega
  have hraw:rawI o n x=(nmsF o n x).flatMap (cmpN o n):=rfl
  have hBI:∀ z ∈ addA [] (rawI o n x),BI z:=fun z hz=>by
    rw [addA_mem] at hz
    rcases hz with hz | hz
    · cases hz
    · exact raw_BI ho hn c1 c2 x z hz
  generalize hns:nmsF o n x=ns at *
  simp (maxSteps:=1000000) -dsimp only [go_sem]
  refine vc_loop_gh (α:=Nat) (fun i=>[(3,.va (.c1 (.pt 0 0))),(4,.va (.c1 (.pt 1 0))),(7,.va (.c1 (.pt 2 0))),(33,.va (.c1 (.fz (ns.map stR)))),(34,iS .i64 ns.length),(35,iS .i64 i)]) (fun i=>[.cells (scC o) 25,.cells (scC n) 25,.cells [.sl 3 (addA [] ((ns.take i).flatMap (cmpN o n))).length] 64,.row ((addA [] ((ns.take i).flatMap (cmpN o n))).map isC) 50 3])
    (fun i=>i<=ns.length) (fun i=>ns.length - i) (.nilc 2 0 50 3 [.vl (.slice none 0 0)] 64 rfl rfl (gh_at 0 4 (Nat.zero_le _) ?_ ?_)) ?_
  · simp -dsimp only [go_sem]<;>simp
  · simp -dsimp only [go_sem,scC]<;>simp [addA]
  intro i hi
  have hbi:=hbd i
  rcases Nat.lt_or_ge i ns.length with hlt | hge
  · have hg:decide ((i:Int) < (ns.length:Int))=true:=by simp; omega
    obtain ⟨y,hx⟩:∃ t,ns[i]? = some t:=⟨_,List.getElem?_eq_getElem hlt⟩
    have q1:=row_rg' (row:=stR) hx
    have hnx:addA [] ((ns.take (i + 1)).flatMap (cmpN o n))=addA (addA [] ((ns.take i).flatMap (cmpN o n))) (cmpN o n y):=by rw [fm_next hx,addA_app]
    clear hns hraw hBI hiss hbd
    generalize hL:addA [] ((ns.take i).flatMap (cmpN o n))=L0 at *
    have ga:=stG_of ho c1 y
    have gb:=stG_of hn c2 y
    have hdl:=enL_of ho c1 y
    have hel:=enL_of hn c2 y
    have hcN:cmpN o n y=bif hasS o.ss y != hasS n.ss y then [⟨5,0,y⟩] else (bif hasS o.ss y then cmpS y ((fS o.ss y).getD default) ((fS n.ss y).getD default) else []) ++ (bif hasE o.es y && hasE n.es y then cmpV y ((fEn o.es y).getD default).vs ((fEn n.es y).getD default) else []):=rfl
    rw [hcN] at hnx
    clear hcN
    generalize hd:(fEn o.es y).getD default=d at *
    generalize he:(fEn n.es y).getD default=e at *
    simp (maxSteps:=1000000) -dsimp only [go_sem,hg,↓q1,scC]
    refine ⟨by omega,stp_use (s:=o) ho ?_⟩
    generalize (fS o.ss y).getD default=a at *
    simp (maxSteps:=1000000) -dsimp only [go_sem,stC]
    refine stp_use (s:=n) hn ?_
    generalize (fS n.ss y).getD default=b at *
    cases s1:hasS o.ss y with
    | true=>
      cases s2:hasS n.ss y with
      | true=>
        rw [s1,s2] at hnx
        simp only [bne_self_eq_false,Bool.cond_false,Bool.cond_true,addA_app] at hnx
        simp (maxSteps:=1000000) -dsimp only [go_sem,stC]
        refine ius_use (l:=L0) ga gb (by omega) ?_
        simp (maxSteps:=1000000) -dsimp only [go_sem]
        have hbL:(addA L0 (cmpS y a b)).length<=150000:=by
          have h1:=addA_len (cmpS y a b) L0
          have h2:=fm_le (f:=isA y b) (l:=a.fs) fun f _=>isA_len y _ f
          have h3:=fm_le (f:=isB y a) (l:=b.fs) fun f _=>isB_len y _ f
          have:=ga.len
          have:=gb.len
          unfold cmpS at h1 ⊢
          rw [List.length_append] at h1
          omega
        refine vc_tail (up:=[(3,.va (.c1 (.pt 0 0))),(4,.va (.c1 (.pt 1 0))),(7,.va (.c1 (.pt 2 0))),(9,tS y),(33,.va (.c1 (.fz (ns.map stR)))),(34,iS .i64 ns.length),(35,iS .i64 i)]) (Hs:=[.cells (scC o) 25,.cells (scC n) 25,.cells [.sl 3 (addA L0 (cmpS y a b)).length] 64,.row ((addA L0 (cmpS y a b)).map isC) 50 3]) 4 ?_ ?_ ?_
        rotate_left
        · simp -dsimp only [go_sem]<;>simp
        · simp -dsimp only [go_sem,scC]<;>simp
        generalize addA L0 (cmpS y a b)=L at *
        simp (maxSteps:=1000000) -dsimp only [go_sem,scC,pc11_13]
        refine enp_use (s:=o) ho ?_
        rw [show (fEn o.es y).getD default=d from hd]
        simp (maxSteps:=1000000) -dsimp only [go_sem,enC]
        refine enp_use (s:=n) hn ?_
        rw [show (fEn n.es y).getD default=e from he]
        simp (maxSteps:=1000000) -dsimp only [go_sem,enC]
        have hii:isIs (e.vs.map inR):=isIs_mk (by omega)
        have dii:=it_map e.vs
        generalize hasE o.es y=p at *
        generalize hasE n.es y=q at *
        have hbj:∀ j,(addA L (bif p && q then cmpV y (d.vs.take j) e else [])).length<=160000:=fun j=>by
          have h1:=addA_len (bif p && q then cmpV y (d.vs.take j) e else []) L
          have h2:=cmpV_len y (d.vs.take j) e
          rw [List.length_take] at h2
          have h3:(bif p && q then cmpV y (d.vs.take j) e else []).length<=16:=by cases p && q<;>simp only [Bool.cond_true,Bool.cond_false,List.length_nil]<;>omega
          omega
        refine vc_loop (α:=Nat) (fun j=>[(3,.va (.c1 (.pt 0 0))),(4,.va (.c1 (.pt 1 0))),(7,.va (.c1 (.pt 2 0))),(9,tS y),(15,bS p),(16,.va (.c1 (.pt 5 0))),(17,bS q),(33,.va (.c1 (.fz (ns.map stR)))),(34,iS .i64 ns.length),(35,iS .i64 i),(78,.va (.c1 (.fz (d.vs.map inR)))),(79,iS .i64 d.vs.length),(80,iS .i64 j)])
          (fun j=>[.cells (scC o) 25,.cells (scC n) 25,.cells [.sl 3 (addA L (bif p && q then cmpV y (d.vs.take j) e else [])).length] 64,.row ((addA L (bif p && q then cmpV y (d.vs.take j) e else [])).map isC) 50 3,.cells (enC d) 60,.cells (enC e) 60])
          (fun j=>j<=d.vs.length) (fun j=>d.vs.length - j) 0 6 (Nat.zero_le _) ?_ ?_ ?_
        · simp -dsimp only [go_sem]<;>simp
        · simp -dsimp only [go_sem,scC,enC,List.take_zero,cmpV_nil,bif_nil,addA_nil]<;>simp
        intro j hj
        have hbjj:=hbj j
        rcases Nat.lt_or_ge j d.vs.length with hltj | hgej
        · have hgj:decide ((j:Int) < (d.vs.length:Int))=true:=by simp; omega
          obtain ⟨v,hv⟩:∃ t,d.vs[j]? = some t:=⟨_,List.getElem?_eq_getElem hltj⟩
          have q3:=row_rg' (row:=inR) hv
          have hcn:=cmpV_next hv y e
          cases p with
          | false=>
            simp only [Bool.false_and,Bool.cond_false,addA_nil] at hbjj ⊢
            simp (maxSteps:=1000000) -dsimp only [go_sem,hgj,↓q3,scC,enC]
            refine ⟨by omega,by omega,loop_next (j + 1) 6 (by omega) (by omega) ?_ ?_⟩
            · simp -dsimp only [go_sem]<;>simp
            · simp -dsimp only [go_sem,scC,enC]<;>simp
          | true=>
          cases q with
          | false=>
            simp only [Bool.and_false,Bool.cond_false,addA_nil] at hbjj ⊢
            simp (maxSteps:=1000000) -dsimp only [go_sem,hgj,↓q3,scC,enC]
            refine ⟨by omega,by omega,loop_next (j + 1) 6 (by omega) (by omega) ?_ ?_⟩
            · simp -dsimp only [go_sem]<;>simp
            · simp -dsimp only [go_sem,scC,enC]<;>simp
          | true=>
            simp only [Bool.and_self,Bool.cond_true] at hbjj ⊢
            have hjn:addA L (cmpV y (d.vs.take (j + 1)) e)=addA (addA L (cmpV y (d.vs.take j) e)) (bif inI e.vs v then [] else [⟨4,v,y⟩]):=by rw [hcn,addA_app]
            generalize hM:addA L (cmpV y (d.vs.take j) e)=M at *
            cases hc:inI e.vs v with
            | true=>
              rw [hc,Bool.cond_true,addA_nil] at hjn
              simp (maxSteps:=1000000) -dsimp only [go_sem,hgj,↓q3,scC,enC,hii,dii,hc]
              refine ⟨by omega,by omega,loop_next (j + 1) 6 (by omega) (by omega) ?_ ?_⟩
              · simp -dsimp only [go_sem]<;>simp
              · simp -dsimp only [go_sem,scC,enC,hjn]<;>simp
            | false=>
              rw [hc,Bool.cond_false,addA_one] at hjn
              simp (maxSteps:=1000000) -dsimp only [go_sem,hgj,↓q3,scC,enC,hii,dii,hc]
              refine ⟨by omega,ad_use (l:=M) (by omega) ?_⟩
              simp (maxSteps:=1000000) -dsimp only [go_sem]
              refine ⟨by omega,loop_next (j + 1) 6 (by omega) (by omega) ?_ ?_⟩
              · simp -dsimp only [go_sem]<;>simp
              · simp -dsimp only [go_sem,scC,enC,hjn]<;>simp
        · have hgj:decide ((j:Int) < (d.vs.length:Int))=false:=by simp; omega
          obtain rfl:j=d.vs.length:=by omega
          simp only [List.take_length]
          rw [<-hnx]
          simp (maxSteps:=1000000) -dsimp only [go_sem,hgj,scC,enC]
          refine ⟨by omega,loop_next (i + 1) 4 (by omega) (by omega) ?_ ?_⟩
          · simp -dsimp only [go_sem]<;>simp
          · simp -dsimp only [go_sem,scC]<;>simp
      | false=>
        rw [s1,s2] at hnx
        simp only [Bool.true_bne,Bool.not_false,Bool.cond_true,addA_one] at hnx
        simp (maxSteps:=1000000) -dsimp only [go_sem,stC]
        refine ad_use (l:=L0) (by omega) ?_
        simp (maxSteps:=1000000) -dsimp only [go_sem]
        refine ⟨by omega,loop_next (i + 1) 4 (by omega) (by omega) ?_ ?_⟩
        · simp -dsimp only [go_sem]<;>simp
        · simp -dsimp only [go_sem,scC,hnx]<;>simp
    | false=>
      cases s2:hasS n.ss y with
      | true=>
        rw [s1,s2] at hnx
        simp only [Bool.false_bne,Bool.cond_true,addA_one] at hnx
        simp (maxSteps:=1000000) -dsimp only [go_sem,stC]
        refine ad_use (l:=L0) (by omega) ?_
        simp (maxSteps:=1000000) -dsimp only [go_sem]
        refine ⟨by omega,loop_next (i + 1) 4 (by omega) (by omega) ?_ ?_⟩
        · simp -dsimp only [go_sem]<;>simp
        · simp -dsimp only [go_sem,scC,hnx]<;>simp
      | false=>
        rw [s1,s2] at hnx
        simp only [bne_self_eq_false,Bool.cond_false,List.nil_append] at hnx
        simp (maxSteps:=1000000) -dsimp only [go_sem,stC]
        have hbL:L0.length<=150000:=by omega
        refine vc_tail (up:=[(3,.va (.c1 (.pt 0 0))),(4,.va (.c1 (.pt 1 0))),(7,.va (.c1 (.pt 2 0))),(9,tS y),(33,.va (.c1 (.fz (ns.map stR)))),(34,iS .i64 ns.length),(35,iS .i64 i)]) (Hs:=[.cells (scC o) 25,.cells (scC n) 25,.cells [.sl 3 L0.length] 64,.row (L0.map isC) 50 3]) 4 ?_ ?_ ?_
        rotate_left
        · simp -dsimp only [go_sem]<;>simp
        · simp -dsimp only [go_sem,scC]<;>simp
        generalize L0=L at *
        simp (maxSteps:=1000000) -dsimp only [go_sem,scC,pc11_13]
        refine enp_use (s:=o) ho ?_
        rw [show (fEn o.es y).getD default=d from hd]
        simp (maxSteps:=1000000) -dsimp only [go_sem,enC]
        refine enp_use (s:=n) hn ?_
        rw [show (fEn n.es y).getD default=e from he]
        simp (maxSteps:=1000000) -dsimp only [go_sem,enC]
        have hii:isIs (e.vs.map inR):=isIs_mk (by omega)
        have dii:=it_map e.vs
        generalize hasE o.es y=p at *
        generalize hasE n.es y=q at *
        have hbj:∀ j,(addA L (bif p && q then cmpV y (d.vs.take j) e else [])).length<=160000:=fun j=>by
          have h1:=addA_len (bif p && q then cmpV y (d.vs.take j) e else []) L
          have h2:=cmpV_len y (d.vs.take j) e
          rw [List.length_take] at h2
          have h3:(bif p && q then cmpV y (d.vs.take j) e else []).length<=16:=by cases p && q<;>simp only [Bool.cond_true,Bool.cond_false,List.length_nil]<;>omega
          omega
        refine vc_loop (α:=Nat) (fun j=>[(3,.va (.c1 (.pt 0 0))),(4,.va (.c1 (.pt 1 0))),(7,.va (.c1 (.pt 2 0))),(9,tS y),(15,bS p),(16,.va (.c1 (.pt 5 0))),(17,bS q),(33,.va (.c1 (.fz (ns.map stR)))),(34,iS .i64 ns.length),(35,iS .i64 i),(78,.va (.c1 (.fz (d.vs.map inR)))),(79,iS .i64 d.vs.length),(80,iS .i64 j)])
          (fun j=>[.cells (scC o) 25,.cells (scC n) 25,.cells [.sl 3 (addA L (bif p && q then cmpV y (d.vs.take j) e else [])).length] 64,.row ((addA L (bif p && q then cmpV y (d.vs.take j) e else [])).map isC) 50 3,.cells (enC d) 60,.cells (enC e) 60])
          (fun j=>j<=d.vs.length) (fun j=>d.vs.length - j) 0 6 (Nat.zero_le _) ?_ ?_ ?_
        · simp -dsimp only [go_sem]<;>simp
        · simp -dsimp only [go_sem,scC,enC,List.take_zero,cmpV_nil,bif_nil,addA_nil]<;>simp
        intro j hj
        have hbjj:=hbj j
        rcases Nat.lt_or_ge j d.vs.length with hltj | hgej
        · have hgj:decide ((j:Int) < (d.vs.length:Int))=true:=by simp; omega
          obtain ⟨v,hv⟩:∃ t,d.vs[j]? = some t:=⟨_,List.getElem?_eq_getElem hltj⟩
          have q3:=row_rg' (row:=inR) hv
          have hcn:=cmpV_next hv y e
          cases p with
          | false=>
            simp only [Bool.false_and,Bool.cond_false,addA_nil] at hbjj ⊢
            simp (maxSteps:=1000000) -dsimp only [go_sem,hgj,↓q3,scC,enC]
            refine ⟨by omega,by omega,loop_next (j + 1) 6 (by omega) (by omega) ?_ ?_⟩
            · simp -dsimp only [go_sem]<;>simp
            · simp -dsimp only [go_sem,scC,enC]<;>simp
          | true=>
          cases q with
          | false=>
            simp only [Bool.and_false,Bool.cond_false,addA_nil] at hbjj ⊢
            simp (maxSteps:=1000000) -dsimp only [go_sem,hgj,↓q3,scC,enC]
            refine ⟨by omega,by omega,loop_next (j + 1) 6 (by omega) (by omega) ?_ ?_⟩
            · simp -dsimp only [go_sem]<;>simp
            · simp -dsimp only [go_sem,scC,enC]<;>simp
          | true=>
            simp only [Bool.and_self,Bool.cond_true] at hbjj ⊢
            have hjn:addA L (cmpV y (d.vs.take (j + 1)) e)=addA (addA L (cmpV y (d.vs.take j) e)) (bif inI e.vs v then [] else [⟨4,v,y⟩]):=by rw [hcn,addA_app]
            generalize hM:addA L (cmpV y (d.vs.take j) e)=M at *
            cases hc:inI e.vs v with
            | true=>
              rw [hc,Bool.cond_true,addA_nil] at hjn
              simp (maxSteps:=1000000) -dsimp only [go_sem,hgj,↓q3,scC,enC,hii,dii,hc]
              refine ⟨by omega,by omega,loop_next (j + 1) 6 (by omega) (by omega) ?_ ?_⟩
              · simp -dsimp only [go_sem]<;>simp
              · simp -dsimp only [go_sem,scC,enC,hjn]<;>simp
            | false=>
              rw [hc,Bool.cond_false,addA_one] at hjn
              simp (maxSteps:=1000000) -dsimp only [go_sem,hgj,↓q3,scC,enC,hii,dii,hc]
              refine ⟨by omega,ad_use (l:=M) (by omega) ?_⟩
              simp (maxSteps:=1000000) -dsimp only [go_sem]
              refine ⟨by omega,loop_next (j + 1) 6 (by omega) (by omega) ?_ ?_⟩
              · simp -dsimp only [go_sem]<;>simp
              · simp -dsimp only [go_sem,scC,enC,hjn]<;>simp
        · have hgj:decide ((j:Int) < (d.vs.length:Int))=false:=by simp; omega
          obtain rfl:j=d.vs.length:=by omega
          simp only [List.take_length]
          rw [<-hnx]
          simp (maxSteps:=1000000) -dsimp only [go_sem,hgj,scC,enC]
          refine ⟨by omega,loop_next (i + 1) 4 (by omega) (by omega) ?_ ?_⟩
          · simp -dsimp only [go_sem]<;>simp
          · simp -dsimp only [go_sem,scC]<;>simp
  · have hg:decide ((i:Int) < (ns.length:Int))=false:=by simp; omega
    obtain rfl:i=ns.length:=by omega
    rw [List.take_length] at hbi ⊢
    rw [<-hraw] at hbi ⊢
    simp (maxSteps:=1000000) -dsimp only [go_sem,hg,scC]
    refine sr_use (l:=addA [] (rawI o n x)) (by omega) hBI fun l' hp hs=>?_
    have hr:=iss_sorted hp hs
    rw [<-hp.length_eq]
    simp (maxSteps:=1000000) -dsimp only [go_sem]
    rw [show l'.length=(l'.map isC).length by simp]
    refine .pub 3 _ _ _ rfl (.sel [] (by simp) (by simp [pubH]) rfl (.done ?_))
    simp -dsimp only [go_sem,pubH]
    rw [hiss,<-hr] at hK
    simpa using hK
end Go.Proofs.YtbcnggkldclemaaGreat
namespace Go.Proofs.YtbcnggkldclemaaGreat
open Go.W
def coPre:List S->Prop:=fun av=>match av with
  | [.va (.gs r),.va (.gs q),.va (.c1 (.vl (.string _)))]=>isScF r/\isScF q
  | _=>False
theorem coPre_open {av:List S} (h:coPre av):∃ (o n:Sc) (x:ByteArray),av=[.va (.gs (scC o)),.va (.gs (scC n)),tS x]/\o.fit/\n.fit:=by
  unfold coPre at h
  split at h
  · obtain ⟨⟨o,rfl,ho⟩,⟨n,rfl,hn⟩⟩:=h; exact ⟨o,n,_,rfl,ho,hn⟩
  · exact h.elim
noncomputable def coVal:List S->A:=fun av=>match av with
  | [.va (.gs r),.va (.gs q),.va (.c1 (.vl (.string x)))]=>bA (coF (C.sc r) (C.sc q) x)
  | _=>.gs []
noncomputable def coFn:Fun:=⟨coPre,coVal,fun av h=>by obtain ⟨o,n,x,rfl,_⟩:=coPre_open h; trivial⟩
theorem coFn_len:∀ av H K,coFn.sp av H K->av.length=3:=fun av H K h=>by obtain ⟨o,n,x,rfl,_⟩:=coPre_open h.1.1; rfl
attribute [go_sem] coFn coPre coVal
set_option maxRecDepth 100000 in
set_option maxHeartbeats 2000000 in
theorem mCompatible:Meets Tryz.prog 12 coFn.sp:=by
  refine meets_fn Tryz.func12 ok12 3 (by rw [Tryz.ntmps12]; decide) (meetsAll_f mCheck (meetsAll_s mStructP (meetsAll_s mIssues (meetsAll_nil _)))) coFn_len ?_
  rintro av H K ⟨⟨h,rfl⟩,hK⟩
  obtain ⟨o,n,x,rfl,ho,hn⟩:=coPre_open h
  replace hK:K (bS (coF o n x)) []:=by
    have:coFn.val [.va (.gs (scC o)),.va (.gs (scC n)),tS x]=bA (coF o n x):=by simp -dsimp only [go_sem]
    rw [this] at hK; exact hK
  clear h
  have hso:=isScF_mk ho
  have hsn:=isScF_mk hn
  have hdo:=sc_dec o
  have hdn:=sc_dec n
  rw [scC] at hso hsn hdo hdn
  have fin:∀ (b:Bool) (R:Hp),coF o n x=b->W.Fin 0 K (bS b) R:=fun b R h1=>by
    rw [h1] at hK
    exact .sel [] (by simp) (by simp) rfl (.done (by simpa [go_sem] using hK))
  by_cases c1:checkF o=0
  rotate_left
  · have e1:(checkF o != 0)=true:=by simpa using c1
    simp (maxSteps:=1000000) -dsimp only [go_sem,scC,pc12,rs12,hso,hsn,hdo,hdn,e1]
    exact fin false _ (by unfold coF; rw [e1]; rfl)
  have e1:(checkF o != 0)=false:=by simp [c1]
  by_cases c2:checkF n=0
  rotate_left
  · have e2:(checkF n != 0)=true:=by simpa using c2
    simp (maxSteps:=1000000) -dsimp only [go_sem,scC,pc12,rs12,hso,hsn,hdo,hdn,e1,e2]
    exact fin false _ (by unfold coF; rw [e1,e2]; rfl)
  have e2:(checkF n != 0)=false:=by simp [c2]
  have hco:coF o n x=(hasS o.ss x && hasS n.ss x && (((issF o n x).length:Int) == 0)):=by unfold coF; rw [e1,e2]; rfl
  simp (maxSteps:=1000000) -dsimp only [go_sem,scC,pc12,rs12,hso,hsn,hdo,hdn,e1,e2]
  refine stp_use ho ?_
  generalize (fS o.ss x).getD default=a
  simp (maxSteps:=1000000) -dsimp only [go_sem,stC]
  refine vc_tail (up:=[(2,tS x),(3,.va (.c1 (.pt 0 0))),(4,.va (.c1 (.pt 1 0))),(8,bS (hasS o.ss x))]) (Hs:=[.cells (scC o) 25,.cells (scC n) 25]) 2 ?_ ?_ ?_
  rotate_left
  · simp -dsimp only [go_sem]<;>simp
  · simp -dsimp only [go_sem,scC]<;>simp
  simp (maxSteps:=1000000) -dsimp only [go_sem,scC,pc12_4]
  refine stp_use hn ?_
  generalize (fS n.ss x).getD default=b
  simp (maxSteps:=1000000) -dsimp only [go_sem,stC]
  refine vc_tail (up:=[(2,tS x),(3,.va (.c1 (.pt 0 0))),(4,.va (.c1 (.pt 1 0))),(8,bS (hasS o.ss x)),(10,bS (hasS n.ss x))]) (Hs:=[.cells (scC o) 25,.cells (scC n) 25]) 2 ?_ ?_ ?_
  rotate_left
  · simp -dsimp only [go_sem]<;>simp
  · simp -dsimp only [go_sem,scC]<;>simp
  cases s1:hasS o.ss x with
  | false=>
    rw [s1] at hco
    simp (maxSteps:=1000000) -dsimp only [go_sem,scC,pc12_5]
    exact fin false _ (by rw [hco]; rfl)
  | true=>
    cases s2:hasS n.ss x with
    | false=>
      rw [s1,s2] at hco
      simp (maxSteps:=1000000) -dsimp only [go_sem,scC,pc12_5]
      exact fin false _ (by rw [hco]; rfl)
    | true=>
      rw [s1,s2] at hco
      simp (maxSteps:=1000000) -dsimp only [go_sem,scC,pc12_5]
      refine iu_use ho hn ?_
      simp (maxSteps:=1000000) -dsimp only [go_sem]
      exact fin _ _ (by rw [hco]; rfl)
end Go.Proofs.YtbcnggkldclemaaGreat
namespace Go.Proofs.YtbcnggkldclemaaGreat
open Go.W
noncomputable def lgFn:Fun:=gFn isSc C.sc fun s=>.bool (!fewS s)
attribute [go_sem] lgFn
set_option maxRecDepth 100000 in
theorem mLarge12:Meets Tryz.prog 4 lgFn.sp:=by
  refine meets_fn Tryz.func4 ok4 1 (by rw [Tryz.ntmps4]; decide) (meetsAll_f mFew (meetsAll_nil _)) gFn_len ?_
  rintro av H K ⟨⟨h,rfl⟩,hK⟩
  obtain ⟨_,rfl,s,rfl,hs⟩:=gPre_open h
  replace hK:K (bS (!fewS s)) []:=by
    have:lgFn.val [.va (.gs (scC s))]=bA (!fewS s):=by simp -dsimp only [go_sem]
    rw [this] at hK; exact hK
  clear h
  have hsc:=isSc_mk hs
  have hdc:=sc_dec s
  rw [scC] at hsc hdc
  simp (maxSteps:=1000000) -dsimp only [go_sem,scC,pc4,rs4,hsc,hdc]
  exact .sel [] (by simp) (by simp) rfl (.done (by simpa [go_sem] using hK))
end Go.Proofs.YtbcnggkldclemaaGreat
namespace Go.Proofs.YtbcnggkldclemaaGreat
open Go.W
abbrev nTop:ByteArray:=mk [84,111,112]
abbrev nX:ByteArray:=mk [120]
def tyA:Ty:=.mk 2 8 (mk []) []
def tyW:Ty:=.mk 2 16 (mk []) []
def flA:Fl:=⟨2,nX,tyA,false⟩
def flW:Fl:=⟨2,nX,tyW,false⟩
def stX:St:=⟨nTop,[flA]⟩
def stY:St:=⟨nTop,[flW]⟩
def exA:Sc:=⟨1,[],[stX]⟩
def exB:Sc:=⟨2,[],[stY]⟩
theorem fit_one {v s:Int} (h1:in64 v) (h2:in64 s):(⟨v,[],[⟨nTop,[⟨2,nX,.mk 2 s (mk []) [],false⟩]⟩]⟩:Sc).fit:=by
  have hok:TyOk (.mk 2 s (mk []) []):=.mk (by unfold in64; omega) h2 (by decide) (Nat.zero_le _) (fun t h=>by cases h)
  have hsm:TySm (.mk 2 s (mk []) []):=.mk (Nat.zero_le _) (fun t h=>by cases h)
  have hst:∀ t ∈ [(⟨nTop,[⟨2,nX,.mk 2 s (mk []) [],false⟩]⟩:St)],t=⟨nTop,[⟨2,nX,.mk 2 s (mk []) [],false⟩]⟩:=fun t ht=>by simpa using ht
  have n1:nTop.size<=9223372036854775807:=by decide
  have n2:nX.size<=9223372036854775807:=by decide
  have n3:in64 2:=by unfold in64; decide
  refine ⟨⟨h1,by simp,by simp,fun e he=>(by cases he),fun t ht=>?_⟩,fun t ht f hf=>?_,fun t ht=>?_,fun e he=>(by cases he)⟩
  · rw [hst t ht]
    refine ⟨n1,by simp,fun f hf=>?_⟩
    obtain rfl:=List.mem_singleton.1 hf
    exact ⟨n3,n2,hok⟩
  · rw [hst t ht] at hf
    obtain rfl:=List.mem_singleton.1 hf
    show (lvT (.mk 2 s (mk []) [])).1<=1000000000
    rw [show (lvT (.mk 2 s (mk []) [])).1=0 from rfl]; omega
  · rw [hst t ht]
    refine ⟨by simp,fun f hf=>?_⟩
    obtain rfl:=List.mem_singleton.1 hf
    exact hsm
theorem a_fit:exA.fit:=fit_one (v:=1) (s:=8) (by unfold in64; omega) (by unfold in64; omega)
theorem b_fit:exB.fit:=fit_one (v:=2) (s:=16) (by unfold in64; omega) (by unfold in64; omega)
theorem inB_uses (ss:List St) (n x:ByteArray):inB (usesF ss n) x=inB (visAll ss n) x:=by
  rw [Bool.eq_iff_iff,inB_iff,inB_iff,usesF,mem_srtB]
theorem a_vis:visAll exA.ss nTop=[]:=by decide +kernel
theorem b_vis:visAll exB.ss nTop=[]:=by decide +kernel
theorem a_acy:exA.ss.any (fun t=>inB (usesF exA.ss t.nm) t.nm)=false:=by
  simp only [inB_uses]; decide +kernel
theorem b_acy:exB.ss.any (fun t=>inB (usesF exB.ss t.nm) t.nm)=false:=by
  simp only [inB_uses]; decide +kernel
theorem a_check:checkF exA=0:=by
  have h1:largeF exA=false:=by decide +kernel
  have h2:enF exA=0:=by decide +kernel
  have h3:stF exA=0:=by decide +kernel
  have g:=good_of a_fit h1 h3
  have ac:Acy exA.ss:=fun t ht=>any_false a_acy t ht
  have hd:dD exA.ss nTop=1:=by
    have h:=dD_eq g ac (g.nd stX (by simp [exA]))
    rw [show nTop=stX.nm from rfl,h]
    rfl
  have h:nestF exA.ss=0:=by
    unfold nestF
    rw [a_acy]
    have e:exA.ss.any (fun t=>decide (6 < dD exA.ss t.nm))=(decide (6 < dD exA.ss nTop) || false):=rfl
    rw [e,hd]; rfl
  unfold checkF
  rw [h1,h2,h3,h]; rfl
theorem b_check:checkF exB=0:=by
  have h1:largeF exB=false:=by decide +kernel
  have h2:enF exB=0:=by decide +kernel
  have h3:stF exB=0:=by decide +kernel
  have g:=good_of b_fit h1 h3
  have ac:Acy exB.ss:=fun t ht=>any_false b_acy t ht
  have hd:dD exB.ss nTop=1:=by
    have h:=dD_eq g ac (g.nd stY (by simp [exB]))
    rw [show nTop=stY.nm from rfl,h]
    rfl
  have h:nestF exB.ss=0:=by
    unfold nestF
    rw [b_acy]
    have e:exB.ss.any (fun t=>decide (6 < dD exB.ss t.nm))=(decide (6 < dD exB.ss nTop) || false):=rfl
    rw [e,hd]; rfl
  unfold checkF
  rw [h1,h2,h3,h]; rfl
theorem usesF_nil {ss:List St} {n:ByteArray} (h:visAll ss n=[]):usesF ss n=[]:=by
  rw [usesF,h]; exact List.eq_nil_iff_forall_not_mem.2 fun x hx=>by rw [mem_srtB] at hx; cases hx
theorem a_us:usL exA nTop=[]:=by unfold usL; rw [usesF_nil a_vis]; cases okS exA nTop<;>rfl
theorem b_us:usL exB nTop=[]:=by unfold usL; rw [usesF_nil b_vis]; cases okS exB nTop<;>rfl
theorem wd_ab:widF tyA tyW=true:=widF_iff.2 (.inr ⟨rfl,rfl,.inr ⟨by decide,.inl rfl,by decide,rfl⟩⟩)
theorem wd_ba:widF tyW tyA=false:=by
  cases h:widF tyW tyA with
  | false=>rfl
  | true=>
    rcases widF_iff.1 h with h | ⟨_,_,h | ⟨_,_,h,_⟩⟩
    · have:=congrArg Ty.s h; exact absurd this (by decide)
    · exact absurd h.1 (by decide)
    · exact absurd h (by decide)
theorem a_has:hasS exA.ss nTop=true:=by decide +kernel
theorem b_has:hasS exB.ss nTop=true:=by decide +kernel
theorem a_fs:fS exA.ss nTop=some stX:=rfl
theorem b_fs:fS exB.ss nTop=some stY:=rfl
theorem raw_ab:rawI exA exB nTop=[]:=by
  have h:rawI exA exB nTop=cmpN exA exB nTop ++ []:=by unfold rawI nmsF; rw [a_us]; rfl
  rw [h]
  unfold cmpN
  rw [a_has,b_has,a_fs,b_fs]
  have h1:cmpS nTop stX stY=[]:=by
    have h2:isA nTop stY flA=[]:=by
      unfold isA
      rw [show fF stY.fs flA.num=some flW from rfl]
      simp only
      rw [show widF flA.ty flW.ty=true from wd_ab]; rfl
    have h3:isB nTop stX flW=[]:=rfl
    show (isA nTop stY flA ++ []) ++ (isB nTop stX flW ++ [])=[]
    rw [h2,h3]; rfl
  simp only [Option.getD_some,h1]
  rfl
theorem raw_ba:rawI exB exA nTop=[⟨1,2,nTop⟩]:=by
  have h:rawI exB exA nTop=cmpN exB exA nTop ++ []:=by unfold rawI nmsF; rw [b_us]; rfl
  rw [h]
  unfold cmpN
  rw [a_has,b_has,a_fs,b_fs]
  have h1:cmpS nTop stY stX=[⟨1,2,nTop⟩]:=by
    have h2:isA nTop stX flW=[⟨1,2,nTop⟩]:=by
      unfold isA
      rw [show fF stX.fs flW.num=some flA from rfl]
      simp only
      rw [show widF flW.ty flA.ty=false from wd_ba]; rfl
    have h3:isB nTop stY flA=[]:=rfl
    show (isA nTop stX flW ++ []) ++ (isB nTop stY flA ++ [])=_
    rw [h2,h3]; rfl
  simp only [Option.getD_some,h1]
  rfl
theorem is_ab:issF exA exB nTop=[]:=by unfold issF; rw [a_check,b_check,raw_ab]; rfl
theorem is_ba:issF exB exA nTop=[⟨1,2,nTop⟩]:=by unfold issF; rw [a_check,b_check,raw_ba]; rfl
theorem co_ab:coF exA exB nTop=true:=by unfold coF; rw [a_check,b_check,a_has,b_has,is_ab]; rfl
end Go.Proofs.YtbcnggkldclemaaGreat
namespace Go.Proofs.YtbcnggkldclemaaGreat
open Go.W
theorem gh_tail {Γ:Env} {k0:Nat} {x:PC} {fr:Fr} {H:Hp} {K:Ex->Fr->Hp->Prop} {up:List (Nat × S)} {Hs:Hp} (ns:List Nat) (h:vc Γ k0 x.ungh (puts up) Hs K) (h3:ns.Nodup) (h4:∀ n ∈ ns,n < H.length) (h5:ns.take k0=List.range k0)
    (h1:agree' ns fr up) (h2:(pickH H ns).map (B.ren (loc ns))=Hs):Gh k0 (fun fr' H'=>vc Γ k0 x.ungh fr' H' K) fr H:=
  .sel ns h3 h4 h5 (.wk _ (puts_wk' h1) (.done (by rw [h2]; exact h)))
def awFn:Fun:=⟨fun av=>av=[],fun _=>bA true,fun _av _=>trivial⟩
attribute [go_sem] awFn
set_option maxRecDepth 100000 in
set_option maxHeartbeats 4000000 in
theorem mAwake:Meets Tryz.prog 6 awFn.sp:=by
  refine meets_fn Tryz.func6 ok6 0 (by rw [Tryz.ntmps6]; decide) (meetsAll_s mIssues (meetsAll_f mCompatible (meetsAll_nil _))) (fun av H K h=>by obtain ⟨⟨rfl,_⟩,_⟩:=h; rfl) ?_
  rintro av H K ⟨⟨rfl,rfl⟩,hK⟩
  have hK:K (bS true) []:=hK
  simp (maxSteps:=1000000) -dsimp only [go_sem,pc6,rs6]
  have e1:scC exA=[.vl (.int .i64 1),.fz [],.fz [stC stX]]:=rfl
  have e2:scC exB=[.vl (.int .i64 2),.fz [],.fz [stC stY]]:=rfl
  have e3:stC stX=[.vl (.string nTop),.fz [flC flA]]:=rfl
  have e4:stC stY=[.vl (.string nTop),.fz [flC flW]]:=rfl
  have e5:flC flA=[.vl (.int .i64 2),.vl (.string nX),.vl (.int .i64 2),.vl (.int .i64 8),.vl (.string (mk [])),.fz [],.vl (.bool false)]:=rfl
  have e6:flC flW=[.vl (.int .i64 2),.vl (.string nX),.vl (.int .i64 2),.vl (.int .i64 16),.vl (.string (mk [])),.fz [],.vl (.bool false)]:=rfl
  refine vc_head rfl (.opn 0 _ _ _ rfl (.nfr 0 _ _ _ rfl (.shu 0 _ _ _ rfl ?_ (.pub 0 _ _ _ rfl (.shu 1 _ _ _ rfl ?_ (.pub 1 _ _ _ rfl (.opn 3 _ _ _ rfl (.nfr 3 _ _ _ rfl (.shu 3 _ _ _ rfl ?_ (.pub 3 _ _ _ rfl (.shu 4 _ _ _ rfl ?_ (.pub 4 _ _ _ rfl ?_))))))))))))
  · simp [C.shut,C.nf]
  · simp [C.shut,C.pub]
  · simp [C.shut,C.nf]
  · simp [C.shut,C.pub]
  refine gh_tail (up:=[(1,.va (.c1 (.pt 0 0))),(2,.va (.c1 (.pt 1 0)))]) (Hs:=[.cells [.vl (.int .i64 1),.vl (.slice none 0 0),.fz [stC stX]] 25,.cells [.vl (.int .i64 2),.vl (.slice none 0 0),.fz [stC stY]] 25]) [2,5] ?_ (by simp) (by simp [pubH]) rfl ?_ ?_
  rotate_left
  · simp -dsimp only [go_sem]<;>simp
  · simp -dsimp only [go_sem,pubH,e3,e4,e5,e6]<;>simp [C.pub,C.nf]
  simp (maxSteps:=1000000) -dsimp only [go_sem,pc6_3]
  refine iu_use (o:=exB) (n:=exA) (x:=nTop) b_fit a_fit ?_
  rw [is_ba]
  simp (maxSteps:=1000000) -dsimp only [go_sem]
  refine vc_tail (up:=[(1,.va (.c1 (.pt 0 0))),(2,.va (.c1 (.pt 1 0))),(3,.va (.c1 (.fz [isC ⟨1,2,nTop⟩])))]) (Hs:=[.cells [.vl (.int .i64 1),.vl (.slice none 0 0),.fz [stC stX]] 25,.cells [.vl (.int .i64 2),.vl (.slice none 0 0),.fz [stC stY]] 25]) 2 ?_ ?_ ?_
  rotate_left
  · simp -dsimp only [go_sem]<;>simp
  · simp -dsimp only [go_sem]<;>simp
  have h1:=isScF_mk a_fit
  have h2:=isScF_mk b_fit
  have d1:=sc_dec exA
  have d2:=sc_dec exB
  rw [e1] at h1 d1
  rw [e2] at h2 d2
  have k1:((1:Int) == 1)=true:=rfl
  have k2:((2:Int) == 2)=true:=rfl
  have k3:(bl nTop == bl nTop)=true:=by simp
  simp (maxSteps:=1000000) -dsimp only [go_sem,pc6_4,h1,h2,d1,d2,co_ab,isC]
  refine ⟨fun _=>⟨⟨by omega,fun r hr=>by subst hr; rfl⟩,fun r hr=>?_⟩,fun h=>absurd h (by simp)⟩
  subst hr
  simp (maxSteps:=1000000) -dsimp only [go_sem,k1,k2]
  exact .sel [] (by simp) (by simp) rfl (.done (by simpa [go_sem] using hK))
end Go.Proofs.YtbcnggkldclemaaGreat
namespace Go.W
open Go.RowKit
inductive Fit (P:Program):TypeId->List C->Prop
  | int {t:TypeId} {k:IntKind} {n:Int}:P.underlying t=some (.int k)->(Lit.int k n).wf=true->Fit P t [.vl (.int k n)]
  | bool {t:TypeId} {b:Bool}:P.underlying t=some .bool->Fit P t [.vl (.bool b)]
  | str {t:TypeId} {s:ByteArray}:P.underlying t=some .string->s.size<=maxLen->Fit P t [.vl (.string s)]
  | sl {t e:TypeId} {xs:List (List C)}:P.underlying t=some (.slice e)->xs.length<=maxLen->(∀ r ∈ xs,Fit P e r)->Fit P t [.fz xs]
  | st {t:TypeId} {fs:Array Field} {parts:List (List C)}:P.underlying t=some (.struct fs)->parts.length=fs.size->(∀ (i:Nat) (f:Field) (p:List C),fs[i]? = some f->parts[i]? = some p->Fit P f.type p)->Fit P t parts.flatten
section
variable {P:Program} {t e:TypeId} {xs:List C}
theorem Fit.inv_int {k:IntKind} (ht:P.underlying t=some (.int k)) (h:Fit P t xs):∃ n:Int,xs=[.vl (.int k n)]/\(Lit.int k n).wf=true:=by
  cases h with
  | int h1 h2=>rw [ht] at h1; cases h1; exact ⟨_,rfl,h2⟩
  | bool h1=>rw [ht] at h1; cases h1
  | str h1=>rw [ht] at h1; cases h1
  | sl h1=>rw [ht] at h1; cases h1
  | st h1=>rw [ht] at h1; cases h1
theorem Fit.inv_bool (ht:P.underlying t=some .bool) (h:Fit P t xs):∃ b:Bool,xs=[.vl (.bool b)]:=by
  cases h with
  | int h1 h2=>rw [ht] at h1; cases h1
  | bool h1=>exact ⟨_,rfl⟩
  | str h1=>rw [ht] at h1; cases h1
  | sl h1=>rw [ht] at h1; cases h1
  | st h1=>rw [ht] at h1; cases h1
theorem Fit.inv_str (ht:P.underlying t=some .string) (h:Fit P t xs):∃ s:ByteArray,xs=[.vl (.string s)]/\s.size<=maxLen:=by
  cases h with
  | int h1 h2=>rw [ht] at h1; cases h1
  | bool h1=>rw [ht] at h1; cases h1
  | str h1 h2=>exact ⟨_,rfl,h2⟩
  | sl h1=>rw [ht] at h1; cases h1
  | st h1=>rw [ht] at h1; cases h1
theorem Fit.inv_sl (ht:P.underlying t=some (.slice e)) (h:Fit P t xs):∃ ys:List (List C),xs=[.fz ys]/\ys.length<=maxLen/\∀ r ∈ ys,Fit P e r:=by
  cases h with
  | int h1 h2=>rw [ht] at h1; cases h1
  | bool h1=>rw [ht] at h1; cases h1
  | str h1=>rw [ht] at h1; cases h1
  | sl h1 h2 h3=>rw [ht] at h1; cases h1; exact ⟨_,rfl,h2,h3⟩
  | st h1=>rw [ht] at h1; cases h1
theorem Fit.inv_st {fs:Array Field} (ht:P.underlying t=some (.struct fs)) (h:Fit P t xs):∃ parts:List (List C),xs=parts.flatten/\parts.length=fs.size/\∀ (i:Nat) (f:Field) (p:List C),fs[i]? = some f->parts[i]? = some p->Fit P f.type p:=by
  cases h with
  | int h1 h2=>rw [ht] at h1; cases h1
  | bool h1=>rw [ht] at h1; cases h1
  | str h1=>rw [ht] at h1; cases h1
  | sl h1=>rw [ht] at h1; cases h1
  | st h1 h2 h3=>rw [ht] at h1; cases h1; exact ⟨_,rfl,h2,h3⟩
end
theorem Fit.rows {P:Program} {e:TypeId} {α:Type} {row:α->List C} {Q:α->Prop} {ys:List (List C)} (hi:∀ r,Fit P e r->∃ a,r=row a/\Q a) (h:∀ r ∈ ys,Fit P e r):∃ l:List α,ys=l.map row/\∀ a ∈ l,Q a:=by
  induction ys with
  | nil=>exact ⟨[],rfl,fun a h=>by cases h⟩
  | cons r ys ih=>
    obtain ⟨l,h1,h2⟩:=ih fun r hr=>h r (List.mem_cons_of_mem _ hr)
    obtain ⟨a,h3,h4⟩:=hi r (h r (by simp))
    refine ⟨a :: l,by rw [h1,h3]; rfl,fun x hx=>?_⟩
    rcases List.mem_cons.1 hx with rfl | hx
    · exact h4
    · exact h2 x hx
def offs (P:Program):Nat->List Field->Option Nat
  | o,[]=>some o
  | o,f :: r=>if f.offset=o then offs P (o + P.cellsOf f.type) r else none
def tysOk (P:Program) (ts:List TypeId):Bool:=ts.all fun t=>match P.underlying t with
  | some (.int _) | some .bool | some .string=>true
  | some (.slice e)=>ts.contains e && decide (0 < P.cellsOf e)
  | some (.struct fs)=>fs.toList.all (fun f=>ts.contains f.type) && offs P 0 fs.toList == some (P.cellsOf t)
  | _=>false
theorem glue {P:Program} {R:C->Value->Prop} {Q:Field->List C->Prop} {cs:List Value}:∀ (fs:List Field) (o:Nat),offs P o fs=some cs.length->
    (∀ (i:Nat) (f:Field),fs[i]? = some f->∃ p,Q f p/\All2 R p ((cs.drop f.offset).take (P.cellsOf f.type)))->
    ∃ parts:List (List C),parts.length=fs.length/\(∀ (i:Nat) (f:Field) (p:List C),fs[i]? = some f->parts[i]? = some p->Q f p)/\All2 R parts.flatten (cs.drop o)
  | [],o,ho,_=>by
    simp only [offs,Option.some.injEq] at ho
    subst ho
    exact ⟨[],rfl,fun i f p h=>by simp at h,by simpa using All2.nil⟩
  | f :: fs,o,ho,h=>by
    simp only [offs] at ho
    split at ho
    · rename_i hf
      obtain ⟨parts,h1,h2,h3⟩:=glue fs _ ho fun i f hf=>h (i + 1) f (by simpa using hf)
      obtain ⟨p,h4,h5⟩:=h 0 f rfl
      refine ⟨p :: parts,by simp [h1],fun i g q hg hq=>?_,?_⟩
      · cases i with
        | zero=>simp at hg hq; subst hg hq; exact h4
        | succ i=>exact h2 i g q (by simpa using hg) (by simpa using hq)
      · have:cs.drop o=(cs.drop f.offset).take (P.cellsOf f.type) ++ cs.drop (o + P.cellsOf f.type):=by
          rw [hf,<-List.drop_drop,List.take_append_drop]
        rw [List.flatten_cons,this]
        exact h5.app h3
    · cases ho
section
variable {H:Type} {enc:TypeId × Value->H} {P:Program} {W:World} {ts:List TypeId}
theorem fz_any {b off len cap sz:Nat} {oa:Option Addr} (hoa:len ≠ 0->oa=some ⟨b,off,none⟩) (hsz:0 < sz) (X:Nat->List C) (hl:∀ i,i < len->(X i).length=sz) (hc:len<=cap)
    (h:∀ i,i < len->∀ j c,(X i)[j]? = some c->∃ v,W.cell? ⟨b,off + (i * sz + j),none⟩=some v/\c.fv (roW W) v/\c.shut=true) :
    FzR (roW W) ((List.range len).map X) (.slice oa len cap):=by
  have hz:∀ x ∈ (List.range len).map X,x.length=sz:=fun x hx=>by
    obtain ⟨i,hi,rfl⟩:=List.mem_map.1 hx
    exact hl i (List.mem_range.1 hi)
  have hfl:∀ k c,((List.range len).map X).flatten[k]? = some c->∃ v,W.cell? ⟨b,off + k,none⟩=some v/\c.fv (roW W) v/\c.shut=true:=fun k c hk=>by
    have hkl:k < len * sz:=by
      have h1:=(List.getElem?_eq_some_iff.1 hk).1
      rw [flat_len _ hz] at h1
      simpa using h1
    have hi:k / sz < len:=(Nat.div_lt_iff_lt_mul hsz).2 hkl
    have hj:=Nat.mod_lt k hsz
    have hg:=flat_get hz (i:=k / sz) (j:=k % sz) (by simpa using hi) hj
    rw [Nat.mul_comm,Nat.div_add_mod,hk] at hg
    have hxi:((List.range len).map X)[k / sz]? = some (X (k / sz)):=by simp [hi]
    rw [hxi,Option.bind_some] at hg
    have:=h (k / sz) hi (k % sz) c hg.symm
    rwa [Nat.mul_comm,Nat.div_add_mod] at this
  have hr:=FzR.mk (ro:=roW W) ((List.range len).map X) sz (some (b,off)) oa (fun hne=>hoa (fun e=>by subst e; simp at hne)) cap (fun k=>(W.cell? ⟨b,off + k,none⟩).getD undef) hz (by simpa using hc) (fun _=>rfl)
    (fun k c hk=>by
      obtain ⟨v,h2,_⟩:=hfl k c hk
      simp [roW,h2])
    (fun k v hk=>by
      obtain ⟨u,h1,h2,_⟩:=hfl k _ hk
      have:u=v:=h2
      simp [h1,this])
    (fun k ys hk=>by
      obtain ⟨u,h1,h2,_⟩:=hfl k _ hk
      have:FzR (roW W) ys u:=h2
      simpa [h1] using this)
    (fun c hc=>by
      obtain ⟨k,hk⟩:=List.mem_iff_getElem?.1 hc
      obtain ⟨u,_,_,h3⟩:=hfl k c hk
      exact h3)
  simpa using hr
theorem fit_of_trod (hok:tysOk P ts=true):∀ (n:Nat) (t:TypeId) (cs:List Value) (y:DataW H × List MemPlace),t ∈ ts->DataW.trod enc P W 0 (fun _=>true) true n t cs=some y->
    ∃ xs,Fit P t xs/\All2 (C.fv (roW W)) xs cs/\∀ c ∈ xs,c.shut=true
  | 0,t,cs,y,_,h=>by simp [DataW.trod] at h
  | n + 1,t,cs,y,ht,h=>by
    have h1:=List.all_eq_true.1 hok t ht
    split at h1
    · rename_i k hu
      obtain ⟨m,rfl,_,hw⟩:=DataW.trod_int hu h
      exact ⟨_,.int hu hw,.cons rfl .nil,fun c hc=>by simp at hc; subst hc; rfl⟩
    · rename_i hu
      obtain ⟨b,rfl,_⟩:=DataW.trod_bool hu h
      exact ⟨_,.bool hu,.cons rfl .nil,fun c hc=>by simp at hc; subst hc; rfl⟩
    · rename_i hu
      obtain ⟨s,rfl,_,hs⟩:=DataW.trod_string hu h
      exact ⟨_,.str hu hs,.cons rfl .nil,fun c hc=>by simp at hc; subst hc; rfl⟩
    · rename_i e hu
      simp only [Bool.and_eq_true,List.contains_iff_mem,decide_eq_true_eq] at h1
      obtain ⟨he,hpos⟩:=h1
      rcases DataW.trod_slice hu h with ⟨rfl,_⟩ | ⟨a,len,cap,elems,rest,n',hn',rfl,_,_,hl,hm,hel,hi,_⟩
      · exact ⟨_,.sl hu (Nat.zero_le _) (fun r hr=>by cases hr),.cons (fz_nil _) .nil,fun c hc=>by simp at hc; subst hc; rfl⟩
      · obtain rfl:n=n':=by omega
        have hall:∀ i,i < len->∃ x:List C,Fit P e x/\x.length=P.cellsOf e/\(∀ j c,x[j]? = some c->∃ v,W.cell? ((a.add (i * P.cellsOf e)).add j)=some v/\c.fv (roW W) v/\c.shut=true):=fun i hil=>by
          have h1:=hi i hil
          rw [List.getElem?_eq_getElem (by omega)] at h1
          obtain ⟨cs',h2,h3⟩:=Option.bind_eq_some_iff.1 h1
          obtain ⟨x,h4,h5,h6⟩:=fit_of_trod hok n e cs' _ he h3
          obtain ⟨_,h7,h8⟩:=World.cells?_some h2
          refine ⟨x,h4,h5.1.trans h7,fun j c hj=>?_⟩
          obtain ⟨v,h9,h10⟩:=h5.get hj
          have hjl:j < P.cellsOf e:=by rw [<-h7,<-h5.1]; exact (List.getElem?_eq_some_iff.1 hj).1
          refine ⟨v,?_,h10,h6 c (List.mem_of_getElem? hj)⟩
          have:=h8 j hjl
          rwa [h9] at this
        by_cases h0:len=0
        · subst h0
          refine ⟨[.fz []],.sl hu (Nat.zero_le _) (fun r hr=>by cases hr),.cons ?_ .nil,fun c hc=>by simp at hc; subst hc; rfl⟩
          exact fz_any (b:=0) (off:=0) (fun h=>absurd rfl h) hpos (fun _=>[]) (fun i hi=>by omega) (Nat.zero_le _) (fun i hi=>by omega)
        · obtain ⟨x0,_,hx0l,hx0⟩:=hall 0 (by omega)
          have hsp:a.spot=none:=by
            have hx:∃ c,x0[0]? = some c:=⟨_,List.getElem?_eq_getElem (by omega)⟩
            obtain ⟨c,hc⟩:=hx
            obtain ⟨v,hv,_⟩:=hx0 0 c hc
            unfold World.cell? at hv
            split at hv
            · split at hv
              · cases hv
              · rename_i hs; simpa [Addr.add] using hs
            · cases hv
          obtain ⟨b,off,spot⟩:=a
          obtain rfl:spot=none:=hsp
          haveI:Inhabited (List C):=⟨[]⟩
          obtain ⟨X,hX⟩:=Go.Deep.choose_lt hall
          refine ⟨[.fz ((List.range len).map X)],.sl hu (by simp; omega) (fun r hr=>?_),.cons ?_ .nil,fun c hc=>by simp at hc; subst hc; rfl⟩
          · obtain ⟨i,hi,rfl⟩:=List.mem_map.1 hr
            exact (hX i (List.mem_range.1 hi)).1
          · exact fz_any (fun _=>rfl) hpos X (fun i hi=>(hX i hi).2.1) hl (fun i hi j c hj=>by
              obtain ⟨v,h2,h3⟩:=(hX i hi).2.2 j c hj
              exact ⟨v,by simpa [Go.WideShapes.add_plain,Nat.add_assoc] using h2,h3⟩)
    · rename_i fs hu
      simp only [Bool.and_eq_true,List.all_eq_true,List.contains_iff_mem,beq_iff_eq] at h1
      obtain ⟨hft,hof⟩:=h1
      obtain ⟨ys,n',hn,_,hcl,hyl,hf⟩:=DataW.trod_struct hu h
      obtain rfl:n=n':=by omega
      obtain ⟨parts,k1,k2,k3⟩:=glue (P:=P) (R:=fun c v=>C.fv (roW W) c v/\c.shut=true) (Q:=fun f p=>Fit P f.type p) (cs:=cs) fs.toList 0 (by rw [hcl]; exact hof) (fun i f hfi=>by
        have hfi':fs[i]? = some f:=by simpa using hfi
        have h2:=hf i f hfi'
        have hil:i < fs.size:=(Array.getElem?_eq_some_iff.1 hfi').1
        rw [List.getElem?_eq_getElem (by omega)] at h2
        obtain ⟨x,h4,h5,h6⟩:=fit_of_trod hok n f.type _ _ (hft f (List.mem_of_getElem? hfi)) h2
        exact ⟨x,h4,⟨h5.1,fun j c v hc hv=>⟨h5.2 j c v hc hv,h6 c (List.mem_of_getElem? hc)⟩⟩⟩)
      refine ⟨parts.flatten,.st hu (by simpa using k1) (fun i f p hfi hp=>k2 i f p (by simpa using hfi) hp),?_,fun c hc=>?_⟩
      · simpa using k3.imp (fun _ _ h=>h.1)
      · obtain ⟨j,hj⟩:=List.mem_iff_getElem?.1 hc
        obtain ⟨v,_,_,h3⟩:=k3.get hj
        exact h3
    · cases h1
theorem fit_of_arg (hok:tysOk P ts=true) {t:TypeId} {v:Value} {d:DataW H} {ps:List MemPlace} (ht:t ∈ ts) (h:DataW.Trod enc P W 0 (fun _=>true) true t v d ps):∃ xs,Fit P t xs/\All2 (C.fv (roW W)) xs v.cells.toList/\∀ c ∈ xs,c.shut=true:=by
  obtain ⟨n,h⟩:=h
  exact fit_of_trod hok n t _ _ ht h
theorem arg_c1 {c:C} {v:Value} (h:All2 (C.fv (roW W)) [c] v.cells.toList) (hv:v.cells.toList=[v]) (hs:c.shut=true):(S.va (.c1 c)).rel (gm []) (roW W) v:=by
  rw [hv] at h
  exact (C.rel_shut hs).2 (h.2 0 c v rfl rfl)
theorem arg_gs {cs:List C} {vs:Array Value} (h:All2 (C.fv (roW W)) cs (Value.agg vs).cells.toList) (hs:∀ c ∈ cs,c.shut=true):(S.va (.gs cs)).rel (gm []) (roW W) (.agg vs):=
  ⟨vs.toList,by simp,⟨by simpa [Value.cells] using h.1,fun i c v hc hv=>(C.rel_shut (hs c (List.mem_of_getElem? hc))).2 (h.2 i c v hc (by simpa [Value.cells] using hv))⟩⟩
end
end Go.W
namespace Go.Proofs.YtbcnggkldclemaaGreat
open Go.W
theorem v3:Tryz.prog.underlying 3=some (.int .i64):=by kernel_rfl
theorem v4:Tryz.prog.underlying 4=some .bool:=by kernel_rfl
theorem v9:Tryz.prog.underlying 9=some .string:=by kernel_rfl
theorem v22:Tryz.prog.underlying 22=some (.slice 60):=by kernel_rfl
theorem v23:Tryz.prog.underlying 23=some (.slice 45):=by kernel_rfl
theorem v30:Tryz.prog.underlying 43=some (.slice 42):=by kernel_rfl
theorem v35:Tryz.prog.underlying 57=some (.slice 9):=by kernel_rfl
theorem v38:Tryz.prog.underlying 38=some (.slice 40):=by kernel_rfl
theorem v45:Tryz.prog.underlying 58=some (.slice 3):=by kernel_rfl
theorem v40:Tryz.prog.underlying 40=some (.struct #[⟨"Kind",3,0,false,"","",0⟩,⟨"Size",3,1,false,"","",8⟩,⟨"Name",9,2,false,"","",16⟩,⟨"Elem",38,3,false,"","",32⟩]):=by kernel_rfl
theorem v53:Tryz.prog.underlying 42=some (.struct #[⟨"Number",3,0,false,"","",0⟩,⟨"Name",9,1,false,"","",8⟩,⟨"Type",40,2,false,"","",24⟩,⟨"Optional",4,6,false,"","",80⟩]):=by kernel_rfl
theorem v32:Tryz.prog.underlying 45=some (.struct #[⟨"Name",9,0,false,"","",0⟩,⟨"Fields",43,1,false,"","",16⟩]):=by kernel_rfl
theorem v47:Tryz.prog.underlying 60=some (.struct #[⟨"Name",9,0,false,"","",0⟩,⟨"Names",57,1,false,"","",16⟩,⟨"Numbers",58,2,false,"","",40⟩]):=by kernel_rfl
theorem v25:Tryz.prog.underlying 25=some (.struct #[⟨"Version",3,0,false,"","",0⟩,⟨"Enums",22,1,false,"","",8⟩,⟨"Structs",23,2,false,"","",32⟩]):=by kernel_rfl
theorem rows_of {α:Type} {row:α->List C} {Q:α->Prop} {ys:List (List C)} (h:∀ r ∈ ys,∃ a,r=row a/\Q a):∃ l:List α,ys=l.map row/\∀ a ∈ l,Q a:=by
  induction ys with
  | nil=>exact ⟨[],rfl,fun a h=>by cases h⟩
  | cons r ys ih=>
    obtain ⟨l,h1,h2⟩:=ih fun r hr=>h r (List.mem_cons_of_mem _ hr)
    obtain ⟨a,h3,h4⟩:=h r List.mem_cons_self
    refine ⟨a :: l,by rw [h1,h3]; rfl,fun x hx=>?_⟩
    rcases List.mem_cons.1 hx with rfl | hx
    · exact h4
    · exact h2 x hx
theorem wf64 {n:Int} (h:(Lit.int .i64 n).wf=true):in64 n:=by simpa [in64,Lit.wf,IntKind.min,IntKind.max,IntKind.signed,IntKind.bits] using h
theorem mx47 {n:Nat} (h:n<=maxLen):n<=9223372036854775807:=by unfold maxLen at h; exact h
theorem fitT:∀ {t:TypeId} {cs:List C},Fit Tryz.prog t cs->(t=40->∃ a,cs=tyC a/\TyOk a)/\(t=38->∃ l:List Ty,cs=[.fz (l.map tyC)]/\l.length<=9223372036854775807/\∀ a ∈ l,TyOk a):=by
  intro t cs h
  induction h with
  | int h1 _=>exact ⟨fun e=>(by rw [e,v40] at h1; cases h1),fun e=>(by rw [e,v38] at h1; cases h1)⟩
  | bool h1=>exact ⟨fun e=>(by rw [e,v40] at h1; cases h1),fun e=>(by rw [e,v38] at h1; cases h1)⟩
  | str h1 _=>exact ⟨fun e=>(by rw [e,v40] at h1; cases h1),fun e=>(by rw [e,v38] at h1; cases h1)⟩
  | @sl t e xs h1 h2 h3 ih=>
    refine ⟨fun e=>(by rw [e,v40] at h1; cases h1),fun e=>?_⟩
    subst e
    rw [v38] at h1
    cases h1
    obtain ⟨l,rfl,hl⟩:=rows_of (row:=tyC) (Q:=TyOk) fun r hr=>(ih r hr).1 rfl
    exact ⟨l,rfl,by have:=mx47 h2; simpa using this,hl⟩
  | @st t fs parts h1 h2 h3 ih=>
    refine ⟨fun e=>?_,fun e=>(by rw [e,v38] at h1; cases h1)⟩
    subst e
    rw [v40] at h1
    cases h1
    match parts,h2 with
    | [p0,p1,p2,p3],_=>
      obtain ⟨k,rfl,hk⟩:=Fit.inv_int v3 (h3 0 _ p0 rfl rfl)
      obtain ⟨s,rfl,hs⟩:=Fit.inv_int v3 (h3 1 _ p1 rfl rfl)
      obtain ⟨n,rfl,hn⟩:=Fit.inv_str v9 (h3 2 _ p2 rfl rfl)
      obtain ⟨l,rfl,hl,ho⟩:=(ih 3 _ p3 rfl rfl).2 rfl
      exact ⟨.mk k s n l,by rw [tyC,tysC_map]; rfl,.mk (wf64 hk) (wf64 hs) (mx47 hn) hl ho⟩
theorem fitTy {cs:List C} (h:Fit Tryz.prog 40 cs):∃ a,cs=tyC a/\TyOk a:=(fitT h).1 rfl
theorem fitFl {cs:List C} (h:Fit Tryz.prog 42 cs):∃ a:Fl,cs=flC a/\a.ok:=by
  obtain ⟨parts,rfl,h2,h3⟩:=Fit.inv_st v53 h
  match parts,h2 with
  | [p0,p1,p2,p3],_=>
    obtain ⟨k,rfl,hk⟩:=Fit.inv_int v3 (h3 0 _ p0 rfl rfl)
    obtain ⟨n,rfl,hn⟩:=Fit.inv_str v9 (h3 1 _ p1 rfl rfl)
    obtain ⟨t,rfl,ht⟩:=fitTy (h3 2 _ p2 rfl rfl)
    obtain ⟨b,rfl⟩:=Fit.inv_bool v4 (h3 3 _ p3 rfl rfl)
    exact ⟨⟨k,n,t,b⟩,by rw [tyC_eq]; rfl,wf64 hk,mx47 hn,ht⟩
theorem fitSt {cs:List C} (h:Fit Tryz.prog 45 cs):∃ a:St,cs=stC a/\a.ok:=by
  obtain ⟨parts,rfl,h2,h3⟩:=Fit.inv_st v32 h
  match parts,h2 with
  | [p0,p1],_=>
    obtain ⟨n,rfl,hn⟩:=Fit.inv_str v9 (h3 0 _ p0 rfl rfl)
    obtain ⟨ys,rfl,hl,hy⟩:=Fit.inv_sl v30 (h3 1 _ p1 rfl rfl)
    obtain ⟨l,rfl,ho⟩:=rows_of (row:=flC) (Q:=Fl.ok) fun r hr=>fitFl (hy r hr)
    exact ⟨⟨n,l⟩,rfl,mx47 hn,by have:=mx47 hl; simpa using this,ho⟩
theorem fitEn {cs:List C} (h:Fit Tryz.prog 60 cs):∃ a:En,cs=enC a/\a.ok:=by
  obtain ⟨parts,rfl,h2,h3⟩:=Fit.inv_st v47 h
  match parts,h2 with
  | [p0,p1,p2],_=>
    obtain ⟨n,rfl,hn⟩:=Fit.inv_str v9 (h3 0 _ p0 rfl rfl)
    obtain ⟨ys,rfl,hl,hy⟩:=Fit.inv_sl v35 (h3 1 _ p1 rfl rfl)
    obtain ⟨zs,rfl,hl2,hz⟩:=Fit.inv_sl v45 (h3 2 _ p2 rfl rfl)
    obtain ⟨l,rfl,ho⟩:=rows_of (row:=stR) (Q:=fun b=>b.size<=9223372036854775807) fun r hr=>by
      obtain ⟨s,rfl,hs⟩:=Fit.inv_str v9 (hy r hr); exact ⟨s,rfl,mx47 hs⟩
    obtain ⟨m,rfl,hm⟩:=rows_of (row:=inR) (Q:=in64) fun r hr=>by
      obtain ⟨s,rfl,hs⟩:=Fit.inv_int v3 (hz r hr); exact ⟨s,rfl,wf64 hs⟩
    exact ⟨⟨n,l,m⟩,rfl,mx47 hn,by have:=mx47 hl; simpa using this,by have:=mx47 hl2; simpa using this,ho,hm⟩
theorem fitSc (cs:List C) (h:Fit Tryz.prog 25 cs):∃ a:Sc,cs=scC a/\a.ok:=by
  obtain ⟨parts,rfl,h2,h3⟩:=Fit.inv_st v25 h
  match parts,h2 with
  | [p0,p1,p2],_=>
    obtain ⟨n,rfl,hn⟩:=Fit.inv_int v3 (h3 0 _ p0 rfl rfl)
    obtain ⟨ys,rfl,hl,hy⟩:=Fit.inv_sl v22 (h3 1 _ p1 rfl rfl)
    obtain ⟨zs,rfl,hl2,hz⟩:=Fit.inv_sl v23 (h3 2 _ p2 rfl rfl)
    obtain ⟨l,rfl,ho⟩:=rows_of (row:=enC) (Q:=En.ok) fun r hr=>fitEn (hy r hr)
    obtain ⟨m,rfl,hm⟩:=rows_of (row:=stC) (Q:=St.ok) fun r hr=>fitSt (hz r hr)
    exact ⟨⟨n,l,m⟩,rfl,wf64 hn,by have:=mx47 hl; simpa using this,by have:=mx47 hl2; simpa using this,ho,hm⟩
end Go.Proofs.YtbcnggkldclemaaGreat
namespace Go.Proofs.YtbcnggkldclemaaGreat
open Go.W
def ipPre:List S->Prop:=fun av=>match av with
  | [.va (.gs r),.va (.c1 (.vl (.string n))),.va (.gs q)]=>isSc r/\n.size<=9223372036854775807/\isVl q
  | _=>False
theorem ipPre_open {av:List S} (h:ipPre av):∃ (s:Sc) (n:ByteArray) (v:Vl),av=[.va (.gs (scC s)),tS n,.va (.gs (vlC v))]/\s.ok/\n.size<=9223372036854775807/\VlOk v:=by
  unfold ipPre at h
  split at h
  · obtain ⟨⟨s,rfl,hs⟩,hn,⟨v,rfl,hv⟩⟩:=h; exact ⟨s,_,v,rfl,hs,hn,hv⟩
  · exact h.elim
def lawP:Fun:=⟨ipPre,fun _=>bA true,fun _ _=>trivial⟩
theorem lawP_len:∀ av H K,lawP.sp av H K->av.length=3:=fun av H K h=>by obtain ⟨s,n,v,rfl,_⟩:=ipPre_open h.1.1; rfl
set_option maxRecDepth 100000 in
set_option maxHeartbeats 4000000 in
theorem mLawProjects:Meets Tryz.prog 3 lawP.sp:=by
  refine meets_fn Tryz.func3 ok3 3 (by rw [Tryz.ntmps3]; decide) (meetsAll_f mLarge12 (meetsAll_f mSizeV (meetsAll_f mAwake (meetsAll_s mProject (meetsAll_s mRProject (meetsAll_f mEqualV (meetsAll_nil _))))))) lawP_len ?_
  rintro av H K ⟨⟨h,rfl⟩,hK⟩
  obtain ⟨s,n,v,rfl,hs,hn,hv⟩:=ipPre_open h
  replace hK:K (bS true) []:=hK
  clear h
  have fin:∀ R:Hp,W.Fin 0 K (bS true) R:=fun R=>.sel [] (by simp) (by simp) rfl (.done (by simpa [go_sem] using hK))
  have hsa:=isSc_mk hs
  have hda:=sc_dec s
  rw [scC] at hsa hda
  have k1:=isVl_x hv
  have k2:=vv_x v
  cases f1:fewS s with
  | false=>
    simp (maxSteps:=1000000) -dsimp only [go_sem,scC,vlC_eq v,pc3,rs3,hsa,hda,f1,k1,k2,Bool.not_false]
    exact fin _
  | true=>
  have hf:=few_fit hs f1
  cases f2:decide (szW v > 300) with
  | true=>
    simp (maxSteps:=1000000) -dsimp only [go_sem,scC,vlC_eq v,pc3,rs3,hsa,hda,f1,f2,k1,k2,Bool.not_true]
    exact fin _
  | false=>
  have hwo:=prF_ok (s:=s) (n:=n) hv
  have hw2:=prF_twice s n v
  have pu:=fun K h=>pr_use (s:=s) (n:=n) (K:=K) hf hn hv h
  have pu2:=fun K h=>pr_use (s:=s) (n:=n) (K:=K) hf hn hwo h
  rw [hw2] at pu2
  generalize prF s n v=w at *
  simp (maxSteps:=1000000) -dsimp only [go_sem,scC,vlC_eq v,pc3,rs3,hsa,hda,f1,f2,k1,k2,Bool.not_true]
  refine pu _ ?_
  simp (maxSteps:=1000000) -dsimp only [go_sem]
  refine vc_head rfl (.done ?_)
  have k3:=isVl_x hwo
  simp (maxSteps:=1000000) -dsimp only [go_sem,pc3_4]
  refine pu _ ?_
  simp (maxSteps:=1000000) -dsimp only [go_sem,k3]
  refine pu2 _ ?_
  simp (maxSteps:=1000000) -dsimp only [go_sem,k3]
  exact fin _
end Go.Proofs.YtbcnggkldclemaaGreat
namespace Go.W
inductive FitW (P:Program):TypeId->List C->Prop
  | int {t:TypeId} {k:IntKind} {n:Int}:P.underlying t=some (.int k)->(Lit.int k n).wf=true->FitW P t [.vl (.int k n)]
  | bool {t:TypeId} {b:Bool}:P.underlying t=some .bool->FitW P t [.vl (.bool b)]
  | str {t:TypeId} {s:ByteArray}:P.underlying t=some .string->s.size<=maxLen->FitW P t [.vl (.string s)]
  | sl {t e:TypeId} {xs:List (List C)}:P.underlying t=some (.slice e)->xs.length<=maxLen->xs.length * P.bytesOf e<=reachBytes->(∀ r ∈ xs,FitW P e r)->FitW P t [.fz xs]
  | st {t:TypeId} {fs:Array Field} {parts:List (List C)}:P.underlying t=some (.struct fs)->parts.length=fs.size->(∀ (i:Nat) (f:Field) (p:List C),fs[i]? = some f->parts[i]? = some p->FitW P f.type p)->FitW P t parts.flatten
theorem FitW.fit {P:Program} {t:TypeId} {xs:List C} (h:FitW P t xs):Fit P t xs:=by
  induction h with
  | int h1 h2=>exact .int h1 h2
  | bool h1=>exact .bool h1
  | str h1 h2=>exact .str h1 h2
  | sl h1 h2 _ _ ih=>exact .sl h1 h2 ih
  | st h1 h2 _ ih=>exact .st h1 h2 ih
section
variable {P:Program} {t e:TypeId} {xs:List C}
theorem FitW.inv_sl (ht:P.underlying t=some (.slice e)) (h:FitW P t xs):∃ ys:List (List C),xs=[.fz ys]/\ys.length<=maxLen/\ys.length * P.bytesOf e<=reachBytes/\∀ r ∈ ys,FitW P e r:=by
  cases h with
  | int h1 h2=>rw [ht] at h1; cases h1
  | bool h1=>rw [ht] at h1; cases h1
  | str h1=>rw [ht] at h1; cases h1
  | sl h1 h2 h3 h4=>rw [ht] at h1; cases h1; exact ⟨_,rfl,h2,h3,h4⟩
  | st h1 h2 h3=>rw [ht] at h1; cases h1
theorem FitW.inv_st {fs:Array Field} (ht:P.underlying t=some (.struct fs)) (h:FitW P t xs):∃ parts:List (List C),xs=parts.flatten/\parts.length=fs.size/\∀ (i:Nat) (f:Field) (p:List C),fs[i]? = some f->parts[i]? = some p->FitW P f.type p:=by
  cases h with
  | int h1 h2=>rw [ht] at h1; cases h1
  | bool h1=>rw [ht] at h1; cases h1
  | str h1=>rw [ht] at h1; cases h1
  | sl h1=>rw [ht] at h1; cases h1
  | st h1 h2 h3=>rw [ht] at h1; cases h1; exact ⟨_,rfl,h2,h3⟩
end
section
variable {H:Type} {enc:TypeId × Value->H} {P:Program} {W:World} {ts:List TypeId}
theorem weights_all {e:TypeId}:∀ {l:List (DataW H)} {d:DataW H} {m:Nat},d ∈ l->m ∈ d.weights P e->m ∈ DataW.weightsAll P e l
  | x :: l,d,m,h,hm=>by
    rw [DataW.weightsAll,List.mem_append]
    rcases List.mem_cons.1 h with rfl | h
    · exact .inl hm
    · exact .inr (weights_all h hm)
theorem weights_each:∀ {ts:List TypeId} {l:List (DataW H)} {i:Nat} {t:TypeId} {d:DataW H} {m:Nat},ts[i]? = some t->l[i]? = some d->m ∈ d.weights P t->m ∈ DataW.weightsEach P ts l
  | [],_,i,t,d,m,h,_,_=>by simp at h
  | _ :: _,[],i,t,d,m,_,h,_=>by simp at h
  | u :: ts,x :: l,0,t,d,m,h1,h2,hm=>by
    simp at h1 h2
    subst h1 h2
    rw [DataW.weightsEach,List.mem_append]; exact .inl hm
  | u :: ts,x :: l,i + 1,t,d,m,h1,h2,hm=>by
    rw [DataW.weightsEach,List.mem_append]
    exact .inr (weights_each (i:=i) (by simpa using h1) (by simpa using h2) hm)
theorem fit_of_trodW (hok:tysOk P ts=true):∀ (n:Nat) (t:TypeId) (cs:List Value) (y:DataW H × List MemPlace),t ∈ ts->DataW.trod enc P W 0 (fun _=>true) true n t cs=some y->(∀ m ∈ y.1.weights P t,m<=reachBytes)->
    ∃ xs,FitW P t xs/\All2 (C.fv (roW W)) xs cs/\∀ c ∈ xs,c.shut=true
  | 0,t,cs,y,_,h,_=>by simp [DataW.trod] at h
  | n + 1,t,cs,y,ht,h,hw0=>by
    have h1:=List.all_eq_true.1 hok t ht
    split at h1
    · rename_i k hu
      obtain ⟨m,rfl,_,hw⟩:=DataW.trod_int hu h
      exact ⟨_,.int hu hw,.cons rfl .nil,fun c hc=>by simp at hc; subst hc; rfl⟩
    · rename_i hu
      obtain ⟨b,rfl,_⟩:=DataW.trod_bool hu h
      exact ⟨_,.bool hu,.cons rfl .nil,fun c hc=>by simp at hc; subst hc; rfl⟩
    · rename_i hu
      obtain ⟨s,rfl,_,hs⟩:=DataW.trod_string hu h
      exact ⟨_,.str hu hs,.cons rfl .nil,fun c hc=>by simp at hc; subst hc; rfl⟩
    · rename_i e hu
      simp only [Bool.and_eq_true,List.contains_iff_mem,decide_eq_true_eq] at h1
      obtain ⟨he,hpos⟩:=h1
      rcases DataW.trod_slice hu h with ⟨rfl,_⟩ | ⟨a,len,cap,elems,rest,n',hn',rfl,hy,_,hl,hm,hel,hi,_⟩
      · exact ⟨_,.sl hu (Nat.zero_le _) (by simp) (fun r hr=>by cases hr),.cons (fz_nil _) .nil,fun c hc=>by simp at hc; subst hc; rfl⟩
      · obtain rfl:n=n':=by omega
        subst hy
        rw [show DataW.weights P t (DataW.slice (elems.map (·.1)) (rest.map (·.1)))=((elems.map (·.1)).length + (rest.map (·.1)).length) * P.bytesOf e :: (DataW.weightsAll P e (elems.map (·.1)) ++ DataW.weightsAll P e (rest.map (·.1))) from by simp [DataW.weights,hu]] at hw0
        have hwl:len * P.bytesOf e<=reachBytes:=by
          have h1:=hw0 _ (List.mem_cons_self)
          rw [List.length_map,List.length_map,hel] at h1
          exact Nat.le_trans (Nat.mul_le_mul_right _ (Nat.le_add_right _ _)) h1
        have hall:∀ i,i < len->∃ x:List C,FitW P e x/\x.length=P.cellsOf e/\(∀ j c,x[j]? = some c->∃ v,W.cell? ((a.add (i * P.cellsOf e)).add j)=some v/\c.fv (roW W) v/\c.shut=true):=fun i hil=>by
          have h1:=hi i hil
          rw [List.getElem?_eq_getElem (by omega)] at h1
          obtain ⟨cs',h2,h3⟩:=Option.bind_eq_some_iff.1 h1
          obtain ⟨x,h4,h5,h6⟩:=fit_of_trodW hok n e cs' _ he h3 (fun m hm=>hw0 m (List.mem_cons_of_mem _ (List.mem_append_left _ (weights_all (List.mem_map_of_mem (List.getElem_mem _)) hm))))
          obtain ⟨_,h7,h8⟩:=World.cells?_some h2
          refine ⟨x,h4,h5.1.trans h7,fun j c hj=>?_⟩
          obtain ⟨v,h9,h10⟩:=h5.get hj
          have hjl:j < P.cellsOf e:=by rw [<-h7,<-h5.1]; exact (List.getElem?_eq_some_iff.1 hj).1
          refine ⟨v,?_,h10,h6 c (List.mem_of_getElem? hj)⟩
          have:=h8 j hjl
          rwa [h9] at this
        by_cases h0:len=0
        · subst h0
          refine ⟨[.fz []],.sl hu (Nat.zero_le _) (by simp) (fun r hr=>by cases hr),.cons ?_ .nil,fun c hc=>by simp at hc; subst hc; rfl⟩
          exact fz_any (b:=0) (off:=0) (fun h=>absurd rfl h) hpos (fun _=>[]) (fun i hi=>by omega) (Nat.zero_le _) (fun i hi=>by omega)
        · obtain ⟨x0,_,hx0l,hx0⟩:=hall 0 (by omega)
          have hsp:a.spot=none:=by
            have hx:∃ c,x0[0]? = some c:=⟨_,List.getElem?_eq_getElem (by omega)⟩
            obtain ⟨c,hc⟩:=hx
            obtain ⟨v,hv,_⟩:=hx0 0 c hc
            unfold World.cell? at hv
            split at hv
            · split at hv
              · cases hv
              · rename_i hs; simpa [Addr.add] using hs
            · cases hv
          obtain ⟨b,off,spot⟩:=a
          obtain rfl:spot=none:=hsp
          haveI:Inhabited (List C):=⟨[]⟩
          obtain ⟨X,hX⟩:=Go.Deep.choose_lt hall
          refine ⟨[.fz ((List.range len).map X)],.sl hu (by simp; omega) (by simpa using hwl) (fun r hr=>?_),.cons ?_ .nil,fun c hc=>by simp at hc; subst hc; rfl⟩
          · obtain ⟨i,hi,rfl⟩:=List.mem_map.1 hr
            exact (hX i (List.mem_range.1 hi)).1
          · exact fz_any (fun _=>rfl) hpos X (fun i hi=>(hX i hi).2.1) hl (fun i hi j c hj=>by
              obtain ⟨v,h2,h3⟩:=(hX i hi).2.2 j c hj
              exact ⟨v,by simpa [Go.WideShapes.add_plain,Nat.add_assoc] using h2,h3⟩)
    · rename_i fs hu
      simp only [Bool.and_eq_true,List.all_eq_true,List.contains_iff_mem,beq_iff_eq] at h1
      obtain ⟨hft,hof⟩:=h1
      obtain ⟨ys,n',hn,hy,hcl,hyl,hf⟩:=DataW.trod_struct hu h
      obtain rfl:n=n':=by omega
      subst hy
      rw [show DataW.weights P t (DataW.agg (ys.map (·.1)))=DataW.weightsEach P (fs.toList.map (·.type)) (ys.map (·.1)) from by simp [DataW.weights,hu]] at hw0
      obtain ⟨parts,k1,k2,k3⟩:=glue (P:=P) (R:=fun c v=>C.fv (roW W) c v/\c.shut=true) (Q:=fun f p=>FitW P f.type p) (cs:=cs) fs.toList 0 (by rw [hcl]; exact hof) (fun i f hfi=>by
        have hfi':fs[i]? = some f:=by simpa using hfi
        have h2:=hf i f hfi'
        have hil:i < fs.size:=(Array.getElem?_eq_some_iff.1 hfi').1
        rw [List.getElem?_eq_getElem (by omega)] at h2
        obtain ⟨x,h4,h5,h6⟩:=fit_of_trodW hok n f.type _ _ (hft f (List.mem_of_getElem? hfi)) h2 (fun m hm=>hw0 m (weights_each (i:=i) (by rw [List.getElem?_map,hfi]; rfl) (by rw [List.getElem?_map,List.getElem?_eq_getElem (by omega)]; rfl) hm))
        exact ⟨x,h4,⟨h5.1,fun j c v hc hv=>⟨h5.2 j c v hc hv,h6 c (List.mem_of_getElem? hc)⟩⟩⟩)
      refine ⟨parts.flatten,.st hu (by simpa using k1) (fun i f p hfi hp=>k2 i f p (by simpa using hfi) hp),?_,fun c hc=>?_⟩
      · simpa using k3.imp (fun _ _ h=>h.1)
      · obtain ⟨j,hj⟩:=List.mem_iff_getElem?.1 hc
        obtain ⟨v,_,_,h3⟩:=k3.get hj
        exact h3
    · cases h1
theorem fit_of_argW (hok:tysOk P ts=true) {t:TypeId} {v:Value} {d:DataW H} {ps:List MemPlace} (ht:t ∈ ts) (h:DataW.Trod enc P W 0 (fun _=>true) true t v d ps) (hw:∀ m ∈ d.weights P t,m<=reachBytes):∃ xs,FitW P t xs/\All2 (C.fv (roW W)) xs v.cells.toList/\∀ c ∈ xs,c.shut=true:=by
  obtain ⟨n,h⟩:=h
  exact fit_of_trodW hok n t _ _ ht h hw
end
end Go.W
namespace Go.Proofs.YtbcnggkldclemaaGreat
open Go.W
theorem yV:Tryz.prog.underlying 29=some (.struct #[⟨"Kind",3,0,false,"","",0⟩,⟨"N",2,1,false,"","",8⟩,⟨"S",9,2,false,"","",16⟩,⟨"L",26,3,false,"","",32⟩,⟨"F",27,4,false,"","",56⟩]):=by kernel_rfl
theorem yE:Tryz.prog.underlying 37=some (.struct #[⟨"Number",3,0,false,"","",0⟩,⟨"Value",29,1,false,"","",8⟩]):=by kernel_rfl
theorem yVs:Tryz.prog.underlying 26=some (.slice 29):=by kernel_rfl
theorem yEs:Tryz.prog.underlying 27=some (.slice 37):=by kernel_rfl
theorem yI:Tryz.prog.underlying 2=some (.int .i64):=by kernel_rfl
theorem bV:Tryz.prog.bytesOf 29=80:=by kernel_rfl
theorem bE:Tryz.prog.bytesOf 37=88:=by kernel_rfl
theorem fitV:∀ {t:TypeId} {cs:List C},FitW Tryz.prog t cs->(t=29->∃ a,cs=vlC a/\VlOk a)/\(t=26->∃ l:List Vl,cs=[.fz (l.map vlC)]/\l.length * 80<=140737488355328/\∀ a ∈ l,VlOk a)/\
    (t=37->∃ x:Int × Vl,cs=veC x/\(in64 x.1/\VlOk x.2))/\(t=27->∃ l:List (Int × Vl),cs=[.fz (l.map veC)]/\l.length * 88<=140737488355328/\∀ x ∈ l,in64 x.1/\VlOk x.2):=by
  intro t cs h
  induction h with
  | int h1 _=>exact ⟨fun e=>(by rw [e,yV] at h1; cases h1),fun e=>(by rw [e,yVs] at h1; cases h1),fun e=>(by rw [e,yE] at h1; cases h1),fun e=>(by rw [e,yEs] at h1; cases h1)⟩
  | bool h1=>exact ⟨fun e=>(by rw [e,yV] at h1; cases h1),fun e=>(by rw [e,yVs] at h1; cases h1),fun e=>(by rw [e,yE] at h1; cases h1),fun e=>(by rw [e,yEs] at h1; cases h1)⟩
  | str h1 _=>exact ⟨fun e=>(by rw [e,yV] at h1; cases h1),fun e=>(by rw [e,yVs] at h1; cases h1),fun e=>(by rw [e,yE] at h1; cases h1),fun e=>(by rw [e,yEs] at h1; cases h1)⟩
  | @sl t e xs h1 h2 h3 h4 ih=>
    refine ⟨fun e=>(by rw [e,yV] at h1; cases h1),fun e=>?_,fun e=>(by rw [e,yE] at h1; cases h1),fun e=>?_⟩
    · subst e
      rw [yVs] at h1
      cases h1
      obtain ⟨l,rfl,hl⟩:=rows_of (row:=vlC) (Q:=VlOk) fun r hr=>(ih r hr).1 rfl
      rw [bV] at h3
      exact ⟨l,rfl,by simp [reachBytes] at h3; omega,hl⟩
    · subst e
      rw [yEs] at h1
      cases h1
      obtain ⟨l,rfl,hl⟩:=rows_of (row:=veC) (Q:=fun x:Int × Vl=>in64 x.1/\VlOk x.2) fun r hr=>(ih r hr).2.2.1 rfl
      rw [bE] at h3
      exact ⟨l,rfl,by simp [reachBytes] at h3; omega,hl⟩
  | @st t fs parts h1 h2 h3 ih=>
    refine ⟨fun e=>?_,fun e=>(by rw [e,yVs] at h1; cases h1),fun e=>?_,fun e=>(by rw [e,yEs] at h1; cases h1)⟩
    · subst e
      rw [yV] at h1
      cases h1
      match parts,h2 with
      | [p0,p1,p2,p3,p4],_=>
        obtain ⟨k,rfl,hk⟩:=Fit.inv_int v3 (h3 0 _ p0 rfl rfl).fit
        obtain ⟨n,rfl,hn⟩:=Fit.inv_int yI (h3 1 _ p1 rfl rfl).fit
        obtain ⟨s,rfl,hs⟩:=Fit.inv_str v9 (h3 2 _ p2 rfl rfl).fit
        obtain ⟨l,rfl,hl,ho⟩:=(ih 3 _ p3 rfl rfl).2.1 rfl
        obtain ⟨f,rfl,hf,hp⟩:=(ih 4 _ p4 rfl rfl).2.2.2 rfl
        exact ⟨.mk k n s l f,by rw [vlC,vlsC_map,vesC_map]; rfl,.mk (wf64 hk) (wf64 hn) (mx47 hs) hl hf ho (fun x hx=>(hp x hx).1) (fun x hx=>(hp x hx).2)⟩
    · subst e
      rw [yE] at h1
      cases h1
      match parts,h2 with
      | [p0,p1],_=>
        obtain ⟨k,rfl,hk⟩:=Fit.inv_int v3 (h3 0 _ p0 rfl rfl).fit
        obtain ⟨v,rfl,hv⟩:=(ih 1 _ p1 rfl rfl).1 rfl
        exact ⟨(k,v),by simp [veC],wf64 hk,hv⟩
theorem fitVl (cs:List C) (h:FitW Tryz.prog 29 cs):∃ a,cs=vlC a/\VlOk a:=(fitV h).1 rfl
end Go.Proofs.YtbcnggkldclemaaGreat
