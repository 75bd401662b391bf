/- Lemmas and walks for the proof. -/
import Derived.Test.YtbolanmlngjdoaaGreatMc
import Derived.Test.YtbolanmlngjdoaaGreatProg
import Derived.WalkKit
import Derived.Sort.Grow
import Derived.Lib.Bytealg
import Derived.Deep.Draws
import Derived.StillTail
import Derived.StillTactics
import Derived.Shelf.SlSortCmp.NoneTotal
import Derived.ProofKit
import Derived.OpenShut
import Derived.ChangeStays
import Derived.Deep.Slices
import Derived.JoinedCond
namespace Go.Proofs.YtbolanmlngjdoaaGreat
open Go.W
def cdSp:W.Spec:=fun av H K=>∃ f:Fl,av=[.va (.gs (flC f))]/\H=[]/\f.ok/\TySm f.ty/\K (.va (.gs (flC f))) []
theorem cd_use {f:Fl} {K:S->Hp->Prop} (h1:f.ok) (h2:TySm f.ty) (hK:K (.va (.gs (flC f))) []):cdSp [.va (.gs (flC f))] [] K:=⟨f,rfl,rfl,h1,h2,hK⟩
set_option maxRecDepth 100000 in
theorem mCopyField:Meets Tryz.prog 94 cdSp:=by
  refine meets_all 0 (t:=fun N=>fun av H K=>∃ f:Fl,av=[.va (.gs (flC f))]/\H=[]/\f.ok/\TySm f.ty/\f.ty.h=N/\K (.va (.gs (flC f))) []) (fun N=>?_) fun av H K ⟨f,e1,e2,h1,h2,hK⟩=>⟨f.ty.h,f,e1,e2,h1,h2,rfl,hK⟩
  refine meets_fn Tryz.func94 ok94 1 (by rw [Tryz.ntmps94]; decide) (meetsAll_s (mCopyType N) (meetsAll_nil _)) (fun av H K h=>by obtain ⟨_,rfl,_⟩:=h; rfl) ?_
  rintro av H K ⟨f,rfl,rfl,h1,h2,rfl,hK⟩
  simp (maxSteps:=1000000) -dsimp only [go_sem,flC,pc94,rs94,fl_ty]
  refine ct_use h1.ty h2 (Nat.le_refl _) ?_
  simp (maxSteps:=1000000) -dsimp only [go_sem,tyC_eq]
  exact .sel [] (by simp) (by simp) rfl (.done (by simpa [go_sem,flC] using hK))
theorem flC_ss (f:Fl):∀ c ∈ flC f,c.shut=true/\c.one:=by simp [flC,go_sem,C.shut]
def csSp':W.Spec:=fun av H K=>∃ t:St,av=[.va (.gs (stC t))]/\H=[]/\t.ok/\(t.fs.length<=1000000000/\∀ f ∈ t.fs,TySm f.ty)/\K (.va (.gs (stC t))) []
theorem cs_use {t:St} {K:S->Hp->Prop} (h1:t.ok) (h2:t.fs.length<=1000000000/\∀ f ∈ t.fs,TySm f.ty) (hK:K (.va (.gs (stC t))) []):csSp' [.va (.gs (stC t))] [] K:=⟨t,rfl,rfl,h1,h2,hK⟩
set_option maxRecDepth 100000 in
theorem mCopyStruct:Meets Tryz.prog 59 csSp':=by
  refine meets_fn Tryz.func59 ok59 1 (by rw [Tryz.ntmps59]; decide) (meetsAll_s mCopyField (meetsAll_nil _)) (fun av H K h=>by obtain ⟨_,rfl,_⟩:=h; rfl) ?_
  rintro av H K ⟨⟨n,l⟩,rfl,rfl,h1,⟨hl,hse⟩,hK⟩
  obtain ⟨hn,_,hfs⟩:=h1
  simp only at hn hl hse hfs
  simp (maxSteps:=1000000) -dsimp only [go_sem,stC,pc59,rs59]
  refine vc_loop_gh (α:=Nat) (fun i=>[(2,.va (.c1 (.pt 1 0))),(3,.va (.c1 (.pt 2 0))),(10,.va (.c1 (.fz (l.map flC)))),(11,iS .i64 l.length),(12,iS .i64 i)]) (fun i=>[.cells (stC ⟨n,l⟩) 37,.cells [.vl (.string (mk [])),.vl (.slice none 0 0)] 37,.cells [.vl (.string n),.sl 3 i] 37,.row ((l.take i).map flC) 50 7])
    (fun i=>i<=l.length) (fun i=>l.length - i) (.nilc 2 1 50 7 [.vl (.string n),.vl (.slice none 0 0)] 37 rfl rfl (gh_at 0 4 (Nat.zero_le _) ?_ ?_)) ?_
  · simp -dsimp only [go_sem]<;>simp
  · simp -dsimp only [go_sem,stC]<;>simp
  intro i hi
  have hz:(l.take i).length=i:=by rw [List.length_take]; omega
  rcases Nat.lt_or_ge i l.length with hlt | hge
  · have hg:decide ((i:Int) < (l.length:Int))=true:=by simp; omega
    obtain ⟨u,hx⟩:∃ t,l[i]? = some t:=⟨_,List.getElem?_eq_getElem hlt⟩
    have q1:=row_rg' (row:=flC) hx
    have hu:=List.mem_of_getElem? hx
    have hcd:flC u=[.vl (.int .i64 u.num),.vl (.string u.nm),.vl (.int .i64 u.ty.k),.vl (.int .i64 u.ty.s),.vl (.string u.ty.n),.fz (u.ty.e.map tyC),.vl (.bool u.opt)]:=rfl
    simp (maxSteps:=1000000) -dsimp only [go_sem,hg,↓q1,flC]
    refine ⟨by omega,cd_use (hfs u hu) (hse u hu) ?_⟩
    simp (maxSteps:=1000000) -dsimp only [go_sem,flC]
    refine ⟨hz,by omega,by omega,loop_next (i + 1) 4 (by omega) (by omega) ?_ ?_⟩
    · simp -dsimp only [go_sem]<;>simp
    · simp -dsimp only [go_sem,stC,take_next hx]<;>simp [flC]
  · have hg:decide ((i:Int) < (l.length:Int))=false:=by simp; omega
    obtain rfl:i=l.length:=by omega
    rw [List.take_length]
    simp (maxSteps:=1000000) -dsimp only [go_sem,hg]
    refine .pub 3 _ _ _ rfl (.sel [] (by simp) (by simp [pubH]) rfl (.done ?_))
    simp -dsimp only [go_sem,pubH]
    simpa [stC] using hK
theorem fnd_step {α:Type} {l:List α} {i:Nat} {x:α} (hx:l[i]? = some x) (p:α->Bool):(l.drop i).find? p=bif p x then some x else (l.drop (i + 1)).find? p:=by
  obtain ⟨h,rfl⟩:=List.getElem?_eq_some_iff.1 hx
  rw [List.drop_eq_getElem_cons h,List.find?_cons]
  cases p l[i]<;>rfl
def stSpP:W.Spec:=fun av H K=>∃ (s:Sc) (n:ByteArray),av=[.va (.gs (scC s)),tS n]/\H=[]/\s.fit/\K (.tu [.gs (stC ((fS s.ss n).getD default)),bA (hasS s.ss n)]) []
theorem stp_use {s:Sc} {n:ByteArray} {K:S->Hp->Prop} (h:s.fit) (hK:K (.tu [.gs (stC ((fS s.ss n).getD default)),bA (hasS s.ss n)]) []):stSpP [.va (.gs (scC s)),tS n] [] K:=⟨s,n,rfl,rfl,h,hK⟩
theorem stC_def:stC default=[.vl (.string (mk [])),.fz []]:=rfl
theorem flC_def:flC default=[.vl (.int .i64 0),.vl (.string (mk [])),.vl (.int .i64 0),.vl (.int .i64 0),.vl (.string (mk [])),.fz [],.vl (.bool false)]:=rfl
set_option maxRecDepth 100000 in
theorem mStructP:Meets Tryz.prog 20 stSpP:=by
  refine meets_fn Tryz.func20 ok20 2 (by rw [Tryz.ntmps20]; decide) (meetsAll_s mCopyStruct (meetsAll_nil _)) (fun av H K h=>by obtain ⟨_,_,rfl,_⟩:=h; rfl) ?_
  rintro av H K ⟨s,n,rfl,rfl,hs,hK⟩
  rw [<-fS_has] at hK
  have hl:=hs.ok.ls
  simp -dsimp only [go_sem,scC,pc20,rs20]
  refine vc_loop (α:=Nat) (fun i=>[(1,tS n),(2,.va (.c1 (.pt 0 0))),(4,.va (.c1 (.pt 1 0))),(9,.va (.c1 (.fz (s.ss.map stC)))),(10,iS .i64 s.ss.length),(11,iS .i64 i)]) (fun _=>[.cells (scC s) 25,.cells [.vl (.string (mk [])),.vl (.slice none 0 0)] 37])
    (fun i=>i<=s.ss.length/\fS (s.ss.drop i) n=fS s.ss n) (fun i=>s.ss.length - i) 0 2 ⟨Nat.zero_le _,rfl⟩ ?_ ?_ ?_
  · simp [go_sem]
  · simp [go_sem,scC]
  rintro i ⟨hi,ho⟩
  rcases Nat.lt_or_ge i s.ss.length with hlt | hge
  · have hg:decide ((i:Int) < (s.ss.length:Int))=true:=by simp; omega
    obtain ⟨t,hx⟩:∃ e,s.ss[i]? = some e:=⟨_,List.getElem?_eq_getElem hlt⟩
    have q2:=row_rg' (row:=stC) hx
    have htm:=List.mem_of_getElem? hx
    rw [fS,fnd_step hx] at ho
    cases hc:decide (t.nm=n) with
    | true=>
      rw [hc,Bool.cond_true] at ho
      rw [<-ho] at hK
      simp (maxSteps:=1000000) -dsimp only [go_sem,hg,↓q2,stC,scC,bl_beq,hc]
      refine ⟨by omega,cs_use (hs.ok.ss t htm) (hs.sm t htm) ?_⟩
      simp (maxSteps:=1000000) -dsimp only [go_sem,stC]
      exact .sel [] (by simp) (by simp) rfl (.done (by simpa [go_sem,stC] using hK))
    | false=>
      rw [hc,Bool.cond_false] at ho
      simp (maxSteps:=1000000) -dsimp only [go_sem,hg,↓q2,stC,scC,bl_beq,hc]
      refine ⟨by omega,by omega,loop_next (i + 1) 2 ⟨by omega,ho⟩ (by omega) ?_ ?_⟩
      · simp [go_sem]
      · simp [go_sem,scC]
  · have hg:decide ((i:Int) < (s.ss.length:Int))=false:=by simp; omega
    obtain rfl:i=s.ss.length:=by omega
    rw [List.drop_length] at ho
    rw [<-ho] at hK
    simp -dsimp only [go_sem,hg,scC]
    exact .sel [] (by simp) (by simp) rfl (.done (by simpa [go_sem,fS,stC_def] using hK))
def fF (l:List Fl) (k:Int):Option Fl:=l.find? fun f=>decide (f.num=k)
def foSpP:W.Spec:=fun av H K=>∃ (t:St) (k:Int),av=[.va (.gs (stC t)),iS .i64 k]/\H=[]/\t.ok/\(∀ f ∈ t.fs,TySm f.ty)/\K (.tu [.gs (flC ((fF t.fs k).getD default)),bA (fF t.fs k).isSome]) []
theorem fop_use {t:St} {k:Int} {K:S->Hp->Prop} (h:t.ok) (h2:∀ f ∈ t.fs,TySm f.ty) (hK:K (.tu [.gs (flC ((fF t.fs k).getD default)),bA (fF t.fs k).isSome]) []):foSpP [.va (.gs (stC t)),iS .i64 k] [] K:=⟨t,k,rfl,rfl,h,h2,hK⟩
set_option maxRecDepth 100000 in
theorem mFieldOfP:Meets Tryz.prog 60 foSpP:=by
  refine meets_fn Tryz.func60 ok60 2 (by rw [Tryz.ntmps60]; decide) (meetsAll_s mCopyField (meetsAll_nil _)) (fun av H K h=>by obtain ⟨_,_,rfl,_⟩:=h; rfl) ?_
  rintro av H K ⟨s,n,rfl,rfl,hs,hsm,hK⟩
  have hl:=hs.len
  simp -dsimp only [go_sem,stC,pc60,rs60]
  refine vc_loop (α:=Nat) (fun i=>[(1,iS .i64 n),(2,.va (.c1 (.pt 0 0))),(4,.va (.c1 (.pt 1 0))),(9,.va (.c1 (.fz (s.fs.map flC)))),(10,iS .i64 s.fs.length),(11,iS .i64 i)]) (fun _=>[.cells (stC s) 37,.cells [.vl (.int .i64 0),.vl (.string (mk [])),.vl (.int .i64 0),.vl (.int .i64 0),.vl (.string (mk [])),.vl (.slice none 0 0),.vl (.bool false)] 50])
    (fun i=>i<=s.fs.length/\fF (s.fs.drop i) n=fF s.fs n) (fun i=>s.fs.length - i) 0 2 ⟨Nat.zero_le _,rfl⟩ ?_ ?_ ?_
  · simp [go_sem]
  · simp [go_sem,stC]
  rintro i ⟨hi,ho⟩
  rcases Nat.lt_or_ge i s.fs.length with hlt | hge
  · have hg:decide ((i:Int) < (s.fs.length:Int))=true:=by simp; omega
    obtain ⟨t,hx⟩:∃ e,s.fs[i]? = some e:=⟨_,List.getElem?_eq_getElem hlt⟩
    have q2:=row_rg' (row:=flC) hx
    have htm:=List.mem_of_getElem? hx
    rw [fF,fnd_step hx] at ho
    have hq:(t.num == n)=decide (t.num=n):=rfl
    cases hc:decide (t.num=n) with
    | true=>
      rw [hc,Bool.cond_true] at ho
      rw [<-ho] at hK
      simp (maxSteps:=1000000) -dsimp only [go_sem,hg,↓q2,flC,stC,hq,hc]
      refine ⟨by omega,cd_use (hs.fs t htm) (hsm t htm) ?_⟩
      simp (maxSteps:=1000000) -dsimp only [go_sem,flC]
      exact .sel [] (by simp) (by simp) rfl (.done (by simpa [go_sem,flC] using hK))
    | false=>
      rw [hc,Bool.cond_false] at ho
      simp (maxSteps:=1000000) -dsimp only [go_sem,hg,↓q2,flC,stC,hq,hc]
      refine ⟨by omega,by omega,loop_next (i + 1) 2 ⟨by omega,ho⟩ (by omega) ?_ ?_⟩
      · simp [go_sem]
      · simp [go_sem,stC]
  · have hg:decide ((i:Int) < (s.fs.length:Int))=false:=by simp; omega
    obtain rfl:i=s.fs.length:=by omega
    rw [List.drop_length] at ho
    rw [<-ho] at hK
    simp -dsimp only [go_sem,hg,stC]
    exact .sel [] (by simp) (by simp) rfl (.done (by simpa [go_sem,fF,flC_def] using hK))
end Go.Proofs.YtbolanmlngjdoaaGreat
namespace Go.Proofs.YtbolanmlngjdoaaGreat
open Go.W
@[go_sem] theorem tyC_bor (t:Ty) (H:Hp):(tyC t).map (C.bor H)=tyC t:=by rw [tyC_eq]; rfl
noncomputable def tyB (a b:Ty):Bool:=@decide (a=b) (Classical.propDecidable _)
theorem tyB_eq {a b:Ty} (h:a=b):tyB a b=true:=by unfold tyB; simp [h]
theorem tyB_ne {a b:Ty} (h:a ≠ b):tyB a b=false:=by unfold tyB; simp [h]
theorem tyB_iff {a b:Ty}:tyB a b=true ↔ a=b:=by unfold tyB; simp
def saPre (N:Nat):List S->Prop:=fun av=>match av with
  | [.va (.gs r),.va (.gs q)]=>isTy r/\isTy q/\(C.ty r).h<=N
  | _=>False
theorem saPre_open {N:Nat} {av:List S} (h:saPre N av):∃ a b,av=[.va (.gs (tyC a)),.va (.gs (tyC b))]/\TyOk a/\TyOk b/\a.h<=N:=by
  unfold saPre at h
  split at h
  · obtain ⟨⟨a,rfl,ha⟩,⟨b,rfl,hb⟩,hh⟩:=h
    rw [ty_dec] at hh
    exact ⟨a,b,rfl,ha,hb,hh⟩
  · exact h.elim
noncomputable def saVal:List S->A:=fun av=>match av with
  | [.va (.gs r),.va (.gs q)]=>bA (tyB (C.ty r) (C.ty q))
  | _=>.gs []
noncomputable def saFn (N:Nat):Fun:=⟨saPre N,saVal,fun av h=>by obtain ⟨a,b,rfl,_⟩:=saPre_open h; trivial⟩
theorem saFn_len {N:Nat}:∀ av H K,(saFn N).sp av H K->av.length=2:=fun av H K h=>by obtain ⟨a,b,rfl,_⟩:=saPre_open h.1.1; rfl
attribute [go_sem] saFn saPre saVal
theorem mk_eq {k s k' s':Int} {n n':ByteArray} {e e':List Ty}:(Ty.mk k s n e=Ty.mk k' s' n' e') ↔ (k=k'/\s=s'/\n=n'/\e=e'):=by simp
set_option maxRecDepth 100000 in
theorem mSameP:∀ N,Meets Tryz.prog 95 (saFn N).sp
  | 0=>⟨by kernel_rfl,by rintro xs vs E ro w K _ _ _ ⟨⟨h,_⟩,_⟩; obtain ⟨a,_,_,_,_,h⟩:=saPre_open h; have:=a.h_pos; omega⟩
  | N + 1=>by
    refine meets_fn Tryz.func95 ok95 2 (by rw [Tryz.ntmps95]; decide) (meetsAll_f (mSameP N) (meetsAll_nil _)) saFn_len ?_
    rintro av H K ⟨⟨h,rfl⟩,hK⟩
    obtain ⟨a,b,rfl,ha,hb,hh⟩:=saPre_open h
    have hK:K (bS (tyB a b)) []:=by
      have:(saFn (N + 1)).val [.va (.gs (tyC a)),.va (.gs (tyC b))]=bA (tyB a b):=by simp -dsimp only [go_sem]
      rw [this] at hK; exact hK
    clear h
    have fin:∀ (x:Bool) (R:Hp),tyB a b=x->W.Fin 0 K (bS x) R:=fun x R h=>by
      rw [h] at hK
      exact .sel [] (by simp) (by simp) rfl (.done (by simpa [go_sem] using hK))
    obtain ⟨k,s,n,e⟩:=a
    obtain ⟨k',s',n',e'⟩:=b
    have hla:=ha.len
    have hoa:=ha.e
    have hob:=hb.e
    simp only [Ty.e] at hla hoa hob
    simp (maxSteps:=1000000) -dsimp only [go_sem,tyC,tysC_map,pc95,rs95,bl_beq]
    refine ⟨fun h1=>fin false _ (tyB_ne fun he=>?_),fun h1=>?_⟩
    · obtain ⟨rfl,rfl,rfl,rfl⟩:=mk_eq.1 he
      simp at h1
    simp only [Bool.or_eq_false_iff,bne_eq_false_iff_eq,Bool.not_eq_false',decide_eq_true_eq] at h1
    obtain ⟨⟨⟨rfl,rfl⟩,rfl⟩,hl⟩:=h1
    have hl:e.length=e'.length:=by omega
    refine vc_loop (α:=Nat) (fun i=>[(2,.va (.c1 (.pt 0 0))),(3,.va (.c1 (.pt 1 0))),(36,iS .i64 e.length),(37,iS .i64 i)]) (fun i=>[.cells (tyC (.mk k s n e)) 48,.cells (tyC (.mk k s n e')) 48])
      (fun i=>i<=e.length/\∀ j,j < i->e[j]? = e'[j]?) (fun i=>e.length - i) 0 2 ⟨Nat.zero_le _,fun j hj=>by omega⟩ ?_ ?_ ?_
    · simp -dsimp only [go_sem]<;>simp
    · simp -dsimp only [go_sem,tyC,tysC_map]<;>simp
    rintro i ⟨hi,ho⟩
    rcases Nat.lt_or_ge i e.length with hlt | hge
    · have hg:decide ((i:Int) < (e.length:Int))=true:=by simp; omega
      obtain ⟨u,hx⟩:∃ t,e[i]? = some t:=⟨_,List.getElem?_eq_getElem hlt⟩
      obtain ⟨v,hy⟩:∃ t,e'[i]? = some t:=⟨_,List.getElem?_eq_getElem (by omega)⟩
      have q1:=row_rg' (row:=tyC) hx
      have q2:=row_rg' (row:=tyC) hy
      have hu:isTy (tyC u):=isTy_mk (hoa u (List.mem_of_getElem? hx))
      have hv:isTy (tyC v):=isTy_mk (hob v (List.mem_of_getElem? hy))
      have huh:u.h<=N:=by have:=Ty.hs_mem (List.mem_of_getElem? hx); rw [Ty.h] at hh; omega
      simp (maxSteps:=1000000) -dsimp only [go_sem,hg,tyC,tysC_map]
      simp (maxSteps:=1000000) -dsimp only [go_sem,tyC_len,hu,hv,hx,hy,Option.some.injEq,forall_eq']
      refine ⟨by omega,by omega,huh,fun h1=>fin false _ (tyB_ne fun he=>?_),fun h1=>?_⟩
      · obtain ⟨_,_,_,rfl⟩:=mk_eq.1 he
        rw [hx] at hy
        rw [tyB_eq (Option.some.inj hy)] at h1
        simp at h1
      · have h1:u=v:=tyB_iff.1 (by simpa using h1)
        subst h1
        refine ⟨by omega,loop_next (i + 1) 2 ⟨by omega,fun j hj=>?_⟩ (by omega) ?_ ?_⟩
        · rcases Nat.lt_or_ge j i with h4 | h4
          · exact ho j h4
          · obtain rfl:j=i:=by omega
            rw [hx,hy]
        · simp -dsimp only [go_sem]<;>simp
        · simp -dsimp only [go_sem,tyC,tysC_map]<;>simp
    · have hg:decide ((i:Int) < (e.length:Int))=false:=by simp; omega
      obtain rfl:i=e.length:=by omega
      simp (maxSteps:=1000000) -dsimp only [go_sem,hg]
      refine fin true _ (tyB_eq ?_)
      rw [mk_eq]
      refine ⟨rfl,rfl,rfl,List.ext_getElem? fun j=>?_⟩
      rcases Nat.lt_or_ge j e.length with h4 | h4
      · exact ho j h4
      · rw [List.getElem?_eq_none h4,List.getElem?_eq_none (by omega)]
def sPre:List S->Prop:=fun av=>match av with
  | [.va (.gs r),.va (.gs q)]=>isTy r/\isTy q
  | _=>False
theorem sPre_open {av:List S} (h:sPre av):∃ a b,av=[.va (.gs (tyC a)),.va (.gs (tyC b))]/\TyOk a/\TyOk b:=by
  unfold sPre at h
  split at h
  · obtain ⟨⟨a,rfl,ha⟩,⟨b,rfl,hb⟩⟩:=h
    exact ⟨a,b,rfl,ha,hb⟩
  · exact h.elim
noncomputable def sFn:Fun:=⟨sPre,saVal,fun av h=>by obtain ⟨a,b,rfl,_⟩:=sPre_open h; trivial⟩
attribute [go_sem] sFn sPre
theorem mSameS:Meets Tryz.prog 95 sFn.sp:=meets_all 0 mSameP fun av H K ⟨⟨h,e⟩,hK⟩=>by
  obtain ⟨a,b,rfl,ha,hb⟩:=sPre_open h
  exact ⟨a.h,⟨⟨⟨isTy_mk ha,isTy_mk hb,by rw [ty_dec]; exact Nat.le_refl _⟩,e⟩,hK⟩⟩
end Go.Proofs.YtbolanmlngjdoaaGreat
namespace Go.Proofs.YtbolanmlngjdoaaGreat
open Go.W
noncomputable def widN:Nat->Ty->Ty->Bool
  | 0,a,b=>tyB a b
  | n + 1,a,b=>tyB a b || (decide (a.k=b.k) && decide (a.n=b.n) && (bif decide (a.k=5) then decide (a.e.length=1) && decide (b.e.length=1) && decide (a.s<=b.s) && widN n (a.e.headD default) (b.e.headD default)
      else (decide (a.k=2) || decide (a.k=3) || decide (a.k=4)) && decide (a.s < b.s) && tyB a (.mk b.k a.s b.n b.e)))
noncomputable def widF (a b:Ty):Bool:=widN a.h a b
theorem h_pos (t:Ty):0 < t.h:=by cases t; rw [Ty.h]; omega
theorem head_mem {l:List Ty} (h:l.length=1):l.headD default ∈ l:=by
  match l,h with
  | [x],_=>simp
theorem widN_more:∀ {n m:Nat} {a b:Ty},a.h<=n->a.h<=m->widN n a b=widN m a b
  | 0,_,a,_,h,_=>by have:=h_pos a; omega
  | _ + 1,0,a,_,_,h=>by have:=h_pos a; omega
  | n + 1,m + 1,a,b,h1,h2=>by
    rw [widN,widN]
    by_cases hl:a.e.length=1
    · have hh:=Ty.h_e (head_mem hl)
      rw [widN_more (n:=n) (m:=m) (by omega) (by omega)]
    · simp [hl]
theorem widF_step (a b:Ty):widF a b=(tyB a b || (decide (a.k=b.k) && decide (a.n=b.n) && (bif decide (a.k=5) then decide (a.e.length=1) && decide (b.e.length=1) && decide (a.s<=b.s) && widF (a.e.headD default) (b.e.headD default)
      else (decide (a.k=2) || decide (a.k=3) || decide (a.k=4)) && decide (a.s < b.s) && tyB a (.mk b.k a.s b.n b.e)))):=by
  obtain ⟨m,hm⟩:∃ m,a.h=m + 1:=⟨a.h - 1,by have:=h_pos a; omega⟩
  unfold widF
  rw [hm,widN]
  by_cases hl:a.e.length=1
  · have hh:=Ty.h_e (head_mem hl)
    rw [widN_more (n:=m) (m:=(a.e.headD default).h) (by omega) (Nat.le_refl _)]
  · simp [hl]
theorem widF_refl (a:Ty):widF a a=true:=by rw [widF_step,tyB_eq rfl,Bool.true_or]
theorem widF_iff {a b:Ty}:widF a b=true ↔ a=b\/(a.k=b.k/\a.n=b.n/\((a.k=5/\a.e.length=1/\b.e.length=1/\a.s<=b.s/\widF (a.e.headD default) (b.e.headD default)=true)\/(a.k ≠ 5/\(a.k=2\/a.k=3\/a.k=4)/\a.s < b.s/\a.e=b.e))):=by
  rw [widF_step]
  have hx:tyB a (.mk b.k a.s b.n b.e)=true ↔ (a.k=b.k/\a.n=b.n/\a.e=b.e):=by
    rw [tyB_iff]
    cases a with
    | mk k s n e=>simp [Ty.k,Ty.s,Ty.n,Ty.e]
  by_cases h5:a.k=5
  · simp only [Bool.or_eq_true,Bool.and_eq_true,decide_eq_true_eq,tyB_iff,h5,decide_true,Bool.cond_true,true_and,not_true,ne_eq,false_and,or_false]
    simp only [and_assoc]
  · simp only [Bool.or_eq_true,Bool.and_eq_true,decide_eq_true_eq,tyB_iff,h5,decide_false,Bool.cond_false,false_and,false_or,ne_eq,not_false_eq_true,true_and,hx]
    constructor
    · rintro (h | ⟨⟨h1,h2⟩,⟨h3,h4⟩,h5,h6,h7⟩)
      · exact .inl h
      · exact .inr ⟨h1,h2,by omega,h4,h7⟩
    · rintro (h | ⟨h1,h2,h3,h4,h5⟩)
      · exact .inl h
      · exact .inr ⟨⟨h1,h2⟩,⟨by omega,h4⟩,h1,h2,h5⟩
noncomputable def tlB (a b:List Ty):Bool:=@decide (a=b) (Classical.propDecidable _)
theorem tlB_iff {a b:List Ty}:tlB a b=true ↔ a=b:=by unfold tlB; simp
theorem widF_ref (a b:Ty):widF a b=(tyB a b || (decide (a.k=b.k) && decide (a.n=b.n) && decide (a.e.length=b.e.length) &&
    (bif decide (a.k=2) || decide (a.k=3) then decide (a.s < b.s) && tlB a.e b.e else bif decide (a.k=4) then decide (a.s<=b.s) && tlB a.e b.e else bif decide (a.k=5) then decide (a.s<=b.s) && decide (a.e.length=1) && widF (a.e.headD default) (b.e.headD default) else false))):=by
  rw [Bool.eq_iff_iff,widF_iff]
  have he:a=b ↔ (a.k=b.k/\a.s=b.s/\a.n=b.n/\a.e=b.e):=by
    cases a; cases b; simp [Ty.k,Ty.s,Ty.n,Ty.e]
  simp only [Bool.or_eq_true,Bool.and_eq_true,decide_eq_true_eq,tyB_iff]
  by_cases h2:a.k=2\/a.k=3
  · have e2:(decide (a.k=2) || decide (a.k=3))=true:=by simpa using h2
    rw [e2,Bool.cond_true]
    simp only [Bool.and_eq_true,decide_eq_true_eq,tlB_iff]
    constructor
    · rintro (h | ⟨h3,h4,⟨h5,_⟩ | ⟨_,_,h5,h6⟩⟩)
      · exact .inl h
      · omega
      · exact .inr ⟨⟨⟨h3,h4⟩,by rw [h6]⟩,h5,h6⟩
    · rintro (h | ⟨⟨⟨h3,h4⟩,_⟩,h5,h6⟩)
      · exact .inl h
      · exact .inr ⟨h3,h4,.inr ⟨by omega,by omega,h5,h6⟩⟩
  · have e2:(decide (a.k=2) || decide (a.k=3))=false:=by simpa using h2
    rw [e2,Bool.cond_false]
    by_cases h4:a.k=4
    · rw [decide_eq_true h4,Bool.cond_true]
      simp only [Bool.and_eq_true,decide_eq_true_eq,tlB_iff]
      constructor
      · rintro (h | ⟨h3,h5,⟨h6,_⟩ | ⟨_,_,h6,h7⟩⟩)
        · exact .inl h
        · omega
        · exact .inr ⟨⟨⟨h3,h5⟩,by rw [h7]⟩,by omega,h7⟩
      · rintro (h | ⟨⟨⟨h3,h5⟩,_⟩,h6,h7⟩)
        · exact .inl h
        · rcases Int.lt_or_eq_of_le h6 with h8 | h8
          · exact .inr ⟨h3,h5,.inr ⟨by omega,by omega,h8,h7⟩⟩
          · exact .inl (he.2 ⟨h3,h8,h5,h7⟩)
    · rw [decide_eq_false h4,Bool.cond_false]
      by_cases h5:a.k=5
      · rw [decide_eq_true h5,Bool.cond_true]
        simp only [Bool.and_eq_true,decide_eq_true_eq]
        constructor
        · rintro (h | ⟨h3,h6,⟨_,h7,h8,h9,h10⟩ | ⟨h7,_⟩⟩)
          · exact .inl h
          · exact .inr ⟨⟨⟨h3,h6⟩,by omega⟩,⟨h9,h7⟩,h10⟩
          · exact absurd h5 h7
        · rintro (h | ⟨⟨⟨h3,h6⟩,h7⟩,⟨h8,h9⟩,h10⟩)
          · exact .inl h
          · exact .inr ⟨h3,h6,.inl ⟨h5,h9,by omega,h8,h10⟩⟩
      · rw [decide_eq_false h5,Bool.cond_false]
        constructor
        · rintro (h | ⟨h3,h6,⟨h7,_⟩ | ⟨_,h7,_⟩⟩)
          · exact .inl h
          · exact absurd h7 h5
          · omega
        · rintro (h | ⟨_,h⟩)
          · exact .inl h
          · cases h
end Go.Proofs.YtbolanmlngjdoaaGreat
namespace Go.Proofs.YtbolanmlngjdoaaGreat
open Go.W
set_option maxRecDepth 100000 in
set_option maxHeartbeats 4000000 in
theorem mRIsName:Meets Tryz.prog 71 (strFn fun l=>.bool (isNm l)).sp:=by
  refine meets_fn Tryz.func71 ok71 1 (by rw [Tryz.ntmps71]; decide) (meetsAll_nil _) strFn_len ?_
  rintro xs H K ⟨⟨h,rfl⟩,hK⟩
  obtain ⟨s,rfl⟩:=strPre_open h
  simp -dsimp only [go_sem,pc71,rs71] at hK ⊢
  refine ⟨fun h1=>?_,fun h1=>?_⟩
  · refine fin_eq hK ?_
    have:isNm (bl s)=false:=by
      simp at h1
      rcases h1 with h1 | h1
      · have:bl s=[]:=List.length_eq_zero_iff.1 (by omega)
        rw [this]; rfl
      · exact isNm_long (by omega)
    rw [this]
  · have hlen:0 < (bl s).length/\(bl s).length<=16:=by simp at h1; omega
    obtain ⟨hl0,hl⟩:=hlen
    refine vc_loop (α:=Nat) (fun i=>[(0,tS s),(3,iS .i64 i)]) (fun i=>[]) (fun i=>i<=(bl s).length/\(∀ (j:Nat) (x:UInt8),j < i->(bl s)[j]? = some x->wordB x=true)/\(0 < i->∀ x,(bl s)[0]? = some x->isLet x.toNat=true)) (fun i=>(bl s).length - i) 0 0 ⟨by omega,by omega,by omega⟩ ?_ ?_ ?_
    · simp -dsimp only [go_sem]; simp
    · simp [go_sem]
    rintro i ⟨hi,ha,hb⟩
    rcases Nat.lt_or_ge i (bl s).length with hlt | hge
    · have hg:decide ((i:Int) < ((bl s).length:Int))=true:=by simp; omega
      obtain ⟨c,hc⟩:∃ c,(bl s)[i]? = some c:=⟨_,List.getElem?_eq_getElem hlt⟩
      have bad:(i=0/\isLet c.toNat=false)\/wordB c=false->W.Fin 0 K (bS false) []:=fun h=>fin_eq hK (by
        rcases h with ⟨rfl,h⟩ | h
        · rw [isNm_first hc h]
        · rw [isNm_at hc h])
      have nxt:wordB c=true->(i=0->isLet c.toNat=true)->(i + 1<=(bl s).length/\(∀ (j:Nat) (x:UInt8),j < i + 1->(bl s)[j]? = some x->wordB x=true)/\(0 < i + 1->∀ x,(bl s)[0]? = some x->isLet x.toNat=true)):=fun h1 h2=>⟨by omega,fun j x hj hx=>by
        rcases Nat.lt_or_ge j i with h4 | h4
        · exact ha j x h4 hx
        · obtain rfl:j=i:=by omega
          rw [hc] at hx; obtain rfl:=Option.some.inj hx; exact h1,fun _ x hx=>by
        rcases Nat.eq_zero_or_pos i with h0 | h0
        · subst h0; rw [hc] at hx; obtain rfl:=Option.some.inj hx; exact h2 rfl
        · exact hb h0 x hx⟩
      have hb255:=c.toNat_lt
      have hcs:(0<=(c.toNat:Int)/\(c.toNat:Int)<=47)\/(48<=(c.toNat:Int)/\(c.toNat:Int)<=57)\/(58<=(c.toNat:Int)/\(c.toNat:Int)<=64)\/(65<=(c.toNat:Int)/\(c.toNat:Int)<=90)\/(91<=(c.toNat:Int)/\(c.toNat:Int)<=94)\/(95<=(c.toNat:Int)/\(c.toNat:Int)<=95)\/(96<=(c.toNat:Int)/\(c.toNat:Int)<=96)\/(97<=(c.toNat:Int)/\(c.toNat:Int)<=122)\/(123<=(c.toNat:Int)/\(c.toNat:Int)<=255):=by omega
      rcases hcs with h2 | h2 | h2 | h2 | h2 | h2 | h2 | h2 | h2
      · have d1:decide (97<=(c.toNat:Int))=false:=decide_eq_false (by omega)
        have d2:decide ((c.toNat:Int)<=122)=true:=decide_eq_true (by omega)
        have d3:decide (65<=(c.toNat:Int))=false:=decide_eq_false (by omega)
        have d4:decide ((c.toNat:Int)<=90)=true:=decide_eq_true (by omega)
        have d5:((c.toNat:Int) == 95)=false:=by simp; omega
        have d6:decide (48<=(c.toNat:Int))=false:=decide_eq_false (by omega)
        have d7:decide ((c.toNat:Int)<=57)=true:=decide_eq_true (by omega)
        have hL:isLet c.toNat=false:=by unfold isLet; rw [d1,d2,d3,d4]; rfl
        have hW:wordB c=false:=by unfold wordB isWord isDig; rw [hL,d5,d6,d7]; rfl
        rcases Nat.eq_zero_or_pos i with h0 | h0
        · have hz:((i:Int) == 0)=true:=by simp; omega
          simp (maxSteps:=1000000) -dsimp only [go_sem,hg,hc,Option.some.injEq,forall_eq',Int.toNat_natCast,d1,d3,d5,d6,hz,Bool.true_and,Bool.and_true,Bool.false_and,Bool.and_false,Bool.not_true,Bool.not_false]
          repeat' first | intro _ | apply And.intro
          all_goals first | omega | (rename_i h9; simp at h9; done) | skip
          all_goals exact bad (by rw [hL,hW]; exact .inl ⟨h0,rfl⟩)
        · have hz:((i:Int) == 0)=false:=by simp; omega
          simp (maxSteps:=1000000) -dsimp only [go_sem,hg,hc,Option.some.injEq,forall_eq',Int.toNat_natCast,d1,d3,d5,d6,hz,Bool.true_and,Bool.and_true,Bool.false_and,Bool.not_false]
          repeat' first | intro _ | apply And.intro
          all_goals first | omega | (rename_i h9; simp at h9; done) | skip
          all_goals exact bad (by rw [hL,hW]; exact .inr rfl)
      · have d1:decide (97<=(c.toNat:Int))=false:=decide_eq_false (by omega)
        have d2:decide ((c.toNat:Int)<=122)=true:=decide_eq_true (by omega)
        have d3:decide (65<=(c.toNat:Int))=false:=decide_eq_false (by omega)
        have d4:decide ((c.toNat:Int)<=90)=true:=decide_eq_true (by omega)
        have d5:((c.toNat:Int) == 95)=false:=by simp; omega
        have d6:decide (48<=(c.toNat:Int))=true:=decide_eq_true (by omega)
        have d7:decide ((c.toNat:Int)<=57)=true:=decide_eq_true (by omega)
        have hL:isLet c.toNat=false:=by unfold isLet; rw [d1,d2,d3,d4]; rfl
        have hW:wordB c=true:=by unfold wordB isWord isDig; rw [hL,d5,d6,d7]; rfl
        rcases Nat.eq_zero_or_pos i with h0 | h0
        · have hz:((i:Int) == 0)=true:=by simp; omega
          simp (maxSteps:=1000000) -dsimp only [go_sem,hg,hc,Option.some.injEq,forall_eq',Int.toNat_natCast,d1,d3,d5,d6,hz,Bool.true_and,Bool.and_true,Bool.false_and,Bool.and_false,Bool.not_true,Bool.not_false]
          repeat' first | intro _ | apply And.intro
          all_goals first | omega | (rename_i h9; simp at h9; done) | skip
          all_goals exact bad (by rw [hL,hW]; exact .inl ⟨h0,rfl⟩)
        · have hz:((i:Int) == 0)=false:=by simp; omega
          simp (maxSteps:=1000000) -dsimp only [go_sem,hg,hc,Option.some.injEq,forall_eq',Int.toNat_natCast,d1,d3,d5,d6,d7,hz,Bool.true_and,Bool.and_true,Bool.false_and,Bool.not_false]
          repeat' first | intro _ | apply And.intro
          all_goals first | omega | (rename_i h9; simp at h9; done) | skip
          all_goals exact loop_next (i + 1) 0 (nxt (by rw [hW]) (fun h3=>by omega)) (by omega) (by simp -dsimp only [go_sem]; simp) (by simp [go_sem])
      · have d1:decide (97<=(c.toNat:Int))=false:=decide_eq_false (by omega)
        have d2:decide ((c.toNat:Int)<=122)=true:=decide_eq_true (by omega)
        have d3:decide (65<=(c.toNat:Int))=false:=decide_eq_false (by omega)
        have d4:decide ((c.toNat:Int)<=90)=true:=decide_eq_true (by omega)
        have d5:((c.toNat:Int) == 95)=false:=by simp; omega
        have d6:decide (48<=(c.toNat:Int))=true:=decide_eq_true (by omega)
        have d7:decide ((c.toNat:Int)<=57)=false:=decide_eq_false (by omega)
        have hL:isLet c.toNat=false:=by unfold isLet; rw [d1,d2,d3,d4]; rfl
        have hW:wordB c=false:=by unfold wordB isWord isDig; rw [hL,d5,d6,d7]; rfl
        rcases Nat.eq_zero_or_pos i with h0 | h0
        · have hz:((i:Int) == 0)=true:=by simp; omega
          simp (maxSteps:=1000000) -dsimp only [go_sem,hg,hc,Option.some.injEq,forall_eq',Int.toNat_natCast,d1,d3,d5,d6,hz,Bool.true_and,Bool.and_true,Bool.false_and,Bool.and_false,Bool.not_true,Bool.not_false]
          repeat' first | intro _ | apply And.intro
          all_goals first | omega | (rename_i h9; simp at h9; done) | skip
          all_goals exact bad (by rw [hL,hW]; exact .inl ⟨h0,rfl⟩)
        · have hz:((i:Int) == 0)=false:=by simp; omega
          simp (maxSteps:=1000000) -dsimp only [go_sem,hg,hc,Option.some.injEq,forall_eq',Int.toNat_natCast,d1,d3,d5,d6,d7,hz,Bool.true_and,Bool.and_true,Bool.false_and,Bool.not_false]
          repeat' first | intro _ | apply And.intro
          all_goals first | omega | (rename_i h9; simp at h9; done) | skip
          all_goals exact bad (by rw [hL,hW]; exact .inr rfl)
      · have d1:decide (97<=(c.toNat:Int))=false:=decide_eq_false (by omega)
        have d2:decide ((c.toNat:Int)<=122)=true:=decide_eq_true (by omega)
        have d3:decide (65<=(c.toNat:Int))=true:=decide_eq_true (by omega)
        have d4:decide ((c.toNat:Int)<=90)=true:=decide_eq_true (by omega)
        have d5:((c.toNat:Int) == 95)=false:=by simp; omega
        have d6:decide (48<=(c.toNat:Int))=true:=decide_eq_true (by omega)
        have d7:decide ((c.toNat:Int)<=57)=false:=decide_eq_false (by omega)
        have hL:isLet c.toNat=true:=by unfold isLet; rw [d1,d2,d3,d4]; rfl
        have hW:wordB c=true:=by unfold wordB isWord isDig; rw [hL,d5,d6,d7]; rfl
        rcases Nat.eq_zero_or_pos i with h0 | h0
        · have hz:((i:Int) == 0)=true:=by simp; omega
          simp (maxSteps:=1000000) -dsimp only [go_sem,hg,hc,Option.some.injEq,forall_eq',Int.toNat_natCast,d1,d3,d4,d5,d6,hz,Bool.true_and,Bool.and_true,Bool.false_and,Bool.and_false,Bool.not_true,Bool.not_false]
          repeat' first | intro _ | apply And.intro
          all_goals first | omega | (rename_i h9; simp at h9; done) | skip
          all_goals exact loop_next (i + 1) 0 (nxt (by rw [hW]) (fun h3=>by rw [hL])) (by omega) (by simp -dsimp only [go_sem]; simp) (by simp [go_sem])
        · have hz:((i:Int) == 0)=false:=by simp; omega
          simp (maxSteps:=1000000) -dsimp only [go_sem,hg,hc,Option.some.injEq,forall_eq',Int.toNat_natCast,d1,d3,d4,d5,d6,d7,hz,Bool.true_and,Bool.and_true,Bool.false_and,Bool.not_false]
          repeat' first | intro _ | apply And.intro
          all_goals first | omega | (rename_i h9; simp at h9; done) | skip
          all_goals exact loop_next (i + 1) 0 (nxt (by rw [hW]) (fun h3=>by rw [hL])) (by omega) (by simp -dsimp only [go_sem]; simp) (by simp [go_sem])
      · have d1:decide (97<=(c.toNat:Int))=false:=decide_eq_false (by omega)
        have d2:decide ((c.toNat:Int)<=122)=true:=decide_eq_true (by omega)
        have d3:decide (65<=(c.toNat:Int))=true:=decide_eq_true (by omega)
        have d4:decide ((c.toNat:Int)<=90)=false:=decide_eq_false (by omega)
        have d5:((c.toNat:Int) == 95)=false:=by simp; omega
        have d6:decide (48<=(c.toNat:Int))=true:=decide_eq_true (by omega)
        have d7:decide ((c.toNat:Int)<=57)=false:=decide_eq_false (by omega)
        have hL:isLet c.toNat=false:=by unfold isLet; rw [d1,d2,d3,d4]; rfl
        have hW:wordB c=false:=by unfold wordB isWord isDig; rw [hL,d5,d6,d7]; rfl
        rcases Nat.eq_zero_or_pos i with h0 | h0
        · have hz:((i:Int) == 0)=true:=by simp; omega
          simp (maxSteps:=1000000) -dsimp only [go_sem,hg,hc,Option.some.injEq,forall_eq',Int.toNat_natCast,d1,d3,d4,d5,d6,hz,Bool.true_and,Bool.and_true,Bool.false_and,Bool.and_false,Bool.not_true,Bool.not_false]
          repeat' first | intro _ | apply And.intro
          all_goals first | omega | (rename_i h9; simp at h9; done) | skip
          all_goals exact bad (by rw [hL,hW]; exact .inl ⟨h0,rfl⟩)
        · have hz:((i:Int) == 0)=false:=by simp; omega
          simp (maxSteps:=1000000) -dsimp only [go_sem,hg,hc,Option.some.injEq,forall_eq',Int.toNat_natCast,d1,d3,d4,d5,d6,d7,hz,Bool.true_and,Bool.and_true,Bool.false_and,Bool.not_false]
          repeat' first | intro _ | apply And.intro
          all_goals first | omega | (rename_i h9; simp at h9; done) | skip
          all_goals exact bad (by rw [hL,hW]; exact .inr rfl)
      · have d1:decide (97<=(c.toNat:Int))=false:=decide_eq_false (by omega)
        have d2:decide ((c.toNat:Int)<=122)=true:=decide_eq_true (by omega)
        have d3:decide (65<=(c.toNat:Int))=true:=decide_eq_true (by omega)
        have d4:decide ((c.toNat:Int)<=90)=false:=decide_eq_false (by omega)
        have d5:((c.toNat:Int) == 95)=true:=by simp; omega
        have d6:decide (48<=(c.toNat:Int))=true:=decide_eq_true (by omega)
        have d7:decide ((c.toNat:Int)<=57)=false:=decide_eq_false (by omega)
        have hL:isLet c.toNat=false:=by unfold isLet; rw [d1,d2,d3,d4]; rfl
        have hW:wordB c=true:=by unfold wordB isWord isDig; rw [hL,d5,d6,d7]; rfl
        rcases Nat.eq_zero_or_pos i with h0 | h0
        · have hz:((i:Int) == 0)=true:=by simp; omega
          simp (maxSteps:=1000000) -dsimp only [go_sem,hg,hc,Option.some.injEq,forall_eq',Int.toNat_natCast,d1,d3,d4,d5,hz,Bool.true_and,Bool.and_true,Bool.false_and,Bool.and_false,Bool.not_true,Bool.not_false]
          repeat' first | intro _ | apply And.intro
          all_goals first | omega | (rename_i h9; simp at h9; done) | skip
          all_goals exact bad (by rw [hL,hW]; exact .inl ⟨h0,rfl⟩)
        · have hz:((i:Int) == 0)=false:=by simp; omega
          simp (maxSteps:=1000000) -dsimp only [go_sem,hg,hc,Option.some.injEq,forall_eq',Int.toNat_natCast,d1,d3,d4,d5,hz,Bool.true_and,Bool.and_true,Bool.false_and,Bool.not_true,Bool.not_false]
          repeat' first | intro _ | apply And.intro
          all_goals first | omega | (rename_i h9; simp at h9; done) | skip
          all_goals exact loop_next (i + 1) 0 (nxt (by rw [hW]) (fun h3=>by omega)) (by omega) (by simp -dsimp only [go_sem]; simp) (by simp [go_sem])
      · have d1:decide (97<=(c.toNat:Int))=false:=decide_eq_false (by omega)
        have d2:decide ((c.toNat:Int)<=122)=true:=decide_eq_true (by omega)
        have d3:decide (65<=(c.toNat:Int))=true:=decide_eq_true (by omega)
        have d4:decide ((c.toNat:Int)<=90)=false:=decide_eq_false (by omega)
        have d5:((c.toNat:Int) == 95)=false:=by simp; omega
        have d6:decide (48<=(c.toNat:Int))=true:=decide_eq_true (by omega)
        have d7:decide ((c.toNat:Int)<=57)=false:=decide_eq_false (by omega)
        have hL:isLet c.toNat=false:=by unfold isLet; rw [d1,d2,d3,d4]; rfl
        have hW:wordB c=false:=by unfold wordB isWord isDig; rw [hL,d5,d6,d7]; rfl
        rcases Nat.eq_zero_or_pos i with h0 | h0
        · have hz:((i:Int) == 0)=true:=by simp; omega
          simp (maxSteps:=1000000) -dsimp only [go_sem,hg,hc,Option.some.injEq,forall_eq',Int.toNat_natCast,d1,d3,d4,d5,d6,hz,Bool.true_and,Bool.and_true,Bool.false_and,Bool.and_false,Bool.not_true,Bool.not_false]
          repeat' first | intro _ | apply And.intro
          all_goals first | omega | (rename_i h9; simp at h9; done) | skip
          all_goals exact bad (by rw [hL,hW]; exact .inl ⟨h0,rfl⟩)
        · have hz:((i:Int) == 0)=false:=by simp; omega
          simp (maxSteps:=1000000) -dsimp only [go_sem,hg,hc,Option.some.injEq,forall_eq',Int.toNat_natCast,d1,d3,d4,d5,d6,d7,hz,Bool.true_and,Bool.and_true,Bool.false_and,Bool.not_false]
          repeat' first | intro _ | apply And.intro
          all_goals first | omega | (rename_i h9; simp at h9; done) | skip
          all_goals exact bad (by rw [hL,hW]; exact .inr rfl)
      · have d1:decide (97<=(c.toNat:Int))=true:=decide_eq_true (by omega)
        have d2:decide ((c.toNat:Int)<=122)=true:=decide_eq_true (by omega)
        have d3:decide (65<=(c.toNat:Int))=true:=decide_eq_true (by omega)
        have d4:decide ((c.toNat:Int)<=90)=false:=decide_eq_false (by omega)
        have d5:((c.toNat:Int) == 95)=false:=by simp; omega
        have d6:decide (48<=(c.toNat:Int))=true:=decide_eq_true (by omega)
        have d7:decide ((c.toNat:Int)<=57)=false:=decide_eq_false (by omega)
        have hL:isLet c.toNat=true:=by unfold isLet; rw [d1,d2,d3,d4]; rfl
        have hW:wordB c=true:=by unfold wordB isWord isDig; rw [hL,d5,d6,d7]; rfl
        rcases Nat.eq_zero_or_pos i with h0 | h0
        · have hz:((i:Int) == 0)=true:=by simp; omega
          simp (maxSteps:=1000000) -dsimp only [go_sem,hg,hc,Option.some.injEq,forall_eq',Int.toNat_natCast,d1,d2,d5,d6,hz,Bool.true_and,Bool.and_true,Bool.false_and,Bool.and_false,Bool.not_true,Bool.not_false]
          repeat' first | intro _ | apply And.intro
          all_goals first | omega | (rename_i h9; simp at h9; done) | skip
          all_goals exact loop_next (i + 1) 0 (nxt (by rw [hW]) (fun h3=>by rw [hL])) (by omega) (by simp -dsimp only [go_sem]; simp) (by simp [go_sem])
        · have hz:((i:Int) == 0)=false:=by simp; omega
          simp (maxSteps:=1000000) -dsimp only [go_sem,hg,hc,Option.some.injEq,forall_eq',Int.toNat_natCast,d1,d2,d5,d6,d7,hz,Bool.true_and,Bool.and_true,Bool.false_and,Bool.not_true,Bool.not_false]
          repeat' first | intro _ | apply And.intro
          all_goals first | omega | (rename_i h9; simp at h9; done) | skip
          all_goals exact loop_next (i + 1) 0 (nxt (by rw [hW]) (fun h3=>by rw [hL])) (by omega) (by simp -dsimp only [go_sem]; simp) (by simp [go_sem])
      · have d1:decide (97<=(c.toNat:Int))=true:=decide_eq_true (by omega)
        have d2:decide ((c.toNat:Int)<=122)=false:=decide_eq_false (by omega)
        have d3:decide (65<=(c.toNat:Int))=true:=decide_eq_true (by omega)
        have d4:decide ((c.toNat:Int)<=90)=false:=decide_eq_false (by omega)
        have d5:((c.toNat:Int) == 95)=false:=by simp; omega
        have d6:decide (48<=(c.toNat:Int))=true:=decide_eq_true (by omega)
        have d7:decide ((c.toNat:Int)<=57)=false:=decide_eq_false (by omega)
        have hL:isLet c.toNat=false:=by unfold isLet; rw [d1,d2,d3,d4]; rfl
        have hW:wordB c=false:=by unfold wordB isWord isDig; rw [hL,d5,d6,d7]; rfl
        rcases Nat.eq_zero_or_pos i with h0 | h0
        · have hz:((i:Int) == 0)=true:=by simp; omega
          simp (maxSteps:=1000000) -dsimp only [go_sem,hg,hc,Option.some.injEq,forall_eq',Int.toNat_natCast,d1,d2,d3,d4,d5,d6,hz,Bool.true_and,Bool.and_true,Bool.and_false,Bool.not_true,Bool.not_false]
          repeat' first | intro _ | apply And.intro
          all_goals first | omega | (rename_i h9; simp at h9; done) | skip
          all_goals exact bad (by rw [hL,hW]; exact .inl ⟨h0,rfl⟩)
        · have hz:((i:Int) == 0)=false:=by simp; omega
          simp (maxSteps:=1000000) -dsimp only [go_sem,hg,hc,Option.some.injEq,forall_eq',Int.toNat_natCast,d1,d2,d3,d4,d5,d6,d7,hz,Bool.true_and,Bool.and_true,Bool.not_false]
          repeat' first | intro _ | apply And.intro
          all_goals first | omega | (rename_i h9; simp at h9; done) | skip
          all_goals exact bad (by rw [hL,hW]; exact .inr rfl)
    · have hg:decide ((i:Int) < ((bl s).length:Int))=false:=by simp; omega
      obtain rfl:i=(bl s).length:=by omega
      obtain ⟨c,hc⟩:∃ c,(bl s)[0]? = some c:=⟨_,List.getElem?_eq_getElem hl0⟩
      simp (maxSteps:=1000000) -dsimp only [go_sem,hg]
      refine fin_eq hK ?_
      rw [isNm_true hc hl (hb hl0 c hc) fun j x hx=>ha j x (List.getElem?_eq_some_iff.1 hx).1 hx]
end Go.Proofs.YtbolanmlngjdoaaGreat
namespace Go.Proofs.YtbolanmlngjdoaaGreat
open Go.W
set_option maxRecDepth 100000 in
theorem mRIsType:Meets Tryz.prog 70 (strFn fun l=>.bool (tnB l)).sp:=by
  refine meets_fn Tryz.func70 ok70 1 (by rw [Tryz.ntmps70]; decide) (meetsAll_f mRIsName (meetsAll_nil _)) strFn_len ?_
  rintro xs H K ⟨⟨h,rfl⟩,hK⟩
  obtain ⟨s,rfl⟩:=strPre_open h
  have hK':K (.va (.c1 (.vl (.bool (tnB (bl s)))))) []:=hK
  clear hK h
  unfold tnB at hK'
  cases hn:isNm (bl s) with
  | false=>
    rw [hn] at hK'
    simp -dsimp only [go_sem,pc70,rs70,hn]
    exact .done hK'
  | true=>
    cases hl:bl s with
    | nil=>rw [hl] at hn; cases hn
    | cons c r=>
      rw [hl] at hn hK'
      rw [hn] at hK'
      simp -dsimp only [go_sem,pc70,rs70,hl,hn]
      refine ⟨by omega,fun d hd=>⟨fun _=>by omega,fun e he=>?_⟩⟩
      subst hd
      cases hc:decide (65<=(c.toNat:Int)) with
      | false=>simp only [hc,Bool.true_and,Bool.false_and] at hK'; exact .done hK'
      | true=>
        obtain rfl:=he hc
        simp only [hc,Bool.true_and] at hK'; exact .done hK'
set_option maxRecDepth 100000 in
theorem mRPlain:Meets Tryz.prog 107 (gFn isTy C.ty fun t=>.bool ((t.e.length:Int) == 0)).sp:=by
  refine meets_fn Tryz.func107 ok107 1 (by rw [Tryz.ntmps107]; decide) (meetsAll_nil _) gFn_len ?_
  rintro av H K ⟨⟨h,rfl⟩,hK⟩
  obtain ⟨_,rfl,t,rfl,ht⟩:=gPre_open h
  have hK:K (bS ((t.e.length:Int) == 0)) []:=by
    have:(gFn isTy C.ty fun t=>.bool ((t.e.length:Int) == 0)).val [.va (.gs (tyC t))]=bA ((t.e.length:Int) == 0):=by simp -dsimp only [go_sem]
    rw [this] at hK; exact hK
  simp (maxSteps:=1000000) -dsimp only [go_sem,tyC_eq,pc107,rs107]
  exact .sel [] (by simp) (by simp) rfl (.done (by simpa [go_sem] using hK))
def inPre:List S->Prop:=fun av=>match av with
  | [.va (.c1 (.fz rs)),.va (.c1 (.vl (.int .i64 k))),.va (.c1 (.vl (.string _)))]=>isBs rs/\0<=k/\k<=9223372036854775807
  | _=>False
theorem inPre_open {av:List S} (h:inPre av):∃ (l:List ByteArray) (n:Nat) (x:ByteArray),av=[.va (.c1 (.fz (l.map stR))),iS .i64 n,tS x]/\l.length<=9223372036854775807/\(n:Int)<=9223372036854775807:=by
  unfold inPre at h
  split at h
  · obtain ⟨⟨l,rfl,h1⟩,h2,h3⟩:=h
    rename_i k x
    exact ⟨l,k.toNat,x,by rw [Int.toNat_of_nonneg h2],h1,by omega⟩
  · exact h.elim
noncomputable def inVal:List S->A:=fun av=>match av with
  | [.va (.c1 (.fz rs)),.va (.c1 (.vl (.int .i64 k))),.va (.c1 (.vl (.string x)))]=>bA (inB ((rs.map C.bs).take k.toNat) x)
  | _=>.gs []
noncomputable def inFn:Fun:=⟨inPre,inVal,fun av h=>by obtain ⟨l,n,x,rfl,_⟩:=inPre_open h; trivial⟩
theorem inFn_len:∀ av H K,inFn.sp av H K->av.length=3:=fun av H K h=>by obtain ⟨l,n,x,rfl,_⟩:=inPre_open h.1.1; rfl
attribute [go_sem] inFn inPre inVal
set_option maxRecDepth 100000 in
theorem mRIn:Meets Tryz.prog 36 inFn.sp:=by
  refine meets_fn Tryz.func36 ok36 3 (by rw [Tryz.ntmps36]; decide) (meetsAll_nil _) inFn_len ?_
  rintro av H K ⟨⟨h,rfl⟩,hK⟩
  obtain ⟨l,n,x,rfl,hl,hn⟩:=inPre_open h
  have hK:K (bS (inB (l.take n) x)) []:=by
    have:inFn.val [.va (.c1 (.fz (l.map stR))),iS .i64 n,tS x]=bA (inB (l.take n) x):=by simp -dsimp only [go_sem,Int.toNat_natCast]
    rw [this] at hK; exact hK
  clear h
  simp (maxSteps:=1000000) -dsimp only [go_sem,pc36,rs36]
  refine vc_loop (α:=Nat) (fun i=>[(0,.va (.c1 (.fz (l.map stR)))),(1,iS .i64 n),(2,tS x),(7,iS .i64 i)]) (fun _=>[])
    (fun i=>i<=(l.take n).length/\inB ((l.take n).drop i) x=inB (l.take n) x) (fun i=>l.length - i) 0 0 ⟨Nat.zero_le _,rfl⟩ ?_ ?_ ?_
  · simp [go_sem]
  · simp [go_sem]
  rintro i ⟨hi,ho⟩
  have hlt0:(l.take n).length=min n l.length:=by simp
  rcases Nat.lt_or_ge i (l.take n).length with hlt | hge
  · have g1:decide ((i:Int) < (n:Int))=true:=by simp; omega
    have g2:decide ((i:Int) < (l.length:Int))=true:=by simp; omega
    obtain ⟨y,hx⟩:∃ y,l[i]? = some y:=⟨_,List.getElem?_eq_getElem (by omega)⟩
    have hx':(l.take n)[i]? = some y:=by rw [List.getElem?_take,if_pos (by omega)]; exact hx
    have q2:=row_rg' (row:=stR) hx
    rw [inB,any_step hx'] at ho
    simp (maxSteps:=1000000) -dsimp only [go_sem,g1,g2,↓q2,bl_beq]
    have hsy:decide (y=x)=decide (x=y):=by simp [eq_comm]
    refine ⟨by omega,fun hc=>?_,fun hc=>⟨by omega,loop_next (i + 1) 0 ⟨by omega,?_⟩ (by omega) ?_ ?_⟩⟩
    · rw [<-hsy,hc,Bool.true_or] at ho
      rw [<-ho] at hK
      exact .done hK
    · rw [<-hsy,hc,Bool.false_or] at ho
      exact ho
    · simp [go_sem]
    · simp [go_sem]
  · obtain rfl:i=(l.take n).length:=by omega
    rw [inB,any_end] at ho
    rw [<-ho] at hK
    generalize hm:(l.take n).length=m at *
    rcases Nat.lt_or_ge m n with h1 | h1
    · have g1:decide ((m:Int) < (n:Int))=true:=by simp; omega
      have g2:decide ((m:Int) < (l.length:Int))=false:=by simp; omega
      simp (maxSteps:=1000000) -dsimp only [go_sem,g1,g2]
      exact .done hK
    · have g1:decide ((m:Int) < (n:Int))=false:=by simp; omega
      simp (maxSteps:=1000000) -dsimp only [go_sem,g1]
      exact .done hK
set_option maxRecDepth 100000 in
theorem mRStruct:Meets Tryz.prog 10 stSpP:=by
  refine meets_fn Tryz.func10 ok10 2 (by rw [Tryz.ntmps10]; decide) (meetsAll_nil _) (fun av H K h=>by obtain ⟨_,_,rfl,_⟩:=h; rfl) ?_
  rintro av H K ⟨s,n,rfl,rfl,hs,hK⟩
  rw [<-fS_has] at hK
  have hl:=hs.ok.ls
  simp -dsimp only [go_sem,scC,pc10,rs10]
  refine vc_loop (α:=Nat) (fun i=>[(1,tS n),(2,.va (.c1 (.pt 0 0))),(4,.va (.c1 (.pt 1 0))),(6,iS .i64 i)]) (fun _=>[.cells (scC s) 25,.cells [.vl (.string (mk [])),.vl (.slice none 0 0)] 37])
    (fun i=>i<=s.ss.length/\fS (s.ss.drop i) n=fS s.ss n) (fun i=>s.ss.length - i) 0 2 ⟨Nat.zero_le _,rfl⟩ ?_ ?_ ?_
  · simp [go_sem]
  · simp [go_sem,scC]
  rintro i ⟨hi,ho⟩
  rcases Nat.lt_or_ge i s.ss.length with hlt | hge
  · have hg:decide ((i:Int) < (s.ss.length:Int))=true:=by simp; omega
    obtain ⟨t,hx⟩:∃ e,s.ss[i]? = some e:=⟨_,List.getElem?_eq_getElem hlt⟩
    have q2:=row_rg' (row:=stC) hx
    rw [fS,fnd_step hx] at ho
    cases hc:decide (t.nm=n) with
    | true=>
      rw [hc,Bool.cond_true] at ho
      rw [<-ho] at hK
      simp (maxSteps:=1000000) -dsimp only [go_sem,hg,↓q2,stC,scC,bl_beq,hc]
      refine ⟨by omega,by omega,.sel [] (by simp) (by simp) rfl (.done (by simpa [go_sem,stC] using hK))⟩
    | false=>
      rw [hc,Bool.cond_false] at ho
      simp (maxSteps:=1000000) -dsimp only [go_sem,hg,↓q2,stC,scC,bl_beq,hc]
      refine ⟨by omega,by omega,loop_next (i + 1) 2 ⟨by omega,ho⟩ (by omega) ?_ ?_⟩
      · simp [go_sem]
      · simp [go_sem,scC]
  · have hg:decide ((i:Int) < (s.ss.length:Int))=false:=by simp; omega
    obtain rfl:i=s.ss.length:=by omega
    rw [List.drop_length] at ho
    rw [<-ho] at hK
    simp -dsimp only [go_sem,hg,scC]
    exact .sel [] (by simp) (by simp) rfl (.done (by simpa [go_sem,fS,stC_def] using hK))
def enSpP:W.Spec:=fun av H K=>∃ (s:Sc) (n:ByteArray),av=[.va (.gs (scC s)),tS n]/\H=[]/\s.fit/\K (.tu [.gs (enC ((fEn s.es n).getD default)),bA (hasE s.es n)]) []
theorem enp_use {s:Sc} {n:ByteArray} {K:S->Hp->Prop} (h:s.fit) (hK:K (.tu [.gs (enC ((fEn s.es n).getD default)),bA (hasE s.es n)]) []):enSpP [.va (.gs (scC s)),tS n] [] K:=⟨s,n,rfl,rfl,h,hK⟩
theorem enC_def:enC default=[.vl (.string (mk [])),.fz [],.fz []]:=rfl
set_option maxRecDepth 100000 in
theorem mREnum:Meets Tryz.prog 44 enSpP:=by
  refine meets_fn Tryz.func44 ok44 2 (by rw [Tryz.ntmps44]; decide) (meetsAll_nil _) (fun av H K h=>by obtain ⟨_,_,rfl,_⟩:=h; rfl) ?_
  rintro av H K ⟨s,n,rfl,rfl,hs,hK⟩
  rw [<-fEn_has] at hK
  have hl:=hs.ok.le
  simp -dsimp only [go_sem,scC,pc44,rs44]
  refine vc_loop (α:=Nat) (fun i=>[(1,tS n),(2,.va (.c1 (.pt 0 0))),(4,.va (.c1 (.pt 1 0))),(6,iS .i64 i)]) (fun _=>[.cells (scC s) 25,.cells [.vl (.string (mk [])),.vl (.slice none 0 0),.vl (.slice none 0 0)] 60])
    (fun i=>i<=s.es.length/\fEn (s.es.drop i) n=fEn s.es n) (fun i=>s.es.length - i) 0 2 ⟨Nat.zero_le _,rfl⟩ ?_ ?_ ?_
  · simp [go_sem]
  · simp [go_sem,scC]
  rintro i ⟨hi,ho⟩
  rcases Nat.lt_or_ge i s.es.length with hlt | hge
  · have hg:decide ((i:Int) < (s.es.length:Int))=true:=by simp; omega
    obtain ⟨t,hx⟩:∃ e,s.es[i]? = some e:=⟨_,List.getElem?_eq_getElem hlt⟩
    have q2:=row_rg' (row:=enC) hx
    rw [fEn,fnd_step hx] at ho
    cases hc:decide (t.nm=n) with
    | true=>
      rw [hc,Bool.cond_true] at ho
      rw [<-ho] at hK
      simp (maxSteps:=1000000) -dsimp only [go_sem,hg,↓q2,enC,scC,bl_beq,hc]
      refine ⟨by omega,by omega,.sel [] (by simp) (by simp) rfl (.done (by simpa [go_sem,enC] using hK))⟩
    | false=>
      rw [hc,Bool.cond_false] at ho
      simp (maxSteps:=1000000) -dsimp only [go_sem,hg,↓q2,enC,scC,bl_beq,hc]
      refine ⟨by omega,by omega,loop_next (i + 1) 2 ⟨by omega,ho⟩ (by omega) ?_ ?_⟩
      · simp [go_sem]
      · simp [go_sem,scC]
  · have hg:decide ((i:Int) < (s.es.length:Int))=false:=by simp; omega
    obtain rfl:i=s.es.length:=by omega
    rw [List.drop_length] at ho
    rw [<-ho] at hK
    simp -dsimp only [go_sem,hg,scC]
    exact .sel [] (by simp) (by simp) rfl (.done (by simpa [go_sem,fEn,enC_def] using hK))
set_option maxRecDepth 100000 in
theorem mRFieldOf:Meets Tryz.prog 84 foSpP:=by
  refine meets_fn Tryz.func84 ok84 2 (by rw [Tryz.ntmps84]; decide) (meetsAll_nil _) (fun av H K h=>by obtain ⟨_,_,rfl,_⟩:=h; rfl) ?_
  rintro av H K ⟨s,n,rfl,rfl,hs,hsm,hK⟩
  have hl:=hs.len
  simp -dsimp only [go_sem,stC,pc84,rs84]
  refine vc_loop (α:=Nat) (fun i=>[(1,iS .i64 n),(2,.va (.c1 (.pt 0 0))),(4,.va (.c1 (.pt 1 0))),(6,iS .i64 i)]) (fun _=>[.cells (stC s) 37,.cells [.vl (.int .i64 0),.vl (.string (mk [])),.vl (.int .i64 0),.vl (.int .i64 0),.vl (.string (mk [])),.vl (.slice none 0 0),.vl (.bool false)] 50])
    (fun i=>i<=s.fs.length/\fF (s.fs.drop i) n=fF s.fs n) (fun i=>s.fs.length - i) 0 2 ⟨Nat.zero_le _,rfl⟩ ?_ ?_ ?_
  · simp [go_sem]
  · simp [go_sem,stC]
  rintro i ⟨hi,ho⟩
  rcases Nat.lt_or_ge i s.fs.length with hlt | hge
  · have hg:decide ((i:Int) < (s.fs.length:Int))=true:=by simp; omega
    obtain ⟨t,hx⟩:∃ e,s.fs[i]? = some e:=⟨_,List.getElem?_eq_getElem hlt⟩
    have q2:=row_rg' (row:=flC) hx
    rw [fF,fnd_step hx] at ho
    have hq:(t.num == n)=decide (t.num=n):=rfl
    cases hc:decide (t.num=n) with
    | true=>
      rw [hc,Bool.cond_true] at ho
      rw [<-ho] at hK
      simp (maxSteps:=1000000) -dsimp only [go_sem,hg,↓q2,flC,stC,hq,hc]
      refine ⟨by omega,by omega,.sel [] (by simp) (by simp) rfl (.done (by simpa [go_sem,flC] using hK))⟩
    | false=>
      rw [hc,Bool.cond_false] at ho
      simp (maxSteps:=1000000) -dsimp only [go_sem,hg,↓q2,flC,stC,hq,hc]
      refine ⟨by omega,by omega,loop_next (i + 1) 2 ⟨by omega,ho⟩ (by omega) ?_ ?_⟩
      · simp [go_sem]
      · simp [go_sem,stC]
  · have hg:decide ((i:Int) < (s.fs.length:Int))=false:=by simp; omega
    obtain rfl:i=s.fs.length:=by omega
    rw [List.drop_length] at ho
    rw [<-ho] at hK
    simp -dsimp only [go_sem,hg,stC]
    exact .sel [] (by simp) (by simp) rfl (.done (by simpa [go_sem,fF,flC_def] using hK))
end Go.Proofs.YtbolanmlngjdoaaGreat
namespace Go.Proofs.YtbolanmlngjdoaaGreat
open Go.W
noncomputable def eqB {α:Type} (a b:α):Bool:=@decide (a=b) (Classical.propDecidable _)
theorem eqB_eq {α:Type} {a b:α} (h:a=b):eqB a b=true:=by unfold eqB; simp [h]
theorem eqB_ne {α:Type} {a b:α} (h:a ≠ b):eqB a b=false:=by unfold eqB; simp [h]
theorem eqB_iff {α:Type} {a b:α}:eqB a b=true ↔ a=b:=by unfold eqB; simp
def g2Pre (p:List C->Prop):List S->Prop:=fun av=>match av with
  | [.va (.gs r),.va (.gs q)]=>p r/\p q
  | _=>False
theorem g2Pre_open {p:List C->Prop} {av:List S} (h:g2Pre p av):∃ r q,av=[.va (.gs r),.va (.gs q)]/\p r/\p q:=by
  unfold g2Pre at h
  split at h
  · exact ⟨_,_,rfl,h⟩
  · exact h.elim
def g2Val {α:Type} (d:List C->α) (f:α->α->Value):List S->A:=fun av=>match av with
  | [.va (.gs r),.va (.gs q)]=>.c1 (.vl (f (d r) (d q)))
  | _=>.gs []
noncomputable def g2Fn {α:Type} (p:List C->Prop) (d:List C->α) (f:α->α->Value):Fun:=⟨g2Pre p,g2Val d f,fun av h=>by obtain ⟨r,q,rfl,_⟩:=g2Pre_open h; trivial⟩
theorem g2Fn_len {α:Type} {p:List C->Prop} {d:List C->α} {f:α->α->Value}:∀ av H K,(g2Fn p d f).sp av H K->av.length=2:=fun av H K h=>by obtain ⟨r,q,rfl,_⟩:=g2Pre_open h.1.1; rfl
attribute [go_sem] g2Fn g2Pre g2Val
set_option maxRecDepth 100000 in
theorem mRSame':∀ N,Meets Tryz.prog 112 (saFn N).sp
  | 0=>⟨by kernel_rfl,by rintro xs vs E ro w K _ _ _ ⟨⟨h,_⟩,_⟩; obtain ⟨a,_,_,_,_,h⟩:=saPre_open h; have:=a.h_pos; omega⟩
  | N + 1=>by
    refine meets_fn Tryz.func112 ok112 2 (by rw [Tryz.ntmps112]; decide) (meetsAll_f (mRSame' N) (meetsAll_nil _)) saFn_len ?_
    rintro av H K ⟨⟨h,rfl⟩,hK⟩
    obtain ⟨a,b,rfl,ha,hb,hh⟩:=saPre_open h
    have hK:K (bS (tyB a b)) []:=by
      have:(saFn (N + 1)).val [.va (.gs (tyC a)),.va (.gs (tyC b))]=bA (tyB a b):=by simp -dsimp only [go_sem]
      rw [this] at hK; exact hK
    clear h
    have fin:∀ (x:Bool) (R:Hp),tyB a b=x->W.Fin 0 K (bS x) R:=fun x R h=>by
      rw [h] at hK
      exact .sel [] (by simp) (by simp) rfl (.done (by simpa [go_sem] using hK))
    obtain ⟨k,s,n,e⟩:=a
    obtain ⟨k',s',n',e'⟩:=b
    have hla:=ha.len
    have hoa:=ha.e
    have hob:=hb.e
    simp only [Ty.e] at hla hoa hob
    simp (maxSteps:=1000000) -dsimp only [go_sem,tyC,tysC_map,pc112,rs112,bl_beq]
    refine ⟨fun h1=>fin false _ (tyB_ne fun he=>?_),fun h1=>?_⟩
    · obtain ⟨rfl,rfl,rfl,rfl⟩:=mk_eq.1 he
      simp at h1
    simp only [Bool.or_eq_false_iff,bne_eq_false_iff_eq,Bool.not_eq_false',decide_eq_true_eq] at h1
    obtain ⟨⟨⟨rfl,rfl⟩,rfl⟩,hl⟩:=h1
    have hl:e.length=e'.length:=by omega
    refine vc_loop (α:=Nat) (fun i=>[(2,.va (.c1 (.pt 0 0))),(3,.va (.c1 (.pt 1 0))),(5,iS .i64 i)]) (fun i=>[.cells (tyC (.mk k s n e)) 48,.cells (tyC (.mk k s n e')) 48])
      (fun i=>i<=e.length/\∀ j,j < i->e[j]? = e'[j]?) (fun i=>e.length - i) 0 2 ⟨Nat.zero_le _,fun j hj=>by omega⟩ ?_ ?_ ?_
    · simp -dsimp only [go_sem]<;>simp
    · simp -dsimp only [go_sem,tyC,tysC_map]<;>simp
    rintro i ⟨hi,ho⟩
    rcases Nat.lt_or_ge i e.length with hlt | hge
    · have hg:decide ((i:Int) < (e.length:Int))=true:=by simp; omega
      obtain ⟨u,hx⟩:∃ t,e[i]? = some t:=⟨_,List.getElem?_eq_getElem hlt⟩
      obtain ⟨v,hy⟩:∃ t,e'[i]? = some t:=⟨_,List.getElem?_eq_getElem (by omega)⟩
      have q1:=row_rg' (row:=tyC) hx
      have q2:=row_rg' (row:=tyC) hy
      have hu:isTy (tyC u):=isTy_mk (hoa u (List.mem_of_getElem? hx))
      have hv:isTy (tyC v):=isTy_mk (hob v (List.mem_of_getElem? hy))
      have huh:u.h<=N:=by have:=Ty.hs_mem (List.mem_of_getElem? hx); rw [Ty.h] at hh; omega
      simp (maxSteps:=1000000) -dsimp only [go_sem,hg,tyC,tysC_map]
      simp (maxSteps:=1000000) -dsimp only [go_sem,tyC_len,hu,hv,hx,hy,Option.some.injEq,forall_eq']
      refine ⟨by omega,by omega,huh,fun h1=>fin false _ (tyB_ne fun he=>?_),fun h1=>?_⟩
      · obtain ⟨_,_,_,rfl⟩:=mk_eq.1 he
        rw [hx] at hy
        rw [tyB_eq (Option.some.inj hy)] at h1
        simp at h1
      · have h1:u=v:=tyB_iff.1 (by simpa using h1)
        subst h1
        refine ⟨by omega,loop_next (i + 1) 2 ⟨by omega,fun j hj=>?_⟩ (by omega) ?_ ?_⟩
        · rcases Nat.lt_or_ge j i with h4 | h4
          · exact ho j h4
          · obtain rfl:j=i:=by omega
            rw [hx,hy]
        · simp -dsimp only [go_sem]<;>simp
        · simp -dsimp only [go_sem,tyC,tysC_map]<;>simp
    · have hg:decide ((i:Int) < (e.length:Int))=false:=by simp; omega
      obtain rfl:i=e.length:=by omega
      simp (maxSteps:=1000000) -dsimp only [go_sem,hg,tyC,tysC_map]
      refine fin true _ (tyB_eq ?_)
      rw [mk_eq]
      refine ⟨rfl,rfl,rfl,List.ext_getElem? fun j=>?_⟩
      rcases Nat.lt_or_ge j e.length with h4 | h4
      · exact ho j h4
      · rw [List.getElem?_eq_none h4,List.getElem?_eq_none (by omega)]
theorem mRSame:Meets Tryz.prog 112 sFn.sp:=meets_all 0 mRSame' fun av H K ⟨⟨h,e⟩,hK⟩=>by
  obtain ⟨a,b,rfl,ha,hb⟩:=sPre_open h
  exact ⟨a.h,⟨⟨⟨isTy_mk ha,isTy_mk hb,by rw [ty_dec]; exact Nat.le_refl _⟩,e⟩,hK⟩⟩
noncomputable def sfFn:Fun:=g2Fn isFl C.fl fun a b=>.bool (eqB a b)
noncomputable def ssFn:Fun:=g2Fn isSt C.st fun a b=>.bool (eqB a b)
noncomputable def seFn:Fun:=g2Fn isEn C.en fun a b=>.bool (eqB a b)
attribute [go_sem] sfFn ssFn seFn
theorem fl_eqB (a b:Fl):eqB a b=(a.num == b.num && decide (a.nm=b.nm) && (a.opt == b.opt) && tyB a.ty b.ty):=by
  obtain ⟨a1,a2,a3,a4⟩:=a
  obtain ⟨b1,b2,b3,b4⟩:=b
  rw [Bool.eq_iff_iff,eqB_iff]
  simp only [Fl.mk.injEq,Bool.and_eq_true,beq_iff_eq,decide_eq_true_eq,tyB_iff]
  constructor
  · rintro ⟨rfl,rfl,rfl,rfl⟩; exact ⟨⟨⟨rfl,rfl⟩,rfl⟩,rfl⟩
  · rintro ⟨⟨⟨rfl,rfl⟩,rfl⟩,rfl⟩; exact ⟨rfl,rfl,rfl,rfl⟩
set_option maxRecDepth 100000 in
theorem mRSameField:Meets Tryz.prog 86 sfFn.sp:=by
  refine meets_fn Tryz.func86 ok86 2 (by rw [Tryz.ntmps86]; decide) (meetsAll_f mRSame (meetsAll_nil _)) g2Fn_len ?_
  rintro av H K ⟨⟨h,rfl⟩,hK⟩
  obtain ⟨_,_,rfl,⟨a,rfl,ha⟩,⟨b,rfl,hb⟩⟩:=g2Pre_open h
  have hK:K (bS (eqB a b)) []:=by
    have:sfFn.val [.va (.gs (flC a)),.va (.gs (flC b))]=bA (eqB a b):=by simp -dsimp only [go_sem]
    rw [this] at hK; exact hK
  clear h
  rw [fl_eqB] at hK
  have h1:isTy (tyC a.ty):=isTy_mk ha.ty
  have h2:isTy (tyC b.ty):=isTy_mk hb.ty
  simp (maxSteps:=1000000) -dsimp only [go_sem,flC,pc86,rs86,bl_beq,fl_ty,h1,h2]
  exact .sel [] (by simp) (by simp) rfl (.done (by simpa [go_sem] using hK))
end Go.Proofs.YtbolanmlngjdoaaGreat
namespace Go.Proofs.YtbolanmlngjdoaaGreat
open Go.W
theorem list_ext_lt {α:Type} {a b:List α} (hl:a.length=b.length) (h:∀ j,j < a.length->a[j]? = b[j]?):a=b:=List.ext_getElem? fun j=>by
  rcases Nat.lt_or_ge j a.length with h4 | h4
  · exact h j h4
  · rw [List.getElem?_eq_none h4,List.getElem?_eq_none (by omega)]
set_option maxRecDepth 100000 in
theorem mRSameStruct:Meets Tryz.prog 48 ssFn.sp:=by
  refine meets_fn Tryz.func48 ok48 2 (by rw [Tryz.ntmps48]; decide) (meetsAll_f mRSameField (meetsAll_nil _)) g2Fn_len ?_
  rintro av H K ⟨⟨h,rfl⟩,hK⟩
  obtain ⟨_,_,rfl,⟨a,rfl,ha⟩,⟨b,rfl,hb⟩⟩:=g2Pre_open h
  have hK:K (bS (eqB a b)) []:=by
    have:ssFn.val [.va (.gs (stC a)),.va (.gs (stC b))]=bA (eqB a b):=by simp -dsimp only [go_sem]
    rw [this] at hK; exact hK
  clear h
  have fin:∀ (x:Bool) (R:Hp),eqB a b=x->W.Fin 0 K (bS x) R:=fun x R h=>by
    rw [h] at hK
    exact .sel [] (by simp) (by simp) rfl (.done (by simpa [go_sem] using hK))
  obtain ⟨n,e⟩:=a
  obtain ⟨n',e'⟩:=b
  obtain ⟨_,hla,hoa⟩:=ha
  obtain ⟨_,hlb,hob⟩:=hb
  simp only at hla hlb hoa hob
  simp (maxSteps:=1000000) -dsimp only [go_sem,stC,pc48,rs48,bl_beq]
  refine ⟨fun h1=>fin false _ (eqB_ne fun he=>?_),fun h1=>?_⟩
  · obtain ⟨rfl,rfl⟩:n=n'/\e=e':=by simpa using he
    simp at h1
  simp only [Bool.or_eq_false_iff,bne_eq_false_iff_eq,Bool.not_eq_false',decide_eq_true_eq] at h1
  obtain ⟨rfl,hl⟩:=h1
  have hl:e.length=e'.length:=by omega
  refine vc_loop (α:=Nat) (fun i=>[(2,.va (.c1 (.pt 0 0))),(3,.va (.c1 (.pt 1 0))),(5,iS .i64 i)]) (fun i=>[.cells (stC ⟨n,e⟩) 37,.cells (stC ⟨n,e'⟩) 37])
    (fun i=>i<=e.length/\∀ j,j < i->e[j]? = e'[j]?) (fun i=>e.length - i) 0 2 ⟨Nat.zero_le _,fun j hj=>by omega⟩ ?_ ?_ ?_
  · simp -dsimp only [go_sem]<;>simp
  · simp -dsimp only [go_sem,stC]<;>simp
  rintro i ⟨hi,ho⟩
  rcases Nat.lt_or_ge i e.length with hlt | hge
  · have hg:decide ((i:Int) < (e.length:Int))=true:=by simp; omega
    obtain ⟨u,hx⟩:∃ t,e[i]? = some t:=⟨_,List.getElem?_eq_getElem hlt⟩
    obtain ⟨v,hy⟩:∃ t,e'[i]? = some t:=⟨_,List.getElem?_eq_getElem (by omega)⟩
    have q1:=row_rg' (row:=flC) hx
    have q2:=row_rg' (row:=flC) hy
    have hu:isFl (flC u):=isFl_mk (hoa u (List.mem_of_getElem? hx))
    have hv:isFl (flC v):=isFl_mk (hob v (List.mem_of_getElem? hy))
    have hud:=fl_dec u
    have hvd:=fl_dec v
    simp only [flC] at hu hv hud hvd
    simp (maxSteps:=1000000) -dsimp only [go_sem,hg,stC]
    simp (maxSteps:=1000000) -dsimp only [go_sem,flC,hu,hv,hud,hvd,hx,hy,Option.some.injEq,forall_eq']
    refine ⟨by omega,by omega,fun h1=>fin false _ (eqB_ne fun he=>?_),fun h1=>?_⟩
    · obtain rfl:e=e':=by simpa using he
      rw [hx] at hy
      rw [eqB_eq (Option.some.inj hy)] at h1
      simp at h1
    · have h1:u=v:=eqB_iff.1 (by simpa using h1)
      subst h1
      refine ⟨by omega,loop_next (i + 1) 2 ⟨by omega,fun j hj=>?_⟩ (by omega) ?_ ?_⟩
      · rcases Nat.lt_or_ge j i with h4 | h4
        · exact ho j h4
        · obtain rfl:j=i:=by omega
          rw [hx,hy]
      · simp -dsimp only [go_sem]<;>simp
      · simp -dsimp only [go_sem,stC]<;>simp
  · have hg:decide ((i:Int) < (e.length:Int))=false:=by simp; omega
    obtain rfl:i=e.length:=by omega
    simp (maxSteps:=1000000) -dsimp only [go_sem,hg,stC]
    exact fin true _ (eqB_eq (by rw [list_ext_lt hl ho]))
set_option maxRecDepth 100000 in
theorem mRSameEnum:Meets Tryz.prog 47 seFn.sp:=by
  refine meets_fn Tryz.func47 ok47 2 (by rw [Tryz.ntmps47]; decide) (meetsAll_nil _) g2Fn_len ?_
  rintro av H K ⟨⟨h,rfl⟩,hK⟩
  obtain ⟨_,_,rfl,⟨a,rfl,ha⟩,⟨b,rfl,hb⟩⟩:=g2Pre_open h
  have hK:K (bS (eqB a b)) []:=by
    have:seFn.val [.va (.gs (enC a)),.va (.gs (enC b))]=bA (eqB a b):=by simp -dsimp only [go_sem]
    rw [this] at hK; exact hK
  clear h
  have fin:∀ (x:Bool) (R:Hp),eqB a b=x->W.Fin 0 K (bS x) R:=fun x R h=>by
    rw [h] at hK
    exact .sel [] (by simp) (by simp) rfl (.done (by simpa [go_sem] using hK))
  obtain ⟨n,e,d⟩:=a
  obtain ⟨n',e',d'⟩:=b
  obtain ⟨_,hla,hla2,_,_⟩:=ha
  simp only at hla hla2
  simp (maxSteps:=1000000) -dsimp only [go_sem,enC,pc47,rs47,bl_beq]
  refine ⟨fun h1=>fin false _ (eqB_ne fun he=>?_),fun h1=>?_⟩
  · obtain ⟨rfl,rfl,rfl⟩:n=n'/\e=e'/\d=d':=by simpa using he
    simp at h1
  simp only [Bool.or_eq_false_iff,bne_eq_false_iff_eq,Bool.not_eq_false',decide_eq_true_eq] at h1
  obtain ⟨⟨rfl,hl⟩,hl2⟩:=h1
  have hl:e.length=e'.length:=by omega
  have hl2:d.length=d'.length:=by omega
  refine vc_loop (α:=Nat) (fun i=>[(2,.va (.c1 (.pt 0 0))),(3,.va (.c1 (.pt 1 0))),(5,iS .i64 i)]) (fun i=>[.cells (enC ⟨n,e,d⟩) 60,.cells (enC ⟨n,e',d'⟩) 60])
    (fun i=>i<=e.length/\∀ j,j < i->e[j]? = e'[j]?) (fun i=>e.length - i) 0 2 ⟨Nat.zero_le _,fun j hj=>by omega⟩ ?_ ?_ ?_
  · simp -dsimp only [go_sem]<;>simp
  · simp -dsimp only [go_sem,enC]<;>simp
  rintro i ⟨hi,ho⟩
  rcases Nat.lt_or_ge i e.length with hlt | hge
  · have hg:decide ((i:Int) < (e.length:Int))=true:=by simp; omega
    obtain ⟨u,hx⟩:∃ t,e[i]? = some t:=⟨_,List.getElem?_eq_getElem hlt⟩
    obtain ⟨v,hy⟩:∃ t,e'[i]? = some t:=⟨_,List.getElem?_eq_getElem (by omega)⟩
    have q1:=row_rg' (row:=stR) hx
    have q2:=row_rg' (row:=stR) hy
    simp (maxSteps:=1000000) -dsimp only [go_sem,hg,enC]
    simp (maxSteps:=1000000) -dsimp only [go_sem,bl_beq,hx,hy,Option.some.injEq,forall_eq']
    refine ⟨by omega,by omega,fun h1=>fin false _ (eqB_ne fun he=>?_),fun h1=>?_⟩
    · obtain ⟨rfl,rfl⟩:e=e'/\d=d':=by simpa using he
      rw [hx] at hy
      obtain rfl:=Option.some.inj hy
      simp at h1
    · have h1:u=v:=by simpa using h1
      subst h1
      refine ⟨by omega,loop_next (i + 1) 2 ⟨by omega,fun j hj=>?_⟩ (by omega) ?_ ?_⟩
      · rcases Nat.lt_or_ge j i with h4 | h4
        · exact ho j h4
        · obtain rfl:j=i:=by omega
          rw [hx,hy]
      · simp -dsimp only [go_sem]<;>simp
      · simp -dsimp only [go_sem,enC]<;>simp
  · have hg:decide ((i:Int) < (e.length:Int))=false:=by simp; omega
    obtain rfl:i=e.length:=by omega
    obtain rfl:=list_ext_lt hl ho
    simp (maxSteps:=1000000) -dsimp only [go_sem,hg,enC]
    refine vc_loop (α:=Nat) (fun i=>[(2,.va (.c1 (.pt 0 0))),(3,.va (.c1 (.pt 1 0))),(6,iS .i64 i)]) (fun i=>[.cells (enC ⟨n,e,d⟩) 60,.cells (enC ⟨n,e,d'⟩) 60])
      (fun i=>i<=d.length/\∀ j,j < i->d[j]? = d'[j]?) (fun i=>d.length - i) 0 2 ⟨Nat.zero_le _,fun j hj=>by omega⟩ ?_ ?_ ?_
    · simp -dsimp only [go_sem]<;>simp
    · simp -dsimp only [go_sem,enC]<;>simp
    clear ho hi hg hge
    rintro i ⟨hi,ho⟩
    rcases Nat.lt_or_ge i d.length with hlt | hge
    · have hg:decide ((i:Int) < (d.length:Int))=true:=by simp; omega
      obtain ⟨u,hx⟩:∃ t,d[i]? = some t:=⟨_,List.getElem?_eq_getElem hlt⟩
      obtain ⟨v,hy⟩:∃ t,d'[i]? = some t:=⟨_,List.getElem?_eq_getElem (by omega)⟩
      have q1:=row_rg' (row:=inR) hx
      have q2:=row_rg' (row:=inR) hy
      simp (maxSteps:=1000000) -dsimp only [go_sem,hg,enC]
      simp (maxSteps:=1000000) -dsimp only [go_sem,hx,hy,Option.some.injEq,forall_eq']
      refine ⟨by omega,by omega,fun h1=>fin false _ (eqB_ne fun he=>?_),fun h1=>?_⟩
      · obtain rfl:d=d':=by simpa using he
        rw [hx] at hy
        obtain rfl:=Option.some.inj hy
        simp at h1
      · have h1:u=v:=by simpa using h1
        subst h1
        refine ⟨by omega,loop_next (i + 1) 2 ⟨by omega,fun j hj=>?_⟩ (by omega) ?_ ?_⟩
        · rcases Nat.lt_or_ge j i with h4 | h4
          · exact ho j h4
          · obtain rfl:j=i:=by omega
            rw [hx,hy]
        · simp -dsimp only [go_sem]<;>simp
        · simp -dsimp only [go_sem,enC]<;>simp
    · have hg:decide ((i:Int) < (d.length:Int))=false:=by simp; omega
      obtain rfl:i=d.length:=by omega
      simp (maxSteps:=1000000) -dsimp only [go_sem,hg,enC]
      exact fin true _ (eqB_eq (by rw [list_ext_lt hl2 ho]))
set_option maxRecDepth 100000 in
theorem mRLong:Meets Tryz.prog 32 (gFn isSc C.sc fun s=>.bool (largeF s)).sp:=by
  refine meets_fn Tryz.func32 ok32 1 (by rw [Tryz.ntmps32]; decide) (meetsAll_nil _) gFn_len ?_
  rintro av H K ⟨⟨h,rfl⟩,hK⟩
  obtain ⟨_,rfl,s,rfl,hs⟩:=gPre_open h
  have hK:K (bS (largeF s)) []:=by
    have:(gFn isSc C.sc fun s=>.bool (largeF s)).val [.va (.gs (scC s))]=bA (largeF s):=by simp -dsimp only [go_sem]
    rw [this] at hK; exact hK
  obtain ⟨hv,hle,hls,hes,hss⟩:=hs
  have big:largeF s=true->∀ R:Hp,W.Fin 0 K (bS true) R:=fun h R=>by
    rw [h] at hK
    exact .sel [] (by simp) (by simp) rfl (.done (by simpa [go_sem] using hK))
  cases d1:decide (16 < (s.es.length:Int)) with
  | true=>
    simp (maxSteps:=1000000) -dsimp only [go_sem,scC,pc32,rs32,d1]
    exact big (by unfold largeF; rw [show decide (16 < s.es.length)=true by simp at d1 ⊢; omega]; simp) _
  | false=>
  cases d2:decide (16 < (s.ss.length:Int)) with
  | true=>
    simp (maxSteps:=1000000) -dsimp only [go_sem,scC,pc32,rs32,d1,d2]
    exact big (by unfold largeF; rw [show decide (16 < s.es.length + s.ss.length)=true by simp at d2 ⊢; omega]; simp) _
  | false=>
  cases d3:decide (16 < (s.es.length:Int) + (s.ss.length:Int)) with
  | true=>
    simp (maxSteps:=1000000) -dsimp only [go_sem,scC,pc32,rs32,d1,d2,d3]
    exact ⟨by simp at d1 d2; omega,big (by unfold largeF; rw [show decide (16 < s.es.length + s.ss.length)=true by simp at d3 ⊢; omega]; simp) _⟩
  | false=>
  simp (maxSteps:=1000000) -dsimp only [go_sem,scC,pc32,rs32,d1,d2,d3]
  simp only [decide_eq_false_iff_not] at d1 d2 d3
  refine ⟨by omega,?_⟩
  have hL:largeF s=(s.es.any (fun e=>decide (16 < e.ns.length)) || s.ss.any (fun t=>decide (16 < t.fs.length))):=by
    unfold largeF; rw [decide_eq_false (by omega),decide_eq_false (by omega)]; rfl
  refine vc_loop (α:=Nat) (fun i=>[(1,.va (.c1 (.pt 0 0))),(3,iS .i64 i)]) (fun _=>[.cells (scC s) 25])
    (fun i=>i<=s.es.length/\(s.es.drop i).any (fun e=>decide (16 < e.ns.length))=s.es.any (fun e=>decide (16 < e.ns.length))) (fun i=>s.es.length - i) 0 1 ⟨Nat.zero_le _,rfl⟩ ?_ ?_ ?_
  · simp [go_sem]
  · simp [go_sem,scC]
  rintro i ⟨hi,ho⟩
  rcases Nat.lt_or_ge i s.es.length with hlt | hge
  · have hg:decide ((i:Int) < (s.es.length:Int))=true:=by simp; omega
    obtain ⟨e,hx⟩:∃ e,s.es[i]? = some e:=⟨_,List.getElem?_eq_getElem hlt⟩
    have q2:=row_rg' (row:=enC) hx
    rw [any_step hx] at ho
    simp (maxSteps:=1000000) -dsimp only [go_sem,hg,↓q2,enC,scC]
    and_intros
    all_goals first
      | omega
      | skip
    · intro hc
      have hc':decide (16 < e.ns.length)=true:=by simp at hc; simp; omega
      have:largeF s=true:=by simp only [hL,<-ho,hc',Bool.true_or]
      rw [this] at hK
      exact .sel [] (by simp) (by simp) rfl (.done (by simpa [go_sem] using hK))
    · intro hc
      refine ⟨by omega,loop_next (i + 1) 1 ⟨by omega,?_⟩ (by omega) ?_ ?_⟩
      · have hc':decide (16 < e.ns.length)=false:=by simp at hc; simp; omega
        rw [<-ho,hc',Bool.false_or]
      · simp [go_sem]
      · simp [go_sem,scC]
  · have hg:decide ((i:Int) < (s.es.length:Int))=false:=by simp; omega
    obtain rfl:i=s.es.length:=by omega
    rw [any_end] at ho
    rw [<-ho,Bool.false_or] at hL
    simp (maxSteps:=1000000) -dsimp only [go_sem,hg,scC]
    refine vc_loop (α:=Nat) (fun i=>[(1,.va (.c1 (.pt 0 0))),(4,iS .i64 i)]) (fun _=>[.cells (scC s) 25])
      (fun i=>i<=s.ss.length/\(s.ss.drop i).any (fun e=>decide (16 < e.fs.length))=s.ss.any (fun e=>decide (16 < e.fs.length))) (fun i=>s.ss.length - i) 0 1 ⟨Nat.zero_le _,rfl⟩ ?_ ?_ ?_
    · simp [go_sem]
    · simp [go_sem,scC]
    clear hi ho hge hg
    rintro i ⟨hi,ho⟩
    rcases Nat.lt_or_ge i s.ss.length with hlt | hge
    · have hg:decide ((i:Int) < (s.ss.length:Int))=true:=by simp; omega
      obtain ⟨e,hx⟩:∃ e,s.ss[i]? = some e:=⟨_,List.getElem?_eq_getElem hlt⟩
      have q2:=row_rg' (row:=stC) hx
      rw [any_step hx] at ho
      simp (maxSteps:=1000000) -dsimp only [go_sem,hg,↓q2,stC,scC]
      and_intros
      all_goals first
        | omega
        | skip
      · intro hc
        have hc':decide (16 < e.fs.length)=true:=by simp at hc; simp; omega
        have:largeF s=true:=by simp only [hL,<-ho,hc',Bool.true_or]
        rw [this] at hK
        exact .sel [] (by simp) (by simp) rfl (.done (by simpa [go_sem] using hK))
      · intro hc
        refine ⟨by omega,loop_next (i + 1) 1 ⟨by omega,?_⟩ (by omega) ?_ ?_⟩
        · have hc':decide (16 < e.fs.length)=false:=by simp at hc; simp; omega
          rw [<-ho,hc',Bool.false_or]
        · simp [go_sem]
        · simp [go_sem,scC]
    · have hg:decide ((i:Int) < (s.ss.length:Int))=false:=by simp; omega
      obtain rfl:i=s.ss.length:=by omega
      rw [any_end] at ho
      simp (maxSteps:=1000000) -dsimp only [go_sem,hg,scC]
      rw [hL,<-ho] at hK
      exact .sel [] (by simp) (by simp) rfl (.done (by simpa [go_sem] using hK))
end Go.Proofs.YtbolanmlngjdoaaGreat
namespace Go.Proofs.YtbolanmlngjdoaaGreat
open Go.W
def siPre (len:Sc->Nat):List S->Prop:=fun av=>match av with
  | [.va (.gs r),.va (.c1 (.vl (.int .i64 i)))]=>isScF r/\0<=i/\i < (len (C.sc r):Int)
  | _=>False
theorem siPre_open {len:Sc->Nat} {av:List S} (h:siPre len av):∃ (s:Sc) (i:Nat),av=[.va (.gs (scC s)),iS .i64 i]/\s.fit/\i < len s:=by
  unfold siPre at h
  split at h
  · obtain ⟨⟨a,rfl,ha⟩,h1,h2⟩:=h
    rw [sc_dec] at h2
    rename_i i
    exact ⟨a,i.toNat,by rw [Int.toNat_of_nonneg h1],ha,by omega⟩
  · exact h.elim
noncomputable def siVal (f:Sc->Nat->Int):List S->A:=fun av=>match av with
  | [.va (.gs r),.va (.c1 (.vl (.int .i64 i)))]=>iA .i64 (f (C.sc r) i.toNat)
  | _=>.gs []
noncomputable def siFn (len:Sc->Nat) (f:Sc->Nat->Int):Fun:=⟨siPre len,siVal f,fun av h=>by obtain ⟨a,b,rfl,_⟩:=siPre_open h; trivial⟩
theorem siFn_len {len:Sc->Nat} {f:Sc->Nat->Int}:∀ av H K,(siFn len f).sp av H K->av.length=2:=fun av H K h=>by obtain ⟨a,b,rfl,_⟩:=siPre_open h.1.1; rfl
attribute [go_sem] siFn siPre siVal
set_option maxRecDepth 100000 in
set_option maxHeartbeats 4000000 in
theorem mREnumE:Meets Tryz.prog 33 (siFn (fun s=>s.es.length) enAt).sp:=by
  refine meets_fn Tryz.func33 ok33 2 (by rw [Tryz.ntmps33]; decide) (meetsAll_f mRIsType (meetsAll_f mRIsName (meetsAll_f mRIn (meetsAll_nil _)))) siFn_len ?_
  rintro av H K ⟨⟨h,rfl⟩,hK⟩
  obtain ⟨s,i,rfl,hs,hi⟩:=siPre_open (len:=fun s=>s.es.length) h
  have hK:K (iS .i64 (enAt s i)) []:=by
    have:(siFn (fun s=>s.es.length) enAt).val [.va (.gs (scC s)),iS .i64 i]=iA .i64 (enAt s i):=by simp -dsimp only [go_sem,Int.toNat_natCast]
    rw [this] at hK; exact hK
  clear h
  have hle:=hs.ok.le
  have fin:∀ (x:Int) (R:Hp),enAt s i=x->W.Fin 0 K (iS .i64 x) R:=fun x R h=>by
    rw [h] at hK
    exact .sel [] (by simp) (by simp) rfl (.done (by simpa [go_sem] using hK))
  obtain ⟨e,hx⟩:∃ e,s.es[i]? = some e:=⟨_,List.getElem?_eq_getElem hi⟩
  have q1:=row_rg' (row:=enC) hx
  obtain ⟨_,hln,hlv,_,_⟩:=hs.ok.es e (List.mem_of_getElem? hx)
  have hA:enAt s i=bif !(tnB (bl e.nm)) then 5 else bif hasE (s.es.take i) e.nm then 7 else ceF e:=by unfold enAt; rw [hx]
  simp (maxSteps:=1000000) -dsimp only [go_sem,scC,pc33,rs33,↓q1,enC]
  refine ⟨by omega,fun h1=>fin 5 _ (by rw [hA,h1]; rfl),fun h1=>?_⟩
  rw [h1] at hA
  simp only [Bool.cond_false] at hA
  refine vc_loop (α:=Nat) (fun j=>[(1,iS .i64 i),(2,.va (.c1 (.pt 0 0))),(5,.va (.c1 (.pt 1 0))),(6,iS .i64 j)]) (fun _=>[.cells (scC s) 25,.cells (enC e) 60])
    (fun j=>j<=i/\hasE ((s.es.take i).drop j) e.nm=hasE (s.es.take i) e.nm) (fun j=>i - j) 0 2 ⟨Nat.zero_le _,rfl⟩ ?_ ?_ ?_
  · simp [go_sem]
  · simp [go_sem,scC,enC]
  have hti:(s.es.take i).length=i:=by rw [List.length_take]; omega
  rintro j ⟨hj,ho⟩
  rcases Nat.lt_or_ge j i with hlt | hge
  · have hg:decide ((j:Int) < (i:Int))=true:=by simp; omega
    obtain ⟨d,hd⟩:∃ d,s.es[j]? = some d:=⟨_,List.getElem?_eq_getElem (by omega)⟩
    have hd':(s.es.take i)[j]? = some d:=by rw [List.getElem?_take,if_pos hlt]; exact hd
    have q2:=row_rg' (row:=enC) hd
    rw [hasE,any_step hd'] at ho
    simp (maxSteps:=1000000) -dsimp only [go_sem,hg,↓q2,enC,scC,bl_beq]
    refine ⟨by omega,fun hc=>?_,fun hc=>?_⟩
    · rw [hc,Bool.true_or] at ho
      exact fin 7 _ (by rw [hA,<-ho]; rfl)
    · rw [hc,Bool.false_or] at ho
      refine ⟨by omega,loop_next (j + 1) 2 ⟨by omega,ho⟩ (by omega) ?_ ?_⟩
      · simp [go_sem]
      · simp [go_sem,scC,enC]
  · obtain rfl:j=i:=by omega
    have hg:decide ((j:Int) < (j:Int))=false:=by simp
    rw [List.drop_eq_nil_of_le (by omega)] at ho
    rw [<-ho] at hA
    replace hA:enAt s j=ceF e:=hA
    clear ho hti
    simp (maxSteps:=1000000) -dsimp only [go_sem,hg,enC,scC]
    refine ⟨fun h1=>?_,fun h1=>?_⟩
    · refine fin 2 _ ?_
      rw [hA]
      unfold ceF
      have:(decide (e.ns.length=0) || decide (e.ns.length ≠ e.vs.length))=true:=by
        simp only [Bool.or_eq_true,beq_iff_eq,bne_iff_ne,decide_eq_true_eq] at h1 ⊢; omega
      rw [this]; rfl
    simp only [Bool.or_eq_false_iff,beq_eq_false_iff_ne,bne_eq_false_iff_eq,ne_eq] at h1
    have hl:e.ns.length=e.vs.length:=by omega
    have hF:enAt s j=fE (ceAt e) (e.ns.length - 0) 0:=by
      rw [hA]; unfold ceF; rw [decide_eq_false (by omega),decide_eq_false (by omega)]; rfl
    clear hA hg hge hj
    refine vc_loop (α:=Nat) (fun k=>[(5,.va (.c1 (.pt 1 0))),(7,iS .i64 k)]) (fun _=>[.cells (scC s) 25,.cells (enC e) 60])
      (fun k=>k<=e.ns.length/\fE (ceAt e) (e.ns.length - k) k=fE (ceAt e) (e.ns.length - 0) 0) (fun k=>e.ns.length - k) 0 2 ⟨Nat.zero_le _,rfl⟩ ?_ ?_ ?_
    · simp [go_sem]
    · simp [go_sem,scC,enC]
    rintro k ⟨hk,ho⟩
    rcases Nat.lt_or_ge k e.ns.length with hlt | hge
    · have hg:decide ((k:Int) < (e.ns.length:Int))=true:=by simp; omega
      obtain ⟨nm,hx2⟩:∃ nm,e.ns[k]? = some nm:=⟨_,List.getElem?_eq_getElem hlt⟩
      obtain ⟨n,hy⟩:∃ nm,e.vs[k]? = some nm:=⟨_,List.getElem?_eq_getElem (by omega)⟩
      have q2:=row_rg' (row:=stR) hx2
      have q3:=row_rg' (row:=inR) hy
      have hbs:isBs (e.ns.map stR):=isBs_mk hln
      have hk0:(0<=(k:Int))=True:=by simp
      have hk1:((k:Int)<=9223372036854775807)=True:=by simp; omega
      have hA:ceAt e k=bif !(isNm (bl nm)) then (5:Int) else bif inB (e.ns.take k) nm then 7 else bif decide (n < 0) || decide (127 < n) then 4 else
        bif (decide ((k:Int)=0) && decide (n ≠ 0)) || (decide (0 < (k:Int)) && match e.vs[k - 1]? with | some m=>decide (n<=m) | none=>false) then 2 else 0:=by
        unfold ceAt; rw [hx2,hy]; rfl
      have fin':∀ (x:Int) (R:Hp),ceAt e k=x->x ≠ 0->W.Fin 0 K (iS .i64 x) R:=fun x R h1 h2=>fin x R (by
        rw [hF,<-ho,fE_err hlt (by rw [h1]; exact h2),h1])
      have nxt:ceAt e k=0->fE (ceAt e) (e.ns.length - (k + 1)) (k + 1)=fE (ceAt e) (e.ns.length - 0) 0:=fun h1=>by rw [<-ho,fE_ok hlt h1]
      cases hc1:isNm (bl nm) with
      | false=>
        simp (maxSteps:=1000000) -dsimp only [go_sem,hg,↓q2,enC,scC,hc1]
        exact ⟨by omega,fin' 5 _ (by rw [hA,hc1]; rfl) (by decide)⟩
      | true=>
        cases hc2:inB (e.ns.take k) nm with
        | true=>
          simp (maxSteps:=1000000) -dsimp only [go_sem,hg,↓q2,enC,scC,hc1,hc2,hbs,hk0,hk1,Int.toNat_natCast]
          exact ⟨by omega,by omega,fin' 7 _ (by rw [hA,hc1,hc2]; rfl) (by decide)⟩
        | false=>
          cases hc3:decide (n < 0) with
          | true=>
            simp (maxSteps:=1000000) -dsimp only [go_sem,hg,↓q2,↓q3,enC,scC,hc1,hc2,hbs,hk0,hk1,Int.toNat_natCast,hc3]
            exact ⟨by omega,by omega,by omega,fin' 4 _ (by rw [hA,hc1,hc2,hc3]; rfl) (by decide)⟩
          | false=>
          cases hc4:decide (127 < n) with
          | true=>
            simp (maxSteps:=1000000) -dsimp only [go_sem,hg,↓q2,↓q3,enC,scC,hc1,hc2,hbs,hk0,hk1,Int.toNat_natCast,hc3,hc4]
            exact ⟨by omega,by omega,by omega,by omega,fin' 4 _ (by rw [hA,hc1,hc2,hc3,hc4]; rfl) (by decide)⟩
          | false=>
          have hA2:ceAt e k=bif (decide ((k:Int)=0) && decide (n ≠ 0)) || (decide (0 < (k:Int)) && match e.vs[k - 1]? with | some m=>decide (n<=m) | none=>false) then 2 else 0:=by rw [hA,hc1,hc2,hc3,hc4]; rfl
          clear hA
          rcases Nat.eq_zero_or_pos k with h0 | h0
          · have g0:((k:Int) == 0)=true:=by simp; omega
            have g1:decide (0 < (k:Int))=false:=by simp; omega
            have g2:decide ((k:Int)=0)=true:=g0
            cases hn:(n != 0) with
            | true=>
              simp (maxSteps:=1000000) -dsimp only [go_sem,hg,↓q2,↓q3,enC,scC,hc1,hc2,hbs,hk0,hk1,Int.toNat_natCast,hc3,hc4,g0,g1,hn,Bool.and_false]
              and_intros
              all_goals first
                | omega
                | exact fin' 2 _ (by rw [hA2,g1,g2]; simp at hn; simp [hn]) (by decide)
            | false=>
              simp (maxSteps:=1000000) -dsimp only [go_sem,hg,↓q2,↓q3,enC,scC,hc1,hc2,hbs,hk0,hk1,Int.toNat_natCast,hc3,hc4,g0,g1,hn,Bool.and_false]
              and_intros
              all_goals first
                | omega
                | exact loop_next (k + 1) 2 ⟨by omega,nxt (by rw [hA2,g1]; simp at hn; simp [hn])⟩ (by omega) (by simp [go_sem]) (by simp [go_sem,scC,enC])
          · have g0:((k:Int) == 0)=false:=by simp; omega
            have g1:decide (0 < (k:Int))=true:=by simp; omega
            have g2:decide ((k:Int)=0)=false:=g0
            obtain ⟨m,hm⟩:∃ m,e.vs[k - 1]? = some m:=⟨_,List.getElem?_eq_getElem (by omega)⟩
            have q4:((k:Int) - 1).toNat=k - 1:=by omega
            have q5:=row_rg (row:=inR) hm
            cases hn:decide (n<=m) with
            | true=>
              simp (maxSteps:=1000000) -dsimp only [go_sem,hg,↓q2,↓q3,enC,scC,hc1,hc2,hbs,hk0,hk1,Int.toNat_natCast,Option.some.injEq,forall_eq',hc3,hc4,g0,g1,q4,hm,hn,Bool.and_true]
              and_intros
              all_goals first
                | omega
                | exact fin' 2 _ (by rw [hA2,hm,g1]; simp only [hn]; simp) (by decide)
            | false=>
              simp (maxSteps:=1000000) -dsimp only [go_sem,hg,↓q2,↓q3,enC,scC,hc1,hc2,hbs,hk0,hk1,Int.toNat_natCast,Option.some.injEq,forall_eq',hc3,hc4,g0,g1,q4,hm,hn,Bool.and_true]
              and_intros
              all_goals first
                | omega
                | exact loop_next (k + 1) 2 ⟨by omega,nxt (by rw [hA2,hm,g1,g2]; simp only [hn]; rfl)⟩ (by omega) (by simp [go_sem]) (by simp [go_sem,scC,enC])
    · have hg:decide ((k:Int) < (e.ns.length:Int))=false:=by simp; omega
      obtain rfl:k=e.ns.length:=by omega
      rw [fE_end] at ho
      simp (maxSteps:=1000000) -dsimp only [go_sem,hg,enC]
      exact fin 0 _ (by rw [hF,<-ho])
end Go.Proofs.YtbolanmlngjdoaaGreat
namespace Go.Proofs.YtbolanmlngjdoaaGreat
open Go.W
def rtPre (N:Nat):List S->Prop:=fun av=>match av with
  | [.va (.gs r),.va (.gs q)]=>isScF r/\isTy q/\(C.ty q).h<=N
  | _=>False
theorem rtPre_open {N:Nat} {av:List S} (h:rtPre N av):∃ s t,av=[.va (.gs (scC s)),.va (.gs (tyC t))]/\s.fit/\TyOk t/\t.h<=N:=by
  unfold rtPre at h
  split at h
  · obtain ⟨⟨a,rfl,ha⟩,⟨b,rfl,hb⟩,hh⟩:=h
    rw [ty_dec] at hh
    exact ⟨a,b,rfl,ha,hb,hh⟩
  · exact h.elim
noncomputable def rtVal:List S->A:=fun av=>match av with
  | [.va (.gs r),.va (.gs q)]=>bA (valF (C.sc r).ss (C.sc r).es (C.ty q))
  | _=>.gs []
noncomputable def rtFn (N:Nat):Fun:=⟨rtPre N,rtVal,fun av h=>by obtain ⟨a,b,rfl,_⟩:=rtPre_open h; trivial⟩
theorem rtFn_len {N:Nat}:∀ av H K,(rtFn N).sp av H K->av.length=2:=fun av H K h=>by obtain ⟨a,b,rfl,_⟩:=rtPre_open h.1.1; rfl
attribute [go_sem] rtFn rtPre rtVal
theorem val6 {ss:List St} {es:List En} {s:Int} {n:ByteArray} {e:List Ty}:valF ss es (.mk 6 s n e)=(hasS ss n && s == 0 && (e.length:Int) == 0):=by
  rw [valF]; rfl
theorem val7 {ss:List St} {es:List En} {s:Int} {n:ByteArray} {e:List Ty}:valF ss es (.mk 7 s n e)=(hasE es n && s == 0 && (e.length:Int) == 0):=by
  rw [valF]; rfl
set_option maxRecDepth 100000 in
set_option maxHeartbeats 4000000 in
theorem mRight:∀ N,Meets Tryz.prog 72 (rtFn N).sp
  | 0=>⟨by kernel_rfl,by rintro xs vs E ro w K _ _ _ ⟨⟨h,_⟩,_⟩; obtain ⟨_,a,_,_,_,h⟩:=rtPre_open h; have:=a.h_pos; omega⟩
  | N + 1=>by
    refine meets_fn Tryz.func72 ok72 2 (by rw [Tryz.ntmps72]; decide) (meetsAll_f (mRight N) (meetsAll_f mRPlain (meetsAll_s mRStruct (meetsAll_s mREnum (meetsAll_nil _))))) rtFn_len ?_
    rintro av H K ⟨⟨h,rfl⟩,hK⟩
    obtain ⟨sc,t,rfl,hs,ht,hh⟩:=rtPre_open h
    have hK:K (bS (valF sc.ss sc.es t)) []:=by
      have:(rtFn (N + 1)).val [.va (.gs (scC sc)),.va (.gs (tyC t))]=bA (valF sc.ss sc.es t):=by simp -dsimp only [go_sem]
      rw [this] at hK; exact hK
    clear h
    have fin:∀ (b:Bool) (R:Hp),valF sc.ss sc.es t=b->W.Fin 0 K (bS b) R:=fun b R h=>by
      rw [h] at hK
      exact .sel [] (by simp) (by simp) rfl (.done (by simp -dsimp only [go_sem]; simpa using hK))
    have hit:isTy (tyC t):=isTy_mk ht
    cases t with
    | mk k s n e=>
    have hcd:=ty_dec (.mk k s n e)
    rw [tyC,tysC_map] at hcd hit
    have hcl:(Ty.mk k s n e).e.length=e.length:=rfl
    by_cases k1:(k == 1)=true
    · have hF:=valF.eq_1 sc.ss sc.es k s n e
      rw [k1] at hF
      simp only [Bool.cond_true] at hF
      simp (maxSteps:=1000000) -dsimp only [go_sem,scC,tyC,tysC_map,pc72,rs72,k1,hit,hcd,hcl]
      exact fin _ _ hF
    rw [Bool.not_eq_true] at k1
    by_cases k2:(k == 2)=true
    · have hF:=valF.eq_1 sc.ss sc.es k s n e
      rw [k1,k2] at hF
      simp only [Bool.cond_true,Bool.cond_false] at hF
      simp (maxSteps:=1000000) -dsimp only [go_sem,scC,tyC,tysC_map,pc72,rs72,k1,k2,hit,hcd,hcl]
      exact fin _ _ hF
    rw [Bool.not_eq_true] at k2
    by_cases k3:(k == 3)=true
    · have hF:=valF.eq_1 sc.ss sc.es k s n e
      rw [k1,k2,k3] at hF
      simp only [Bool.cond_true,Bool.cond_false,Bool.and_false,Bool.or_false] at hF
      simp (maxSteps:=1000000) -dsimp only [go_sem,scC,tyC,tysC_map,pc72,rs72,k1,k2,k3,hit,hcd,hcl]
      exact fin _ _ hF
    rw [Bool.not_eq_true] at k3
    by_cases k4:(k == 4)=true
    · have hF:=valF.eq_1 sc.ss sc.es k s n e
      rw [k1,k2,k3,k4] at hF
      simp only [Bool.cond_true,Bool.cond_false] at hF
      simp (maxSteps:=1000000) -dsimp only [go_sem,scC,tyC,tysC_map,pc72,rs72,k1,k2,k3,k4,hit,hcd,hcl]
      exact fin _ _ hF
    rw [Bool.not_eq_true] at k4
    by_cases k5:(k == 5)=true
    · have hF:=valF.eq_1 sc.ss sc.es k s n e
      rw [k1,k2,k3,k4,k5] at hF
      simp only [Bool.cond_true,Bool.cond_false] at hF
      cases hc:(decide (1<=s) && decide (s<=32) && bl n == [] && (e.length:Int) == 1) with
      | false=>
        have hF':valF sc.ss sc.es (.mk k s n e)=false:=by
          rw [hF]
          cases h0:(decide (1<=s) && decide (s<=32) && bl n == []) with
          | false=>rfl
          | true=>
            rw [h0,Bool.true_and] at hc
            match e,hc with
            | [],_=>rfl
            | [u],hc=>simp at hc
            | u :: v :: r,_=>simp [valFs]
        simp (maxSteps:=1000000) -dsimp only [go_sem,scC,tyC,tysC_map,pc72,rs72,k1,k2,k3,k4,k5,hc]
        exact fin _ _ hF'
      | true=>
        obtain ⟨u,rfl⟩:∃ u,e=[u]:=by
          simp only [Bool.and_eq_true,beq_iff_eq] at hc
          exact List.length_eq_one_iff.1 (by omega)
        have h0:(decide (1<=s) && decide (s<=32) && bl n == [])=true:=by
          simp only [Bool.and_eq_true] at hc ⊢; exact hc.1
        have hF':valF sc.ss sc.es (.mk k s n [u])=valF sc.ss sc.es u:=by rw [hF,h0]; simp [valFs]
        have hu2:u.h<=N:=by rw [Ty.h,Ty.hs,Ty.hs] at hh; omega
        have hu:isTy (tyC u):=isTy_mk (ht.e u (by simp [Ty.e]))
        have hsf:=isScF_mk hs
        rw [scC] at hsf
        have hsd:=sc_dec sc
        rw [scC] at hsd
        have hc':(decide (1<=s) && decide (s<=32) && bl n == [] && ((1:Nat):Int) == 1)=true:=hc
        simp (maxSteps:=1000000) -dsimp only [go_sem,scC,tyC,tysC_map,pc72,rs72,k1,k2,k3,k4,k5,hc']
        refine ⟨⟨by omega,fun r hr=>by subst hr; exact tyC_len u⟩,fun r hr=>?_⟩
        subst hr
        simp (maxSteps:=1000000) -dsimp only [go_sem,hsf,hsd,hu,tyC_len]
        exact ⟨hu2,fin _ _ hF'⟩
    rw [Bool.not_eq_true] at k5
    by_cases k6:(k == 6)=true
    · obtain rfl:k=6:=by simpa using k6
      have hF:=val6 (ss:=sc.ss) (es:=sc.es) (s:=s) (n:=n) (e:=e)
      simp (maxSteps:=1000000) -dsimp only [go_sem,scC,tyC,tysC_map,pc72,rs72,k1,k2,k3,k4,k5,k6]
      refine stp_use hs ?_
      cases hc:hasS sc.ss n with
      | false=>
        rw [hc] at hF
        simp (maxSteps:=1000000) -dsimp only [go_sem,stC,hit,hcd,hcl]
        exact fin _ _ hF
      | true=>
        rw [hc] at hF
        simp (maxSteps:=1000000) -dsimp only [go_sem,stC,hit,hcd,hcl]
        exact fin _ _ hF
    rw [Bool.not_eq_true] at k6
    by_cases k7:(k == 7)=true
    · obtain rfl:k=7:=by simpa using k7
      have hF:=val7 (ss:=sc.ss) (es:=sc.es) (s:=s) (n:=n) (e:=e)
      simp (maxSteps:=1000000) -dsimp only [go_sem,scC,tyC,tysC_map,pc72,rs72,k1,k2,k3,k4,k5,k6,k7]
      refine enp_use hs ?_
      cases hc:hasE sc.es n with
      | false=>
        rw [hc] at hF
        simp (maxSteps:=1000000) -dsimp only [go_sem,enC,hit,hcd,hcl]
        exact fin _ _ hF
      | true=>
        rw [hc] at hF
        simp (maxSteps:=1000000) -dsimp only [go_sem,enC,hit,hcd,hcl]
        exact fin _ _ hF
    rw [Bool.not_eq_true] at k7
    have hF:=valF.eq_1 sc.ss sc.es k s n e
    rw [k1,k2,k3,k4,k5,k6,k7] at hF
    simp only [Bool.cond_false] at hF
    simp (maxSteps:=1000000) -dsimp only [go_sem,scC,tyC,tysC_map,pc72,rs72,k1,k2,k3,k4,k5,k6,k7]
    exact fin _ _ hF
end Go.Proofs.YtbolanmlngjdoaaGreat
namespace Go.Proofs.YtbolanmlngjdoaaGreat
open Go.W
def r0Pre:List S->Prop:=fun av=>match av with
  | [.va (.gs r),.va (.gs q)]=>isScF r/\isTy q
  | _=>False
theorem r0Pre_open {av:List S} (h:r0Pre av):∃ s t,av=[.va (.gs (scC s)),.va (.gs (tyC t))]/\s.fit/\TyOk t:=by
  unfold r0Pre at h
  split at h
  · obtain ⟨⟨a,rfl,ha⟩,⟨b,rfl,hb⟩⟩:=h
    exact ⟨a,b,rfl,ha,hb⟩
  · exact h.elim
noncomputable def r0Fn:Fun:=⟨r0Pre,rtVal,fun av h=>by obtain ⟨a,b,rfl,_⟩:=r0Pre_open h; trivial⟩
attribute [go_sem] r0Fn r0Pre
theorem mRight0:Meets Tryz.prog 72 r0Fn.sp:=meets_all 0 mRight fun av H K ⟨⟨h,e⟩,hK⟩=>by
  obtain ⟨a,b,rfl,ha,hb⟩:=r0Pre_open h
  exact ⟨b.h,⟨⟨⟨isScF_mk ha,isTy_mk hb,by rw [ty_dec]; exact Nat.le_refl _⟩,e⟩,hK⟩⟩
set_option maxRecDepth 100000 in
set_option maxHeartbeats 4000000 in
theorem mRStructE:Meets Tryz.prog 34 (siFn (fun s=>s.ss.length) stAt).sp:=by
  refine meets_fn Tryz.func34 ok34 2 (by rw [Tryz.ntmps34]; decide) (meetsAll_f mRIsType (meetsAll_s mREnum (meetsAll_f mRIsName (meetsAll_f mRight0 (meetsAll_nil _))))) siFn_len ?_
  rintro av H K ⟨⟨h,rfl⟩,hK⟩
  obtain ⟨s,i,rfl,hs,hi⟩:=siPre_open (len:=fun s=>s.ss.length) h
  have hK:K (iS .i64 (stAt s i)) []:=by
    have:(siFn (fun s=>s.ss.length) stAt).val [.va (.gs (scC s)),iS .i64 i]=iA .i64 (stAt s i):=by simp -dsimp only [go_sem,Int.toNat_natCast]
    rw [this] at hK; exact hK
  clear h
  have hls:=hs.ok.ls
  have fin:∀ (x:Int) (R:Hp),stAt s i=x->W.Fin 0 K (iS .i64 x) R:=fun x R h=>by
    rw [h] at hK
    exact .sel [] (by simp) (by simp) rfl (.done (by simpa [go_sem] using hK))
  obtain ⟨t,hx⟩:∃ e,s.ss[i]? = some e:=⟨_,List.getElem?_eq_getElem hi⟩
  have q1:=row_rg' (row:=stC) hx
  obtain ⟨_,hlf,hfs⟩:=hs.ok.ss t (List.mem_of_getElem? hx)
  have hA:stAt s i=bif cnF s i t.nm != 0 then cnF s i t.nm else cfF s.ss s.es t:=by unfold stAt; rw [hx]
  have hsf:=isScF_mk hs
  rw [scC] at hsf
  have hsd:=sc_dec s
  rw [scC] at hsd
  simp (maxSteps:=1000000) -dsimp only [go_sem,scC,pc34,rs34,↓q1,stC]
  refine ⟨by omega,fun h1=>fin 5 _ (by rw [hA]; unfold cnF; rw [h1]; rfl),fun h1=>?_⟩
  refine enp_use hs ?_
  simp (maxSteps:=1000000) -dsimp only [go_sem,enC]
  refine ⟨fun h2=>fin 7 _ (by rw [hA]; unfold cnF; rw [h1,h2]; rfl),fun h2=>?_⟩
  have hC:cnF s i t.nm=bif hasS (s.ss.take i) t.nm then 7 else 0:=by unfold cnF; rw [h1,h2]; rfl
  generalize ((fEn s.es t.nm).getD default)=dflt
  refine vc_loop (α:=Nat) (fun j=>[(1,iS .i64 i),(2,.va (.c1 (.pt 0 0))),(5,.va (.c1 (.pt 1 0))),(8,iS .i64 j)]) (fun _=>[.cells (scC s) 25,.cells (stC t) 37])
    (fun j=>j<=i/\hasS ((s.ss.take i).drop j) t.nm=hasS (s.ss.take i) t.nm) (fun j=>i - j) 0 2 ⟨Nat.zero_le _,rfl⟩ ?_ ?_ ?_
  · simp [go_sem]
  · simp [go_sem,scC,stC]
  have hti:(s.ss.take i).length=i:=by rw [List.length_take]; omega
  rintro j ⟨hj,ho⟩
  rcases Nat.lt_or_ge j i with hlt | hge
  · have hg:decide ((j:Int) < (i:Int))=true:=by simp; omega
    obtain ⟨d,hd⟩:∃ d,s.ss[j]? = some d:=⟨_,List.getElem?_eq_getElem (by omega)⟩
    have hd':(s.ss.take i)[j]? = some d:=by rw [List.getElem?_take,if_pos hlt]; exact hd
    have q2:=row_rg' (row:=stC) hd
    rw [hasS,any_step hd'] at ho
    simp (maxSteps:=1000000) -dsimp only [go_sem,hg,↓q2,stC,scC,bl_beq]
    refine ⟨by omega,fun hc=>?_,fun hc=>?_⟩
    · rw [hc,Bool.true_or] at ho
      exact fin 7 _ (by rw [hA,hC,<-ho]; rfl)
    · rw [hc,Bool.false_or] at ho
      refine ⟨by omega,loop_next (j + 1) 2 ⟨by omega,ho⟩ (by omega) ?_ ?_⟩
      · simp [go_sem]
      · simp [go_sem,scC,stC]
  · obtain rfl:j=i:=by omega
    have hg:decide ((j:Int) < (j:Int))=false:=by simp
    rw [List.drop_eq_nil_of_le (by omega)] at ho
    have hF:stAt s j=cfF s.ss s.es t:=by rw [hA,hC,<-ho]; rfl
    clear ho hti hA hC q1 hj hge
    simp (maxSteps:=1000000) -dsimp only [go_sem,hg,stC,scC]
    clear hg
    refine vc_loop (α:=Nat) (fun k=>[(2,.va (.c1 (.pt 0 0))),(5,.va (.c1 (.pt 1 0))),(9,iS .i64 k)]) (fun _=>[.cells (scC s) 25,.cells (stC t) 37])
      (fun k=>k<=t.fs.length/\fE (cfAt s.ss s.es t) (t.fs.length - k) k=cfF s.ss s.es t) (fun k=>t.fs.length - k) 0 2 ⟨Nat.zero_le _,rfl⟩ ?_ ?_ ?_
    · simp [go_sem]
    · simp [go_sem,scC,stC]
    rintro k ⟨hk,ho⟩
    rcases Nat.lt_or_ge k t.fs.length with hlt | hge
    · have hg:decide ((k:Int) < (t.fs.length:Int))=true:=by simp; omega
      obtain ⟨f,hx2⟩:∃ nm,t.fs[k]? = some nm:=⟨_,List.getElem?_eq_getElem hlt⟩
      have q2:=row_rg' (row:=flC) hx2
      have hf:f.ok:=hfs f (List.mem_of_getElem? hx2)
      have hit:isTy (tyC f.ty):=isTy_mk hf.ty
      have hA:cfAt s.ss s.es t k=bif decide (f.num < 1) || decide (127 < f.num) then (4:Int) else bif decide (0 < (k:Int)) && (match t.fs[k - 1]? with | some g=>decide (f.num<=g.num) | none=>false) then 2 else
        bif !(isNm (bl f.nm)) then 5 else bif (t.fs.take k).any (fun g=>decide (g.nm=f.nm)) then 7 else bif !(valF s.ss s.es f.ty) then 13 else 0:=by
        unfold cfAt; rw [hx2]; rfl
      have fin':∀ (x:Int) (R:Hp),cfAt s.ss s.es t k=x->x ≠ 0->W.Fin 0 K (iS .i64 x) R:=fun x R h1 h2=>fin x R (by
        rw [hF,<-ho,fE_err hlt (by rw [h1]; exact h2),h1])
      have nxt:cfAt s.ss s.es t k=0->fE (cfAt s.ss s.es t) (t.fs.length - (k + 1)) (k + 1)=cfF s.ss s.es t:=fun h1=>by rw [<-ho,fE_ok hlt h1]
      cases c0:decide (f.num < 1) with
      | true=>
        rw [c0] at hA
        simp (maxSteps:=1000000) -dsimp only [go_sem,hg,↓q2,flC,stC,scC,c0]
        exact ⟨by omega,fin' 4 _ hA (by decide)⟩
      | false=>
      cases c1:decide (127 < f.num) with
      | true=>
        rw [c0,c1] at hA
        simp (maxSteps:=1000000) -dsimp only [go_sem,hg,↓q2,flC,stC,scC,c0,c1]
        exact ⟨by omega,fin' 4 _ hA (by decide)⟩
      | false=>
      rw [c0,c1] at hA
      simp only [Bool.or_self,Bool.cond_false] at hA
      rcases Nat.eq_zero_or_pos k with h0 | h0
      · have g1:decide (0 < (k:Int))=false:=by simp; omega
        rw [g1] at hA
        simp only [Bool.false_and,Bool.cond_false] at hA
        cases c3:isNm (bl f.nm) with
        | false=>
          rw [c3] at hA
          simp (maxSteps:=1000000) -dsimp only [go_sem,hg,↓q2,flC,stC,scC,c0,c1,c3,g1]
          exact ⟨by omega,fin' 5 _ hA (by decide)⟩
        | true=>
          rw [c3] at hA
          simp only [Bool.not_true,Bool.cond_false] at hA
          simp (maxSteps:=1000000) -dsimp only [go_sem,hg,↓q2,flC,stC,scC,c0,c1,c3,g1]
          refine ⟨by omega,?_⟩
          refine vc_loop (α:=Nat) (fun j=>[(2,.va (.c1 (.pt 0 0))),(5,.va (.c1 (.pt 1 0))),(9,iS .i64 k),(10,.va (.c1 (.pt 2 0))),(11,iS .i64 j)])
            (fun _=>[.cells (scC s) 25,.cells (stC t) 37,.cells (flC f) 50])
            (fun j=>j<=k/\((t.fs.take k).drop j).any (fun g=>decide (g.nm=f.nm))=(t.fs.take k).any (fun g=>decide (g.nm=f.nm))) (fun j=>k - j) 0 3 ⟨Nat.zero_le _,rfl⟩ ?_ ?_ ?_
          · simp [go_sem]
          · simp [go_sem,scC,stC,flC]
          have htk:(t.fs.take k).length=k:=by rw [List.length_take]; omega
          rintro j ⟨hj,ho2⟩
          rcases Nat.lt_or_ge j k with hjt | hjg
          · have hgj:decide ((j:Int) < (k:Int))=true:=by simp; omega
            obtain ⟨d,hd⟩:∃ e,t.fs[j]? = some e:=⟨_,List.getElem?_eq_getElem (by omega)⟩
            have hd':(t.fs.take k)[j]? = some d:=by rw [List.getElem?_take,if_pos hjt]; exact hd
            have q5:=row_rg' (row:=flC) hd
            rw [any_step hd'] at ho2
            simp (maxSteps:=1000000) -dsimp only [go_sem,hgj,↓q5,flC,stC,scC,bl_beq]
            refine ⟨by omega,fun hc=>?_,fun hc=>?_⟩
            · rw [hc,Bool.true_or] at ho2
              rw [<-ho2] at hA
              exact fin' 7 _ hA (by decide)
            · rw [hc,Bool.false_or] at ho2
              refine ⟨by omega,loop_next (j + 1) 3 ⟨by omega,ho2⟩ (by omega) ?_ ?_⟩
              · simp [go_sem]
              · simp [go_sem,scC,stC,flC]
          · obtain rfl:j=k:=by omega
            have hgj:decide ((j:Int) < (j:Int))=false:=by simp
            rw [List.drop_eq_nil_of_le (by omega)] at ho2
            rw [<-ho2] at hA
            simp only [List.any_nil,Bool.cond_false] at hA
            simp (maxSteps:=1000000) -dsimp only [go_sem,hgj,flC,stC,scC,fl_ty,hit,hsf,hsd]
            cases c5:valF s.ss s.es f.ty with
            | true=>
              rw [c5] at hA
              simp (maxSteps:=1000000) -dsimp only [go_sem]
              refine ⟨by omega,loop_next (j + 1) 2 ⟨by omega,nxt hA⟩ (by omega) ?_ ?_⟩
              · simp [go_sem]
              · simp [go_sem,scC,stC]
            | false=>
              rw [c5] at hA
              simp (maxSteps:=1000000) -dsimp only [go_sem]
              exact fin' 13 _ hA (by decide)
      · have g1:decide (0 < (k:Int))=true:=by simp; omega
        obtain ⟨g,hy⟩:∃ m,t.fs[k - 1]? = some m:=⟨_,List.getElem?_eq_getElem (by omega)⟩
        have q4:((k:Int) - 1).toNat=k - 1:=by omega
        have q6:=row_rg (row:=flC) hy
        rw [g1,hy,Bool.true_and] at hA
        simp only at hA
        cases c2:decide (f.num<=g.num) with
        | true=>
          rw [c2] at hA
          simp (maxSteps:=1000000) -dsimp only [go_sem,hg,↓q2,flC,stC,scC,c0,c1,g1,q4,c2,hy,Option.some.injEq,forall_eq']
          exact ⟨by omega,by omega,by omega,fin' 2 _ hA (by decide)⟩
        | false=>
          rw [c2] at hA
          simp only [Bool.cond_false] at hA
          cases c3:isNm (bl f.nm) with
          | false=>
            rw [c3] at hA
            simp (maxSteps:=1000000) -dsimp only [go_sem,hg,↓q2,flC,stC,scC,c0,c1,c3,g1,q4,c2,hy,Option.some.injEq,forall_eq']
            exact ⟨by omega,by omega,by omega,fin' 5 _ hA (by decide)⟩
          | true=>
            rw [c3] at hA
            simp only [Bool.not_true,Bool.cond_false] at hA
            simp (maxSteps:=1000000) -dsimp only [go_sem,hg,↓q2,flC,stC,scC,c0,c1,c3,g1,q4,c2,hy,Option.some.injEq,forall_eq']
            refine ⟨by omega,by omega,by omega,?_⟩
            refine vc_loop (α:=Nat) (fun j=>[(2,.va (.c1 (.pt 0 0))),(5,.va (.c1 (.pt 1 0))),(9,iS .i64 k),(10,.va (.c1 (.pt 2 0))),(11,iS .i64 j)])
              (fun _=>[.cells (scC s) 25,.cells (stC t) 37,.cells (flC f) 50])
              (fun j=>j<=k/\((t.fs.take k).drop j).any (fun g=>decide (g.nm=f.nm))=(t.fs.take k).any (fun g=>decide (g.nm=f.nm))) (fun j=>k - j) 0 3 ⟨Nat.zero_le _,rfl⟩ ?_ ?_ ?_
            · simp [go_sem]
            · simp [go_sem,scC,stC,flC]
            have htk:(t.fs.take k).length=k:=by rw [List.length_take]; omega
            rintro j ⟨hj,ho2⟩
            rcases Nat.lt_or_ge j k with hjt | hjg
            · have hgj:decide ((j:Int) < (k:Int))=true:=by simp; omega
              obtain ⟨d,hd⟩:∃ e,t.fs[j]? = some e:=⟨_,List.getElem?_eq_getElem (by omega)⟩
              have hd':(t.fs.take k)[j]? = some d:=by rw [List.getElem?_take,if_pos hjt]; exact hd
              have q5:=row_rg' (row:=flC) hd
              rw [any_step hd'] at ho2
              simp (maxSteps:=1000000) -dsimp only [go_sem,hgj,↓q5,flC,stC,scC,bl_beq]
              refine ⟨by omega,fun hc=>?_,fun hc=>?_⟩
              · rw [hc,Bool.true_or] at ho2
                rw [<-ho2] at hA
                exact fin' 7 _ hA (by decide)
              · rw [hc,Bool.false_or] at ho2
                refine ⟨by omega,loop_next (j + 1) 3 ⟨by omega,ho2⟩ (by omega) ?_ ?_⟩
                · simp [go_sem]
                · simp [go_sem,scC,stC,flC]
            · obtain rfl:j=k:=by omega
              have hgj:decide ((j:Int) < (j:Int))=false:=by simp
              rw [List.drop_eq_nil_of_le (by omega)] at ho2
              rw [<-ho2] at hA
              simp only [List.any_nil,Bool.cond_false] at hA
              simp (maxSteps:=1000000) -dsimp only [go_sem,hgj,flC,stC,scC,fl_ty,hit,hsf,hsd]
              cases c5:valF s.ss s.es f.ty with
              | true=>
                rw [c5] at hA
                simp (maxSteps:=1000000) -dsimp only [go_sem]
                refine ⟨by omega,loop_next (j + 1) 2 ⟨by omega,nxt hA⟩ (by omega) ?_ ?_⟩
                · simp [go_sem]
                · simp [go_sem,scC,stC]
              | false=>
                rw [c5] at hA
                simp (maxSteps:=1000000) -dsimp only [go_sem]
                exact fin' 13 _ hA (by decide)
    · have hg:decide ((k:Int) < (t.fs.length:Int))=false:=by simp; omega
      obtain rfl:k=t.fs.length:=by omega
      rw [fE_end] at ho
      simp (maxSteps:=1000000) -dsimp only [go_sem,hg,stC]
      exact fin 0 _ (by rw [hF,<-ho])
end Go.Proofs.YtbolanmlngjdoaaGreat
namespace Go.Proofs.YtbolanmlngjdoaaGreat
open Go.W
mutual
def dirF:Ty->List ByteArray
  | .mk k _ n e=>bif k == 6 || k == 7 then [n] else dirFs e
def dirFs:List Ty->List ByteArray
  | []=>[]
  | t :: r=>dirF t ++ dirFs r
end
theorem dirFs_app:∀ (a b:List Ty),dirFs (a ++ b)=dirFs a ++ dirFs b
  | [],b=>rfl
  | t :: r,b=>by rw [List.cons_append,dirFs,dirFs,dirFs_app r b,List.append_assoc]
theorem dirFs_mem:∀ {l:List Ty} {t:Ty},t ∈ l->(dirF t).length<=(dirFs l).length
  | x :: l,t,h=>by
    rw [dirFs,List.length_append]
    rcases List.mem_cons.1 h with rfl | h
    · omega
    · have:=dirFs_mem h; omega
def diSp (N:Nat):W.Spec:=fun av H K=>∃ t:Ty,av=[.va (.gs (tyC t))]/\H=[]/\TyOk t/\t.h<=N/\(dirF t).length<=1000000000/\K (.va (.c1 (.fz ((dirF t).map stR)))) []
theorem di_use {N:Nat} {t:Ty} {K:S->Hp->Prop} (h1:TyOk t) (h2:t.h<=N) (h3:(dirF t).length<=1000000000) (hK:K (.va (.c1 (.fz ((dirF t).map stR)))) []):diSp N [.va (.gs (tyC t))] [] K:=⟨t,rfl,rfl,h1,h2,h3,hK⟩
theorem stR_ss (l:List ByteArray):∀ r ∈ l.map stR,∀ c ∈ r,c.shut=true/\c.one:=fun r hr c hc=>by
  obtain ⟨x,_,rfl⟩:=List.mem_map.1 hr
  simp at hc; subst hc; simp [go_sem,C.shut]
set_option maxRecDepth 100000 in
theorem mDirect:∀ N,Meets Tryz.prog 73 (diSp N)
  | 0=>⟨by kernel_rfl,by rintro xs vs E ro w K _ _ _ ⟨t,_,_,_,h,_⟩; have:=t.h_pos; omega⟩
  | N + 1=>by
    refine meets_fn Tryz.func73 ok73 1 (by rw [Tryz.ntmps73]; decide) (meetsAll_s (mDirect N) (meetsAll_nil _)) (fun av H K h=>by obtain ⟨_,rfl,_⟩:=h; rfl) ?_
    rintro av H K ⟨⟨k,s,n,e⟩,rfl,rfl,h1,h2,h3,hK⟩
    have hle:=h1.len
    have hoe:=h1.e
    simp only [Ty.e] at hle hoe
    have hD:=dirF.eq_1 k s n e
    simp (maxSteps:=1000000) -dsimp only [go_sem,tyC,tysC_map,pc73,rs73]
    refine ⟨fun c1=>?_,fun c1=>?_⟩
    · rw [c1,Bool.cond_true] at hD
      rw [hD] at hK
      refine .pub 1 _ _ _ rfl (.sel [] (by simp) (by simp [pubH]) rfl (.done ?_))
      simp -dsimp only [go_sem,pubH]
      simpa using hK
    · rw [c1,Bool.cond_false] at hD
      rw [hD] at hK h3
      refine vc_loop_gh (α:=Nat) (fun i=>[(1,.va (.c1 (.pt 0 0))),(3,.va (.c1 (.sl 1 (dirFs (e.take i)).length))),(4,iS .i64 i)]) (fun i=>[.cells (tyC (.mk k s n e)) 48,.row ((dirFs (e.take i)).map stR) 9 1])
        (fun i=>i<=e.length) (fun i=>e.length - i) (.nil 3 9 1 rfl (gh_at 0 2 (Nat.zero_le _) ?_ ?_)) ?_
      · simp -dsimp only [go_sem]<;>simp [dirFs]
      · simp -dsimp only [go_sem,tyC,tysC_map]<;>simp [dirFs]
      intro i hi
      rcases Nat.lt_or_ge i e.length with hlt | hge
      · have hg:decide ((i:Int) < (e.length:Int))=true:=by simp; omega
        obtain ⟨u,hx⟩:∃ t,e[i]? = some t:=⟨_,List.getElem?_eq_getElem hlt⟩
        have q1:=row_rg' (row:=tyC) hx
        have hu:=List.mem_of_getElem? hx
        have htn:dirFs (e.take (i + 1))=dirFs (e.take i) ++ dirF u:=by rw [take_next hx,dirFs_app]; simp [dirFs]
        have hb:(dirFs (e.take (i + 1))).length<=1000000000:=by
          have:=dirFs_app (e.take (i + 1)) (e.drop (i + 1))
          rw [List.take_append_drop] at this
          rw [this,List.length_append] at h3; omega
        rw [htn,List.length_append] at hb
        simp (maxSteps:=1000000) -dsimp only [go_sem,hg,↓q1,tyC_len,tyC,tysC_map]
        refine ⟨by omega,di_use (hoe u hu) ?_ ?_ ?_⟩
        · have:=Ty.hs_mem hu; rw [Ty.h] at h2; omega
        · have:=dirFs_mem hu; omega
        simp (maxSteps:=1000000) -dsimp only [go_sem,all_rows stR_len]
        refine ⟨stR_ss _,by omega,by omega,loop_next (i + 1) 2 (by omega) (by omega) ?_ ?_⟩
        · simp -dsimp only [go_sem,htn]<;>simp
        · simp -dsimp only [go_sem,tyC,tysC_map,htn]<;>simp
      · have hg:decide ((i:Int) < (e.length:Int))=false:=by simp; omega
        obtain rfl:i=e.length:=by omega
        rw [List.take_length]
        simp (maxSteps:=1000000) -dsimp only [go_sem,hg,tyC,tysC_map]
        rw [<-List.length_map (f:=stR)]
        refine .pub 1 _ _ _ rfl (.sel [] (by simp) (by simp [pubH]) rfl (.done ?_))
        simp -dsimp only [go_sem,pubH]
        simpa using hK
def diSp0:W.Spec:=fun av H K=>∃ t:Ty,av=[.va (.gs (tyC t))]/\H=[]/\TyOk t/\(dirF t).length<=1000000000/\K (.va (.c1 (.fz ((dirF t).map stR)))) []
theorem di_use0 {t:Ty} {K:S->Hp->Prop} (h1:TyOk t) (h3:(dirF t).length<=1000000000) (hK:K (.va (.c1 (.fz ((dirF t).map stR)))) []):diSp0 [.va (.gs (tyC t))] [] K:=⟨t,rfl,rfl,h1,h3,hK⟩
theorem mDirect0:Meets Tryz.prog 73 diSp0:=meets_all 0 mDirect fun _av _H _K ⟨t,e1,e2,h1,h3,hK⟩=>⟨t.h,t,e1,e2,h1,Nat.le_refl _,h3,hK⟩
def putG (x:ByteArray):Bool->List ByteArray->List ByteArray
  | d,[]=>bif d then [] else [x]
  | d,y :: r=>bif !d && (Op.bytesLess (bl x) (bl y) || bl x == bl y) then (bif Op.bytesLess (bl x) (bl y) then x :: y :: putG x true r else y :: putG x true r) else y :: putG x d r
theorem putG_len (x:ByteArray):∀ (d:Bool) (l:List ByteArray),(putG x d l).length<=l.length + 1
  | d,[]=>by cases d<;>simp [putG]
  | d,y :: r=>by
    have h1:=putG_true x r
    have h2:=putG_len x d r
    rw [putG]
    cases d<;>cases Op.bytesLess (bl x) (bl y)<;>cases bl x == bl y<;>simp [h1] at h2 ⊢<;>omega
where putG_true (x:ByteArray):∀ l,putG x true l=l
  | []=>rfl
  | y :: r=>by rw [putG,putG_true x r]; rfl
def puSp:W.Spec:=fun av H K=>∃ (l:List ByteArray) (x:ByteArray),av=[.va (.c1 (.fz (l.map stR))),tS x]/\H=[]/\l.length<=1000000/\K (.va (.c1 (.fz ((putG x false l).map stR)))) []
theorem pu_use {l:List ByteArray} {x:ByteArray} {K:S->Hp->Prop} (h:l.length<=1000000) (hK:K (.va (.c1 (.fz ((putG x false l).map stR)))) []):puSp [.va (.c1 (.fz (l.map stR))),tS x] [] K:=⟨l,x,rfl,rfl,h,hK⟩
set_option maxRecDepth 100000 in
theorem mPut:Meets Tryz.prog 74 puSp:=by
  refine meets_fn Tryz.func74 ok74 2 (by rw [Tryz.ntmps74]; decide) (meetsAll_nil _) (fun av H K h=>by obtain ⟨_,_,rfl,_⟩:=h; rfl) ?_
  rintro av H K ⟨l,x,rfl,rfl,hl,hK⟩
  have hlen:=putG_len x false l
  simp (maxSteps:=1000000) -dsimp only [go_sem,pc74,rs74]
  refine vc_loop_gh (α:=Nat × Bool × List ByteArray) (fun z=>[(0,.va (.c1 (.fz (l.map stR)))),(1,tS x),(5,.va (.c1 (.sl 0 z.2.2.length))),(6,bS z.2.1),(7,iS .i64 z.1)]) (fun z=>[.row (z.2.2.map stR) 9 1])
    (fun z=>z.1<=l.length/\z.2.2 ++ putG x z.2.1 (l.drop z.1)=putG x false l) (fun z=>l.length - z.1) (.nil 5 9 1 rfl (gh_at (0,false,[]) 1 ⟨Nat.zero_le _,rfl⟩ ?_ ?_)) ?_
  · simp -dsimp only [go_sem]<;>simp
  · simp -dsimp only [go_sem]<;>simp
  rintro ⟨i,d,o⟩ ⟨hi,ho⟩
  simp only at hi ho ⊢
  have hol:o.length<=l.length + 1:=by
    have:=congrArg List.length ho
    rw [List.length_append] at this; omega
  rcases Nat.lt_or_ge i l.length with hlt | hge
  · have hg:decide ((i:Int) < (l.length:Int))=true:=by simp; omega
    obtain ⟨y,hx⟩:∃ t,l[i]? = some t:=⟨_,List.getElem?_eq_getElem hlt⟩
    have q1:=row_rg' (row:=stR) hx
    have hdr:l.drop i=y :: l.drop (i + 1):=by
      obtain ⟨h,rfl⟩:=List.getElem?_eq_some_iff.1 hx
      exact List.drop_eq_getElem_cons h
    rw [hdr,putG] at ho
    have hst:∀ (u:ByteArray),[[C.vl (.string u)]]=[u].map stR:=fun _=>rfl
    cases d with
    | true=>
      simp only [Bool.not_true,Bool.false_and,Bool.cond_false] at ho
      simp (maxSteps:=1000000) -dsimp only [go_sem,hg,↓q1]
      and_intros
      all_goals first
        | omega
        | skip
      refine loop_next (i + 1,true,o ++ [y]) 1 ⟨by simp only; omega,by simp only [List.append_assoc,List.singleton_append]; exact ho⟩ (by simp only; omega) ?_ ?_
      · simp -dsimp only [go_sem]<;>simp
      · simp -dsimp only [go_sem]<;>simp
    | false=>
      simp only [Bool.not_false,Bool.true_and] at ho
      cases c2:Op.bytesLess (bl x) (bl y) with
      | true=>
        rw [c2] at ho
        simp only [Bool.true_or,Bool.cond_true] at ho
        simp (maxSteps:=1000000) -dsimp only [go_sem,hg,↓q1,c2,Bool.true_or]
        and_intros
        all_goals first
          | omega
          | skip
        refine loop_next (i + 1,true,o ++ [x,y]) 1 ⟨by simp only; omega,by simp only [List.append_assoc,List.cons_append,List.nil_append]; exact ho⟩ (by simp only; omega) ?_ ?_
        · simp -dsimp only [go_sem]<;>simp
        · simp -dsimp only [go_sem]<;>simp
      | false=>
        rw [c2] at ho
        simp only [Bool.false_or,Bool.cond_false] at ho
        cases c3:bl x == bl y with
        | true=>
          rw [c3] at ho
          simp only [Bool.cond_true] at ho
          simp (maxSteps:=1000000) -dsimp only [go_sem,hg,↓q1,c2,c3,Bool.false_or]
          and_intros
          all_goals first
            | omega
            | skip
          refine loop_next (i + 1,true,o ++ [y]) 1 ⟨by simp only; omega,by simp only [List.append_assoc,List.singleton_append]; exact ho⟩ (by simp only; omega) ?_ ?_
          · simp -dsimp only [go_sem]<;>simp
          · simp -dsimp only [go_sem]<;>simp
        | false=>
          rw [c3] at ho
          simp only [Bool.cond_false] at ho
          simp (maxSteps:=1000000) -dsimp only [go_sem,hg,↓q1,c2,c3,Bool.false_or]
          and_intros
          all_goals first
            | omega
            | skip
          refine loop_next (i + 1,false,o ++ [y]) 1 ⟨by simp only; omega,by simp only [List.append_assoc,List.singleton_append]; exact ho⟩ (by simp only; omega) ?_ ?_
          · simp -dsimp only [go_sem]<;>simp
          · simp -dsimp only [go_sem]<;>simp
  · have hg:decide ((i:Int) < (l.length:Int))=false:=by simp; omega
    obtain rfl:i=l.length:=by omega
    rw [List.drop_length] at ho
    simp only [putG] at ho
    cases d with
    | true=>
      simp only [Bool.cond_true,List.append_nil] at ho
      rw [<-ho] at hK
      simp (maxSteps:=1000000) -dsimp only [go_sem,hg]
      rw [<-List.length_map (f:=stR)]
      refine .pub 0 _ _ _ rfl (.sel [] (by simp) (by simp [pubH]) rfl (.done ?_))
      simp -dsimp only [go_sem,pubH]
      simpa using hK
    | false=>
      simp only [Bool.cond_false] at ho
      rw [<-ho] at hK
      simp (maxSteps:=1000000) -dsimp only [go_sem,hg]
      refine ⟨by omega,?_⟩
      have e1:o.length + 1=((o ++ [x]).map stR).length:=by simp
      have e2:o.map stR ++ [[C.vl (.string x)]]=(o ++ [x]).map stR:=by simp
      rw [e1,e2]
      refine .pub 0 _ _ _ rfl (.sel [] (by simp) (by simp [pubH]) rfl (.done ?_))
      simp -dsimp only [go_sem,pubH]
      simpa using hK
end Go.Proofs.YtbolanmlngjdoaaGreat
namespace Go.Proofs.YtbolanmlngjdoaaGreat
open Go.W
abbrev ltS (a b:ByteArray):Prop:=bl a < bl b
theorem blessL (x:List UInt8):∀ y:List UInt8,Op.bytesLess x y=decide (x < y):=by
  induction x with
  | nil=>intro y; cases y<;>simp [Op.bytesLess]
  | cons a x ih=>
    intro y
    cases y with
    | nil=>simp [Op.bytesLess]
    | cons b y=>
      have:=ih y
      rw [Op.bytesLess,this,Bool.eq_iff_iff]
      simp [List.cons_lt_cons_iff]
theorem bless (a b:ByteArray):Op.bytesLess (bl a) (bl b)=decide (ltS a b):=blessL _ _
theorem ltS_irrefl (a:ByteArray):¬ ltS a a:=List.lt_irrefl _
theorem ltS_trans {a b c:ByteArray} (h:ltS a b) (h2:ltS b c):ltS a c:=List.lt_trans h h2
theorem ltS_total {a b:ByteArray} (h:¬ ltS a b) (h2:a ≠ b):ltS b a:=by
  have h3:bl b<=bl a:=List.not_lt.1 h
  exact Std.lt_of_le_of_ne h3 (fun e=>h2 (bl_inj e.symm))
def Asc (l:List ByteArray):Prop:=l.Pairwise ltS
theorem asc_ext:∀ {a b:List ByteArray},Asc a->Asc b->(∀ x,x ∈ a ↔ x ∈ b)->a=b
  | [],[],_,_,_=>rfl
  | [],y :: b,_,_,h=>by have:=(h y).2 List.mem_cons_self; cases this
  | x :: a,[],_,_,h=>by have:=(h x).1 List.mem_cons_self; cases this
  | x :: a,y :: b,h1,h2,h=>by
    obtain ⟨p1,p2⟩:=List.pairwise_cons.1 h1
    obtain ⟨p3,p4⟩:=List.pairwise_cons.1 h2
    have e:x=y:=by
      rcases List.mem_cons.1 ((h x).1 List.mem_cons_self) with e | e
      · exact e
      · rcases List.mem_cons.1 ((h y).2 List.mem_cons_self) with e2 | e2
        · exact e2.symm
        · exact absurd (ltS_trans (p1 y e2) (p3 x e)) (ltS_irrefl x)
    subst e
    rw [asc_ext p2 p4 fun z=>?_]
    constructor
    · intro hz
      rcases List.mem_cons.1 ((h z).1 (List.mem_cons_of_mem _ hz)) with e | e
      · exact absurd (p1 z hz) (by rw [e]; exact ltS_irrefl x)
      · exact e
    · intro hz
      rcases List.mem_cons.1 ((h z).2 (List.mem_cons_of_mem _ hz)) with e | e
      · exact absurd (p3 z hz) (by rw [e]; exact ltS_irrefl x)
      · exact e
theorem Asc.nodup {l:List ByteArray} (h:Asc l):l.Nodup:=by
  unfold List.Nodup
  refine List.Pairwise.imp ?_ h
  intro a b h e
  subst e
  exact ltS_irrefl a h
theorem putG_true (x:ByteArray):∀ l,putG x true l=l
  | []=>rfl
  | y :: r=>by rw [putG,putG_true x r]; rfl
theorem putG_mem {x z:ByteArray}:∀ {l:List ByteArray},z ∈ putG x false l ↔ z=x\/z ∈ l
  | []=>by simp [putG]
  | y :: r=>by
    rw [putG,putG_true]
    cases c1:Op.bytesLess (bl x) (bl y) with
    | true=>simp
    | false=>
      cases c2:bl x == bl y with
      | true=>
        have:x=y:=bl_inj (by simpa using c2)
        subst this
        simp
      | false=>
        have:=putG_mem (x:=x) (z:=z) (l:=r)
        simp [this]
        constructor
        · rintro (h | h | h)
          · exact .inr (.inl h)
          · exact .inl h
          · exact .inr (.inr h)
        · rintro (h | h | h)
          · exact .inr (.inl h)
          · exact .inl h
          · exact .inr (.inr h)
theorem putG_asc {x:ByteArray}:∀ {l:List ByteArray},Asc l->Asc (putG x false l)
  | [],_=>by simp [putG,Asc]
  | y :: r,h=>by
    obtain ⟨p1,p2⟩:=List.pairwise_cons.1 h
    rw [putG,putG_true]
    cases c1:Op.bytesLess (bl x) (bl y) with
    | true=>
      rw [bless] at c1
      have c1:=of_decide_eq_true c1
      simp only [Bool.not_false,Bool.true_or,Bool.and_true,Bool.cond_true]
      refine List.pairwise_cons.2 ⟨fun z hz=>?_,h⟩
      rcases List.mem_cons.1 hz with rfl | hz
      · exact c1
      · exact ltS_trans c1 (p1 z hz)
    | false=>
      cases c2:bl x == bl y with
      | true=>exact h
      | false=>
        rw [bless] at c1
        have c1:=of_decide_eq_false c1
        have c2:x ≠ y:=fun e=>by subst e; simp at c2
        simp only [Bool.not_false,Bool.true_and,Bool.or_self,Bool.cond_false]
        refine List.pairwise_cons.2 ⟨fun z hz=>?_,putG_asc p2⟩
        rcases putG_mem.1 hz with rfl | hz
        · exact ltS_total c1 c2
        · exact p1 z hz
theorem asc_srtB {l:List ByteArray} (h:l.Nodup):Asc (srtB l):=by
  have h1:((l.map bl).mergeSort fun x y=>decide (x<=y)).Pairwise fun a b=>decide (a<=b)=true:=
    List.pairwise_mergeSort (le:=fun (x y:List UInt8)=>decide (x<=y)) (fun (a b c:List UInt8) h1 h2=>decide_eq_true (List.le_trans (of_decide_eq_true h1) (of_decide_eq_true h2))) (fun (a b:List UInt8)=>by
      rcases List.le_total a b with h | h<;>simp [h]) _
  have h2:((l.map bl).mergeSort fun x y=>decide (x<=y)).Nodup:=by
    rw [(List.mergeSort_perm _ _).nodup_iff]
    exact List.Pairwise.map bl (fun a b (hab:a ≠ b) e=>hab (bl_inj e)) h
  unfold srtB Asc
  rw [List.pairwise_map]
  refine List.Pairwise.imp₂ (fun a b h1 h2=>?_) h1 h2
  exact Std.lt_of_le_of_ne (of_decide_eq_true h1) h2
theorem usesF_asc (ss:List St) (n:ByteArray):Asc (usesF ss n):=asc_srtB (visAll_nodup ss n)
theorem plain_nil {e:List Ty} (h:((e.length:Int) == 0)=true):e=[]:=by simpa using h
theorem dir_val (ss:List St) (es:List En):∀ (N:Nat) (t:Ty),t.h<=N->valF ss es t=true->dirF t=bif isNamed t then [nmOf t] else []
  | 0,t,h,_=>absurd h (by have:=t.h_pos; omega)
  | N + 1,.mk k s n e,h,hv=>by
    cases k5:k == 5 with
    | true=>
      obtain rfl:k=5:=by simpa using k5
      obtain ⟨u,rfl,hu⟩:=val_list hv
      have:=dir_val ss es N u (by rw [Ty.h,Ty.hs,Ty.hs] at h; omega) hu
      unfold isNamed nmOf
      rw [named_one]
      rw [dirF,dirFs,dirFs,List.append_nil,this]
      rfl
    | false=>
      have h1:namedT (.mk k s n e)=.mk k s n e:=named_stop (by rw [k5]; rfl)
      unfold isNamed nmOf
      rw [h1,dirF]
      simp only [Ty.k,Ty.n]
      cases k67:(k == 6 || k == 7) with
      | true=>rfl
      | false=>
        have he:e=[]:=by
          rw [Bool.or_eq_false_iff] at k67
          rw [valF,k5,k67.1,k67.2] at hv
          cases k1:k == 1<;>cases k2:k == 2<;>cases k3:k == 3<;>cases k4:k == 4<;>rw [k1,k2,k3,k4] at hv<;>simp only [Bool.cond_true,Bool.cond_false,Bool.and_eq_true,reduceCtorEq] at hv<;>first | exact plain_nil hv.2 | exact absurd hv (by decide)
        subst he; rfl
theorem dir_valF {ss:List St} {es:List En} {t:Ty} (hv:valF ss es t=true):dirF t=bif isNamed t then [nmOf t] else []:=dir_val ss es t.h t (Nat.le_refl _) hv
end Go.Proofs.YtbolanmlngjdoaaGreat
namespace Go.Proofs.YtbolanmlngjdoaaGreat
open Go.W
structure Is where
  k:Int
  n:Int
  t:ByteArray
instance:Inhabited Is:=⟨⟨0,0,ByteArray.empty⟩⟩
theorem is_eq {a b:Is}:a=b ↔ (a.k=b.k/\a.n=b.n/\a.t=b.t):=by cases a; cases b; simp
instance:DecidableEq Is:=fun _ _=>decidable_of_iff _ is_eq.symm
def isC (x:Is):List C:=[.vl (.int .i64 x.k),.vl (.int .i64 x.n),.vl (.string x.t)]
theorem isC_inj {a b:Is} (h:isC a=isC b):a=b:=by
  rw [is_eq]
  simpa [isC] using h
def addF (l:List Is) (x:Is):List Is:=bif l.any (fun y=>decide (x=y)) then l else l ++ [x]
def addA (l xs:List Is):List Is:=xs.foldl addF l
theorem addA_app (l xs ys:List Is):addA l (xs ++ ys)=addA (addA l xs) ys:=List.foldl_append
theorem addA_nil (l:List Is):addA l []=l:=rfl
theorem addA_one (l:List Is) (x:Is):addA l [x]=addF l x:=rfl
theorem hasI_iff {l:List Is} {x:Is}:l.any (fun y=>decide (x=y))=true ↔ x ∈ l:=by
  rw [List.any_eq_true]
  constructor
  · rintro ⟨y,h1,h2⟩
    rw [of_decide_eq_true h2]; exact h1
  · intro h
    exact ⟨x,h,by simp⟩
theorem addF_mem {l:List Is} {x y:Is}:y ∈ addF l x ↔ y ∈ l\/y=x:=by
  unfold addF
  cases h:l.any (fun y=>decide (x=y)) with
  | true=>
    have:=hasI_iff.1 h
    rw [Bool.cond_true]
    constructor
    · exact .inl
    · rintro (h | rfl)
      · exact h
      · exact this
  | false=>simp
theorem addA_mem {y:Is}:∀ {xs l:List Is},y ∈ addA l xs ↔ y ∈ l\/y ∈ xs
  | [],l=>by simp [addA]
  | x :: xs,l=>by
    show y ∈ addA (addF l x) xs ↔ _
    rw [addA_mem,addF_mem,List.mem_cons,or_assoc]
theorem addF_nd {l:List Is} {x:Is} (h:l.Nodup):(addF l x).Nodup:=by
  unfold addF
  cases h1:l.any (fun y=>decide (x=y)) with
  | true=>exact h
  | false=>
    have:x ∉ l:=fun hx=>by rw [hasI_iff.2 hx] at h1; cases h1
    rw [Bool.cond_false,List.nodup_append]
    exact ⟨h,by simp,fun a ha b hb e=>by simp at hb; subst hb; subst e; exact this ha⟩
theorem addA_nd:∀ {xs l:List Is},l.Nodup->(addA l xs).Nodup
  | [],_,h=>h
  | x :: xs,l,h=>addA_nd (xs:=xs) (l:=addF l x) (addF_nd h)
theorem addF_len (l:List Is) (x:Is):(addF l x).length<=l.length + 1:=by
  unfold addF
  cases l.any (fun y=>decide (x=y))<;>simp
theorem addA_len:∀ (xs l:List Is),(addA l xs).length<=l.length + xs.length
  | [],l=>Nat.le_refl _
  | x :: xs,l=>by
    have h1:=addA_len xs (addF l x)
    have h2:=addF_len l x
    show (addA (addF l x) xs).length<=_
    rw [List.length_cons]; omega
def ltI (a b:Is):Prop:=ltS a.t b.t\/(a.t=b.t/\(a.k < b.k\/(a.k=b.k/\a.n < b.n)))
theorem ltI_irrefl (a:Is):¬ ltI a a:=by
  rintro (h | ⟨_,h | ⟨_,h⟩⟩)
  · exact ltS_irrefl _ h
  · omega
  · omega
theorem ltI_trans {a b c:Is} (h:ltI a b) (h2:ltI b c):ltI a c:=by
  rcases h with h | ⟨e,h⟩
  · rcases h2 with h2 | ⟨e2,h2⟩
    · exact .inl (ltS_trans h h2)
    · exact .inl (e2 ▸ h)
  · rcases h2 with h2 | ⟨e2,h2⟩
    · exact .inl (e ▸ h2)
    · exact .inr ⟨e.trans e2,by omega⟩
theorem ltI_total {a b:Is} (h:¬ ltI a b) (h2:a ≠ b):ltI b a:=by
  by_cases e:a.t=b.t
  · refine .inr ⟨e.symm,?_⟩
    have h3:¬ (a.k < b.k\/(a.k=b.k/\a.n < b.n)):=fun h3=>h (.inr ⟨e,h3⟩)
    have h4:¬ (a.k=b.k/\a.n=b.n):=fun h4=>h2 (is_eq.2 ⟨h4.1,h4.2,e⟩)
    omega
  · exact .inl (ltS_total (fun h3=>h (.inl h3)) e)
noncomputable def ltIB (a b:Is):Bool:=@decide (ltI a b) (Classical.propDecidable _)
theorem ltIB_iff {a b:Is}:ltIB a b=true ↔ ltI a b:=by unfold ltIB; simp
def AscI (l:List Is):Prop:=l.Pairwise ltI
theorem ascI_ext:∀ {a b:List Is},AscI a->AscI b->(∀ x,x ∈ a ↔ x ∈ b)->a=b
  | [],[],_,_,_=>rfl
  | [],y :: b,_,_,h=>by have:=(h y).2 List.mem_cons_self; cases this
  | x :: a,[],_,_,h=>by have:=(h x).1 List.mem_cons_self; cases this
  | x :: a,y :: b,h1,h2,h=>by
    obtain ⟨p1,p2⟩:=List.pairwise_cons.1 h1
    obtain ⟨p3,p4⟩:=List.pairwise_cons.1 h2
    have e:x=y:=by
      rcases List.mem_cons.1 ((h x).1 List.mem_cons_self) with e | e
      · exact e
      · rcases List.mem_cons.1 ((h y).2 List.mem_cons_self) with e2 | e2
        · exact e2.symm
        · exact absurd (ltI_trans (p1 y e2) (p3 x e)) (ltI_irrefl x)
    subst e
    rw [ascI_ext p2 p4 fun z=>?_]
    constructor
    · intro hz
      rcases List.mem_cons.1 ((h z).1 (List.mem_cons_of_mem _ hz)) with e | e
      · exact absurd (p1 z hz) (by rw [e]; exact ltI_irrefl x)
      · exact e
    · intro hz
      rcases List.mem_cons.1 ((h z).2 (List.mem_cons_of_mem _ hz)) with e | e
      · exact absurd (p3 z hz) (by rw [e]; exact ltI_irrefl x)
      · exact e
theorem ascI_of {l' l:List Is} (hp:l'.Perm l) (hn:l.Nodup) (hs:l'.Pairwise fun a b=>ltIB b a=false):AscI l':=by
  have hn':l'.Nodup:=hp.nodup_iff.2 hn
  refine List.Pairwise.imp₂ (fun a b h1 h2=>?_) hs hn'
  have h3:¬ ltI b a:=fun h=>by rw [ltIB_iff.2 h] at h1; cases h1
  exact ltI_total h3 (fun e=>h2 e.symm)
noncomputable def putJ (x:Is):Bool->List Is->List Is
  | d,[]=>bif d then [] else [x]
  | d,y :: r=>bif !(d || decide (y=x)) && ltIB x y then x :: y :: putJ x true r else y :: putJ x (d || decide (y=x)) r
theorem putJ_true (x:Is):∀ l,putJ x true l=l
  | []=>rfl
  | y :: r=>by rw [putJ,Bool.true_or,putJ_true x r]; rfl
theorem putJ_mem {x z:Is}:∀ {l:List Is},z ∈ putJ x false l ↔ z=x\/z ∈ l
  | []=>by simp [putJ]
  | y :: r=>by
    rw [putJ,putJ_true,Bool.false_or]
    by_cases c2:y=x
    · subst c2
      simp [putJ_true]
    · rw [decide_eq_false c2]
      cases c1:ltIB x y with
      | true=>simp
      | false=>
        have:=putJ_mem (x:=x) (z:=z) (l:=r)
        simp [this]
        constructor
        · rintro (h | h | h)
          · exact .inr (.inl h)
          · exact .inl h
          · exact .inr (.inr h)
        · rintro (h | h | h)
          · exact .inr (.inl h)
          · exact .inl h
          · exact .inr (.inr h)
theorem putJ_asc {x:Is}:∀ {l:List Is},AscI l->AscI (putJ x false l)
  | [],_=>by simp [putJ,AscI]
  | y :: r,h=>by
    obtain ⟨p1,p2⟩:=List.pairwise_cons.1 h
    rw [putJ,putJ_true,Bool.false_or]
    by_cases c2:y=x
    · rw [decide_eq_true c2,putJ_true]; exact h
    · rw [decide_eq_false c2]
      cases c1:ltIB x y with
      | true=>
        have c1:=ltIB_iff.1 c1
        refine List.pairwise_cons.2 ⟨fun z hz=>?_,h⟩
        rcases List.mem_cons.1 hz with rfl | hz
        · exact c1
        · exact ltI_trans c1 (p1 z hz)
      | false=>
        have c1:¬ ltI x y:=fun h=>by rw [ltIB_iff.2 h] at c1; cases c1
        refine List.pairwise_cons.2 ⟨fun z hz=>?_,putJ_asc p2⟩
        rcases putJ_mem.1 hz with rfl | hz
        · exact ltI_total c1 (fun e=>c2 e.symm)
        · exact p1 z hz
noncomputable def putA (l xs:List Is):List Is:=xs.foldl (fun l x=>putJ x false l) l
theorem putA_mem {y:Is}:∀ {xs l:List Is},y ∈ putA l xs ↔ y ∈ l\/y ∈ xs
  | [],l=>by simp [putA]
  | x :: xs,l=>by
    show y ∈ putA (putJ x false l) xs ↔ _
    rw [putA_mem,putJ_mem,List.mem_cons,or_assoc,or_left_comm]
theorem putA_asc:∀ {xs l:List Is},AscI l->AscI (putA l xs)
  | [],_,h=>h
  | x :: xs,l,h=>putA_asc (xs:=xs) (l:=putJ x false l) (putJ_asc h)
end Go.Proofs.YtbolanmlngjdoaaGreat
namespace Go.Proofs.YtbolanmlngjdoaaGreat
open Go.W
structure UI (ss:List St) (n:ByteArray) (i:Nat) (todo o:List ByteArray):Prop where
  hd:∃ r,todo=n :: r/\r.Nodup/\∀ x,x ∈ o ↔ x ∈ r
  rc:∀ x ∈ o,Reach ss n x
  dn:∀ j a,j < i->todo[j]? = some a->∀ y,isRef ss a y->y ∈ o
  asc:Asc o
theorem UI.init (ss:List St) (n:ByteArray):UI ss n 0 [n] []:=⟨⟨[],rfl,.nil,fun _x=>Iff.rfl⟩,fun _x h=>(List.not_mem_nil h).elim,fun _j _a h=>absurd h (Nat.not_lt_zero _),List.Pairwise.nil⟩
theorem nm_len {ss:List St} {es:List En} (g:Gd ss es) {n:ByteArray} {l:List ByteArray} (h:l.Nodup) (hr:∀ x ∈ l,Reach ss n x):l.length<=32:=Nat.le_trans (nodup_sub h fun x hx=>(mem_visAll ss n x).2 (hr x hx)) (g.vlen n)
theorem UI.len {ss:List St} {es:List En} (g:Gd ss es) {n:ByteArray} {i:Nat} {todo o:List ByteArray} (h:UI ss n i todo o):todo.length<=33/\o.length<=32:=by
  obtain ⟨r,rfl,h1,h2⟩:=h.hd
  have:=nm_len g h1 fun x hx=>h.rc x ((h2 x).2 hx)
  have:=nm_len g h.asc.nodup h.rc
  simp only [List.length_cons]; omega
theorem UI.rch {ss:List St} {n:ByteArray} {i k:Nat} {todo o:List ByteArray} (h:UI ss n i todo o) {a y:ByteArray} (ha:todo[k]? = some a) (hy:isRef ss a y):Reach ss n y:=by
  obtain ⟨r,rfl,h1,h2⟩:=h.hd
  cases k with
  | zero=>simp at ha; subst ha; exact .one hy
  | succ k=>
    simp at ha
    exact .more (h.rc a ((h2 a).2 (List.mem_of_getElem? ha))) hy
theorem UI.add {ss:List St} {n:ByteArray} {i:Nat} {todo o:List ByteArray} (h:UI ss n i todo o) {y:ByteArray} (hr:Reach ss n y) (hy:y ∉ o) (hi:i<=todo.length):UI ss n i (todo ++ [y]) (putG y false o):=by
  obtain ⟨r,rfl,h1,h2⟩:=h.hd
  refine ⟨⟨r ++ [y],by simp,?_,fun x=>?_⟩,fun x hx=>?_,fun j a hj ha z hz=>?_,putG_asc h.asc⟩
  · rw [List.nodup_append]
    exact ⟨h1,by simp,fun a ha b hb=>by simp at hb; subst hb; exact fun e=>hy ((h2 b).2 (e ▸ ha))⟩
  · rw [putG_mem,h2]; simp [or_comm]
  · rcases putG_mem.1 hx with rfl | hx
    · exact hr
    · exact h.rc x hx
  · rw [List.getElem?_append_left (by omega)] at ha
    exact putG_mem.2 (.inr (h.dn j a hj ha z hz))
theorem UI.next {ss:List St} {n:ByteArray} {i:Nat} {todo o:List ByteArray} (h:UI ss n i todo o) {a:ByteArray} (ha:todo[i]? = some a) (hy:∀ y,isRef ss a y->y ∈ o):UI ss n (i + 1) todo o:=by
  refine ⟨h.hd,h.rc,fun j b hj hb y hyb=>?_,h.asc⟩
  rcases Nat.lt_or_ge j i with h4 | h4
  · exact h.dn j b h4 hb y hyb
  · obtain rfl:j=i:=by omega
    rw [ha] at hb; obtain rfl:=Option.some.inj hb
    exact hy y hyb
theorem UI.fin {ss:List St} {n:ByteArray} {todo o:List ByteArray} (h:UI ss n todo.length todo o):o=usesF ss n:=by
  refine asc_ext h.asc (usesF_asc ss n) fun x=>?_
  rw [mem_usesF]
  refine ⟨h.rc x,fun hx=>?_⟩
  obtain ⟨r,e,h1,h2⟩:=h.hd
  have hn:∀ y,isRef ss n y->y ∈ o:=h.dn 0 n (by rw [e]; simp) (by rw [e]; rfl)
  induction hx with
  | one h=>exact hn _ h
  | more _ h3 ih=>
    obtain ⟨j,hj⟩:=List.mem_iff_getElem?.1 ((h2 _).1 ih)
    rename_i b c _
    have hj2:todo[j + 1]? = some b:=by rw [e]; simpa using hj
    exact h.dn (j + 1) _ (List.getElem?_eq_some_iff.1 hj2).1 hj2 _ h3
def udSp:W.Spec:=fun av H K=>∃ (s:Sc) (n:ByteArray),av=[.va (.gs (scC s)),tS n]/\H=[]/\s.fit/\Gd s.ss s.es/\K (.va (.c1 (.fz ((usesF s.ss n).map stR)))) []
theorem ud_use {s:Sc} {n:ByteArray} {K:S->Hp->Prop} (h:s.fit) (g:Gd s.ss s.es) (hK:K (.va (.c1 (.fz ((usesF s.ss n).map stR)))) []):udSp [.va (.gs (scC s)),tS n] [] K:=⟨s,n,rfl,rfl,h,g,hK⟩
theorem dir_len {ss:List St} {es:List En} {t:Ty} (hv:valF ss es t=true):(dirF t).length<=1:=by
  rw [dir_valF hv]; cases isNamed t<;>simp
theorem dir_mem {ss:List St} {es:List En} {t:Ty} (hv:valF ss es t=true) {y:ByteArray}:y ∈ dirF t ↔ isNamed t=true/\nmOf t=y:=by
  rw [dir_valF hv]; cases isNamed t<;>simp [eq_comm]
set_option maxRecDepth 100000 in
set_option maxHeartbeats 2000000 in
theorem mUsed:Meets Tryz.prog 35 udSp:=by
  refine meets_fn Tryz.func35 ok35 2 (by rw [Tryz.ntmps35]; decide) (meetsAll_s mRStruct (meetsAll_s mDirect0 (meetsAll_f mRIn (meetsAll_s mPut (meetsAll_nil _))))) (fun av H K h=>by obtain ⟨_,_,rfl,_⟩:=h; rfl) ?_
  rintro av H K ⟨s,n,rfl,rfl,hs,g,hK⟩
  simp (maxSteps:=1000000) -dsimp only [go_sem,scC,pc35,rs35]
  refine vc_loop_gh (α:=Nat × List ByteArray × List ByteArray) (fun z=>[(2,.va (.c1 (.pt 0 0))),(5,.va (.c1 (.fz (z.2.2.map stR)))),(6,.va (.c1 (.sl 1 z.2.1.length))),(7,iS .i64 z.1)]) (fun z=>[.cells (scC s) 25,.row (z.2.1.map stR) 9 1])
    (fun z=>z.1<=z.2.1.length/\UI s.ss n z.1 z.2.1 z.2.2) (fun z=>34 - z.1) (.nf 5 (gh_at (0,[n],[]) 2 ⟨Nat.zero_le _,UI.init _ _⟩ ?_ ?_)) ?_
  · simp -dsimp only [go_sem]<;>simp
  · simp -dsimp only [go_sem,scC]<;>simp
  rintro ⟨i,todo,o⟩ ⟨hi,hu⟩
  simp only at hi hu ⊢
  obtain ⟨htl,hol⟩:=hu.len g
  rcases Nat.lt_or_ge i todo.length with hlt | hge
  · have hg:decide ((i:Int) < (todo.length:Int))=true:=by simp; omega
    obtain ⟨a,ha⟩:∃ a,todo[i]? = some a:=⟨_,List.getElem?_eq_getElem hlt⟩
    have q1:=row_rg' (row:=stR) ha
    simp (maxSteps:=1000000) -dsimp only [go_sem,hg,scC,ha,Option.some.injEq,forall_eq']
    refine ⟨by omega,hlt,stp_use hs ?_⟩
    generalize hx:(fS s.ss a).getD default=x
    have hxf:∀ f ∈ x.fs,f.ok/\valF s.ss s.es f.ty=true:=fun f hf=>by
      cases hc:fS s.ss a with
      | none=>rw [hc] at hx; subst hx; cases hf
      | some t=>
        rw [hc] at hx
        subst hx
        exact ⟨(hs.ok.ss _ (fS_mem hc).1).fs f hf,g.val _ (fS_mem hc).1 f hf⟩
    have hxl:x.fs.length<=9223372036854775807:=by
      cases hc:fS s.ss a with
      | none=>rw [hc] at hx; subst hx; exact Nat.zero_le _
      | some t=>rw [hc] at hx; subst hx; exact (hs.ok.ss _ (fS_mem hc).1).len
    have hxr:∀ y,isRef s.ss a y ↔ refT x y:=fun y=>by unfold isRef; rw [hx]
    simp (maxSteps:=1000000) -dsimp only [go_sem,stC]
    refine vc_loop (α:=Nat × List ByteArray × List ByteArray) (fun z=>[(2,.va (.c1 (.pt 0 0))),(5,.va (.c1 (.fz (z.2.2.map stR)))),(6,.va (.c1 (.sl 1 z.2.1.length))),(7,iS .i64 i),(8,.va (.c1 (.pt 2 0))),(10,iS .i64 z.1)]) (fun z=>[.cells (scC s) 25,.row (z.2.1.map stR) 9 1,.cells (stC x) 37])
      (fun z=>z.1<=x.fs.length/\z.2.1[i]? = some a/\UI s.ss n i z.2.1 z.2.2/\∀ f ∈ x.fs.take z.1,isNamed f.ty=true->nmOf f.ty ∈ z.2.2) (fun z=>x.fs.length - z.1) (0,todo,o) 3 ⟨Nat.zero_le _,ha,hu,fun f hf=>by cases hf⟩ ?_ ?_ ?_
    · simp -dsimp only [go_sem]<;>simp
    · simp -dsimp only [go_sem,scC,stC]<;>simp
    clear hu ha hlt hi htl hol hg q1
    rintro ⟨k,td,o⟩ ⟨hk,ha,hu,hr⟩
    simp only at hk ha hu hr ⊢
    obtain ⟨htl,hol⟩:=hu.len g
    have hil:=(List.getElem?_eq_some_iff.1 ha).1
    rcases Nat.lt_or_ge k x.fs.length with hlt | hge
    · have hg:decide ((k:Int) < (x.fs.length:Int))=true:=by simp; omega
      obtain ⟨f,hf⟩:∃ a,x.fs[k]? = some a:=⟨_,List.getElem?_eq_getElem hlt⟩
      have q1:=row_rg' (row:=flC) hf
      obtain ⟨hfo,hfv⟩:=hxf f (List.mem_of_getElem? hf)
      simp (maxSteps:=1000000) -dsimp only [go_sem,hg,↓q1,scC,stC,flC,fl_ty]
      have hdl:=dir_len hfv
      refine ⟨by omega,di_use0 hfo.ty (by omega) ?_⟩
      simp (maxSteps:=1000000) -dsimp only [go_sem]
      have hdm:∀ y ∈ dirF f.ty,Reach s.ss n y:=fun y hy=>by
        obtain ⟨h1,h2⟩:=(dir_mem hfv).1 hy
        exact hu.rch ha ((hxr y).2 ⟨f,List.mem_of_getElem? hf,h1,h2⟩)
      have hdf:(∀ o':List ByteArray,(∀ y ∈ dirF f.ty,y ∈ o')->(∀ f ∈ x.fs.take k,isNamed f.ty=true->nmOf f.ty ∈ o')->∀ f ∈ x.fs.take (k + 1),isNamed f.ty=true->nmOf f.ty ∈ o'):=fun o' h1 h2 f' hf' hn=>by
        rw [take_next hf] at hf'
        rcases List.mem_append.1 hf' with h | h
        · exact h2 f' h hn
        · obtain rfl:f'=f:=by simpa using h
          exact h1 _ ((dir_mem hfv).2 ⟨hn,rfl⟩)
      generalize dirF f.ty=l at *
      refine vc_loop (α:=Nat × List ByteArray × List ByteArray) (fun z=>[(2,.va (.c1 (.pt 0 0))),(5,.va (.c1 (.fz (z.2.2.map stR)))),(6,.va (.c1 (.sl 1 z.2.1.length))),(7,iS .i64 i),(8,.va (.c1 (.pt 2 0))),(10,iS .i64 k),(11,.va (.c1 (.fz (l.map stR)))),(12,iS .i64 z.1)]) (fun z=>[.cells (scC s) 25,.row (z.2.1.map stR) 9 1,.cells (stC x) 37])
        (fun z=>z.1<=l.length/\z.2.1[i]? = some a/\UI s.ss n i z.2.1 z.2.2/\(∀ f ∈ x.fs.take k,isNamed f.ty=true->nmOf f.ty ∈ z.2.2)/\∀ y ∈ l.take z.1,y ∈ z.2.2) (fun z=>l.length - z.1) (0,td,o) 3 ⟨Nat.zero_le _,ha,hu,hr,fun f hf=>by cases hf⟩ ?_ ?_ ?_
      · simp -dsimp only [go_sem]<;>simp
      · simp -dsimp only [go_sem,scC,stC]<;>simp
      clear hu ha hil htl hol hg q1 hr
      rintro ⟨j,td,o⟩ ⟨hj,ha,hu,hr,hjm⟩
      simp only at hj ha hu hr hjm ⊢
      obtain ⟨htl,hol⟩:=hu.len g
      have hil:=(List.getElem?_eq_some_iff.1 ha).1
      rcases Nat.lt_or_ge j l.length with hjt | hjg
      · have hg:decide ((j:Int) < (l.length:Int))=true:=by simp; omega
        obtain ⟨y,hy⟩:∃ a,l[j]? = some a:=⟨_,List.getElem?_eq_getElem hjt⟩
        have q1:=row_rg' (row:=stR) hy
        have hbs:isBs (o.map stR):=isBs_mk (by omega)
        have e0:(0<=(o.length:Int))=True:=by simp
        have e1:((o.length:Int)<=9223372036854775807)=True:=by simp; omega
        have hto:o.take o.length=o:=List.take_length
        have hjm':∀ o':List ByteArray,(∀ z ∈ o,z ∈ o')->y ∈ o'->∀ z ∈ l.take (j + 1),z ∈ o':=fun o' h1 h2 z hz=>by
          rw [take_next hy] at hz
          rcases List.mem_append.1 hz with h | h
          · exact h1 z (hjm z h)
          · obtain rfl:z=y:=by simpa using h
            exact h2
        cases hc:inB o y with
        | true=>
          simp (maxSteps:=1000000) -dsimp only [go_sem,hg,↓q1,scC,stC,hbs,e0,e1,Int.toNat_natCast,hto,hc]
          refine ⟨by omega,by omega,loop_next (j + 1,td,o) 3 ⟨by simp only; omega,ha,hu,hr,hjm' o (fun z h=>h) ((inB_iff _ _).1 hc)⟩ (by simp only; omega) ?_ ?_⟩
          · simp -dsimp only [go_sem]<;>simp
          · simp -dsimp only [go_sem,scC,stC]<;>simp
        | false=>
          have hyo:=not_inB.1 hc
          have hua:=hu.add (hdm y (List.mem_of_getElem? hy)) hyo (by omega)
          have hmo:∀ z ∈ o,z ∈ putG y false o:=fun z hz=>putG_mem.2 (.inr hz)
          have ha':(td ++ [y])[i]? = some a:=by rw [List.getElem?_append_left hil]; exact ha
          simp (maxSteps:=1000000) -dsimp only [go_sem,hg,↓q1,scC,stC,hbs,e0,e1,Int.toNat_natCast,hto,hc]
          refine ⟨by omega,by omega,pu_use (by omega) ?_⟩
          simp (maxSteps:=1000000) -dsimp only [go_sem]
          and_intros
          all_goals first
            | omega
            | skip
          refine loop_next (j + 1,td ++ [y],putG y false o) 3 ⟨by simp only; omega,ha',hua,fun f hf hn=>hmo _ (hr f hf hn),hjm' _ hmo (putG_mem.2 (.inl rfl))⟩ (by simp only; omega) ?_ ?_
          · simp -dsimp only [go_sem]<;>simp
          · simp -dsimp only [go_sem,scC,stC]<;>simp
      · have hg:decide ((j:Int) < (l.length:Int))=false:=by simp; omega
        obtain rfl:j=l.length:=by omega
        rw [List.take_length] at hjm
        simp (maxSteps:=1000000) -dsimp only [go_sem,hg,scC,stC]
        refine ⟨by omega,loop_next (k + 1,td,o) 3 ⟨by simp only; omega,ha,hu,hdf o hjm hr⟩ (by simp only; omega) ?_ ?_⟩
        · simp -dsimp only [go_sem]<;>simp
        · simp -dsimp only [go_sem,scC,stC]<;>simp
    · have hg:decide ((k:Int) < (x.fs.length:Int))=false:=by simp; omega
      obtain rfl:k=x.fs.length:=by omega
      rw [List.take_length] at hr
      simp (maxSteps:=1000000) -dsimp only [go_sem,hg,scC,stC]
      refine ⟨by omega,loop_next (i + 1,td,o) 2 ⟨by simp only; omega,hu.next ha fun y hy=>?_⟩ (by simp only; omega) ?_ ?_⟩
      · obtain ⟨f,h1,h2,rfl⟩:=(hxr y).1 hy
        exact hr f h1 h2
      · simp -dsimp only [go_sem]<;>simp
      · simp -dsimp only [go_sem,scC]<;>simp
  · have hg:decide ((i:Int) < (todo.length:Int))=false:=by simp; omega
    obtain rfl:i=todo.length:=by omega
    obtain rfl:=hu.fin
    simp (maxSteps:=1000000) -dsimp only [go_sem,hg,scC]
    exact .sel [] (by simp) (by simp) rfl (.done (by simpa [go_sem] using hK))
end Go.Proofs.YtbolanmlngjdoaaGreat
namespace Go.Proofs.YtbolanmlngjdoaaGreat
open Go.W
def dIx:List St->List Int->ByteArray->Int
  | s :: ss,d :: ds,n=>bif decide (s.nm=n) then d else dIx ss ds n
  | _,_,_=>0
theorem dIx_step {ss:List St} {ds:List Int} {i:Nat} {x:St} {d:Int} (hx:ss[i]? = some x) (hd:ds[i]? = some d) (n:ByteArray):dIx (ss.drop i) (ds.drop i) n=bif decide (x.nm=n) then d else dIx (ss.drop (i + 1)) (ds.drop (i + 1)) n:=by
  obtain ⟨h,rfl⟩:=List.getElem?_eq_some_iff.1 hx
  obtain ⟨h2,rfl⟩:=List.getElem?_eq_some_iff.1 hd
  rw [List.drop_eq_getElem_cons h,List.drop_eq_getElem_cons h2]; rfl
theorem dIx_end {ss:List St} {ds:List Int} (n:ByteArray):dIx (ss.drop ss.length) ds n=0:=by rw [List.drop_length]; simp [dIx]
theorem dIx_none {n:ByteArray}:∀ {ss:List St} {ds:List Int},fS ss n=none->dIx ss ds n=0
  | [],_,_=>by simp [dIx]
  | s :: ss,[],_=>by simp [dIx]
  | s :: ss,d :: ds,h=>by
    unfold fS at h
    rw [List.find?_cons] at h
    rw [dIx]
    cases hc:decide (s.nm=n) with
    | true=>rw [hc] at h; simp at h
    | false=>rw [hc] at h; exact dIx_none (ss:=ss) h
theorem dIx_some {n:ByteArray} {u:St}:∀ {ss:List St} {ds:List Int},ss.length=ds.length->fS ss n=some u->∃ j:Nat,ss[j]? = some u/\ds[j]? = some (dIx ss ds n)
  | [],_,_,h=>by cases h
  | s :: ss,[],hl,_=>by simp at hl
  | s :: ss,d :: ds,hl,h=>by
    unfold fS at h
    rw [List.find?_cons] at h
    rw [dIx]
    cases hc:decide (s.nm=n) with
    | true=>
      rw [hc] at h
      obtain rfl:s=u:=by simpa using h
      exact ⟨0,rfl,rfl⟩
    | false=>
      rw [hc] at h
      obtain ⟨j,h1,h2⟩:=dIx_some (ss:=ss) (ds:=ds) (by simpa using hl) h
      exact ⟨j + 1,by simpa using h1,by simpa using h2⟩
def isIn (rs:List (List C)):Prop:=∃ l:List Int,rs=l.map inR
def tdPre (N:Nat):List S->Prop:=fun av=>match av with
  | [.va (.gs r),.va (.c1 (.fz ds)),.va (.gs q)]=>isScF r/\(isIn ds/\ds.length=(C.sc r).ss.length/\∀ d ∈ ds.map C.it,0<=d/\d<=1000000000000)/\isTy q/\(lvT (C.ty q)).1<=1000000000/\(C.ty q).h<=N
  | _=>False
theorem tdPre_open {N:Nat} {av:List S} (h:tdPre N av):∃ (s:Sc) (l:List Int) (t:Ty),av=[.va (.gs (scC s)),.va (.c1 (.fz (l.map inR))),.va (.gs (tyC t))]/\s.fit/\(l.length=s.ss.length/\∀ d ∈ l,0<=d/\d<=1000000000000)/\TyOk t/\(lvT t).1<=1000000000/\t.h<=N:=by
  unfold tdPre at h
  split at h
  · obtain ⟨⟨a,rfl,ha⟩,⟨⟨l,rfl⟩,h1,h2⟩,⟨b,rfl,hb⟩,h3,h4⟩:=h
    rw [ty_dec] at h3 h4
    rw [sc_dec] at h1
    rw [it_map] at h2
    exact ⟨a,l,b,rfl,ha,⟨by simpa using h1,h2⟩,hb,h3,h4⟩
  · exact h.elim
noncomputable def tdVal:List S->A:=fun av=>match av with
  | [.va (.gs r),.va (.c1 (.fz ds)),.va (.gs q)]=>iA .i64 (fdep (dIx (C.sc r).ss (ds.map C.it)) (C.ty q))
  | _=>.gs []
noncomputable def tdFn (N:Nat):Fun:=⟨tdPre N,tdVal,fun av h=>by obtain ⟨a,l,b,rfl,_⟩:=tdPre_open h; trivial⟩
theorem tdFn_len {N:Nat}:∀ av H K,(tdFn N).sp av H K->av.length=3:=fun av H K h=>by obtain ⟨a,l,b,rfl,_⟩:=tdPre_open h.1.1; rfl
attribute [go_sem] tdFn tdPre tdVal
theorem lvT_cons {s:Int} {n:ByteArray} {u:Ty} {r:List Ty}:lvT (.mk 5 s n (u :: r))=((lvT u).1 + 1,(lvT u).2):=by simp [lvT,lvL]
theorem lvT_stop {k s:Int} {n:ByteArray} {e:List Ty} (h:(k == 5 && decide (0 < (e.length:Int)))=false):lvT (.mk k s n e)=(0,.mk k s n e):=by
  rw [lvT]
  cases hk:k == 5 with
  | false=>rfl
  | true=>
    rw [hk,Bool.true_and] at h
    have:e=[]:=List.length_eq_zero_iff.1 (by simp at h; simp [h])
    subst this; rfl
theorem fdep_cons {dp:ByteArray->Int} {s:Int} {n:ByteArray} {u:Ty} {r:List Ty}:fdep dp (.mk 5 s n (u :: r))=1 + fdep dp u:=by unfold fdep; rw [lvT_cons]; simp only; omega
set_option maxRecDepth 100000 in
set_option maxHeartbeats 4000000 in
theorem mTypeDepth':∀ N,Meets Tryz.prog 75 (tdFn N).sp
  | 0=>⟨by kernel_rfl,by rintro xs vs E ro w K _ _ _ ⟨⟨h,_⟩,_⟩; obtain ⟨_,_,a,_,_,_,_,_,h⟩:=tdPre_open h; have:=a.h_pos; omega⟩
  | N + 1=>by
    refine meets_fn Tryz.func75 ok75 3 (by rw [Tryz.ntmps75]; decide) (meetsAll_f (mTypeDepth' N) (meetsAll_nil _)) tdFn_len ?_
    rintro av H K ⟨⟨h,rfl⟩,hK⟩
    obtain ⟨sc,l,t,rfl,hs,⟨hl,hb⟩,ht,hlv,hh⟩:=tdPre_open h
    have hK:K (iS .i64 (fdep (dIx sc.ss l) t)) []:=by
      have:(tdFn (N + 1)).val [.va (.gs (scC sc)),.va (.c1 (.fz (l.map inR))),.va (.gs (tyC t))]=iA .i64 (fdep (dIx sc.ss l) t):=by simp -dsimp only [go_sem,it_map]
      rw [this] at hK; exact hK
    clear h
    have hls:=hs.ok.ls
    have fin:∀ (b:Int) (R:Hp),fdep (dIx sc.ss l) t=b->W.Fin 0 K (iS .i64 b) R:=fun b R h=>by
      rw [h] at hK
      exact .sel [] (by simp) (by simp) rfl (.done (by simp -dsimp only [go_sem]; simpa using hK))
    have hsf:=isScF_mk hs
    rw [scC] at hsf
    have hsd:=sc_dec sc
    rw [scC] at hsd
    obtain ⟨k,s,n,e⟩:=t
    have hte:=ht.e
    have hte2:=ht.len
    simp only [Ty.e] at hte hte2
    have hin:isIn (l.map inR):=⟨l,rfl⟩
    have hr1:((l.map inR).length=sc.ss.length)=True:=by simp [hl]
    have hr2:(∀ d:Int,d ∈ l->0<=d/\d<=1000000000000)=True:=eq_true hb
    simp (maxSteps:=1000000) -dsimp only [go_sem,scC,tyC,tysC_map,pc75,rs75]
    cases c1:(k == 5 && decide (0 < (e.length:Int))) with
    | true=>
      simp only [Bool.and_eq_true,beq_iff_eq,decide_eq_true_eq] at c1
      obtain ⟨rfl,c1⟩:=c1
      obtain ⟨u,r,rfl⟩:∃ u r,e=u :: r:=by
        cases e with
        | nil=>simp at c1
        | cons u r=>exact ⟨u,r,rfl⟩
      rw [lvT_cons] at hlv
      have hux:(u :: r)[0]? = some u:=rfl
      have q1:=row_rg (row:=tyC) hux
      have hu:isTy (tyC u):=isTy_mk (hte u List.mem_cons_self)
      have huh:u.h<=N:=by rw [Ty.h,Ty.hs] at hh; omega
      refine ⟨fun _=>?_,fun h=>by simp at h⟩
      have hul:((lvT u).1<=1000000000)=True:=eq_true (by simp only at hlv; omega)
      have huh':(u.h<=N)=True:=eq_true huh
      have hfb:fdep (dIx sc.ss l) u<=1001000000000/\0<=fdep (dIx sc.ss l) u:=by
        have hd:dIx sc.ss l (lvT u).2.n<=1000000000000/\0<=dIx sc.ss l (lvT u).2.n:=by
          cases hf:fS sc.ss (lvT u).2.n with
          | none=>rw [dIx_none hf]; omega
          | some v=>
            obtain ⟨j,_,h2⟩:=dIx_some hl.symm hf
            have:=hb _ (List.mem_of_getElem? h2); omega
        simp only at hlv
        unfold fdep
        cases (lvT u).2.k == 6<;>simp only [Bool.cond_true,Bool.cond_false]<;>omega
      simp (maxSteps:=1000000) -dsimp only [go_sem,tyC_len]
      refine ⟨by omega,fun x hx=>?_⟩
      subst hx
      simp only [hsd]
      exact ⟨⟨hsf,⟨hin,hl,hb⟩,hu,by simp only at hlv; omega,huh⟩,by omega,fin _ _ fdep_cons⟩
    | false=>
      have hst:=lvT_stop (s:=s) (n:=n) c1
      have hfd:fdep (dIx sc.ss l) (.mk k s n e)=bif k == 6 then dIx sc.ss l n else 0:=by unfold fdep; rw [hst]; simp [Ty.k,Ty.n]
      refine ⟨fun h=>by simp at h,fun _=>?_⟩
      cases k6:k == 6 with
      | false=>
        rw [k6,Bool.cond_false] at hfd
        refine vc_loop (α:=Nat) (fun i=>[(1,.va (.c1 (.fz (l.map inR)))),(3,.va (.c1 (.pt 0 0))),(5,.va (.c1 (.pt 1 0))),(7,iS .i64 i)]) (fun _=>[.cells (scC sc) 25,.cells (tyC (.mk k s n e)) 48])
          (fun i=>i<=sc.ss.length) (fun i=>sc.ss.length - i) 0 2 (Nat.zero_le _) ?_ ?_ ?_
        · simp -dsimp only [go_sem]<;>simp
        · simp -dsimp only [go_sem,scC,tyC,tysC_map]<;>simp
        intro i hi
        rcases Nat.lt_or_ge i sc.ss.length with hlt | hge
        · have hg:decide ((i:Int) < (sc.ss.length:Int))=true:=by simp; omega
          simp (maxSteps:=1000000) -dsimp only [go_sem,hg,scC,tyC,tysC_map,k6]
          and_intros
          all_goals first
            | omega
            | skip
          refine loop_next (i + 1) 2 (by omega) (by omega) ?_ ?_
          · simp -dsimp only [go_sem]<;>simp
          · simp -dsimp only [go_sem,scC,tyC,tysC_map]<;>simp
        · have hg:decide ((i:Int) < (sc.ss.length:Int))=false:=by simp; omega
          simp (maxSteps:=1000000) -dsimp only [go_sem,hg,scC,tyC,tysC_map]
          exact fin 0 _ hfd
      | true=>
        rw [k6,Bool.cond_true] at hfd
        refine vc_loop (α:=Nat) (fun i=>[(1,.va (.c1 (.fz (l.map inR)))),(3,.va (.c1 (.pt 0 0))),(5,.va (.c1 (.pt 1 0))),(7,iS .i64 i)]) (fun _=>[.cells (scC sc) 25,.cells (tyC (.mk k s n e)) 48])
          (fun i=>i<=sc.ss.length/\dIx (sc.ss.drop i) (l.drop i) n=dIx sc.ss l n) (fun i=>sc.ss.length - i) 0 2 ⟨Nat.zero_le _,rfl⟩ ?_ ?_ ?_
        · simp -dsimp only [go_sem]<;>simp
        · simp -dsimp only [go_sem,scC,tyC,tysC_map]<;>simp
        rintro i ⟨hi,ho⟩
        rcases Nat.lt_or_ge i sc.ss.length with hlt | hge
        · have hg:decide ((i:Int) < (sc.ss.length:Int))=true:=by simp; omega
          obtain ⟨t,hx⟩:∃ e,sc.ss[i]? = some e:=⟨_,List.getElem?_eq_getElem hlt⟩
          obtain ⟨d,hd⟩:∃ e,l[i]? = some e:=⟨_,List.getElem?_eq_getElem (by omega)⟩
          have q2:=row_rg' (row:=stC) hx
          have q3:=row_rg' (row:=inR) hd
          rw [dIx_step hx hd] at ho
          cases hc:decide (t.nm=n) with
          | true=>
            rw [hc,Bool.cond_true] at ho
            simp (maxSteps:=1000000) -dsimp only [go_sem,hg,↓q2,↓q3,stC,scC,tyC,tysC_map,bl_beq,hc,k6]
            and_intros
            all_goals first
              | omega
              | exact fin _ _ (by rw [hfd,<-ho])
          | false=>
            rw [hc,Bool.cond_false] at ho
            simp (maxSteps:=1000000) -dsimp only [go_sem,hg,↓q2,stC,scC,tyC,tysC_map,bl_beq,hc,k6]
            and_intros
            all_goals first
              | omega
              | skip
            refine loop_next (i + 1) 2 ⟨by omega,ho⟩ (by omega) ?_ ?_
            · simp -dsimp only [go_sem]<;>simp
            · simp -dsimp only [go_sem,scC,tyC,tysC_map]<;>simp
        · have hg:decide ((i:Int) < (sc.ss.length:Int))=false:=by simp; omega
          obtain rfl:i=sc.ss.length:=by omega
          rw [dIx_end] at ho
          simp (maxSteps:=1000000) -dsimp only [go_sem,hg,scC,tyC,tysC_map]
          exact fin 0 _ (by rw [hfd,<-ho])
def t0Pre:List S->Prop:=fun av=>match av with
  | [.va (.gs r),.va (.c1 (.fz ds)),.va (.gs q)]=>isScF r/\(isIn ds/\ds.length=(C.sc r).ss.length/\∀ d ∈ ds.map C.it,0<=d/\d<=1000000000000)/\isTy q/\(lvT (C.ty q)).1<=1000000000
  | _=>False
theorem t0Pre_open {av:List S} (h:t0Pre av):∃ (s:Sc) (l:List Int) (t:Ty),av=[.va (.gs (scC s)),.va (.c1 (.fz (l.map inR))),.va (.gs (tyC t))]/\s.fit/\(l.length=s.ss.length/\∀ d ∈ l,0<=d/\d<=1000000000000)/\TyOk t/\(lvT t).1<=1000000000:=by
  unfold t0Pre at h
  split at h
  · obtain ⟨⟨a,rfl,ha⟩,⟨⟨l,rfl⟩,h1,h2⟩,⟨b,rfl,hb⟩,h3⟩:=h
    rw [ty_dec] at h3
    rw [sc_dec] at h1
    rw [it_map] at h2
    exact ⟨a,l,b,rfl,ha,⟨by simpa using h1,h2⟩,hb,h3⟩
  · exact h.elim
noncomputable def t0Fn:Fun:=⟨t0Pre,tdVal,fun av h=>by obtain ⟨a,l,b,rfl,_⟩:=t0Pre_open h; trivial⟩
attribute [go_sem] t0Fn t0Pre
theorem mTypeDepth:Meets Tryz.prog 75 t0Fn.sp:=meets_all 0 mTypeDepth' fun av H K ⟨⟨h,e⟩,hK⟩=>by
  obtain ⟨a,l,b,rfl,ha,⟨h1,h2⟩,hb,h3⟩:=t0Pre_open h
  refine ⟨b.h,⟨⟨⟨isScF_mk ha,⟨⟨l,rfl⟩,by rw [sc_dec]; simpa using h1,by rw [it_map]; exact h2⟩,isTy_mk hb,by rw [ty_dec]; exact h3,by rw [ty_dec]; exact Nat.le_refl _⟩,e⟩,hK⟩⟩
end Go.Proofs.YtbolanmlngjdoaaGreat
namespace Go.Proofs.YtbolanmlngjdoaaGreat
open Go.W
theorem maxF_mono {dp dq:ByteArray->Int} {l:List Fl} (h:∀ f ∈ l,fdep dp f.ty<=fdep dq f.ty):maxF dp l<=maxF dq l:=maxF_le (maxF_nonneg _ _) fun f hf=>Int.le_trans (h f hf) (maxF_ge hf)
structure DI (ss:List St) (r i:Nat) (d:List Int):Prop where
  len:d.length=ss.length
  lo:∀ (j:Nat) (t:St) (v:Int),ss[j]? = some t->d[j]? = some v->0<=v/\v<=dD ss t.nm/\(rank ss t.nm < r->v=dD ss t.nm)/\(j < i->rank ss t.nm < r + 1->v=dD ss t.nm)
theorem DI.ix {ss:List St} {es:List En} (_g:Gd ss es) {r i:Nat} {d:List Int} (h:DI ss r i d) (n:ByteArray):0<=dIx ss d n/\dIx ss d n<=dD ss n/\((fS ss n).isSome=true->rank ss n < r->dIx ss d n=dD ss n):=by
  cases hf:fS ss n with
  | none=>
    rw [dIx_none hf]
    exact ⟨Int.le_refl _,dD_lo ss n,fun h=>by simp at h⟩
  | some u=>
    obtain ⟨j,h1,h2⟩:=dIx_some h.len.symm hf
    obtain ⟨a1,a2,a3,_⟩:=h.lo j u _ h1 h2
    obtain ⟨_,rfl⟩:=fS_mem hf
    exact ⟨a1,a2,fun _ h=>a3 h⟩
theorem DI.all {ss:List St} {es:List En} (g:Gd ss es) {r i:Nat} {d:List Int} (h:DI ss r i d):∀ v ∈ d,0<=v/\v<=1000000000000:=fun v hv=>by
  obtain ⟨j,hj⟩:=List.mem_iff_getElem?.1 hv
  have hl:=(List.getElem?_eq_some_iff.1 hj).1
  obtain ⟨t,ht⟩:∃ t,ss[j]? = some t:=⟨_,List.getElem?_eq_getElem (by have:=h.len; omega)⟩
  obtain ⟨h1,h2,_⟩:=h.lo j t v ht hj
  have:=dD_hi g t.nm
  omega
theorem DI.fd {ss:List St} {es:List En} (g:Gd ss es) {r i:Nat} {d:List Int} (h:DI ss r i d) (t:Ty):fdep (dIx ss d) t<=fdep (dD ss) t:=by
  unfold fdep
  have:=h.ix g (lvT t).2.n
  cases (lvT t).2.k == 6<;>simp only [Bool.cond_true,Bool.cond_false]<;>omega
theorem DI.set {ss:List St} {es:List En} (g:Gd ss es) (ha:Acy ss) {r i:Nat} {d:List Int} (h:DI ss r i d) {t:St} (ht:ss[i]? = some t):DI ss r (i + 1) (d.set i (1 + maxF (dIx ss d) t.fs)):=by
  have htm:=List.mem_of_getElem? ht
  have hD:=dD_eq g ha (g.nd t htm)
  have hle:maxF (dIx ss d) t.fs<=maxF (dD ss) t.fs:=maxF_mono fun f _=>h.fd g f.ty
  have heq:rank ss t.nm < r + 1->maxF (dIx ss d) t.fs=maxF (dD ss) t.fs:=fun hr=>maxF_congr fun f hf=>by
    unfold fdep
    cases hk:(lvT f.ty).2.k == 6 with
    | false=>rfl
    | true=>
      obtain ⟨h1,u,h2⟩:=str_ref g (g.nd t htm) hf hk
      have h3:=rank_lt h1 h2 ha
      rw [(h.ix g _).2.2 (by rw [h2]; rfl) (by omega)]
  have hn:=maxF_nonneg (dIx ss d) t.fs
  refine ⟨by rw [List.length_set]; exact h.len,fun j u v hu hv=>?_⟩
  rw [List.getElem?_set] at hv
  by_cases e:i=j
  · subst e
    rw [ht] at hu; obtain rfl:=Option.some.inj hu
    have hlt:i < d.length:=by have:=h.len; have:=(List.getElem?_eq_some_iff.1 ht).1; omega
    simp [hlt] at hv
    subst hv
    exact ⟨by omega,by omega,fun hr=>by rw [heq (by omega)]; omega,fun _ hr=>by rw [heq hr]; omega⟩
  · rw [if_neg e] at hv
    obtain ⟨a1,a2,a3,a4⟩:=h.lo j u v hu hv
    exact ⟨a1,a2,a3,fun hj hr=>a4 (by omega) hr⟩
theorem DI.up {ss:List St} {r:Nat} {d:List Int} (h:DI ss r ss.length d):DI ss (r + 1) 0 d:=⟨h.len,fun j t v ht hv=>by
  obtain ⟨a1,a2,_,a4⟩:=h.lo j t v ht hv
  exact ⟨a1,a2,fun hr=>a4 (List.getElem?_eq_some_iff.1 ht).1 hr,fun h=>absurd h (Nat.not_lt_zero _)⟩⟩
theorem DI.fin {ss:List St} {d:List Int} (h:DI ss (ss.length + 1) 0 d):d=ss.map fun t=>dD ss t.nm:=by
  refine List.ext_getElem? fun j=>?_
  rw [List.getElem?_map]
  cases ht:ss[j]? with
  | none=>
    rw [List.getElem?_eq_none_iff] at ht
    rw [List.getElem?_eq_none (by rw [h.len]; exact ht)]; rfl
  | some t=>
    obtain ⟨v,hv⟩:∃ v,d[j]? = some v:=⟨_,List.getElem?_eq_getElem (by rw [h.len]; exact (List.getElem?_eq_some_iff.1 ht).1)⟩
    obtain ⟨_,_,a3,_⟩:=h.lo j t v ht hv
    rw [hv,a3 (Nat.lt_succ_of_le (rank_le _ _))]; rfl
theorem DI.init (ss:List St):DI ss 0 0 (List.replicate ss.length 0):=⟨by simp,fun j t v ht hv=>by
  have:v=0:=by
    have:=List.mem_of_getElem? hv
    exact (List.mem_replicate.1 this).2
  subst this
  exact ⟨Int.le_refl _,dD_lo _ _,fun h=>absurd h (Nat.not_lt_zero _),fun h=>absurd h (Nat.not_lt_zero _)⟩⟩
def dsSp:W.Spec:=fun av H K=>∃ s:Sc,av=[.va (.gs (scC s))]/\H=[]/\s.fit/\Gd s.ss s.es/\Acy s.ss/\K (.va (.c1 (.fz ((s.ss.map fun t=>dD s.ss t.nm).map inR)))) []
theorem ds_use {s:Sc} {K:S->Hp->Prop} (h:s.fit) (g:Gd s.ss s.es) (ha:Acy s.ss) (hK:K (.va (.c1 (.fz ((s.ss.map fun t=>dD s.ss t.nm).map inR)))) []):dsSp [.va (.gs (scC s))] [] K:=⟨s,rfl,rfl,h,g,ha,hK⟩
theorem gF_take {D:ByteArray->Int} {l:List Fl} {i:Nat} {f:Fl} (hx:l[i]? = some f):(l.take (i + 1)).foldl (gF D) 0=max ((l.take i).foldl (gF D) 0) (fdep D f.ty):=by
  rw [take_next hx,List.foldl_append]; rfl
set_option maxRecDepth 100000 in
set_option maxHeartbeats 4000000 in
theorem mDepths:Meets Tryz.prog 37 dsSp:=by
  refine meets_fn Tryz.func37 ok37 1 (by rw [Tryz.ntmps37]; decide) (meetsAll_f mTypeDepth (meetsAll_nil _)) (fun av H K h=>by obtain ⟨_,rfl,_⟩:=h; rfl) ?_
  rintro av H K ⟨s,rfl,rfl,hs,g,ha,hK⟩
  have hls:=g.n
  simp (maxSteps:=1000000) -dsimp only [go_sem,scC,pc37,rs37]
  refine ⟨⟨by omega,by omega,by omega⟩,fun h0=>?_,fun h0=>?_⟩
  · have hnil:s.ss=[]:=List.length_eq_zero_iff.1 (by omega)
    have hlen:s.ss.length=0:=by omega
    rw [hnil] at hK
    refine vc_loop (α:=Nat) (fun i=>[(1,.va (.c1 (.pt 0 0))),(3,.va (.c1 (.fz []))),(4,iS .i64 i)]) (fun _=>[.cells (scC s) 25])
      (fun i=>i<=1) (fun i=>1 - i) 0 1 (Nat.zero_le _) ?_ ?_ ?_
    · simp -dsimp only [go_sem]<;>simp
    · simp -dsimp only [go_sem,scC]<;>simp
    intro i hi
    rcases Nat.eq_zero_or_pos i with h1 | h1
    · have hg:decide ((i:Int)<=(s.ss.length:Int))=true:=by simp; omega
      simp (maxSteps:=1000000) -dsimp only [go_sem,hg,scC]
      refine vc_loop (α:=Unit) (fun _=>[(1,.va (.c1 (.pt 0 0))),(3,.va (.c1 (.fz []))),(4,iS .i64 i),(5,iS .i64 0)]) (fun _=>[.cells (scC s) 25])
        (fun _=>True) (fun _=>0) () 1 trivial ?_ ?_ ?_
      · simp -dsimp only [go_sem]<;>simp
      · simp -dsimp only [go_sem,scC]<;>simp
      intro _ _
      have hg:decide ((0:Int) < (s.ss.length:Int))=false:=by simp; omega
      simp (maxSteps:=1000000) -dsimp only [go_sem,hg,scC]
      refine ⟨by omega,loop_next (i + 1) 1 (by omega) (by omega) ?_ ?_⟩
      · simp -dsimp only [go_sem]<;>simp
      · simp -dsimp only [go_sem,scC]<;>simp
    · have hg:decide ((i:Int)<=(s.ss.length:Int))=false:=by simp; omega
      simp (maxSteps:=1000000) -dsimp only [go_sem,hg,scC]
      exact .sel [] (by simp) (by simp) rfl (.done (by simpa [go_sem] using hK))
  · have hsf:=isScF_mk hs
    rw [scC] at hsf
    have hsd:=sc_dec s
    rw [scC] at hsd
    refine vc_loop (α:=Nat × List Int) (fun z=>[(1,.va (.c1 (.pt 0 0))),(3,.va (.c1 (.sl 1 s.ss.length))),(4,iS .i64 z.1)]) (fun z=>[.cells (scC s) 25,.row (z.2.map inR) 3 1])
      (fun z=>z.1<=s.ss.length + 1/\DI s.ss z.1 0 z.2) (fun z=>s.ss.length + 1 - z.1) (0,List.replicate s.ss.length 0) 2 ⟨Nat.zero_le _,DI.init _⟩ ?_ ?_ ?_
    · simp -dsimp only [go_sem]<;>simp
    · simp -dsimp only [go_sem,scC]<;>simp
    rintro ⟨r,d⟩ ⟨hr,hd⟩
    simp only at hr hd ⊢
    rcases Nat.lt_or_ge r (s.ss.length + 1) with hlt | hge
    · have hg:decide ((r:Int)<=(s.ss.length:Int))=true:=by simp; omega
      simp (maxSteps:=1000000) -dsimp only [go_sem,hg,scC]
      refine vc_loop (α:=Nat × List Int) (fun z=>[(1,.va (.c1 (.pt 0 0))),(3,.va (.c1 (.sl 1 s.ss.length))),(4,iS .i64 r),(5,iS .i64 z.1)]) (fun z=>[.cells (scC s) 25,.row (z.2.map inR) 3 1])
        (fun z=>z.1<=s.ss.length/\DI s.ss r z.1 z.2) (fun z=>s.ss.length - z.1) (0,d) 2 ⟨Nat.zero_le _,hd⟩ ?_ ?_ ?_
      · simp -dsimp only [go_sem]<;>simp
      · simp -dsimp only [go_sem,scC]<;>simp
      clear hd hg
      rintro ⟨i,d⟩ ⟨hi,hd⟩
      simp only at hi hd ⊢
      rcases Nat.lt_or_ge i s.ss.length with hit | hig
      · have hg:decide ((i:Int) < (s.ss.length:Int))=true:=by simp; omega
        obtain ⟨t,hx⟩:∃ e,s.ss[i]? = some e:=⟨_,List.getElem?_eq_getElem hit⟩
        have htm:=List.mem_of_getElem? hx
        obtain ⟨_,htl,hfs⟩:=hs.ok.ss t htm
        have q1:=row_rg' (row:=stC) hx
        have hset:=hd.set g ha hx
        have hmx:maxF (dIx s.ss d) t.fs<=1000000000000:=by
          have h1:=maxF_mono (l:=t.fs) fun f _=>hd.fd g f.ty
          have h2:=dD_eq g ha (g.nd t htm)
          have h3:=dD_hi g t.nm
          omega
        simp (maxSteps:=1000000) -dsimp only [go_sem,hg,scC]
        refine vc_loop (α:=Nat) (fun k=>[(1,.va (.c1 (.pt 0 0))),(3,.va (.c1 (.sl 1 s.ss.length))),(4,iS .i64 r),(5,iS .i64 i),(6,iS .i64 ((t.fs.take k).foldl (gF (dIx s.ss d)) 0)),(7,iS .i64 k)]) (fun _=>[.cells (scC s) 25,.row (d.map inR) 3 1])
          (fun k=>k<=t.fs.length) (fun k=>t.fs.length - k) 0 2 (Nat.zero_le _) ?_ ?_ ?_
        · simp -dsimp only [go_sem]<;>simp
        · simp -dsimp only [go_sem,scC]<;>simp
        intro k hk
        rcases Nat.lt_or_ge k t.fs.length with hkt | hkg
        · have hg:decide ((k:Int) < (t.fs.length:Int))=true:=by simp; omega
          obtain ⟨f,hf⟩:∃ e,t.fs[k]? = some e:=⟨_,List.getElem?_eq_getElem hkt⟩
          have hfm:=List.mem_of_getElem? hf
          have q2:=row_rg' (row:=flC) hf
          have hity:isTy (tyC f.ty):=isTy_mk (hfs f hfm).ty
          have hlv:((lvT f.ty).1<=1000000000)=True:=eq_true (g.lv t htm f hfm)
          have hin:isIn (d.map inR):=⟨d,rfl⟩
          have hdl:d.length=s.ss.length:=hd.len
          have hall:(∀ v:Int,v ∈ d->0<=v/\v<=1000000000000)=True:=eq_true (hd.all g)
          simp (maxSteps:=1000000) -dsimp only [go_sem,hg,↓q1,stC,scC]
          simp (maxSteps:=1000000) -dsimp only [go_sem,flC,fl_ty,hsf,hsd,hity,hlv,hin,hall,hdl,hf,Option.some.injEq,forall_eq']
          refine ⟨by omega,by omega,by omega,by omega,loop_next (k + 1) 2 (by omega) (by omega) ?_ ?_⟩
          · simp -dsimp only [go_sem,gF_take hf]<;>simp
          · simp -dsimp only [go_sem,scC]<;>simp
        · have hg:decide ((k:Int) < (t.fs.length:Int))=false:=by simp; omega
          obtain rfl:k=t.fs.length:=by omega
          have hmx2:t.fs.foldl (gF (dIx s.ss d)) 0=maxF (dIx s.ss d) t.fs:=rfl
          rw [List.take_length,hmx2]
          have hn0:=maxF_nonneg (dIx s.ss d) t.fs
          have hdl:d.length=s.ss.length:=hd.len
          obtain ⟨v0,hv0⟩:∃ e,d[i]? = some e:=⟨_,List.getElem?_eq_getElem (by omega)⟩
          simp (maxSteps:=1000000) -dsimp only [go_sem,hg,↓q1,stC,scC]
          simp (maxSteps:=1000000) -dsimp only [go_sem,hv0,Option.some.injEq,forall_eq']
          refine ⟨by omega,by omega,⟨by omega,hdl⟩,⟨hdl,by omega⟩,by omega,loop_next (i + 1,d.set i (1 + maxF (dIx s.ss d) t.fs)) 2 ⟨by simp only; omega,hset⟩ (by simp only; omega) ?_ ?_⟩
          · simp -dsimp only [go_sem]<;>simp
          · simp -dsimp only [go_sem,scC]<;>simp [List.map_set]
      · have hg:decide ((i:Int) < (s.ss.length:Int))=false:=by simp; omega
        obtain rfl:i=s.ss.length:=by omega
        simp (maxSteps:=1000000) -dsimp only [go_sem,hg,scC]
        refine ⟨by omega,loop_next (r + 1,d) 2 ⟨by simp only; omega,hd.up⟩ (by simp only; omega) ?_ ?_⟩
        · simp -dsimp only [go_sem]<;>simp
        · simp -dsimp only [go_sem,scC]<;>simp
    · have hg:decide ((r:Int)<=(s.ss.length:Int))=false:=by simp; omega
      obtain rfl:r=s.ss.length + 1:=by omega
      have hfin:=hd.fin
      rw [<-hfin] at hK
      simp (maxSteps:=1000000) -dsimp only [go_sem,hg,scC]
      have e1:s.ss.length=(d.map inR).length:=by rw [List.length_map]; exact hd.len.symm
      rw [e1]
      refine .pub 1 _ _ _ rfl (.sel [] (by simp) (by simp [pubH]) rfl (.done ?_))
      simp -dsimp only [go_sem,pubH]
      simpa using hK
end Go.Proofs.YtbolanmlngjdoaaGreat
namespace Go.Proofs.YtbolanmlngjdoaaGreat
open Go.W
set_option maxRecDepth 100000 in
set_option maxHeartbeats 4000000 in
theorem mRCheck:Meets Tryz.prog 11 ckFn.sp:=by
  refine meets_fn Tryz.func11 ok11 1 (by rw [Tryz.ntmps11]; decide) (meetsAll_f mRLong (meetsAll_f mREnumE (meetsAll_f mRStructE (meetsAll_s mUsed (meetsAll_f mRIn (meetsAll_s mDepths (meetsAll_nil _))))))) gFn_len ?_
  rintro av H K ⟨⟨h,rfl⟩,hK⟩
  obtain ⟨_,rfl,s,rfl,hs⟩:=gPre_open h
  have hK:K (iS .i64 (checkF s)) []:=by
    have:ckFn.val [.va (.gs (scC s))]=iA .i64 (checkF s):=by simp -dsimp only [go_sem]
    rw [this] at hK; exact hK
  clear h
  have hfit:=hs
  have hsc:isSc (scC s):=isSc_mk hs.ok
  have hsf:isScF (scC s):=isScF_mk hs
  obtain ⟨⟨hv,hle,hls,hes,hss⟩,hlv,_,_⟩:=hs
  have fin:∀ (x:Int) (R:Hp),checkF s=x->W.Fin 0 K (iS .i64 x) R:=fun x R h1=>by
    rw [h1] at hK
    exact .sel [] (by simp) (by simp) rfl (.done (by simpa [go_sem] using hK))
  have hsc':=hsc
  have hsf':=hsf
  simp only [scC] at hsc' hsf'
  have hdec:C.sc [.vl (.int .i64 s.ver),.fz (s.es.map enC),.fz (s.ss.map stC)]=s:=sc_dec s
  simp (maxSteps:=1000000) -dsimp only [go_sem,scC,pc11,rs11,hsc',hdec]
  refine ⟨fun h1=>fin 4 _ (by unfold checkF; rw [h1]; rfl),fun c1=>⟨fun h1=>fin 3 _ (by unfold checkF; rw [c1,h1]; rfl),fun c2=>?_⟩⟩
  have hF:checkF s=bif enF s != 0 then enF s else bif stF s != 0 then stF s else nestF s.ss:=by unfold checkF; rw [c1,c2]; rfl
  refine vc_loop (α:=Nat) (fun i=>[(1,.va (.c1 (.pt 0 0))),(3,iS .i64 i)]) (fun _=>[.cells (scC s) 25])
    (fun i=>i<=s.es.length/\fE (enAt s) (s.es.length - i) i=enF s) (fun i=>s.es.length - i) 0 1 ⟨Nat.zero_le _,rfl⟩ ?_ ?_ ?_
  · simp -dsimp only [go_sem]<;>simp
  · simp -dsimp only [go_sem,scC]<;>simp
  rintro i ⟨hi,ho⟩
  rcases Nat.lt_or_ge i s.es.length with hlt | hge
  · have hg:decide ((i:Int) < (s.es.length:Int))=true:=by simp; omega
    have fin':∀ (x:Int) (R:Hp),enAt s i=x->x ≠ 0->W.Fin 0 K (iS .i64 x) R:=fun x R h1 h2=>fin x R (by
      rw [hF,<-ho,fE_err hlt (by rw [h1]; exact h2),h1]; exact cond_err h2)
    have nxt:enAt s i=0->fE (enAt s) (s.es.length - (i + 1)) (i + 1)=enF s:=fun h1=>by rw [<-ho,fE_ok hlt h1]
    simp (maxSteps:=1000000) -dsimp only [go_sem,hg,scC,hsf',hdec,Int.toNat_natCast]
    refine ⟨⟨by omega,by omega⟩,fun h1=>fin' _ _ rfl (by simpa using h1),fun h1=>?_⟩
    refine ⟨by omega,loop_next (i + 1) 1 ⟨by omega,nxt (by simpa using h1)⟩ (by omega) ?_ ?_⟩
    · simp -dsimp only [go_sem]<;>simp
    · simp -dsimp only [go_sem,scC]<;>simp
  · have hg:decide ((i:Int) < (s.es.length:Int))=false:=by simp; omega
    obtain rfl:i=s.es.length:=by omega
    rw [fE_end] at ho
    rw [cond_ok ho.symm] at hF
    simp (maxSteps:=1000000) -dsimp only [go_sem,hg,scC]
    clear hi hge hg ho
    refine vc_loop (α:=Nat) (fun i=>[(1,.va (.c1 (.pt 0 0))),(5,iS .i64 i)]) (fun _=>[.cells (scC s) 25])
      (fun i=>i<=s.ss.length/\fE (stAt s) (s.ss.length - i) i=stF s) (fun i=>s.ss.length - i) 0 1 ⟨Nat.zero_le _,rfl⟩ ?_ ?_ ?_
    · simp -dsimp only [go_sem]<;>simp
    · simp -dsimp only [go_sem,scC]<;>simp
    rintro i ⟨hi,ho⟩
    rcases Nat.lt_or_ge i s.ss.length with hlt | hge
    · have hg:decide ((i:Int) < (s.ss.length:Int))=true:=by simp; omega
      have fin':∀ (x:Int) (R:Hp),stAt s i=x->x ≠ 0->W.Fin 0 K (iS .i64 x) R:=fun x R h1 h2=>fin x R (by
        rw [hF,<-ho,fE_err hlt (by rw [h1]; exact h2),h1]; exact cond_err h2)
      have nxt:stAt s i=0->fE (stAt s) (s.ss.length - (i + 1)) (i + 1)=stF s:=fun h1=>by rw [<-ho,fE_ok hlt h1]
      simp (maxSteps:=1000000) -dsimp only [go_sem,hg,scC,hsf',hdec,Int.toNat_natCast]
      refine ⟨⟨by omega,by omega⟩,fun h1=>fin' _ _ rfl (by simpa using h1),fun h1=>?_⟩
      refine ⟨by omega,loop_next (i + 1) 1 ⟨by omega,nxt (by simpa using h1)⟩ (by omega) ?_ ?_⟩
      · simp -dsimp only [go_sem]<;>simp
      · simp -dsimp only [go_sem,scC]<;>simp
    · have hg:decide ((i:Int) < (s.ss.length:Int))=false:=by simp; omega
      obtain rfl:i=s.ss.length:=by omega
      rw [fE_end] at ho
      rw [cond_ok ho.symm] at hF
      have g:=good_of hfit c2 ho.symm
      simp (maxSteps:=1000000) -dsimp only [go_sem,hg,scC]
      clear hi hge hg ho
      refine vc_loop (α:=Nat) (fun i=>[(1,.va (.c1 (.pt 0 0))),(7,iS .i64 i)]) (fun _=>[.cells (scC s) 25])
        (fun i=>i<=s.ss.length/\(s.ss.drop i).any (fun t=>inB (usesF s.ss t.nm) t.nm)=s.ss.any (fun t=>inB (usesF s.ss t.nm) t.nm)) (fun i=>s.ss.length - i) 0 1 ⟨Nat.zero_le _,rfl⟩ ?_ ?_ ?_
      · simp -dsimp only [go_sem]<;>simp
      · simp -dsimp only [go_sem,scC]<;>simp
      rintro i ⟨hi,ho⟩
      rcases Nat.lt_or_ge i s.ss.length with hlt | hge
      · have hg:decide ((i:Int) < (s.ss.length:Int))=true:=by simp; omega
        obtain ⟨t,hx⟩:∃ t,s.ss[i]? = some t:=⟨_,List.getElem?_eq_getElem hlt⟩
        have q1:=row_rg' (row:=stC) hx
        rw [any_step hx] at ho
        have hv:=g.vlen t.nm
        have hul:=usesF_len s.ss t.nm
        have hbs:isBs ((usesF s.ss t.nm).map stR):=isBs_mk (by rw [usesF_len]; omega)
        have e0:(0<=((usesF s.ss t.nm).length:Int))=True:=by simp
        have e1:(((usesF s.ss t.nm).length:Int)<=9223372036854775807)=True:=by rw [hul]; exact eq_true (by omega)
        have hto:(usesF s.ss t.nm).take (usesF s.ss t.nm).length=usesF s.ss t.nm:=List.take_length
        simp (maxSteps:=1000000) -dsimp only [go_sem,hg,↓q1,stC,scC]
        refine ⟨by omega,ud_use hfit g ?_⟩
        simp (maxSteps:=1000000) -dsimp only [go_sem,hbs,e0,e1,Int.toNat_natCast,hto]
        refine ⟨by omega,fun hc=>?_,fun hc=>?_⟩
        · rw [hc,Bool.true_or] at ho
          exact fin 19 _ (by rw [hF]; unfold nestF; rw [<-ho]; rfl)
        · rw [hc,Bool.false_or] at ho
          refine ⟨by omega,loop_next (i + 1) 1 ⟨by omega,ho⟩ (by omega) ?_ ?_⟩
          · simp -dsimp only [go_sem]<;>simp
          · simp -dsimp only [go_sem,scC]<;>simp
      · have hg:decide ((i:Int) < (s.ss.length:Int))=false:=by simp; omega
        obtain rfl:i=s.ss.length:=by omega
        rw [any_end] at ho
        have ha:Acy s.ss:=fun t ht=>any_false ho.symm t ht
        have hF2:checkF s=bif s.ss.any (fun t=>decide (6 < dD s.ss t.nm)) then 9 else 0:=by rw [hF]; unfold nestF; rw [<-ho]; rfl
        simp (maxSteps:=1000000) -dsimp only [go_sem,hg,scC]
        refine ds_use hfit g ha ?_
        simp (maxSteps:=1000000) -dsimp only [go_sem]
        clear hi hge hg ho
        refine vc_loop (α:=Nat) (fun i=>[(9,.va (.c1 (.fz ((s.ss.map fun t=>dD s.ss t.nm).map inR)))),(10,iS .i64 i)]) (fun _=>[.cells (scC s) 25])
          (fun i=>i<=s.ss.length/\(s.ss.drop i).any (fun t=>decide (6 < dD s.ss t.nm))=s.ss.any (fun t=>decide (6 < dD s.ss t.nm))) (fun i=>s.ss.length - i) 0 1 ⟨Nat.zero_le _,rfl⟩ ?_ ?_ ?_
        · simp -dsimp only [go_sem]<;>simp
        · simp -dsimp only [go_sem,scC]<;>simp
        rintro i ⟨hi,ho⟩
        rcases Nat.lt_or_ge i s.ss.length with hlt | hge
        · have hg:decide ((i:Int) < (s.ss.length:Int))=true:=by simp; omega
          obtain ⟨t,hx⟩:∃ t,s.ss[i]? = some t:=⟨_,List.getElem?_eq_getElem hlt⟩
          have hd:(s.ss.map fun t=>dD s.ss t.nm)[i]? = some (dD s.ss t.nm):=by rw [List.getElem?_map,hx]; rfl
          have q1:=row_rg' (row:=inR) hd
          have hml:(s.ss.map fun t=>dD s.ss t.nm).length=s.ss.length:=by simp
          rw [any_step hx] at ho
          generalize (s.ss.map fun t=>dD s.ss t.nm)=ds at *
          simp (maxSteps:=1000000) -dsimp only [go_sem,hml,hg,↓q1,scC]
          refine ⟨by omega,fun hc=>?_,fun hc=>?_⟩
          · rw [hc,Bool.true_or] at ho
            exact fin 9 _ (by rw [hF2,<-ho]; rfl)
          · rw [hc,Bool.false_or] at ho
            refine ⟨by omega,loop_next (i + 1) 1 ⟨by omega,ho⟩ (by omega) ?_ ?_⟩
            · simp -dsimp only [go_sem]<;>simp
            · simp -dsimp only [go_sem,scC]<;>simp
        · have hg:decide ((i:Int) < (s.ss.length:Int))=false:=by simp; omega
          obtain rfl:i=s.ss.length:=by omega
          rw [any_end] at ho
          have hml:(s.ss.map fun t=>dD s.ss t.nm).length=s.ss.length:=by simp
          generalize (s.ss.map fun t=>dD s.ss t.nm)=ds at *
          simp (maxSteps:=1000000) -dsimp only [go_sem,hml,hg,scC]
          exact fin 0 _ (by rw [hF2,<-ho]; rfl)
end Go.Proofs.YtbolanmlngjdoaaGreat
namespace Go.Proofs.YtbolanmlngjdoaaGreat
open Go.W
theorem okS_true {s:Sc} {n:ByteArray} (h:okS s n=true):checkF s=0/\hasS s.ss n=true:=by
  unfold okS at h; simpa using h
theorem hasS_some {ss:List St} {n:ByteArray} (h:hasS ss n=true):∃ t,fS ss n=some t:=by
  rw [<-fS_has] at h; exact Option.isSome_iff_exists.1 h
end Go.Proofs.YtbolanmlngjdoaaGreat
namespace Go.Proofs.YtbolanmlngjdoaaGreat
open Go.W
theorem usL_len {s:Sc} (h:s.fit) (n:ByteArray):(usL s n).length<=32:=by
  unfold usL
  cases hok:okS s n with
  | false=>exact Nat.zero_le _
  | true=>
    have:=(check_good h (okS_true hok).1).1.vlen n
    rw [Bool.cond_true,usesF_len]; exact this
theorem usL_bs {s:Sc} (h:s.fit) (n:ByteArray):isBs ((usL s n).map stR):=isBs_mk (by have:=usL_len h n; omega)
theorem cf_next {ss:List St} {es:List En} {t:St} (h:cfF ss es t=0) {i:Nat} {f g:Fl} (hf:t.fs[i]? = some f) (hg:t.fs[i + 1]? = some g):f.num < g.num:=by
  have:=fE_zero h (i + 1) (List.getElem?_eq_some_iff.1 hg).1
  unfold cfAt at this
  rw [hg] at this
  simp only [Nat.add_sub_cancel,hf] at this
  cases c1:decide (g.num < 1) || decide (127 < g.num) with
  | true=>rw [c1] at this; simp at this
  | false=>
  rw [c1] at this
  simp only [Bool.cond_false] at this
  have c0:decide (0 < ((i + 1:Nat):Int))=true:=decide_eq_true (by omega)
  rw [c0,Bool.true_and] at this
  by_cases c2:g.num<=f.num
  · rw [decide_eq_true c2] at this; simp at this
  · omega
theorem cf_asc {ss:List St} {es:List En} {t:St} (h:cfF ss es t=0):t.fs.Pairwise fun f g=>f.num < g.num:=by
  rw [List.pairwise_iff_getElem]
  have key:∀ d i (hi:i < t.fs.length) (hj:i + d + 1 < t.fs.length),t.fs[i].num < t.fs[i + d + 1].num:=by
    intro d
    induction d with
    | zero=>intro i hi hj; exact cf_next h (List.getElem?_eq_getElem hi) (List.getElem?_eq_getElem hj)
    | succ d ih=>
      intro i hi hj
      have h1:=ih i hi (by omega)
      have h2:=cf_next h (List.getElem?_eq_getElem (show i + d + 1 < t.fs.length by omega)) (List.getElem?_eq_getElem (show i + d + 1 + 1 < t.fs.length by omega))
      have:i + (d + 1) + 1=i + d + 1 + 1:=by omega
      simp only [this]
      omega
  intro i j hi hj hij
  obtain ⟨d,rfl⟩:∃ d,j=i + d + 1:=⟨j - i - 1,by omega⟩
  exact key d i hi hj
theorem fF_of_asc:∀ {l:List Fl},l.Pairwise (fun f g=>f.num < g.num)->∀ {f:Fl},f ∈ l->fF l f.num=some f
  | [],_,f,h=>by cases h
  | x :: l,h,f,hf=>by
    obtain ⟨h1,h2⟩:=List.pairwise_cons.1 h
    unfold fF
    rw [List.find?_cons]
    rcases List.mem_cons.1 hf with rfl | hf
    · simp
    · have:decide (x.num=f.num)=false:=by have:=h1 f hf; simp; omega
      rw [this]
      exact fF_of_asc h2 hf
theorem fF_some {l:List Fl} {k:Int} {f:Fl} (h:fF l k=some f):f ∈ l/\f.num=k:=by
  refine ⟨List.mem_of_find?_eq_some h,?_⟩
  have:=List.find?_some h
  simpa using this
theorem str_good {s:Sc} (hf:s.fit) (h:checkF s=0) {n:ByteArray} (hn:hasS s.ss n=true):∃ t,fS s.ss n=some t/\t ∈ s.ss/\t.nm=n/\t.fs.length<=16/\(∀ f ∈ t.fs,(1<=f.num/\f.num<=127)/\fF t.fs f.num=some f):=by
  obtain ⟨_,_,_,h2,hl,_⟩:=check_good hf h
  obtain ⟨t,ht⟩:=hasS_some hn
  obtain ⟨htm,hnm⟩:=fS_mem ht
  obtain ⟨i,hi⟩:=List.mem_iff_getElem?.1 htm
  have hc:=(st_zero hi (fE_zero h2 i (List.getElem?_eq_some_iff.1 hi).1)).2
  exact ⟨t,ht,htm,hnm,(large_false hl).2.2.2 t htm,fun f hm=>⟨(cf_zero hc f hm).1,fF_of_asc (cf_asc hc) hm⟩⟩
theorem enu_good {s:Sc} (hf:s.fit) (h:checkF s=0) {n:ByteArray} {e:En} (he:fEn s.es n=some e):e.vs.length=e.ns.length/\e.ns.length<=16:=by
  obtain ⟨_,_,h1,_,hl,_⟩:=check_good hf h
  obtain ⟨hem,_⟩:=fEn_mem he
  obtain ⟨i,hi⟩:=List.mem_iff_getElem?.1 hem
  have hc:=(en_zero hi (fE_zero h1 i (List.getElem?_eq_some_iff.1 hi).1)).2.2
  unfold ceF at hc
  cases c:decide (e.ns.length=0) || decide (e.ns.length ≠ e.vs.length) with
  | true=>rw [c] at hc; simp at hc
  | false=>
    simp at c
    exact ⟨c.2.symm,(large_false hl).2.2.1 e hem⟩
theorem enu_vs {s:Sc} (hf:s.fit) (h:checkF s=0) {n:ByteArray} {e:En} (he:fEn s.es n=some e):∀ v ∈ e.vs,0<=v/\v<=127:=by
  intro v hv
  have hl:=enu_good hf h he
  obtain ⟨_,_,h1,_,_,_⟩:=check_good hf h
  obtain ⟨hem,_⟩:=fEn_mem he
  obtain ⟨i,hi⟩:=List.mem_iff_getElem?.1 hem
  have hc:=(en_zero hi (fE_zero h1 i (List.getElem?_eq_some_iff.1 hi).1)).2.2
  unfold ceF at hc
  cases c:decide (e.ns.length=0) || decide (e.ns.length ≠ e.vs.length) with
  | true=>rw [c] at hc; simp at hc
  | false=>
    rw [c,Bool.cond_false] at hc
    obtain ⟨k,hk⟩:=List.mem_iff_getElem?.1 hv
    have hkl:=(List.getElem?_eq_some_iff.1 hk).1
    have hz:=fE_zero (f:=ceAt e) (m:=e.ns.length) hc k (by omega)
    have hn:e.ns[k]? = some e.ns[k]:=List.getElem?_eq_getElem (by omega)
    unfold ceAt at hz
    rw [hk,hn] at hz
    simp only at hz
    cases d1:isNm (bl e.ns[k]) with
    | false=>rw [d1] at hz; simp at hz
    | true=>
    rw [d1] at hz
    cases d2:inB (e.ns.take k) e.ns[k] with
    | true=>rw [d2] at hz; simp at hz
    | false=>
    rw [d2] at hz
    cases d3:decide (v < 0) || decide (127 < v) with
    | true=>rw [d3] at hz; simp at hz
    | false=>
      simp only [Bool.or_eq_false_iff,decide_eq_false_iff_not] at d3
      omega
noncomputable def isA (nm:ByteArray) (b:St) (f:Fl):List Is:=match fF b.fs f.num with
  | none=>bif f.opt then [] else [⟨2,f.num,nm⟩]
  | some g=>(bif widF f.ty g.ty then [] else [⟨1,f.num,nm⟩]) ++ (bif f.opt == g.opt then [] else [⟨3,f.num,nm⟩])
def isB (nm:ByteArray) (a:St) (g:Fl):List Is:=bif (fF a.fs g.num).isNone && !g.opt then [⟨2,g.num,nm⟩] else []
noncomputable def cmpS (nm:ByteArray) (a b:St):List Is:=a.fs.flatMap (isA nm b) ++ b.fs.flatMap (isB nm a)
def cmpV (nm:ByteArray) (vs:List Int) (e:En):List Is:=(vs.filter fun v=>!(e.vs.any fun w=>decide (v=w))).map fun v=>⟨4,v,nm⟩
def cmpE (nm:ByteArray) (d e:En):List Is:=cmpV nm d.vs e
noncomputable def cmpN (o n:Sc) (x:ByteArray):List Is:=bif hasS o.ss x != hasS n.ss x then [⟨5,0,x⟩] else
  (bif hasS o.ss x then cmpS x ((fS o.ss x).getD default) ((fS n.ss x).getD default) else []) ++ (bif hasE o.es x && hasE n.es x then cmpE x ((fEn o.es x).getD default) ((fEn n.es x).getD default) else [])
def nmsF (o n:Sc) (x:ByteArray):List ByteArray:=x :: (usL o x).filter (inB (usL n x))
noncomputable def rawI (o n:Sc) (x:ByteArray):List Is:=(nmsF o n x).flatMap (cmpN o n)
noncomputable def issF (o n:Sc) (x:ByteArray):List Is:=bif (checkF o != 0) || (checkF n != 0) then [] else putA [] (rawI o n x)
noncomputable def coF (o n:Sc) (x:ByteArray):Bool:=bif (checkF o != 0) || (checkF n != 0) then false else hasS o.ss x && hasS n.ss x && (((issF o n x).length:Int) == 0)
theorem ascI_nil:AscI []:=.nil
theorem iss_sorted {raw l':List Is} (hp:l'.Perm (addA [] raw)) (hs:l'.Pairwise fun a b=>ltIB b a=false):l'=putA [] raw:=by
  refine ascI_ext (ascI_of hp (addA_nd .nil) hs) (putA_asc ascI_nil) fun x=>?_
  rw [hp.mem_iff,addA_mem,putA_mem]
theorem fm_le {α β:Type} {f:α->List β} {k:Nat}:∀ {l:List α},(∀ a ∈ l,(f a).length<=k)->(l.flatMap f).length<=l.length * k
  | [],_=>by simp
  | x :: l,h=>by
    have h1:=fm_le fun a ha=>h a (List.mem_cons_of_mem _ ha)
    have h2:=h x List.mem_cons_self
    rw [List.flatMap_cons,List.length_append,List.length_cons,Nat.succ_mul]; omega
theorem isA_len (nm:ByteArray) (b:St) (f:Fl):(isA nm b f).length<=2:=by
  unfold isA
  split
  · cases f.opt<;>simp
  · rename_i g _
    cases widF f.ty g.ty<;>cases (f.opt == g.opt)<;>simp
theorem isB_len (nm:ByteArray) (b:St) (f:Fl):(isB nm b f).length<=1:=by
  unfold isB
  cases (fF b.fs f.num).isNone && !f.opt<;>simp
end Go.Proofs.YtbolanmlngjdoaaGreat
namespace Go.Proofs.YtbolanmlngjdoaaGreat
open Go.W
def pcM38:PC:=.seq (.reg [⟨some 2,none,.e (.bx 25 (.t 0))⟩,⟨some 3,none,.e (.bx 25 (.t 1))⟩,⟨some 4,none,.q (.mv (.k (.bool false)))⟩]) (.seq (.seq (.reg [⟨some 9,none,.q (.fa 2 (.t 2))⟩,⟨some 10,none,.l (.ld1 (.t 9))⟩,⟨some 11,none,.q (.lnL (.t 10))⟩,⟨some 12,none,.q (.mv (.k (.int .i64 0)))⟩]) (.block 0 (.loop (.seq (.reg [⟨some 13,none,.q (.bin .lss true (.t 12) (.t 11))⟩]) (.seq (.cond (.t 13) .skip (.exit 0)) (.seq (.block 1 (.seq (.reg [⟨some 14,none,.l (.ia 2 (.t 10) (.t 12))⟩,⟨some 15,none,.l (.ldn 2 (.t 14))⟩,⟨some 6,none,.e (.al (.agg #[(.string (mk [])),(.slice none 0 0)]) 37)⟩,⟨none,none,.e (.st 2 (.t 6) (.t 15))⟩]) (.seq (.reg [⟨some 17,none,.l (.ldn 3 (.t 3))⟩,⟨some 18,none,.q (.fa 0 (.t 6))⟩,⟨some 19,none,.l (.ld1 (.t 18))⟩,⟨some 20,none,.cl 23 [(.t 17),(.t 19)] []⟩,⟨some 16,none,.q (.mv (.t 20))⟩,⟨some 21,none,.q (.ex (.t 16) 0)⟩,⟨some 22,none,.q (.ex (.t 16) 1)⟩,⟨some 7,none,.e (.al (.agg #[(.string (mk [])),(.slice none 0 0),(.slice none 0 0)]) 60)⟩,⟨none,none,.e (.st 3 (.t 7) (.t 21))⟩,⟨some 8,none,.q (.mv (.t 22))⟩]) (.seq (.reg [⟨some 23,none,.q (.mv (.t 8))⟩]) (.cond (.t 23) (.seq (.reg [⟨some 4,none,.q (.mv (.k (.bool true)))⟩]) .ret) .skip))))) (.reg [⟨some 24,none,.q (.bin .add true (.t 12) (.k (.int .i64 1)))⟩,⟨some 12,none,.q (.mv (.t 24))⟩]))))))) (.seq (.reg [⟨some 4,none,.q (.mv (.k (.bool false)))⟩]) .ret))
def rsM38:List RV:=[.mv (.t 4)]
theorem okM38:trFn Tryz.prog true ⟨fun _ _=>.own [],fun _=>false⟩ Tryz.f38=some (pcM38,rsM38):=by kernel_rfl
def pcM39:PC:=.seq (.reg [⟨some 2,none,.e (.bx 60 (.t 0))⟩,⟨some 3,none,.e (.bx 60 (.t 1))⟩,⟨some 4,none,.e (.al (.agg #[(.string (mk [])),(.slice none 0 0),(.slice none 0 0)]) 60)⟩,⟨some 5,none,.q (.mv (.k (.bool false)))⟩]) (.seq (.reg [⟨some 6,none,.q (.mv (.k (.slice none 0 0)))⟩]) (.seq (.seq (.reg [⟨some 15,none,.q (.fa 2 (.t 2))⟩,⟨some 16,none,.l (.ld1 (.t 15))⟩,⟨some 17,none,.q (.lnL (.t 16))⟩,⟨some 18,none,.q (.mv (.k (.int .i64 0)))⟩]) (.block 0 (.loop (.seq (.reg [⟨some 19,none,.q (.bin .lss true (.t 18) (.t 17))⟩]) (.seq (.cond (.t 19) .skip (.exit 0)) (.seq (.block 1 (.seq (.reg [⟨some 20,none,.q (.mv (.t 18))⟩,⟨some 21,none,.l (.ia 1 (.t 16) (.t 18))⟩,⟨some 22,none,.l (.ld1 (.t 21))⟩,⟨some 7,none,.q (.mv (.t 20))⟩,⟨some 8,none,.q (.mv (.t 22))⟩]) (.reg [⟨some 23,none,.q (.mv (.t 6))⟩,⟨some 24,none,.q (.mv (.t 8))⟩,⟨some 25,none,.q (.fa 1 (.t 2))⟩,⟨some 26,none,.l (.ld1 (.t 25))⟩,⟨some 27,none,.q (.mv (.t 7))⟩,⟨some 28,none,.l (.ia 1 (.t 26) (.t 27))⟩,⟨some 29,none,.l (.ld1 (.t 28))⟩,⟨some 30,none,.q (.bd [(.int .i64 0),(.string (mk []))] [(0,1,(.t 24)),(1,1,(.t 29))])⟩,⟨some 31,none,.e (.bsl 111 2 [(.t 30)])⟩,⟨some 32,none,.e (.ap 111 2 24 (.t 23) (.t 31))⟩,⟨some 6,none,.q (.mv (.t 32))⟩]))) (.reg [⟨some 33,none,.q (.bin .add true (.t 18) (.k (.int .i64 1)))⟩,⟨some 18,none,.q (.mv (.t 33))⟩]))))))) (.seq (.seq (.reg [⟨some 34,none,.q (.fa 2 (.t 3))⟩,⟨some 35,none,.l (.ld1 (.t 34))⟩,⟨some 36,none,.q (.lnL (.t 35))⟩,⟨some 37,none,.q (.mv (.k (.int .i64 0)))⟩]) (.block 2 (.loop (.seq (.reg [⟨some 38,none,.q (.bin .lss true (.t 37) (.t 36))⟩]) (.seq (.cond (.t 38) .skip (.exit 2)) (.seq (.block 3 (.seq (.reg [⟨some 39,none,.q (.mv (.t 37))⟩,⟨some 40,none,.l (.ia 1 (.t 35) (.t 37))⟩,⟨some 41,none,.l (.ld1 (.t 40))⟩,⟨some 9,none,.q (.mv (.t 39))⟩,⟨some 10,none,.q (.mv (.t 41))⟩]) (.seq (.reg [⟨some 42,none,.q (.mv (.t 10))⟩,⟨some 43,none,.q (.fa 1 (.t 3))⟩,⟨some 44,none,.l (.ld1 (.t 43))⟩,⟨some 45,none,.q (.mv (.t 9))⟩,⟨some 46,none,.l (.ia 1 (.t 44) (.t 45))⟩,⟨some 47,none,.l (.ld1 (.t 46))⟩,⟨some 48,none,.q (.bd [(.int .i64 0),(.string (mk []))] [(0,1,(.t 42)),(1,1,(.t 47))])⟩,⟨some 11,none,.e (.al (.agg #[(.int .i64 0),(.string (mk []))]) 111)⟩,⟨none,none,.e (.st 2 (.t 11) (.t 48))⟩]) (.seq (.seq (.reg [⟨some 49,none,.q (.mv (.t 6))⟩,⟨some 50,none,.l (.ldn 2 (.t 11))⟩,⟨some 51,none,.cl 76 [(.t 49),(.t 50)] [3]⟩]) (.cond (.t 51) (.exit 3) .skip)) (.seq (.seq (.reg [⟨some 52,none,.q (.mv (.t 6))⟩,⟨some 53,none,.q (.mf 78 [(.t 11)])⟩,⟨some 54,none,.cl 77 [(.t 52),(.t 53)] [3,4]⟩]) (.cond (.t 54) (.seq (.reg [⟨some 55,none,.q (.bd [(.string (mk [])),(.slice none 0 0),(.slice none 0 0)] [])⟩,⟨none,none,.e (.st 3 (.t 4) (.t 55))⟩,⟨some 5,none,.q (.mv (.k (.bool false)))⟩]) .ret) .skip)) (.reg [⟨some 56,none,.q (.mv (.t 6))⟩,⟨some 57,none,.l (.ldn 2 (.t 11))⟩,⟨some 58,none,.e (.bsl 111 2 [(.t 57)])⟩,⟨some 59,none,.e (.ap 111 2 24 (.t 56) (.t 58))⟩,⟨some 6,none,.q (.mv (.t 59))⟩])))))) (.reg [⟨some 60,none,.q (.bin .add true (.t 37) (.k (.int .i64 1)))⟩,⟨some 37,none,.q (.mv (.t 60))⟩]))))))) (.seq (.reg [⟨some 61,none,.q (.mv (.t 6))⟩,⟨some 62,none,.cl 79 [(.t 61),(.f 80)] [3]⟩]) (.seq (.reg [⟨some 63,none,.q (.fa 0 (.t 2))⟩,⟨some 64,none,.l (.ld1 (.t 63))⟩,⟨some 65,none,.q (.bd [(.string (mk [])),(.slice none 0 0),(.slice none 0 0)] [(0,1,(.t 64))])⟩,⟨some 12,none,.e (.al (.agg #[(.string (mk [])),(.slice none 0 0),(.slice none 0 0)]) 60)⟩,⟨none,none,.e (.st 3 (.t 12) (.t 65))⟩]) (.seq (.seq (.reg [⟨some 66,none,.q (.mv (.t 6))⟩,⟨some 67,none,.q (.lnL (.t 66))⟩,⟨some 68,none,.q (.mv (.k (.int .i64 0)))⟩]) (.block 4 (.loop (.seq (.reg [⟨some 69,none,.q (.bin .lss true (.t 68) (.t 67))⟩]) (.seq (.cond (.t 69) .skip (.exit 4)) (.seq (.block 5 (.seq (.reg [⟨some 70,none,.l (.ia 2 (.t 66) (.t 68))⟩,⟨some 71,none,.l (.ldn 2 (.t 70))⟩,⟨some 14,none,.e (.al (.agg #[(.int .i64 0),(.string (mk []))]) 111)⟩,⟨none,none,.e (.st 2 (.t 14) (.t 71))⟩]) (.seq (.reg [⟨some 72,none,.q (.fa 1 (.t 12))⟩,⟨some 73,none,.l (.ld1 (.t 72))⟩,⟨some 74,none,.q (.fa 1 (.t 14))⟩,⟨some 75,none,.l (.ld1 (.t 74))⟩,⟨some 76,none,.e (.bsl 9 1 [(.t 75)])⟩,⟨some 77,none,.e (.ap 9 1 16 (.t 73) (.t 76))⟩,⟨some 78,none,.q (.fa 1 (.t 12))⟩,⟨none,none,.e (.st 1 (.t 78) (.t 77))⟩]) (.reg [⟨some 79,none,.q (.fa 2 (.t 12))⟩,⟨some 80,none,.l (.ld1 (.t 79))⟩,⟨some 81,none,.q (.fa 0 (.t 14))⟩,⟨some 82,none,.l (.ld1 (.t 81))⟩,⟨some 83,none,.e (.bsl 3 1 [(.t 82)])⟩,⟨some 84,none,.e (.ap 3 1 8 (.t 80) (.t 83))⟩,⟨some 85,none,.q (.fa 2 (.t 12))⟩,⟨none,none,.e (.st 1 (.t 85) (.t 84))⟩])))) (.reg [⟨some 86,none,.q (.bin .add true (.t 68) (.k (.int .i64 1)))⟩,⟨some 68,none,.q (.mv (.t 86))⟩]))))))) (.seq (.reg [⟨some 87,none,.l (.ldn 3 (.t 12))⟩,⟨none,none,.e (.st 3 (.t 4) (.t 87))⟩,⟨some 5,none,.q (.mv (.k (.bool true)))⟩]) .ret)))))))
def rsM39:List RV:=[.ld (.ldn 3 (.t 4)),.mv (.t 5)]
theorem okM39:trFn Tryz.prog true ⟨fun r k=>if r=11/\k=2 then .own [3] else if r=12/\k=2 then .own [3,4] else if r=16/\k=1 then .own [3] else .own [],fun _=>false⟩ Tryz.f39=some (pcM39,rsM39):=by kernel_rfl
def pcM42:PC:=.seq (.reg [⟨some 2,none,.e (.bx 37 (.t 0))⟩,⟨some 3,none,.e (.bx 37 (.t 1))⟩,⟨some 4,none,.e (.al (.agg #[(.string (mk [])),(.slice none 0 0)]) 37)⟩,⟨some 5,none,.q (.mv (.k (.bool false)))⟩]) (.seq (.reg [⟨some 16,none,.q (.fa 0 (.t 2))⟩,⟨some 17,none,.l (.ld1 (.t 16))⟩,⟨some 18,none,.q (.bd [(.string (mk [])),(.slice none 0 0)] [(0,1,(.t 17))])⟩,⟨some 6,none,.e (.al (.agg #[(.string (mk [])),(.slice none 0 0)]) 37)⟩,⟨none,none,.e (.st 2 (.t 6) (.t 18))⟩]) (.seq (.seq (.reg [⟨some 19,none,.q (.fa 1 (.t 2))⟩,⟨some 20,none,.l (.ld1 (.t 19))⟩,⟨some 21,none,.q (.lnL (.t 20))⟩,⟨some 22,none,.q (.mv (.k (.int .i64 0)))⟩]) (.block 0 (.loop (.seq (.reg [⟨some 23,none,.q (.bin .lss true (.t 22) (.t 21))⟩]) (.seq (.cond (.t 23) .skip (.exit 0)) (.seq (.block 1 (.seq (.reg [⟨some 24,none,.l (.ia 7 (.t 20) (.t 22))⟩,⟨some 25,none,.l (.ldn 7 (.t 24))⟩,⟨some 8,none,.e (.al (.agg #[(.int .i64 0),(.string (mk [])),(.int .i64 0),(.int .i64 0),(.string (mk [])),(.slice none 0 0),(.bool false)]) 50)⟩,⟨none,none,.e (.st 7 (.t 8) (.t 25))⟩]) (.seq (.reg [⟨some 26,none,.q (.fa 6 (.t 8))⟩,⟨some 27,none,.l (.ld1 (.t 26))⟩,⟨some 9,none,.q (.mv (.t 27))⟩]) (.seq (.seq (.reg [⟨some 29,none,.l (.ldn 2 (.t 3))⟩,⟨some 30,none,.q (.fa 0 (.t 8))⟩,⟨some 31,none,.l (.ld1 (.t 30))⟩,⟨some 32,none,.cl 60 [(.t 29),(.t 31)] []⟩,⟨some 28,none,.q (.mv (.t 32))⟩,⟨some 33,none,.q (.ex (.t 28) 0)⟩,⟨some 34,none,.q (.ex (.t 28) 1)⟩,⟨some 10,none,.e (.al (.agg #[(.int .i64 0),(.string (mk [])),(.int .i64 0),(.int .i64 0),(.string (mk [])),(.slice none 0 0),(.bool false)]) 50)⟩,⟨none,none,.e (.st 7 (.t 10) (.t 33))⟩,⟨some 11,none,.q (.mv (.t 34))⟩]) (.seq (.reg [⟨some 35,none,.q (.mv (.t 11))⟩]) (.cond (.t 35) (.reg [⟨some 37,none,.l (.ldn 7 (.t 8))⟩,⟨some 38,none,.l (.ldn 7 (.t 10))⟩,⟨some 39,none,.cl 81 [(.t 37),(.t 38)] []⟩,⟨some 36,none,.q (.mv (.t 39))⟩,⟨some 40,none,.q (.ex (.t 36) 0)⟩,⟨some 41,none,.q (.ex (.t 36) 1)⟩,⟨none,none,.e (.st 7 (.t 8) (.t 40))⟩,⟨some 9,none,.q (.mv (.t 41))⟩]) .skip))) (.seq (.seq (.reg [⟨some 42,none,.q (.mv (.t 9))⟩,⟨some 43,none,.q (.not (.t 42))⟩]) (.cond (.t 43) (.seq (.reg [⟨some 44,none,.l (.ldn 2 (.t 6))⟩,⟨none,none,.e (.st 2 (.t 4) (.t 44))⟩,⟨some 5,none,.q (.mv (.k (.bool false)))⟩]) .ret) .skip)) (.reg [⟨some 45,none,.q (.fa 1 (.t 6))⟩,⟨some 46,none,.l (.ld1 (.t 45))⟩,⟨some 47,none,.l (.ldn 7 (.t 8))⟩,⟨some 48,none,.e (.bsl 50 7 [(.t 47)])⟩,⟨some 49,none,.e (.ap 50 7 88 (.t 46) (.t 48))⟩,⟨some 50,none,.q (.fa 1 (.t 6))⟩,⟨none,none,.e (.st 1 (.t 50) (.t 49))⟩])))))) (.reg [⟨some 51,none,.q (.bin .add true (.t 22) (.k (.int .i64 1)))⟩,⟨some 22,none,.q (.mv (.t 51))⟩]))))))) (.seq (.seq (.reg [⟨some 52,none,.q (.fa 1 (.t 3))⟩,⟨some 53,none,.l (.ld1 (.t 52))⟩,⟨some 54,none,.q (.lnL (.t 53))⟩,⟨some 55,none,.q (.mv (.k (.int .i64 0)))⟩]) (.block 2 (.loop (.seq (.reg [⟨some 56,none,.q (.bin .lss true (.t 55) (.t 54))⟩]) (.seq (.cond (.t 56) .skip (.exit 2)) (.seq (.block 3 (.seq (.reg [⟨some 57,none,.l (.ia 7 (.t 53) (.t 55))⟩,⟨some 58,none,.l (.ldn 7 (.t 57))⟩,⟨some 13,none,.e (.al (.agg #[(.int .i64 0),(.string (mk [])),(.int .i64 0),(.int .i64 0),(.string (mk [])),(.slice none 0 0),(.bool false)]) 50)⟩,⟨none,none,.e (.st 7 (.t 13) (.t 58))⟩]) (.seq (.seq (.reg [⟨some 60,none,.l (.ldn 2 (.t 2))⟩,⟨some 61,none,.q (.fa 0 (.t 13))⟩,⟨some 62,none,.l (.ld1 (.t 61))⟩,⟨some 63,none,.cl 60 [(.t 60),(.t 62)] []⟩,⟨some 59,none,.q (.mv (.t 63))⟩,⟨some 64,none,.q (.ex (.t 59) 0)⟩,⟨some 65,none,.q (.ex (.t 59) 1)⟩,⟨some 14,none,.e (.al (.agg #[(.int .i64 0),(.string (mk [])),(.int .i64 0),(.int .i64 0),(.string (mk [])),(.slice none 0 0),(.bool false)]) 50)⟩,⟨none,none,.e (.st 7 (.t 14) (.t 64))⟩,⟨some 15,none,.q (.mv (.t 65))⟩]) (.seq (.reg [⟨some 66,none,.q (.mv (.t 15))⟩]) (.cond (.t 66) (.exit 3) .skip))) (.seq (.seq (.reg [⟨some 67,none,.q (.fa 6 (.t 13))⟩,⟨some 68,none,.l (.ld1 (.t 67))⟩,⟨some 69,none,.q (.not (.t 68))⟩]) (.cond (.t 69) (.seq (.reg [⟨some 70,none,.l (.ldn 2 (.t 6))⟩,⟨none,none,.e (.st 2 (.t 4) (.t 70))⟩,⟨some 5,none,.q (.mv (.k (.bool false)))⟩]) .ret) .skip)) (.reg [⟨some 71,none,.q (.fa 1 (.t 6))⟩,⟨some 72,none,.l (.ld1 (.t 71))⟩,⟨some 73,none,.l (.ldn 7 (.t 13))⟩,⟨some 74,none,.e (.bsl 50 7 [(.t 73)])⟩,⟨some 75,none,.e (.ap 50 7 88 (.t 72) (.t 74))⟩,⟨some 76,none,.q (.fa 1 (.t 6))⟩,⟨none,none,.e (.st 1 (.t 76) (.t 75))⟩]))))) (.reg [⟨some 77,none,.q (.bin .add true (.t 55) (.k (.int .i64 1)))⟩,⟨some 55,none,.q (.mv (.t 77))⟩]))))))) (.seq (.reg [⟨some 78,none,.q (.fa 1 (.t 6))⟩,⟨some 79,none,.l (.ld1 (.t 78))⟩,⟨some 80,none,.cl 82 [(.t 79),(.f 83)] [4]⟩]) (.seq (.reg [⟨some 81,none,.l (.ldn 2 (.t 6))⟩,⟨none,none,.e (.st 2 (.t 4) (.t 81))⟩,⟨some 5,none,.q (.mv (.k (.bool true)))⟩]) .ret)))))
def rsM42:List RV:=[.ld (.ldn 2 (.t 4)),.mv (.t 5)]
theorem okM42:trFn Tryz.prog true ⟨fun r k=>if r=22/\k=2 then .own [4] else .own [],fun _=>false⟩ Tryz.f42=some (pcM42,rsM42):=by kernel_rfl
def pcM43:PC:=.seq (.reg [⟨some 1,none,.e (.bx 48 (.t 0))⟩,⟨some 2,none,.e (.al (.agg #[(.int .i64 0),(.int .i64 0),(.string (mk [])),(.slice none 0 0)]) 48)⟩]) (.seq (.reg [⟨some 6,none,.q (.fa 3 (.t 1))⟩,⟨some 7,none,.l (.ld1 (.t 6))⟩,⟨some 3,none,.q (.mv (.t 7))⟩]) (.seq (.reg [⟨some 8,none,.q (.fa 3 (.t 1))⟩,⟨none,none,.e (.st 1 (.t 8) (.k (.slice none 0 0)))⟩]) (.seq (.seq (.reg [⟨some 9,none,.q (.mv (.t 3))⟩,⟨some 10,none,.q (.lnL (.t 9))⟩,⟨some 11,none,.q (.mv (.k (.int .i64 0)))⟩]) (.block 0 (.loop (.seq (.reg [⟨some 12,none,.q (.bin .lss true (.t 11) (.t 10))⟩]) (.seq (.cond (.t 12) .skip (.exit 0)) (.seq (.block 1 (.seq (.reg [⟨some 13,none,.l (.ia 4 (.t 9) (.t 11))⟩,⟨some 14,none,.l (.ldn 4 (.t 13))⟩,⟨some 5,none,.e (.al (.agg #[(.int .i64 0),(.int .i64 0),(.string (mk [])),(.slice none 0 0)]) 48)⟩,⟨none,none,.e (.st 4 (.t 5) (.t 14))⟩]) (.ord  [.q ⟨some 15,none,.q (.fa 3 (.t 1))⟩,.q ⟨some 16,none,.l (.ld1 (.t 15))⟩,.q ⟨some 17,none,.l (.ldn 4 (.t 5))⟩,.m ⟨some 18,none,.cl 43 [(.t 17)] []⟩,.rc ⟨some 15,none,.q (.fa 3 (.t 1))⟩,.rc ⟨some 16,none,.l (.ld1 (.t 15))⟩,.m ⟨some 19,none,.e (.bsl 48 4 [(.t 18)])⟩,.rc ⟨some 15,none,.q (.fa 3 (.t 1))⟩,.rc ⟨some 16,none,.l (.ld1 (.t 15))⟩,.m ⟨some 20,none,.e (.ap 48 4 56 (.t 16) (.t 19))⟩,.q ⟨some 21,none,.q (.fa 3 (.t 1))⟩,.m ⟨none,none,.e (.st 1 (.t 21) (.t 20))⟩]))) (.reg [⟨some 22,none,.q (.bin .add true (.t 11) (.k (.int .i64 1)))⟩,⟨some 11,none,.q (.mv (.t 22))⟩]))))))) (.seq (.reg [⟨some 23,none,.l (.ldn 4 (.t 1))⟩,⟨none,none,.e (.st 4 (.t 2) (.t 23))⟩]) .ret))))
def rsM43:List RV:=[.ld (.ldn 4 (.t 2))]
theorem okM43:trFn Tryz.prog true ⟨fun _ _=>.own [],fun _=>false⟩ Tryz.f43=some (pcM43,rsM43):=by kernel_rfl
def pcM76:PC:=.seq (.reg [⟨some 3,none,.e (.bx 111 (.t 1))⟩,⟨some 4,none,.q (.mv (.k (.bool false)))⟩]) (.seq (.reg [⟨some 5,none,.q (.mv (.t 0))⟩,⟨some 6,none,.l (.ldn 2 (.t 3))⟩,⟨some 7,none,.cl 108 [(.t 5),(.t 6)] [0]⟩,⟨some 8,none,.q (.bin .geq true (.t 7) (.k (.int .i64 0)))⟩,⟨some 4,none,.q (.mv (.t 8))⟩]) .ret)
def rsM76:List RV:=[.mv (.t 4)]
theorem okM76:trFn Tryz.prog true ⟨fun r k=>if r=1/\k=2 then .own [0] else .own [],fun _=>false⟩ Tryz.f76=some (pcM76,rsM76):=by kernel_rfl
def pcM77:PC:=.seq (.reg [⟨some 4,none,.q (.mv (.k (.bool false)))⟩]) (.seq (.reg [⟨some 5,none,.q (.mv (.t 0))⟩,⟨some 6,none,.q (.mv (.t 1))⟩,⟨some 7,none,.cl 109 [(.t 5),(.t 6)] [0,1]⟩,⟨some 8,none,.q (.bin .geq true (.t 7) (.k (.int .i64 0)))⟩,⟨some 4,none,.q (.mv (.t 8))⟩]) .ret)
def rsM77:List RV:=[.mv (.t 4)]
theorem okM77:trFn Tryz.prog true ⟨fun r k=>if r=1/\k=2 then .own [0,1] else .own [],fun _=>false⟩ Tryz.f77=some (pcM77,rsM77):=by kernel_rfl
def pcM78:PC:=.seq (.reg [⟨some 2,none,.e (.bx 111 (.t 0))⟩,⟨some 3,none,.q (.mv (.k (.bool false)))⟩]) (.seq (.reg [⟨some 4,none,.q (.fa 0 (.t 2))⟩,⟨some 5,none,.l (.ld1 (.t 4))⟩,⟨some 6,none,.q (.fa 0 (.t 1))⟩,⟨some 7,none,.l (.ld1 (.t 6))⟩,⟨some 8,none,.q (.bin .eql true (.t 5) (.t 7))⟩,⟨some 9,none,.q (.mv (.t 8))⟩,⟨some 10,(some (9,false)),.q (.fa 1 (.t 2))⟩,⟨some 11,(some (9,false)),.l (.ld1 (.t 10))⟩,⟨some 12,(some (9,false)),.q (.fa 1 (.t 1))⟩,⟨some 13,(some (9,false)),.l (.ld1 (.t 12))⟩,⟨some 14,(some (9,false)),.q (.bin .eql true (.t 11) (.t 13))⟩,⟨some 15,none,.pick (.t 9) (.k (.bool true)) (.t 14)⟩,⟨some 3,none,.q (.mv (.t 15))⟩]) .ret)
def rsM78:List RV:=[.mv (.t 3)]
theorem okM78:trFn Tryz.prog true ⟨fun _ _=>.own [],fun _=>false⟩ Tryz.f78=some (pcM78,rsM78):=by kernel_rfl
def pcM81:PC:=.seq (.reg [⟨some 2,none,.e (.bx 50 (.t 0))⟩,⟨some 3,none,.e (.bx 50 (.t 1))⟩,⟨some 4,none,.e (.al (.agg #[(.int .i64 0),(.string (mk [])),(.int .i64 0),(.int .i64 0),(.string (mk [])),(.slice none 0 0),(.bool false)]) 50)⟩,⟨some 5,none,.q (.mv (.k (.bool false)))⟩]) (.seq (.block 0 (.seq (.reg [⟨some 7,none,.q (.fa 6 (.t 2))⟩,⟨some 8,none,.l (.ld1 (.t 7))⟩,⟨some 9,none,.q (.fa 6 (.t 3))⟩,⟨some 10,none,.l (.ld1 (.t 9))⟩,⟨some 11,none,.q (.eqB true (.t 8) (.t 10))⟩,⟨some 6,none,.q (.mv (.t 11))⟩]) (.cond (.t 6) (.seq (.reg [⟨some 12,none,.l (.ldn 7 (.t 2))⟩,⟨none,none,.e (.st 7 (.t 4) (.t 12))⟩,⟨some 5,none,.q (.mv (.k (.bool false)))⟩]) .ret) (.seq (.reg [⟨some 14,none,.q (.fa 2 (.t 2))⟩,⟨some 15,none,.l (.ldn 4 (.t 14))⟩,⟨some 16,none,.q (.fa 2 (.t 3))⟩,⟨some 17,none,.l (.ldn 4 (.t 16))⟩,⟨some 18,none,.cq 61 [(.t 15),(.t 17)]⟩,⟨some 13,none,.q (.mv (.t 18))⟩]) (.cond (.t 13) (.seq (.reg [⟨some 19,none,.q (.fa 2 (.t 3))⟩,⟨some 20,none,.l (.ldn 4 (.t 19))⟩,⟨some 21,none,.q (.fa 2 (.t 2))⟩,⟨none,none,.e (.st 4 (.t 21) (.t 20))⟩]) (.seq (.reg [⟨some 22,none,.l (.ldn 7 (.t 2))⟩,⟨none,none,.e (.st 7 (.t 4) (.t 22))⟩,⟨some 5,none,.q (.mv (.k (.bool true)))⟩]) .ret)) .skip))))) (.seq (.reg [⟨some 23,none,.l (.ldn 7 (.t 2))⟩,⟨some 24,none,.q (.fa 2 (.t 3))⟩,⟨some 25,none,.l (.ldn 4 (.t 24))⟩,⟨some 26,none,.q (.fa 2 (.t 2))⟩,⟨some 27,none,.l (.ldn 4 (.t 26))⟩,⟨some 28,none,.cq 61 [(.t 25),(.t 27)]⟩,⟨none,none,.e (.st 7 (.t 4) (.t 23))⟩,⟨some 5,none,.q (.mv (.t 28))⟩]) .ret))
def rsM81:List RV:=[.ld (.ldn 7 (.t 4)),.mv (.t 5)]
theorem okM81:trFn Tryz.prog true ⟨fun r k=>if r=3/\k=4 then .q else if r=6/\k=5 then .q else .own [],fun _=>false⟩ Tryz.f81=some (pcM81,rsM81):=by kernel_rfl
def pcM108:PC:=.seq (.reg [⟨some 3,none,.e (.bx 111 (.t 1))⟩,⟨some 4,none,.q (.mv (.k (.int .i64 0)))⟩]) (.seq (.seq (.reg [⟨some 6,none,.q (.mv (.t 0))⟩,⟨some 7,none,.q (.lnL (.t 6))⟩,⟨some 8,none,.q (.mv (.k (.int .i64 0)))⟩]) (.block 0 (.loop (.seq (.reg [⟨some 9,none,.q (.bin .lss true (.t 8) (.t 7))⟩]) (.seq (.cond (.t 9) .skip (.exit 0)) (.seq (.block 1 (.seq (.reg [⟨some 10,none,.q (.mv (.t 8))⟩,⟨some 5,none,.q (.mv (.t 10))⟩]) (.seq (.reg [⟨some 11,none,.l (.ldn 2 (.t 3))⟩,⟨some 12,none,.q (.mv (.t 0))⟩,⟨some 13,none,.q (.mv (.t 5))⟩,⟨some 14,none,.l (.ia 2 (.t 12) (.t 13))⟩,⟨some 15,none,.l (.ldn 2 (.t 14))⟩,⟨some 16,none,.q (.eqT false [(0,.int .i64),(1,.str)] (.t 11) (.t 15))⟩]) (.cond (.t 16) (.seq (.reg [⟨some 17,none,.q (.mv (.t 5))⟩,⟨some 4,none,.q (.mv (.t 17))⟩]) .ret) .skip)))) (.reg [⟨some 18,none,.q (.bin .add true (.t 8) (.k (.int .i64 1)))⟩,⟨some 8,none,.q (.mv (.t 18))⟩]))))))) (.seq (.reg [⟨some 4,none,.q (.mv (.k (.int .i64 (-1))))⟩]) .ret))
def rsM108:List RV:=[.mv (.t 4)]
theorem okM108:trFn Tryz.prog true ⟨fun _ _=>.own [],fun _=>false⟩ Tryz.f108=some (pcM108,rsM108):=by kernel_rfl
def pcM109:PC:=.seq (.reg [⟨some 4,none,.q (.mv (.k (.int .i64 0)))⟩]) (.seq (.seq (.reg [⟨some 6,none,.q (.mv (.t 0))⟩,⟨some 7,none,.q (.lnL (.t 6))⟩,⟨some 8,none,.q (.mv (.k (.int .i64 0)))⟩]) (.block 0 (.loop (.seq (.reg [⟨some 9,none,.q (.bin .lss true (.t 8) (.t 7))⟩]) (.seq (.cond (.t 9) .skip (.exit 0)) (.seq (.block 1 (.seq (.reg [⟨some 10,none,.q (.mv (.t 8))⟩,⟨some 5,none,.q (.mv (.t 10))⟩]) (.seq (.reg [⟨some 11,none,.q (.mv (.t 1))⟩,⟨some 12,none,.q (.mv (.t 0))⟩,⟨some 13,none,.q (.mv (.t 5))⟩,⟨some 14,none,.l (.ia 2 (.t 12) (.t 13))⟩,⟨some 15,none,.l (.ldn 2 (.t 14))⟩,⟨some 16,none,.ca (.t 11) [(.t 15)] [1]⟩]) (.cond (.t 16) (.seq (.reg [⟨some 17,none,.q (.mv (.t 5))⟩,⟨some 4,none,.q (.mv (.t 17))⟩]) .ret) .skip)))) (.reg [⟨some 18,none,.q (.bin .add true (.t 8) (.k (.int .i64 1)))⟩,⟨some 8,none,.q (.mv (.t 18))⟩]))))))) (.seq (.reg [⟨some 4,none,.q (.mv (.k (.int .i64 (-1))))⟩]) .ret))
def rsM109:List RV:=[.mv (.t 4)]
theorem okM109:trFn Tryz.prog true ⟨fun r k=>if r=4/\k=5 then .own [1] else .own [],fun _=>false⟩ Tryz.f109=some (pcM109,rsM109):=by kernel_rfl
end Go.Proofs.YtbolanmlngjdoaaGreat
namespace Go.Proofs.YtbolanmlngjdoaaGreat
open Go.W
structure Nd where
  n:Int
  nm:ByteArray
instance:Inhabited Nd:=⟨⟨0,ByteArray.empty⟩⟩
theorem nd_eq {a b:Nd}:a=b ↔ (a.n=b.n/\a.nm=b.nm):=by cases a; cases b; simp
instance:DecidableEq Nd:=fun _ _=>decidable_of_iff _ nd_eq.symm
def ndC (x:Nd):List C:=[.vl (.int .i64 x.n),.vl (.string x.nm)]
theorem ndC_inj {a b:Nd} (h:ndC a=ndC b):a=b:=by
  rw [nd_eq]; simpa [ndC] using h
def fixP {α:Type} (p:α->Bool):List α->Nat->Int
  | [],_=>-1
  | y :: l,i=>bif p y then (i:Int) else fixP p l (i + 1)
theorem fixP_has {α:Type} (p:α->Bool):∀ (l:List α) (i:Nat),decide (0<=fixP p l i)=l.any p
  | [],_=>rfl
  | y :: l,i=>by
    rw [List.any_cons]
    simp only [fixP]
    by_cases h:p y=true
    · simp [h]
    · rw [Bool.not_eq_true] at h
      have:=fixP_has p l (i + 1)
      simp only [h,Bool.cond_false,Bool.false_or]
      exact this
abbrev ndH (l:List Nd):Hp:=[.row (l.map ndC) 111 2]
def isN (x:Nd):Nd->Bool:=fun y=>decide (x=y)
def clN (x:Nd):Nd->Bool:=fun y=>y.n == x.n || decide (y.nm=x.nm)
def ixnSp:W.Spec:=fun av H K=>∃ (l:List Nd) (x:Nd),av=[.va (.c1 (.sl 0 l.length)),.va (.gs (ndC x))]/\H=ndH l/\l.length<=1000000/\K (iS .i64 (fixP (isN x) l 0)) (ndH l)
theorem ixn_use {l:List Nd} {x:Nd} {K:S->Hp->Prop} (h:l.length<=1000000) (hK:K (iS .i64 (fixP (isN x) l 0)) (ndH l)):ixnSp [.va (.c1 (.sl 0 l.length)),.va (.gs (ndC x))] (ndH l) K:=⟨l,x,rfl,rfl,h,hK⟩
set_option maxRecDepth 100000 in
theorem mIndexN:Meets Tryz.prog 108 ixnSp:=by
  refine meets_fn Tryz.func108 okM108 2 (by rw [Tryz.ntmps108]; decide) (meetsAll_nil _) (fun av H K h=>by obtain ⟨_,_,rfl,_⟩:=h; rfl) ?_
  rintro av H K ⟨l,x,rfl,rfl,hl,hK⟩
  simp (maxSteps:=1000000) -dsimp only [go_sem,ndC,pcM108,rsM108]
  refine vc_loop (α:=Nat) (fun i=>[(0,.va (.c1 (.sl 0 l.length))),(3,.va (.c1 (.pt 1 0))),(7,iS .i64 l.length),(8,iS .i64 i)]) (fun _=>[.row (l.map ndC) 111 2,.cells (ndC x) 111])
    (fun i=>i<=l.length/\fixP (isN x) (l.drop i) i=fixP (isN x) l 0) (fun i=>l.length - i) 0 2 ⟨Nat.zero_le _,rfl⟩ ?_ ?_ ?_
  · simp -dsimp only [go_sem]<;>simp
  · simp -dsimp only [go_sem,ndC]<;>simp
  rintro i ⟨hi,ho⟩
  rcases Nat.lt_or_ge i l.length with hlt | hge
  · have hg:decide ((i:Int) < (l.length:Int))=true:=by simp; omega
    obtain ⟨y,hx⟩:∃ t,l[i]? = some t:=⟨_,List.getElem?_eq_getElem hlt⟩
    have hdr:l.drop i=y :: l.drop (i + 1):=by
      obtain ⟨h,rfl⟩:=List.getElem?_eq_some_iff.1 hx
      exact List.drop_eq_getElem_cons h
    rw [hdr] at ho
    simp only [fixP] at ho
    have hq:(x.n == y.n && bl x.nm == bl y.nm)=isN x y:=by
      unfold isN
      rw [bl_beq,Bool.eq_iff_iff,decide_eq_true_eq,nd_eq]; simp
    simp (maxSteps:=1000000) -dsimp only [go_sem,hg,ndC,hx,Option.some.injEq,forall_eq',hq]
    refine ⟨by omega,hlt,fun h1=>?_,fun h1=>⟨by omega,loop_next (i + 1) 2 ⟨by omega,?_⟩ (by omega) ?_ ?_⟩⟩
    · rw [h1,Bool.cond_true] at ho
      rw [<-ho] at hK
      exact .sel [0] (by simp) (by simp) rfl (.done (by simpa [go_sem] using hK))
    · rw [h1,Bool.cond_false] at ho; exact ho
    · simp -dsimp only [go_sem]<;>simp
    · simp -dsimp only [go_sem,ndC]<;>simp
  · have hg:decide ((i:Int) < (l.length:Int))=false:=by simp; omega
    obtain rfl:i=l.length:=by omega
    rw [List.drop_length] at ho
    have ho:-1=fixP (isN x) l 0:=ho
    simp (maxSteps:=1000000) -dsimp only [go_sem,hg,ndC]
    rw [<-ho] at hK
    exact .sel [0] (by simp) (by simp) rfl (.done (by simpa [go_sem] using hK))
def conSpN:W.Spec:=fun av H K=>∃ (l:List Nd) (x:Nd),av=[.va (.c1 (.sl 0 l.length)),.va (.gs (ndC x))]/\H=ndH l/\l.length<=1000000/\K (bS (l.any (isN x))) (ndH l)
theorem conn_use {l:List Nd} {x:Nd} {K:S->Hp->Prop} (h:l.length<=1000000) (hK:K (bS (l.any (isN x))) (ndH l)):conSpN [.va (.c1 (.sl 0 l.length)),.va (.gs (ndC x))] (ndH l) K:=⟨l,x,rfl,rfl,h,hK⟩
set_option maxRecDepth 100000 in
theorem mContainsN:Meets Tryz.prog 76 conSpN:=by
  refine meets_fn Tryz.func76 okM76 2 (by rw [Tryz.ntmps76]; decide) (meetsAll_s mIndexN (meetsAll_nil _)) (fun av H K h=>by obtain ⟨_,_,rfl,_⟩:=h; rfl) ?_
  rintro av H K ⟨l,x,rfl,rfl,hl,hK⟩
  simp (maxSteps:=1000000) -dsimp only [go_sem,ndC,pcM76,rsM76]
  refine ixn_use (x:=x) hl ?_
  simp (maxSteps:=1000000) -dsimp only [go_sem,fixP_has]
  exact .sel [0] (by simp) (by simp) rfl (.done (by simpa [go_sem] using hK))
abbrev cxV:S:=.va (.c1 (.fn 78 [(false,[.pt 1 0])]))
def c1Sp:W.Spec:=fun av H K=>
  match av,H with
  | [.va (.gs yc),.va (.c1 (.pt 0 0))],[.cells xc 111]=>∃ y x:Nd,yc=ndC y/\xc=ndC x/\K (bS (clN x y)) [.cells (ndC x) 111]
  | _,_=>False
theorem c1Sp_open {av:List S} {H:Hp} {K:S->Hp->Prop} (h:c1Sp av H K):∃ y x:Nd,av=[.va (.gs (ndC y)),.va (.c1 (.pt 0 0))]/\H=[.cells (ndC x) 111]/\K (bS (clN x y)) [.cells (ndC x) 111]:=by
  unfold c1Sp at h
  split at h
  · obtain ⟨y,x,rfl,rfl,hK⟩:=h
    exact ⟨y,x,rfl,rfl,hK⟩
  · exact h.elim
theorem c1_use {y x:Nd} {K:S->Hp->Prop} (hK:K (bS (clN x y)) [.cells (ndC x) 111]):c1Sp [.va (.gs (ndC y)),.va (.c1 (.pt 0 0))] [.cells (ndC x) 111] K:=⟨y,x,rfl,rfl,hK⟩
set_option maxRecDepth 100000 in
theorem mClash:Meets Tryz.prog 78 c1Sp:=by
  refine meets_fn Tryz.func78 okM78 2 (by rw [Tryz.ntmps78]; decide) (meetsAll_nil _) (fun av H K h=>by obtain ⟨_,_,rfl,_⟩:=c1Sp_open h; rfl) ?_
  intro av H K h
  obtain ⟨y,x,rfl,rfl,hK⟩:=c1Sp_open h
  simp (maxSteps:=1000000) -dsimp only [go_sem,ndC,pcM78,rsM78,bl_beq]
  exact .sel [0] (by simp) (by simp) rfl (.done (by simpa [go_sem,ndC,clN] using hK))
abbrev nxH (l:List Nd) (x:Nd):Hp:=[.row (l.map ndC) 111 2,.cells (ndC x) 111]
def ifnSp:W.Spec:=fun av H K=>∃ (l:List Nd) (x:Nd),av=[.va (.c1 (.sl 0 l.length)),cxV]/\H=nxH l x/\l.length<=1000000/\K (iS .i64 (fixP (clN x) l 0)) (nxH l x)
theorem ifn_use {l:List Nd} {x:Nd} {K:S->Hp->Prop} (h:l.length<=1000000) (hK:K (iS .i64 (fixP (clN x) l 0)) (nxH l x)):ifnSp [.va (.c1 (.sl 0 l.length)),cxV] (nxH l x) K:=⟨l,x,rfl,rfl,h,hK⟩
set_option maxRecDepth 100000 in
theorem mIndexF:Meets Tryz.prog 109 ifnSp:=by
  refine meets_fn Tryz.func109 okM109 2 (by rw [Tryz.ntmps109]; decide) (meetsAll_s mClash (meetsAll_nil _)) (fun av H K h=>by obtain ⟨_,_,rfl,_⟩:=h; rfl) ?_
  rintro av H K ⟨l,x,rfl,rfl,hl,hK⟩
  simp (maxSteps:=1000000) -dsimp only [go_sem,pcM109,rsM109]
  refine vc_loop (α:=Nat) (fun i=>[(0,.va (.c1 (.sl 0 l.length))),(1,cxV),(7,iS .i64 l.length),(8,iS .i64 i)]) (fun _=>nxH l x)
    (fun i=>i<=l.length/\fixP (clN x) (l.drop i) i=fixP (clN x) l 0) (fun i=>l.length - i) 0 2 ⟨Nat.zero_le _,rfl⟩ ?_ ?_ ?_
  · simp -dsimp only [go_sem]<;>simp
  · simp -dsimp only [go_sem,ndC]<;>simp [ndC]
  rintro i ⟨hi,ho⟩
  rcases Nat.lt_or_ge i l.length with hlt | hge
  · have hg:decide ((i:Int) < (l.length:Int))=true:=by simp; omega
    obtain ⟨y,hx⟩:∃ t,l[i]? = some t:=⟨_,List.getElem?_eq_getElem hlt⟩
    have hdr:l.drop i=y :: l.drop (i + 1):=by
      obtain ⟨h,rfl⟩:=List.getElem?_eq_some_iff.1 hx
      exact List.drop_eq_getElem_cons h
    rw [hdr] at ho
    simp only [fixP] at ho
    simp (maxSteps:=1000000) -dsimp only [go_sem,hg,ndC,hx,Option.some.injEq,forall_eq']
    refine ⟨by omega,hlt,c1_use (y:=y) (x:=x) ?_⟩
    cases hc:clN x y with
    | true=>
      rw [hc,Bool.cond_true] at ho
      rw [<-ho] at hK
      simp (maxSteps:=1000000) -dsimp only [go_sem,ndC]
      exact .done hK
    | false=>
      rw [hc,Bool.cond_false] at ho
      simp (maxSteps:=1000000) -dsimp only [go_sem,ndC]
      refine ⟨by omega,loop_next (i + 1) 2 ⟨by omega,ho⟩ (by omega) ?_ ?_⟩
      · simp -dsimp only [go_sem]<;>simp
      · simp -dsimp only [go_sem]<;>simp [ndC]
  · have hg:decide ((i:Int) < (l.length:Int))=false:=by simp; omega
    obtain rfl:i=l.length:=by omega
    rw [List.drop_length] at ho
    have ho:-1=fixP (clN x) l 0:=ho
    simp (maxSteps:=1000000) -dsimp only [go_sem,hg]
    exact .done (by rw [show (-1:Int)=fixP (clN x) l 0 from ho]; exact hK)
def cofSp:W.Spec:=fun av H K=>∃ (l:List Nd) (x:Nd),av=[.va (.c1 (.sl 0 l.length)),cxV]/\H=nxH l x/\l.length<=1000000/\K (bS (l.any (clN x))) (nxH l x)
theorem cof_use {l:List Nd} {x:Nd} {K:S->Hp->Prop} (h:l.length<=1000000) (hK:K (bS (l.any (clN x))) (nxH l x)):cofSp [.va (.c1 (.sl 0 l.length)),cxV] (nxH l x) K:=⟨l,x,rfl,rfl,h,hK⟩
set_option maxRecDepth 100000 in
theorem mContainsF:Meets Tryz.prog 77 cofSp:=by
  refine meets_fn Tryz.func77 okM77 2 (by rw [Tryz.ntmps77]; decide) (meetsAll_s mIndexF (meetsAll_nil _)) (fun av H K h=>by obtain ⟨_,_,rfl,_⟩:=h; rfl) ?_
  rintro av H K ⟨l,x,rfl,rfl,hl,hK⟩
  simp (maxSteps:=1000000) -dsimp only [go_sem,pcM77,rsM77]
  refine ifn_use hl ?_
  simp (maxSteps:=1000000) -dsimp only [go_sem,fixP_has]
  exact .done hK
end Go.Proofs.YtbolanmlngjdoaaGreat
namespace Go.Proofs.YtbolanmlngjdoaaGreat
open Go.RowKit
def orI (a b c:Int):Int:=if a ≠ 0 then a else if b ≠ 0 then b else c
set_option maxRecDepth 1000000 in
theorem walkOr3 (a b c:Int) (bk cap:Nat) (w:World) (h0:w.cell? ⟨bk,0,none⟩=some (.int .i64 a)) (h1:w.cell? ⟨bk,1,none⟩=some (.int .i64 b)) (h2:w.cell? ⟨bk,2,none⟩=some (.int .i64 c)) :
    Calls Tryz.prog 27 #[.slice (some ⟨bk,0,none⟩) 3 cap] w fun e w'=>e=.returned (.int .i64 (orI a b c))/\w'=w:=by
  go_enter Tryz.func27,Tryz.ntmps27
  go_wp2
  go_loopw [8] (fun i w'=>∃ (k:Nat),i=.int .i64 k/\w'=w/\k<=3/\(1<=k->a=0)/\(2<=k->b=0)/\(3<=k->c=0)) (fun i _=>match i with | .int _ k=>3 - k.toNat | _=>0)
  case atStart=>exact ⟨0,rfl,rfl,by omega,by omega,by omega,by omega⟩
  case round=>
    obtain ⟨k,rfl,rfl,hk,e1,e2,e3⟩:=hrel
    match k,hk with
    | 0,_=>
      by_cases ha:a=0
      · subst ha
        go_wp2
        refine ⟨⟨1,by simp,trivial,by omega,fun _=>by simp,fun h=>absurd h (by omega),fun h=>absurd h (by omega)⟩,by decide⟩
      · go_wp2
        go_ret
        exact ⟨by simp [orI,ha],rfl⟩
    | 1,_=>
      obtain rfl:=e1 (by omega)
      by_cases hb:b=0
      · subst hb
        go_wp2
        refine ⟨⟨2,by simp,trivial,by omega,fun _=>by simp,fun _=>by simp,fun h=>absurd h (by omega)⟩,by decide⟩
      · go_wp2
        go_ret
        exact ⟨by simp [orI,hb],rfl⟩
    | 2,_=>
      obtain rfl:=e1 (by omega)
      obtain rfl:=e2 (by omega)
      by_cases hc:c=0
      · subst hc
        go_wp2
        refine ⟨⟨3,by simp,trivial,by omega,fun _=>by simp,fun _=>by simp,fun _=>by simp⟩,by decide⟩
      · go_wp2
        go_ret
        exact ⟨by simp [orI],rfl⟩
    | 3,_=>
      obtain rfl:=e1 (by omega)
      obtain rfl:=e2 (by omega)
      obtain rfl:=e3 (by omega)
      go_wp2
      go_ret
      exact ⟨by simp [orI],rfl⟩
theorem cell_new3 (W:World) (x y z:Value) (t:TypeId):(W.drew.alloc (.cells #[x,y,z] t)).cell? ⟨W.heap.size,0,none⟩=some x/\(W.drew.alloc (.cells #[x,y,z] t)).cell? ⟨W.heap.size,1,none⟩=some y/\(W.drew.alloc (.cells #[x,y,z] t)).cell? ⟨W.heap.size,2,none⟩=some z:=by
  refine ⟨?_,?_,?_⟩<;>(show (W.drew.alloc _).cell? ⟨W.drew.heap.size,_,none⟩=_; rw [World.cell?_alloc_mark]; rfl)
set_option maxHeartbeats 1000000 in
set_option maxRecDepth 1000000 in
theorem walkCmp (hc:∀ (a b:ByteArray) (w:World),Calls Tryz.prog 28 #[.string a,.string b] w fun e w'=>e=.returned (.int .i64 (Lib.compareBytes a.data.toList b.data.toList))/\w'=w) (k n k' n':Int) (t t':ByteArray) (hk:-1000<=k/\k<=1000) (hn:-1000<=n/\n<=1000) (hk':-1000<=k'/\k'<=1000) (hn':-1000<=n'/\n'<=1000) (w:World) :
    Calls Tryz.prog 26 #[.agg #[.int .i64 k,.int .i64 n,.string t],.agg #[.int .i64 k',.int .i64 n',.string t']] w fun e w'=>e=.returned (.int .i64 (orI (Lib.compareBytes t.data.toList t'.data.toList) (k - k') (n - n')))/\∃ q os',w'=Sort.grow (w.drewN q) os':=by
  go_enter Tryz.func26,Tryz.ntmps26
  go_wp2
  have c0:((w.alloc (.cells #[.int .i64 k,.int .i64 n,.string t] 33)).alloc (.cells #[.int .i64 k',.int .i64 n',.string t'] 33)).cell? ⟨w.heap.size,0,none⟩=some (.int .i64 k):=by go_simp
  have c1:((w.alloc (.cells #[.int .i64 k,.int .i64 n,.string t] 33)).alloc (.cells #[.int .i64 k',.int .i64 n',.string t'] 33)).cell? ⟨w.heap.size,1,none⟩=some (.int .i64 n):=by go_simp
  have c2:((w.alloc (.cells #[.int .i64 k,.int .i64 n,.string t] 33)).alloc (.cells #[.int .i64 k',.int .i64 n',.string t'] 33)).cell? ⟨w.heap.size,2,none⟩=some (.string t):=by go_simp
  have d0:((w.alloc (.cells #[.int .i64 k,.int .i64 n,.string t] 33)).alloc (.cells #[.int .i64 k',.int .i64 n',.string t'] 33)).cell? ⟨w.heap.size + 1,0,none⟩=some (.int .i64 k'):=by go_simp
  have d1:((w.alloc (.cells #[.int .i64 k,.int .i64 n,.string t] 33)).alloc (.cells #[.int .i64 k',.int .i64 n',.string t'] 33)).cell? ⟨w.heap.size + 1,1,none⟩=some (.int .i64 n'):=by go_simp
  have d2:((w.alloc (.cells #[.int .i64 k,.int .i64 n,.string t] 33)).alloc (.cells #[.int .i64 k',.int .i64 n',.string t'] 33)).cell? ⟨w.heap.size + 1,2,none⟩=some (.string t'):=by go_simp
  generalize hW:(w.alloc (.cells #[.int .i64 k,.int .i64 n,.string t] 33)).alloc (.cells #[.int .i64 k',.int .i64 n',.string t'] 33)=W at c0 c1 c2 d0 d1 d2 ⊢
  refine wp_region_still_tail 15 (by kernel_rfl) (by kernel_rfl) ?_
  simp only [List.take_succ_cons,List.take_zero,List.drop_succ_cons,List.drop_zero]
  change wpStill _ _ W.drew _ _ _
  repeat still_step
  still_call (hc _ _ _)
  repeat still_step
  try refine wpStill_nil ?_
  have w1:IntKind.i64.wrap (k - k')=k - k':=by simp [IntKind.wrap,IntKind.bits,IntKind.signed]; omega
  have w2:IntKind.i64.wrap (n - n')=n - n':=by simp [IntKind.wrap,IntKind.bits,IntKind.signed]; omega
  rw [w1,w2]
  change wpList _ _ _ _ _ W.drew
  have hor:Calls Tryz.prog 27 #[.slice (some ⟨W.heap.size,0,none⟩) 3 3] (W.drew.alloc (.cells #[.int .i64 (Lib.compareBytes t.data.toList t'.data.toList),.int .i64 (k - k'),.int .i64 (n - n')] 3)) _:=walkOr3 (Lib.compareBytes t.data.toList t'.data.toList) (k - k') (n - n') W.heap.size 3 _ (cell_new3 ..).1 (cell_new3 ..).2.1 (cell_new3 ..).2.2
  go_wp2_with (go_at_call 27; refine hor.mono ?_; rintro e w' ⟨rfl,rfl⟩)
  go_ret
  refine ⟨rfl,1, #[.cells #[.int .i64 k,.int .i64 n,.string t] 33] ++ #[.cells #[.int .i64 k',.int .i64 n',.string t'] 33] ++ #[.cells #[.int .i64 (Lib.compareBytes t.data.toList t'.data.toList),.int .i64 (k - k'),.int .i64 (n - n')] 3],?_⟩
  subst hW
  rw [<-Sort.grow_grow,<-Sort.grow_grow]
  simp only [Sort.alloc_eq_grow]
  rfl
end Go.Proofs.YtbolanmlngjdoaaGreat
namespace Go.Proofs.YtbolanmlngjdoaaGreat
open Go.RowKit
set_option maxHeartbeats 1000000 in
set_option maxRecDepth 1000000 in
theorem walkN (n n':Int) (t t':ByteArray) (hn:-1000<=n/\n<=1000) (hn':-1000<=n'/\n'<=1000) (w:World) :
    Calls Tryz.prog 80 #[.agg #[.int .i64 n,.string t],.agg #[.int .i64 n',.string t']] w fun e w'=>e=.returned (.int .i64 (n - n'))/\∃ q os',w'=Sort.grow (w.drewN q) os':=by
  go_enter Tryz.func80,Tryz.ntmps80
  go_wp2
  go_ret
  exact ⟨rfl,0,_,by rw [Sort.alloc_eq_grow,Sort.alloc_eq_grow,Sort.grow_grow]; rfl⟩
set_option maxHeartbeats 1000000 in
set_option maxRecDepth 1000000 in
theorem walkF (n n':Int) (r r':List Value) (h:r.length=6) (h':r'.length=6) (hn:-1000<=n/\n<=1000) (hn':-1000<=n'/\n'<=1000) (w:World) :
    Calls Tryz.prog 83 #[.agg (.int .i64 n :: r).toArray,.agg (.int .i64 n' :: r').toArray] w fun e w'=>e=.returned (.int .i64 (n - n'))/\∃ q os',w'=Sort.grow (w.drewN q) os':=by
  match r,r',h,h' with
  | [a1,a2,a3,a4,a5,a6],[b1,b2,b3,b4,b5,b6],_,_=>
  show Calls Tryz.prog 83 #[.agg #[.int .i64 n,a1,a2,a3,a4,a5,a6],.agg #[.int .i64 n',b1,b2,b3,b4,b5,b6]] w _
  go_enter Tryz.func83,Tryz.ntmps83
  go_wp2
  go_ret
  exact ⟨rfl,0,_,by rw [Sort.alloc_eq_grow,Sort.alloc_eq_grow,Sort.grow_grow]; rfl⟩
end Go.Proofs.YtbolanmlngjdoaaGreat
namespace Go.Proofs
open Go.Shelf
def Tryz.sortNd_ren:Go.Shelf.Ren:=⟨fun | 6=>79 | 15=>64 | 14=>110 | 28=>104 | 29=>105 | 20=>125 | 21=>126 | 22=>127 | 23=>128 | 24=>129 | 25=>130 | 26=>131 | 27=>132 | 46=>144 | 47=>121 | 48=>122 | 49=>145 | 50=>146 | 57=>160 | n=>n,fun | 22=>109 | 24=>111 | 25=>116 | 3=>3 | 39=>100 | 0=>0 | 53=>138 | 55=>140 | 4=>4 | 46=>131 | 45=>130 | 50=>135 | 5=>5 | 9=>9 | 66=>154 | 70=>158 | 76=>172 | 77=>173 | n=>n,fun | n=>n⟩
theorem Tryz.sortNd:Go.Proofs.SlLaysF0.n6 Tryz.prog Tryz.sortNd_ren:={
  mixed:=by kernel_rfl
  f6:=⟨"slices.SortFunc[[]robotics/evolve.named,robotics/evolve.named]",by decide,Tryz.func79.trans (congrArg some (by kernel_rfl))⟩
  f14:=⟨"slices.pdqsortCmpFunc[robotics/evolve.named]",by decide,Tryz.func110.trans (congrArg some (by kernel_rfl))⟩
  f15:=Tryz.func64.trans (congrArg some (by kernel_rfl))
  f20:=⟨"slices.insertionSortCmpFunc[robotics/evolve.named]",by decide,Tryz.func125.trans (congrArg some (by kernel_rfl))⟩
  f21:=⟨"slices.heapSortCmpFunc[robotics/evolve.named]",by decide,Tryz.func126.trans (congrArg some (by kernel_rfl))⟩
  f22:=⟨"slices.breakPatternsCmpFunc[robotics/evolve.named]",by decide,Tryz.func127.trans (congrArg some (by kernel_rfl))⟩
  f23:=⟨"slices.choosePivotCmpFunc[robotics/evolve.named]",by decide,Tryz.func128.trans (congrArg some (by kernel_rfl))⟩
  f24:=⟨"slices.reverseRangeCmpFunc[robotics/evolve.named]",by decide,Tryz.func129.trans (congrArg some (by kernel_rfl))⟩
  f25:=⟨"slices.partialInsertionSortCmpFunc[robotics/evolve.named]",by decide,Tryz.func130.trans (congrArg some (by kernel_rfl))⟩
  f26:=⟨"slices.partitionEqualCmpFunc[robotics/evolve.named]",by decide,Tryz.func131.trans (congrArg some (by kernel_rfl))⟩
  f27:=⟨"slices.partitionCmpFunc[robotics/evolve.named]",by decide,Tryz.func132.trans (congrArg some (by kernel_rfl))⟩
  f28:=Tryz.func104.trans (congrArg some (by kernel_rfl))
  f29:=Tryz.func105.trans (congrArg some (by kernel_rfl))
  f46:=⟨"slices.siftDownCmpFunc[robotics/evolve.named]",by decide,Tryz.func144.trans (congrArg some (by kernel_rfl))⟩
  f47:=Tryz.func121.trans (congrArg some (by kernel_rfl))
  f48:=Tryz.func122.trans (congrArg some (by kernel_rfl))
  f49:=⟨"slices.medianAdjacentCmpFunc[robotics/evolve.named]",by decide,Tryz.func145.trans (congrArg some (by kernel_rfl))⟩
  f50:=⟨"slices.medianCmpFunc[robotics/evolve.named]",by decide,Tryz.func146.trans (congrArg some (by kernel_rfl))⟩
  f57:=⟨"slices.order2CmpFunc[robotics/evolve.named]",by decide,Tryz.func160.trans (congrArg some (by kernel_rfl))⟩
  t0:=Tryz.underlying0
  a0:=Tryz.isAgg0
  z0:=Tryz.sizeOf0
  v0:=Tryz.zeroValue0
  t3:=Tryz.underlying3
  a3:=Tryz.isAgg3
  z3:=Tryz.sizeOf3
  v3:=Tryz.zeroValue3
  t4:=Tryz.underlying4
  a4:=Tryz.isAgg4
  z4:=Tryz.sizeOf4
  v4:=Tryz.zeroValue4
  t5:=Tryz.underlying5
  a5:=Tryz.isAgg5
  z5:=Tryz.sizeOf5
  v5:=Tryz.zeroValue5
  t9:=Tryz.underlying9
  a9:=Tryz.isAgg9
  z9:=Tryz.sizeOf9
  v9:=Tryz.zeroValue9
  t22:=Tryz.underlying109
  a22:=Tryz.isAgg109
  z22:=Tryz.sizeOf109
  v22:=Tryz.zeroValue109
  t25:=Tryz.underlying116
  a25:=Tryz.isAgg116
  z25:=Tryz.sizeOf116
  v25:=Tryz.zeroValue116
  t39:=Tryz.underlying100
  a39:=Tryz.isAgg100
  z39:=Tryz.sizeOf100
  v39:=Tryz.zeroValue100
  t45:=Tryz.underlying130
  a45:=Tryz.isAgg130
  z45:=Tryz.sizeOf130
  v45:=Tryz.zeroValue130
  t46:=Tryz.underlying131
  a46:=Tryz.isAgg131
  z46:=Tryz.sizeOf131
  v46:=Tryz.zeroValue131
  t50:=Tryz.underlying135
  a50:=Tryz.isAgg135
  z50:=Tryz.sizeOf135
  v50:=Tryz.zeroValue135
  t53:=Tryz.underlying138
  a53:=Tryz.isAgg138
  z53:=Tryz.sizeOf138
  v53:=Tryz.zeroValue138
  t55:=Tryz.underlying140
  a55:=Tryz.isAgg140
  z55:=Tryz.sizeOf140
  v55:=Tryz.zeroValue140
  t66:=Tryz.underlying154
  a66:=Tryz.isAgg154
  z66:=Tryz.sizeOf154
  v66:=Tryz.zeroValue154
  t70:=Tryz.underlying158
  a70:=Tryz.isAgg158
  z70:=Tryz.sizeOf158
  v70:=Tryz.zeroValue158
  t76:=Tryz.underlying172
  a76:=Tryz.isAgg172
  z76:=Tryz.sizeOf172
  v76:=Tryz.zeroValue172
  t77:=Tryz.underlying173
  a77:=Tryz.isAgg173
  z77:=Tryz.sizeOf173
  v77:=Tryz.zeroValue173 }
def Tryz.sortFl_ren:Go.Shelf.Ren:=⟨fun | 6=>82 | 15=>64 | 14=>111 | 28=>104 | 29=>105 | 20=>133 | 21=>134 | 22=>135 | 23=>136 | 24=>137 | 25=>138 | 26=>139 | 27=>140 | 46=>147 | 47=>121 | 48=>122 | 49=>148 | 50=>149 | 57=>161 | n=>n,fun | 22=>35 | 24=>50 | 25=>119 | 3=>3 | 39=>100 | 0=>0 | 53=>138 | 55=>140 | 4=>4 | 46=>131 | 45=>130 | 50=>135 | 5=>5 | 9=>9 | 66=>154 | 70=>158 | 76=>172 | 77=>173 | n=>n,fun | n=>n⟩
theorem Tryz.sortFl:Go.Proofs.SlLaysF0.n6 Tryz.prog Tryz.sortFl_ren:={
  mixed:=by kernel_rfl
  f6:=⟨"slices.SortFunc[[]robotics/api.Field,robotics/api.Field]",by decide,Tryz.func82.trans (congrArg some (by kernel_rfl))⟩
  f14:=⟨"slices.pdqsortCmpFunc[robotics/api.Field]",by decide,Tryz.func111.trans (congrArg some (by kernel_rfl))⟩
  f15:=Tryz.func64.trans (congrArg some (by kernel_rfl))
  f20:=⟨"slices.insertionSortCmpFunc[robotics/api.Field]",by decide,Tryz.func133.trans (congrArg some (by kernel_rfl))⟩
  f21:=⟨"slices.heapSortCmpFunc[robotics/api.Field]",by decide,Tryz.func134.trans (congrArg some (by kernel_rfl))⟩
  f22:=⟨"slices.breakPatternsCmpFunc[robotics/api.Field]",by decide,Tryz.func135.trans (congrArg some (by kernel_rfl))⟩
  f23:=⟨"slices.choosePivotCmpFunc[robotics/api.Field]",by decide,Tryz.func136.trans (congrArg some (by kernel_rfl))⟩
  f24:=⟨"slices.reverseRangeCmpFunc[robotics/api.Field]",by decide,Tryz.func137.trans (congrArg some (by kernel_rfl))⟩
  f25:=⟨"slices.partialInsertionSortCmpFunc[robotics/api.Field]",by decide,Tryz.func138.trans (congrArg some (by kernel_rfl))⟩
  f26:=⟨"slices.partitionEqualCmpFunc[robotics/api.Field]",by decide,Tryz.func139.trans (congrArg some (by kernel_rfl))⟩
  f27:=⟨"slices.partitionCmpFunc[robotics/api.Field]",by decide,Tryz.func140.trans (congrArg some (by kernel_rfl))⟩
  f28:=Tryz.func104.trans (congrArg some (by kernel_rfl))
  f29:=Tryz.func105.trans (congrArg some (by kernel_rfl))
  f46:=⟨"slices.siftDownCmpFunc[robotics/api.Field]",by decide,Tryz.func147.trans (congrArg some (by kernel_rfl))⟩
  f47:=Tryz.func121.trans (congrArg some (by kernel_rfl))
  f48:=Tryz.func122.trans (congrArg some (by kernel_rfl))
  f49:=⟨"slices.medianAdjacentCmpFunc[robotics/api.Field]",by decide,Tryz.func148.trans (congrArg some (by kernel_rfl))⟩
  f50:=⟨"slices.medianCmpFunc[robotics/api.Field]",by decide,Tryz.func149.trans (congrArg some (by kernel_rfl))⟩
  f57:=⟨"slices.order2CmpFunc[robotics/api.Field]",by decide,Tryz.func161.trans (congrArg some (by kernel_rfl))⟩
  t0:=Tryz.underlying0
  a0:=Tryz.isAgg0
  z0:=Tryz.sizeOf0
  v0:=Tryz.zeroValue0
  t3:=Tryz.underlying3
  a3:=Tryz.isAgg3
  z3:=Tryz.sizeOf3
  v3:=Tryz.zeroValue3
  t4:=Tryz.underlying4
  a4:=Tryz.isAgg4
  z4:=Tryz.sizeOf4
  v4:=Tryz.zeroValue4
  t5:=Tryz.underlying5
  a5:=Tryz.isAgg5
  z5:=Tryz.sizeOf5
  v5:=Tryz.zeroValue5
  t9:=Tryz.underlying9
  a9:=Tryz.isAgg9
  z9:=Tryz.sizeOf9
  v9:=Tryz.zeroValue9
  t22:=Tryz.underlying35
  a22:=Tryz.isAgg35
  z22:=Tryz.sizeOf35
  v22:=Tryz.zeroValue35
  t25:=Tryz.underlying119
  a25:=Tryz.isAgg119
  z25:=Tryz.sizeOf119
  v25:=Tryz.zeroValue119
  t39:=Tryz.underlying100
  a39:=Tryz.isAgg100
  z39:=Tryz.sizeOf100
  v39:=Tryz.zeroValue100
  t45:=Tryz.underlying130
  a45:=Tryz.isAgg130
  z45:=Tryz.sizeOf130
  v45:=Tryz.zeroValue130
  t46:=Tryz.underlying131
  a46:=Tryz.isAgg131
  z46:=Tryz.sizeOf131
  v46:=Tryz.zeroValue131
  t50:=Tryz.underlying135
  a50:=Tryz.isAgg135
  z50:=Tryz.sizeOf135
  v50:=Tryz.zeroValue135
  t53:=Tryz.underlying138
  a53:=Tryz.isAgg138
  z53:=Tryz.sizeOf138
  v53:=Tryz.zeroValue138
  t55:=Tryz.underlying140
  a55:=Tryz.isAgg140
  z55:=Tryz.sizeOf140
  v55:=Tryz.zeroValue140
  t66:=Tryz.underlying154
  a66:=Tryz.isAgg154
  z66:=Tryz.sizeOf154
  v66:=Tryz.zeroValue154
  t70:=Tryz.underlying158
  a70:=Tryz.isAgg158
  z70:=Tryz.sizeOf158
  v70:=Tryz.zeroValue158
  t76:=Tryz.underlying172
  a76:=Tryz.isAgg172
  z76:=Tryz.sizeOf172
  v76:=Tryz.zeroValue172
  t77:=Tryz.underlying173
  a77:=Tryz.isAgg173
  z77:=Tryz.sizeOf173
  v77:=Tryz.zeroValue173 }
end Go.Proofs
namespace Go.W
open Go.RowKit
structure Stay (w w':World):Prop where
  os:w'.os=w.os
  out:w'.output=w.output
  size:w.heap.size<=w'.heap.size
  keep:∀ b:Nat,b < w.heap.size->w'.heap[b]? = w.heap[b]?
theorem Stay.kept {w w':World} (h:Stay w w') (may:MemPlace->Prop):w.keptBut w' may:=by
  refine ⟨h.os,h.out,fun i hi=>?_⟩
  rw [h.keep i hi]
  split
  · rename_i h1 h2; rw [h1] at h2; cases h2; exact ⟨rfl,rfl,rfl,fun _ _=>rfl⟩
  · rename_i h1 h2; rw [h1] at h2; cases h2; exact Or.inr ⟨rfl,rfl⟩
  · rfl
theorem Stay.frozen {w w':World} (h:Stay w w') {a:Addr} (ha:a.block < w.heap.size):w'.frozen? a=w.frozen? a:=by
  unfold World.frozen?; rw [h.keep _ ha]
theorem Stay.cell {w w':World} (h:Stay w w') {a:Addr} (ha:a.block < w.heap.size):w'.cell? a=w.cell? a:=by
  unfold World.cell?; rw [h.keep _ ha]
theorem rel_nil {w:World} {ro:RO} (h:∀ (b off:Nat) (v:Value),ro b off=some v->w.cell? ⟨b,off,none⟩=some v):Rel ⟨w,blks [],ro,gm []⟩ [] ro w where
  own:=fun n g blk h=>by simp at h
  inj:=fun n m gn gm bn bm b h=>by simp at h
  apart:=fun b off v _ n g blk h=>by simp at h
  rd:=h
  ro0:=fun _ _ _ h=>h
  rob:=fun b off v h=>.inl h
  par:=fun n b g blk h=>by simp at h
  gx:=.refl _
  sz:=Nat.le_refl _
  keep:=fun b _ _=>rfl
  os:=rfl
  tape:=rfl
  output:=rfl
theorem Meets.run {P:Program} {f:FuncId} {s:Fun} (hm:Meets P f s.sp) {av:List S} {vs:List Value} {ro:RO} {w:World} {x:A} (hpre:s.pre av) (hval:s.val av=x) (hl:av.length=vs.length)
    (hrel:∀ (i:Nat) (x:S) (v:Value),av[i]? = some x->vs[i]? = some v->x.rel (gm []) ro v) (hro:∀ (b off:Nat) (v:Value),ro b off=some v->w.cell? ⟨b,off,none⟩=some v) :
    Calls P f vs.toArray w fun e w'=>∃ v γ ro',e=.returned v/\S.rel γ ro' (.va x) v/\Stay w w':=by
  subst hval
  refine (hm.2 av vs [] ro w (fun r H=>r=.va (s.val av)/\H=[]) hl hrel (rel_nil hro) ⟨⟨hpre,rfl⟩,rfl,rfl⟩).mono ?_
  rintro e w' ⟨r,v,E',ro',rfl,h1,⟨rfl,h2⟩,h3⟩
  exact ⟨v,_,ro',rfl,h1,h3.os,h3.output,h3.sz,fun b hb=>h3.keep b hb (by simp [blks])⟩
theorem Meets.yes {P:Program} {f:FuncId} {s:Fun} (hm:Meets P f s.sp) {av:List S} {vs:List Value} {ro:RO} {w:World} (hpre:s.pre av) (hval:s.val av=.c1 (.vl (.bool true))) (hl:av.length=vs.length)
    (hrel:∀ (i:Nat) (x:S) (v:Value),av[i]? = some x->vs[i]? = some v->x.rel (gm []) ro v) (hro:∀ (b off:Nat) (v:Value),ro b off=some v->w.cell? ⟨b,off,none⟩=some v) :
    Calls P f vs.toArray w fun e w'=>e=.returned (.bool true)/\Stay w w':=by
  refine (hm.run hpre hval hl hrel hro).mono ?_
  rintro e w' ⟨v,γ,ro',rfl,h1,h2⟩
  have:v=.bool true:=h1
  exact ⟨by rw [this],h2⟩
section
variable {H:Type} {enc:TypeId × Value->H} {P:Program}
theorem post_of_stay {f:Func} {s:ChangeSpec} {apart fresh handsOn again:Bool} {W W':World} {args:Array Value} {v:Value} {ds gs:List (DataW H)} {before pa pv:List MemPlace}
    (hW:DataW.Whole enc P f.params.toList s.vars apart W args.toList ds gs before)
    (hres:∀ (b:Nat) (sp:Nat->Bool) (hd:Bool),DataW.TrodAll enc P W' b sp hd f.resultTypes.toList (v.resultList f.resultTypes.size) (s.fn H (ds ++ gs)).results [])
    (hargs:∀ sp:Nat->Bool,(∀ p ∈ before,sp p.block=true)->DataW.TrodAll enc P W' 0 sp true f.params.toList args.toList (s.fn H (ds ++ gs)).args pa)
    (hvars:∀ sp:Nat->Bool,(∀ p ∈ before,sp p.block=true)->DataW.TrodVars enc P W' sp s.vars (s.fn H (ds ++ gs)).vars pv)
    (hps:before=pa ++ pv) (hs:Stay W W')
    (hok:∀ (j:Nat) (t:TypeId) (r:Value),f.resultTypes[j]? = some t->(v.resultList f.resultTypes.size)[j]? = some r->Value.okWide P W' .any 0 t r) :
    s.post enc P f apart fresh handsOn again W args v W':=by
  have hlt:∀ p ∈ before,p.block < W.heap.size:=fun p hp=>hW.lt p hp
  have hsp:∀ p ∈ before,(fun b=>decide (b < W.heap.size)) p.block=true:=fun p hp=>by simpa using hlt p hp
  have hall:∀ p ∈ before,(fun _:Nat=>true) p.block=true:=fun _ _=>rfl
  obtain ⟨_,_,_,_,_,hz,hn⟩:=id hW
  refine ⟨ds,gs,before,[],pa,pv,hW,hres _ _ _,hargs _ hsp,hvars _ hsp,World.keptBut_mono (fun p hp=>⟨hp,.inr ?_⟩) (hs.kept (· ∈ before)),fun _=>⟨hok,_,_,([] ++ pa) ++ pv,
    ⟨[] ++ pa,pv,ChangeShapes.trodAll_append (hargs _ hall) (hres _ _ _),hvars _ hall,rfl,fun b off hp=>?_,fun ha=>?_⟩,fun p hp _=>?_⟩⟩
  · rw [hps,List.mem_append] at hp; exact hp
  · have hb:MemPlace.cell b off ∈ before:=by rw [hps]; simpa using hp
    rw [hs.frozen (hlt _ hb)]
    exact hz b off hb
  · have:=hn ha
    rw [hps] at this
    simpa using this
  · rw [hps]
    simpa using hp
end
end Go.W
namespace Go.W
open Go.RowKit
def roW (W:World):RO:=fun b off=>W.cell? ⟨b,off,none⟩
theorem roW_ok (W:World):∀ (b off:Nat) (v:Value),roW W b off=some v->W.cell? ⟨b,off,none⟩=some v:=fun _ _ _ h=>h
theorem fz_nil (ro:RO):FzR ro [] (.slice none 0 0):=
  FzR.mk [] 1 none none (fun h=>absurd rfl h) 0 (fun _=>.bool true) (by simp) (by simp) (by simp) (by simp) (by simp) (by simp) (by simp)
def slicesRoom (P:Program):Bool:=(List.range P.types.size).all fun t=>match P.underlying t with | some (.slice e)=>decide (0 < P.cellsOf e) | _=>true
section
variable {H:Type} {enc:TypeId × Value->H} {P:Program}
theorem stay_same {W W':World} (h:Stay W W') {p:MemPlace} (hp:p.block < W.heap.size):W.sameAt W' p:=by
  cases p with
  | cell b off=>exact h.cell (a:=⟨b,off,none⟩) hp
  | map b=>exact h.keep b hp
theorem trodAll_stay {W W':World} {sp:Nat->Bool} (hl:laidOutB P=true) (hm:mapsRowed P=true) (hs:slicesRoom P=true) (hst:Stay W W') :
    ∀ {ts:List TypeId} {vs:List Value} {ds:List (DataW H)} {ps:List MemPlace},(∀ t ∈ ts,t < P.types.size)->DataW.TrodAll enc P W 0 (fun _=>true) true ts vs ds ps->(∀ p ∈ ps,p.block < W.heap.size)->(∀ p ∈ ps,sp p.block=true)->
      DataW.TrodAll enc P W' 0 sp true ts vs ds ps
  | [],[],[],ps,_,h,_,_=>h
  | t :: ts,v :: vs,d :: ds,ps,ht,h,hb,hp=>by
    obtain ⟨p,q,⟨n,h1⟩,h2,rfl⟩:=h
    have hsz:∀ {t e:TypeId},t < P.types.size->P.underlying t=some (.slice e)->0 < P.cellsOf e:=fun {t e} ht hu=>by
      have:=List.all_eq_true.1 hs t (List.mem_range.2 ht)
      rw [hu] at this
      simpa using this
    exact ⟨p,q,⟨n,DataW.trod_stays (T:=(· < P.types.size)) (kids_rows hl hm) hsz (fun h=>by cases h) (ht t (by simp)) h1 (fun x hx=>stay_same hst (hb x (by simp [hx]))) (fun x hx=>hp x (by simp [hx]))⟩,
      trodAll_stay hl hm hs hst (fun u hu=>ht u (by simp [hu])) h2 (fun x hx=>hb x (by simp [hx])) (fun x hx=>hp x (by simp [hx])),rfl⟩
  | [],_ :: _,_,_,_,h,_,_=>h.elim
  | [],[],_ :: _,_,_,h,_,_=>h.elim
  | _ :: _,[],_,_,_,h,_,_=>h.elim
  | _ :: _,_ :: _,[],_,_,h,_,_=>h.elim
theorem law_post {f:Func} {s:ChangeSpec} {apart fresh handsOn again:Bool} {W W':World} {args:Array Value} {ds gs:List (DataW H)} {before:List MemPlace} {tb:TypeId}
    (hl:laidOutB P=true) (hm:mapsRowed P=true) (hsr:slicesRoom P=true) (hps:∀ t ∈ f.params.toList,t < P.types.size) (hrt:f.resultTypes=#[tb]) (htb:P.underlying tb=some .bool)
    (hvars:s.vars=[]) (hW:DataW.Whole enc P f.params.toList s.vars apart W args.toList ds gs before) (hfn:s.fn H (ds ++ gs)={ results:=[.lit (.bool true)],args:=ds,vars:=[] }) (hst:Stay W W') :
    s.post enc P f apart fresh handsOn again W args (.bool true) W':=by
  have hlt:∀ p ∈ before,p.block < W.heap.size:=fun p hp=>hW.lt p hp
  obtain ⟨p,q,hA,hV,hb,_,_⟩:=id hW
  have hq:q=[]:=by
    rw [hvars] at hV
    cases gs with
    | nil=>exact hV
    | cons g gs=>exact hV.elim
  subst hq
  have hbp:before=p:=by rw [hb]; simp
  refine post_of_stay (pa:=p) (pv:=[]) hW (fun b sp hd=>?_) (fun sp hsp=>?_) (fun sp hsp=>?_) hb hst ?_
  · rw [hrt,hfn]
    exact ⟨[],[],⟨1,by simp [DataW.trod,Value.cells,htb]⟩,rfl,rfl⟩
  · rw [hfn]
    rw [hbp] at hlt hsp
    exact trodAll_stay hl hm hsr hst hps hA hlt hsp
  · rw [hfn,hvars]; rfl
  · intro j t r h1 h2
    rw [hrt] at h1 h2
    match j with
    | 0=>
      cases h1
      cases h2
      simp [Value.okWide,Cell.okWide,Cell.ok,htb]
    | j + 1=>cases h1
end
end Go.W
namespace Go.W
open Go.Sort Go.Proofs
theorem perm_lift {α β:Type} {f:α->β}:∀ {l' l:List β},l'.Perm l->∀ {Z:List α},Z.map f=l->∃ Z':List α,Z'.map f=l'/\Z'.Perm Z:=by
  intro l' l h
  induction h with
  | nil=>intro Z hZ; exact ⟨Z,hZ,.refl _⟩
  | cons x _ ih=>
    intro Z hZ
    cases Z with
    | nil=>cases hZ
    | cons z Z=>
      simp only [List.map_cons,List.cons.injEq] at hZ
      obtain ⟨Z',h1,h2⟩:=ih hZ.2
      exact ⟨z :: Z',by simp [h1,hZ.1],h2.cons z⟩
  | swap x y l=>
    intro Z hZ
    match Z,hZ with
    | a :: b :: Z,hZ=>
      simp only [List.map_cons,List.cons.injEq] at hZ
      exact ⟨b :: a :: Z,by simp [hZ.1,hZ.2.1,hZ.2.2],.swap a b Z⟩
  | trans _ _ ih1 ih2=>
    intro Z hZ
    obtain ⟨Z1,h1,h2⟩:=ih2 hZ
    obtain ⟨Z2,h3,h4⟩:=ih1 h1
    exact ⟨Z2,h3,h4.trans h2⟩
theorem flatL_len {α:Type} {k:Nat}:∀ {l:List (List α)},(∀ x ∈ l,x.length=k)->l.flatten.length=l.length * k
  | [],_=>by simp
  | x :: l,h=>by
    rw [List.flatten_cons,List.length_append,flatL_len fun y hy=>h y (by simp [hy]),h x (by simp),List.length_cons,Nat.succ_mul]
    omega
theorem flatL_at {α:Type} {k:Nat}:∀ {l:List (List α)},(∀ x ∈ l,x.length=k)->∀ {i j:Nat},i < l.length->j < k->l.flatten[i * k + j]? = (l[i]?).bind (·[j]?)
  | [],_,i,j,hi,_=>by simp at hi
  | x :: l,h,i,j,hi,hj=>by
    have hx:=h x (by simp)
    cases i with
    | zero=>simp [List.getElem?_append,hx,hj]
    | succ i=>
      rw [List.flatten_cons,List.getElem?_append_right (by rw [hx,Nat.succ_mul]; omega),hx,show (i + 1) * k + j - k=i * k + j by rw [Nat.succ_mul]; omega]
      simpa using flatL_at (fun y hy=>h y (by simp [hy])) (by simpa using hi) hj
theorem flatK_list {α:Type} [Inhabited α] {enc:α->List Value} {k:Nat} (hk:∀ x,(enc x).length=k) (h0:0 < k) (l:List α):(flatK enc k l.toArray).toList=(l.map enc).flatten:=by
  have hl:∀ x ∈ l.map enc,x.length=k:=fun x hx=>by obtain ⟨a,_,rfl⟩:=List.mem_map.1 hx; exact hk a
  refine List.ext_getElem? fun t=>?_
  rcases Nat.lt_or_ge t (l.length * k) with ht | ht
  · have hd:t / k < l.length:=Nat.div_lt_of_lt_mul (by rwa [Nat.mul_comm])
    have hm:t % k < k:=Nat.mod_lt _ h0
    have e1:=flatL_at hl (i:=t / k) (j:=t % k) (by simpa using hd) hm
    rw [Nat.div_add_mod' t k] at e1
    rw [e1,List.getElem?_map,List.getElem?_eq_getElem hd]
    simp only [flatK]
    have hz:t % k < (enc l[t / k]).length:=by rw [hk]; exact hm
    simp [ht,hd,hz]
  · rw [List.getElem?_eq_none (by simpa using ht),List.getElem?_eq_none (by rw [flatL_len hl]; simpa using ht)]
theorem row_parts {ro:RO} {α:Type} {enc:α->List Value} {R:α->List C->Prop} {k:Nat} {row:List C->Prop} (hR:∀ r vs,row r->All2 (C.fv ro) r vs->∃ a,enc a=vs/\R a r) :
    ∀ {xs:List (List C)} {vs:List Value},(∀ r ∈ xs,row r)->(∀ r ∈ xs,r.length=k)->All2 (C.fv ro) xs.flatten vs->∃ Z:List (α × List C),Z.map Prod.snd=xs/\(Z.map fun z=>enc z.1).flatten=vs/\∀ z ∈ Z,R z.1 z.2/\All2 (C.fv ro) z.2 (enc z.1)
  | [],vs,_,_,h=>⟨[],rfl,by simpa using (All2.nil_inv h).symm,fun z hz=>by cases hz⟩
  | r :: xs,vs,h1,h2,h=>by
    rw [List.flatten_cons] at h
    have hr:=h2 r (by simp)
    have ha:All2 (C.fv ro) r (vs.take k):=by
      have:=h.take k
      rwa [List.take_left' hr] at this
    have hb:All2 (C.fv ro) xs.flatten (vs.drop k):=by
      have:=h.drop k
      rwa [List.drop_left' hr] at this
    obtain ⟨a,h3,h4⟩:=hR r _ (h1 r (by simp)) ha
    obtain ⟨Z,h5,h6,h7⟩:=row_parts hR (fun x hx=>h1 x (by simp [hx])) (fun x hx=>h2 x (by simp [hx])) hb
    refine ⟨(a,r) :: Z,by simp [h5],by simp [h6,h3],fun z hz=>?_⟩
    rcases List.mem_cons.1 hz with rfl | hz
    · exact ⟨h4,by rw [h3]; exact ha⟩
    · exact h7 z hz
def srSp (g T k:Nat) (row:List C->Prop) (lt:List C->List C->Bool):W.Spec:=fun av H K=>∃ xs:List (List C),av=[.va (.c1 (.sl 0 xs.length)),.va (.c1 (.fn g []))]/\H=[.row xs T k]/\(∀ r ∈ xs,row r)/\xs.length<=1000000000/\∀ xs':List (List C),xs'.Perm xs->xs'.Pairwise (fun a b=>lt b a=false)->K (.tu []) [.row xs' T k]
theorem fv_all {ro:RO} {r:List (List C)} {E:List (List Value)} (h:All2 (fun x y=>All2 (C.fv ro) x y) r E):All2 (C.fv ro) r.flatten E.flatten:=by
  induction r generalizing E with
  | nil=>rw [All2.nil_inv h]; exact .nil
  | cons x r ih=>
    obtain ⟨y,E',rfl,h1,h2⟩:=All2.cons_inv h
    rw [List.flatten_cons,List.flatten_cons]
    exact h1.app (ih h2)
set_option maxHeartbeats 1000000 in
theorem meets_srt {P:Program} {f g T k:Nat} (h0:0 < k) (hen:enters P f=true) {α:Type} [Inhabited α] {enc:α->List Value} (hk:∀ x,(enc x).length=k) {cf:α->α->Int} {row:List C->Prop} {lt:List C->List C->Bool} {R:α->List C->Prop}
    (hR:∀ (ro:RO) (r:List C) (vs:List Value),row r->All2 (C.fv ro) r vs->∃ a,enc a=vs/\R a r) (hlt:∀ a r b s,R a r->R b s->ltOf cf a b=lt r s)
    (key:∀ (blk cap:Nat) (d:Array α) (w:World),HoldsK enc k w blk 0 d->blk < w.heap.size->d.size < 4611686018427387904->Calls P f #[.slice (some ⟨blk,0,none⟩) d.size cap,.func (.func g) #[] #[]] w fun e w'=>
      e=.returned (.tuple #[])/\∃ d' n os,PermIn 0 d.size d d'/\SortedIn (ltOf cf) 0 d.size d'/\w'=sortWorldK enc k w blk 0 n d' os)
    (key0:∀ w:World,Calls P f #[.slice none 0 0,.func (.func g) #[] #[]] w fun e w'=>e=.returned (.tuple #[])/\w'=w):Meets P f (srSp g T k row lt):=by
  refine ⟨hen,fun av vs E ro w K hlen hrel hR0 hs=>?_⟩
  obtain ⟨xs,rfl,hH,hrow,hl,hK⟩:=hs
  match E,hH with
  | [(gb,blk)],hH=>
    obtain rfl:blk=.row xs T k:=by simpa [hp] using hH
    match vs,hlen with
    | [v0,v1],_=>
      have r0:=hrel 0 _ _ rfl rfl
      have r1:=hrel 1 _ _ rfl rfl
      obtain ⟨ws,hv1,hws⟩:∃ ws:List Value,v1=.func (.func g) #[] ws.toArray/\All2 (capR (gm [(gb,.row xs T k)]) ro) [] ws:=r1
      obtain rfl:=All2.nil_inv hws
      subst hv1
      have hon:=hR0.own 0 gb _ rfl
      obtain ⟨o1,o2,o3,o4,o5,o6,o7⟩:=hon
      obtain ⟨g',hg',_,_,_,hv0⟩:=r0
      obtain rfl:gb=g':=by simpa [gm] using hg'
      obtain rfl:=hv0 o2.symm
      obtain ⟨l1,l2⟩:=o5
      obtain ⟨Z,z1,z2,z3⟩:=row_parts (hR ro) hrow o3 o6
      rcases l2 with ⟨hn,h1⟩ | ⟨b,cap,cur,hsl,_,hb,hcap,hmax,hcs,htk⟩
      · obtain rfl:=List.eq_nil_of_length_eq_zero h1
        have hK:=hK [] (.refl _) .nil
        rw [show (Value.slice (obA gb.ob 0) ([]:List (List C)).length gb.cap)=.slice none 0 0 from hn]
        refine (key0 w).mono ?_
        rintro e w' ⟨rfl,rfl⟩
        exact ⟨.tu [],_,[(gb,.row [] T k)],ro,rfl,⟨[],rfl,.nil⟩,hK,hR0⟩
      have hob:gb.ob=some b:=by
        cases hgo:gb.ob with
        | none=>rw [hgo] at hsl; simp [obA] at hsl
        | some b'=>rw [hgo] at hsl; simp [obA] at hsl; rw [hsl.1]
      have hgc:gb.cap=cap:=by simp at hsl; exact hsl.2
      have hbs:b < w.heap.size:=by
        rcases Nat.lt_or_ge b w.heap.size with h' | h'
        · exact h'
        · rw [Array.getElem?_eq_none h'] at hb; cases hb
      have hZl:Z.length=xs.length:=by rw [<-z1,List.length_map]
      obtain ⟨d,hd⟩:∃ d:List α,d=Z.map Prod.fst:=⟨_,rfl⟩
      have hdl:d.length=xs.length:=by rw [hd,List.length_map,hZl]
      have hfl:(flatK enc k d.toArray).toList=gb.vs:=by
        rw [flatK_list hk h0,hd,List.map_map]; exact z2
      have hvl:gb.vs.length=xs.length * k:=l1
      have hcell:HoldsK enc k w b 0 d.toArray:=by
        intro j hj
        have hj':j < xs.length * k:=by simpa [hdl] using hj
        refine ⟨?_,by simp [World.frozen?,hb]⟩
        have e1:(flatK enc k d.toArray)[j]? = gb.vs[j]?:=by rw [<-hfl]; simp
        have e2:gb.vs[j]? = cur[j]?:=by
          rw [<-htk,List.getElem?_take,if_pos hj']; simp
        have hj2:j < (flatK enc k d.toArray).size:=by simpa using hj
        rw [Nat.zero_add]
        simp only [World.cell?,hb]
        rw [<-e2,<-e1,Array.getElem?_eq_getElem hj2,getElem!_pos _ j hj2]
        simp
      rw [hob,hgc]
      have hkey:=key b cap d.toArray w hcell hbs (by simp; omega)
      rw [show d.toArray.size=xs.length by simp [hdl]] at hkey
      refine hkey.mono ?_
      rintro e w' ⟨rfl,d',n,os,⟨hp1,_,hp3⟩,hsrt,rfl⟩
      rw [show (0:Nat)=0 from rfl] at hp3
      have hd's:d'.size=xs.length:=by rw [hp1]; simp [hdl]
      have hperm:d'.toList.Perm d:=by
        have e1:d'.extract 0 xs.length=d':=by rw [<-hd's]; simp
        have e2:d.toArray.extract 0 xs.length=d.toArray:=by rw [<-hdl]; simp
        rw [e1,e2] at hp3
        simpa using hp3
      obtain ⟨Z',y1,y2⟩:=perm_lift hperm hd.symm
      obtain ⟨xs',hx'⟩:∃ xs':List (List C),xs'=Z'.map Prod.snd:=⟨_,rfl⟩
      have hxp:xs'.Perm xs:=by rw [hx',<-z1]; exact y2.map _
      have hxl:xs'.length=xs.length:=hxp.length_eq
      have y3:∀ z ∈ Z',R z.1 z.2/\All2 (C.fv ro) z.2 (enc z.1):=fun z hz=>z3 z (y2.mem_iff.1 hz)
      have hsx:xs'.Pairwise (fun a b=>lt b a=false):=by
        rw [hx',List.pairwise_map,List.pairwise_iff_getElem]
        intro i j hi hj hij
        have hz1:=y3 Z'[i] (List.getElem_mem hi)
        have hz2:=y3 Z'[j] (List.getElem_mem hj)
        rw [<-hlt _ _ _ _ hz2.1 hz1.1]
        have hZ'l:Z'.length=xs.length:=by rw [<-hxl,hx',List.length_map]
        have:=hsrt i j (Nat.zero_le _) hij (by omega)
        have ei:d'[i]! = Z'[i].1:=by
          have:d'.toList[i]? = (Z'.map Prod.fst)[i]?:=by rw [y1]
          rw [getElem!_pos d' i (by omega)]
          simpa [hi,show i < d'.size by omega] using this
        have ej:d'[j]! = Z'[j].1:=by
          have:d'.toList[j]? = (Z'.map Prod.fst)[j]?:=by rw [y1]
          rw [getElem!_pos d' j (by omega)]
          simpa [hj,show j < d'.size by omega] using this
        rw [ei,ej] at this
        exact this
      have hK:=hK xs' hxp hsx
      obtain ⟨us,hus⟩:∃ us:List Value,us=(flatK enc k d').toList:=⟨_,rfl⟩
      have hul:us.length=xs.length * k:=by rw [hus]; simp [hd's]
      have hus2:us=(Z'.map fun z=>enc z.1).flatten:=by
        rw [hus,show d'=d'.toList.toArray by simp,flatK_list hk h0,<-y1,List.map_map]; rfl
      have hrel':All2 (C.fv ro) xs'.flatten us:=by
        rw [hus2,hx']
        refine fv_all ⟨by simp,fun i x y hx hy=>?_⟩
        rw [List.getElem?_map] at hx hy
        cases hz:Z'[i]? with
        | none=>rw [hz] at hx; cases hx
        | some z=>
          rw [hz] at hx hy
          cases hx; cases hy
          exact (y3 z (List.mem_of_getElem? hz)).2
      obtain ⟨W',hW⟩:∃ W',W'=sortWorldK enc k w b 0 n d' os:=⟨_,rfl⟩
      have hmod:(putRowK enc k (Sort.ahead w n) b 0 d').heap.size=w.heap.size:=by simp [putRowK,putRow,mapBlock,Sort.ahead]
      have hgo:∀ {j:Nat},j < w.heap.size->W'.heap[j]? = (putRowK enc k (Sort.ahead w n) b 0 d').heap[j]?:=fun {j} hj=>by
        rw [hW]; simp only [sortWorldK,grow]; rw [Array.getElem?_append_left (by rw [hmod]; exact hj)]
      have hb':W'.heap[b]? = some (.cells (putCells id 0 (flatK enc k d') cur) T (0,0)):=by
        rw [hgo hbs]
        unfold putRowK putRow mapBlock
        simp [Array.getElem?_modify,Sort.ahead,hb,onCells]
      have hne:∀ j,j ≠ b->j < w.heap.size->W'.heap[j]? = w.heap[j]?:=fun j h1 h2=>by
        rw [hgo h2]
        unfold putRowK putRow mapBlock
        simp [Array.getElem?_modify,Sort.ahead,Ne.symm h1]
      have hsz:w.heap.size<=W'.heap.size:=by rw [hW]; simp [sortWorldK,grow,hmod]
      have hrest:W'.os=w.os/\W'.tape=w.tape/\W'.output=w.output:=by rw [hW]; exact ⟨rfl,rfl,rfl⟩
      rw [<-hW]
      clear hW
      have htk':(putCells id 0 (flatK enc k d') cur).toList.take (xs'.length * k)=us:=by
        rw [hxl]
        refine List.ext_getElem? fun j=>?_
        rw [List.getElem?_take]
        rcases Nat.lt_or_ge j (xs.length * k) with hj | hj
        · rw [if_pos hj]
          have h1:j < cur.size:=by rw [hcs]; exact Nat.lt_of_lt_of_le hj (Nat.mul_le_mul_right k hcap)
          have h2:j < (flatK enc k d').size:=by simpa [hd's] using hj
          rw [hus]
          simp only [putCells,Array.getElem?_toList,Array.getElem?_mapIdx,Array.getElem?_eq_getElem h1,Option.map_some,Nat.zero_le,true_and,Nat.zero_add,Nat.sub_zero,id]
          rw [if_pos h2,Array.getElem?_eq_getElem h2,getElem!_pos _ j h2]
        · rw [if_neg (by omega),List.getElem?_eq_none (by omega)]
      have hown:B.On (gm [(⟨some b,true,xs'.length,cap,gb.T,us⟩,.row xs' T k)]) ro W' ⟨some b,true,xs'.length,cap,gb.T,us⟩ (.row xs' T k):=by
        refine ⟨rfl,rfl,fun x hx=>o3 x (hxp.mem_iff.1 hx),fun c hc=>?_,⟨by rw [hxl]; exact hul,.inr ⟨b,cap,putCells id 0 (flatK enc k d') cur,by simp [obA],Nat.zero_le _,hb',by rw [hxl]; exact hcap,hmax,by simp [putCells,hcs],htk'⟩⟩,hrel',fun b' _=>by have:=o7 b hob; rw [hgc] at this; exact this⟩
        obtain ⟨r,h1,h2⟩:=List.mem_flatten.1 hc
        exact o4 c (List.mem_flatten.2 ⟨r,hxp.mem_iff.1 h1,h2⟩)
      have hpb:b ∈ blks [(gb,.row xs T k)]:=by
        rcases hR0.par 0 b gb _ rfl hob rfl with h | h
        · exact absurd h (Nat.not_le.2 hbs)
        · exact h
      refine ⟨.tu [],_,[(⟨some b,true,xs'.length,cap,gb.T,us⟩,.row xs' T k)],ro,rfl,⟨[],rfl,.nil⟩,hK,?_⟩
      refine ⟨fun n gn bn hn=>?_,fun n m gn gm' bn bm b' hn hm h1 h2 l1 l2=>?_,fun b' off v hv n gn bn hn hgb=>?_,fun b' off v hv=>?_,hR0.ro0,hR0.rob,fun n b' gn bn hn hgb hl=>?_,?_,hsz,fun j hj hjb=>hne j (fun e=>hjb (e ▸ hpb)) hj,hrest.1,hrest.2.1,hrest.2.2⟩
      · match n,hn with
        | 0,hn=>cases hn; exact hown
        | n + 1,hn=>cases hn
      · match n,m,hn,hm with
        | 0,0,_,_=>rfl
        | n + 1,_,hn,_=>cases hn
        | _,m + 1,_,hm=>cases hm
      · match n,hn with
        | 0,hn=>
          cases hn
          have hbb:b=b':=by simpa using hgb
          subst hbb
          exact absurd (hR0.apart b off v hv 0 gb _ rfl hob) (by simp [B.live])
        | n + 1,hn=>cases hn
      · have hne':b' ≠ b:=fun e=>by
          subst e
          exact absurd (hR0.apart b' off v hv 0 gb _ rfl hob) (by simp [B.live])
        have:=hR0.rd b' off v hv
        rcases Nat.lt_or_ge b' w.heap.size with h' | h'
        · rw [World.cell?_of_block (hne b' hne' h')]
          exact this
        · simp [World.cell?,Array.getElem?_eq_none h'] at this
      · match n,hn with
        | 0,hn=>
          cases hn
          have:b=b':=by simpa using hgb
          subst this; exact .inr hpb
        | n + 1,hn=>cases hn
      · intro n g2 h2
        match n,h2 with
        | 0,h2=>
          cases h2
          exact ⟨_,rfl,o1.symm,.inl ⟨hob.symm,by rw [hxl]; exact o2.symm,hgc.symm⟩⟩
        | n + 1,h2=>cases h2
end Go.W
namespace Go.Proofs.YtbolanmlngjdoaaGreat
open Go.W Go.Sort Go.RowKit
theorem swo_num {α:Type} (g:α->Int):SWO (ltOf fun x y=>g x - g y) where
  irrefl x:=by unfold ltOf; simp
  trans x y z h1 h2:=by unfold ltOf at *; simp at *; omega
  ntrans x y z h1 h2:=by unfold ltOf at *; simp at *; omega
structure BN where
  x:Nd
  h:-1000<=x.n/\x.n<=1000
instance:Inhabited BN:=⟨⟨⟨0,ByteArray.empty⟩,by decide⟩⟩
def encN (a:BN):List Value:=[.int .i64 a.x.n,.string a.x.nm]
noncomputable def C.nd:=unC ndC
theorem nd_dec (x:Nd):C.nd (ndC x)=x:=unC_eq ndC_inj x
def rowN (r:List C):Prop:=∃ x:Nd,r=ndC x/\(-1000<=x.n/\x.n<=1000)
noncomputable def ltN (r s:List C):Bool:=decide ((C.nd r).n < (C.nd s).n)
theorem mSortN:Meets Tryz.prog 79 (srSp 80 111 2 rowN ltN):=by
  refine meets_srt (α:=BN) (enc:=encN) (cf:=fun a b=>a.x.n - b.x.n) (R:=fun a r=>r=ndC a.x) (by decide) (by kernel_rfl) (fun _=>rfl) ?_ ?_ ?_ ?_
  · rintro ro r vs ⟨x,rfl,hx⟩ h
    unfold ndC at h
    obtain ⟨v0,vs0,rfl,h0,r0⟩:=All2.cons_inv h
    obtain ⟨v1,vs1,rfl,h1,r1⟩:=All2.cons_inv r0
    obtain rfl:=All2.nil_inv r1
    cases h0; cases h1
    exact ⟨⟨x,hx⟩,rfl,rfl⟩
  · rintro a r b s rfl rfl
    unfold ltN ltOf
    rw [nd_dec,nd_dec,decide_eq_decide]; dsimp only; omega
  · intro blk cap d w hH hblk hsz
    have eg:∀ args w,(callFunc 80 args).run Tryz.prog w=.ok (.enter 80 args) w:=enters_of Tryz.func80 (by kernel_rfl) rfl
    exact AnyQ.slices_SortFunc Tryz.sortNd 2 Tryz.isAgg111 Tryz.sizeOf111 encN (fun _=>rfl) (fun x v hv=>by simp [encN] at hv; rcases hv with rfl | rfl<;>rfl) (fun a b=>a.x.n - b.x.n) (swo_num fun a:BN=>a.x.n) 80 #[] blk 0 cap d w eg
      (fun m os dk _ x y=>walkN _ _ _ _ x.h y.h _) hH hblk hsz
  · exact fun w=>AnyF.slices_SortFunc_none { Tryz.sortNd with } none 0 _ w
theorem srn_use {l:List Nd} {K:S->Hp->Prop} (hl:l.length<=1000000000) (hb:∀ x ∈ l,-1000<=x.n/\x.n<=1000) (hK:∀ l':List Nd,l'.Perm l->l'.Pairwise (fun a b=>¬ b.n < a.n)->K (.tu []) [.row (l'.map ndC) 111 2]) :
    srSp 80 111 2 rowN ltN [.va (.c1 (.sl 0 l.length)),.va (.c1 (.fn 80 []))] [.row (l.map ndC) 111 2] K:=by
  refine ⟨l.map ndC,by simp,rfl,fun r hr=>?_,by simpa using hl,fun xs' hp hs=>?_⟩
  · obtain ⟨x,hx,rfl⟩:=List.mem_map.1 hr
    exact ⟨x,rfl,hb x hx⟩
  · obtain ⟨l',rfl,h2⟩:=perm_lift hp rfl
    refine hK l' h2 ?_
    rw [List.pairwise_map] at hs
    refine hs.imp fun {a b} h=>?_
    unfold ltN at h
    rw [nd_dec,nd_dec] at h
    simpa using h
structure FV where
  n:Int
  r:List Value
  hn:-1000<=n/\n<=1000
  hr:r.length=6
  h1:∀ v ∈ r,v.oneCell'=true
instance:Inhabited FV:=⟨⟨0,List.replicate 6 (.int .i64 0),by decide,rfl,fun v hv=>by rw [List.eq_of_mem_replicate hv]; rfl⟩⟩
def encV (a:FV):List Value:=.int .i64 a.n :: a.r
def rowV (r:List C):Prop:=∃ f:Fl,r=flC f/\(-1000<=f.num/\f.num<=1000)
noncomputable def ltV (r s:List C):Bool:=decide ((C.fl r).num < (C.fl s).num)
theorem mSortV:Meets Tryz.prog 82 (srSp 83 50 7 rowV ltV):=by
  refine meets_srt (α:=FV) (enc:=encV) (cf:=fun a b=>a.n - b.n) (R:=fun a r=>∃ f:Fl,r=flC f/\f.num=a.n) (by decide) (by kernel_rfl) (fun a=>by show a.r.length + 1=7; rw [a.hr]) ?_ ?_ ?_ ?_
  · rintro ro r vs ⟨f,rfl,hx⟩ h
    have ho:=src_one (ro:=ro) (ys:=[flC f]) (news:=vs) (fun r hr c hc=>by obtain rfl:=List.mem_singleton.1 hr; exact flC_ss f c hc) (by simpa using h)
    have hlen:=h.1
    unfold flC at h
    obtain ⟨v0,vs0,rfl,h0,r0⟩:=All2.cons_inv h
    cases h0
    refine ⟨⟨f.num,vs0,hx,?_,fun v hv=>ho v (List.mem_cons_of_mem _ hv)⟩,rfl,f,rfl,rfl⟩
    have:=r0.1
    simpa using this.symm
  · rintro a r b s ⟨f,rfl,h1⟩ ⟨g,rfl,h2⟩
    unfold ltV ltOf
    rw [fl_dec,fl_dec,decide_eq_decide]; dsimp only; omega
  · intro blk cap d w hH hblk hsz
    have eg:∀ args w,(callFunc 83 args).run Tryz.prog w=.ok (.enter 83 args) w:=enters_of Tryz.func83 (by kernel_rfl) rfl
    exact AnyQ.slices_SortFunc Tryz.sortFl 7 Tryz.isAgg50 Tryz.sizeOf50 encV (fun a=>by show a.r.length + 1=7; rw [a.hr]) (fun x v hv=>by rcases List.mem_cons.1 hv with rfl | hv; rfl; exact x.h1 v hv) (fun a b=>a.n - b.n) (swo_num fun a:FV=>a.n) 83 #[] blk 0 cap d w eg
      (fun m os dk _ x y=>walkF _ _ _ _ x.hr y.hr x.hn y.hn _) hH hblk hsz
  · exact fun w=>AnyF.slices_SortFunc_none { Tryz.sortFl with } none 0 _ w
theorem srv_use {l:List Fl} {K:S->Hp->Prop} (hl:l.length<=1000000000) (hb:∀ x ∈ l,-1000<=x.num/\x.num<=1000) (hK:∀ l':List Fl,l'.Perm l->l'.Pairwise (fun a b=>¬ b.num < a.num)->K (.tu []) [.row (l'.map flC) 50 7]) :
    srSp 83 50 7 rowV ltV [.va (.c1 (.sl 0 l.length)),.va (.c1 (.fn 83 []))] [.row (l.map flC) 50 7] K:=by
  refine ⟨l.map flC,by simp,rfl,fun r hr=>?_,by simpa using hl,fun xs' hp hs=>?_⟩
  · obtain ⟨x,hx,rfl⟩:=List.mem_map.1 hr
    exact ⟨x,rfl,hb x hx⟩
  · obtain ⟨l',rfl,h2⟩:=perm_lift hp rfl
    refine hK l' h2 ?_
    rw [List.pairwise_map] at hs
    refine hs.imp fun {a b} h=>?_
    unfold ltV at h
    rw [fl_dec,fl_dec] at h
    simpa using h
end Go.Proofs.YtbolanmlngjdoaaGreat
namespace Go.Proofs.YtbolanmlngjdoaaGreat
open Go.W
theorem ieq (a b:Int):(a == b)=decide (a=b):=rfl
def isIs (rs:List (List C)):Prop:=∃ l:List Int,rs=l.map inR/\l.length<=9223372036854775807
theorem isIs_mk {l:List Int} (h:l.length<=9223372036854775807):isIs (l.map inR):=⟨l,rfl,h⟩
def ciPre:List S->Prop:=fun av=>match av with
  | [.va (.c1 (.fz rs)),.va (.c1 (.vl (.int .i64 _)))]=>isIs rs
  | _=>False
theorem ciPre_open {av:List S} (h:ciPre av):∃ (l:List Int) (x:Int),av=[.va (.c1 (.fz (l.map inR))),iS .i64 x]/\l.length<=9223372036854775807:=by
  unfold ciPre at h
  split at h
  · obtain ⟨l,rfl,h⟩:=h; exact ⟨l,_,rfl,h⟩
  · exact h.elim
noncomputable def ciVal (f:List Int->Int->Value):List S->A:=fun av=>match av with
  | [.va (.c1 (.fz rs)),.va (.c1 (.vl (.int .i64 x)))]=>.c1 (.vl (f (rs.map C.it) x))
  | _=>.gs []
noncomputable def ciFn (f:List Int->Int->Value):Fun:=⟨ciPre,ciVal f,fun av h=>by obtain ⟨l,x,rfl,_⟩:=ciPre_open h; trivial⟩
theorem ciFn_len {f}:∀ av H K,(ciFn f).sp av H K->av.length=2:=fun av H K h=>by obtain ⟨l,x,rfl,_⟩:=ciPre_open h.1.1; rfl
attribute [go_sem] ciFn ciPre ciVal
def ixI:List Int->Int->Nat->Int
  | [],_,_=>-1
  | y :: l,x,i=>bif decide (x=y) then (i:Int) else ixI l x (i + 1)
def inI (l:List Int) (x:Int):Bool:=l.any fun y=>decide (x=y)
theorem ixI_has:∀ (l:List Int) (x:Int) (i:Nat),decide (0<=ixI l x i)=inI l x
  | [],_,_=>by simp [ixI,inI]
  | y :: l,x,i=>by
    simp only [ixI]
    by_cases h:x=y
    · simp [h,inI]
    · have:=ixI_has l x (i + 1)
      simp [h,inI] at this ⊢; exact this
set_option maxRecDepth 100000 in
theorem mIndexI:Meets Tryz.prog 62 (ciFn fun l x=>.int .i64 (ixI l x 0)).sp:=by
  refine meets_fn Tryz.func62 ok62 2 (by rw [Tryz.ntmps62]; decide) (meetsAll_nil _) ciFn_len ?_
  rintro av H K ⟨⟨h,rfl⟩,hK⟩
  obtain ⟨l,x,rfl,hl⟩:=ciPre_open h
  have hK:K (iS .i64 (ixI l x 0)) []:=by
    have:(ciFn fun l x=>.int .i64 (ixI l x 0)).val [.va (.c1 (.fz (l.map inR))),iS .i64 x]=iA .i64 (ixI l x 0):=by simp -dsimp only [go_sem]
    rw [this] at hK; exact hK
  simp -dsimp only [go_sem,pc62,rs62]
  refine vc_loop (α:=Nat) (fun i=>[(0,.va (.c1 (.fz (l.map inR)))),(1,iS .i64 x),(7,iS .i64 l.length),(8,iS .i64 i)]) (fun _=>[])
    (fun i=>i<=l.length/\ixI (l.drop i) x i=ixI l x 0) (fun i=>l.length - i) 0 0 ⟨Nat.zero_le _,rfl⟩ ?_ ?_ ?_
  · simp [go_sem]
  · simp [go_sem]
  rintro i ⟨hi,ho⟩
  rcases Nat.lt_or_ge i l.length with hlt | hge
  · have hg:decide ((i:Int) < (l.length:Int))=true:=by simp; omega
    have hx:l[i]? = some l[i]:=List.getElem?_eq_getElem hlt
    have q1:=row_rg (row:=inR) hx
    have q2:=row_rg' (row:=inR) hx
    rw [List.drop_eq_getElem_cons hlt] at ho
    simp only [ixI] at ho
    generalize l[i]=y at *
    cases hc:decide (x=y) with
    | true=>
      rw [hc,Bool.cond_true] at ho
      simp -dsimp only [go_sem,hg,↓q2,hc,ieq]
      and_intros
      all_goals first
        | omega
        | exact .done (by rw [ho]; exact hK)
    | false=>
      rw [hc,Bool.cond_false] at ho
      simp -dsimp only [go_sem,hg,↓q2,hc,ieq]
      and_intros
      all_goals first
        | omega
        | skip
      refine loop_next (i + 1) 0 ⟨by omega,ho⟩ (by omega) ?_ ?_
      · simp [go_sem]
      · simp [go_sem]
  · have hg:decide ((i:Int) < (l.length:Int))=false:=by simp; omega
    have:l.drop i=[]:=List.drop_eq_nil_iff.2 (by omega)
    rw [this] at ho
    simp -dsimp only [go_sem,hg]
    exact .done (by rw [show (-1:Int)=ixI l x 0 from ho]; exact hK)
theorem mContainsI:Meets Tryz.prog 24 (ciFn fun l x=>.bool (inI l x)).sp:=by
  refine meets_fn Tryz.func24 ok24 2 (by rw [Tryz.ntmps24]; decide) (meetsAll_f mIndexI (meetsAll_nil _)) ciFn_len ?_
  rintro av H K ⟨⟨h,rfl⟩,hK⟩
  obtain ⟨l,x,rfl,hl⟩:=ciPre_open h
  have hK:K (bS (inI l x)) []:=by
    have:(ciFn fun l x=>.bool (inI l x)).val [.va (.c1 (.fz (l.map inR))),iS .i64 x]=bA (inI l x):=by simp -dsimp only [go_sem]
    rw [this] at hK; exact hK
  simp -dsimp only [go_sem,pc24,rs24,isIs_mk hl,ixI_has]
  exact .done hK
end Go.Proofs.YtbolanmlngjdoaaGreat
