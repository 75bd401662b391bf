/- Lemmas and walks for the proof. -/
import Derived.Test.YtbcnggkldclemaaGreatPc
import Derived.Test.YtbcnggkldclemaaGreatProg
namespace Go.Proofs.YtbcnggkldclemaaGreat
open Go.W
structure Gd (ss:List St) (es:List En):Prop where
  ok:∀ s ∈ ss,s.ok
  n:ss.length<=16
  m:es.length<=16
  val:∀ s ∈ ss,∀ f ∈ s.fs,valF ss es f.ty=true
  lv:∀ s ∈ ss,∀ f ∈ s.fs,(lvT f.ty).1<=1000000000
  nd:∀ s ∈ ss,fS ss s.nm=some s
def Acy (ss:List St):Prop:=∀ s ∈ ss,inB (usesF ss s.nm) s.nm=false
theorem val_list {ss:List St} {es:List En} {s:Int} {n:ByteArray} {e:List Ty} (h:valF ss es (.mk 5 s n e)=true):∃ u,e=[u]/\valF ss es u=true:=by
  rw [valF] at h
  simp only [show ((5:Int) == 1)=false from rfl,show ((5:Int) == 2)=false from rfl,show ((5:Int) == 3)=false from rfl,show ((5:Int) == 4)=false from rfl,show ((5:Int) == 5)=true from rfl,Bool.cond_true,Bool.cond_false,Bool.and_eq_true] at h
  obtain ⟨_,h⟩:=h
  match e,h with
  | [],h=>simp [valFs] at h
  | [u],h=>exact ⟨u,rfl,by simpa [valFs] using h⟩
  | u :: v :: r,h=>simp [valFs] at h
theorem val_lv (ss:List St) (es:List En):∀ (N:Nat) (t:Ty),t.h<=N->valF ss es t=true->LOk t/\namedT t=(lvT t).2/\((namedT t).k == 5)=false/\valF ss es (namedT t)=true
  | 0,t,h,_=>absurd h (by have:=t.h_pos; omega)
  | N + 1,.mk k s n e,h,hv=>by
    cases k5:k == 5 with
    | true=>
      obtain rfl:k=5:=by simpa using k5
      obtain ⟨u,rfl,hu⟩:=val_list hv
      obtain ⟨i1,i2,i3,i4⟩:=val_lv ss es N u (by rw [Ty.h,Ty.hs,Ty.hs] at h; omega) hu
      rw [named_one]
      exact ⟨.list i1,by rw [i2]; simp [lvT,lvL],i3,i4⟩
    | false=>
      have h1:namedT (.mk k s n e)=.mk k s n e:=named_stop (by rw [k5]; rfl)
      rw [h1]
      exact ⟨.stop k5,by rw [lvT,k5]; rfl,k5,hv⟩
theorem val_nm {ss:List St} {es:List En} {t:Ty} (hv:valF ss es t=true) (hn:isNamed t=true):hasS ss (nmOf t)=true\/hasE es (nmOf t)=true:=by
  obtain ⟨_,_,_,h⟩:=val_lv ss es t.h t (Nat.le_refl _) hv
  unfold isNamed at hn
  unfold nmOf
  revert h hn
  generalize namedT t=u
  cases u with
  | mk k s n e=>
  intro hn h
  simp only [Ty.k,Bool.or_eq_true,beq_iff_eq] at hn
  rcases hn with rfl | rfl
  · left; rw [valF] at h; simp at h; exact h.1.1
  · right; rw [valF] at h; simp at h; exact h.1.1
theorem val_str {ss:List St} {es:List En} {t:Ty} (hv:valF ss es t=true) (hk:((lvT t).2.k == 6)=true):isNamed t=true/\nmOf t=(lvT t).2.n/\hasS ss (lvT t).2.n=true/\LOk t:=by
  obtain ⟨h1,h2,_,h⟩:=val_lv ss es t.h t (Nat.le_refl _) hv
  unfold isNamed nmOf
  rw [h2] at h ⊢
  refine ⟨by rw [hk]; rfl,rfl,?_,h1⟩
  revert h hk
  generalize (lvT t).2=u
  cases u with
  | mk k s n e=>
  intro hk h
  obtain rfl:k=6:=by simpa [Ty.k] using hk
  rw [valF] at h; simp at h; exact h.1.1
theorem fS_mem {ss:List St} {n:ByteArray} {t:St} (h:fS ss n=some t):t ∈ ss/\t.nm=n:=⟨List.mem_of_find?_eq_some h,by have:=List.find?_some h; simpa using this⟩
theorem fEn_mem {ss:List En} {n:ByteArray} {t:En} (h:fEn ss n=some t):t ∈ ss/\t.nm=n:=⟨List.mem_of_find?_eq_some h,by have:=List.find?_some h; simpa using this⟩
theorem ref_mem {ss:List St} {a b:ByteArray} (h:isRef ss a b):∃ t f,fS ss a=some t/\t ∈ ss/\f ∈ t.fs/\isNamed f.ty=true/\nmOf f.ty=b:=by
  obtain ⟨f,hf,hn,hb⟩:=h
  cases hs:fS ss a with
  | none=>rw [hs] at hf; cases hf
  | some t=>rw [hs] at hf; exact ⟨t,f,rfl,(fS_mem hs).1,hf,hn,hb⟩
theorem reach_nm {ss:List St} {es:List En} (g:Gd ss es) {a b:ByteArray} (h:Reach ss a b):hasS ss b=true\/hasE es b=true:=by
  have:∃ c,isRef ss c b:=by cases h with
    | one h=>exact ⟨_,h⟩
    | more _ h=>exact ⟨_,h⟩
  obtain ⟨c,h⟩:=this
  obtain ⟨t,f,_,ht,hf,hn,rfl⟩:=ref_mem h
  exact val_nm (g.val t ht f hf) hn
theorem nodup_sub {α:Type} [DecidableEq α]:∀ {l m:List α},l.Nodup->(∀ x ∈ l,x ∈ m)->l.length<=m.length
  | [],_,_,_=>Nat.zero_le _
  | x :: l,m,h,hs=>by
    have h2:=List.nodup_cons.1 h
    have hx:=hs x List.mem_cons_self
    have:=nodup_sub (m:=m.erase x) h2.2 fun y hy=>(List.mem_erase_of_ne (fun e=>h2.1 (by rw [<-e]; exact hy))).2 (hs y (List.mem_cons_of_mem _ hy))
    rw [List.length_erase_of_mem hx] at this
    have hp:=List.length_pos_of_mem hx
    simp only [List.length_cons]; omega
theorem Gd.vlen {ss:List St} {es:List En} (g:Gd ss es) (n:ByteArray):(visAll ss n).length<=32:=by
  have h:=nodup_sub (m:=ss.map (·.nm) ++ es.map (·.nm)) (visAll_nodup ss n) fun x hx=>by
    rw [mem_visAll] at hx
    rw [List.mem_append,List.mem_map,List.mem_map]
    rcases reach_nm g hx with h | h
    · left; unfold hasS at h; rw [List.any_eq_true] at h; obtain ⟨t,h1,h2⟩:=h; exact ⟨t,h1,of_decide_eq_true h2⟩
    · right; unfold hasE at h; rw [List.any_eq_true] at h; obtain ⟨t,h1,h2⟩:=h; exact ⟨t,h1,of_decide_eq_true h2⟩
  have h1:=g.n
  have h2:=g.m
  simp only [List.length_append,List.length_map] at h
  omega
def rank (ss:List St) (n:ByteArray):Nat:=ss.countP fun s=>inB (visAll ss n) s.nm
theorem countP_lt {α:Type} {p q:α->Bool}:∀ {l:List α},(∀ x ∈ l,p x=true->q x=true)->(∃ x ∈ l,q x=true/\p x=false)->l.countP p < l.countP q
  | [],_,⟨_,h,_⟩=>by cases h
  | y :: l,h,⟨x,hx,h1,h2⟩=>by
    have hm:=List.countP_mono_left fun z hz=>h z (List.mem_cons_of_mem _ hz)
    have hy:=h y List.mem_cons_self
    rw [List.countP_cons,List.countP_cons]
    rcases List.mem_cons.1 hx with rfl | hx
    · rw [h1,h2]; simp; omega
    · have:=countP_lt (fun z hz=>h z (List.mem_cons_of_mem _ hz)) ⟨x,hx,h1,h2⟩
      cases hp:p y with
      | true=>rw [hy hp]; simp; exact this
      | false=>cases q y<;>simp<;>omega
theorem rank_le (ss:List St) (n:ByteArray):rank ss n<=ss.length:=List.countP_le_length
theorem rank_lt {ss:List St} {n m:ByteArray} {u:St} (h:isRef ss n m) (hu:fS ss m=some u) (ha:Acy ss):rank ss m < rank ss n:=by
  obtain ⟨h1,h2⟩:=fS_mem hu
  refine countP_lt (fun s _ hs=>?_) ⟨u,h1,?_,?_⟩
  · rw [inB_iff,mem_visAll] at hs ⊢; exact .head h hs
  · rw [inB_iff,mem_visAll,h2]; exact .one h
  · rw [not_inB,mem_visAll,<-mem_usesF,<-not_inB]
    have:=ha u h1
    rw [h2] at this ⊢; exact this
theorem maxF_le {dp:ByteArray->Int} {B:Int} (hB:0<=B) {l:List Fl} (h:∀ f ∈ l,fdep dp f.ty<=B):maxF dp l<=B:=by
  have key:∀ (l:List Fl) (m:Int),m<=B->(∀ f ∈ l,fdep dp f.ty<=B)->l.foldl (gF dp) m<=B:=by
    intro l
    induction l with
    | nil=>exact fun m hm _=>hm
    | cons f l ih=>exact fun m hm h=>ih _ (by have:=h f List.mem_cons_self; show max m (fdep dp f.ty)<=B; omega) fun g hg=>h g (List.mem_cons_of_mem _ hg)
  exact key l 0 hB h
theorem maxF_nonneg (dp:ByteArray->Int) (l:List Fl):0<=maxF dp l:=gF_le dp l 0
theorem maxF_ge {dp:ByteArray->Int} {l:List Fl} {f:Fl} (h:f ∈ l):fdep dp f.ty<=maxF dp l:=by
  have key:∀ (l:List Fl) (m:Int),f ∈ l->fdep dp f.ty<=l.foldl (gF dp) m:=by
    intro l
    induction l with
    | nil=>exact fun m h=>by cases h
    | cons g l ih=>
      intro m h
      rcases List.mem_cons.1 h with rfl | h
      · refine Int.le_trans ?_ (gF_le dp l (max m (fdep dp f.ty)))
        omega
      · exact ih _ h
  exact key l 0 h
theorem maxF_congr {dp dq:ByteArray->Int} {l:List Fl} (h:∀ f ∈ l,fdep dp f.ty=fdep dq f.ty):maxF dp l=maxF dq l:=by
  have key:∀ (l:List Fl) (m:Int),(∀ f ∈ l,fdep dp f.ty=fdep dq f.ty)->l.foldl (gF dp) m=l.foldl (gF dq) m:=by
    intro l
    induction l with
    | nil=>exact fun _ _=>rfl
    | cons f l ih=>exact fun m h=>by rw [List.foldl_cons,List.foldl_cons,gF,h f List.mem_cons_self]; exact ih _ fun g hg=>h g (List.mem_cons_of_mem _ hg)
  exact key l 0 h
def dK:Nat:=99
def dD (ss:List St) (n:ByteArray):Int:=dN ss (dK + 1) n
theorem dN_succ (ss:List St) (N:Nat) (n:ByteArray):dN ss (N + 1) n=maxF (dN ss N) ((fS ss n).getD default).fs + 1:=rfl
theorem dK_eq:dK=99:=rfl
theorem dD_def (ss:List St) (n:ByteArray):dD ss n=dN ss (dK + 1) n:=rfl
attribute [irreducible] dK
theorem dN_pos (ss:List St):∀ (N:Nat) (n:ByteArray),1<=dN ss N n
  | 0,_=>Int.le_refl _
  | N + 1,n=>by have:=maxF_nonneg (dN ss N) ((fS ss n).getD default).fs; rw [dN]; omega
theorem dN_hi {ss:List St} {es:List En} (g:Gd ss es):∀ (N:Nat) (n:ByteArray),dN ss N n<=1 + N * 1000000001
  | 0,_=>by rw [dN]; omega
  | N + 1,n=>by
    have:maxF (dN ss N) ((fS ss n).getD default).fs<=1000000001 + N * 1000000001:=by
      refine maxF_le (by omega) fun f hf=>?_
      cases hs:fS ss n with
      | none=>rw [hs] at hf; cases hf
      | some t=>
        rw [hs] at hf
        have h1:=g.lv t (fS_mem hs).1 f hf
        have h2:=dN_hi g N (lvT f.ty).2.n
        unfold fdep
        cases (lvT f.ty).2.k == 6<;>simp only [Bool.cond_true,Bool.cond_false]<;>omega
    rw [dN]; omega
theorem str_ref {ss:List St} {es:List En} (g:Gd ss es) {n:ByteArray} {t:St} (hs:fS ss n=some t) {f:Fl} (hf:f ∈ t.fs) (hk:((lvT f.ty).2.k == 6)=true):isRef ss n (lvT f.ty).2.n/\∃ u,fS ss (lvT f.ty).2.n=some u:=by
  obtain ⟨h1,h2,h3,_⟩:=val_str (g.val t (fS_mem hs).1 f hf) hk
  refine ⟨⟨f,by rw [hs]; exact hf,h1,h2⟩,?_⟩
  rw [<-fS_has] at h3
  exact Option.isSome_iff_exists.1 h3
theorem dN_stable {ss:List St} {es:List En} (g:Gd ss es) (ha:Acy ss):∀ (N:Nat) (n:ByteArray),rank ss n < N->dN ss (N + 1) n=dN ss N n
  | 0,_,h=>absurd h (Nat.not_lt_zero _)
  | N + 1,n,h=>by
    rw [dN,dN]
    congr 1
    refine maxF_congr fun f hf=>?_
    cases hs:fS ss n with
    | none=>rw [hs] at hf; cases hf
    | some t=>
      rw [hs] at hf
      unfold fdep
      cases hk:(lvT f.ty).2.k == 6 with
      | false=>rfl
      | true=>
        obtain ⟨h1,u,h2⟩:=str_ref g hs hf hk
        have:=rank_lt h1 h2 ha
        rw [dN_stable g ha N _ (by omega)]
theorem dD_lo (ss:List St) (n:ByteArray):0<=dD ss n:=Int.le_trans (by decide) (dN_pos ss (dK + 1) n)
theorem dD_hi {ss:List St} {es:List En} (g:Gd ss es) (n:ByteArray):dD ss n<=1000000000000:=by
  refine Int.le_trans (dN_hi g (dK + 1) n) ?_
  have:=dK_eq
  generalize dK=k at *
  subst this
  decide
theorem dD_fd {ss:List St} {es:List En} (g:Gd ss es) (ha:Acy ss) (f:Fl):fdep (dN ss dK) f.ty=fdep (dD ss) f.ty:=by
  have h2:=rank_le ss (lvT f.ty).2.n
  have h3:=g.n
  have h4:=dK_eq
  have h5:=dN_stable g ha dK (lvT f.ty).2.n (by omega)
  unfold fdep
  rw [dD_def,h5]
theorem dD_eq {ss:List St} {es:List En} (g:Gd ss es) (ha:Acy ss) {n:ByteArray} {t:St} (hs:fS ss n=some t):dD ss n=maxF (dD ss) t.fs + 1:=by
  have h1:=dN_succ ss dK n
  have h2:maxF (dN ss dK) t.fs=maxF (dD ss) t.fs:=maxF_congr fun f _=>dD_fd g ha f
  rw [hs,Option.getD_some,h2] at h1
  rw [dD_def]
  exact h1
theorem Gd.dp {ss:List St} {es:List En} (g:Gd ss es) (ha:Acy ss):Dp ss (dD ss) (rank ss):=by
  refine ⟨g.ok,fun n t hs=>dD_eq g ha hs,dD_lo ss,dD_hi g,fun n t hs f hf=>(val_lv ss es _ _ (Nat.le_refl _) (g.val t (fS_mem hs).1 f hf)).1,fun n t hs f hf hk=>?_⟩
  obtain ⟨h1,u,h2⟩:=str_ref g hs hf hk
  exact ⟨u,h2,rank_lt h1 h2 ha⟩
end Go.Proofs.YtbcnggkldclemaaGreat
namespace Go.Proofs.YtbcnggkldclemaaGreat
open Go.W
def nestF (ss:List St):Int:=bif ss.any (fun t=>inB (usesF ss t.nm) t.nm) then 19 else bif ss.any (fun t=>decide (6 < dD ss t.nm)) then 9 else 0
def neSp:W.Spec:=fun av H K=>∃ (s:Sc) (ks:List Value) (vs:List St) (ks':List Value) (vs':List En),av=[.va (.gs (scC s)),ixV]/\H=ixH ks vs ks' vs'/\
  IxS ks vs s.ss/\Gd s.ss s.es/\s.ok/\K (iS .i64 (nestF s.ss)) (ixH ks vs ks' vs')
theorem ne_use {s:Sc} {ks:List Value} {vs:List St} {ks':List Value} {vs':List En} {K:S->Hp->Prop} (h1:IxS ks vs s.ss) (h2:Gd s.ss s.es) (h3:s.ok) (hK:K (iS .i64 (nestF s.ss)) (ixH ks vs ks' vs')) :
    neSp [.va (.gs (scC s)),ixV] (ixH ks vs ks' vs') K:=⟨s,ks,vs,ks',vs',rfl,rfl,h1,h2,h3,hK⟩
theorem any_false {α:Type} {l:List α} {p:α->Bool} (h:l.any p=false):∀ x ∈ l,p x=false:=fun x hx=>by
  rw [List.any_eq_false] at h; simpa using h x hx
set_option maxRecDepth 100000 in
theorem mNesting:Meets Tryz.prog 37 neSp:=by
  refine meets_fn Tryz.func37 ok37 2 (by rw [Tryz.ntmps37]; decide) (meetsAll_s mUses (meetsAll_f mContainsS (meetsAll_s mDepth (meetsAll_nil _)))) (fun av H K h=>by obtain ⟨_,_,_,_,_,rfl,_⟩:=h; rfl) ?_
  rintro av H K ⟨s,ks,vs,ks',vs',rfl,rfl,h1,hg,hs,hK⟩
  have fin:∀ (x:Int) (R:Hp),nestF s.ss=x->W.Fin 2 K (iS .i64 x) (.map .string ks (vs.map stA) :: .map .string ks' (vs'.map enA) :: R):=fun x R h=>by
    rw [h] at hK
    exact .sel [0,1] (by simp) (by simp) rfl (.done (by simp -dsimp only [go_sem]; simpa using hK))
  obtain ⟨_,_,hls,_,hss⟩:=hs
  simp -dsimp only [go_sem,scC,pc37,rs37]
  refine vc_loop (α:=Nat) (fun i=>[(2,.va (.c1 (.pt 2 0))),(3,.va (.c1 (.pt 3 0))),(10,.va (.c1 (.fz (s.ss.map stC)))),(11,iS .i64 s.ss.length),(12,iS .i64 i)]) (fun _=>[.map .string ks (vs.map stA),.map .string ks' (vs'.map enA),.cells (scC s) 25,.cells [.mp 0,.mp 1] 81])
    (fun i=>i<=s.ss.length/\(s.ss.drop i).any (fun t=>inB (usesF s.ss t.nm) t.nm)=s.ss.any (fun t=>inB (usesF s.ss t.nm) t.nm)) (fun i=>s.ss.length - i) 0 4 ⟨Nat.zero_le _,rfl⟩ ?_ ?_ ?_
  · simp -dsimp only [go_sem]<;>simp
  · simp -dsimp only [go_sem,scC]<;>simp
  rintro i ⟨hi,ho⟩
  rcases Nat.lt_or_ge i s.ss.length with hlt | hge
  · have hgi:decide ((i:Int) < (s.ss.length:Int))=true:=by simp; omega
    obtain ⟨t,hx⟩:∃ t,s.ss[i]? = some t:=⟨_,List.getElem?_eq_getElem hlt⟩
    have q1:=row_rg' (row:=stC) hx
    rw [any_step hx] at ho
    have hv:=hg.vlen t.nm
    have hbs:isBs ((usesF s.ss t.nm).map stR):=isBs_mk (by rw [usesF_len]; omega)
    simp (maxSteps:=1000000) -dsimp only [go_sem,hgi,↓q1,stC,scC]
    refine ⟨by omega,us_use h1 hss (by omega) ?_⟩
    simp (maxSteps:=1000000) -dsimp only [go_sem,hbs]
    cases hc:inB (usesF s.ss t.nm) t.nm with
    | true=>
      rw [hc,Bool.true_or] at ho
      simp -dsimp only [go_sem]
      exact fin 19 _ (by unfold nestF; rw [<-ho]; rfl)
    | false=>
      rw [hc,Bool.false_or] at ho
      simp -dsimp only [go_sem]
      refine ⟨by omega,loop_next (i + 1) 4 ⟨by omega,ho⟩ (by omega) ?_ ?_⟩
      · simp -dsimp only [go_sem]<;>simp
      · simp -dsimp only [go_sem,scC]<;>simp
  · have hgi:decide ((i:Int) < (s.ss.length:Int))=false:=by simp; omega
    obtain rfl:i=s.ss.length:=by omega
    rw [any_end] at ho
    have ha:Acy s.ss:=fun t ht=>any_false ho.symm t ht
    have hD:=hg.dp ha
    have hF:nestF s.ss=bif s.ss.any (fun t=>decide (6 < dD s.ss t.nm)) then 9 else 0:=by unfold nestF; rw [<-ho]; rfl
    simp -dsimp only [go_sem,hgi,scC]
    refine vc_loop (α:=Nat) (fun i=>[(3,.va (.c1 (.pt 3 0))),(25,.va (.c1 (.fz (s.ss.map stC)))),(26,iS .i64 s.ss.length),(27,iS .i64 i)]) (fun _=>[.map .string ks (vs.map stA),.map .string ks' (vs'.map enA),.cells (scC s) 25,.cells [.mp 0,.mp 1] 81])
      (fun i=>i<=s.ss.length/\(s.ss.drop i).any (fun t=>decide (6 < dD s.ss t.nm))=s.ss.any (fun t=>decide (6 < dD s.ss t.nm))) (fun i=>s.ss.length - i) 0 4 ⟨Nat.zero_le _,rfl⟩ ?_ ?_ ?_
    · simp -dsimp only [go_sem]<;>simp
    · simp -dsimp only [go_sem,scC]<;>simp
    clear ho
    rintro i ⟨hi,ho⟩
    rcases Nat.lt_or_ge i s.ss.length with hlt | hge
    · have hgi:decide ((i:Int) < (s.ss.length:Int))=true:=by simp; omega
      obtain ⟨t,hx⟩:∃ t,s.ss[i]? = some t:=⟨_,List.getElem?_eq_getElem hlt⟩
      have q1:=row_rg' (row:=stC) hx
      rw [any_step hx] at ho
      have hnd:=hg.nd t (List.mem_of_getElem? hx)
      simp (maxSteps:=1000000) -dsimp only [go_sem,hgi,↓q1,stC,scC]
      refine ⟨by omega,dp_use h1 hD hnd ?_⟩
      simp (maxSteps:=1000000) -dsimp only [go_sem]
      cases hc:decide (6 < dD s.ss t.nm) with
      | true=>
        rw [hc,Bool.true_or] at ho
        simp -dsimp only [go_sem]
        exact fin 9 _ (by rw [hF,<-ho]; rfl)
      | false=>
        rw [hc,Bool.false_or] at ho
        simp -dsimp only [go_sem]
        refine ⟨by omega,loop_next (i + 1) 4 ⟨by omega,ho⟩ (by omega) ?_ ?_⟩
        · simp -dsimp only [go_sem]<;>simp
        · simp -dsimp only [go_sem,scC]<;>simp
    · have hgi:decide ((i:Int) < (s.ss.length:Int))=false:=by simp; omega
      obtain rfl:i=s.ss.length:=by omega
      rw [any_end] at ho
      simp -dsimp only [go_sem,hgi,scC]
      exact fin 0 _ (by rw [hF,<-ho]; rfl)
end Go.Proofs.YtbcnggkldclemaaGreat
namespace Go.Proofs.YtbcnggkldclemaaGreat
open Go.W
def enAt (s:Sc) (i:Nat):Int:=match s.es[i]? with
  | some e=>bif !(tnB (bl e.nm)) then 5 else bif hasE (s.es.take i) e.nm then 7 else ceF e
  | none=>0
def stAt (s:Sc) (i:Nat):Int:=match s.ss[i]? with
  | some t=>bif cnF s i t.nm != 0 then cnF s i t.nm else cfF s.ss s.es t
  | none=>0
def enF (s:Sc):Int:=fE (enAt s) (s.es.length - 0) 0
def stF (s:Sc):Int:=fE (stAt s) (s.ss.length - 0) 0
def checkF (s:Sc):Int:=bif decide (s.ver < 1) || decide (999 < s.ver) then 4 else bif largeF s then 3 else bif enF s != 0 then enF s else bif stF s != 0 then stF s else nestF s.ss
inductive TySm:Ty->Prop
  | mk {k s:Int} {n:ByteArray} {e:List Ty}:e.length<=1000000000->(∀ t ∈ e,TySm t)->TySm (.mk k s n e)
structure Sc.fit (s:Sc):Prop where
  ok:s.ok
  lv:∀ t ∈ s.ss,∀ f ∈ t.fs,(lvT f.ty).1<=1000000000
  sm:∀ t ∈ s.ss,t.fs.length<=1000000000/\∀ f ∈ t.fs,TySm f.ty
  en:∀ e ∈ s.es,e.ns.length<=1000000000/\e.vs.length<=1000000000
theorem fE_all {f:Nat->Int} {m:Nat}:∀ (k i:Nat),i + k=m->fE f (m - i) i=0->∀ j,i<=j->j < m->f j=0
  | 0,i,h,_=>fun j h1 h2=>by omega
  | k + 1,i,h,h0=>fun j h1 h2=>by
    have hi:i < m:=by omega
    by_cases e:f i=0
    · rw [fE_ok hi e] at h0
      rcases Nat.lt_or_ge i j with h3 | h3
      · exact fE_all k (i + 1) (by omega) h0 j h3 h2
      · obtain rfl:i=j:=by omega
        exact e
    · rw [fE_err hi e] at h0; exact absurd h0 e
theorem fE_zero {f:Nat->Int} {m:Nat} (h:fE f (m - 0) 0=0):∀ j,j < m->f j=0:=fun j hj=>fE_all m 0 (by omega) h j (Nat.zero_le _) hj
theorem fS_first {ss:List St} {i:Nat} {t:St} (hx:ss[i]? = some t) (h:hasS (ss.take i) t.nm=false):fS ss t.nm=some t:=by
  obtain ⟨hl,ht⟩:=List.getElem?_eq_some_iff.1 hx
  have h1:(ss.take i).find? (fun s=>decide (s.nm=t.nm))=none:=by
    rw [List.find?_eq_none]
    intro x hx
    have:=any_false h x hx
    simpa using this
  have h2:ss=ss.take i ++ (t :: ss.drop (i + 1)):=by rw [<-ht,<-List.drop_eq_getElem_cons hl,List.take_append_drop]
  unfold fS
  rw [h2,List.find?_append,h1]
  simp
theorem cf_zero {ss:List St} {es:List En} {t:St} (h:cfF ss es t=0):∀ f ∈ t.fs,(1<=f.num/\f.num<=127)/\isNm (bl f.nm)=true/\valF ss es f.ty=true:=fun f hf=>by
  obtain ⟨i,hi⟩:=List.mem_iff_getElem?.1 hf
  have:=fE_zero h i (List.getElem?_eq_some_iff.1 hi).1
  unfold cfAt at this
  rw [hi] at this
  simp only at this
  cases c1:decide (f.num < 1) || decide (127 < f.num) with
  | true=>rw [c1] at this; simp at this
  | false=>
  rw [c1] at this
  simp only [Bool.cond_false] at this
  revert this
  generalize (decide (0 < (i:Int)) && (match t.fs[i - 1]? with | some g=>decide (f.num<=g.num) | none=>false))=b
  intro this
  cases b with
  | true=>simp at this
  | false=>
  simp only [Bool.cond_false] at this
  simp only [Bool.or_eq_false_iff,decide_eq_false_iff_not] at c1
  refine ⟨by omega,?_⟩
  cases c2:isNm (bl f.nm) with
  | false=>rw [c2] at this; simp at this
  | true=>
  rw [c2] at this
  cases c3:(t.fs.take i).any (fun g=>decide (g.nm=f.nm)) with
  | true=>rw [c3] at this; simp at this
  | false=>
  rw [c3] at this
  cases c4:valF ss es f.ty with
  | false=>rw [c4] at this; simp at this
  | true=>exact ⟨rfl,rfl⟩
theorem cn_zero {s:Sc} {i:Nat} {n:ByteArray} (h:cnF s i n=0):tnB (bl n)=true/\hasE s.es n=false/\hasS (s.ss.take i) n=false:=by
  unfold cnF at h
  cases c1:tnB (bl n) with
  | false=>rw [c1] at h; simp at h
  | true=>
  rw [c1] at h
  cases c2:hasE s.es n with
  | true=>rw [c2] at h; simp at h
  | false=>
  rw [c2] at h
  cases c3:hasS (s.ss.take i) n with
  | true=>rw [c3] at h; simp at h
  | false=>exact ⟨rfl,rfl,rfl⟩
theorem st_zero {s:Sc} {i:Nat} {t:St} (hx:s.ss[i]? = some t) (h:stAt s i=0):cnF s i t.nm=0/\cfF s.ss s.es t=0:=by
  unfold stAt at h
  rw [hx] at h
  simp only at h
  by_cases e:cnF s i t.nm=0
  · rw [e] at h; exact ⟨e,by simpa using h⟩
  · rw [show (cnF s i t.nm != 0)=true by simpa using e] at h
    exact absurd h e
theorem en_zero {s:Sc} {i:Nat} {t:En} (hx:s.es[i]? = some t) (h:enAt s i=0):tnB (bl t.nm)=true/\hasE (s.es.take i) t.nm=false/\ceF t=0:=by
  unfold enAt at h
  rw [hx] at h
  simp only at h
  cases c1:tnB (bl t.nm) with
  | false=>rw [c1] at h; simp at h
  | true=>
  rw [c1] at h
  cases c2:hasE (s.es.take i) t.nm with
  | true=>rw [c2] at h; simp at h
  | false=>
  rw [c2] at h
  exact ⟨rfl,rfl,by simpa using h⟩
theorem large_false {s:Sc} (h:largeF s=false):s.es.length<=16/\s.es.length + s.ss.length<=16/\(∀ e ∈ s.es,e.ns.length<=16)/\∀ t ∈ s.ss,t.fs.length<=16:=by
  unfold largeF at h
  simp only [Bool.or_eq_false_iff,decide_eq_false_iff_not] at h
  obtain ⟨⟨⟨h1,h2⟩,h3⟩,h4⟩:=h
  refine ⟨by omega,by omega,fun e he=>?_,fun t ht=>?_⟩
  · have:=any_false h3 e he; simp at this; exact this
  · have:=any_false h4 t ht; simp at this; exact this
theorem good_of {s:Sc} (hf:s.fit) (h1:largeF s=false) (h2:stF s=0):Gd s.ss s.es:=by
  obtain ⟨l1,l2,l3,l4⟩:=large_false h1
  have key:∀ t ∈ s.ss,∃ i,s.ss[i]? = some t/\cnF s i t.nm=0/\cfF s.ss s.es t=0:=fun t ht=>by
    obtain ⟨i,hi⟩:=List.mem_iff_getElem?.1 ht
    exact ⟨i,hi,st_zero hi (fE_zero h2 i (List.getElem?_eq_some_iff.1 hi).1)⟩
  refine ⟨hf.ok.ss,by omega,by omega,fun t ht f hm=>?_,hf.lv,fun t ht=>?_⟩
  · obtain ⟨i,hi,c1,c2⟩:=key t ht
    exact (cf_zero c2 f hm).2.2
  · obtain ⟨i,hi,c1,c2⟩:=key t ht
    exact fS_first hi (cn_zero c1).2.2
end Go.Proofs.YtbcnggkldclemaaGreat
namespace Go.Proofs.YtbcnggkldclemaaGreat
open Go.W
def isScF (r:List C):Prop:=∃ s:Sc,r=scC s/\s.fit
theorem isScF_mk {s:Sc} (h:s.fit):isScF (scC s):=⟨s,rfl,h⟩
noncomputable def ckFn:Fun:=gFn isScF C.sc fun s=>.int .i64 (checkF s)
attribute [go_sem] ckFn
theorem cond_err {a b:Int} (h:a ≠ 0):(bif a != 0 then a else b)=a:=by rw [bne,beq_eq_false_iff_ne.2 h]; rfl
theorem cond_ok {a b:Int} (h:a=0):(bif a != 0 then a else b)=b:=by rw [h]; rfl
set_option maxRecDepth 100000 in
set_option maxHeartbeats 2000000 in
theorem mCheck:Meets Tryz.prog 14 ckFn.sp:=by
  refine meets_fn Tryz.func14 ok14 1 (by rw [Tryz.ntmps14]; decide) (meetsAll_f mLarge (meetsAll_f mTypeName (meetsAll_f mCheckEnum (meetsAll_s mIndexOf (meetsAll_f mCheckName (meetsAll_s mCheckFields (meetsAll_s mNesting (meetsAll_nil _)))))))) gFn_len ?_
  rintro av H K ⟨⟨h,rfl⟩,hK⟩
  obtain ⟨_,rfl,s,rfl,hs⟩:=gPre_open h
  have hK:K (iS .i64 (checkF s)) []:=by
    have:ckFn.val [.va (.gs (scC s))]=iA .i64 (checkF s):=by simp -dsimp only [go_sem]
    rw [this] at hK; exact hK
  clear h
  have hfit:=hs
  have hsc:isSc (scC s):=isSc_mk hs.ok
  obtain ⟨⟨hv,hle,hls,hes,hss⟩,hlv,_,_⟩:=hs
  have fin:∀ (x:Int) (R:Hp),checkF s=x->W.Fin 0 K (iS .i64 x) R:=fun x R h1=>by
    rw [h1] at hK
    exact .sel [] (by simp) (by simp) rfl (.done (by simpa [go_sem] using hK))
  have hsc':=hsc
  simp only [scC] at hsc'
  have hdec:C.sc [.vl (.int .i64 s.ver),.fz (s.es.map enC),.fz (s.ss.map stC)]=s:=sc_dec s
  simp (maxSteps:=1000000) -dsimp only [go_sem,scC,pc14,rs14,hsc',hdec]
  refine ⟨fun h1=>fin 4 _ (by unfold checkF; rw [h1]; rfl),fun c1=>⟨fun h1=>fin 3 _ (by unfold checkF; rw [c1,h1]; rfl),fun c2=>?_⟩⟩
  have hF:checkF s=bif enF s != 0 then enF s else bif stF s != 0 then stF s else nestF s.ss:=by unfold checkF; rw [c1,c2]; rfl
  refine vc_loop (α:=Nat) (fun i=>[(1,.va (.c1 (.pt 0 0))),(24,.va (.c1 (.fz (s.es.map enC)))),(25,iS .i64 s.es.length),(26,iS .i64 i)]) (fun _=>[.cells (scC s) 25])
    (fun i=>i<=s.es.length/\fE (enAt s) (s.es.length - i) i=enF s) (fun i=>s.es.length - i) 0 1 ⟨Nat.zero_le _,rfl⟩ ?_ ?_ ?_
  · simp -dsimp only [go_sem]<;>simp
  · simp -dsimp only [go_sem,scC]<;>simp
  rintro i ⟨hi,ho⟩
  rcases Nat.lt_or_ge i s.es.length with hlt | hge
  · have hg:decide ((i:Int) < (s.es.length:Int))=true:=by simp; omega
    obtain ⟨e,hx⟩:∃ e,s.es[i]? = some e:=⟨_,List.getElem?_eq_getElem hlt⟩
    have q1:=row_rg' (row:=enC) hx
    have he:e.ok:=hes e (List.mem_of_getElem? hx)
    have hie:isEn (enC e):=isEn_mk he
    have hie':=hie
    simp only [enC] at hie'
    have hed:C.en [.vl (.string e.nm),.fz (e.ns.map stR),.fz (e.vs.map inR)]=e:=en_dec e
    have hA:enAt s i=bif !(tnB (bl e.nm)) then 5 else bif hasE (s.es.take i) e.nm then 7 else ceF e:=by unfold enAt; rw [hx]
    have fin':∀ (x:Int) (R:Hp),enAt s i=x->x ≠ 0->W.Fin 0 K (iS .i64 x) R:=fun x R h1 h2=>fin x R (by
      rw [hF,<-ho,fE_err hlt (by rw [h1]; exact h2),h1]; exact cond_err h2)
    have nxt:enAt s i=0->fE (enAt s) (s.es.length - (i + 1)) (i + 1)=enF s:=fun h1=>by rw [<-ho,fE_ok hlt h1]
    simp (maxSteps:=1000000) -dsimp only [go_sem,hg,↓q1,enC,scC]
    refine ⟨by omega,fun h1=>fin' 5 _ (by rw [hA,h1]; rfl) (by decide),fun c3=>?_⟩
    rw [c3] at hA
    simp only [Bool.cond_false] at hA
    have hlj:=len_take s.es i
    simp -dsimp only [all_rows enC_len]
    refine ⟨by simp; omega,?_⟩
    generalize hm:s.es.take i=m at *
    refine vc_loop (α:=Nat) (fun j=>[(1,.va (.c1 (.pt 0 0))),(4,.va (.c1 (.pt 1 0))),(24,.va (.c1 (.fz (s.es.map enC)))),(25,iS .i64 s.es.length),(26,iS .i64 i),(38,.va (.c1 (.fz (m.map enC)))),(39,iS .i64 m.length),(40,iS .i64 j)]) (fun _=>[.cells (scC s) 25,.cells (enC e) 60])
      (fun j=>j<=m.length/\hasE (m.drop j) e.nm=hasE m e.nm) (fun j=>m.length - j) 0 2 ⟨Nat.zero_le _,rfl⟩ ?_ ?_ ?_
    · simp -dsimp only [go_sem]<;>simp
      rw [<-hm]; exact ⟨List.map_take.symm,by simp⟩
    · simp -dsimp only [go_sem,scC,enC]<;>simp
    rintro j ⟨hj,ho2⟩
    rcases Nat.lt_or_ge j m.length with hjt | hjg
    · have hgj:decide ((j:Int) < (m.length:Int))=true:=by simp; omega
      obtain ⟨d,hd⟩:∃ e,m[j]? = some e:=⟨_,List.getElem?_eq_getElem hjt⟩
      have q5:=row_rg' (row:=enC) hd
      rw [hasE,any_step hd] at ho2
      simp (maxSteps:=1000000) -dsimp only [go_sem,hgj,↓q5,enC,scC,bl_beq]
      and_intros
      all_goals first
        | omega
        | skip
      · intro hc
        rw [hc,Bool.true_or] at ho2
        exact fin' 7 _ (by rw [hA,<-ho2]; rfl) (by decide)
      · intro hc
        rw [hc,Bool.false_or] at ho2
        refine ⟨by omega,loop_next (j + 1) 2 ⟨by omega,ho2⟩ (by omega) ?_ ?_⟩
        · simp -dsimp only [go_sem]<;>simp
        · simp -dsimp only [go_sem,scC,enC]<;>simp
    · have hgj:decide ((j:Int) < (m.length:Int))=false:=by simp; omega
      obtain rfl:j=m.length:=by omega
      rw [hasE,any_end] at ho2
      rw [<-ho2] at hA
      simp only [Bool.cond_false] at hA
      simp (maxSteps:=1000000) -dsimp only [go_sem,hgj,enC,scC,hie',hed]
      refine ⟨fun h1=>fin' _ _ hA (by simpa using h1),fun h1=>?_⟩
      refine ⟨by omega,loop_next (i + 1) 1 ⟨by omega,nxt (by rw [hA]; simpa using h1)⟩ (by omega) ?_ ?_⟩
      · simp -dsimp only [go_sem]<;>simp
      · simp -dsimp only [go_sem,scC]<;>simp
  · have hg:decide ((i:Int) < (s.es.length:Int))=false:=by simp; omega
    obtain rfl:i=s.es.length:=by omega
    rw [fE_end] at ho
    rw [cond_ok ho.symm] at hF
    simp (maxSteps:=1000000) -dsimp only [go_sem,hg,scC]
    refine io_use hfit.ok fun ks vs ks' vs' x1 x2=>?_
    simp (maxSteps:=1000000) -dsimp only [go_sem]
    clear hi hge hg
    refine vc_loop (α:=Nat) (fun i=>[(1,.va (.c1 (.pt 0 0))),(8,.va (.c1 (.pt 3 0))),(59,.va (.c1 (.fz (s.ss.map stC)))),(60,iS .i64 s.ss.length),(61,iS .i64 i)]) (fun _=>[.cells (scC s) 25,.map .string ks (vs.map stA),.map .string ks' (vs'.map enA),.cells [.mp 1,.mp 2] 81])
      (fun i=>i<=s.ss.length/\fE (stAt s) (s.ss.length - i) i=stF s) (fun i=>s.ss.length - i) 0 4 ⟨Nat.zero_le _,rfl⟩ ?_ ?_ ?_
    · simp -dsimp only [go_sem]<;>simp
    · simp -dsimp only [go_sem,scC]<;>simp
    clear ho
    rintro i ⟨hi,ho⟩
    rcases Nat.lt_or_ge i s.ss.length with hlt | hge
    · have hg:decide ((i:Int) < (s.ss.length:Int))=true:=by simp; omega
      obtain ⟨t,hx⟩:∃ e,s.ss[i]? = some e:=⟨_,List.getElem?_eq_getElem hlt⟩
      have q1:=row_rg' (row:=stC) hx
      have ht:t.ok:=hss t (List.mem_of_getElem? hx)
      have hA:stAt s i=bif cnF s i t.nm != 0 then cnF s i t.nm else cfF s.ss s.es t:=by unfold stAt; rw [hx]
      have fin':∀ (x:Int) (R:Hp),stAt s i=x->x ≠ 0->W.Fin 0 K (iS .i64 x) R:=fun x R h1 h2=>fin x R (by
        rw [hF,<-ho,fE_err hlt (by rw [h1]; exact h2),h1]; exact cond_err h2)
      have nxt:stAt s i=0->fE (stAt s) (s.ss.length - (i + 1)) (i + 1)=stF s:=fun h1=>by rw [<-ho,fE_ok hlt h1]
      have q0:decide (0<=(i:Int))=true:=by simp
      simp (maxSteps:=1000000) -dsimp only [go_sem,hg,↓q1,stC,scC,hsc',hdec,Int.toNat_natCast]
      refine ⟨by omega,⟨by omega,by omega⟩,fun h1=>fin' _ _ (by rw [hA]; exact cond_err (by simpa using h1)) (by simpa using h1),fun h1=>?_⟩
      have h1:cnF s i t.nm=0:=by simpa using h1
      rw [cond_ok h1] at hA
      refine cf_use x1 x2 ht ?_
      simp (maxSteps:=1000000) -dsimp only [go_sem]
      refine ⟨fun h1=>fin' _ _ hA (by simpa using h1),fun h1=>?_⟩
      refine ⟨by omega,loop_next (i + 1) 4 ⟨by omega,nxt (by rw [hA]; simpa using h1)⟩ (by omega) ?_ ?_⟩
      · simp -dsimp only [go_sem]<;>simp
      · simp -dsimp only [go_sem,scC]<;>simp
    · have hg:decide ((i:Int) < (s.ss.length:Int))=false:=by simp; omega
      obtain rfl:i=s.ss.length:=by omega
      rw [fE_end] at ho
      rw [cond_ok ho.symm] at hF
      simp (maxSteps:=1000000) -dsimp only [go_sem,hg,scC]
      refine ne_use x1 (good_of hfit c2 ho.symm) hfit.ok ?_
      simp (maxSteps:=1000000) -dsimp only [go_sem]
      exact fin _ _ hF
end Go.Proofs.YtbcnggkldclemaaGreat
namespace Go.Proofs.YtbcnggkldclemaaGreat
open Go.W
def faSp:W.Spec:=fun av H K=>∃ (s:Sc) (n:ByteArray),av=[.va (.gs (scC s)),tS n]/\H=[]/\s.fit/\(checkF s ≠ 0->K (.tu [.gs [.vl (.map none),.vl (.map none)],bA false]) [])/\
  (checkF s=0->∀ ks vs ks' vs',IxS ks vs s.ss->IxE ks' vs' s.es->K (.tu [.gs [.mp 0,.mp 1],bA (hasS s.ss n)]) (ixH ks vs ks' vs'))
theorem fa_use {s:Sc} {n:ByteArray} {K:S->Hp->Prop} (h:s.fit) (h1:checkF s ≠ 0->K (.tu [.gs [.vl (.map none),.vl (.map none)],bA false]) []) (h2:checkF s=0->∀ ks vs ks' vs',IxS ks vs s.ss->IxE ks' vs' s.es->K (.tu [.gs [.mp 0,.mp 1],bA (hasS s.ss n)]) (ixH ks vs ks' vs')) :
    faSp [.va (.gs (scC s)),tS n] [] K:=⟨s,n,rfl,rfl,h,h1,h2⟩
set_option maxRecDepth 100000 in
theorem mFound:Meets Tryz.prog 70 faSp:=by
  refine meets_fn Tryz.func70 ok70 2 (by rw [Tryz.ntmps70]; decide) (meetsAll_f mCheck (meetsAll_s mIndexOf (meetsAll_nil _))) (fun av H K h=>by obtain ⟨_,_,rfl,_⟩:=h; rfl) ?_
  rintro av H K ⟨s,n,rfl,rfl,hs,k1,k2⟩
  have hsc:=isScF_mk hs
  simp only [scC] at hsc
  have hdec:C.sc [.vl (.int .i64 s.ver),.fz (s.es.map enC),.fz (s.ss.map stC)]=s:=sc_dec s
  simp (maxSteps:=1000000) -dsimp only [go_sem,scC,pc70,rs70,hsc,hdec]
  refine ⟨fun h=>?_,fun h=>?_⟩
  · exact .sel [] (by simp) (by simp) rfl (.done (by simp -dsimp only [go_sem]; exact k1 (by simpa using h)))
  · refine io_use hs.ok fun ks vs ks' vs' x1 x2=>?_
    have hx:=x1 n
    have k2:=k2 (by simpa using h) ks vs ks' vs' x1 x2
    cases hf:fS s.ss n with
    | none=>
      rw [hf] at hx
      simp only [Option.map_none] at hx
      rw [<-fS_has,hf] at k2
      simp (maxSteps:=1000000) -dsimp only [go_sem,hx]
      exact .sel [2,3] (by simp) (by simp) rfl (.done (by simp -dsimp only [go_sem]; exact k2))
    | some t=>
      rw [hf] at hx
      simp only [Option.map_some] at hx
      rw [<-fS_has,hf] at k2
      simp (maxSteps:=1000000) -dsimp only [go_sem,hx,stC]
      exact .sel [2,3] (by simp) (by simp) rfl (.done (by simp -dsimp only [go_sem]; exact k2))
def okS (s:Sc) (n:ByteArray):Bool:=checkF s == 0 && hasS s.ss n
def usL (s:Sc) (n:ByteArray):List ByteArray:=bif okS s n then usesF s.ss n else []
theorem check_good {s:Sc} (hf:s.fit) (h:checkF s=0):Gd s.ss s.es/\Acy s.ss/\enF s=0/\stF s=0/\largeF s=false/\1<=s.ver/\s.ver<=999/\∀ t ∈ s.ss,dD s.ss t.nm<=6:=by
  unfold checkF at h
  cases c1:decide (s.ver < 1) || decide (999 < s.ver) with
  | true=>rw [c1] at h; simp at h
  | false=>
  rw [c1] at h
  cases c2:largeF s with
  | true=>rw [c2] at h; simp at h
  | false=>
  rw [c2] at h
  simp only [Bool.cond_false] at h
  by_cases e1:enF s=0
  · rw [cond_ok e1] at h
    by_cases e2:stF s=0
    · rw [cond_ok e2] at h
      have g:=good_of hf c2 e2
      unfold nestF at h
      cases c3:s.ss.any (fun t=>inB (usesF s.ss t.nm) t.nm) with
      | true=>rw [c3] at h; simp at h
      | false=>
      rw [c3] at h
      cases c4:s.ss.any (fun t=>decide (6 < dD s.ss t.nm)) with
      | true=>rw [c4] at h; simp at h
      | false=>
      simp only [Bool.or_eq_false_iff,decide_eq_false_iff_not] at c1
      refine ⟨g,any_false c3,e1,e2,rfl,by omega,by omega,fun t ht=>?_⟩
      have:=any_false c4 t ht
      simpa using this
    · rw [cond_err e2] at h; exact absurd h e2
  · rw [cond_err e1] at h; exact absurd h e1
def usSpP:W.Spec:=fun av H K=>∃ (s:Sc) (n:ByteArray),av=[.va (.gs (scC s)),tS n]/\H=[]/\s.fit/\K (.va (.c1 (.fz ((usL s n).map stR)))) []
theorem usp_use {s:Sc} {n:ByteArray} {K:S->Hp->Prop} (h:s.fit) (hK:K (.va (.c1 (.fz ((usL s n).map stR)))) []):usSpP [.va (.gs (scC s)),tS n] [] K:=⟨s,n,rfl,rfl,h,hK⟩
set_option maxRecDepth 100000 in
theorem mUsesP:Meets Tryz.prog 49 usSpP:=by
  refine meets_fn Tryz.func49 ok49 2 (by rw [Tryz.ntmps49]; decide) (meetsAll_s mFound (meetsAll_s mUses (meetsAll_nil _))) (fun av H K h=>by obtain ⟨_,_,rfl,_⟩:=h; rfl) ?_
  rintro av H K ⟨s,n,rfl,rfl,hs,hK⟩
  have fin:∀ (x:List ByteArray) (R:Hp),usL s n=x->W.Fin 0 K (.va (.c1 (.fz (x.map stR)))) R:=fun x R h1=>by
    rw [h1] at hK
    exact .sel [] (by simp) (by simp) rfl (.done (by simpa [go_sem] using hK))
  simp -dsimp only [go_sem,scC,pc49,rs49]
  refine fa_use hs (fun h=>?_) fun h ks vs ks' vs' x1 x2=>?_
  · simp (maxSteps:=1000000) -dsimp only [go_sem]
    exact fin [] _ (by unfold usL okS; rw [beq_eq_false_iff_ne.2 h]; rfl)
  · obtain ⟨g,ha,_⟩:=check_good hs h
    cases hf:hasS s.ss n with
    | false=>
      simp (maxSteps:=1000000) -dsimp only [go_sem]
      exact fin [] _ (by unfold usL okS; rw [hf]; simp)
    | true=>
      simp (maxSteps:=1000000) -dsimp only [go_sem]
      refine us_use x1 hs.ok.ss (by have:=g.vlen n; omega) ?_
      simp (maxSteps:=1000000) -dsimp only [go_sem]
      exact fin _ _ (by unfold usL okS; rw [hf,h]; rfl)
end Go.Proofs.YtbcnggkldclemaaGreat
namespace Go.Proofs.YtbcnggkldclemaaGreat
open Go.W
def ctSp (N:Nat):W.Spec:=fun av H K=>∃ t:Ty,av=[.va (.gs (tyC t))]/\H=[]/\TyOk t/\TySm t/\t.h<=N/\K (.va (.gs (tyC t))) []
theorem ct_use {N:Nat} {t:Ty} {K:S->Hp->Prop} (h1:TyOk t) (h2:TySm t) (h3:t.h<=N) (hK:K (.va (.gs (tyC t))) []):ctSp N [.va (.gs (tyC t))] [] K:=⟨t,rfl,rfl,h1,h2,h3,hK⟩
theorem take_next {α:Type} {l:List α} {i:Nat} {x:α} (h:l[i]? = some x):l.take (i + 1)=l.take i ++ [x]:=by rw [List.take_add_one,h]; rfl
theorem tyC_ss (t:Ty):∀ c ∈ tyC t,c.shut=true/\c.one:=by rw [tyC_eq]; simp [go_sem,C.shut]
set_option maxRecDepth 100000 in
theorem mCopyType:∀ N,Meets Tryz.prog 84 (ctSp N)
  | 0=>⟨by kernel_rfl,by rintro xs vs E ro w K _ _ _ ⟨t,_,_,_,_,h,_⟩; have:=t.h_pos; omega⟩
  | N + 1=>by
    refine meets_fn Tryz.func84 ok84 1 (by rw [Tryz.ntmps84]; decide) (meetsAll_s (mCopyType N) (meetsAll_nil _)) (fun av H K h=>by obtain ⟨_,rfl,_⟩:=h; rfl) ?_
    rintro av H K ⟨⟨k,s,n,e⟩,rfl,rfl,h1,h2,h3,hK⟩
    have hle:=h1.len
    have hoe:=h1.e
    obtain ⟨hl,hse⟩:e.length<=1000000000/\∀ t ∈ e,TySm t:=by cases h2; exact ⟨by assumption,by assumption⟩
    simp only [Ty.e] at hle hoe
    simp (maxSteps:=1000000) -dsimp only [go_sem,tyC,tysC_map,pc84,rs84]
    refine vc_loop_gh (α:=Nat) (fun i=>[(2,.va (.c1 (.pt 1 0))),(3,.va (.c1 (.pt 2 0))),(14,.va (.c1 (.fz (e.map tyC)))),(15,iS .i64 e.length),(16,iS .i64 i)]) (fun i=>[.cells (tyC (.mk k s n e)) 40,.cells [.vl (.int .i64 0),.vl (.int .i64 0),.vl (.string (mk [])),.vl (.slice none 0 0)] 40,.cells [.vl (.int .i64 k),.vl (.int .i64 s),.vl (.string n),.sl 3 i] 40,.row ((e.take i).map tyC) 40 4])
      (fun i=>i<=e.length) (fun i=>e.length - i) (.nilc 2 3 40 4 [.vl (.int .i64 k),.vl (.int .i64 s),.vl (.string n),.vl (.slice none 0 0)] 40 rfl rfl (gh_at 0 4 (Nat.zero_le _) ?_ ?_)) ?_
    · simp -dsimp only [go_sem]<;>simp
    · simp -dsimp only [go_sem,tyC,tysC_map]<;>simp
    intro i hi
    have hz:(e.take i).length=i:=by rw [List.length_take]; omega
    rcases Nat.lt_or_ge i e.length with hlt | hge
    · have hg:decide ((i:Int) < (e.length:Int))=true:=by simp; omega
      obtain ⟨u,hx⟩:∃ t,e[i]? = some t:=⟨_,List.getElem?_eq_getElem hlt⟩
      have q1:=row_rg' (row:=tyC) hx
      have hu:=List.mem_of_getElem? hx
      simp (maxSteps:=1000000) -dsimp only [go_sem,hg,↓q1,tyC_len]
      refine ⟨by omega,tyC_one u,ct_use (hoe u hu) (hse u hu) ?_ ?_⟩
      · have:=Ty.hs_mem hu; rw [Ty.h] at h3; omega
      simp (maxSteps:=1000000) -dsimp only [go_sem,tyC_len]
      refine ⟨tyC_ss u,tyC_ss u,hz,by omega,by omega,loop_next (i + 1) 4 (by omega) (by omega) ?_ ?_⟩
      · simp -dsimp only [go_sem]<;>simp
      · simp -dsimp only [go_sem,tyC,tysC_map,take_next hx]<;>simp
    · have hg:decide ((i:Int) < (e.length:Int))=false:=by simp; omega
      obtain rfl:i=e.length:=by omega
      rw [List.take_length]
      simp (maxSteps:=1000000) -dsimp only [go_sem,hg]
      refine .pub 3 _ _ _ rfl (.sel [] (by simp) (by simp [pubH]) rfl (.done ?_))
      simp -dsimp only [go_sem,pubH]
      simpa [tyC,tysC_map] using hK
end Go.Proofs.YtbcnggkldclemaaGreat
namespace Go.Proofs.YtbcnggkldclemaaGreat
open Go.W
def cdSp:W.Spec:=fun av H K=>∃ f:Fl,av=[.va (.gs (flC f))]/\H=[]/\f.ok/\TySm f.ty/\K (.va (.gs (flC f))) []
theorem cd_use {f:Fl} {K:S->Hp->Prop} (h1:f.ok) (h2:TySm f.ty) (hK:K (.va (.gs (flC f))) []):cdSp [.va (.gs (flC f))] [] K:=⟨f,rfl,rfl,h1,h2,hK⟩
set_option maxRecDepth 100000 in
theorem mCopyField:Meets Tryz.prog 58 cdSp:=by
  refine meets_all 0 (t:=fun N=>fun av H K=>∃ f:Fl,av=[.va (.gs (flC f))]/\H=[]/\f.ok/\TySm f.ty/\f.ty.h=N/\K (.va (.gs (flC f))) []) (fun N=>?_) fun av H K ⟨f,e1,e2,h1,h2,hK⟩=>⟨f.ty.h,f,e1,e2,h1,h2,rfl,hK⟩
  refine meets_fn Tryz.func58 ok58 1 (by rw [Tryz.ntmps58]; decide) (meetsAll_s (mCopyType N) (meetsAll_nil _)) (fun av H K h=>by obtain ⟨_,rfl,_⟩:=h; rfl) ?_
  rintro av H K ⟨f,rfl,rfl,h1,h2,rfl,hK⟩
  simp (maxSteps:=1000000) -dsimp only [go_sem,flC,pc58,rs58,fl_ty]
  refine ct_use h1.ty h2 (Nat.le_refl _) ?_
  simp (maxSteps:=1000000) -dsimp only [go_sem,tyC_eq]
  exact .sel [] (by simp) (by simp) rfl (.done (by simpa [go_sem,flC] using hK))
def csSp':W.Spec:=fun av H K=>∃ t:St,av=[.va (.gs (stC t))]/\H=[]/\t.ok/\(t.fs.length<=1000000000/\∀ f ∈ t.fs,TySm f.ty)/\K (.va (.gs (stC t))) []
theorem cs_use {t:St} {K:S->Hp->Prop} (h1:t.ok) (h2:t.fs.length<=1000000000/\∀ f ∈ t.fs,TySm f.ty) (hK:K (.va (.gs (stC t))) []):csSp' [.va (.gs (stC t))] [] K:=⟨t,rfl,rfl,h1,h2,hK⟩
set_option maxRecDepth 100000 in
theorem mCopyStruct:Meets Tryz.prog 30 csSp':=by
  refine meets_fn Tryz.func30 ok30 1 (by rw [Tryz.ntmps30]; decide) (meetsAll_s mCopyField (meetsAll_nil _)) (fun av H K h=>by obtain ⟨_,rfl,_⟩:=h; rfl) ?_
  rintro av H K ⟨⟨n,l⟩,rfl,rfl,h1,⟨hl,hse⟩,hK⟩
  obtain ⟨hn,_,hfs⟩:=h1
  simp only at hn hl hse hfs
  simp (maxSteps:=1000000) -dsimp only [go_sem,stC,pc30,rs30]
  refine vc_loop_gh (α:=Nat) (fun i=>[(2,.va (.c1 (.pt 1 0))),(3,.va (.c1 (.pt 2 0))),(10,.va (.c1 (.fz (l.map flC)))),(11,iS .i64 l.length),(12,iS .i64 i)]) (fun i=>[.cells (stC ⟨n,l⟩) 45,.cells [.vl (.string (mk [])),.vl (.slice none 0 0)] 45,.cells [.vl (.string n),.sl 3 i] 45,.row ((l.take i).map flC) 42 7])
    (fun i=>i<=l.length) (fun i=>l.length - i) (.nilc 2 1 42 7 [.vl (.string n),.vl (.slice none 0 0)] 45 rfl rfl (gh_at 0 4 (Nat.zero_le _) ?_ ?_)) ?_
  · simp -dsimp only [go_sem]<;>simp
  · simp -dsimp only [go_sem,stC]<;>simp
  intro i hi
  have hz:(l.take i).length=i:=by rw [List.length_take]; omega
  rcases Nat.lt_or_ge i l.length with hlt | hge
  · have hg:decide ((i:Int) < (l.length:Int))=true:=by simp; omega
    obtain ⟨u,hx⟩:∃ t,l[i]? = some t:=⟨_,List.getElem?_eq_getElem hlt⟩
    have q1:=row_rg' (row:=flC) hx
    have hu:=List.mem_of_getElem? hx
    have hcd:flC u=[.vl (.int .i64 u.num),.vl (.string u.nm),.vl (.int .i64 u.ty.k),.vl (.int .i64 u.ty.s),.vl (.string u.ty.n),.fz (u.ty.e.map tyC),.vl (.bool u.opt)]:=rfl
    simp (maxSteps:=1000000) -dsimp only [go_sem,hg,↓q1,flC]
    refine ⟨by omega,cd_use (hfs u hu) (hse u hu) ?_⟩
    simp (maxSteps:=1000000) -dsimp only [go_sem,flC]
    refine ⟨hz,by omega,by omega,loop_next (i + 1) 4 (by omega) (by omega) ?_ ?_⟩
    · simp -dsimp only [go_sem]<;>simp
    · simp -dsimp only [go_sem,stC,take_next hx]<;>simp [flC]
  · have hg:decide ((i:Int) < (l.length:Int))=false:=by simp; omega
    obtain rfl:i=l.length:=by omega
    rw [List.take_length]
    simp (maxSteps:=1000000) -dsimp only [go_sem,hg]
    refine .pub 3 _ _ _ rfl (.sel [] (by simp) (by simp [pubH]) rfl (.done ?_))
    simp -dsimp only [go_sem,pubH]
    simpa [stC] using hK
theorem fnd_step {α:Type} {l:List α} {i:Nat} {x:α} (hx:l[i]? = some x) (p:α->Bool):(l.drop i).find? p=bif p x then some x else (l.drop (i + 1)).find? p:=by
  obtain ⟨h,rfl⟩:=List.getElem?_eq_some_iff.1 hx
  rw [List.drop_eq_getElem_cons h,List.find?_cons]
  cases p l[i]<;>rfl
def stSpP:W.Spec:=fun av H K=>∃ (s:Sc) (n:ByteArray),av=[.va (.gs (scC s)),tS n]/\H=[]/\s.fit/\K (.tu [.gs (stC ((fS s.ss n).getD default)),bA (hasS s.ss n)]) []
theorem stp_use {s:Sc} {n:ByteArray} {K:S->Hp->Prop} (h:s.fit) (hK:K (.tu [.gs (stC ((fS s.ss n).getD default)),bA (hasS s.ss n)]) []):stSpP [.va (.gs (scC s)),tS n] [] K:=⟨s,n,rfl,rfl,h,hK⟩
theorem stC_def:stC default=[.vl (.string (mk [])),.fz []]:=rfl
theorem flC_def:flC default=[.vl (.int .i64 0),.vl (.string (mk [])),.vl (.int .i64 0),.vl (.int .i64 0),.vl (.string (mk [])),.fz [],.vl (.bool false)]:=rfl
set_option maxRecDepth 100000 in
theorem mStructP:Meets Tryz.prog 13 stSpP:=by
  refine meets_fn Tryz.func13 ok13 2 (by rw [Tryz.ntmps13]; decide) (meetsAll_s mCopyStruct (meetsAll_nil _)) (fun av H K h=>by obtain ⟨_,_,rfl,_⟩:=h; rfl) ?_
  rintro av H K ⟨s,n,rfl,rfl,hs,hK⟩
  rw [<-fS_has] at hK
  have hl:=hs.ok.ls
  simp -dsimp only [go_sem,scC,pc13,rs13]
  refine vc_loop (α:=Nat) (fun i=>[(1,tS n),(2,.va (.c1 (.pt 0 0))),(4,.va (.c1 (.pt 1 0))),(9,.va (.c1 (.fz (s.ss.map stC)))),(10,iS .i64 s.ss.length),(11,iS .i64 i)]) (fun _=>[.cells (scC s) 25,.cells [.vl (.string (mk [])),.vl (.slice none 0 0)] 45])
    (fun i=>i<=s.ss.length/\fS (s.ss.drop i) n=fS s.ss n) (fun i=>s.ss.length - i) 0 2 ⟨Nat.zero_le _,rfl⟩ ?_ ?_ ?_
  · simp [go_sem]
  · simp [go_sem,scC]
  rintro i ⟨hi,ho⟩
  rcases Nat.lt_or_ge i s.ss.length with hlt | hge
  · have hg:decide ((i:Int) < (s.ss.length:Int))=true:=by simp; omega
    obtain ⟨t,hx⟩:∃ e,s.ss[i]? = some e:=⟨_,List.getElem?_eq_getElem hlt⟩
    have q2:=row_rg' (row:=stC) hx
    have htm:=List.mem_of_getElem? hx
    rw [fS,fnd_step hx] at ho
    cases hc:decide (t.nm=n) with
    | true=>
      rw [hc,Bool.cond_true] at ho
      rw [<-ho] at hK
      simp (maxSteps:=1000000) -dsimp only [go_sem,hg,↓q2,stC,scC,bl_beq,hc]
      refine ⟨by omega,cs_use (hs.ok.ss t htm) (hs.sm t htm) ?_⟩
      simp (maxSteps:=1000000) -dsimp only [go_sem,stC]
      exact .sel [] (by simp) (by simp) rfl (.done (by simpa [go_sem,stC] using hK))
    | false=>
      rw [hc,Bool.cond_false] at ho
      simp (maxSteps:=1000000) -dsimp only [go_sem,hg,↓q2,stC,scC,bl_beq,hc]
      refine ⟨by omega,by omega,loop_next (i + 1) 2 ⟨by omega,ho⟩ (by omega) ?_ ?_⟩
      · simp [go_sem]
      · simp [go_sem,scC]
  · have hg:decide ((i:Int) < (s.ss.length:Int))=false:=by simp; omega
    obtain rfl:i=s.ss.length:=by omega
    rw [List.drop_length] at ho
    rw [<-ho] at hK
    simp -dsimp only [go_sem,hg,scC]
    exact .sel [] (by simp) (by simp) rfl (.done (by simpa [go_sem,fS,stC_def] using hK))
def fF (l:List Fl) (k:Int):Option Fl:=l.find? fun f=>decide (f.num=k)
def foSpP:W.Spec:=fun av H K=>∃ (t:St) (k:Int),av=[.va (.gs (stC t)),iS .i64 k]/\H=[]/\t.ok/\(∀ f ∈ t.fs,TySm f.ty)/\K (.tu [.gs (flC ((fF t.fs k).getD default)),bA (fF t.fs k).isSome]) []
theorem fop_use {t:St} {k:Int} {K:S->Hp->Prop} (h:t.ok) (h2:∀ f ∈ t.fs,TySm f.ty) (hK:K (.tu [.gs (flC ((fF t.fs k).getD default)),bA (fF t.fs k).isSome]) []):foSpP [.va (.gs (stC t)),iS .i64 k] [] K:=⟨t,k,rfl,rfl,h,h2,hK⟩
set_option maxRecDepth 100000 in
theorem mFieldOfP:Meets Tryz.prog 38 foSpP:=by
  refine meets_fn Tryz.func38 ok38 2 (by rw [Tryz.ntmps38]; decide) (meetsAll_s mCopyField (meetsAll_nil _)) (fun av H K h=>by obtain ⟨_,_,rfl,_⟩:=h; rfl) ?_
  rintro av H K ⟨s,n,rfl,rfl,hs,hsm,hK⟩
  have hl:=hs.len
  simp -dsimp only [go_sem,stC,pc38,rs38]
  refine vc_loop (α:=Nat) (fun i=>[(1,iS .i64 n),(2,.va (.c1 (.pt 0 0))),(4,.va (.c1 (.pt 1 0))),(9,.va (.c1 (.fz (s.fs.map flC)))),(10,iS .i64 s.fs.length),(11,iS .i64 i)]) (fun _=>[.cells (stC s) 45,.cells [.vl (.int .i64 0),.vl (.string (mk [])),.vl (.int .i64 0),.vl (.int .i64 0),.vl (.string (mk [])),.vl (.slice none 0 0),.vl (.bool false)] 42])
    (fun i=>i<=s.fs.length/\fF (s.fs.drop i) n=fF s.fs n) (fun i=>s.fs.length - i) 0 2 ⟨Nat.zero_le _,rfl⟩ ?_ ?_ ?_
  · simp [go_sem]
  · simp [go_sem,stC]
  rintro i ⟨hi,ho⟩
  rcases Nat.lt_or_ge i s.fs.length with hlt | hge
  · have hg:decide ((i:Int) < (s.fs.length:Int))=true:=by simp; omega
    obtain ⟨t,hx⟩:∃ e,s.fs[i]? = some e:=⟨_,List.getElem?_eq_getElem hlt⟩
    have q2:=row_rg' (row:=flC) hx
    have htm:=List.mem_of_getElem? hx
    rw [fF,fnd_step hx] at ho
    have hq:(t.num == n)=decide (t.num=n):=rfl
    cases hc:decide (t.num=n) with
    | true=>
      rw [hc,Bool.cond_true] at ho
      rw [<-ho] at hK
      simp (maxSteps:=1000000) -dsimp only [go_sem,hg,↓q2,flC,stC,hq,hc]
      refine ⟨by omega,cd_use (hs.fs t htm) (hsm t htm) ?_⟩
      simp (maxSteps:=1000000) -dsimp only [go_sem,flC]
      exact .sel [] (by simp) (by simp) rfl (.done (by simpa [go_sem,flC] using hK))
    | false=>
      rw [hc,Bool.cond_false] at ho
      simp (maxSteps:=1000000) -dsimp only [go_sem,hg,↓q2,flC,stC,hq,hc]
      refine ⟨by omega,by omega,loop_next (i + 1) 2 ⟨by omega,ho⟩ (by omega) ?_ ?_⟩
      · simp [go_sem]
      · simp [go_sem,stC]
  · have hg:decide ((i:Int) < (s.fs.length:Int))=false:=by simp; omega
    obtain rfl:i=s.fs.length:=by omega
    rw [List.drop_length] at ho
    rw [<-ho] at hK
    simp -dsimp only [go_sem,hg,stC]
    exact .sel [] (by simp) (by simp) rfl (.done (by simpa [go_sem,fF,flC_def] using hK))
end Go.Proofs.YtbcnggkldclemaaGreat
namespace Go.Proofs.YtbcnggkldclemaaGreat
open Go.W
@[go_sem] theorem tyC_bor (t:Ty) (H:Hp):(tyC t).map (C.bor H)=tyC t:=by rw [tyC_eq]; rfl
noncomputable def tyB (a b:Ty):Bool:=@decide (a=b) (Classical.propDecidable _)
theorem tyB_eq {a b:Ty} (h:a=b):tyB a b=true:=by unfold tyB; simp [h]
theorem tyB_ne {a b:Ty} (h:a ≠ b):tyB a b=false:=by unfold tyB; simp [h]
theorem tyB_iff {a b:Ty}:tyB a b=true ↔ a=b:=by unfold tyB; simp
def saPre (N:Nat):List S->Prop:=fun av=>match av with
  | [.va (.gs r),.va (.gs q)]=>isTy r/\isTy q/\(C.ty r).h<=N
  | _=>False
theorem saPre_open {N:Nat} {av:List S} (h:saPre N av):∃ a b,av=[.va (.gs (tyC a)),.va (.gs (tyC b))]/\TyOk a/\TyOk b/\a.h<=N:=by
  unfold saPre at h
  split at h
  · obtain ⟨⟨a,rfl,ha⟩,⟨b,rfl,hb⟩,hh⟩:=h
    rw [ty_dec] at hh
    exact ⟨a,b,rfl,ha,hb,hh⟩
  · exact h.elim
noncomputable def saVal:List S->A:=fun av=>match av with
  | [.va (.gs r),.va (.gs q)]=>bA (tyB (C.ty r) (C.ty q))
  | _=>.gs []
noncomputable def saFn (N:Nat):Fun:=⟨saPre N,saVal,fun av h=>by obtain ⟨a,b,rfl,_⟩:=saPre_open h; trivial⟩
theorem saFn_len {N:Nat}:∀ av H K,(saFn N).sp av H K->av.length=2:=fun av H K h=>by obtain ⟨a,b,rfl,_⟩:=saPre_open h.1.1; rfl
attribute [go_sem] saFn saPre saVal
theorem mk_eq {k s k' s':Int} {n n':ByteArray} {e e':List Ty}:(Ty.mk k s n e=Ty.mk k' s' n' e') ↔ (k=k'/\s=s'/\n=n'/\e=e'):=by simp
set_option maxRecDepth 100000 in
theorem mSameP:∀ N,Meets Tryz.prog 72 (saFn N).sp
  | 0=>⟨by kernel_rfl,by rintro xs vs E ro w K _ _ _ ⟨⟨h,_⟩,_⟩; obtain ⟨a,_,_,_,_,h⟩:=saPre_open h; have:=a.h_pos; omega⟩
  | N + 1=>by
    refine meets_fn Tryz.func72 ok72 2 (by rw [Tryz.ntmps72]; decide) (meetsAll_f (mSameP N) (meetsAll_nil _)) saFn_len ?_
    rintro av H K ⟨⟨h,rfl⟩,hK⟩
    obtain ⟨a,b,rfl,ha,hb,hh⟩:=saPre_open h
    have hK:K (bS (tyB a b)) []:=by
      have:(saFn (N + 1)).val [.va (.gs (tyC a)),.va (.gs (tyC b))]=bA (tyB a b):=by simp -dsimp only [go_sem]
      rw [this] at hK; exact hK
    clear h
    have fin:∀ (x:Bool) (R:Hp),tyB a b=x->W.Fin 0 K (bS x) R:=fun x R h=>by
      rw [h] at hK
      exact .sel [] (by simp) (by simp) rfl (.done (by simpa [go_sem] using hK))
    obtain ⟨k,s,n,e⟩:=a
    obtain ⟨k',s',n',e'⟩:=b
    have hla:=ha.len
    have hoa:=ha.e
    have hob:=hb.e
    simp only [Ty.e] at hla hoa hob
    simp (maxSteps:=1000000) -dsimp only [go_sem,tyC,tysC_map,pc72,rs72,bl_beq]
    refine ⟨fun h1=>fin false _ (tyB_ne fun he=>?_),fun h1=>?_⟩
    · obtain ⟨rfl,rfl,rfl,rfl⟩:=mk_eq.1 he
      simp at h1
    simp only [Bool.or_eq_false_iff,bne_eq_false_iff_eq,Bool.not_eq_false',decide_eq_true_eq] at h1
    obtain ⟨⟨⟨rfl,rfl⟩,rfl⟩,hl⟩:=h1
    have hl:e.length=e'.length:=by omega
    refine vc_loop (α:=Nat) (fun i=>[(2,.va (.c1 (.pt 0 0))),(3,.va (.c1 (.pt 1 0))),(36,iS .i64 e.length),(37,iS .i64 i)]) (fun i=>[.cells (tyC (.mk k s n e)) 40,.cells (tyC (.mk k s n e')) 40])
      (fun i=>i<=e.length/\∀ j,j < i->e[j]? = e'[j]?) (fun i=>e.length - i) 0 2 ⟨Nat.zero_le _,fun j hj=>by omega⟩ ?_ ?_ ?_
    · simp -dsimp only [go_sem]<;>simp
    · simp -dsimp only [go_sem,tyC,tysC_map]<;>simp
    rintro i ⟨hi,ho⟩
    rcases Nat.lt_or_ge i e.length with hlt | hge
    · have hg:decide ((i:Int) < (e.length:Int))=true:=by simp; omega
      obtain ⟨u,hx⟩:∃ t,e[i]? = some t:=⟨_,List.getElem?_eq_getElem hlt⟩
      obtain ⟨v,hy⟩:∃ t,e'[i]? = some t:=⟨_,List.getElem?_eq_getElem (by omega)⟩
      have q1:=row_rg' (row:=tyC) hx
      have q2:=row_rg' (row:=tyC) hy
      have hu:isTy (tyC u):=isTy_mk (hoa u (List.mem_of_getElem? hx))
      have hv:isTy (tyC v):=isTy_mk (hob v (List.mem_of_getElem? hy))
      have huh:u.h<=N:=by have:=Ty.hs_mem (List.mem_of_getElem? hx); rw [Ty.h] at hh; omega
      simp (maxSteps:=1000000) -dsimp only [go_sem,hg,tyC,tysC_map]
      simp (maxSteps:=1000000) -dsimp only [go_sem,tyC_len,hu,hv,hx,hy,Option.some.injEq,forall_eq']
      refine ⟨by omega,by omega,huh,fun h1=>fin false _ (tyB_ne fun he=>?_),fun h1=>?_⟩
      · obtain ⟨_,_,_,rfl⟩:=mk_eq.1 he
        rw [hx] at hy
        rw [tyB_eq (Option.some.inj hy)] at h1
        simp at h1
      · have h1:u=v:=tyB_iff.1 (by simpa using h1)
        subst h1
        refine ⟨by omega,loop_next (i + 1) 2 ⟨by omega,fun j hj=>?_⟩ (by omega) ?_ ?_⟩
        · rcases Nat.lt_or_ge j i with h4 | h4
          · exact ho j h4
          · obtain rfl:j=i:=by omega
            rw [hx,hy]
        · simp -dsimp only [go_sem]<;>simp
        · simp -dsimp only [go_sem,tyC,tysC_map]<;>simp
    · have hg:decide ((i:Int) < (e.length:Int))=false:=by simp; omega
      obtain rfl:i=e.length:=by omega
      simp (maxSteps:=1000000) -dsimp only [go_sem,hg]
      refine fin true _ (tyB_eq ?_)
      rw [mk_eq]
      refine ⟨rfl,rfl,rfl,List.ext_getElem? fun j=>?_⟩
      rcases Nat.lt_or_ge j e.length with h4 | h4
      · exact ho j h4
      · rw [List.getElem?_eq_none h4,List.getElem?_eq_none (by omega)]
def sPre:List S->Prop:=fun av=>match av with
  | [.va (.gs r),.va (.gs q)]=>isTy r/\isTy q
  | _=>False
theorem sPre_open {av:List S} (h:sPre av):∃ a b,av=[.va (.gs (tyC a)),.va (.gs (tyC b))]/\TyOk a/\TyOk b:=by
  unfold sPre at h
  split at h
  · obtain ⟨⟨a,rfl,ha⟩,⟨b,rfl,hb⟩⟩:=h
    exact ⟨a,b,rfl,ha,hb⟩
  · exact h.elim
noncomputable def sFn:Fun:=⟨sPre,saVal,fun av h=>by obtain ⟨a,b,rfl,_⟩:=sPre_open h; trivial⟩
attribute [go_sem] sFn sPre
theorem mSameS:Meets Tryz.prog 72 sFn.sp:=meets_all 0 mSameP fun av H K ⟨⟨h,e⟩,hK⟩=>by
  obtain ⟨a,b,rfl,ha,hb⟩:=sPre_open h
  exact ⟨a.h,⟨⟨⟨isTy_mk ha,isTy_mk hb,by rw [ty_dec]; exact Nat.le_refl _⟩,e⟩,hK⟩⟩
end Go.Proofs.YtbcnggkldclemaaGreat
namespace Go.Proofs.YtbcnggkldclemaaGreat
open Go.W
def chT (k:Int) (t:Ty):Ty:=bif decide (k=t.k) && decide (t.k=5) && decide (t.e.length=1) then t.e.headD default else default
def stO (s:Sc) (k:Int) (t:Ty):Option (List Fl):=bif decide (k=t.k) && decide (t.k=6) && hasS s.ss t.n then some ((fS s.ss t.n).getD default).fs else none
mutual
def pj (s:Sc) (t:Ty):Vl->Vl
  | .mk k n str l f=>.mk k n str (pjL s (chT k t) l) (pjF s (stO s k t) f)
def pjL (s:Sc) (t:Ty):List Vl->List Vl
  | []=>[]
  | v :: r=>pj s t v :: pjL s t r
def pjF (s:Sc) (o:Option (List Fl)):List (Int × Vl)->List (Int × Vl)
  | []=>[]
  | (i,v) :: r=>match o with
    | none=>(i,pj s default v) :: pjF s o r
    | some fs=>match fF fs i with
      | some g=>(i,pj s g.ty v) :: pjF s o r
      | none=>pjF s o r
end
theorem pjL_map (s:Sc) (t:Ty):∀ l:List Vl,pjL s t l=l.map (pj s t)
  | []=>rfl
  | v :: r=>by rw [pjL,pjL_map s t r]; rfl
def pjE (s:Sc) (o:Option (List Fl)) (x:Int × Vl):List (Int × Vl):=match o with
  | none=>[(x.1,pj s default x.2)]
  | some fs=>match fF fs x.1 with
    | some g=>[(x.1,pj s g.ty x.2)]
    | none=>[]
theorem pjF_flat (s:Sc) (o:Option (List Fl)):∀ l:List (Int × Vl),pjF s o l=l.flatMap (pjE s o)
  | []=>rfl
  | (i,v) :: r=>by
    rw [pjF.eq_def,List.flatMap_cons,<-pjF_flat s o r]
    unfold pjE
    cases o with
    | none=>rfl
    | some fs=>cases h:fF fs i<;>simp [h]
theorem pj_eq (s:Sc) (t:Ty) (v:Vl):pj s t v=.mk v.k v.n v.s (v.l.map (pj s (chT v.k t))) (v.f.flatMap (pjE s (stO s v.k t))):=by
  cases v with
  | mk k n str l f=>rw [pj,pjL_map,pjF_flat]; rfl
theorem chT_default (k:Int):chT k default=default:=by
  unfold chT
  cases (decide (k=(default:Ty).k) && decide ((default:Ty).k=5) && decide ((default:Ty).e.length=1))<;>rfl
theorem stO_default (s:Sc) (k:Int):stO s k default=none:=by
  unfold stO
  have:decide ((default:Ty).k=6)=false:=by decide
  rw [this,Bool.and_false,Bool.false_and]; rfl
mutual
theorem pj_default (s:Sc):∀ v:Vl,pj s default v=v
  | .mk k n str l f=>by rw [pj,chT_default,stO_default,pjL_default s l,pjF_default s f]
theorem pjL_default (s:Sc):∀ l:List Vl,pjL s default l=l
  | []=>rfl
  | v :: r=>by rw [pjL,pj_default s v,pjL_default s r]
theorem pjF_default (s:Sc):∀ f:List (Int × Vl),pjF s none f=f
  | []=>rfl
  | (i,v) :: r=>by rw [pjF,pj_default s v,pjF_default s r]
end
theorem pj_other {s:Sc} {t:Ty} {v:Vl} (h:v.k ≠ t.k):pj s t v=v:=by
  cases v with
  | mk k n str l f=>
    have h:k ≠ t.k:=h
    have e1:chT k t=default:=by unfold chT; rw [decide_eq_false h]; rfl
    have e2:stO s k t=none:=by unfold stO; rw [decide_eq_false h]; rfl
    rw [pj,e1,e2,pjL_default,pjF_default]
mutual
theorem pj_twice (s:Sc):∀ (v:Vl) (t:Ty),pj s t (pj s t v)=pj s t v
  | .mk k n str l f,t=>by
    rw [pj,pj,pjL_twice s l,pjF_twice s f]
theorem pjL_twice (s:Sc):∀ (l:List Vl) (t:Ty),pjL s t (pjL s t l)=pjL s t l
  | [],_=>rfl
  | v :: r,t=>by rw [pjL,pjL,pj_twice s v t,pjL_twice s r t]
theorem pjF_twice (s:Sc):∀ (f:List (Int × Vl)) (o:Option (List Fl)),pjF s o (pjF s o f)=pjF s o f
  | [],_=>rfl
  | (i,v) :: r,o=>by
    cases o with
    | none=>
      rw [pjF,pjF,pj_twice s v default,pjF_twice s r none]
    | some fs=>
      rw [pjF]
      cases h:fF fs i with
      | none=>dsimp only; rw [pjF_twice s r (some fs)]
      | some g=>
        dsimp only
        rw [pjF]
        simp only [h]
        rw [pj_twice s v g.ty,pjF_twice s r (some fs)]
end
theorem pjE_len (s:Sc) (o:Option (List Fl)) (x:Int × Vl):(pjE s o x).length<=1:=by
  unfold pjE
  cases o with
  | none=>exact Nat.le_refl _
  | some fs=>dsimp only; cases fF fs x.1<;>simp
theorem pjFl_len (s:Sc) (o:Option (List Fl)) (l:List (Int × Vl)):(l.flatMap (pjE s o)).length<=l.length:=by
  induction l with
  | nil=>exact Nat.le_refl _
  | cons x l ih=>rw [List.flatMap_cons,List.length_append,List.length_cons]; have:=pjE_len s o x; omega
mutual
theorem pj_ok {s:Sc}:∀ {v:Vl} {t:Ty},VlOk v->VlOk (pj s t v)
  | .mk k n str l f,t,h=>by
    rw [pj]
    refine .mk h.k h.n h.s ?_ ?_ (pjL_ok (fun x hx=>h.l x hx)) (fun x hx=>(pjF_ok (fun y hy=>⟨h.fn y hy,h.f y hy⟩) x hx).1) (fun x hx=>(pjF_ok (fun y hy=>⟨h.fn y hy,h.f y hy⟩) x hx).2)
    · rw [pjL_map,List.length_map]; exact h.ll
    · have:=h.lf
      have h2:=pjFl_len s (stO s k t) f
      rw [pjF_flat]
      have h3:f.length * 88<=140737488355328:=this
      omega
theorem pjL_ok {s:Sc}:∀ {l:List Vl} {t:Ty},(∀ x ∈ l,VlOk x)->∀ x ∈ pjL s t l,VlOk x
  | [],_,_,x,hx=>by rw [pjL] at hx; cases hx
  | v :: r,t,h,x,hx=>by
    rw [pjL] at hx
    rcases List.mem_cons.1 hx with rfl | hx
    · exact pj_ok (h v (by simp))
    · exact pjL_ok (fun y hy=>h y (List.mem_cons_of_mem _ hy)) x hx
theorem pjF_ok {s:Sc}:∀ {f:List (Int × Vl)} {o:Option (List Fl)},(∀ x ∈ f,in64 x.1/\VlOk x.2)->∀ x ∈ pjF s o f,in64 x.1/\VlOk x.2
  | [],_,_,x,hx=>by rw [pjF] at hx; cases hx
  | (i,v) :: r,o,h,x,hx=>by
    have h1:=h (i,v) (by simp)
    have h2:∀ y ∈ r,in64 y.1/\VlOk y.2:=fun y hy=>h y (List.mem_cons_of_mem _ hy)
    cases o with
    | none=>
      rw [pjF] at hx
      rcases List.mem_cons.1 hx with rfl | hx
      · exact ⟨h1.1,pj_ok h1.2⟩
      · exact pjF_ok h2 x hx
    | some fs=>
      rw [pjF] at hx
      cases hf:fF fs i with
      | none=>rw [hf] at hx; exact pjF_ok h2 x hx
      | some g=>
        rw [hf] at hx
        simp only at hx
        rcases List.mem_cons.1 hx with rfl | hx
        · exact ⟨h1.1,pj_ok h1.2⟩
        · exact pjF_ok h2 x hx
end
end Go.Proofs.YtbcnggkldclemaaGreat
namespace Go.Proofs.YtbcnggkldclemaaGreat
open Go.W
def pcR7:PC:=.seq (.reg [⟨some 3,none,.e (.bx 25 (.t 0))⟩,⟨some 5,none,.e (.bx 29 (.t 2))⟩,⟨some 6,none,.e (.al (.agg #[(.int .i64 0),(.int .i64 0),(.string (mk [])),(.slice none 0 0),(.slice none 0 0)]) 29)⟩]) (.seq (.seq (.reg [⟨some 10,none,.l (.ldn 3 (.t 3))⟩,⟨some 11,none,.q (.mv (.t 1))⟩,⟨some 12,none,.cl 13 [(.t 10),(.t 11)] []⟩,⟨some 9,none,.q (.mv (.t 12))⟩,⟨some 13,none,.q (.ex (.t 9) 0)⟩,⟨some 14,none,.q (.ex (.t 9) 1)⟩,⟨some 7,none,.e (.al (.agg #[(.string (mk [])),(.slice none 0 0)]) 45)⟩,⟨none,none,.e (.st 2 (.t 7) (.t 13))⟩,⟨some 8,none,.q (.mv (.t 14))⟩]) (.seq (.reg [⟨some 15,none,.q (.mv (.t 8))⟩,⟨some 16,none,.q (.not (.t 15))⟩,⟨some 17,none,.q (.mv (.t 16))⟩,⟨some 18,(some (17,false)),.l (.ldn 3 (.t 3))⟩,⟨some 19,(some (17,false)),.cq 14 [(.t 18)]⟩,⟨some 20,(some (17,false)),.q (.bin .neq true (.t 19) (.k (.int .i64 0)))⟩,⟨some 21,none,.pick (.t 17) (.k (.bool true)) (.t 20)⟩]) (.cond (.t 21) (.seq (.reg [⟨some 22,none,.l (.ldn 3 (.t 3))⟩,⟨some 23,none,.q (.bd [(.int .i64 0),(.int .i64 0),(.string (mk [])),(.slice none 0 0)] [])⟩,⟨some 24,none,.l (.ldn 5 (.t 5))⟩,⟨some 25,none,.cl 15 [(.t 22),(.t 23),(.t 24)] []⟩,⟨none,none,.e (.st 5 (.t 6) (.t 25))⟩]) .ret) .skip))) (.seq (.reg [⟨some 26,none,.l (.ldn 3 (.t 3))⟩,⟨some 27,none,.q (.mv (.t 1))⟩,⟨some 28,none,.q (.bd [(.int .i64 0),(.int .i64 0),(.string (mk [])),(.slice none 0 0)] [(0,1,(.k (.int .i64 6))),(2,1,(.t 27))])⟩,⟨some 29,none,.l (.ldn 5 (.t 5))⟩,⟨some 30,none,.cl 15 [(.t 26),(.t 28),(.t 29)] []⟩,⟨none,none,.e (.st 5 (.t 6) (.t 30))⟩]) .ret))
def rsR7:List RV:=[.ld (.ldn 5 (.t 6))]
theorem okR7:trFn Tryz.prog true ⟨fun r k=>if r=2/\k=4 then .q else .own [],fun _=>false⟩ Tryz.f7=some (pcR7,rsR7):=by kernel_rfl
def pcR15_20:PC:=.gh (.ord  [.q ⟨some 104,none,.q (.fa 4 (.t 5))⟩,.q ⟨some 105,none,.l (.ld1 (.t 104))⟩,.q ⟨some 106,none,.q (.fa 0 (.t 15))⟩,.q ⟨some 107,none,.l (.ld1 (.t 106))⟩,.q ⟨some 108,none,.l (.ldn 3 (.t 3))⟩,.q ⟨some 109,none,.l (.ldn 4 (.t 16))⟩,.q ⟨some 110,none,.q (.fa 1 (.t 15))⟩,.q ⟨some 111,none,.l (.ldn 5 (.t 110))⟩,.m ⟨some 112,none,.cl 15 [(.t 108),(.t 109),(.t 111)] []⟩,.rc ⟨some 104,none,.q (.fa 4 (.t 5))⟩,.rc ⟨some 105,none,.l (.ld1 (.t 104))⟩,.rc ⟨some 106,none,.q (.fa 0 (.t 15))⟩,.rc ⟨some 107,none,.l (.ld1 (.t 106))⟩,.q ⟨some 113,none,.q (.bd [(.int .i64 0),(.int .i64 0),(.int .i64 0),(.string (mk [])),(.slice none 0 0),(.slice none 0 0)] [(0,1,(.t 107)),(1,5,(.t 112))])⟩,.m ⟨some 114,none,.e (.bsl 37 6 [(.t 113)])⟩,.rc ⟨some 104,none,.q (.fa 4 (.t 5))⟩,.rc ⟨some 105,none,.l (.ld1 (.t 104))⟩,.m ⟨some 115,none,.e (.ap 37 6 88 (.t 105) (.t 114))⟩,.q ⟨some 116,none,.q (.fa 4 (.t 5))⟩,.m ⟨none,none,.e (.st 1 (.t 116) (.t 115))⟩])
@[go_sem ↓] theorem foldR15_20 (Γ:Env) (k0:Nat) (fr:Fr) (H:Hp) (K:Ex->Fr->Hp->Prop):vc Γ k0 pcR15_20 fr H K=vcn Γ k0 pcR15_20 fr H K ⟨⟩:=rfl
def pcR15:PC:=.seq (.reg [⟨some 3,none,.e (.bx 25 (.t 0))⟩,⟨some 4,none,.e (.bx 40 (.t 1))⟩,⟨some 5,none,.e (.bx 29 (.t 2))⟩,⟨some 6,none,.e (.al (.agg #[(.int .i64 0),(.int .i64 0),(.string (mk [])),(.slice none 0 0),(.slice none 0 0)]) 29)⟩]) (.seq (.reg [⟨some 19,none,.q (.fa 3 (.t 5))⟩,⟨some 20,none,.l (.ld1 (.t 19))⟩,⟨some 21,none,.q (.fa 4 (.t 5))⟩,⟨some 22,none,.l (.ld1 (.t 21))⟩,⟨some 7,none,.q (.mv (.t 20))⟩,⟨some 8,none,.q (.mv (.t 22))⟩]) (.seq (.reg [⟨some 23,none,.q (.fa 3 (.t 5))⟩,⟨none,none,.e (.st 1 (.t 23) (.k (.slice none 0 0)))⟩,⟨some 24,none,.q (.fa 4 (.t 5))⟩,⟨none,none,.e (.st 1 (.t 24) (.k (.slice none 0 0)))⟩]) (.seq (.reg [⟨some 26,none,.l (.ldn 3 (.t 3))⟩,⟨some 27,none,.q (.fa 2 (.t 4))⟩,⟨some 28,none,.l (.ld1 (.t 27))⟩,⟨some 29,none,.cl 13 [(.t 26),(.t 28)] []⟩,⟨some 25,none,.q (.mv (.t 29))⟩,⟨some 30,none,.q (.ex (.t 25) 0)⟩,⟨some 31,none,.q (.ex (.t 25) 1)⟩,⟨some 9,none,.e (.al (.agg #[(.string (mk [])),(.slice none 0 0)]) 45)⟩,⟨none,none,.e (.st 2 (.t 9) (.t 30))⟩,⟨some 10,none,.q (.mv (.t 31))⟩]) (.seq (.reg [⟨some 32,none,.q (.fa 0 (.t 5))⟩,⟨some 33,none,.l (.ld1 (.t 32))⟩,⟨some 34,none,.q (.fa 0 (.t 4))⟩,⟨some 35,none,.l (.ld1 (.t 34))⟩,⟨some 36,none,.q (.bin .eql true (.t 33) (.t 35))⟩,⟨some 11,none,.q (.mv (.t 36))⟩]) (.seq (.seq (.reg [⟨some 37,none,.q (.mv (.t 7))⟩,⟨some 38,none,.q (.lnL (.t 37))⟩,⟨some 39,none,.q (.mv (.k (.int .i64 0)))⟩]) (.block 0 (.loop (.seq (.reg [⟨some 40,none,.q (.bin .lss true (.t 39) (.t 38))⟩]) (.seq (.cond (.t 40) .skip (.exit 0)) (.seq (.block 1 (.seq (.reg [⟨some 41,none,.l (.ia 5 (.t 37) (.t 39))⟩,⟨some 42,none,.l (.ldn 5 (.t 41))⟩,⟨some 13,none,.e (.al (.agg #[(.int .i64 0),(.int .i64 0),(.string (mk [])),(.slice none 0 0),(.slice none 0 0)]) 29)⟩,⟨none,none,.e (.st 5 (.t 13) (.t 42))⟩]) (.seq (.reg [⟨some 43,none,.q (.mv (.t 11))⟩,⟨some 44,none,.q (.mv (.t 43))⟩,⟨some 45,(some (44,true)),.q (.fa 0 (.t 4))⟩,⟨some 46,(some (44,true)),.l (.ld1 (.t 45))⟩,⟨some 47,(some (44,true)),.q (.bin .eql true (.t 46) (.k (.int .i64 5)))⟩,⟨some 48,none,.pick (.t 44) (.t 47) (.k (.bool false))⟩,⟨some 49,none,.q (.mv (.t 48))⟩,⟨some 50,(some (49,true)),.q (.fa 3 (.t 4))⟩,⟨some 51,(some (49,true)),.l (.ld1 (.t 50))⟩,⟨some 52,(some (49,true)),.q (.lnL (.t 51))⟩,⟨some 53,(some (49,true)),.q (.bin .eql true (.t 52) (.k (.int .i64 1)))⟩,⟨some 54,none,.pick (.t 49) (.t 53) (.k (.bool false))⟩]) (.cond (.t 54) (.ord  [.q ⟨some 55,none,.q (.fa 3 (.t 5))⟩,.q ⟨some 56,none,.l (.ld1 (.t 55))⟩,.q ⟨some 57,none,.l (.ldn 3 (.t 3))⟩,.q ⟨some 58,none,.q (.fa 3 (.t 4))⟩,.q ⟨some 59,none,.l (.ld1 (.t 58))⟩,.q ⟨some 60,none,.l (.ia 4 (.t 59) (.k (.int .i64 0)))⟩,.q ⟨some 61,none,.l (.ldn 4 (.t 60))⟩,.q ⟨some 62,none,.l (.ldn 5 (.t 13))⟩,.m ⟨some 63,none,.cl 15 [(.t 57),(.t 61),(.t 62)] []⟩,.rc ⟨some 55,none,.q (.fa 3 (.t 5))⟩,.rc ⟨some 56,none,.l (.ld1 (.t 55))⟩,.m ⟨some 64,none,.e (.bsl 29 5 [(.t 63)])⟩,.rc ⟨some 55,none,.q (.fa 3 (.t 5))⟩,.rc ⟨some 56,none,.l (.ld1 (.t 55))⟩,.m ⟨some 65,none,.e (.ap 29 5 80 (.t 56) (.t 64))⟩,.q ⟨some 66,none,.q (.fa 3 (.t 5))⟩,.m ⟨none,none,.e (.st 1 (.t 66) (.t 65))⟩]) (.ord  [.q ⟨some 67,none,.q (.fa 3 (.t 5))⟩,.q ⟨some 68,none,.l (.ld1 (.t 67))⟩,.q ⟨some 69,none,.l (.ldn 3 (.t 3))⟩,.q ⟨some 70,none,.q (.bd [(.int .i64 0),(.int .i64 0),(.string (mk [])),(.slice none 0 0)] [])⟩,.q ⟨some 71,none,.l (.ldn 5 (.t 13))⟩,.m ⟨some 72,none,.cl 15 [(.t 69),(.t 70),(.t 71)] []⟩,.rc ⟨some 67,none,.q (.fa 3 (.t 5))⟩,.rc ⟨some 68,none,.l (.ld1 (.t 67))⟩,.m ⟨some 73,none,.e (.bsl 29 5 [(.t 72)])⟩,.rc ⟨some 67,none,.q (.fa 3 (.t 5))⟩,.rc ⟨some 68,none,.l (.ld1 (.t 67))⟩,.m ⟨some 74,none,.e (.ap 29 5 80 (.t 68) (.t 73))⟩,.q ⟨some 75,none,.q (.fa 3 (.t 5))⟩,.m ⟨none,none,.e (.st 1 (.t 75) (.t 74))⟩]))))) (.reg [⟨some 76,none,.q (.bin .add true (.t 39) (.k (.int .i64 1)))⟩,⟨some 39,none,.q (.mv (.t 76))⟩]))))))) (.seq (.seq (.reg [⟨some 77,none,.q (.mv (.t 8))⟩,⟨some 78,none,.q (.lnL (.t 77))⟩,⟨some 79,none,.q (.mv (.k (.int .i64 0)))⟩]) (.block 2 (.loop (.seq (.reg [⟨some 80,none,.q (.bin .lss true (.t 79) (.t 78))⟩]) (.seq (.cond (.t 80) .skip (.exit 2)) (.seq (.block 3 (.seq (.reg [⟨some 81,none,.l (.ia 6 (.t 77) (.t 79))⟩,⟨some 82,none,.l (.ldn 6 (.t 81))⟩,⟨some 15,none,.e (.al (.agg #[(.int .i64 0),(.int .i64 0),(.int .i64 0),(.string (mk [])),(.slice none 0 0),(.slice none 0 0)]) 37)⟩,⟨none,none,.e (.st 6 (.t 15) (.t 82))⟩]) (.seq (.reg [⟨some 83,none,.q (.bd [(.int .i64 0),(.int .i64 0),(.string (mk [])),(.slice none 0 0)] [])⟩,⟨some 16,none,.e (.al (.agg #[(.int .i64 0),(.int .i64 0),(.string (mk [])),(.slice none 0 0)]) 40)⟩,⟨none,none,.e (.st 4 (.t 16) (.t 83))⟩]) (.seq (.seq (.reg [⟨some 84,none,.q (.mv (.t 11))⟩,⟨some 85,none,.q (.mv (.t 84))⟩,⟨some 86,(some (85,true)),.q (.fa 0 (.t 4))⟩,⟨some 87,(some (85,true)),.l (.ld1 (.t 86))⟩,⟨some 88,(some (85,true)),.q (.bin .eql true (.t 87) (.k (.int .i64 6)))⟩,⟨some 89,none,.pick (.t 85) (.t 88) (.k (.bool false))⟩,⟨some 90,none,.q (.mv (.t 89))⟩,⟨some 91,(some (90,true)),.q (.mv (.t 10))⟩,⟨some 92,none,.pick (.t 90) (.t 91) (.k (.bool false))⟩]) (.cond (.t 92) (.seq (.reg [⟨some 94,none,.l (.ldn 2 (.t 9))⟩,⟨some 95,none,.q (.fa 0 (.t 15))⟩,⟨some 96,none,.l (.ld1 (.t 95))⟩,⟨some 97,none,.cl 38 [(.t 94),(.t 96)] []⟩,⟨some 93,none,.q (.mv (.t 97))⟩,⟨some 98,none,.q (.ex (.t 93) 0)⟩,⟨some 99,none,.q (.ex (.t 93) 1)⟩,⟨some 17,none,.e (.al (.agg #[(.int .i64 0),(.string (mk [])),(.int .i64 0),(.int .i64 0),(.string (mk [])),(.slice none 0 0),(.bool false)]) 42)⟩,⟨none,none,.e (.st 7 (.t 17) (.t 98))⟩,⟨some 18,none,.q (.mv (.t 99))⟩]) (.seq (.seq (.reg [⟨some 100,none,.q (.mv (.t 18))⟩,⟨some 101,none,.q (.not (.t 100))⟩]) (.cond (.t 101) (.exit 3) .skip)) (.reg [⟨some 102,none,.q (.fa 2 (.t 17))⟩,⟨some 103,none,.l (.ldn 4 (.t 102))⟩,⟨none,none,.e (.st 4 (.t 16) (.t 103))⟩]))) .skip)) (pcR15_20))))) (.reg [⟨some 117,none,.q (.bin .add true (.t 79) (.k (.int .i64 1)))⟩,⟨some 79,none,.q (.mv (.t 117))⟩]))))))) (.seq (.reg [⟨some 118,none,.l (.ldn 5 (.t 5))⟩,⟨none,none,.e (.st 5 (.t 6) (.t 118))⟩]) .ret)))))))
def rsR15:List RV:=[.ld (.ldn 5 (.t 6))]
theorem okR15:trFn Tryz.prog true ⟨fun _ _=>.own [],fun r=>[20].contains r⟩ Tryz.f15=some (pcR15,rsR15):=by kernel_rfl
end Go.Proofs.YtbcnggkldclemaaGreat
namespace Go.Proofs.YtbcnggkldclemaaGreat
open Go.W
def tyX (t:Ty):List C:=[.vl (.int .i64 t.k),.vl (.int .i64 t.s),.vl (.string t.n),.fz (t.e.map tyC)]
def pjSp (N:Nat):W.Spec:=fun av H K=>∃ (s:Sc) (t:Ty) (v:Vl),av=[.va (.gs (scC s)),.va (.gs (tyC t)),.va (.gs (vlC v))]/\H=[]/\s.fit/\TyOk t/\VlOk v/\v.h<=N/\K (.va (.gs (vlC (pj s t v)))) []
theorem pj_use {N:Nat} {s:Sc} {t:Ty} {v:Vl} {K:S->Hp->Prop} (h1:s.fit) (h2:TyOk t) (h3:VlOk v) (h4:v.h<=N) (hK:K (.va (.gs (vlC (pj s t v)))) []):pjSp N [.va (.gs (scC s)),.va (.gs (tyC t)),.va (.gs (vlC v))] [] K:=⟨s,t,v,rfl,rfl,h1,h2,h3,h4,hK⟩
theorem pj_use' {N:Nat} {s:Sc} {t:Ty} {v:Vl} {K:S->Hp->Prop} (h1:s.fit) (h2:TyOk t) (h3:VlOk v) (h4:v.h<=N)
    (hK:K (.va (.gs [.vl (.int .i64 (pj s t v).k),.vl (.int .i64 (pj s t v).n),.vl (.string (pj s t v).s),.fz ((pj s t v).l.map vlC),.fz ((pj s t v).f.map veC)])) []) :
    pjSp N [.va (.gs [.vl (.int .i64 s.ver),.fz (s.es.map enC),.fz (s.ss.map stC)]),.va (.gs [.vl (.int .i64 t.k),.vl (.int .i64 t.s),.vl (.string t.n),.fz (t.e.map tyC)]),.va (.gs [.vl (.int .i64 v.k),.vl (.int .i64 v.n),.vl (.string v.s),.fz (v.l.map vlC),.fz (v.f.map veC)])] [] K:=by
  have:=pj_use (K:=K) h1 h2 h3 h4 (by rw [vlC_eq]; exact hK)
  rw [vlC_eq,tyC_eq] at this
  exact this
theorem tyOk_default:TyOk default:=.mk (by unfold in64; decide) (by unfold in64; decide) (by decide) (by decide) (fun _ h=>by cases h)
theorem pj_use0 {N:Nat} {s:Sc} {v:Vl} {K:S->Hp->Prop} (h1:s.fit) (h3:VlOk v) (h4:v.h<=N)
    (hK:K (.va (.gs [.vl (.int .i64 (pj s default v).k),.vl (.int .i64 (pj s default v).n),.vl (.string (pj s default v).s),.fz ((pj s default v).l.map vlC),.fz ((pj s default v).f.map veC)])) []) :
    pjSp N [.va (.gs [.vl (.int .i64 s.ver),.fz (s.es.map enC),.fz (s.ss.map stC)]),.va (.gs [.vl (.int .i64 0),.vl (.int .i64 0),.vl (.string (mk [])),.fz []]),.va (.gs [.vl (.int .i64 v.k),.vl (.int .i64 v.n),.vl (.string v.s),.fz (v.l.map vlC),.fz (v.f.map veC)])] [] K:=pj_use' (t:=default) h1 tyOk_default h3 h4 hK
set_option maxRecDepth 100000 in
set_option maxHeartbeats 8000000 in
theorem mProjectN:∀ N,Meets Tryz.prog 15 (pjSp N)
  | 0=>⟨by kernel_rfl,by rintro xs vs E ro w K _ _ _ ⟨s,t,v,_,_,_,_,_,h,_⟩; have:=v.h_pos; omega⟩
  | N + 1=>by
    refine meets_fn Tryz.func15 okR15 3 (by rw [Tryz.ntmps15]; decide) (meetsAll_s (mProjectN N) (meetsAll_s mStructP (meetsAll_s mFieldOfP (meetsAll_nil _)))) (fun av H K h=>by obtain ⟨_,_,_,rfl,_⟩:=h; rfl) ?_
    rintro av H K ⟨s,t,v,rfl,rfl,hs,ht,hv,hh,hK⟩
    have hll:=hv.ll
    have hlf:=hv.lf
    rw [pj_eq,vlC,vlsC_map,vesC_map] at hK
    simp (maxSteps:=1000000) -dsimp only [go_sem,vlC_eq v,tyC_eq t,scC,pcR15,rsR15]
    refine stp_use (s:=s) hs ?_
    generalize hu:(fS s.ss t.n).getD default=u
    generalize hkn:hasS s.ss t.n=kn
    have hO:stO s v.k t=bif decide (v.k=t.k) && decide (t.k=6) && kn then some u.fs else none:=by unfold stO; rw [hu,hkn]
    have huo:u.ok:=by
      rw [<-hu]
      cases hf:fS s.ss t.n with
      | none=>exact St.ok_default
      | some w=>exact hs.ok.ss w (fS_mem hf).1
    have hus:∀ f ∈ u.fs,TySm f.ty:=by
      rw [<-hu]
      cases hf:fS s.ss t.n with
      | none=>exact fun f hf=>(List.not_mem_nil hf).elim
      | some w=>exact (hs.sm w (fS_mem hf).1).2
    generalize hsh:(v.k == t.k)=sh
    have hsh':decide (v.k=t.k)=sh:=hsh
    simp (maxSteps:=1000000) -dsimp only [go_sem,stC,hsh]
    refine vc_loop_gh (α:=Nat) (fun i=>[(3,.va (.c1 (.pt 0 0))),(4,.va (.c1 (.pt 1 0))),(5,.va (.c1 (.pt 2 0))),(6,.va (.c1 (.pt 3 0))),(8,.va (.c1 (.fz (v.f.map veC)))),(9,.va (.c1 (.pt 4 0))),(10,bS kn),(11,bS sh),(37,.va (.c1 (.fz (v.l.map vlC)))),(38,iS .i64 v.l.length),(39,iS .i64 i)])
      (fun i=>[.cells (scC s) 25,.cells (tyX t) 40,.cells [.vl (.int .i64 v.k),.vl (.int .i64 v.n),.vl (.string v.s),.sl 5 i,.vl (.slice none 0 0)] 29,.cells [.vl (.int .i64 0),.vl (.int .i64 0),.vl (.string (mk [])),.vl (.slice none 0 0),.vl (.slice none 0 0)] 29,.cells (stC u) 45,.row (((v.l.take i).map (pj s (chT v.k t))).map vlC) 29 5])
      (fun i=>i<=v.l.length) (fun i=>v.l.length - i) (.nilc 2 3 29 5 [.vl (.int .i64 v.k),.vl (.int .i64 v.n),.vl (.string v.s),.vl (.slice none 0 0),.vl (.slice none 0 0)] 29 rfl rfl (gh_at 0 6 (Nat.zero_le _) ?_ ?_)) ?_
    · simp -dsimp only [go_sem,hsh]<;>simp [hsh]
    · simp -dsimp only [go_sem,scC,tyX,stC]<;>simp [tyX,stC,scC]
    intro i hi
    have hz:(v.l.take i).length=i:=by rw [List.length_take]; omega
    rcases Nat.lt_or_ge i v.l.length with hlt | hge
    · have hg:decide ((i:Int) < (v.l.length:Int))=true:=by simp; omega
      obtain ⟨x,hx⟩:∃ t,v.l[i]? = some t:=⟨_,List.getElem?_eq_getElem hlt⟩
      have q1:=vl_rg hx
      have hxm:=List.mem_of_getElem? hx
      have hxo:=hv.l x hxm
      have hxh:x.h<=N:=by have:=Vl.h_l hxm; omega
      simp (maxSteps:=1000000) -dsimp only [go_sem,hg,↓q1,scC,tyX,stC]
      refine ⟨by omega,fun hc=>?_,fun hc=>?_⟩
      · simp only [Bool.and_eq_true,beq_iff_eq] at hc
        obtain ⟨⟨hc1,hc2⟩,hc3⟩:=hc
        obtain ⟨e,he⟩:∃ e,t.e=[e]:=List.length_eq_one_iff.1 (by omega)
        have hch:chT v.k t=e:=by unfold chT; rw [hsh',hc1,hc2,he]; rfl
        have heo:TyOk e:=ht.e e (by rw [he]; simp)
        rw [hch,he]
        simp (maxSteps:=1000000) -dsimp only [go_sem,tyC_eq e,List.getElem?_cons_zero,Option.some.injEq,forall_eq']
        refine ⟨by omega,pj_use' hs heo hxo hxh ?_⟩
        simp (maxSteps:=1000000) -dsimp only [go_sem]
        refine ⟨hz,by omega,by omega,loop_next (i + 1) 6 (by omega) (by omega) ?_ ?_⟩
        · simp -dsimp only [go_sem]<;>simp
        · simp -dsimp only [go_sem,scC,tyX,stC,take_next hx,hch,he]<;>simp [tyX,stC,scC,he,hch,vlC_eq (pj s e x),tyC_eq e]
      · have hch:chT v.k t=default:=by
          unfold chT
          rw [hsh']
          cases h1:decide (t.e.length=1) with
          | false=>rw [Bool.and_false]; rfl
          | true=>
            have h2:((t.e.length:Int) == 1)=true:=by have:=of_decide_eq_true h1; simp [this]
            have h3:(t.k == 5)=decide (t.k=5):=rfl
            rw [h2,Bool.and_true,h3] at hc
            rw [hc]; rfl
        rw [hch]
        refine pj_use0 hs hxo hxh ?_
        simp (maxSteps:=1000000) -dsimp only [go_sem]
        refine ⟨hz,by omega,by omega,loop_next (i + 1) 6 (by omega) (by omega) ?_ ?_⟩
        · simp -dsimp only [go_sem]<;>simp
        · simp -dsimp only [go_sem,scC,tyX,stC,take_next hx,hch]<;>simp [tyX,stC,scC,hch,vlC_eq (pj s default x)]
    · have hg:decide ((i:Int) < (v.l.length:Int))=false:=by simp; omega
      obtain rfl:i=v.l.length:=by omega
      rw [List.take_length]
      simp (maxSteps:=1000000) -dsimp only [go_sem,hg,scC,tyX,stC]
      generalize hL:v.l.map (pj s (chT v.k t))=L at *
      have hLl:L.length=v.l.length:=by rw [<-hL,List.length_map]
      generalize ho:stO s v.k t=o at *
      clear hi hge hg hz
      refine vc_loop_gh (α:=Nat × List (Int × Vl)) (fun z=>[(3,.va (.c1 (.pt 0 0))),(4,.va (.c1 (.pt 1 0))),(5,.va (.c1 (.pt 2 0))),(6,.va (.c1 (.pt 3 0))),(9,.va (.c1 (.pt 4 0))),(10,bS kn),(11,bS sh),(77,.va (.c1 (.fz (v.f.map veC)))),(78,iS .i64 v.f.length),(79,iS .i64 z.1)])
        (fun z=>[.cells (scC s) 25,.cells (tyX t) 40,.cells [.vl (.int .i64 v.k),.vl (.int .i64 v.n),.vl (.string v.s),.sl 5 v.l.length,.sl 6 z.2.length] 29,.cells [.vl (.int .i64 0),.vl (.int .i64 0),.vl (.string (mk [])),.vl (.slice none 0 0),.vl (.slice none 0 0)] 29,.cells (stC u) 45,.row (L.map vlC) 29 5,.row (z.2.map veC) 37 6])
        (fun z=>z.1<=v.f.length/\z.2 ++ (v.f.drop z.1).flatMap (pjE s o)=v.f.flatMap (pjE s o)/\z.2.length<=z.1) (fun z=>v.f.length - z.1)
        (.nilc 2 4 37 6 [.vl (.int .i64 v.k),.vl (.int .i64 v.n),.vl (.string v.s),.sl 5 v.l.length,.vl (.slice none 0 0)] 29 rfl rfl (gh_at (0,[]) 7 ⟨Nat.zero_le _,rfl,Nat.le_refl _⟩ ?_ ?_)) ?_
      · simp -dsimp only [go_sem]<;>simp
      · simp -dsimp only [go_sem,scC,tyX,stC]<;>simp [tyX,stC,scC]
      rintro ⟨i,O⟩ ⟨hi,hm,hol⟩
      simp only at hi hm hol ⊢
      rcases Nat.lt_or_ge i v.f.length with hlt | hge
      · have hg:decide ((i:Int) < (v.f.length:Int))=true:=by simp; omega
        obtain ⟨x,hx⟩:∃ t,v.f[i]? = some t:=⟨_,List.getElem?_eq_getElem hlt⟩
        have q1:=ve_rg hx
        have hxm:=List.mem_of_getElem? hx
        have hxo:=hv.f x hxm
        have hxh:x.2.h<=N:=by have:=Vl.h_f hxm; omega
        have hdr:v.f.drop i=x :: v.f.drop (i + 1):=by
          obtain ⟨h,rfl⟩:=List.getElem?_eq_some_iff.1 hx
          exact List.drop_eq_getElem_cons h
        rw [hdr,List.flatMap_cons,<-List.append_assoc] at hm
        simp (maxSteps:=1000000) -dsimp only [go_sem,hg,↓q1,scC,tyX,stC]
        refine ⟨by omega,fun hc=>?_,fun hc=>?_⟩
        · have hc':=hc
          simp only [Bool.and_eq_true,beq_iff_eq] at hc'
          obtain ⟨⟨hc1,hc2⟩,hc3⟩:=hc'
          have hoe:o=some u.fs:=by rw [hO,hsh',hc1,hc2,hc3]; rfl
          refine fop_use (t:=u) huo hus ?_
          cases hf:fF u.fs x.1 with
          | none=>
            have he:pjE s o x=[]:=by rw [hoe]; unfold pjE; simp only [hf]
            rw [he,List.append_nil] at hm
            simp (maxSteps:=1000000) -dsimp only [go_sem,Option.getD_none,Option.isSome_none,flC_def]
            refine ⟨by omega,loop_next (i + 1,O) 7 ⟨by simp only; omega,hm,by simp only; omega⟩ (by simp only; omega) ?_ ?_⟩
            · simp -dsimp only [go_sem]<;>simp
            · simp -dsimp only [go_sem,scC,tyX,stC]<;>simp [tyX,stC,scC]
          | some g=>
            have he:pjE s o x=[(x.1,pj s g.ty x.2)]:=by rw [hoe]; unfold pjE; simp only [hf]
            have hgo:=(huo.fs g (List.mem_of_find?_eq_some hf)).ty
            rw [he] at hm
            simp (maxSteps:=1000000) -dsimp only [go_sem,Option.getD_some,Option.isSome_some,flC]
            refine vc_head rfl (.done ?_)
            simp (maxSteps:=1000000) -dsimp only [go_sem,pcR15_20]
            refine pj_use' (t:=g.ty) hs hgo hxo hxh ?_
            simp (maxSteps:=1000000) -dsimp only [go_sem]
            refine ⟨by omega,by omega,loop_next (i + 1,O ++ [(x.1,pj s g.ty x.2)]) 7 ⟨by simp only; omega,hm,by simp only [List.length_append,List.length_singleton]; omega⟩ (by simp only; omega) ?_ ?_⟩
            · simp -dsimp only [go_sem]<;>simp
            · simp -dsimp only [go_sem,scC,tyX,stC]<;>simp [tyX,stC,scC,veC_eq]
        · have hoe:o=none:=by
            rw [hO,hsh']
            have h3:(t.k == 6)=decide (t.k=6):=rfl
            rw [<-h3,hc]; rfl
          have he:pjE s o x=[(x.1,pj s default x.2)]:=by rw [hoe]; rfl
          rw [he] at hm
          refine vc_head rfl (.done ?_)
          simp (maxSteps:=1000000) -dsimp only [go_sem,pcR15_20]
          refine pj_use0 hs hxo hxh ?_
          simp (maxSteps:=1000000) -dsimp only [go_sem]
          refine ⟨by omega,by omega,loop_next (i + 1,O ++ [(x.1,pj s default x.2)]) 7 ⟨by simp only; omega,hm,by simp only [List.length_append,List.length_singleton]; omega⟩ (by simp only; omega) ?_ ?_⟩
          · simp -dsimp only [go_sem]<;>simp
          · simp -dsimp only [go_sem,scC,tyX,stC]<;>simp [tyX,stC,scC,veC_eq]
      · have hg:decide ((i:Int) < (v.f.length:Int))=false:=by simp; omega
        obtain rfl:i=v.f.length:=by omega
        rw [List.drop_length,List.flatMap_nil,List.append_nil] at hm
        subst hm
        simp (maxSteps:=1000000) -dsimp only [go_sem,hg,scC,tyX,stC]
        rw [<-hLl]
        refine .pub 5 _ _ _ rfl (.pub 6 _ _ _ rfl (.sel [] (by simp) (by simp [pubH]) rfl (.done ?_)))
        simp -dsimp only [go_sem,pubH]
        simpa using hK
end Go.Proofs.YtbcnggkldclemaaGreat
namespace Go.Proofs.YtbcnggkldclemaaGreat
open Go.W
set_option maxRecDepth 100000 in
set_option maxHeartbeats 4000000 in
theorem mRIsName:Meets Tryz.prog 64 (strFn fun l=>.bool (isNm l)).sp:=by
  refine meets_fn Tryz.func64 ok64 1 (by rw [Tryz.ntmps64]; decide) (meetsAll_nil _) strFn_len ?_
  rintro xs H K ⟨⟨h,rfl⟩,hK⟩
  obtain ⟨s,rfl⟩:=strPre_open h
  simp -dsimp only [go_sem,pc64,rs64] at hK ⊢
  refine ⟨fun h1=>?_,fun h1=>?_⟩
  · refine fin_eq hK ?_
    have:isNm (bl s)=false:=by
      simp at h1
      rcases h1 with h1 | h1
      · have:bl s=[]:=List.length_eq_zero_iff.1 (by omega)
        rw [this]; rfl
      · exact isNm_long (by omega)
    rw [this]
  · have hlen:0 < (bl s).length/\(bl s).length<=16:=by simp at h1; omega
    obtain ⟨hl0,hl⟩:=hlen
    refine vc_loop (α:=Nat) (fun i=>[(0,tS s),(3,iS .i64 i)]) (fun i=>[]) (fun i=>i<=(bl s).length/\(∀ (j:Nat) (x:UInt8),j < i->(bl s)[j]? = some x->wordB x=true)/\(0 < i->∀ x,(bl s)[0]? = some x->isLet x.toNat=true)) (fun i=>(bl s).length - i) 0 0 ⟨by omega,by omega,by omega⟩ ?_ ?_ ?_
    · simp -dsimp only [go_sem]; simp
    · simp [go_sem]
    rintro i ⟨hi,ha,hb⟩
    rcases Nat.lt_or_ge i (bl s).length with hlt | hge
    · have hg:decide ((i:Int) < ((bl s).length:Int))=true:=by simp; omega
      obtain ⟨c,hc⟩:∃ c,(bl s)[i]? = some c:=⟨_,List.getElem?_eq_getElem hlt⟩
      have bad:(i=0/\isLet c.toNat=false)\/wordB c=false->W.Fin 0 K (bS false) []:=fun h=>fin_eq hK (by
        rcases h with ⟨rfl,h⟩ | h
        · rw [isNm_first hc h]
        · rw [isNm_at hc h])
      have nxt:wordB c=true->(i=0->isLet c.toNat=true)->(i + 1<=(bl s).length/\(∀ (j:Nat) (x:UInt8),j < i + 1->(bl s)[j]? = some x->wordB x=true)/\(0 < i + 1->∀ x,(bl s)[0]? = some x->isLet x.toNat=true)):=fun h1 h2=>⟨by omega,fun j x hj hx=>by
        rcases Nat.lt_or_ge j i with h4 | h4
        · exact ha j x h4 hx
        · obtain rfl:j=i:=by omega
          rw [hc] at hx; obtain rfl:=Option.some.inj hx; exact h1,fun _ x hx=>by
        rcases Nat.eq_zero_or_pos i with h0 | h0
        · subst h0; rw [hc] at hx; obtain rfl:=Option.some.inj hx; exact h2 rfl
        · exact hb h0 x hx⟩
      have hb255:=c.toNat_lt
      have hcs:(0<=(c.toNat:Int)/\(c.toNat:Int)<=47)\/(48<=(c.toNat:Int)/\(c.toNat:Int)<=57)\/(58<=(c.toNat:Int)/\(c.toNat:Int)<=64)\/(65<=(c.toNat:Int)/\(c.toNat:Int)<=90)\/(91<=(c.toNat:Int)/\(c.toNat:Int)<=94)\/(95<=(c.toNat:Int)/\(c.toNat:Int)<=95)\/(96<=(c.toNat:Int)/\(c.toNat:Int)<=96)\/(97<=(c.toNat:Int)/\(c.toNat:Int)<=122)\/(123<=(c.toNat:Int)/\(c.toNat:Int)<=255):=by omega
      rcases hcs with h2 | h2 | h2 | h2 | h2 | h2 | h2 | h2 | h2
      · have d1:decide (97<=(c.toNat:Int))=false:=decide_eq_false (by omega)
        have d2:decide ((c.toNat:Int)<=122)=true:=decide_eq_true (by omega)
        have d3:decide (65<=(c.toNat:Int))=false:=decide_eq_false (by omega)
        have d4:decide ((c.toNat:Int)<=90)=true:=decide_eq_true (by omega)
        have d5:((c.toNat:Int) == 95)=false:=by simp; omega
        have d6:decide (48<=(c.toNat:Int))=false:=decide_eq_false (by omega)
        have d7:decide ((c.toNat:Int)<=57)=true:=decide_eq_true (by omega)
        have hL:isLet c.toNat=false:=by unfold isLet; rw [d1,d2,d3,d4]; rfl
        have hW:wordB c=false:=by unfold wordB isWord isDig; rw [hL,d5,d6,d7]; rfl
        rcases Nat.eq_zero_or_pos i with h0 | h0
        · have hz:((i:Int) == 0)=true:=by simp; omega
          simp (maxSteps:=1000000) -dsimp only [go_sem,hg,hc,Option.some.injEq,forall_eq',Int.toNat_natCast,d1,d3,d5,d6,hz,Bool.true_and,Bool.and_true,Bool.false_and,Bool.and_false,Bool.not_true,Bool.not_false]
          repeat' first | intro _ | apply And.intro
          all_goals first | omega | (rename_i h9; simp at h9; done) | skip
          all_goals exact bad (by rw [hL,hW]; exact .inl ⟨h0,rfl⟩)
        · have hz:((i:Int) == 0)=false:=by simp; omega
          simp (maxSteps:=1000000) -dsimp only [go_sem,hg,hc,Option.some.injEq,forall_eq',Int.toNat_natCast,d1,d3,d5,d6,hz,Bool.true_and,Bool.and_true,Bool.false_and,Bool.not_false]
          repeat' first | intro _ | apply And.intro
          all_goals first | omega | (rename_i h9; simp at h9; done) | skip
          all_goals exact bad (by rw [hL,hW]; exact .inr rfl)
      · have d1:decide (97<=(c.toNat:Int))=false:=decide_eq_false (by omega)
        have d2:decide ((c.toNat:Int)<=122)=true:=decide_eq_true (by omega)
        have d3:decide (65<=(c.toNat:Int))=false:=decide_eq_false (by omega)
        have d4:decide ((c.toNat:Int)<=90)=true:=decide_eq_true (by omega)
        have d5:((c.toNat:Int) == 95)=false:=by simp; omega
        have d6:decide (48<=(c.toNat:Int))=true:=decide_eq_true (by omega)
        have d7:decide ((c.toNat:Int)<=57)=true:=decide_eq_true (by omega)
        have hL:isLet c.toNat=false:=by unfold isLet; rw [d1,d2,d3,d4]; rfl
        have hW:wordB c=true:=by unfold wordB isWord isDig; rw [hL,d5,d6,d7]; rfl
        rcases Nat.eq_zero_or_pos i with h0 | h0
        · have hz:((i:Int) == 0)=true:=by simp; omega
          simp (maxSteps:=1000000) -dsimp only [go_sem,hg,hc,Option.some.injEq,forall_eq',Int.toNat_natCast,d1,d3,d5,d6,hz,Bool.true_and,Bool.and_true,Bool.false_and,Bool.and_false,Bool.not_true,Bool.not_false]
          repeat' first | intro _ | apply And.intro
          all_goals first | omega | (rename_i h9; simp at h9; done) | skip
          all_goals exact bad (by rw [hL,hW]; exact .inl ⟨h0,rfl⟩)
        · have hz:((i:Int) == 0)=false:=by simp; omega
          simp (maxSteps:=1000000) -dsimp only [go_sem,hg,hc,Option.some.injEq,forall_eq',Int.toNat_natCast,d1,d3,d5,d6,d7,hz,Bool.true_and,Bool.and_true,Bool.false_and,Bool.not_false]
          repeat' first | intro _ | apply And.intro
          all_goals first | omega | (rename_i h9; simp at h9; done) | skip
          all_goals exact loop_next (i + 1) 0 (nxt (by rw [hW]) (fun h3=>by omega)) (by omega) (by simp -dsimp only [go_sem]; simp) (by simp [go_sem])
      · have d1:decide (97<=(c.toNat:Int))=false:=decide_eq_false (by omega)
        have d2:decide ((c.toNat:Int)<=122)=true:=decide_eq_true (by omega)
        have d3:decide (65<=(c.toNat:Int))=false:=decide_eq_false (by omega)
        have d4:decide ((c.toNat:Int)<=90)=true:=decide_eq_true (by omega)
        have d5:((c.toNat:Int) == 95)=false:=by simp; omega
        have d6:decide (48<=(c.toNat:Int))=true:=decide_eq_true (by omega)
        have d7:decide ((c.toNat:Int)<=57)=false:=decide_eq_false (by omega)
        have hL:isLet c.toNat=false:=by unfold isLet; rw [d1,d2,d3,d4]; rfl
        have hW:wordB c=false:=by unfold wordB isWord isDig; rw [hL,d5,d6,d7]; rfl
        rcases Nat.eq_zero_or_pos i with h0 | h0
        · have hz:((i:Int) == 0)=true:=by simp; omega
          simp (maxSteps:=1000000) -dsimp only [go_sem,hg,hc,Option.some.injEq,forall_eq',Int.toNat_natCast,d1,d3,d5,d6,hz,Bool.true_and,Bool.and_true,Bool.false_and,Bool.and_false,Bool.not_true,Bool.not_false]
          repeat' first | intro _ | apply And.intro
          all_goals first | omega | (rename_i h9; simp at h9; done) | skip
          all_goals exact bad (by rw [hL,hW]; exact .inl ⟨h0,rfl⟩)
        · have hz:((i:Int) == 0)=false:=by simp; omega
          simp (maxSteps:=1000000) -dsimp only [go_sem,hg,hc,Option.some.injEq,forall_eq',Int.toNat_natCast,d1,d3,d5,d6,d7,hz,Bool.true_and,Bool.and_true,Bool.false_and,Bool.not_false]
          repeat' first | intro _ | apply And.intro
          all_goals first | omega | (rename_i h9; simp at h9; done) | skip
          all_goals exact bad (by rw [hL,hW]; exact .inr rfl)
      · have d1:decide (97<=(c.toNat:Int))=false:=decide_eq_false (by omega)
        have d2:decide ((c.toNat:Int)<=122)=true:=decide_eq_true (by omega)
        have d3:decide (65<=(c.toNat:Int))=true:=decide_eq_true (by omega)
        have d4:decide ((c.toNat:Int)<=90)=true:=decide_eq_true (by omega)
        have d5:((c.toNat:Int) == 95)=false:=by simp; omega
        have d6:decide (48<=(c.toNat:Int))=true:=decide_eq_true (by omega)
        have d7:decide ((c.toNat:Int)<=57)=false:=decide_eq_false (by omega)
        have hL:isLet c.toNat=true:=by unfold isLet; rw [d1,d2,d3,d4]; rfl
        have hW:wordB c=true:=by unfold wordB isWord isDig; rw [hL,d5,d6,d7]; rfl
        rcases Nat.eq_zero_or_pos i with h0 | h0
        · have hz:((i:Int) == 0)=true:=by simp; omega
          simp (maxSteps:=1000000) -dsimp only [go_sem,hg,hc,Option.some.injEq,forall_eq',Int.toNat_natCast,d1,d3,d4,d5,d6,hz,Bool.true_and,Bool.and_true,Bool.false_and,Bool.and_false,Bool.not_true,Bool.not_false]
          repeat' first | intro _ | apply And.intro
          all_goals first | omega | (rename_i h9; simp at h9; done) | skip
          all_goals exact loop_next (i + 1) 0 (nxt (by rw [hW]) (fun h3=>by rw [hL])) (by omega) (by simp -dsimp only [go_sem]; simp) (by simp [go_sem])
        · have hz:((i:Int) == 0)=false:=by simp; omega
          simp (maxSteps:=1000000) -dsimp only [go_sem,hg,hc,Option.some.injEq,forall_eq',Int.toNat_natCast,d1,d3,d4,d5,d6,d7,hz,Bool.true_and,Bool.and_true,Bool.false_and,Bool.not_false]
          repeat' first | intro _ | apply And.intro
          all_goals first | omega | (rename_i h9; simp at h9; done) | skip
          all_goals exact loop_next (i + 1) 0 (nxt (by rw [hW]) (fun h3=>by rw [hL])) (by omega) (by simp -dsimp only [go_sem]; simp) (by simp [go_sem])
      · have d1:decide (97<=(c.toNat:Int))=false:=decide_eq_false (by omega)
        have d2:decide ((c.toNat:Int)<=122)=true:=decide_eq_true (by omega)
        have d3:decide (65<=(c.toNat:Int))=true:=decide_eq_true (by omega)
        have d4:decide ((c.toNat:Int)<=90)=false:=decide_eq_false (by omega)
        have d5:((c.toNat:Int) == 95)=false:=by simp; omega
        have d6:decide (48<=(c.toNat:Int))=true:=decide_eq_true (by omega)
        have d7:decide ((c.toNat:Int)<=57)=false:=decide_eq_false (by omega)
        have hL:isLet c.toNat=false:=by unfold isLet; rw [d1,d2,d3,d4]; rfl
        have hW:wordB c=false:=by unfold wordB isWord isDig; rw [hL,d5,d6,d7]; rfl
        rcases Nat.eq_zero_or_pos i with h0 | h0
        · have hz:((i:Int) == 0)=true:=by simp; omega
          simp (maxSteps:=1000000) -dsimp only [go_sem,hg,hc,Option.some.injEq,forall_eq',Int.toNat_natCast,d1,d3,d4,d5,d6,hz,Bool.true_and,Bool.and_true,Bool.false_and,Bool.and_false,Bool.not_true,Bool.not_false]
          repeat' first | intro _ | apply And.intro
          all_goals first | omega | (rename_i h9; simp at h9; done) | skip
          all_goals exact bad (by rw [hL,hW]; exact .inl ⟨h0,rfl⟩)
        · have hz:((i:Int) == 0)=false:=by simp; omega
          simp (maxSteps:=1000000) -dsimp only [go_sem,hg,hc,Option.some.injEq,forall_eq',Int.toNat_natCast,d1,d3,d4,d5,d6,d7,hz,Bool.true_and,Bool.and_true,Bool.false_and,Bool.not_false]
          repeat' first | intro _ | apply And.intro
          all_goals first | omega | (rename_i h9; simp at h9; done) | skip
          all_goals exact bad (by rw [hL,hW]; exact .inr rfl)
      · have d1:decide (97<=(c.toNat:Int))=false:=decide_eq_false (by omega)
        have d2:decide ((c.toNat:Int)<=122)=true:=decide_eq_true (by omega)
        have d3:decide (65<=(c.toNat:Int))=true:=decide_eq_true (by omega)
        have d4:decide ((c.toNat:Int)<=90)=false:=decide_eq_false (by omega)
        have d5:((c.toNat:Int) == 95)=true:=by simp; omega
        have d6:decide (48<=(c.toNat:Int))=true:=decide_eq_true (by omega)
        have d7:decide ((c.toNat:Int)<=57)=false:=decide_eq_false (by omega)
        have hL:isLet c.toNat=false:=by unfold isLet; rw [d1,d2,d3,d4]; rfl
        have hW:wordB c=true:=by unfold wordB isWord isDig; rw [hL,d5,d6,d7]; rfl
        rcases Nat.eq_zero_or_pos i with h0 | h0
        · have hz:((i:Int) == 0)=true:=by simp; omega
          simp (maxSteps:=1000000) -dsimp only [go_sem,hg,hc,Option.some.injEq,forall_eq',Int.toNat_natCast,d1,d3,d4,d5,hz,Bool.true_and,Bool.and_true,Bool.false_and,Bool.and_false,Bool.not_true,Bool.not_false]
          repeat' first | intro _ | apply And.intro
          all_goals first | omega | (rename_i h9; simp at h9; done) | skip
          all_goals exact bad (by rw [hL,hW]; exact .inl ⟨h0,rfl⟩)
        · have hz:((i:Int) == 0)=false:=by simp; omega
          simp (maxSteps:=1000000) -dsimp only [go_sem,hg,hc,Option.some.injEq,forall_eq',Int.toNat_natCast,d1,d3,d4,d5,hz,Bool.true_and,Bool.and_true,Bool.false_and,Bool.not_true,Bool.not_false]
          repeat' first | intro _ | apply And.intro
          all_goals first | omega | (rename_i h9; simp at h9; done) | skip
          all_goals exact loop_next (i + 1) 0 (nxt (by rw [hW]) (fun h3=>by omega)) (by omega) (by simp -dsimp only [go_sem]; simp) (by simp [go_sem])
      · have d1:decide (97<=(c.toNat:Int))=false:=decide_eq_false (by omega)
        have d2:decide ((c.toNat:Int)<=122)=true:=decide_eq_true (by omega)
        have d3:decide (65<=(c.toNat:Int))=true:=decide_eq_true (by omega)
        have d4:decide ((c.toNat:Int)<=90)=false:=decide_eq_false (by omega)
        have d5:((c.toNat:Int) == 95)=false:=by simp; omega
        have d6:decide (48<=(c.toNat:Int))=true:=decide_eq_true (by omega)
        have d7:decide ((c.toNat:Int)<=57)=false:=decide_eq_false (by omega)
        have hL:isLet c.toNat=false:=by unfold isLet; rw [d1,d2,d3,d4]; rfl
        have hW:wordB c=false:=by unfold wordB isWord isDig; rw [hL,d5,d6,d7]; rfl
        rcases Nat.eq_zero_or_pos i with h0 | h0
        · have hz:((i:Int) == 0)=true:=by simp; omega
          simp (maxSteps:=1000000) -dsimp only [go_sem,hg,hc,Option.some.injEq,forall_eq',Int.toNat_natCast,d1,d3,d4,d5,d6,hz,Bool.true_and,Bool.and_true,Bool.false_and,Bool.and_false,Bool.not_true,Bool.not_false]
          repeat' first | intro _ | apply And.intro
          all_goals first | omega | (rename_i h9; simp at h9; done) | skip
          all_goals exact bad (by rw [hL,hW]; exact .inl ⟨h0,rfl⟩)
        · have hz:((i:Int) == 0)=false:=by simp; omega
          simp (maxSteps:=1000000) -dsimp only [go_sem,hg,hc,Option.some.injEq,forall_eq',Int.toNat_natCast,d1,d3,d4,d5,d6,d7,hz,Bool.true_and,Bool.and_true,Bool.false_and,Bool.not_false]
          repeat' first | intro _ | apply And.intro
          all_goals first | omega | (rename_i h9; simp at h9; done) | skip
          all_goals exact bad (by rw [hL,hW]; exact .inr rfl)
      · have d1:decide (97<=(c.toNat:Int))=true:=decide_eq_true (by omega)
        have d2:decide ((c.toNat:Int)<=122)=true:=decide_eq_true (by omega)
        have d3:decide (65<=(c.toNat:Int))=true:=decide_eq_true (by omega)
        have d4:decide ((c.toNat:Int)<=90)=false:=decide_eq_false (by omega)
        have d5:((c.toNat:Int) == 95)=false:=by simp; omega
        have d6:decide (48<=(c.toNat:Int))=true:=decide_eq_true (by omega)
        have d7:decide ((c.toNat:Int)<=57)=false:=decide_eq_false (by omega)
        have hL:isLet c.toNat=true:=by unfold isLet; rw [d1,d2,d3,d4]; rfl
        have hW:wordB c=true:=by unfold wordB isWord isDig; rw [hL,d5,d6,d7]; rfl
        rcases Nat.eq_zero_or_pos i with h0 | h0
        · have hz:((i:Int) == 0)=true:=by simp; omega
          simp (maxSteps:=1000000) -dsimp only [go_sem,hg,hc,Option.some.injEq,forall_eq',Int.toNat_natCast,d1,d2,d5,d6,hz,Bool.true_and,Bool.and_true,Bool.false_and,Bool.and_false,Bool.not_true,Bool.not_false]
          repeat' first | intro _ | apply And.intro
          all_goals first | omega | (rename_i h9; simp at h9; done) | skip
          all_goals exact loop_next (i + 1) 0 (nxt (by rw [hW]) (fun h3=>by rw [hL])) (by omega) (by simp -dsimp only [go_sem]; simp) (by simp [go_sem])
        · have hz:((i:Int) == 0)=false:=by simp; omega
          simp (maxSteps:=1000000) -dsimp only [go_sem,hg,hc,Option.some.injEq,forall_eq',Int.toNat_natCast,d1,d2,d5,d6,d7,hz,Bool.true_and,Bool.and_true,Bool.false_and,Bool.not_true,Bool.not_false]
          repeat' first | intro _ | apply And.intro
          all_goals first | omega | (rename_i h9; simp at h9; done) | skip
          all_goals exact loop_next (i + 1) 0 (nxt (by rw [hW]) (fun h3=>by rw [hL])) (by omega) (by simp -dsimp only [go_sem]; simp) (by simp [go_sem])
      · have d1:decide (97<=(c.toNat:Int))=true:=decide_eq_true (by omega)
        have d2:decide ((c.toNat:Int)<=122)=false:=decide_eq_false (by omega)
        have d3:decide (65<=(c.toNat:Int))=true:=decide_eq_true (by omega)
        have d4:decide ((c.toNat:Int)<=90)=false:=decide_eq_false (by omega)
        have d5:((c.toNat:Int) == 95)=false:=by simp; omega
        have d6:decide (48<=(c.toNat:Int))=true:=decide_eq_true (by omega)
        have d7:decide ((c.toNat:Int)<=57)=false:=decide_eq_false (by omega)
        have hL:isLet c.toNat=false:=by unfold isLet; rw [d1,d2,d3,d4]; rfl
        have hW:wordB c=false:=by unfold wordB isWord isDig; rw [hL,d5,d6,d7]; rfl
        rcases Nat.eq_zero_or_pos i with h0 | h0
        · have hz:((i:Int) == 0)=true:=by simp; omega
          simp (maxSteps:=1000000) -dsimp only [go_sem,hg,hc,Option.some.injEq,forall_eq',Int.toNat_natCast,d1,d2,d3,d4,d5,d6,hz,Bool.true_and,Bool.and_true,Bool.and_false,Bool.not_true,Bool.not_false]
          repeat' first | intro _ | apply And.intro
          all_goals first | omega | (rename_i h9; simp at h9; done) | skip
          all_goals exact bad (by rw [hL,hW]; exact .inl ⟨h0,rfl⟩)
        · have hz:((i:Int) == 0)=false:=by simp; omega
          simp (maxSteps:=1000000) -dsimp only [go_sem,hg,hc,Option.some.injEq,forall_eq',Int.toNat_natCast,d1,d2,d3,d4,d5,d6,d7,hz,Bool.true_and,Bool.and_true,Bool.not_false]
          repeat' first | intro _ | apply And.intro
          all_goals first | omega | (rename_i h9; simp at h9; done) | skip
          all_goals exact bad (by rw [hL,hW]; exact .inr rfl)
    · have hg:decide ((i:Int) < ((bl s).length:Int))=false:=by simp; omega
      obtain rfl:i=(bl s).length:=by omega
      obtain ⟨c,hc⟩:∃ c,(bl s)[0]? = some c:=⟨_,List.getElem?_eq_getElem hl0⟩
      simp (maxSteps:=1000000) -dsimp only [go_sem,hg]
      refine fin_eq hK ?_
      rw [isNm_true hc hl (hb hl0 c hc) fun j x hx=>ha j x (List.getElem?_eq_some_iff.1 hx).1 hx]
end Go.Proofs.YtbcnggkldclemaaGreat
namespace Go.Proofs.YtbcnggkldclemaaGreat
open Go.W
set_option maxRecDepth 100000 in
theorem mRIsType:Meets Tryz.prog 63 (strFn fun l=>.bool (tnB l)).sp:=by
  refine meets_fn Tryz.func63 ok63 1 (by rw [Tryz.ntmps63]; decide) (meetsAll_f mRIsName (meetsAll_nil _)) strFn_len ?_
  rintro xs H K ⟨⟨h,rfl⟩,hK⟩
  obtain ⟨s,rfl⟩:=strPre_open h
  have hK':K (.va (.c1 (.vl (.bool (tnB (bl s)))))) []:=hK
  clear hK h
  unfold tnB at hK'
  cases hn:isNm (bl s) with
  | false=>
    rw [hn] at hK'
    simp -dsimp only [go_sem,pc63,rs63,hn]
    exact .done hK'
  | true=>
    cases hl:bl s with
    | nil=>rw [hl] at hn; cases hn
    | cons c r=>
      rw [hl] at hn hK'
      rw [hn] at hK'
      simp -dsimp only [go_sem,pc63,rs63,hl,hn]
      refine ⟨by omega,fun d hd=>⟨fun _=>by omega,fun e he=>?_⟩⟩
      subst hd
      cases hc:decide (65<=(c.toNat:Int)) with
      | false=>simp only [hc,Bool.true_and,Bool.false_and] at hK'; exact .done hK'
      | true=>
        obtain rfl:=he hc
        simp only [hc,Bool.true_and] at hK'; exact .done hK'
set_option maxRecDepth 100000 in
theorem mRPlain:Meets Tryz.prog 90 (gFn isTy C.ty fun t=>.bool ((t.e.length:Int) == 0)).sp:=by
  refine meets_fn Tryz.func90 ok90 1 (by rw [Tryz.ntmps90]; decide) (meetsAll_nil _) gFn_len ?_
  rintro av H K ⟨⟨h,rfl⟩,hK⟩
  obtain ⟨_,rfl,t,rfl,ht⟩:=gPre_open h
  have hK:K (bS ((t.e.length:Int) == 0)) []:=by
    have:(gFn isTy C.ty fun t=>.bool ((t.e.length:Int) == 0)).val [.va (.gs (tyC t))]=bA ((t.e.length:Int) == 0):=by simp -dsimp only [go_sem]
    rw [this] at hK; exact hK
  simp (maxSteps:=1000000) -dsimp only [go_sem,tyC_eq,pc90,rs90]
  exact .sel [] (by simp) (by simp) rfl (.done (by simpa [go_sem] using hK))
def inPre:List S->Prop:=fun av=>match av with
  | [.va (.c1 (.fz rs)),.va (.c1 (.vl (.int .i64 k))),.va (.c1 (.vl (.string _)))]=>isBs rs/\0<=k/\k<=9223372036854775807
  | _=>False
theorem inPre_open {av:List S} (h:inPre av):∃ (l:List ByteArray) (n:Nat) (x:ByteArray),av=[.va (.c1 (.fz (l.map stR))),iS .i64 n,tS x]/\l.length<=9223372036854775807/\(n:Int)<=9223372036854775807:=by
  unfold inPre at h
  split at h
  · obtain ⟨⟨l,rfl,h1⟩,h2,h3⟩:=h
    rename_i k x
    exact ⟨l,k.toNat,x,by rw [Int.toNat_of_nonneg h2],h1,by omega⟩
  · exact h.elim
noncomputable def inVal:List S->A:=fun av=>match av with
  | [.va (.c1 (.fz rs)),.va (.c1 (.vl (.int .i64 k))),.va (.c1 (.vl (.string x)))]=>bA (inB ((rs.map C.bs).take k.toNat) x)
  | _=>.gs []
noncomputable def inFn:Fun:=⟨inPre,inVal,fun av h=>by obtain ⟨l,n,x,rfl,_⟩:=inPre_open h; trivial⟩
theorem inFn_len:∀ av H K,inFn.sp av H K->av.length=3:=fun av H K h=>by obtain ⟨l,n,x,rfl,_⟩:=inPre_open h.1.1; rfl
attribute [go_sem] inFn inPre inVal
set_option maxRecDepth 100000 in
theorem mRIn:Meets Tryz.prog 45 inFn.sp:=by
  refine meets_fn Tryz.func45 ok45 3 (by rw [Tryz.ntmps45]; decide) (meetsAll_nil _) inFn_len ?_
  rintro av H K ⟨⟨h,rfl⟩,hK⟩
  obtain ⟨l,n,x,rfl,hl,hn⟩:=inPre_open h
  have hK:K (bS (inB (l.take n) x)) []:=by
    have:inFn.val [.va (.c1 (.fz (l.map stR))),iS .i64 n,tS x]=bA (inB (l.take n) x):=by simp -dsimp only [go_sem,Int.toNat_natCast]
    rw [this] at hK; exact hK
  clear h
  simp (maxSteps:=1000000) -dsimp only [go_sem,pc45,rs45]
  refine vc_loop (α:=Nat) (fun i=>[(0,.va (.c1 (.fz (l.map stR)))),(1,iS .i64 n),(2,tS x),(7,iS .i64 i)]) (fun _=>[])
    (fun i=>i<=(l.take n).length/\inB ((l.take n).drop i) x=inB (l.take n) x) (fun i=>l.length - i) 0 0 ⟨Nat.zero_le _,rfl⟩ ?_ ?_ ?_
  · simp [go_sem]
  · simp [go_sem]
  rintro i ⟨hi,ho⟩
  have hlt0:(l.take n).length=min n l.length:=by simp
  rcases Nat.lt_or_ge i (l.take n).length with hlt | hge
  · have g1:decide ((i:Int) < (n:Int))=true:=by simp; omega
    have g2:decide ((i:Int) < (l.length:Int))=true:=by simp; omega
    obtain ⟨y,hx⟩:∃ y,l[i]? = some y:=⟨_,List.getElem?_eq_getElem (by omega)⟩
    have hx':(l.take n)[i]? = some y:=by rw [List.getElem?_take,if_pos (by omega)]; exact hx
    have q2:=row_rg' (row:=stR) hx
    rw [inB,any_step hx'] at ho
    simp (maxSteps:=1000000) -dsimp only [go_sem,g1,g2,↓q2,bl_beq]
    have hsy:decide (y=x)=decide (x=y):=by simp [eq_comm]
    refine ⟨by omega,fun hc=>?_,fun hc=>⟨by omega,loop_next (i + 1) 0 ⟨by omega,?_⟩ (by omega) ?_ ?_⟩⟩
    · rw [<-hsy,hc,Bool.true_or] at ho
      rw [<-ho] at hK
      exact .done hK
    · rw [<-hsy,hc,Bool.false_or] at ho
      exact ho
    · simp [go_sem]
    · simp [go_sem]
  · obtain rfl:i=(l.take n).length:=by omega
    rw [inB,any_end] at ho
    rw [<-ho] at hK
    generalize hm:(l.take n).length=m at *
    rcases Nat.lt_or_ge m n with h1 | h1
    · have g1:decide ((m:Int) < (n:Int))=true:=by simp; omega
      have g2:decide ((m:Int) < (l.length:Int))=false:=by simp; omega
      simp (maxSteps:=1000000) -dsimp only [go_sem,g1,g2]
      exact .done hK
    · have g1:decide ((m:Int) < (n:Int))=false:=by simp; omega
      simp (maxSteps:=1000000) -dsimp only [go_sem,g1]
      exact .done hK
set_option maxRecDepth 100000 in
theorem mRStruct:Meets Tryz.prog 17 stSpP:=by
  refine meets_fn Tryz.func17 ok17 2 (by rw [Tryz.ntmps17]; decide) (meetsAll_nil _) (fun av H K h=>by obtain ⟨_,_,rfl,_⟩:=h; rfl) ?_
  rintro av H K ⟨s,n,rfl,rfl,hs,hK⟩
  rw [<-fS_has] at hK
  have hl:=hs.ok.ls
  simp -dsimp only [go_sem,scC,pc17,rs17]
  refine vc_loop (α:=Nat) (fun i=>[(1,tS n),(2,.va (.c1 (.pt 0 0))),(4,.va (.c1 (.pt 1 0))),(6,iS .i64 i)]) (fun _=>[.cells (scC s) 25,.cells [.vl (.string (mk [])),.vl (.slice none 0 0)] 45])
    (fun i=>i<=s.ss.length/\fS (s.ss.drop i) n=fS s.ss n) (fun i=>s.ss.length - i) 0 2 ⟨Nat.zero_le _,rfl⟩ ?_ ?_ ?_
  · simp [go_sem]
  · simp [go_sem,scC]
  rintro i ⟨hi,ho⟩
  rcases Nat.lt_or_ge i s.ss.length with hlt | hge
  · have hg:decide ((i:Int) < (s.ss.length:Int))=true:=by simp; omega
    obtain ⟨t,hx⟩:∃ e,s.ss[i]? = some e:=⟨_,List.getElem?_eq_getElem hlt⟩
    have q2:=row_rg' (row:=stC) hx
    rw [fS,fnd_step hx] at ho
    cases hc:decide (t.nm=n) with
    | true=>
      rw [hc,Bool.cond_true] at ho
      rw [<-ho] at hK
      simp (maxSteps:=1000000) -dsimp only [go_sem,hg,↓q2,stC,scC,bl_beq,hc]
      refine ⟨by omega,by omega,.sel [] (by simp) (by simp) rfl (.done (by simpa [go_sem,stC] using hK))⟩
    | false=>
      rw [hc,Bool.cond_false] at ho
      simp (maxSteps:=1000000) -dsimp only [go_sem,hg,↓q2,stC,scC,bl_beq,hc]
      refine ⟨by omega,by omega,loop_next (i + 1) 2 ⟨by omega,ho⟩ (by omega) ?_ ?_⟩
      · simp [go_sem]
      · simp [go_sem,scC]
  · have hg:decide ((i:Int) < (s.ss.length:Int))=false:=by simp; omega
    obtain rfl:i=s.ss.length:=by omega
    rw [List.drop_length] at ho
    rw [<-ho] at hK
    simp -dsimp only [go_sem,hg,scC]
    exact .sel [] (by simp) (by simp) rfl (.done (by simpa [go_sem,fS,stC_def] using hK))
def enSpP:W.Spec:=fun av H K=>∃ (s:Sc) (n:ByteArray),av=[.va (.gs (scC s)),tS n]/\H=[]/\s.fit/\K (.tu [.gs (enC ((fEn s.es n).getD default)),bA (hasE s.es n)]) []
theorem enp_use {s:Sc} {n:ByteArray} {K:S->Hp->Prop} (h:s.fit) (hK:K (.tu [.gs (enC ((fEn s.es n).getD default)),bA (hasE s.es n)]) []):enSpP [.va (.gs (scC s)),tS n] [] K:=⟨s,n,rfl,rfl,h,hK⟩
theorem enC_def:enC default=[.vl (.string (mk [])),.fz [],.fz []]:=rfl
set_option maxRecDepth 100000 in
theorem mREnum:Meets Tryz.prog 65 enSpP:=by
  refine meets_fn Tryz.func65 ok65 2 (by rw [Tryz.ntmps65]; decide) (meetsAll_nil _) (fun av H K h=>by obtain ⟨_,_,rfl,_⟩:=h; rfl) ?_
  rintro av H K ⟨s,n,rfl,rfl,hs,hK⟩
  rw [<-fEn_has] at hK
  have hl:=hs.ok.le
  simp -dsimp only [go_sem,scC,pc65,rs65]
  refine vc_loop (α:=Nat) (fun i=>[(1,tS n),(2,.va (.c1 (.pt 0 0))),(4,.va (.c1 (.pt 1 0))),(6,iS .i64 i)]) (fun _=>[.cells (scC s) 25,.cells [.vl (.string (mk [])),.vl (.slice none 0 0),.vl (.slice none 0 0)] 60])
    (fun i=>i<=s.es.length/\fEn (s.es.drop i) n=fEn s.es n) (fun i=>s.es.length - i) 0 2 ⟨Nat.zero_le _,rfl⟩ ?_ ?_ ?_
  · simp [go_sem]
  · simp [go_sem,scC]
  rintro i ⟨hi,ho⟩
  rcases Nat.lt_or_ge i s.es.length with hlt | hge
  · have hg:decide ((i:Int) < (s.es.length:Int))=true:=by simp; omega
    obtain ⟨t,hx⟩:∃ e,s.es[i]? = some e:=⟨_,List.getElem?_eq_getElem hlt⟩
    have q2:=row_rg' (row:=enC) hx
    rw [fEn,fnd_step hx] at ho
    cases hc:decide (t.nm=n) with
    | true=>
      rw [hc,Bool.cond_true] at ho
      rw [<-ho] at hK
      simp (maxSteps:=1000000) -dsimp only [go_sem,hg,↓q2,enC,scC,bl_beq,hc]
      refine ⟨by omega,by omega,.sel [] (by simp) (by simp) rfl (.done (by simpa [go_sem,enC] using hK))⟩
    | false=>
      rw [hc,Bool.cond_false] at ho
      simp (maxSteps:=1000000) -dsimp only [go_sem,hg,↓q2,enC,scC,bl_beq,hc]
      refine ⟨by omega,by omega,loop_next (i + 1) 2 ⟨by omega,ho⟩ (by omega) ?_ ?_⟩
      · simp [go_sem]
      · simp [go_sem,scC]
  · have hg:decide ((i:Int) < (s.es.length:Int))=false:=by simp; omega
    obtain rfl:i=s.es.length:=by omega
    rw [List.drop_length] at ho
    rw [<-ho] at hK
    simp -dsimp only [go_sem,hg,scC]
    exact .sel [] (by simp) (by simp) rfl (.done (by simpa [go_sem,fEn,enC_def] using hK))
set_option maxRecDepth 100000 in
theorem mRFieldOf:Meets Tryz.prog 47 foSpP:=by
  refine meets_fn Tryz.func47 ok47 2 (by rw [Tryz.ntmps47]; decide) (meetsAll_nil _) (fun av H K h=>by obtain ⟨_,_,rfl,_⟩:=h; rfl) ?_
  rintro av H K ⟨s,n,rfl,rfl,hs,hsm,hK⟩
  have hl:=hs.len
  simp -dsimp only [go_sem,stC,pc47,rs47]
  refine vc_loop (α:=Nat) (fun i=>[(1,iS .i64 n),(2,.va (.c1 (.pt 0 0))),(4,.va (.c1 (.pt 1 0))),(6,iS .i64 i)]) (fun _=>[.cells (stC s) 45,.cells [.vl (.int .i64 0),.vl (.string (mk [])),.vl (.int .i64 0),.vl (.int .i64 0),.vl (.string (mk [])),.vl (.slice none 0 0),.vl (.bool false)] 42])
    (fun i=>i<=s.fs.length/\fF (s.fs.drop i) n=fF s.fs n) (fun i=>s.fs.length - i) 0 2 ⟨Nat.zero_le _,rfl⟩ ?_ ?_ ?_
  · simp [go_sem]
  · simp [go_sem,stC]
  rintro i ⟨hi,ho⟩
  rcases Nat.lt_or_ge i s.fs.length with hlt | hge
  · have hg:decide ((i:Int) < (s.fs.length:Int))=true:=by simp; omega
    obtain ⟨t,hx⟩:∃ e,s.fs[i]? = some e:=⟨_,List.getElem?_eq_getElem hlt⟩
    have q2:=row_rg' (row:=flC) hx
    rw [fF,fnd_step hx] at ho
    have hq:(t.num == n)=decide (t.num=n):=rfl
    cases hc:decide (t.num=n) with
    | true=>
      rw [hc,Bool.cond_true] at ho
      rw [<-ho] at hK
      simp (maxSteps:=1000000) -dsimp only [go_sem,hg,↓q2,flC,stC,hq,hc]
      refine ⟨by omega,by omega,.sel [] (by simp) (by simp) rfl (.done (by simpa [go_sem,flC] using hK))⟩
    | false=>
      rw [hc,Bool.cond_false] at ho
      simp (maxSteps:=1000000) -dsimp only [go_sem,hg,↓q2,flC,stC,hq,hc]
      refine ⟨by omega,by omega,loop_next (i + 1) 2 ⟨by omega,ho⟩ (by omega) ?_ ?_⟩
      · simp [go_sem]
      · simp [go_sem,stC]
  · have hg:decide ((i:Int) < (s.fs.length:Int))=false:=by simp; omega
    obtain rfl:i=s.fs.length:=by omega
    rw [List.drop_length] at ho
    rw [<-ho] at hK
    simp -dsimp only [go_sem,hg,stC]
    exact .sel [] (by simp) (by simp) rfl (.done (by simpa [go_sem,fF,flC_def] using hK))
end Go.Proofs.YtbcnggkldclemaaGreat
namespace Go.Proofs.YtbcnggkldclemaaGreat
open Go.W
theorem map_pj_default (s:Sc) (l:List Vl):l.map (pj s default)=l:=by
  conv=>rhs; rw [<-pjL_default s l]
  rw [pjL_map]
theorem flat_pj_none (s:Sc) (f:List (Int × Vl)):f.flatMap (pjE s none)=f:=by
  conv=>rhs; rw [<-pjF_default s f]
  rw [pjF_flat]
set_option maxRecDepth 100000 in
set_option maxHeartbeats 8000000 in
theorem mByN:∀ N,Meets Tryz.prog 19 (pjSp N)
  | 0=>⟨by kernel_rfl,by rintro xs vs E ro w K _ _ _ ⟨s,t,v,_,_,_,_,_,h,_⟩; have:=v.h_pos; omega⟩
  | N + 1=>by
    refine meets_fn Tryz.func19 ok19 3 (by rw [Tryz.ntmps19]; decide) (meetsAll_s (mByN N) (meetsAll_s mRStruct (meetsAll_s mRFieldOf (meetsAll_nil _)))) (fun av H K h=>by obtain ⟨_,_,_,rfl,_⟩:=h; rfl) ?_
    rintro av H K ⟨s,t,v,rfl,rfl,hs,ht,hv,hh,hK⟩
    have hll:=hv.ll
    have hlf:=hv.lf
    have fin:∀ R:Hp,pj s t v=v->W.Fin 0 K (.va (.gs [.vl (.int .i64 v.k),.vl (.int .i64 v.n),.vl (.string v.s),.fz (v.l.map vlC),.fz (v.f.map veC)])) R:=fun R h=>by
      rw [h,vlC_eq] at hK
      exact .sel [] (by simp) (by simp) rfl (.done (by simpa [go_sem] using hK))
    by_cases hk:v.k=t.k
    rotate_left
    · have hb:(v.k != t.k)=true:=by simpa using hk
      simp (maxSteps:=1000000) -dsimp only [go_sem,vlC_eq v,tyC_eq t,scC,pc19,rs19,hb]
      exact fin _ (pj_other hk)
    have hb:(v.k != t.k)=false:=by simp [hk]
    by_cases h5:t.k=5
    · have b5:(t.k == 5)=true:=by simp [h5]
      have b6:(t.k == 6)=false:=by simp [h5]
      have hO:stO s v.k t=none:=by unfold stO; rw [decide_eq_false (show ¬ t.k=6 by omega),Bool.and_false,Bool.false_and]; rfl
      by_cases hl:t.e.length=1
      rotate_left
      · have bl1:((t.e.length:Int) == 1)=false:=by simp; omega
        simp (maxSteps:=1000000) -dsimp only [go_sem,vlC_eq v,tyC_eq t,scC,pc19,rs19,hb,b5,b6,bl1]
        refine fin _ ?_
        have hC:chT v.k t=default:=by unfold chT; rw [decide_eq_false hl,Bool.and_false]; rfl
        rw [pj_eq,hC,hO,map_pj_default,flat_pj_none]
        cases v; rfl
      · have bl1:((t.e.length:Int) == 1)=true:=by simp; omega
        obtain ⟨e,he⟩:∃ e,t.e=[e]:=List.length_eq_one_iff.1 hl
        have heo:TyOk e:=ht.e e (by rw [he]; simp)
        have hC:chT v.k t=e:=by unfold chT; rw [decide_eq_true hk,decide_eq_true h5,decide_eq_true hl,he]; rfl
        rw [pj_eq,hC,hO,flat_pj_none,vlC,vlsC_map,vesC_map] at hK
        simp (maxSteps:=1000000) -dsimp only [go_sem,vlC_eq v,tyC_eq t,scC,pc19,rs19,hb,b5,bl1]
        refine vc_loop_gh (α:=Nat) (fun i=>[(3,.va (.c1 (.pt 0 0))),(4,.va (.c1 (.pt 1 0))),(5,.va (.c1 (.pt 2 0))),(6,.va (.c1 (.pt 3 0))),(7,.va (.c1 (.pt 4 0))),(8,iS .i64 i)])
          (fun i=>[.cells (scC s) 25,.cells (tyX t) 40,.cells (vlX v) 29,.cells [.vl (.int .i64 0),.vl (.int .i64 0),.vl (.string (mk [])),.vl (.slice none 0 0),.vl (.slice none 0 0)] 29,.cells [.vl (.int .i64 v.k),.vl (.int .i64 v.n),.vl (.string v.s),.sl 5 i,.fz (v.f.map veC)] 29,.row (((v.l.take i).map (pj s e)).map vlC) 29 5])
          (fun i=>i<=v.l.length) (fun i=>v.l.length - i) (.nilc 4 3 29 5 [.vl (.int .i64 v.k),.vl (.int .i64 v.n),.vl (.string v.s),.vl (.slice none 0 0),.fz (v.f.map veC)] 29 rfl rfl (gh_at 0 6 (Nat.zero_le _) ?_ ?_)) ?_
        · simp -dsimp only [go_sem]<;>simp
        · simp -dsimp only [go_sem,scC,tyX,vlX]<;>simp [tyX,vlX,scC]
        intro i hi
        have hz:(v.l.take i).length=i:=by rw [List.length_take]; omega
        rcases Nat.lt_or_ge i v.l.length with hlt | hge
        · have hg:decide ((i:Int) < (v.l.length:Int))=true:=by simp; omega
          obtain ⟨x,hx⟩:∃ t,v.l[i]? = some t:=⟨_,List.getElem?_eq_getElem hlt⟩
          have q1:=vl_rg hx
          have hxm:=List.mem_of_getElem? hx
          have hxo:=hv.l x hxm
          have hxh:x.h<=N:=by have:=Vl.h_l hxm; omega
          simp (maxSteps:=1000000) -dsimp only [go_sem,hg,↓q1,scC,tyX,vlX,he,tyC_eq e,List.getElem?_cons_zero,Option.some.injEq,forall_eq']
          and_intros
          all_goals first
            | omega
            | skip
          refine pj_use' hs heo hxo hxh ?_
          simp (maxSteps:=1000000) -dsimp only [go_sem]
          refine ⟨hz,by omega,by omega,loop_next (i + 1) 6 (by omega) (by omega) ?_ ?_⟩
          · simp -dsimp only [go_sem]<;>simp
          · simp -dsimp only [go_sem,scC,tyX,vlX,take_next hx,he]<;>simp [tyX,vlX,scC,he,vlC_eq (pj s e x),tyC_eq e]
        · have hg:decide ((i:Int) < (v.l.length:Int))=false:=by simp; omega
          obtain rfl:i=v.l.length:=by omega
          rw [List.take_length]
          simp (maxSteps:=1000000) -dsimp only [go_sem,hg,scC,tyX,vlX,b6]
          refine .pub 5 _ _ _ rfl (.sel [] (by simp) (by simp [pubH]) rfl (.done ?_))
          simp -dsimp only [go_sem,pubH]
          simpa using hK
    · have b5:(t.k == 5)=false:=by simpa using h5
      have hC:chT v.k t=default:=by unfold chT; rw [decide_eq_false h5,Bool.and_false,Bool.false_and]; rfl
      by_cases h6:t.k=6
      rotate_left
      · have b6:(t.k == 6)=false:=by simpa using h6
        have hO:stO s v.k t=none:=by unfold stO; rw [decide_eq_false h6,Bool.and_false,Bool.false_and]; rfl
        simp (maxSteps:=1000000) -dsimp only [go_sem,vlC_eq v,tyC_eq t,scC,pc19,rs19,hb,b5,b6]
        refine fin _ ?_
        rw [pj_eq,hC,hO,map_pj_default,flat_pj_none]
        cases v; rfl
      have b6:(t.k == 6)=true:=by simp [h6]
      simp (maxSteps:=1000000) -dsimp only [go_sem,vlC_eq v,tyC_eq t,scC,pc19,rs19,hb,b5,b6]
      refine stp_use (s:=s) hs ?_
      cases hkn:hasS s.ss t.n with
      | false=>
        have hO:stO s v.k t=none:=by unfold stO; rw [hkn,Bool.and_false]; rfl
        simp (maxSteps:=1000000) -dsimp only [go_sem,stC]
        refine fin _ ?_
        rw [pj_eq,hC,hO,map_pj_default,flat_pj_none]
        cases v; rfl
      | true=>
        generalize hu:(fS s.ss t.n).getD default=u
        have hO:stO s v.k t=some u.fs:=by unfold stO; rw [hkn,hu,decide_eq_true hk,decide_eq_true h6]; rfl
        have huo:u.ok:=by
          rw [<-hu]
          cases hf:fS s.ss t.n with
          | none=>exact St.ok_default
          | some w=>exact hs.ok.ss w (fS_mem hf).1
        have hus:∀ f ∈ u.fs,TySm f.ty:=by
          rw [<-hu]
          cases hf:fS s.ss t.n with
          | none=>exact fun f hf=>(List.not_mem_nil hf).elim
          | some w=>exact (hs.sm w (fS_mem hf).1).2
        rw [pj_eq,hC,hO,map_pj_default,vlC,vlsC_map,vesC_map] at hK
        simp (maxSteps:=1000000) -dsimp only [go_sem,stC]
        refine vc_loop_gh (α:=Nat × List (Int × Vl)) (fun z=>[(3,.va (.c1 (.pt 0 0))),(4,.va (.c1 (.pt 1 0))),(5,.va (.c1 (.pt 2 0))),(6,.va (.c1 (.pt 3 0))),(7,.va (.c1 (.pt 4 0))),(9,.va (.c1 (.pt 5 0))),(11,iS .i64 z.1)])
          (fun z=>[.cells (scC s) 25,.cells (tyX t) 40,.cells (vlX v) 29,.cells [.vl (.int .i64 0),.vl (.int .i64 0),.vl (.string (mk [])),.vl (.slice none 0 0),.vl (.slice none 0 0)] 29,.cells [.vl (.int .i64 v.k),.vl (.int .i64 v.n),.vl (.string v.s),.fz (v.l.map vlC),.sl 6 z.2.length] 29,.cells (stC u) 45,.row (z.2.map veC) 37 6])
          (fun z=>z.1<=v.f.length/\z.2 ++ (v.f.drop z.1).flatMap (pjE s (some u.fs))=v.f.flatMap (pjE s (some u.fs))/\z.2.length<=z.1) (fun z=>v.f.length - z.1)
          (.nilc 4 4 37 6 [.vl (.int .i64 v.k),.vl (.int .i64 v.n),.vl (.string v.s),.fz (v.l.map vlC),.vl (.slice none 0 0)] 29 rfl rfl (gh_at (0,[]) 7 ⟨Nat.zero_le _,rfl,Nat.le_refl _⟩ ?_ ?_)) ?_
        · simp -dsimp only [go_sem]<;>simp
        · simp -dsimp only [go_sem,scC,tyX,vlX,stC]<;>simp [tyX,vlX,stC,scC]
        rintro ⟨i,O⟩ ⟨hi,hm,hol⟩
        simp only at hi hm hol ⊢
        rcases Nat.lt_or_ge i v.f.length with hlt | hge
        · have hg:decide ((i:Int) < (v.f.length:Int))=true:=by simp; omega
          obtain ⟨x,hx⟩:∃ t,v.f[i]? = some t:=⟨_,List.getElem?_eq_getElem hlt⟩
          have q1:=ve_rg hx
          have hxm:=List.mem_of_getElem? hx
          have hxo:=hv.f x hxm
          have hxh:x.2.h<=N:=by have:=Vl.h_f hxm; omega
          have hdr:v.f.drop i=x :: v.f.drop (i + 1):=by
            obtain ⟨h,rfl⟩:=List.getElem?_eq_some_iff.1 hx
            exact List.drop_eq_getElem_cons h
          rw [hdr,List.flatMap_cons,<-List.append_assoc] at hm
          simp (maxSteps:=1000000) -dsimp only [go_sem,hg,↓q1,scC,tyX,vlX,stC]
          refine ⟨by omega,fop_use (t:=u) huo hus ?_⟩
          cases hf:fF u.fs x.1 with
          | none=>
            have he:pjE s (some u.fs) x=[]:=by unfold pjE; simp only [hf]
            rw [he,List.append_nil] at hm
            simp (maxSteps:=1000000) -dsimp only [go_sem,Option.getD_none,Option.isSome_none,flC_def]
            refine vc_head rfl (.done ?_)
            simp (maxSteps:=1000000) -dsimp only [go_sem,pc19_19]
            refine ⟨by omega,loop_next (i + 1,O) 7 ⟨by simp only; omega,hm,by simp only; omega⟩ (by simp only; omega) ?_ ?_⟩
            · simp -dsimp only [go_sem]<;>simp
            · simp -dsimp only [go_sem,scC,tyX,vlX,stC]<;>simp [tyX,vlX,stC,scC]
          | some g=>
            have he:pjE s (some u.fs) x=[(x.1,pj s g.ty x.2)]:=by unfold pjE; simp only [hf]
            have hgo:=(huo.fs g (List.mem_of_find?_eq_some hf)).ty
            rw [he] at hm
            simp (maxSteps:=1000000) -dsimp only [go_sem,Option.getD_some,Option.isSome_some,flC]
            refine vc_head rfl (.done ?_)
            simp (maxSteps:=1000000) -dsimp only [go_sem,pc19_19,↓q1]
            refine ⟨by omega,by omega,pj_use' (t:=g.ty) hs hgo hxo hxh ?_⟩
            simp (maxSteps:=1000000) -dsimp only [go_sem,↓q1]
            refine ⟨by omega,by omega,by omega,loop_next (i + 1,O ++ [(x.1,pj s g.ty x.2)]) 7 ⟨by simp only; omega,hm,by simp only [List.length_append,List.length_singleton]; omega⟩ (by simp only; omega) ?_ ?_⟩
            · simp -dsimp only [go_sem]<;>simp
            · simp -dsimp only [go_sem,scC,tyX,vlX,stC]<;>simp [tyX,vlX,stC,scC,veC_eq]
        · have hg:decide ((i:Int) < (v.f.length:Int))=false:=by simp; omega
          obtain rfl:i=v.f.length:=by omega
          rw [List.drop_length,List.flatMap_nil,List.append_nil] at hm
          subst hm
          simp (maxSteps:=1000000) -dsimp only [go_sem,hg,scC,tyX,vlX,stC]
          refine .pub 6 _ _ _ rfl (.sel [] (by simp) (by simp [pubH]) rfl (.done ?_))
          simp -dsimp only [go_sem,pubH]
          simpa using hK
end Go.Proofs.YtbcnggkldclemaaGreat
namespace Go.Proofs.YtbcnggkldclemaaGreat
open Go.W
noncomputable def eqB {α:Type} (a b:α):Bool:=@decide (a=b) (Classical.propDecidable _)
end Go.Proofs.YtbcnggkldclemaaGreat
namespace Go.Proofs.YtbcnggkldclemaaGreat
open Go.W
set_option maxRecDepth 100000 in
theorem mRLong:Meets Tryz.prog 41 (gFn isSc C.sc fun s=>.bool (largeF s)).sp:=by
  refine meets_fn Tryz.func41 ok41 1 (by rw [Tryz.ntmps41]; decide) (meetsAll_nil _) gFn_len ?_
  rintro av H K ⟨⟨h,rfl⟩,hK⟩
  obtain ⟨_,rfl,s,rfl,hs⟩:=gPre_open h
  have hK:K (bS (largeF s)) []:=by
    have:(gFn isSc C.sc fun s=>.bool (largeF s)).val [.va (.gs (scC s))]=bA (largeF s):=by simp -dsimp only [go_sem]
    rw [this] at hK; exact hK
  obtain ⟨hv,hle,hls,hes,hss⟩:=hs
  have big:largeF s=true->∀ R:Hp,W.Fin 0 K (bS true) R:=fun h R=>by
    rw [h] at hK
    exact .sel [] (by simp) (by simp) rfl (.done (by simpa [go_sem] using hK))
  cases d1:decide (16 < (s.es.length:Int)) with
  | true=>
    simp (maxSteps:=1000000) -dsimp only [go_sem,scC,pc41,rs41,d1]
    exact big (by unfold largeF; rw [show decide (16 < s.es.length)=true by simp at d1 ⊢; omega]; simp) _
  | false=>
  cases d2:decide (16 < (s.ss.length:Int)) with
  | true=>
    simp (maxSteps:=1000000) -dsimp only [go_sem,scC,pc41,rs41,d1,d2]
    exact big (by unfold largeF; rw [show decide (16 < s.es.length + s.ss.length)=true by simp at d2 ⊢; omega]; simp) _
  | false=>
  cases d3:decide (16 < (s.es.length:Int) + (s.ss.length:Int)) with
  | true=>
    simp (maxSteps:=1000000) -dsimp only [go_sem,scC,pc41,rs41,d1,d2,d3]
    exact ⟨by simp at d1 d2; omega,big (by unfold largeF; rw [show decide (16 < s.es.length + s.ss.length)=true by simp at d3 ⊢; omega]; simp) _⟩
  | false=>
  simp (maxSteps:=1000000) -dsimp only [go_sem,scC,pc41,rs41,d1,d2,d3]
  simp only [decide_eq_false_iff_not] at d1 d2 d3
  refine ⟨by omega,?_⟩
  have hL:largeF s=(s.es.any (fun e=>decide (16 < e.ns.length)) || s.ss.any (fun t=>decide (16 < t.fs.length))):=by
    unfold largeF; rw [decide_eq_false (by omega),decide_eq_false (by omega)]; rfl
  refine vc_loop (α:=Nat) (fun i=>[(1,.va (.c1 (.pt 0 0))),(3,iS .i64 i)]) (fun _=>[.cells (scC s) 25])
    (fun i=>i<=s.es.length/\(s.es.drop i).any (fun e=>decide (16 < e.ns.length))=s.es.any (fun e=>decide (16 < e.ns.length))) (fun i=>s.es.length - i) 0 1 ⟨Nat.zero_le _,rfl⟩ ?_ ?_ ?_
  · simp [go_sem]
  · simp [go_sem,scC]
  rintro i ⟨hi,ho⟩
  rcases Nat.lt_or_ge i s.es.length with hlt | hge
  · have hg:decide ((i:Int) < (s.es.length:Int))=true:=by simp; omega
    obtain ⟨e,hx⟩:∃ e,s.es[i]? = some e:=⟨_,List.getElem?_eq_getElem hlt⟩
    have q2:=row_rg' (row:=enC) hx
    rw [any_step hx] at ho
    simp (maxSteps:=1000000) -dsimp only [go_sem,hg,↓q2,enC,scC]
    and_intros
    all_goals first
      | omega
      | skip
    · intro hc
      have hc':decide (16 < e.ns.length)=true:=by simp at hc; simp; omega
      have:largeF s=true:=by simp only [hL,<-ho,hc',Bool.true_or]
      rw [this] at hK
      exact .sel [] (by simp) (by simp) rfl (.done (by simpa [go_sem] using hK))
    · intro hc
      refine ⟨by omega,loop_next (i + 1) 1 ⟨by omega,?_⟩ (by omega) ?_ ?_⟩
      · have hc':decide (16 < e.ns.length)=false:=by simp at hc; simp; omega
        rw [<-ho,hc',Bool.false_or]
      · simp [go_sem]
      · simp [go_sem,scC]
  · have hg:decide ((i:Int) < (s.es.length:Int))=false:=by simp; omega
    obtain rfl:i=s.es.length:=by omega
    rw [any_end] at ho
    rw [<-ho,Bool.false_or] at hL
    simp (maxSteps:=1000000) -dsimp only [go_sem,hg,scC]
    refine vc_loop (α:=Nat) (fun i=>[(1,.va (.c1 (.pt 0 0))),(4,iS .i64 i)]) (fun _=>[.cells (scC s) 25])
      (fun i=>i<=s.ss.length/\(s.ss.drop i).any (fun e=>decide (16 < e.fs.length))=s.ss.any (fun e=>decide (16 < e.fs.length))) (fun i=>s.ss.length - i) 0 1 ⟨Nat.zero_le _,rfl⟩ ?_ ?_ ?_
    · simp [go_sem]
    · simp [go_sem,scC]
    clear hi ho hge hg
    rintro i ⟨hi,ho⟩
    rcases Nat.lt_or_ge i s.ss.length with hlt | hge
    · have hg:decide ((i:Int) < (s.ss.length:Int))=true:=by simp; omega
      obtain ⟨e,hx⟩:∃ e,s.ss[i]? = some e:=⟨_,List.getElem?_eq_getElem hlt⟩
      have q2:=row_rg' (row:=stC) hx
      rw [any_step hx] at ho
      simp (maxSteps:=1000000) -dsimp only [go_sem,hg,↓q2,stC,scC]
      and_intros
      all_goals first
        | omega
        | skip
      · intro hc
        have hc':decide (16 < e.fs.length)=true:=by simp at hc; simp; omega
        have:largeF s=true:=by simp only [hL,<-ho,hc',Bool.true_or]
        rw [this] at hK
        exact .sel [] (by simp) (by simp) rfl (.done (by simpa [go_sem] using hK))
      · intro hc
        refine ⟨by omega,loop_next (i + 1) 1 ⟨by omega,?_⟩ (by omega) ?_ ?_⟩
        · have hc':decide (16 < e.fs.length)=false:=by simp at hc; simp; omega
          rw [<-ho,hc',Bool.false_or]
        · simp [go_sem]
        · simp [go_sem,scC]
    · have hg:decide ((i:Int) < (s.ss.length:Int))=false:=by simp; omega
      obtain rfl:i=s.ss.length:=by omega
      rw [any_end] at ho
      simp (maxSteps:=1000000) -dsimp only [go_sem,hg,scC]
      rw [hL,<-ho] at hK
      exact .sel [] (by simp) (by simp) rfl (.done (by simpa [go_sem] using hK))
end Go.Proofs.YtbcnggkldclemaaGreat
namespace Go.Proofs.YtbcnggkldclemaaGreat
open Go.W
def siPre (len:Sc->Nat):List S->Prop:=fun av=>match av with
  | [.va (.gs r),.va (.c1 (.vl (.int .i64 i)))]=>isScF r/\0<=i/\i < (len (C.sc r):Int)
  | _=>False
theorem siPre_open {len:Sc->Nat} {av:List S} (h:siPre len av):∃ (s:Sc) (i:Nat),av=[.va (.gs (scC s)),iS .i64 i]/\s.fit/\i < len s:=by
  unfold siPre at h
  split at h
  · obtain ⟨⟨a,rfl,ha⟩,h1,h2⟩:=h
    rw [sc_dec] at h2
    rename_i i
    exact ⟨a,i.toNat,by rw [Int.toNat_of_nonneg h1],ha,by omega⟩
  · exact h.elim
noncomputable def siVal (f:Sc->Nat->Int):List S->A:=fun av=>match av with
  | [.va (.gs r),.va (.c1 (.vl (.int .i64 i)))]=>iA .i64 (f (C.sc r) i.toNat)
  | _=>.gs []
noncomputable def siFn (len:Sc->Nat) (f:Sc->Nat->Int):Fun:=⟨siPre len,siVal f,fun av h=>by obtain ⟨a,b,rfl,_⟩:=siPre_open h; trivial⟩
theorem siFn_len {len:Sc->Nat} {f:Sc->Nat->Int}:∀ av H K,(siFn len f).sp av H K->av.length=2:=fun av H K h=>by obtain ⟨a,b,rfl,_⟩:=siPre_open h.1.1; rfl
attribute [go_sem] siFn siPre siVal
set_option maxRecDepth 100000 in
set_option maxHeartbeats 4000000 in
theorem mREnumE:Meets Tryz.prog 42 (siFn (fun s=>s.es.length) enAt).sp:=by
  refine meets_fn Tryz.func42 ok42 2 (by rw [Tryz.ntmps42]; decide) (meetsAll_f mRIsType (meetsAll_f mRIsName (meetsAll_f mRIn (meetsAll_nil _)))) siFn_len ?_
  rintro av H K ⟨⟨h,rfl⟩,hK⟩
  obtain ⟨s,i,rfl,hs,hi⟩:=siPre_open (len:=fun s=>s.es.length) h
  have hK:K (iS .i64 (enAt s i)) []:=by
    have:(siFn (fun s=>s.es.length) enAt).val [.va (.gs (scC s)),iS .i64 i]=iA .i64 (enAt s i):=by simp -dsimp only [go_sem,Int.toNat_natCast]
    rw [this] at hK; exact hK
  clear h
  have hle:=hs.ok.le
  have fin:∀ (x:Int) (R:Hp),enAt s i=x->W.Fin 0 K (iS .i64 x) R:=fun x R h=>by
    rw [h] at hK
    exact .sel [] (by simp) (by simp) rfl (.done (by simpa [go_sem] using hK))
  obtain ⟨e,hx⟩:∃ e,s.es[i]? = some e:=⟨_,List.getElem?_eq_getElem hi⟩
  have q1:=row_rg' (row:=enC) hx
  obtain ⟨_,hln,hlv,_,_⟩:=hs.ok.es e (List.mem_of_getElem? hx)
  have hA:enAt s i=bif !(tnB (bl e.nm)) then 5 else bif hasE (s.es.take i) e.nm then 7 else ceF e:=by unfold enAt; rw [hx]
  simp (maxSteps:=1000000) -dsimp only [go_sem,scC,pc42,rs42,↓q1,enC]
  refine ⟨by omega,fun h1=>fin 5 _ (by rw [hA,h1]; rfl),fun h1=>?_⟩
  rw [h1] at hA
  simp only [Bool.cond_false] at hA
  refine vc_loop (α:=Nat) (fun j=>[(1,iS .i64 i),(2,.va (.c1 (.pt 0 0))),(5,.va (.c1 (.pt 1 0))),(6,iS .i64 j)]) (fun _=>[.cells (scC s) 25,.cells (enC e) 60])
    (fun j=>j<=i/\hasE ((s.es.take i).drop j) e.nm=hasE (s.es.take i) e.nm) (fun j=>i - j) 0 2 ⟨Nat.zero_le _,rfl⟩ ?_ ?_ ?_
  · simp [go_sem]
  · simp [go_sem,scC,enC]
  have hti:(s.es.take i).length=i:=by rw [List.length_take]; omega
  rintro j ⟨hj,ho⟩
  rcases Nat.lt_or_ge j i with hlt | hge
  · have hg:decide ((j:Int) < (i:Int))=true:=by simp; omega
    obtain ⟨d,hd⟩:∃ d,s.es[j]? = some d:=⟨_,List.getElem?_eq_getElem (by omega)⟩
    have hd':(s.es.take i)[j]? = some d:=by rw [List.getElem?_take,if_pos hlt]; exact hd
    have q2:=row_rg' (row:=enC) hd
    rw [hasE,any_step hd'] at ho
    simp (maxSteps:=1000000) -dsimp only [go_sem,hg,↓q2,enC,scC,bl_beq]
    refine ⟨by omega,fun hc=>?_,fun hc=>?_⟩
    · rw [hc,Bool.true_or] at ho
      exact fin 7 _ (by rw [hA,<-ho]; rfl)
    · rw [hc,Bool.false_or] at ho
      refine ⟨by omega,loop_next (j + 1) 2 ⟨by omega,ho⟩ (by omega) ?_ ?_⟩
      · simp [go_sem]
      · simp [go_sem,scC,enC]
  · obtain rfl:j=i:=by omega
    have hg:decide ((j:Int) < (j:Int))=false:=by simp
    rw [List.drop_eq_nil_of_le (by omega)] at ho
    rw [<-ho] at hA
    replace hA:enAt s j=ceF e:=hA
    clear ho hti
    simp (maxSteps:=1000000) -dsimp only [go_sem,hg,enC,scC]
    refine ⟨fun h1=>?_,fun h1=>?_⟩
    · refine fin 2 _ ?_
      rw [hA]
      unfold ceF
      have:(decide (e.ns.length=0) || decide (e.ns.length ≠ e.vs.length))=true:=by
        simp only [Bool.or_eq_true,beq_iff_eq,bne_iff_ne,decide_eq_true_eq] at h1 ⊢; omega
      rw [this]; rfl
    simp only [Bool.or_eq_false_iff,beq_eq_false_iff_ne,bne_eq_false_iff_eq,ne_eq] at h1
    have hl:e.ns.length=e.vs.length:=by omega
    have hF:enAt s j=fE (ceAt e) (e.ns.length - 0) 0:=by
      rw [hA]; unfold ceF; rw [decide_eq_false (by omega),decide_eq_false (by omega)]; rfl
    clear hA hg hge hj
    refine vc_loop (α:=Nat) (fun k=>[(5,.va (.c1 (.pt 1 0))),(7,iS .i64 k)]) (fun _=>[.cells (scC s) 25,.cells (enC e) 60])
      (fun k=>k<=e.ns.length/\fE (ceAt e) (e.ns.length - k) k=fE (ceAt e) (e.ns.length - 0) 0) (fun k=>e.ns.length - k) 0 2 ⟨Nat.zero_le _,rfl⟩ ?_ ?_ ?_
    · simp [go_sem]
    · simp [go_sem,scC,enC]
    rintro k ⟨hk,ho⟩
    rcases Nat.lt_or_ge k e.ns.length with hlt | hge
    · have hg:decide ((k:Int) < (e.ns.length:Int))=true:=by simp; omega
      obtain ⟨nm,hx2⟩:∃ nm,e.ns[k]? = some nm:=⟨_,List.getElem?_eq_getElem hlt⟩
      obtain ⟨n,hy⟩:∃ nm,e.vs[k]? = some nm:=⟨_,List.getElem?_eq_getElem (by omega)⟩
      have q2:=row_rg' (row:=stR) hx2
      have q3:=row_rg' (row:=inR) hy
      have hbs:isBs (e.ns.map stR):=isBs_mk hln
      have hk0:(0<=(k:Int))=True:=by simp
      have hk1:((k:Int)<=9223372036854775807)=True:=by simp; omega
      have hA:ceAt e k=bif !(isNm (bl nm)) then (5:Int) else bif inB (e.ns.take k) nm then 7 else bif decide (n < 0) || decide (127 < n) then 4 else
        bif (decide ((k:Int)=0) && decide (n ≠ 0)) || (decide (0 < (k:Int)) && match e.vs[k - 1]? with | some m=>decide (n<=m) | none=>false) then 2 else 0:=by
        unfold ceAt; rw [hx2,hy]; rfl
      have fin':∀ (x:Int) (R:Hp),ceAt e k=x->x ≠ 0->W.Fin 0 K (iS .i64 x) R:=fun x R h1 h2=>fin x R (by
        rw [hF,<-ho,fE_err hlt (by rw [h1]; exact h2),h1])
      have nxt:ceAt e k=0->fE (ceAt e) (e.ns.length - (k + 1)) (k + 1)=fE (ceAt e) (e.ns.length - 0) 0:=fun h1=>by rw [<-ho,fE_ok hlt h1]
      cases hc1:isNm (bl nm) with
      | false=>
        simp (maxSteps:=1000000) -dsimp only [go_sem,hg,↓q2,enC,scC,hc1]
        exact ⟨by omega,fin' 5 _ (by rw [hA,hc1]; rfl) (by decide)⟩
      | true=>
        cases hc2:inB (e.ns.take k) nm with
        | true=>
          simp (maxSteps:=1000000) -dsimp only [go_sem,hg,↓q2,enC,scC,hc1,hc2,hbs,hk0,hk1,Int.toNat_natCast]
          exact ⟨by omega,by omega,fin' 7 _ (by rw [hA,hc1,hc2]; rfl) (by decide)⟩
        | false=>
          cases hc3:decide (n < 0) with
          | true=>
            simp (maxSteps:=1000000) -dsimp only [go_sem,hg,↓q2,↓q3,enC,scC,hc1,hc2,hbs,hk0,hk1,Int.toNat_natCast,hc3]
            exact ⟨by omega,by omega,by omega,fin' 4 _ (by rw [hA,hc1,hc2,hc3]; rfl) (by decide)⟩
          | false=>
          cases hc4:decide (127 < n) with
          | true=>
            simp (maxSteps:=1000000) -dsimp only [go_sem,hg,↓q2,↓q3,enC,scC,hc1,hc2,hbs,hk0,hk1,Int.toNat_natCast,hc3,hc4]
            exact ⟨by omega,by omega,by omega,by omega,fin' 4 _ (by rw [hA,hc1,hc2,hc3,hc4]; rfl) (by decide)⟩
          | false=>
          have hA2:ceAt e k=bif (decide ((k:Int)=0) && decide (n ≠ 0)) || (decide (0 < (k:Int)) && match e.vs[k - 1]? with | some m=>decide (n<=m) | none=>false) then 2 else 0:=by rw [hA,hc1,hc2,hc3,hc4]; rfl
          clear hA
          rcases Nat.eq_zero_or_pos k with h0 | h0
          · have g0:((k:Int) == 0)=true:=by simp; omega
            have g1:decide (0 < (k:Int))=false:=by simp; omega
            have g2:decide ((k:Int)=0)=true:=g0
            cases hn:(n != 0) with
            | true=>
              simp (maxSteps:=1000000) -dsimp only [go_sem,hg,↓q2,↓q3,enC,scC,hc1,hc2,hbs,hk0,hk1,Int.toNat_natCast,hc3,hc4,g0,g1,hn,Bool.and_false]
              and_intros
              all_goals first
                | omega
                | exact fin' 2 _ (by rw [hA2,g1,g2]; simp at hn; simp [hn]) (by decide)
            | false=>
              simp (maxSteps:=1000000) -dsimp only [go_sem,hg,↓q2,↓q3,enC,scC,hc1,hc2,hbs,hk0,hk1,Int.toNat_natCast,hc3,hc4,g0,g1,hn,Bool.and_false]
              and_intros
              all_goals first
                | omega
                | exact loop_next (k + 1) 2 ⟨by omega,nxt (by rw [hA2,g1]; simp at hn; simp [hn])⟩ (by omega) (by simp [go_sem]) (by simp [go_sem,scC,enC])
          · have g0:((k:Int) == 0)=false:=by simp; omega
            have g1:decide (0 < (k:Int))=true:=by simp; omega
            have g2:decide ((k:Int)=0)=false:=g0
            obtain ⟨m,hm⟩:∃ m,e.vs[k - 1]? = some m:=⟨_,List.getElem?_eq_getElem (by omega)⟩
            have q4:((k:Int) - 1).toNat=k - 1:=by omega
            have q5:=row_rg (row:=inR) hm
            cases hn:decide (n<=m) with
            | true=>
              simp (maxSteps:=1000000) -dsimp only [go_sem,hg,↓q2,↓q3,enC,scC,hc1,hc2,hbs,hk0,hk1,Int.toNat_natCast,Option.some.injEq,forall_eq',hc3,hc4,g0,g1,q4,hm,hn,Bool.and_true]
              and_intros
              all_goals first
                | omega
                | exact fin' 2 _ (by rw [hA2,hm,g1]; simp only [hn]; simp) (by decide)
            | false=>
              simp (maxSteps:=1000000) -dsimp only [go_sem,hg,↓q2,↓q3,enC,scC,hc1,hc2,hbs,hk0,hk1,Int.toNat_natCast,Option.some.injEq,forall_eq',hc3,hc4,g0,g1,q4,hm,hn,Bool.and_true]
              and_intros
              all_goals first
                | omega
                | exact loop_next (k + 1) 2 ⟨by omega,nxt (by rw [hA2,hm,g1,g2]; simp only [hn]; rfl)⟩ (by omega) (by simp [go_sem]) (by simp [go_sem,scC,enC])
    · have hg:decide ((k:Int) < (e.ns.length:Int))=false:=by simp; omega
      obtain rfl:k=e.ns.length:=by omega
      rw [fE_end] at ho
      simp (maxSteps:=1000000) -dsimp only [go_sem,hg,enC]
      exact fin 0 _ (by rw [hF,<-ho])
end Go.Proofs.YtbcnggkldclemaaGreat
namespace Go.Proofs.YtbcnggkldclemaaGreat
open Go.W
def rtPre (N:Nat):List S->Prop:=fun av=>match av with
  | [.va (.gs r),.va (.gs q)]=>isScF r/\isTy q/\(C.ty q).h<=N
  | _=>False
theorem rtPre_open {N:Nat} {av:List S} (h:rtPre N av):∃ s t,av=[.va (.gs (scC s)),.va (.gs (tyC t))]/\s.fit/\TyOk t/\t.h<=N:=by
  unfold rtPre at h
  split at h
  · obtain ⟨⟨a,rfl,ha⟩,⟨b,rfl,hb⟩,hh⟩:=h
    rw [ty_dec] at hh
    exact ⟨a,b,rfl,ha,hb,hh⟩
  · exact h.elim
noncomputable def rtVal:List S->A:=fun av=>match av with
  | [.va (.gs r),.va (.gs q)]=>bA (valF (C.sc r).ss (C.sc r).es (C.ty q))
  | _=>.gs []
noncomputable def rtFn (N:Nat):Fun:=⟨rtPre N,rtVal,fun av h=>by obtain ⟨a,b,rfl,_⟩:=rtPre_open h; trivial⟩
theorem rtFn_len {N:Nat}:∀ av H K,(rtFn N).sp av H K->av.length=2:=fun av H K h=>by obtain ⟨a,b,rfl,_⟩:=rtPre_open h.1.1; rfl
attribute [go_sem] rtFn rtPre rtVal
theorem val6 {ss:List St} {es:List En} {s:Int} {n:ByteArray} {e:List Ty}:valF ss es (.mk 6 s n e)=(hasS ss n && s == 0 && (e.length:Int) == 0):=by
  rw [valF]; rfl
theorem val7 {ss:List St} {es:List En} {s:Int} {n:ByteArray} {e:List Ty}:valF ss es (.mk 7 s n e)=(hasE es n && s == 0 && (e.length:Int) == 0):=by
  rw [valF]; rfl
set_option maxRecDepth 100000 in
set_option maxHeartbeats 4000000 in
theorem mRight:∀ N,Meets Tryz.prog 66 (rtFn N).sp
  | 0=>⟨by kernel_rfl,by rintro xs vs E ro w K _ _ _ ⟨⟨h,_⟩,_⟩; obtain ⟨_,a,_,_,_,h⟩:=rtPre_open h; have:=a.h_pos; omega⟩
  | N + 1=>by
    refine meets_fn Tryz.func66 ok66 2 (by rw [Tryz.ntmps66]; decide) (meetsAll_f (mRight N) (meetsAll_f mRPlain (meetsAll_s mRStruct (meetsAll_s mREnum (meetsAll_nil _))))) rtFn_len ?_
    rintro av H K ⟨⟨h,rfl⟩,hK⟩
    obtain ⟨sc,t,rfl,hs,ht,hh⟩:=rtPre_open h
    have hK:K (bS (valF sc.ss sc.es t)) []:=by
      have:(rtFn (N + 1)).val [.va (.gs (scC sc)),.va (.gs (tyC t))]=bA (valF sc.ss sc.es t):=by simp -dsimp only [go_sem]
      rw [this] at hK; exact hK
    clear h
    have fin:∀ (b:Bool) (R:Hp),valF sc.ss sc.es t=b->W.Fin 0 K (bS b) R:=fun b R h=>by
      rw [h] at hK
      exact .sel [] (by simp) (by simp) rfl (.done (by simp -dsimp only [go_sem]; simpa using hK))
    have hit:isTy (tyC t):=isTy_mk ht
    cases t with
    | mk k s n e=>
    have hcd:=ty_dec (.mk k s n e)
    rw [tyC,tysC_map] at hcd hit
    have hcl:(Ty.mk k s n e).e.length=e.length:=rfl
    by_cases k1:(k == 1)=true
    · have hF:=valF.eq_1 sc.ss sc.es k s n e
      rw [k1] at hF
      simp only [Bool.cond_true] at hF
      simp (maxSteps:=1000000) -dsimp only [go_sem,scC,tyC,tysC_map,pc66,rs66,k1,hit,hcd,hcl]
      exact fin _ _ hF
    rw [Bool.not_eq_true] at k1
    by_cases k2:(k == 2)=true
    · have hF:=valF.eq_1 sc.ss sc.es k s n e
      rw [k1,k2] at hF
      simp only [Bool.cond_true,Bool.cond_false] at hF
      simp (maxSteps:=1000000) -dsimp only [go_sem,scC,tyC,tysC_map,pc66,rs66,k1,k2,hit,hcd,hcl]
      exact fin _ _ hF
    rw [Bool.not_eq_true] at k2
    by_cases k3:(k == 3)=true
    · have hF:=valF.eq_1 sc.ss sc.es k s n e
      rw [k1,k2,k3] at hF
      simp only [Bool.cond_true,Bool.cond_false,Bool.and_false,Bool.or_false] at hF
      simp (maxSteps:=1000000) -dsimp only [go_sem,scC,tyC,tysC_map,pc66,rs66,k1,k2,k3,hit,hcd,hcl]
      exact fin _ _ hF
    rw [Bool.not_eq_true] at k3
    by_cases k4:(k == 4)=true
    · have hF:=valF.eq_1 sc.ss sc.es k s n e
      rw [k1,k2,k3,k4] at hF
      simp only [Bool.cond_true,Bool.cond_false] at hF
      simp (maxSteps:=1000000) -dsimp only [go_sem,scC,tyC,tysC_map,pc66,rs66,k1,k2,k3,k4,hit,hcd,hcl]
      exact fin _ _ hF
    rw [Bool.not_eq_true] at k4
    by_cases k5:(k == 5)=true
    · have hF:=valF.eq_1 sc.ss sc.es k s n e
      rw [k1,k2,k3,k4,k5] at hF
      simp only [Bool.cond_true,Bool.cond_false] at hF
      cases hc:(decide (1<=s) && decide (s<=32) && bl n == [] && (e.length:Int) == 1) with
      | false=>
        have hF':valF sc.ss sc.es (.mk k s n e)=false:=by
          rw [hF]
          cases h0:(decide (1<=s) && decide (s<=32) && bl n == []) with
          | false=>rfl
          | true=>
            rw [h0,Bool.true_and] at hc
            match e,hc with
            | [],_=>rfl
            | [u],hc=>simp at hc
            | u :: v :: r,_=>simp [valFs]
        simp (maxSteps:=1000000) -dsimp only [go_sem,scC,tyC,tysC_map,pc66,rs66,k1,k2,k3,k4,k5,hc]
        exact fin _ _ hF'
      | true=>
        obtain ⟨u,rfl⟩:∃ u,e=[u]:=by
          simp only [Bool.and_eq_true,beq_iff_eq] at hc
          exact List.length_eq_one_iff.1 (by omega)
        have h0:(decide (1<=s) && decide (s<=32) && bl n == [])=true:=by
          simp only [Bool.and_eq_true] at hc ⊢; exact hc.1
        have hF':valF sc.ss sc.es (.mk k s n [u])=valF sc.ss sc.es u:=by rw [hF,h0]; simp [valFs]
        have hu2:u.h<=N:=by rw [Ty.h,Ty.hs,Ty.hs] at hh; omega
        have hu:isTy (tyC u):=isTy_mk (ht.e u (by simp [Ty.e]))
        have hsf:=isScF_mk hs
        rw [scC] at hsf
        have hsd:=sc_dec sc
        rw [scC] at hsd
        have hc':(decide (1<=s) && decide (s<=32) && bl n == [] && ((1:Nat):Int) == 1)=true:=hc
        simp (maxSteps:=1000000) -dsimp only [go_sem,scC,tyC,tysC_map,pc66,rs66,k1,k2,k3,k4,k5,hc']
        refine ⟨⟨by omega,fun r hr=>by subst hr; exact tyC_len u⟩,fun r hr=>?_⟩
        subst hr
        simp (maxSteps:=1000000) -dsimp only [go_sem,hsf,hsd,hu,tyC_len]
        exact ⟨hu2,fin _ _ hF'⟩
    rw [Bool.not_eq_true] at k5
    by_cases k6:(k == 6)=true
    · obtain rfl:k=6:=by simpa using k6
      have hF:=val6 (ss:=sc.ss) (es:=sc.es) (s:=s) (n:=n) (e:=e)
      simp (maxSteps:=1000000) -dsimp only [go_sem,scC,tyC,tysC_map,pc66,rs66,k1,k2,k3,k4,k5,k6]
      refine stp_use hs ?_
      cases hc:hasS sc.ss n with
      | false=>
        rw [hc] at hF
        simp (maxSteps:=1000000) -dsimp only [go_sem,stC,hit,hcd,hcl]
        exact fin _ _ hF
      | true=>
        rw [hc] at hF
        simp (maxSteps:=1000000) -dsimp only [go_sem,stC,hit,hcd,hcl]
        exact fin _ _ hF
    rw [Bool.not_eq_true] at k6
    by_cases k7:(k == 7)=true
    · obtain rfl:k=7:=by simpa using k7
      have hF:=val7 (ss:=sc.ss) (es:=sc.es) (s:=s) (n:=n) (e:=e)
      simp (maxSteps:=1000000) -dsimp only [go_sem,scC,tyC,tysC_map,pc66,rs66,k1,k2,k3,k4,k5,k6,k7]
      refine enp_use hs ?_
      cases hc:hasE sc.es n with
      | false=>
        rw [hc] at hF
        simp (maxSteps:=1000000) -dsimp only [go_sem,enC,hit,hcd,hcl]
        exact fin _ _ hF
      | true=>
        rw [hc] at hF
        simp (maxSteps:=1000000) -dsimp only [go_sem,enC,hit,hcd,hcl]
        exact fin _ _ hF
    rw [Bool.not_eq_true] at k7
    have hF:=valF.eq_1 sc.ss sc.es k s n e
    rw [k1,k2,k3,k4,k5,k6,k7] at hF
    simp only [Bool.cond_false] at hF
    simp (maxSteps:=1000000) -dsimp only [go_sem,scC,tyC,tysC_map,pc66,rs66,k1,k2,k3,k4,k5,k6,k7]
    exact fin _ _ hF
end Go.Proofs.YtbcnggkldclemaaGreat
namespace Go.Proofs.YtbcnggkldclemaaGreat
open Go.W
def r0Pre:List S->Prop:=fun av=>match av with
  | [.va (.gs r),.va (.gs q)]=>isScF r/\isTy q
  | _=>False
theorem r0Pre_open {av:List S} (h:r0Pre av):∃ s t,av=[.va (.gs (scC s)),.va (.gs (tyC t))]/\s.fit/\TyOk t:=by
  unfold r0Pre at h
  split at h
  · obtain ⟨⟨a,rfl,ha⟩,⟨b,rfl,hb⟩⟩:=h
    exact ⟨a,b,rfl,ha,hb⟩
  · exact h.elim
noncomputable def r0Fn:Fun:=⟨r0Pre,rtVal,fun av h=>by obtain ⟨a,b,rfl,_⟩:=r0Pre_open h; trivial⟩
attribute [go_sem] r0Fn r0Pre
theorem mRight0:Meets Tryz.prog 66 r0Fn.sp:=meets_all 0 mRight fun av H K ⟨⟨h,e⟩,hK⟩=>by
  obtain ⟨a,b,rfl,ha,hb⟩:=r0Pre_open h
  exact ⟨b.h,⟨⟨⟨isScF_mk ha,isTy_mk hb,by rw [ty_dec]; exact Nat.le_refl _⟩,e⟩,hK⟩⟩
set_option maxRecDepth 100000 in
set_option maxHeartbeats 4000000 in
theorem mRStructE:Meets Tryz.prog 43 (siFn (fun s=>s.ss.length) stAt).sp:=by
  refine meets_fn Tryz.func43 ok43 2 (by rw [Tryz.ntmps43]; decide) (meetsAll_f mRIsType (meetsAll_s mREnum (meetsAll_f mRIsName (meetsAll_f mRight0 (meetsAll_nil _))))) siFn_len ?_
  rintro av H K ⟨⟨h,rfl⟩,hK⟩
  obtain ⟨s,i,rfl,hs,hi⟩:=siPre_open (len:=fun s=>s.ss.length) h
  have hK:K (iS .i64 (stAt s i)) []:=by
    have:(siFn (fun s=>s.ss.length) stAt).val [.va (.gs (scC s)),iS .i64 i]=iA .i64 (stAt s i):=by simp -dsimp only [go_sem,Int.toNat_natCast]
    rw [this] at hK; exact hK
  clear h
  have hls:=hs.ok.ls
  have fin:∀ (x:Int) (R:Hp),stAt s i=x->W.Fin 0 K (iS .i64 x) R:=fun x R h=>by
    rw [h] at hK
    exact .sel [] (by simp) (by simp) rfl (.done (by simpa [go_sem] using hK))
  obtain ⟨t,hx⟩:∃ e,s.ss[i]? = some e:=⟨_,List.getElem?_eq_getElem hi⟩
  have q1:=row_rg' (row:=stC) hx
  obtain ⟨_,hlf,hfs⟩:=hs.ok.ss t (List.mem_of_getElem? hx)
  have hA:stAt s i=bif cnF s i t.nm != 0 then cnF s i t.nm else cfF s.ss s.es t:=by unfold stAt; rw [hx]
  have hsf:=isScF_mk hs
  rw [scC] at hsf
  have hsd:=sc_dec s
  rw [scC] at hsd
  simp (maxSteps:=1000000) -dsimp only [go_sem,scC,pc43,rs43,↓q1,stC]
  refine ⟨by omega,fun h1=>fin 5 _ (by rw [hA]; unfold cnF; rw [h1]; rfl),fun h1=>?_⟩
  refine enp_use hs ?_
  simp (maxSteps:=1000000) -dsimp only [go_sem,enC]
  refine ⟨fun h2=>fin 7 _ (by rw [hA]; unfold cnF; rw [h1,h2]; rfl),fun h2=>?_⟩
  have hC:cnF s i t.nm=bif hasS (s.ss.take i) t.nm then 7 else 0:=by unfold cnF; rw [h1,h2]; rfl
  generalize ((fEn s.es t.nm).getD default)=dflt
  refine vc_loop (α:=Nat) (fun j=>[(1,iS .i64 i),(2,.va (.c1 (.pt 0 0))),(5,.va (.c1 (.pt 1 0))),(8,iS .i64 j)]) (fun _=>[.cells (scC s) 25,.cells (stC t) 45])
    (fun j=>j<=i/\hasS ((s.ss.take i).drop j) t.nm=hasS (s.ss.take i) t.nm) (fun j=>i - j) 0 2 ⟨Nat.zero_le _,rfl⟩ ?_ ?_ ?_
  · simp [go_sem]
  · simp [go_sem,scC,stC]
  have hti:(s.ss.take i).length=i:=by rw [List.length_take]; omega
  rintro j ⟨hj,ho⟩
  rcases Nat.lt_or_ge j i with hlt | hge
  · have hg:decide ((j:Int) < (i:Int))=true:=by simp; omega
    obtain ⟨d,hd⟩:∃ d,s.ss[j]? = some d:=⟨_,List.getElem?_eq_getElem (by omega)⟩
    have hd':(s.ss.take i)[j]? = some d:=by rw [List.getElem?_take,if_pos hlt]; exact hd
    have q2:=row_rg' (row:=stC) hd
    rw [hasS,any_step hd'] at ho
    simp (maxSteps:=1000000) -dsimp only [go_sem,hg,↓q2,stC,scC,bl_beq]
    refine ⟨by omega,fun hc=>?_,fun hc=>?_⟩
    · rw [hc,Bool.true_or] at ho
      exact fin 7 _ (by rw [hA,hC,<-ho]; rfl)
    · rw [hc,Bool.false_or] at ho
      refine ⟨by omega,loop_next (j + 1) 2 ⟨by omega,ho⟩ (by omega) ?_ ?_⟩
      · simp [go_sem]
      · simp [go_sem,scC,stC]
  · obtain rfl:j=i:=by omega
    have hg:decide ((j:Int) < (j:Int))=false:=by simp
    rw [List.drop_eq_nil_of_le (by omega)] at ho
    have hF:stAt s j=cfF s.ss s.es t:=by rw [hA,hC,<-ho]; rfl
    clear ho hti hA hC q1 hj hge
    simp (maxSteps:=1000000) -dsimp only [go_sem,hg,stC,scC]
    clear hg
    refine vc_loop (α:=Nat) (fun k=>[(2,.va (.c1 (.pt 0 0))),(5,.va (.c1 (.pt 1 0))),(9,iS .i64 k)]) (fun _=>[.cells (scC s) 25,.cells (stC t) 45])
      (fun k=>k<=t.fs.length/\fE (cfAt s.ss s.es t) (t.fs.length - k) k=cfF s.ss s.es t) (fun k=>t.fs.length - k) 0 2 ⟨Nat.zero_le _,rfl⟩ ?_ ?_ ?_
    · simp [go_sem]
    · simp [go_sem,scC,stC]
    rintro k ⟨hk,ho⟩
    rcases Nat.lt_or_ge k t.fs.length with hlt | hge
    · have hg:decide ((k:Int) < (t.fs.length:Int))=true:=by simp; omega
      obtain ⟨f,hx2⟩:∃ nm,t.fs[k]? = some nm:=⟨_,List.getElem?_eq_getElem hlt⟩
      have q2:=row_rg' (row:=flC) hx2
      have hf:f.ok:=hfs f (List.mem_of_getElem? hx2)
      have hit:isTy (tyC f.ty):=isTy_mk hf.ty
      have hA:cfAt s.ss s.es t k=bif decide (f.num < 1) || decide (127 < f.num) then (4:Int) else bif decide (0 < (k:Int)) && (match t.fs[k - 1]? with | some g=>decide (f.num<=g.num) | none=>false) then 2 else
        bif !(isNm (bl f.nm)) then 5 else bif (t.fs.take k).any (fun g=>decide (g.nm=f.nm)) then 7 else bif !(valF s.ss s.es f.ty) then 13 else 0:=by
        unfold cfAt; rw [hx2]; rfl
      have fin':∀ (x:Int) (R:Hp),cfAt s.ss s.es t k=x->x ≠ 0->W.Fin 0 K (iS .i64 x) R:=fun x R h1 h2=>fin x R (by
        rw [hF,<-ho,fE_err hlt (by rw [h1]; exact h2),h1])
      have nxt:cfAt s.ss s.es t k=0->fE (cfAt s.ss s.es t) (t.fs.length - (k + 1)) (k + 1)=cfF s.ss s.es t:=fun h1=>by rw [<-ho,fE_ok hlt h1]
      cases c0:decide (f.num < 1) with
      | true=>
        rw [c0] at hA
        simp (maxSteps:=1000000) -dsimp only [go_sem,hg,↓q2,flC,stC,scC,c0]
        exact ⟨by omega,fin' 4 _ hA (by decide)⟩
      | false=>
      cases c1:decide (127 < f.num) with
      | true=>
        rw [c0,c1] at hA
        simp (maxSteps:=1000000) -dsimp only [go_sem,hg,↓q2,flC,stC,scC,c0,c1]
        exact ⟨by omega,fin' 4 _ hA (by decide)⟩
      | false=>
      rw [c0,c1] at hA
      simp only [Bool.or_self,Bool.cond_false] at hA
      rcases Nat.eq_zero_or_pos k with h0 | h0
      · have g1:decide (0 < (k:Int))=false:=by simp; omega
        rw [g1] at hA
        simp only [Bool.false_and,Bool.cond_false] at hA
        cases c3:isNm (bl f.nm) with
        | false=>
          rw [c3] at hA
          simp (maxSteps:=1000000) -dsimp only [go_sem,hg,↓q2,flC,stC,scC,c0,c1,c3,g1]
          exact ⟨by omega,fin' 5 _ hA (by decide)⟩
        | true=>
          rw [c3] at hA
          simp only [Bool.not_true,Bool.cond_false] at hA
          simp (maxSteps:=1000000) -dsimp only [go_sem,hg,↓q2,flC,stC,scC,c0,c1,c3,g1]
          refine ⟨by omega,?_⟩
          refine vc_loop (α:=Nat) (fun j=>[(2,.va (.c1 (.pt 0 0))),(5,.va (.c1 (.pt 1 0))),(9,iS .i64 k),(10,.va (.c1 (.pt 2 0))),(11,iS .i64 j)])
            (fun _=>[.cells (scC s) 25,.cells (stC t) 45,.cells (flC f) 42])
            (fun j=>j<=k/\((t.fs.take k).drop j).any (fun g=>decide (g.nm=f.nm))=(t.fs.take k).any (fun g=>decide (g.nm=f.nm))) (fun j=>k - j) 0 3 ⟨Nat.zero_le _,rfl⟩ ?_ ?_ ?_
          · simp [go_sem]
          · simp [go_sem,scC,stC,flC]
          have htk:(t.fs.take k).length=k:=by rw [List.length_take]; omega
          rintro j ⟨hj,ho2⟩
          rcases Nat.lt_or_ge j k with hjt | hjg
          · have hgj:decide ((j:Int) < (k:Int))=true:=by simp; omega
            obtain ⟨d,hd⟩:∃ e,t.fs[j]? = some e:=⟨_,List.getElem?_eq_getElem (by omega)⟩
            have hd':(t.fs.take k)[j]? = some d:=by rw [List.getElem?_take,if_pos hjt]; exact hd
            have q5:=row_rg' (row:=flC) hd
            rw [any_step hd'] at ho2
            simp (maxSteps:=1000000) -dsimp only [go_sem,hgj,↓q5,flC,stC,scC,bl_beq]
            refine ⟨by omega,fun hc=>?_,fun hc=>?_⟩
            · rw [hc,Bool.true_or] at ho2
              rw [<-ho2] at hA
              exact fin' 7 _ hA (by decide)
            · rw [hc,Bool.false_or] at ho2
              refine ⟨by omega,loop_next (j + 1) 3 ⟨by omega,ho2⟩ (by omega) ?_ ?_⟩
              · simp [go_sem]
              · simp [go_sem,scC,stC,flC]
          · obtain rfl:j=k:=by omega
            have hgj:decide ((j:Int) < (j:Int))=false:=by simp
            rw [List.drop_eq_nil_of_le (by omega)] at ho2
            rw [<-ho2] at hA
            simp only [List.any_nil,Bool.cond_false] at hA
            simp (maxSteps:=1000000) -dsimp only [go_sem,hgj,flC,stC,scC,fl_ty,hit,hsf,hsd]
            cases c5:valF s.ss s.es f.ty with
            | true=>
              rw [c5] at hA
              simp (maxSteps:=1000000) -dsimp only [go_sem]
              refine ⟨by omega,loop_next (j + 1) 2 ⟨by omega,nxt hA⟩ (by omega) ?_ ?_⟩
              · simp [go_sem]
              · simp [go_sem,scC,stC]
            | false=>
              rw [c5] at hA
              simp (maxSteps:=1000000) -dsimp only [go_sem]
              exact fin' 13 _ hA (by decide)
      · have g1:decide (0 < (k:Int))=true:=by simp; omega
        obtain ⟨g,hy⟩:∃ m,t.fs[k - 1]? = some m:=⟨_,List.getElem?_eq_getElem (by omega)⟩
        have q4:((k:Int) - 1).toNat=k - 1:=by omega
        have q6:=row_rg (row:=flC) hy
        rw [g1,hy,Bool.true_and] at hA
        simp only at hA
        cases c2:decide (f.num<=g.num) with
        | true=>
          rw [c2] at hA
          simp (maxSteps:=1000000) -dsimp only [go_sem,hg,↓q2,flC,stC,scC,c0,c1,g1,q4,c2,hy,Option.some.injEq,forall_eq']
          exact ⟨by omega,by omega,by omega,fin' 2 _ hA (by decide)⟩
        | false=>
          rw [c2] at hA
          simp only [Bool.cond_false] at hA
          cases c3:isNm (bl f.nm) with
          | false=>
            rw [c3] at hA
            simp (maxSteps:=1000000) -dsimp only [go_sem,hg,↓q2,flC,stC,scC,c0,c1,c3,g1,q4,c2,hy,Option.some.injEq,forall_eq']
            exact ⟨by omega,by omega,by omega,fin' 5 _ hA (by decide)⟩
          | true=>
            rw [c3] at hA
            simp only [Bool.not_true,Bool.cond_false] at hA
            simp (maxSteps:=1000000) -dsimp only [go_sem,hg,↓q2,flC,stC,scC,c0,c1,c3,g1,q4,c2,hy,Option.some.injEq,forall_eq']
            refine ⟨by omega,by omega,by omega,?_⟩
            refine vc_loop (α:=Nat) (fun j=>[(2,.va (.c1 (.pt 0 0))),(5,.va (.c1 (.pt 1 0))),(9,iS .i64 k),(10,.va (.c1 (.pt 2 0))),(11,iS .i64 j)])
              (fun _=>[.cells (scC s) 25,.cells (stC t) 45,.cells (flC f) 42])
              (fun j=>j<=k/\((t.fs.take k).drop j).any (fun g=>decide (g.nm=f.nm))=(t.fs.take k).any (fun g=>decide (g.nm=f.nm))) (fun j=>k - j) 0 3 ⟨Nat.zero_le _,rfl⟩ ?_ ?_ ?_
            · simp [go_sem]
            · simp [go_sem,scC,stC,flC]
            have htk:(t.fs.take k).length=k:=by rw [List.length_take]; omega
            rintro j ⟨hj,ho2⟩
            rcases Nat.lt_or_ge j k with hjt | hjg
            · have hgj:decide ((j:Int) < (k:Int))=true:=by simp; omega
              obtain ⟨d,hd⟩:∃ e,t.fs[j]? = some e:=⟨_,List.getElem?_eq_getElem (by omega)⟩
              have hd':(t.fs.take k)[j]? = some d:=by rw [List.getElem?_take,if_pos hjt]; exact hd
              have q5:=row_rg' (row:=flC) hd
              rw [any_step hd'] at ho2
              simp (maxSteps:=1000000) -dsimp only [go_sem,hgj,↓q5,flC,stC,scC,bl_beq]
              refine ⟨by omega,fun hc=>?_,fun hc=>?_⟩
              · rw [hc,Bool.true_or] at ho2
                rw [<-ho2] at hA
                exact fin' 7 _ hA (by decide)
              · rw [hc,Bool.false_or] at ho2
                refine ⟨by omega,loop_next (j + 1) 3 ⟨by omega,ho2⟩ (by omega) ?_ ?_⟩
                · simp [go_sem]
                · simp [go_sem,scC,stC,flC]
            · obtain rfl:j=k:=by omega
              have hgj:decide ((j:Int) < (j:Int))=false:=by simp
              rw [List.drop_eq_nil_of_le (by omega)] at ho2
              rw [<-ho2] at hA
              simp only [List.any_nil,Bool.cond_false] at hA
              simp (maxSteps:=1000000) -dsimp only [go_sem,hgj,flC,stC,scC,fl_ty,hit,hsf,hsd]
              cases c5:valF s.ss s.es f.ty with
              | true=>
                rw [c5] at hA
                simp (maxSteps:=1000000) -dsimp only [go_sem]
                refine ⟨by omega,loop_next (j + 1) 2 ⟨by omega,nxt hA⟩ (by omega) ?_ ?_⟩
                · simp [go_sem]
                · simp [go_sem,scC,stC]
              | false=>
                rw [c5] at hA
                simp (maxSteps:=1000000) -dsimp only [go_sem]
                exact fin' 13 _ hA (by decide)
    · have hg:decide ((k:Int) < (t.fs.length:Int))=false:=by simp; omega
      obtain rfl:k=t.fs.length:=by omega
      rw [fE_end] at ho
      simp (maxSteps:=1000000) -dsimp only [go_sem,hg,stC]
      exact fin 0 _ (by rw [hF,<-ho])
end Go.Proofs.YtbcnggkldclemaaGreat
namespace Go.Proofs.YtbcnggkldclemaaGreat
open Go.W
mutual
def dirF:Ty->List ByteArray
  | .mk k _ n e=>bif k == 6 || k == 7 then [n] else dirFs e
def dirFs:List Ty->List ByteArray
  | []=>[]
  | t :: r=>dirF t ++ dirFs r
end
theorem dirFs_app:∀ (a b:List Ty),dirFs (a ++ b)=dirFs a ++ dirFs b
  | [],b=>rfl
  | t :: r,b=>by rw [List.cons_append,dirFs,dirFs,dirFs_app r b,List.append_assoc]
theorem dirFs_mem:∀ {l:List Ty} {t:Ty},t ∈ l->(dirF t).length<=(dirFs l).length
  | x :: l,t,h=>by
    rw [dirFs,List.length_append]
    rcases List.mem_cons.1 h with rfl | h
    · omega
    · have:=dirFs_mem h; omega
def diSp (N:Nat):W.Spec:=fun av H K=>∃ t:Ty,av=[.va (.gs (tyC t))]/\H=[]/\TyOk t/\t.h<=N/\(dirF t).length<=1000000000/\K (.va (.c1 (.fz ((dirF t).map stR)))) []
theorem di_use {N:Nat} {t:Ty} {K:S->Hp->Prop} (h1:TyOk t) (h2:t.h<=N) (h3:(dirF t).length<=1000000000) (hK:K (.va (.c1 (.fz ((dirF t).map stR)))) []):diSp N [.va (.gs (tyC t))] [] K:=⟨t,rfl,rfl,h1,h2,h3,hK⟩
theorem stR_ss (l:List ByteArray):∀ r ∈ l.map stR,∀ c ∈ r,c.shut=true/\c.one:=fun r hr c hc=>by
  obtain ⟨x,_,rfl⟩:=List.mem_map.1 hr
  simp at hc; subst hc; simp [go_sem,C.shut]
set_option maxRecDepth 100000 in
theorem mDirect:∀ N,Meets Tryz.prog 67 (diSp N)
  | 0=>⟨by kernel_rfl,by rintro xs vs E ro w K _ _ _ ⟨t,_,_,_,h,_⟩; have:=t.h_pos; omega⟩
  | N + 1=>by
    refine meets_fn Tryz.func67 ok67 1 (by rw [Tryz.ntmps67]; decide) (meetsAll_s (mDirect N) (meetsAll_nil _)) (fun av H K h=>by obtain ⟨_,rfl,_⟩:=h; rfl) ?_
    rintro av H K ⟨⟨k,s,n,e⟩,rfl,rfl,h1,h2,h3,hK⟩
    have hle:=h1.len
    have hoe:=h1.e
    simp only [Ty.e] at hle hoe
    have hD:=dirF.eq_1 k s n e
    simp (maxSteps:=1000000) -dsimp only [go_sem,tyC,tysC_map,pc67,rs67]
    refine ⟨fun c1=>?_,fun c1=>?_⟩
    · rw [c1,Bool.cond_true] at hD
      rw [hD] at hK
      refine .pub 1 _ _ _ rfl (.sel [] (by simp) (by simp [pubH]) rfl (.done ?_))
      simp -dsimp only [go_sem,pubH]
      simpa using hK
    · rw [c1,Bool.cond_false] at hD
      rw [hD] at hK h3
      refine vc_loop_gh (α:=Nat) (fun i=>[(1,.va (.c1 (.pt 0 0))),(3,.va (.c1 (.sl 1 (dirFs (e.take i)).length))),(4,iS .i64 i)]) (fun i=>[.cells (tyC (.mk k s n e)) 40,.row ((dirFs (e.take i)).map stR) 9 1])
        (fun i=>i<=e.length) (fun i=>e.length - i) (.nil 3 9 1 rfl (gh_at 0 2 (Nat.zero_le _) ?_ ?_)) ?_
      · simp -dsimp only [go_sem]<;>simp [dirFs]
      · simp -dsimp only [go_sem,tyC,tysC_map]<;>simp [dirFs]
      intro i hi
      rcases Nat.lt_or_ge i e.length with hlt | hge
      · have hg:decide ((i:Int) < (e.length:Int))=true:=by simp; omega
        obtain ⟨u,hx⟩:∃ t,e[i]? = some t:=⟨_,List.getElem?_eq_getElem hlt⟩
        have q1:=row_rg' (row:=tyC) hx
        have hu:=List.mem_of_getElem? hx
        have htn:dirFs (e.take (i + 1))=dirFs (e.take i) ++ dirF u:=by rw [take_next hx,dirFs_app]; simp [dirFs]
        have hb:(dirFs (e.take (i + 1))).length<=1000000000:=by
          have:=dirFs_app (e.take (i + 1)) (e.drop (i + 1))
          rw [List.take_append_drop] at this
          rw [this,List.length_append] at h3; omega
        rw [htn,List.length_append] at hb
        simp (maxSteps:=1000000) -dsimp only [go_sem,hg,↓q1,tyC_len,tyC,tysC_map]
        refine ⟨by omega,di_use (hoe u hu) ?_ ?_ ?_⟩
        · have:=Ty.hs_mem hu; rw [Ty.h] at h2; omega
        · have:=dirFs_mem hu; omega
        simp (maxSteps:=1000000) -dsimp only [go_sem,all_rows stR_len]
        refine ⟨stR_ss _,by omega,by omega,loop_next (i + 1) 2 (by omega) (by omega) ?_ ?_⟩
        · simp -dsimp only [go_sem,htn]<;>simp
        · simp -dsimp only [go_sem,tyC,tysC_map,htn]<;>simp
      · have hg:decide ((i:Int) < (e.length:Int))=false:=by simp; omega
        obtain rfl:i=e.length:=by omega
        rw [List.take_length]
        simp (maxSteps:=1000000) -dsimp only [go_sem,hg,tyC,tysC_map]
        rw [<-List.length_map (f:=stR)]
        refine .pub 1 _ _ _ rfl (.sel [] (by simp) (by simp [pubH]) rfl (.done ?_))
        simp -dsimp only [go_sem,pubH]
        simpa using hK
def diSp0:W.Spec:=fun av H K=>∃ t:Ty,av=[.va (.gs (tyC t))]/\H=[]/\TyOk t/\(dirF t).length<=1000000000/\K (.va (.c1 (.fz ((dirF t).map stR)))) []
theorem di_use0 {t:Ty} {K:S->Hp->Prop} (h1:TyOk t) (h3:(dirF t).length<=1000000000) (hK:K (.va (.c1 (.fz ((dirF t).map stR)))) []):diSp0 [.va (.gs (tyC t))] [] K:=⟨t,rfl,rfl,h1,h3,hK⟩
theorem mDirect0:Meets Tryz.prog 67 diSp0:=meets_all 0 mDirect fun _av _H _K ⟨t,e1,e2,h1,h3,hK⟩=>⟨t.h,t,e1,e2,h1,Nat.le_refl _,h3,hK⟩
def putG (x:ByteArray):Bool->List ByteArray->List ByteArray
  | d,[]=>bif d then [] else [x]
  | d,y :: r=>bif !d && (Op.bytesLess (bl x) (bl y) || bl x == bl y) then (bif Op.bytesLess (bl x) (bl y) then x :: y :: putG x true r else y :: putG x true r) else y :: putG x d r
theorem putG_len (x:ByteArray):∀ (d:Bool) (l:List ByteArray),(putG x d l).length<=l.length + 1
  | d,[]=>by cases d<;>simp [putG]
  | d,y :: r=>by
    have h1:=putG_true x r
    have h2:=putG_len x d r
    rw [putG]
    cases d<;>cases Op.bytesLess (bl x) (bl y)<;>cases bl x == bl y<;>simp [h1] at h2 ⊢<;>omega
where putG_true (x:ByteArray):∀ l,putG x true l=l
  | []=>rfl
  | y :: r=>by rw [putG,putG_true x r]; rfl
def puSp:W.Spec:=fun av H K=>∃ (l:List ByteArray) (x:ByteArray),av=[.va (.c1 (.fz (l.map stR))),tS x]/\H=[]/\l.length<=1000000/\K (.va (.c1 (.fz ((putG x false l).map stR)))) []
theorem pu_use {l:List ByteArray} {x:ByteArray} {K:S->Hp->Prop} (h:l.length<=1000000) (hK:K (.va (.c1 (.fz ((putG x false l).map stR)))) []):puSp [.va (.c1 (.fz (l.map stR))),tS x] [] K:=⟨l,x,rfl,rfl,h,hK⟩
set_option maxRecDepth 100000 in
theorem mPut:Meets Tryz.prog 68 puSp:=by
  refine meets_fn Tryz.func68 ok68 2 (by rw [Tryz.ntmps68]; decide) (meetsAll_nil _) (fun av H K h=>by obtain ⟨_,_,rfl,_⟩:=h; rfl) ?_
  rintro av H K ⟨l,x,rfl,rfl,hl,hK⟩
  have hlen:=putG_len x false l
  simp (maxSteps:=1000000) -dsimp only [go_sem,pc68,rs68]
  refine vc_loop_gh (α:=Nat × Bool × List ByteArray) (fun z=>[(0,.va (.c1 (.fz (l.map stR)))),(1,tS x),(5,.va (.c1 (.sl 0 z.2.2.length))),(6,bS z.2.1),(7,iS .i64 z.1)]) (fun z=>[.row (z.2.2.map stR) 9 1])
    (fun z=>z.1<=l.length/\z.2.2 ++ putG x z.2.1 (l.drop z.1)=putG x false l) (fun z=>l.length - z.1) (.nil 5 9 1 rfl (gh_at (0,false,[]) 1 ⟨Nat.zero_le _,rfl⟩ ?_ ?_)) ?_
  · simp -dsimp only [go_sem]<;>simp
  · simp -dsimp only [go_sem]<;>simp
  rintro ⟨i,d,o⟩ ⟨hi,ho⟩
  simp only at hi ho ⊢
  have hol:o.length<=l.length + 1:=by
    have:=congrArg List.length ho
    rw [List.length_append] at this; omega
  rcases Nat.lt_or_ge i l.length with hlt | hge
  · have hg:decide ((i:Int) < (l.length:Int))=true:=by simp; omega
    obtain ⟨y,hx⟩:∃ t,l[i]? = some t:=⟨_,List.getElem?_eq_getElem hlt⟩
    have q1:=row_rg' (row:=stR) hx
    have hdr:l.drop i=y :: l.drop (i + 1):=by
      obtain ⟨h,rfl⟩:=List.getElem?_eq_some_iff.1 hx
      exact List.drop_eq_getElem_cons h
    rw [hdr,putG] at ho
    have hst:∀ (u:ByteArray),[[C.vl (.string u)]]=[u].map stR:=fun _=>rfl
    cases d with
    | true=>
      simp only [Bool.not_true,Bool.false_and,Bool.cond_false] at ho
      simp (maxSteps:=1000000) -dsimp only [go_sem,hg,↓q1]
      and_intros
      all_goals first
        | omega
        | skip
      refine loop_next (i + 1,true,o ++ [y]) 1 ⟨by simp only; omega,by simp only [List.append_assoc,List.singleton_append]; exact ho⟩ (by simp only; omega) ?_ ?_
      · simp -dsimp only [go_sem]<;>simp
      · simp -dsimp only [go_sem]<;>simp
    | false=>
      simp only [Bool.not_false,Bool.true_and] at ho
      cases c2:Op.bytesLess (bl x) (bl y) with
      | true=>
        rw [c2] at ho
        simp only [Bool.true_or,Bool.cond_true] at ho
        simp (maxSteps:=1000000) -dsimp only [go_sem,hg,↓q1,c2,Bool.true_or]
        and_intros
        all_goals first
          | omega
          | skip
        refine loop_next (i + 1,true,o ++ [x,y]) 1 ⟨by simp only; omega,by simp only [List.append_assoc,List.cons_append,List.nil_append]; exact ho⟩ (by simp only; omega) ?_ ?_
        · simp -dsimp only [go_sem]<;>simp
        · simp -dsimp only [go_sem]<;>simp
      | false=>
        rw [c2] at ho
        simp only [Bool.false_or,Bool.cond_false] at ho
        cases c3:bl x == bl y with
        | true=>
          rw [c3] at ho
          simp only [Bool.cond_true] at ho
          simp (maxSteps:=1000000) -dsimp only [go_sem,hg,↓q1,c2,c3,Bool.false_or]
          and_intros
          all_goals first
            | omega
            | skip
          refine loop_next (i + 1,true,o ++ [y]) 1 ⟨by simp only; omega,by simp only [List.append_assoc,List.singleton_append]; exact ho⟩ (by simp only; omega) ?_ ?_
          · simp -dsimp only [go_sem]<;>simp
          · simp -dsimp only [go_sem]<;>simp
        | false=>
          rw [c3] at ho
          simp only [Bool.cond_false] at ho
          simp (maxSteps:=1000000) -dsimp only [go_sem,hg,↓q1,c2,c3,Bool.false_or]
          and_intros
          all_goals first
            | omega
            | skip
          refine loop_next (i + 1,false,o ++ [y]) 1 ⟨by simp only; omega,by simp only [List.append_assoc,List.singleton_append]; exact ho⟩ (by simp only; omega) ?_ ?_
          · simp -dsimp only [go_sem]<;>simp
          · simp -dsimp only [go_sem]<;>simp
  · have hg:decide ((i:Int) < (l.length:Int))=false:=by simp; omega
    obtain rfl:i=l.length:=by omega
    rw [List.drop_length] at ho
    simp only [putG] at ho
    cases d with
    | true=>
      simp only [Bool.cond_true,List.append_nil] at ho
      rw [<-ho] at hK
      simp (maxSteps:=1000000) -dsimp only [go_sem,hg]
      rw [<-List.length_map (f:=stR)]
      refine .pub 0 _ _ _ rfl (.sel [] (by simp) (by simp [pubH]) rfl (.done ?_))
      simp -dsimp only [go_sem,pubH]
      simpa using hK
    | false=>
      simp only [Bool.cond_false] at ho
      rw [<-ho] at hK
      simp (maxSteps:=1000000) -dsimp only [go_sem,hg]
      refine ⟨by omega,?_⟩
      have e1:o.length + 1=((o ++ [x]).map stR).length:=by simp
      have e2:o.map stR ++ [[C.vl (.string x)]]=(o ++ [x]).map stR:=by simp
      rw [e1,e2]
      refine .pub 0 _ _ _ rfl (.sel [] (by simp) (by simp [pubH]) rfl (.done ?_))
      simp -dsimp only [go_sem,pubH]
      simpa using hK
end Go.Proofs.YtbcnggkldclemaaGreat
namespace Go.Proofs.YtbcnggkldclemaaGreat
open Go.W
abbrev ltS (a b:ByteArray):Prop:=bl a < bl b
theorem blessL (x:List UInt8):∀ y:List UInt8,Op.bytesLess x y=decide (x < y):=by
  induction x with
  | nil=>intro y; cases y<;>simp [Op.bytesLess]
  | cons a x ih=>
    intro y
    cases y with
    | nil=>simp [Op.bytesLess]
    | cons b y=>
      have:=ih y
      rw [Op.bytesLess,this,Bool.eq_iff_iff]
      simp [List.cons_lt_cons_iff]
theorem bless (a b:ByteArray):Op.bytesLess (bl a) (bl b)=decide (ltS a b):=blessL _ _
theorem ltS_irrefl (a:ByteArray):¬ ltS a a:=List.lt_irrefl _
theorem ltS_trans {a b c:ByteArray} (h:ltS a b) (h2:ltS b c):ltS a c:=List.lt_trans h h2
theorem ltS_total {a b:ByteArray} (h:¬ ltS a b) (h2:a ≠ b):ltS b a:=by
  have h3:bl b<=bl a:=List.not_lt.1 h
  exact Std.lt_of_le_of_ne h3 (fun e=>h2 (bl_inj e.symm))
def Asc (l:List ByteArray):Prop:=l.Pairwise ltS
theorem asc_ext:∀ {a b:List ByteArray},Asc a->Asc b->(∀ x,x ∈ a ↔ x ∈ b)->a=b
  | [],[],_,_,_=>rfl
  | [],y :: b,_,_,h=>by have:=(h y).2 List.mem_cons_self; cases this
  | x :: a,[],_,_,h=>by have:=(h x).1 List.mem_cons_self; cases this
  | x :: a,y :: b,h1,h2,h=>by
    obtain ⟨p1,p2⟩:=List.pairwise_cons.1 h1
    obtain ⟨p3,p4⟩:=List.pairwise_cons.1 h2
    have e:x=y:=by
      rcases List.mem_cons.1 ((h x).1 List.mem_cons_self) with e | e
      · exact e
      · rcases List.mem_cons.1 ((h y).2 List.mem_cons_self) with e2 | e2
        · exact e2.symm
        · exact absurd (ltS_trans (p1 y e2) (p3 x e)) (ltS_irrefl x)
    subst e
    rw [asc_ext p2 p4 fun z=>?_]
    constructor
    · intro hz
      rcases List.mem_cons.1 ((h z).1 (List.mem_cons_of_mem _ hz)) with e | e
      · exact absurd (p1 z hz) (by rw [e]; exact ltS_irrefl x)
      · exact e
    · intro hz
      rcases List.mem_cons.1 ((h z).2 (List.mem_cons_of_mem _ hz)) with e | e
      · exact absurd (p3 z hz) (by rw [e]; exact ltS_irrefl x)
      · exact e
theorem Asc.nodup {l:List ByteArray} (h:Asc l):l.Nodup:=by
  unfold List.Nodup
  refine List.Pairwise.imp ?_ h
  intro a b h e
  subst e
  exact ltS_irrefl a h
theorem putG_true (x:ByteArray):∀ l,putG x true l=l
  | []=>rfl
  | y :: r=>by rw [putG,putG_true x r]; rfl
theorem putG_mem {x z:ByteArray}:∀ {l:List ByteArray},z ∈ putG x false l ↔ z=x\/z ∈ l
  | []=>by simp [putG]
  | y :: r=>by
    rw [putG,putG_true]
    cases c1:Op.bytesLess (bl x) (bl y) with
    | true=>simp
    | false=>
      cases c2:bl x == bl y with
      | true=>
        have:x=y:=bl_inj (by simpa using c2)
        subst this
        simp
      | false=>
        have:=putG_mem (x:=x) (z:=z) (l:=r)
        simp [this]
        constructor
        · rintro (h | h | h)
          · exact .inr (.inl h)
          · exact .inl h
          · exact .inr (.inr h)
        · rintro (h | h | h)
          · exact .inr (.inl h)
          · exact .inl h
          · exact .inr (.inr h)
theorem putG_asc {x:ByteArray}:∀ {l:List ByteArray},Asc l->Asc (putG x false l)
  | [],_=>by simp [putG,Asc]
  | y :: r,h=>by
    obtain ⟨p1,p2⟩:=List.pairwise_cons.1 h
    rw [putG,putG_true]
    cases c1:Op.bytesLess (bl x) (bl y) with
    | true=>
      rw [bless] at c1
      have c1:=of_decide_eq_true c1
      simp only [Bool.not_false,Bool.true_or,Bool.and_true,Bool.cond_true]
      refine List.pairwise_cons.2 ⟨fun z hz=>?_,h⟩
      rcases List.mem_cons.1 hz with rfl | hz
      · exact c1
      · exact ltS_trans c1 (p1 z hz)
    | false=>
      cases c2:bl x == bl y with
      | true=>exact h
      | false=>
        rw [bless] at c1
        have c1:=of_decide_eq_false c1
        have c2:x ≠ y:=fun e=>by subst e; simp at c2
        simp only [Bool.not_false,Bool.true_and,Bool.or_self,Bool.cond_false]
        refine List.pairwise_cons.2 ⟨fun z hz=>?_,putG_asc p2⟩
        rcases putG_mem.1 hz with rfl | hz
        · exact ltS_total c1 c2
        · exact p1 z hz
theorem asc_srtB {l:List ByteArray} (h:l.Nodup):Asc (srtB l):=by
  have h1:((l.map bl).mergeSort fun x y=>decide (x<=y)).Pairwise fun a b=>decide (a<=b)=true:=
    List.pairwise_mergeSort (le:=fun (x y:List UInt8)=>decide (x<=y)) (fun (a b c:List UInt8) h1 h2=>decide_eq_true (List.le_trans (of_decide_eq_true h1) (of_decide_eq_true h2))) (fun (a b:List UInt8)=>by
      rcases List.le_total a b with h | h<;>simp [h]) _
  have h2:((l.map bl).mergeSort fun x y=>decide (x<=y)).Nodup:=by
    rw [(List.mergeSort_perm _ _).nodup_iff]
    exact List.Pairwise.map bl (fun a b (hab:a ≠ b) e=>hab (bl_inj e)) h
  unfold srtB Asc
  rw [List.pairwise_map]
  refine List.Pairwise.imp₂ (fun a b h1 h2=>?_) h1 h2
  exact Std.lt_of_le_of_ne (of_decide_eq_true h1) h2
theorem usesF_asc (ss:List St) (n:ByteArray):Asc (usesF ss n):=asc_srtB (visAll_nodup ss n)
theorem plain_nil {e:List Ty} (h:((e.length:Int) == 0)=true):e=[]:=by simpa using h
theorem dir_val (ss:List St) (es:List En):∀ (N:Nat) (t:Ty),t.h<=N->valF ss es t=true->dirF t=bif isNamed t then [nmOf t] else []
  | 0,t,h,_=>absurd h (by have:=t.h_pos; omega)
  | N + 1,.mk k s n e,h,hv=>by
    cases k5:k == 5 with
    | true=>
      obtain rfl:k=5:=by simpa using k5
      obtain ⟨u,rfl,hu⟩:=val_list hv
      have:=dir_val ss es N u (by rw [Ty.h,Ty.hs,Ty.hs] at h; omega) hu
      unfold isNamed nmOf
      rw [named_one]
      rw [dirF,dirFs,dirFs,List.append_nil,this]
      rfl
    | false=>
      have h1:namedT (.mk k s n e)=.mk k s n e:=named_stop (by rw [k5]; rfl)
      unfold isNamed nmOf
      rw [h1,dirF]
      simp only [Ty.k,Ty.n]
      cases k67:(k == 6 || k == 7) with
      | true=>rfl
      | false=>
        have he:e=[]:=by
          rw [Bool.or_eq_false_iff] at k67
          rw [valF,k5,k67.1,k67.2] at hv
          cases k1:k == 1<;>cases k2:k == 2<;>cases k3:k == 3<;>cases k4:k == 4<;>rw [k1,k2,k3,k4] at hv<;>simp only [Bool.cond_true,Bool.cond_false,Bool.and_eq_true,reduceCtorEq] at hv<;>first | exact plain_nil hv.2 | exact absurd hv (by decide)
        subst he; rfl
theorem dir_valF {ss:List St} {es:List En} {t:Ty} (hv:valF ss es t=true):dirF t=bif isNamed t then [nmOf t] else []:=dir_val ss es t.h t (Nat.le_refl _) hv
end Go.Proofs.YtbcnggkldclemaaGreat
namespace Go.Proofs.YtbcnggkldclemaaGreat
open Go.W
structure UI (ss:List St) (n:ByteArray) (i:Nat) (todo o:List ByteArray):Prop where
  hd:∃ r,todo=n :: r/\r.Nodup/\∀ x,x ∈ o ↔ x ∈ r
  rc:∀ x ∈ o,Reach ss n x
  dn:∀ j a,j < i->todo[j]? = some a->∀ y,isRef ss a y->y ∈ o
  asc:Asc o
theorem UI.init (ss:List St) (n:ByteArray):UI ss n 0 [n] []:=⟨⟨[],rfl,.nil,fun _x=>Iff.rfl⟩,fun _x h=>(List.not_mem_nil h).elim,fun _j _a h=>absurd h (Nat.not_lt_zero _),List.Pairwise.nil⟩
theorem nm_len {ss:List St} {es:List En} (g:Gd ss es) {n:ByteArray} {l:List ByteArray} (h:l.Nodup) (hr:∀ x ∈ l,Reach ss n x):l.length<=32:=Nat.le_trans (nodup_sub h fun x hx=>(mem_visAll ss n x).2 (hr x hx)) (g.vlen n)
theorem UI.len {ss:List St} {es:List En} (g:Gd ss es) {n:ByteArray} {i:Nat} {todo o:List ByteArray} (h:UI ss n i todo o):todo.length<=33/\o.length<=32:=by
  obtain ⟨r,rfl,h1,h2⟩:=h.hd
  have:=nm_len g h1 fun x hx=>h.rc x ((h2 x).2 hx)
  have:=nm_len g h.asc.nodup h.rc
  simp only [List.length_cons]; omega
theorem UI.rch {ss:List St} {n:ByteArray} {i k:Nat} {todo o:List ByteArray} (h:UI ss n i todo o) {a y:ByteArray} (ha:todo[k]? = some a) (hy:isRef ss a y):Reach ss n y:=by
  obtain ⟨r,rfl,h1,h2⟩:=h.hd
  cases k with
  | zero=>simp at ha; subst ha; exact .one hy
  | succ k=>
    simp at ha
    exact .more (h.rc a ((h2 a).2 (List.mem_of_getElem? ha))) hy
theorem UI.add {ss:List St} {n:ByteArray} {i:Nat} {todo o:List ByteArray} (h:UI ss n i todo o) {y:ByteArray} (hr:Reach ss n y) (hy:y ∉ o) (hi:i<=todo.length):UI ss n i (todo ++ [y]) (putG y false o):=by
  obtain ⟨r,rfl,h1,h2⟩:=h.hd
  refine ⟨⟨r ++ [y],by simp,?_,fun x=>?_⟩,fun x hx=>?_,fun j a hj ha z hz=>?_,putG_asc h.asc⟩
  · rw [List.nodup_append]
    exact ⟨h1,by simp,fun a ha b hb=>by simp at hb; subst hb; exact fun e=>hy ((h2 b).2 (e ▸ ha))⟩
  · rw [putG_mem,h2]; simp [or_comm]
  · rcases putG_mem.1 hx with rfl | hx
    · exact hr
    · exact h.rc x hx
  · rw [List.getElem?_append_left (by omega)] at ha
    exact putG_mem.2 (.inr (h.dn j a hj ha z hz))
theorem UI.next {ss:List St} {n:ByteArray} {i:Nat} {todo o:List ByteArray} (h:UI ss n i todo o) {a:ByteArray} (ha:todo[i]? = some a) (hy:∀ y,isRef ss a y->y ∈ o):UI ss n (i + 1) todo o:=by
  refine ⟨h.hd,h.rc,fun j b hj hb y hyb=>?_,h.asc⟩
  rcases Nat.lt_or_ge j i with h4 | h4
  · exact h.dn j b h4 hb y hyb
  · obtain rfl:j=i:=by omega
    rw [ha] at hb; obtain rfl:=Option.some.inj hb
    exact hy y hyb
theorem UI.fin {ss:List St} {n:ByteArray} {todo o:List ByteArray} (h:UI ss n todo.length todo o):o=usesF ss n:=by
  refine asc_ext h.asc (usesF_asc ss n) fun x=>?_
  rw [mem_usesF]
  refine ⟨h.rc x,fun hx=>?_⟩
  obtain ⟨r,e,h1,h2⟩:=h.hd
  have hn:∀ y,isRef ss n y->y ∈ o:=h.dn 0 n (by rw [e]; simp) (by rw [e]; rfl)
  induction hx with
  | one h=>exact hn _ h
  | more _ h3 ih=>
    obtain ⟨j,hj⟩:=List.mem_iff_getElem?.1 ((h2 _).1 ih)
    rename_i b c _
    have hj2:todo[j + 1]? = some b:=by rw [e]; simpa using hj
    exact h.dn (j + 1) _ (List.getElem?_eq_some_iff.1 hj2).1 hj2 _ h3
def udSp:W.Spec:=fun av H K=>∃ (s:Sc) (n:ByteArray),av=[.va (.gs (scC s)),tS n]/\H=[]/\s.fit/\Gd s.ss s.es/\K (.va (.c1 (.fz ((usesF s.ss n).map stR)))) []
theorem ud_use {s:Sc} {n:ByteArray} {K:S->Hp->Prop} (h:s.fit) (g:Gd s.ss s.es) (hK:K (.va (.c1 (.fz ((usesF s.ss n).map stR)))) []):udSp [.va (.gs (scC s)),tS n] [] K:=⟨s,n,rfl,rfl,h,g,hK⟩
theorem dir_len {ss:List St} {es:List En} {t:Ty} (hv:valF ss es t=true):(dirF t).length<=1:=by
  rw [dir_valF hv]; cases isNamed t<;>simp
theorem dir_mem {ss:List St} {es:List En} {t:Ty} (hv:valF ss es t=true) {y:ByteArray}:y ∈ dirF t ↔ isNamed t=true/\nmOf t=y:=by
  rw [dir_valF hv]; cases isNamed t<;>simp [eq_comm]
set_option maxRecDepth 100000 in
set_option maxHeartbeats 2000000 in
theorem mUsed:Meets Tryz.prog 44 udSp:=by
  refine meets_fn Tryz.func44 ok44 2 (by rw [Tryz.ntmps44]; decide) (meetsAll_s mRStruct (meetsAll_s mDirect0 (meetsAll_f mRIn (meetsAll_s mPut (meetsAll_nil _))))) (fun av H K h=>by obtain ⟨_,_,rfl,_⟩:=h; rfl) ?_
  rintro av H K ⟨s,n,rfl,rfl,hs,g,hK⟩
  simp (maxSteps:=1000000) -dsimp only [go_sem,scC,pc44,rs44]
  refine vc_loop_gh (α:=Nat × List ByteArray × List ByteArray) (fun z=>[(2,.va (.c1 (.pt 0 0))),(5,.va (.c1 (.fz (z.2.2.map stR)))),(6,.va (.c1 (.sl 1 z.2.1.length))),(7,iS .i64 z.1)]) (fun z=>[.cells (scC s) 25,.row (z.2.1.map stR) 9 1])
    (fun z=>z.1<=z.2.1.length/\UI s.ss n z.1 z.2.1 z.2.2) (fun z=>34 - z.1) (.nf 5 (gh_at (0,[n],[]) 2 ⟨Nat.zero_le _,UI.init _ _⟩ ?_ ?_)) ?_
  · simp -dsimp only [go_sem]<;>simp
  · simp -dsimp only [go_sem,scC]<;>simp
  rintro ⟨i,todo,o⟩ ⟨hi,hu⟩
  simp only at hi hu ⊢
  obtain ⟨htl,hol⟩:=hu.len g
  rcases Nat.lt_or_ge i todo.length with hlt | hge
  · have hg:decide ((i:Int) < (todo.length:Int))=true:=by simp; omega
    obtain ⟨a,ha⟩:∃ a,todo[i]? = some a:=⟨_,List.getElem?_eq_getElem hlt⟩
    have q1:=row_rg' (row:=stR) ha
    simp (maxSteps:=1000000) -dsimp only [go_sem,hg,scC,ha,Option.some.injEq,forall_eq']
    refine ⟨by omega,hlt,stp_use hs ?_⟩
    generalize hx:(fS s.ss a).getD default=x
    have hxf:∀ f ∈ x.fs,f.ok/\valF s.ss s.es f.ty=true:=fun f hf=>by
      cases hc:fS s.ss a with
      | none=>rw [hc] at hx; subst hx; cases hf
      | some t=>
        rw [hc] at hx
        subst hx
        exact ⟨(hs.ok.ss _ (fS_mem hc).1).fs f hf,g.val _ (fS_mem hc).1 f hf⟩
    have hxl:x.fs.length<=9223372036854775807:=by
      cases hc:fS s.ss a with
      | none=>rw [hc] at hx; subst hx; exact Nat.zero_le _
      | some t=>rw [hc] at hx; subst hx; exact (hs.ok.ss _ (fS_mem hc).1).len
    have hxr:∀ y,isRef s.ss a y ↔ refT x y:=fun y=>by unfold isRef; rw [hx]
    simp (maxSteps:=1000000) -dsimp only [go_sem,stC]
    refine vc_loop (α:=Nat × List ByteArray × List ByteArray) (fun z=>[(2,.va (.c1 (.pt 0 0))),(5,.va (.c1 (.fz (z.2.2.map stR)))),(6,.va (.c1 (.sl 1 z.2.1.length))),(7,iS .i64 i),(8,.va (.c1 (.pt 2 0))),(10,iS .i64 z.1)]) (fun z=>[.cells (scC s) 25,.row (z.2.1.map stR) 9 1,.cells (stC x) 45])
      (fun z=>z.1<=x.fs.length/\z.2.1[i]? = some a/\UI s.ss n i z.2.1 z.2.2/\∀ f ∈ x.fs.take z.1,isNamed f.ty=true->nmOf f.ty ∈ z.2.2) (fun z=>x.fs.length - z.1) (0,todo,o) 3 ⟨Nat.zero_le _,ha,hu,fun f hf=>by cases hf⟩ ?_ ?_ ?_
    · simp -dsimp only [go_sem]<;>simp
    · simp -dsimp only [go_sem,scC,stC]<;>simp
    clear hu ha hlt hi htl hol hg q1
    rintro ⟨k,td,o⟩ ⟨hk,ha,hu,hr⟩
    simp only at hk ha hu hr ⊢
    obtain ⟨htl,hol⟩:=hu.len g
    have hil:=(List.getElem?_eq_some_iff.1 ha).1
    rcases Nat.lt_or_ge k x.fs.length with hlt | hge
    · have hg:decide ((k:Int) < (x.fs.length:Int))=true:=by simp; omega
      obtain ⟨f,hf⟩:∃ a,x.fs[k]? = some a:=⟨_,List.getElem?_eq_getElem hlt⟩
      have q1:=row_rg' (row:=flC) hf
      obtain ⟨hfo,hfv⟩:=hxf f (List.mem_of_getElem? hf)
      simp (maxSteps:=1000000) -dsimp only [go_sem,hg,↓q1,scC,stC,flC,fl_ty]
      have hdl:=dir_len hfv
      refine ⟨by omega,di_use0 hfo.ty (by omega) ?_⟩
      simp (maxSteps:=1000000) -dsimp only [go_sem]
      have hdm:∀ y ∈ dirF f.ty,Reach s.ss n y:=fun y hy=>by
        obtain ⟨h1,h2⟩:=(dir_mem hfv).1 hy
        exact hu.rch ha ((hxr y).2 ⟨f,List.mem_of_getElem? hf,h1,h2⟩)
      have hdf:(∀ o':List ByteArray,(∀ y ∈ dirF f.ty,y ∈ o')->(∀ f ∈ x.fs.take k,isNamed f.ty=true->nmOf f.ty ∈ o')->∀ f ∈ x.fs.take (k + 1),isNamed f.ty=true->nmOf f.ty ∈ o'):=fun o' h1 h2 f' hf' hn=>by
        rw [take_next hf] at hf'
        rcases List.mem_append.1 hf' with h | h
        · exact h2 f' h hn
        · obtain rfl:f'=f:=by simpa using h
          exact h1 _ ((dir_mem hfv).2 ⟨hn,rfl⟩)
      generalize dirF f.ty=l at *
      refine vc_loop (α:=Nat × List ByteArray × List ByteArray) (fun z=>[(2,.va (.c1 (.pt 0 0))),(5,.va (.c1 (.fz (z.2.2.map stR)))),(6,.va (.c1 (.sl 1 z.2.1.length))),(7,iS .i64 i),(8,.va (.c1 (.pt 2 0))),(10,iS .i64 k),(11,.va (.c1 (.fz (l.map stR)))),(12,iS .i64 z.1)]) (fun z=>[.cells (scC s) 25,.row (z.2.1.map stR) 9 1,.cells (stC x) 45])
        (fun z=>z.1<=l.length/\z.2.1[i]? = some a/\UI s.ss n i z.2.1 z.2.2/\(∀ f ∈ x.fs.take k,isNamed f.ty=true->nmOf f.ty ∈ z.2.2)/\∀ y ∈ l.take z.1,y ∈ z.2.2) (fun z=>l.length - z.1) (0,td,o) 3 ⟨Nat.zero_le _,ha,hu,hr,fun f hf=>by cases hf⟩ ?_ ?_ ?_
      · simp -dsimp only [go_sem]<;>simp
      · simp -dsimp only [go_sem,scC,stC]<;>simp
      clear hu ha hil htl hol hg q1 hr
      rintro ⟨j,td,o⟩ ⟨hj,ha,hu,hr,hjm⟩
      simp only at hj ha hu hr hjm ⊢
      obtain ⟨htl,hol⟩:=hu.len g
      have hil:=(List.getElem?_eq_some_iff.1 ha).1
      rcases Nat.lt_or_ge j l.length with hjt | hjg
      · have hg:decide ((j:Int) < (l.length:Int))=true:=by simp; omega
        obtain ⟨y,hy⟩:∃ a,l[j]? = some a:=⟨_,List.getElem?_eq_getElem hjt⟩
        have q1:=row_rg' (row:=stR) hy
        have hbs:isBs (o.map stR):=isBs_mk (by omega)
        have e0:(0<=(o.length:Int))=True:=by simp
        have e1:((o.length:Int)<=9223372036854775807)=True:=by simp; omega
        have hto:o.take o.length=o:=List.take_length
        have hjm':∀ o':List ByteArray,(∀ z ∈ o,z ∈ o')->y ∈ o'->∀ z ∈ l.take (j + 1),z ∈ o':=fun o' h1 h2 z hz=>by
          rw [take_next hy] at hz
          rcases List.mem_append.1 hz with h | h
          · exact h1 z (hjm z h)
          · obtain rfl:z=y:=by simpa using h
            exact h2
        cases hc:inB o y with
        | true=>
          simp (maxSteps:=1000000) -dsimp only [go_sem,hg,↓q1,scC,stC,hbs,e0,e1,Int.toNat_natCast,hto,hc]
          refine ⟨by omega,by omega,loop_next (j + 1,td,o) 3 ⟨by simp only; omega,ha,hu,hr,hjm' o (fun z h=>h) ((inB_iff _ _).1 hc)⟩ (by simp only; omega) ?_ ?_⟩
          · simp -dsimp only [go_sem]<;>simp
          · simp -dsimp only [go_sem,scC,stC]<;>simp
        | false=>
          have hyo:=not_inB.1 hc
          have hua:=hu.add (hdm y (List.mem_of_getElem? hy)) hyo (by omega)
          have hmo:∀ z ∈ o,z ∈ putG y false o:=fun z hz=>putG_mem.2 (.inr hz)
          have ha':(td ++ [y])[i]? = some a:=by rw [List.getElem?_append_left hil]; exact ha
          simp (maxSteps:=1000000) -dsimp only [go_sem,hg,↓q1,scC,stC,hbs,e0,e1,Int.toNat_natCast,hto,hc]
          refine ⟨by omega,by omega,pu_use (by omega) ?_⟩
          simp (maxSteps:=1000000) -dsimp only [go_sem]
          and_intros
          all_goals first
            | omega
            | skip
          refine loop_next (j + 1,td ++ [y],putG y false o) 3 ⟨by simp only; omega,ha',hua,fun f hf hn=>hmo _ (hr f hf hn),hjm' _ hmo (putG_mem.2 (.inl rfl))⟩ (by simp only; omega) ?_ ?_
          · simp -dsimp only [go_sem]<;>simp
          · simp -dsimp only [go_sem,scC,stC]<;>simp
      · have hg:decide ((j:Int) < (l.length:Int))=false:=by simp; omega
        obtain rfl:j=l.length:=by omega
        rw [List.take_length] at hjm
        simp (maxSteps:=1000000) -dsimp only [go_sem,hg,scC,stC]
        refine ⟨by omega,loop_next (k + 1,td,o) 3 ⟨by simp only; omega,ha,hu,hdf o hjm hr⟩ (by simp only; omega) ?_ ?_⟩
        · simp -dsimp only [go_sem]<;>simp
        · simp -dsimp only [go_sem,scC,stC]<;>simp
    · have hg:decide ((k:Int) < (x.fs.length:Int))=false:=by simp; omega
      obtain rfl:k=x.fs.length:=by omega
      rw [List.take_length] at hr
      simp (maxSteps:=1000000) -dsimp only [go_sem,hg,scC,stC]
      refine ⟨by omega,loop_next (i + 1,td,o) 2 ⟨by simp only; omega,hu.next ha fun y hy=>?_⟩ (by simp only; omega) ?_ ?_⟩
      · obtain ⟨f,h1,h2,rfl⟩:=(hxr y).1 hy
        exact hr f h1 h2
      · simp -dsimp only [go_sem]<;>simp
      · simp -dsimp only [go_sem,scC]<;>simp
  · have hg:decide ((i:Int) < (todo.length:Int))=false:=by simp; omega
    obtain rfl:i=todo.length:=by omega
    obtain rfl:=hu.fin
    simp (maxSteps:=1000000) -dsimp only [go_sem,hg,scC]
    exact .sel [] (by simp) (by simp) rfl (.done (by simpa [go_sem] using hK))
end Go.Proofs.YtbcnggkldclemaaGreat
namespace Go.Proofs.YtbcnggkldclemaaGreat
open Go.W
def dIx:List St->List Int->ByteArray->Int
  | s :: ss,d :: ds,n=>bif decide (s.nm=n) then d else dIx ss ds n
  | _,_,_=>0
theorem dIx_step {ss:List St} {ds:List Int} {i:Nat} {x:St} {d:Int} (hx:ss[i]? = some x) (hd:ds[i]? = some d) (n:ByteArray):dIx (ss.drop i) (ds.drop i) n=bif decide (x.nm=n) then d else dIx (ss.drop (i + 1)) (ds.drop (i + 1)) n:=by
  obtain ⟨h,rfl⟩:=List.getElem?_eq_some_iff.1 hx
  obtain ⟨h2,rfl⟩:=List.getElem?_eq_some_iff.1 hd
  rw [List.drop_eq_getElem_cons h,List.drop_eq_getElem_cons h2]; rfl
theorem dIx_end {ss:List St} {ds:List Int} (n:ByteArray):dIx (ss.drop ss.length) ds n=0:=by rw [List.drop_length]; simp [dIx]
theorem dIx_none {n:ByteArray}:∀ {ss:List St} {ds:List Int},fS ss n=none->dIx ss ds n=0
  | [],_,_=>by simp [dIx]
  | s :: ss,[],_=>by simp [dIx]
  | s :: ss,d :: ds,h=>by
    unfold fS at h
    rw [List.find?_cons] at h
    rw [dIx]
    cases hc:decide (s.nm=n) with
    | true=>rw [hc] at h; simp at h
    | false=>rw [hc] at h; exact dIx_none (ss:=ss) h
theorem dIx_some {n:ByteArray} {u:St}:∀ {ss:List St} {ds:List Int},ss.length=ds.length->fS ss n=some u->∃ j:Nat,ss[j]? = some u/\ds[j]? = some (dIx ss ds n)
  | [],_,_,h=>by cases h
  | s :: ss,[],hl,_=>by simp at hl
  | s :: ss,d :: ds,hl,h=>by
    unfold fS at h
    rw [List.find?_cons] at h
    rw [dIx]
    cases hc:decide (s.nm=n) with
    | true=>
      rw [hc] at h
      obtain rfl:s=u:=by simpa using h
      exact ⟨0,rfl,rfl⟩
    | false=>
      rw [hc] at h
      obtain ⟨j,h1,h2⟩:=dIx_some (ss:=ss) (ds:=ds) (by simpa using hl) h
      exact ⟨j + 1,by simpa using h1,by simpa using h2⟩
def isIn (rs:List (List C)):Prop:=∃ l:List Int,rs=l.map inR
def tdPre (N:Nat):List S->Prop:=fun av=>match av with
  | [.va (.gs r),.va (.c1 (.fz ds)),.va (.gs q)]=>isScF r/\(isIn ds/\ds.length=(C.sc r).ss.length/\∀ d ∈ ds.map C.it,0<=d/\d<=1000000000000)/\isTy q/\(lvT (C.ty q)).1<=1000000000/\(C.ty q).h<=N
  | _=>False
theorem tdPre_open {N:Nat} {av:List S} (h:tdPre N av):∃ (s:Sc) (l:List Int) (t:Ty),av=[.va (.gs (scC s)),.va (.c1 (.fz (l.map inR))),.va (.gs (tyC t))]/\s.fit/\(l.length=s.ss.length/\∀ d ∈ l,0<=d/\d<=1000000000000)/\TyOk t/\(lvT t).1<=1000000000/\t.h<=N:=by
  unfold tdPre at h
  split at h
  · obtain ⟨⟨a,rfl,ha⟩,⟨⟨l,rfl⟩,h1,h2⟩,⟨b,rfl,hb⟩,h3,h4⟩:=h
    rw [ty_dec] at h3 h4
    rw [sc_dec] at h1
    rw [it_map] at h2
    exact ⟨a,l,b,rfl,ha,⟨by simpa using h1,h2⟩,hb,h3,h4⟩
  · exact h.elim
noncomputable def tdVal:List S->A:=fun av=>match av with
  | [.va (.gs r),.va (.c1 (.fz ds)),.va (.gs q)]=>iA .i64 (fdep (dIx (C.sc r).ss (ds.map C.it)) (C.ty q))
  | _=>.gs []
noncomputable def tdFn (N:Nat):Fun:=⟨tdPre N,tdVal,fun av h=>by obtain ⟨a,l,b,rfl,_⟩:=tdPre_open h; trivial⟩
theorem tdFn_len {N:Nat}:∀ av H K,(tdFn N).sp av H K->av.length=3:=fun av H K h=>by obtain ⟨a,l,b,rfl,_⟩:=tdPre_open h.1.1; rfl
attribute [go_sem] tdFn tdPre tdVal
theorem lvT_cons {s:Int} {n:ByteArray} {u:Ty} {r:List Ty}:lvT (.mk 5 s n (u :: r))=((lvT u).1 + 1,(lvT u).2):=by simp [lvT,lvL]
theorem lvT_stop {k s:Int} {n:ByteArray} {e:List Ty} (h:(k == 5 && decide (0 < (e.length:Int)))=false):lvT (.mk k s n e)=(0,.mk k s n e):=by
  rw [lvT]
  cases hk:k == 5 with
  | false=>rfl
  | true=>
    rw [hk,Bool.true_and] at h
    have:e=[]:=List.length_eq_zero_iff.1 (by simp at h; simp [h])
    subst this; rfl
theorem fdep_cons {dp:ByteArray->Int} {s:Int} {n:ByteArray} {u:Ty} {r:List Ty}:fdep dp (.mk 5 s n (u :: r))=1 + fdep dp u:=by unfold fdep; rw [lvT_cons]; simp only; omega
set_option maxRecDepth 100000 in
set_option maxHeartbeats 4000000 in
theorem mTypeDepth':∀ N,Meets Tryz.prog 69 (tdFn N).sp
  | 0=>⟨by kernel_rfl,by rintro xs vs E ro w K _ _ _ ⟨⟨h,_⟩,_⟩; obtain ⟨_,_,a,_,_,_,_,_,h⟩:=tdPre_open h; have:=a.h_pos; omega⟩
  | N + 1=>by
    refine meets_fn Tryz.func69 ok69 3 (by rw [Tryz.ntmps69]; decide) (meetsAll_f (mTypeDepth' N) (meetsAll_nil _)) tdFn_len ?_
    rintro av H K ⟨⟨h,rfl⟩,hK⟩
    obtain ⟨sc,l,t,rfl,hs,⟨hl,hb⟩,ht,hlv,hh⟩:=tdPre_open h
    have hK:K (iS .i64 (fdep (dIx sc.ss l) t)) []:=by
      have:(tdFn (N + 1)).val [.va (.gs (scC sc)),.va (.c1 (.fz (l.map inR))),.va (.gs (tyC t))]=iA .i64 (fdep (dIx sc.ss l) t):=by simp -dsimp only [go_sem,it_map]
      rw [this] at hK; exact hK
    clear h
    have hls:=hs.ok.ls
    have fin:∀ (b:Int) (R:Hp),fdep (dIx sc.ss l) t=b->W.Fin 0 K (iS .i64 b) R:=fun b R h=>by
      rw [h] at hK
      exact .sel [] (by simp) (by simp) rfl (.done (by simp -dsimp only [go_sem]; simpa using hK))
    have hsf:=isScF_mk hs
    rw [scC] at hsf
    have hsd:=sc_dec sc
    rw [scC] at hsd
    obtain ⟨k,s,n,e⟩:=t
    have hte:=ht.e
    have hte2:=ht.len
    simp only [Ty.e] at hte hte2
    have hin:isIn (l.map inR):=⟨l,rfl⟩
    have hr1:((l.map inR).length=sc.ss.length)=True:=by simp [hl]
    have hr2:(∀ d:Int,d ∈ l->0<=d/\d<=1000000000000)=True:=eq_true hb
    simp (maxSteps:=1000000) -dsimp only [go_sem,scC,tyC,tysC_map,pc69,rs69]
    cases c1:(k == 5 && decide (0 < (e.length:Int))) with
    | true=>
      simp only [Bool.and_eq_true,beq_iff_eq,decide_eq_true_eq] at c1
      obtain ⟨rfl,c1⟩:=c1
      obtain ⟨u,r,rfl⟩:∃ u r,e=u :: r:=by
        cases e with
        | nil=>simp at c1
        | cons u r=>exact ⟨u,r,rfl⟩
      rw [lvT_cons] at hlv
      have hux:(u :: r)[0]? = some u:=rfl
      have q1:=row_rg (row:=tyC) hux
      have hu:isTy (tyC u):=isTy_mk (hte u List.mem_cons_self)
      have huh:u.h<=N:=by rw [Ty.h,Ty.hs] at hh; omega
      refine ⟨fun _=>?_,fun h=>by simp at h⟩
      have hul:((lvT u).1<=1000000000)=True:=eq_true (by simp only at hlv; omega)
      have huh':(u.h<=N)=True:=eq_true huh
      have hfb:fdep (dIx sc.ss l) u<=1001000000000/\0<=fdep (dIx sc.ss l) u:=by
        have hd:dIx sc.ss l (lvT u).2.n<=1000000000000/\0<=dIx sc.ss l (lvT u).2.n:=by
          cases hf:fS sc.ss (lvT u).2.n with
          | none=>rw [dIx_none hf]; omega
          | some v=>
            obtain ⟨j,_,h2⟩:=dIx_some hl.symm hf
            have:=hb _ (List.mem_of_getElem? h2); omega
        simp only at hlv
        unfold fdep
        cases (lvT u).2.k == 6<;>simp only [Bool.cond_true,Bool.cond_false]<;>omega
      simp (maxSteps:=1000000) -dsimp only [go_sem,tyC_len]
      refine ⟨by omega,fun x hx=>?_⟩
      subst hx
      simp only [hsd]
      exact ⟨⟨hsf,⟨hin,hl,hb⟩,hu,by simp only at hlv; omega,huh⟩,by omega,fin _ _ fdep_cons⟩
    | false=>
      have hst:=lvT_stop (s:=s) (n:=n) c1
      have hfd:fdep (dIx sc.ss l) (.mk k s n e)=bif k == 6 then dIx sc.ss l n else 0:=by unfold fdep; rw [hst]; simp [Ty.k,Ty.n]
      refine ⟨fun h=>by simp at h,fun _=>?_⟩
      cases k6:k == 6 with
      | false=>
        rw [k6,Bool.cond_false] at hfd
        refine vc_loop (α:=Nat) (fun i=>[(1,.va (.c1 (.fz (l.map inR)))),(3,.va (.c1 (.pt 0 0))),(5,.va (.c1 (.pt 1 0))),(7,iS .i64 i)]) (fun _=>[.cells (scC sc) 25,.cells (tyC (.mk k s n e)) 40])
          (fun i=>i<=sc.ss.length) (fun i=>sc.ss.length - i) 0 2 (Nat.zero_le _) ?_ ?_ ?_
        · simp -dsimp only [go_sem]<;>simp
        · simp -dsimp only [go_sem,scC,tyC,tysC_map]<;>simp
        intro i hi
        rcases Nat.lt_or_ge i sc.ss.length with hlt | hge
        · have hg:decide ((i:Int) < (sc.ss.length:Int))=true:=by simp; omega
          simp (maxSteps:=1000000) -dsimp only [go_sem,hg,scC,tyC,tysC_map,k6]
          and_intros
          all_goals first
            | omega
            | skip
          refine loop_next (i + 1) 2 (by omega) (by omega) ?_ ?_
          · simp -dsimp only [go_sem]<;>simp
          · simp -dsimp only [go_sem,scC,tyC,tysC_map]<;>simp
        · have hg:decide ((i:Int) < (sc.ss.length:Int))=false:=by simp; omega
          simp (maxSteps:=1000000) -dsimp only [go_sem,hg,scC,tyC,tysC_map]
          exact fin 0 _ hfd
      | true=>
        rw [k6,Bool.cond_true] at hfd
        refine vc_loop (α:=Nat) (fun i=>[(1,.va (.c1 (.fz (l.map inR)))),(3,.va (.c1 (.pt 0 0))),(5,.va (.c1 (.pt 1 0))),(7,iS .i64 i)]) (fun _=>[.cells (scC sc) 25,.cells (tyC (.mk k s n e)) 40])
          (fun i=>i<=sc.ss.length/\dIx (sc.ss.drop i) (l.drop i) n=dIx sc.ss l n) (fun i=>sc.ss.length - i) 0 2 ⟨Nat.zero_le _,rfl⟩ ?_ ?_ ?_
        · simp -dsimp only [go_sem]<;>simp
        · simp -dsimp only [go_sem,scC,tyC,tysC_map]<;>simp
        rintro i ⟨hi,ho⟩
        rcases Nat.lt_or_ge i sc.ss.length with hlt | hge
        · have hg:decide ((i:Int) < (sc.ss.length:Int))=true:=by simp; omega
          obtain ⟨t,hx⟩:∃ e,sc.ss[i]? = some e:=⟨_,List.getElem?_eq_getElem hlt⟩
          obtain ⟨d,hd⟩:∃ e,l[i]? = some e:=⟨_,List.getElem?_eq_getElem (by omega)⟩
          have q2:=row_rg' (row:=stC) hx
          have q3:=row_rg' (row:=inR) hd
          rw [dIx_step hx hd] at ho
          cases hc:decide (t.nm=n) with
          | true=>
            rw [hc,Bool.cond_true] at ho
            simp (maxSteps:=1000000) -dsimp only [go_sem,hg,↓q2,↓q3,stC,scC,tyC,tysC_map,bl_beq,hc,k6]
            and_intros
            all_goals first
              | omega
              | exact fin _ _ (by rw [hfd,<-ho])
          | false=>
            rw [hc,Bool.cond_false] at ho
            simp (maxSteps:=1000000) -dsimp only [go_sem,hg,↓q2,stC,scC,tyC,tysC_map,bl_beq,hc,k6]
            and_intros
            all_goals first
              | omega
              | skip
            refine loop_next (i + 1) 2 ⟨by omega,ho⟩ (by omega) ?_ ?_
            · simp -dsimp only [go_sem]<;>simp
            · simp -dsimp only [go_sem,scC,tyC,tysC_map]<;>simp
        · have hg:decide ((i:Int) < (sc.ss.length:Int))=false:=by simp; omega
          obtain rfl:i=sc.ss.length:=by omega
          rw [dIx_end] at ho
          simp (maxSteps:=1000000) -dsimp only [go_sem,hg,scC,tyC,tysC_map]
          exact fin 0 _ (by rw [hfd,<-ho])
def t0Pre:List S->Prop:=fun av=>match av with
  | [.va (.gs r),.va (.c1 (.fz ds)),.va (.gs q)]=>isScF r/\(isIn ds/\ds.length=(C.sc r).ss.length/\∀ d ∈ ds.map C.it,0<=d/\d<=1000000000000)/\isTy q/\(lvT (C.ty q)).1<=1000000000
  | _=>False
theorem t0Pre_open {av:List S} (h:t0Pre av):∃ (s:Sc) (l:List Int) (t:Ty),av=[.va (.gs (scC s)),.va (.c1 (.fz (l.map inR))),.va (.gs (tyC t))]/\s.fit/\(l.length=s.ss.length/\∀ d ∈ l,0<=d/\d<=1000000000000)/\TyOk t/\(lvT t).1<=1000000000:=by
  unfold t0Pre at h
  split at h
  · obtain ⟨⟨a,rfl,ha⟩,⟨⟨l,rfl⟩,h1,h2⟩,⟨b,rfl,hb⟩,h3⟩:=h
    rw [ty_dec] at h3
    rw [sc_dec] at h1
    rw [it_map] at h2
    exact ⟨a,l,b,rfl,ha,⟨by simpa using h1,h2⟩,hb,h3⟩
  · exact h.elim
noncomputable def t0Fn:Fun:=⟨t0Pre,tdVal,fun av h=>by obtain ⟨a,l,b,rfl,_⟩:=t0Pre_open h; trivial⟩
attribute [go_sem] t0Fn t0Pre
theorem mTypeDepth:Meets Tryz.prog 69 t0Fn.sp:=meets_all 0 mTypeDepth' fun av H K ⟨⟨h,e⟩,hK⟩=>by
  obtain ⟨a,l,b,rfl,ha,⟨h1,h2⟩,hb,h3⟩:=t0Pre_open h
  refine ⟨b.h,⟨⟨⟨isScF_mk ha,⟨⟨l,rfl⟩,by rw [sc_dec]; simpa using h1,by rw [it_map]; exact h2⟩,isTy_mk hb,by rw [ty_dec]; exact h3,by rw [ty_dec]; exact Nat.le_refl _⟩,e⟩,hK⟩⟩
end Go.Proofs.YtbcnggkldclemaaGreat
namespace Go.Proofs.YtbcnggkldclemaaGreat
open Go.W
theorem maxF_mono {dp dq:ByteArray->Int} {l:List Fl} (h:∀ f ∈ l,fdep dp f.ty<=fdep dq f.ty):maxF dp l<=maxF dq l:=maxF_le (maxF_nonneg _ _) fun f hf=>Int.le_trans (h f hf) (maxF_ge hf)
structure DI (ss:List St) (r i:Nat) (d:List Int):Prop where
  len:d.length=ss.length
  lo:∀ (j:Nat) (t:St) (v:Int),ss[j]? = some t->d[j]? = some v->0<=v/\v<=dD ss t.nm/\(rank ss t.nm < r->v=dD ss t.nm)/\(j < i->rank ss t.nm < r + 1->v=dD ss t.nm)
theorem DI.ix {ss:List St} {es:List En} (_g:Gd ss es) {r i:Nat} {d:List Int} (h:DI ss r i d) (n:ByteArray):0<=dIx ss d n/\dIx ss d n<=dD ss n/\((fS ss n).isSome=true->rank ss n < r->dIx ss d n=dD ss n):=by
  cases hf:fS ss n with
  | none=>
    rw [dIx_none hf]
    exact ⟨Int.le_refl _,dD_lo ss n,fun h=>by simp at h⟩
  | some u=>
    obtain ⟨j,h1,h2⟩:=dIx_some h.len.symm hf
    obtain ⟨a1,a2,a3,_⟩:=h.lo j u _ h1 h2
    obtain ⟨_,rfl⟩:=fS_mem hf
    exact ⟨a1,a2,fun _ h=>a3 h⟩
theorem DI.all {ss:List St} {es:List En} (g:Gd ss es) {r i:Nat} {d:List Int} (h:DI ss r i d):∀ v ∈ d,0<=v/\v<=1000000000000:=fun v hv=>by
  obtain ⟨j,hj⟩:=List.mem_iff_getElem?.1 hv
  have hl:=(List.getElem?_eq_some_iff.1 hj).1
  obtain ⟨t,ht⟩:∃ t,ss[j]? = some t:=⟨_,List.getElem?_eq_getElem (by have:=h.len; omega)⟩
  obtain ⟨h1,h2,_⟩:=h.lo j t v ht hj
  have:=dD_hi g t.nm
  omega
theorem DI.fd {ss:List St} {es:List En} (g:Gd ss es) {r i:Nat} {d:List Int} (h:DI ss r i d) (t:Ty):fdep (dIx ss d) t<=fdep (dD ss) t:=by
  unfold fdep
  have:=h.ix g (lvT t).2.n
  cases (lvT t).2.k == 6<;>simp only [Bool.cond_true,Bool.cond_false]<;>omega
theorem DI.set {ss:List St} {es:List En} (g:Gd ss es) (ha:Acy ss) {r i:Nat} {d:List Int} (h:DI ss r i d) {t:St} (ht:ss[i]? = some t):DI ss r (i + 1) (d.set i (1 + maxF (dIx ss d) t.fs)):=by
  have htm:=List.mem_of_getElem? ht
  have hD:=dD_eq g ha (g.nd t htm)
  have hle:maxF (dIx ss d) t.fs<=maxF (dD ss) t.fs:=maxF_mono fun f _=>h.fd g f.ty
  have heq:rank ss t.nm < r + 1->maxF (dIx ss d) t.fs=maxF (dD ss) t.fs:=fun hr=>maxF_congr fun f hf=>by
    unfold fdep
    cases hk:(lvT f.ty).2.k == 6 with
    | false=>rfl
    | true=>
      obtain ⟨h1,u,h2⟩:=str_ref g (g.nd t htm) hf hk
      have h3:=rank_lt h1 h2 ha
      rw [(h.ix g _).2.2 (by rw [h2]; rfl) (by omega)]
  have hn:=maxF_nonneg (dIx ss d) t.fs
  refine ⟨by rw [List.length_set]; exact h.len,fun j u v hu hv=>?_⟩
  rw [List.getElem?_set] at hv
  by_cases e:i=j
  · subst e
    rw [ht] at hu; obtain rfl:=Option.some.inj hu
    have hlt:i < d.length:=by have:=h.len; have:=(List.getElem?_eq_some_iff.1 ht).1; omega
    simp [hlt] at hv
    subst hv
    exact ⟨by omega,by omega,fun hr=>by rw [heq (by omega)]; omega,fun _ hr=>by rw [heq hr]; omega⟩
  · rw [if_neg e] at hv
    obtain ⟨a1,a2,a3,a4⟩:=h.lo j u v hu hv
    exact ⟨a1,a2,a3,fun hj hr=>a4 (by omega) hr⟩
theorem DI.up {ss:List St} {r:Nat} {d:List Int} (h:DI ss r ss.length d):DI ss (r + 1) 0 d:=⟨h.len,fun j t v ht hv=>by
  obtain ⟨a1,a2,_,a4⟩:=h.lo j t v ht hv
  exact ⟨a1,a2,fun hr=>a4 (List.getElem?_eq_some_iff.1 ht).1 hr,fun h=>absurd h (Nat.not_lt_zero _)⟩⟩
theorem DI.fin {ss:List St} {d:List Int} (h:DI ss (ss.length + 1) 0 d):d=ss.map fun t=>dD ss t.nm:=by
  refine List.ext_getElem? fun j=>?_
  rw [List.getElem?_map]
  cases ht:ss[j]? with
  | none=>
    rw [List.getElem?_eq_none_iff] at ht
    rw [List.getElem?_eq_none (by rw [h.len]; exact ht)]; rfl
  | some t=>
    obtain ⟨v,hv⟩:∃ v,d[j]? = some v:=⟨_,List.getElem?_eq_getElem (by rw [h.len]; exact (List.getElem?_eq_some_iff.1 ht).1)⟩
    obtain ⟨_,_,a3,_⟩:=h.lo j t v ht hv
    rw [hv,a3 (Nat.lt_succ_of_le (rank_le _ _))]; rfl
theorem DI.init (ss:List St):DI ss 0 0 (List.replicate ss.length 0):=⟨by simp,fun j t v ht hv=>by
  have:v=0:=by
    have:=List.mem_of_getElem? hv
    exact (List.mem_replicate.1 this).2
  subst this
  exact ⟨Int.le_refl _,dD_lo _ _,fun h=>absurd h (Nat.not_lt_zero _),fun h=>absurd h (Nat.not_lt_zero _)⟩⟩
def dsSp:W.Spec:=fun av H K=>∃ s:Sc,av=[.va (.gs (scC s))]/\H=[]/\s.fit/\Gd s.ss s.es/\Acy s.ss/\K (.va (.c1 (.fz ((s.ss.map fun t=>dD s.ss t.nm).map inR)))) []
theorem ds_use {s:Sc} {K:S->Hp->Prop} (h:s.fit) (g:Gd s.ss s.es) (ha:Acy s.ss) (hK:K (.va (.c1 (.fz ((s.ss.map fun t=>dD s.ss t.nm).map inR)))) []):dsSp [.va (.gs (scC s))] [] K:=⟨s,rfl,rfl,h,g,ha,hK⟩
theorem gF_take {D:ByteArray->Int} {l:List Fl} {i:Nat} {f:Fl} (hx:l[i]? = some f):(l.take (i + 1)).foldl (gF D) 0=max ((l.take i).foldl (gF D) 0) (fdep D f.ty):=by
  rw [take_next hx,List.foldl_append]; rfl
set_option maxRecDepth 100000 in
set_option maxHeartbeats 4000000 in
theorem mDepths:Meets Tryz.prog 46 dsSp:=by
  refine meets_fn Tryz.func46 ok46 1 (by rw [Tryz.ntmps46]; decide) (meetsAll_f mTypeDepth (meetsAll_nil _)) (fun av H K h=>by obtain ⟨_,rfl,_⟩:=h; rfl) ?_
  rintro av H K ⟨s,rfl,rfl,hs,g,ha,hK⟩
  have hls:=g.n
  simp (maxSteps:=1000000) -dsimp only [go_sem,scC,pc46,rs46]
  refine ⟨⟨by omega,by omega,by omega⟩,fun h0=>?_,fun h0=>?_⟩
  · have hnil:s.ss=[]:=List.length_eq_zero_iff.1 (by omega)
    have hlen:s.ss.length=0:=by omega
    rw [hnil] at hK
    refine vc_loop (α:=Nat) (fun i=>[(1,.va (.c1 (.pt 0 0))),(3,.va (.c1 (.fz []))),(4,iS .i64 i)]) (fun _=>[.cells (scC s) 25])
      (fun i=>i<=1) (fun i=>1 - i) 0 1 (Nat.zero_le _) ?_ ?_ ?_
    · simp -dsimp only [go_sem]<;>simp
    · simp -dsimp only [go_sem,scC]<;>simp
    intro i hi
    rcases Nat.eq_zero_or_pos i with h1 | h1
    · have hg:decide ((i:Int)<=(s.ss.length:Int))=true:=by simp; omega
      simp (maxSteps:=1000000) -dsimp only [go_sem,hg,scC]
      refine vc_loop (α:=Unit) (fun _=>[(1,.va (.c1 (.pt 0 0))),(3,.va (.c1 (.fz []))),(4,iS .i64 i),(5,iS .i64 0)]) (fun _=>[.cells (scC s) 25])
        (fun _=>True) (fun _=>0) () 1 trivial ?_ ?_ ?_
      · simp -dsimp only [go_sem]<;>simp
      · simp -dsimp only [go_sem,scC]<;>simp
      intro _ _
      have hg:decide ((0:Int) < (s.ss.length:Int))=false:=by simp; omega
      simp (maxSteps:=1000000) -dsimp only [go_sem,hg,scC]
      refine ⟨by omega,loop_next (i + 1) 1 (by omega) (by omega) ?_ ?_⟩
      · simp -dsimp only [go_sem]<;>simp
      · simp -dsimp only [go_sem,scC]<;>simp
    · have hg:decide ((i:Int)<=(s.ss.length:Int))=false:=by simp; omega
      simp (maxSteps:=1000000) -dsimp only [go_sem,hg,scC]
      exact .sel [] (by simp) (by simp) rfl (.done (by simpa [go_sem] using hK))
  · have hsf:=isScF_mk hs
    rw [scC] at hsf
    have hsd:=sc_dec s
    rw [scC] at hsd
    refine vc_loop (α:=Nat × List Int) (fun z=>[(1,.va (.c1 (.pt 0 0))),(3,.va (.c1 (.sl 1 s.ss.length))),(4,iS .i64 z.1)]) (fun z=>[.cells (scC s) 25,.row (z.2.map inR) 3 1])
      (fun z=>z.1<=s.ss.length + 1/\DI s.ss z.1 0 z.2) (fun z=>s.ss.length + 1 - z.1) (0,List.replicate s.ss.length 0) 2 ⟨Nat.zero_le _,DI.init _⟩ ?_ ?_ ?_
    · simp -dsimp only [go_sem]<;>simp
    · simp -dsimp only [go_sem,scC]<;>simp
    rintro ⟨r,d⟩ ⟨hr,hd⟩
    simp only at hr hd ⊢
    rcases Nat.lt_or_ge r (s.ss.length + 1) with hlt | hge
    · have hg:decide ((r:Int)<=(s.ss.length:Int))=true:=by simp; omega
      simp (maxSteps:=1000000) -dsimp only [go_sem,hg,scC]
      refine vc_loop (α:=Nat × List Int) (fun z=>[(1,.va (.c1 (.pt 0 0))),(3,.va (.c1 (.sl 1 s.ss.length))),(4,iS .i64 r),(5,iS .i64 z.1)]) (fun z=>[.cells (scC s) 25,.row (z.2.map inR) 3 1])
        (fun z=>z.1<=s.ss.length/\DI s.ss r z.1 z.2) (fun z=>s.ss.length - z.1) (0,d) 2 ⟨Nat.zero_le _,hd⟩ ?_ ?_ ?_
      · simp -dsimp only [go_sem]<;>simp
      · simp -dsimp only [go_sem,scC]<;>simp
      clear hd hg
      rintro ⟨i,d⟩ ⟨hi,hd⟩
      simp only at hi hd ⊢
      rcases Nat.lt_or_ge i s.ss.length with hit | hig
      · have hg:decide ((i:Int) < (s.ss.length:Int))=true:=by simp; omega
        obtain ⟨t,hx⟩:∃ e,s.ss[i]? = some e:=⟨_,List.getElem?_eq_getElem hit⟩
        have htm:=List.mem_of_getElem? hx
        obtain ⟨_,htl,hfs⟩:=hs.ok.ss t htm
        have q1:=row_rg' (row:=stC) hx
        have hset:=hd.set g ha hx
        have hmx:maxF (dIx s.ss d) t.fs<=1000000000000:=by
          have h1:=maxF_mono (l:=t.fs) fun f _=>hd.fd g f.ty
          have h2:=dD_eq g ha (g.nd t htm)
          have h3:=dD_hi g t.nm
          omega
        simp (maxSteps:=1000000) -dsimp only [go_sem,hg,scC]
        refine vc_loop (α:=Nat) (fun k=>[(1,.va (.c1 (.pt 0 0))),(3,.va (.c1 (.sl 1 s.ss.length))),(4,iS .i64 r),(5,iS .i64 i),(6,iS .i64 ((t.fs.take k).foldl (gF (dIx s.ss d)) 0)),(7,iS .i64 k)]) (fun _=>[.cells (scC s) 25,.row (d.map inR) 3 1])
          (fun k=>k<=t.fs.length) (fun k=>t.fs.length - k) 0 2 (Nat.zero_le _) ?_ ?_ ?_
        · simp -dsimp only [go_sem]<;>simp
        · simp -dsimp only [go_sem,scC]<;>simp
        intro k hk
        rcases Nat.lt_or_ge k t.fs.length with hkt | hkg
        · have hg:decide ((k:Int) < (t.fs.length:Int))=true:=by simp; omega
          obtain ⟨f,hf⟩:∃ e,t.fs[k]? = some e:=⟨_,List.getElem?_eq_getElem hkt⟩
          have hfm:=List.mem_of_getElem? hf
          have q2:=row_rg' (row:=flC) hf
          have hity:isTy (tyC f.ty):=isTy_mk (hfs f hfm).ty
          have hlv:((lvT f.ty).1<=1000000000)=True:=eq_true (g.lv t htm f hfm)
          have hin:isIn (d.map inR):=⟨d,rfl⟩
          have hdl:d.length=s.ss.length:=hd.len
          have hall:(∀ v:Int,v ∈ d->0<=v/\v<=1000000000000)=True:=eq_true (hd.all g)
          simp (maxSteps:=1000000) -dsimp only [go_sem,hg,↓q1,stC,scC]
          simp (maxSteps:=1000000) -dsimp only [go_sem,flC,fl_ty,hsf,hsd,hity,hlv,hin,hall,hdl,hf,Option.some.injEq,forall_eq']
          refine ⟨by omega,by omega,by omega,by omega,loop_next (k + 1) 2 (by omega) (by omega) ?_ ?_⟩
          · simp -dsimp only [go_sem,gF_take hf]<;>simp
          · simp -dsimp only [go_sem,scC]<;>simp
        · have hg:decide ((k:Int) < (t.fs.length:Int))=false:=by simp; omega
          obtain rfl:k=t.fs.length:=by omega
          have hmx2:t.fs.foldl (gF (dIx s.ss d)) 0=maxF (dIx s.ss d) t.fs:=rfl
          rw [List.take_length,hmx2]
          have hn0:=maxF_nonneg (dIx s.ss d) t.fs
          have hdl:d.length=s.ss.length:=hd.len
          obtain ⟨v0,hv0⟩:∃ e,d[i]? = some e:=⟨_,List.getElem?_eq_getElem (by omega)⟩
          simp (maxSteps:=1000000) -dsimp only [go_sem,hg,↓q1,stC,scC]
          simp (maxSteps:=1000000) -dsimp only [go_sem,hv0,Option.some.injEq,forall_eq']
          refine ⟨by omega,by omega,⟨by omega,hdl⟩,⟨hdl,by omega⟩,by omega,loop_next (i + 1,d.set i (1 + maxF (dIx s.ss d) t.fs)) 2 ⟨by simp only; omega,hset⟩ (by simp only; omega) ?_ ?_⟩
          · simp -dsimp only [go_sem]<;>simp
          · simp -dsimp only [go_sem,scC]<;>simp [List.map_set]
      · have hg:decide ((i:Int) < (s.ss.length:Int))=false:=by simp; omega
        obtain rfl:i=s.ss.length:=by omega
        simp (maxSteps:=1000000) -dsimp only [go_sem,hg,scC]
        refine ⟨by omega,loop_next (r + 1,d) 2 ⟨by simp only; omega,hd.up⟩ (by simp only; omega) ?_ ?_⟩
        · simp -dsimp only [go_sem]<;>simp
        · simp -dsimp only [go_sem,scC]<;>simp
    · have hg:decide ((r:Int)<=(s.ss.length:Int))=false:=by simp; omega
      obtain rfl:r=s.ss.length + 1:=by omega
      have hfin:=hd.fin
      rw [<-hfin] at hK
      simp (maxSteps:=1000000) -dsimp only [go_sem,hg,scC]
      have e1:s.ss.length=(d.map inR).length:=by rw [List.length_map]; exact hd.len.symm
      rw [e1]
      refine .pub 1 _ _ _ rfl (.sel [] (by simp) (by simp [pubH]) rfl (.done ?_))
      simp -dsimp only [go_sem,pubH]
      simpa using hK
end Go.Proofs.YtbcnggkldclemaaGreat
namespace Go.Proofs.YtbcnggkldclemaaGreat
open Go.W
set_option maxRecDepth 100000 in
set_option maxHeartbeats 4000000 in
theorem mRCheck:Meets Tryz.prog 18 ckFn.sp:=by
  refine meets_fn Tryz.func18 ok18 1 (by rw [Tryz.ntmps18]; decide) (meetsAll_f mRLong (meetsAll_f mREnumE (meetsAll_f mRStructE (meetsAll_s mUsed (meetsAll_f mRIn (meetsAll_s mDepths (meetsAll_nil _))))))) gFn_len ?_
  rintro av H K ⟨⟨h,rfl⟩,hK⟩
  obtain ⟨_,rfl,s,rfl,hs⟩:=gPre_open h
  have hK:K (iS .i64 (checkF s)) []:=by
    have:ckFn.val [.va (.gs (scC s))]=iA .i64 (checkF s):=by simp -dsimp only [go_sem]
    rw [this] at hK; exact hK
  clear h
  have hfit:=hs
  have hsc:isSc (scC s):=isSc_mk hs.ok
  have hsf:isScF (scC s):=isScF_mk hs
  obtain ⟨⟨hv,hle,hls,hes,hss⟩,hlv,_,_⟩:=hs
  have fin:∀ (x:Int) (R:Hp),checkF s=x->W.Fin 0 K (iS .i64 x) R:=fun x R h1=>by
    rw [h1] at hK
    exact .sel [] (by simp) (by simp) rfl (.done (by simpa [go_sem] using hK))
  have hsc':=hsc
  have hsf':=hsf
  simp only [scC] at hsc' hsf'
  have hdec:C.sc [.vl (.int .i64 s.ver),.fz (s.es.map enC),.fz (s.ss.map stC)]=s:=sc_dec s
  simp (maxSteps:=1000000) -dsimp only [go_sem,scC,pc18,rs18,hsc',hdec]
  refine ⟨fun h1=>fin 4 _ (by unfold checkF; rw [h1]; rfl),fun c1=>⟨fun h1=>fin 3 _ (by unfold checkF; rw [c1,h1]; rfl),fun c2=>?_⟩⟩
  have hF:checkF s=bif enF s != 0 then enF s else bif stF s != 0 then stF s else nestF s.ss:=by unfold checkF; rw [c1,c2]; rfl
  refine vc_loop (α:=Nat) (fun i=>[(1,.va (.c1 (.pt 0 0))),(3,iS .i64 i)]) (fun _=>[.cells (scC s) 25])
    (fun i=>i<=s.es.length/\fE (enAt s) (s.es.length - i) i=enF s) (fun i=>s.es.length - i) 0 1 ⟨Nat.zero_le _,rfl⟩ ?_ ?_ ?_
  · simp -dsimp only [go_sem]<;>simp
  · simp -dsimp only [go_sem,scC]<;>simp
  rintro i ⟨hi,ho⟩
  rcases Nat.lt_or_ge i s.es.length with hlt | hge
  · have hg:decide ((i:Int) < (s.es.length:Int))=true:=by simp; omega
    have fin':∀ (x:Int) (R:Hp),enAt s i=x->x ≠ 0->W.Fin 0 K (iS .i64 x) R:=fun x R h1 h2=>fin x R (by
      rw [hF,<-ho,fE_err hlt (by rw [h1]; exact h2),h1]; exact cond_err h2)
    have nxt:enAt s i=0->fE (enAt s) (s.es.length - (i + 1)) (i + 1)=enF s:=fun h1=>by rw [<-ho,fE_ok hlt h1]
    simp (maxSteps:=1000000) -dsimp only [go_sem,hg,scC,hsf',hdec,Int.toNat_natCast]
    refine ⟨⟨by omega,by omega⟩,fun h1=>fin' _ _ rfl (by simpa using h1),fun h1=>?_⟩
    refine ⟨by omega,loop_next (i + 1) 1 ⟨by omega,nxt (by simpa using h1)⟩ (by omega) ?_ ?_⟩
    · simp -dsimp only [go_sem]<;>simp
    · simp -dsimp only [go_sem,scC]<;>simp
  · have hg:decide ((i:Int) < (s.es.length:Int))=false:=by simp; omega
    obtain rfl:i=s.es.length:=by omega
    rw [fE_end] at ho
    rw [cond_ok ho.symm] at hF
    simp (maxSteps:=1000000) -dsimp only [go_sem,hg,scC]
    clear hi hge hg ho
    refine vc_loop (α:=Nat) (fun i=>[(1,.va (.c1 (.pt 0 0))),(5,iS .i64 i)]) (fun _=>[.cells (scC s) 25])
      (fun i=>i<=s.ss.length/\fE (stAt s) (s.ss.length - i) i=stF s) (fun i=>s.ss.length - i) 0 1 ⟨Nat.zero_le _,rfl⟩ ?_ ?_ ?_
    · simp -dsimp only [go_sem]<;>simp
    · simp -dsimp only [go_sem,scC]<;>simp
    rintro i ⟨hi,ho⟩
    rcases Nat.lt_or_ge i s.ss.length with hlt | hge
    · have hg:decide ((i:Int) < (s.ss.length:Int))=true:=by simp; omega
      have fin':∀ (x:Int) (R:Hp),stAt s i=x->x ≠ 0->W.Fin 0 K (iS .i64 x) R:=fun x R h1 h2=>fin x R (by
        rw [hF,<-ho,fE_err hlt (by rw [h1]; exact h2),h1]; exact cond_err h2)
      have nxt:stAt s i=0->fE (stAt s) (s.ss.length - (i + 1)) (i + 1)=stF s:=fun h1=>by rw [<-ho,fE_ok hlt h1]
      simp (maxSteps:=1000000) -dsimp only [go_sem,hg,scC,hsf',hdec,Int.toNat_natCast]
      refine ⟨⟨by omega,by omega⟩,fun h1=>fin' _ _ rfl (by simpa using h1),fun h1=>?_⟩
      refine ⟨by omega,loop_next (i + 1) 1 ⟨by omega,nxt (by simpa using h1)⟩ (by omega) ?_ ?_⟩
      · simp -dsimp only [go_sem]<;>simp
      · simp -dsimp only [go_sem,scC]<;>simp
    · have hg:decide ((i:Int) < (s.ss.length:Int))=false:=by simp; omega
      obtain rfl:i=s.ss.length:=by omega
      rw [fE_end] at ho
      rw [cond_ok ho.symm] at hF
      have g:=good_of hfit c2 ho.symm
      simp (maxSteps:=1000000) -dsimp only [go_sem,hg,scC]
      clear hi hge hg ho
      refine vc_loop (α:=Nat) (fun i=>[(1,.va (.c1 (.pt 0 0))),(7,iS .i64 i)]) (fun _=>[.cells (scC s) 25])
        (fun i=>i<=s.ss.length/\(s.ss.drop i).any (fun t=>inB (usesF s.ss t.nm) t.nm)=s.ss.any (fun t=>inB (usesF s.ss t.nm) t.nm)) (fun i=>s.ss.length - i) 0 1 ⟨Nat.zero_le _,rfl⟩ ?_ ?_ ?_
      · simp -dsimp only [go_sem]<;>simp
      · simp -dsimp only [go_sem,scC]<;>simp
      rintro i ⟨hi,ho⟩
      rcases Nat.lt_or_ge i s.ss.length with hlt | hge
      · have hg:decide ((i:Int) < (s.ss.length:Int))=true:=by simp; omega
        obtain ⟨t,hx⟩:∃ t,s.ss[i]? = some t:=⟨_,List.getElem?_eq_getElem hlt⟩
        have q1:=row_rg' (row:=stC) hx
        rw [any_step hx] at ho
        have hv:=g.vlen t.nm
        have hul:=usesF_len s.ss t.nm
        have hbs:isBs ((usesF s.ss t.nm).map stR):=isBs_mk (by rw [usesF_len]; omega)
        have e0:(0<=((usesF s.ss t.nm).length:Int))=True:=by simp
        have e1:(((usesF s.ss t.nm).length:Int)<=9223372036854775807)=True:=by rw [hul]; exact eq_true (by omega)
        have hto:(usesF s.ss t.nm).take (usesF s.ss t.nm).length=usesF s.ss t.nm:=List.take_length
        simp (maxSteps:=1000000) -dsimp only [go_sem,hg,↓q1,stC,scC]
        refine ⟨by omega,ud_use hfit g ?_⟩
        simp (maxSteps:=1000000) -dsimp only [go_sem,hbs,e0,e1,Int.toNat_natCast,hto]
        refine ⟨by omega,fun hc=>?_,fun hc=>?_⟩
        · rw [hc,Bool.true_or] at ho
          exact fin 19 _ (by rw [hF]; unfold nestF; rw [<-ho]; rfl)
        · rw [hc,Bool.false_or] at ho
          refine ⟨by omega,loop_next (i + 1) 1 ⟨by omega,ho⟩ (by omega) ?_ ?_⟩
          · simp -dsimp only [go_sem]<;>simp
          · simp -dsimp only [go_sem,scC]<;>simp
      · have hg:decide ((i:Int) < (s.ss.length:Int))=false:=by simp; omega
        obtain rfl:i=s.ss.length:=by omega
        rw [any_end] at ho
        have ha:Acy s.ss:=fun t ht=>any_false ho.symm t ht
        have hF2:checkF s=bif s.ss.any (fun t=>decide (6 < dD s.ss t.nm)) then 9 else 0:=by rw [hF]; unfold nestF; rw [<-ho]; rfl
        simp (maxSteps:=1000000) -dsimp only [go_sem,hg,scC]
        refine ds_use hfit g ha ?_
        simp (maxSteps:=1000000) -dsimp only [go_sem]
        clear hi hge hg ho
        refine vc_loop (α:=Nat) (fun i=>[(9,.va (.c1 (.fz ((s.ss.map fun t=>dD s.ss t.nm).map inR)))),(10,iS .i64 i)]) (fun _=>[.cells (scC s) 25])
          (fun i=>i<=s.ss.length/\(s.ss.drop i).any (fun t=>decide (6 < dD s.ss t.nm))=s.ss.any (fun t=>decide (6 < dD s.ss t.nm))) (fun i=>s.ss.length - i) 0 1 ⟨Nat.zero_le _,rfl⟩ ?_ ?_ ?_
        · simp -dsimp only [go_sem]<;>simp
        · simp -dsimp only [go_sem,scC]<;>simp
        rintro i ⟨hi,ho⟩
        rcases Nat.lt_or_ge i s.ss.length with hlt | hge
        · have hg:decide ((i:Int) < (s.ss.length:Int))=true:=by simp; omega
          obtain ⟨t,hx⟩:∃ t,s.ss[i]? = some t:=⟨_,List.getElem?_eq_getElem hlt⟩
          have hd:(s.ss.map fun t=>dD s.ss t.nm)[i]? = some (dD s.ss t.nm):=by rw [List.getElem?_map,hx]; rfl
          have q1:=row_rg' (row:=inR) hd
          have hml:(s.ss.map fun t=>dD s.ss t.nm).length=s.ss.length:=by simp
          rw [any_step hx] at ho
          generalize (s.ss.map fun t=>dD s.ss t.nm)=ds at *
          simp (maxSteps:=1000000) -dsimp only [go_sem,hml,hg,↓q1,scC]
          refine ⟨by omega,fun hc=>?_,fun hc=>?_⟩
          · rw [hc,Bool.true_or] at ho
            exact fin 9 _ (by rw [hF2,<-ho]; rfl)
          · rw [hc,Bool.false_or] at ho
            refine ⟨by omega,loop_next (i + 1) 1 ⟨by omega,ho⟩ (by omega) ?_ ?_⟩
            · simp -dsimp only [go_sem]<;>simp
            · simp -dsimp only [go_sem,scC]<;>simp
        · have hg:decide ((i:Int) < (s.ss.length:Int))=false:=by simp; omega
          obtain rfl:i=s.ss.length:=by omega
          rw [any_end] at ho
          have hml:(s.ss.map fun t=>dD s.ss t.nm).length=s.ss.length:=by simp
          generalize (s.ss.map fun t=>dD s.ss t.nm)=ds at *
          simp (maxSteps:=1000000) -dsimp only [go_sem,hml,hg,scC]
          exact fin 0 _ (by rw [hF2,<-ho]; rfl)
end Go.Proofs.YtbcnggkldclemaaGreat
namespace Go.Proofs.YtbcnggkldclemaaGreat
open Go.W
def pjS:W.Spec:=fun av H K=>∃ (s:Sc) (t:Ty) (v:Vl),av=[.va (.gs (scC s)),.va (.gs (tyC t)),.va (.gs (vlC v))]/\H=[]/\s.fit/\TyOk t/\VlOk v/\K (.va (.gs (vlC (pj s t v)))) []
theorem pjS_use {s:Sc} {t:Ty} {v:Vl} {K:S->Hp->Prop} (h1:s.fit) (h2:TyOk t) (h3:VlOk v)
    (hK:K (.va (.gs [.vl (.int .i64 (pj s t v).k),.vl (.int .i64 (pj s t v).n),.vl (.string (pj s t v).s),.fz ((pj s t v).l.map vlC),.fz ((pj s t v).f.map veC)])) []) :
    pjS [.va (.gs [.vl (.int .i64 s.ver),.fz (s.es.map enC),.fz (s.ss.map stC)]),.va (.gs [.vl (.int .i64 t.k),.vl (.int .i64 t.s),.vl (.string t.n),.fz (t.e.map tyC)]),.va (.gs [.vl (.int .i64 v.k),.vl (.int .i64 v.n),.vl (.string v.s),.fz (v.l.map vlC),.fz (v.f.map veC)])] [] K:=by
  have:pjS [.va (.gs (scC s)),.va (.gs (tyC t)),.va (.gs (vlC v))] [] K:=⟨s,t,v,rfl,rfl,h1,h2,h3,by rw [vlC_eq]; exact hK⟩
  rw [vlC_eq,tyC_eq] at this
  exact this
theorem mProject':Meets Tryz.prog 15 pjS:=meets_all 0 mProjectN fun av H K ⟨s,t,v,e1,e2,h1,h2,h3,hK⟩=>⟨v.h,s,t,v,e1,e2,h1,h2,h3,Nat.le_refl _,hK⟩
theorem mBy:Meets Tryz.prog 19 pjS:=meets_all 0 mByN fun av H K ⟨s,t,v,e1,e2,h1,h2,h3,hK⟩=>⟨v.h,s,t,v,e1,e2,h1,h2,h3,Nat.le_refl _,hK⟩
def prT (n:ByteArray):Ty:=.mk 6 0 n []
def prF (s:Sc) (n:ByteArray) (v:Vl):Vl:=bif hasS s.ss n && (checkF s == 0) then pj s (prT n) v else v
theorem prF_ok {s:Sc} {n:ByteArray} {v:Vl} (h:VlOk v):VlOk (prF s n v):=by
  unfold prF
  cases hasS s.ss n && (checkF s == 0)
  · exact h
  · exact pj_ok h
theorem prF_twice (s:Sc) (n:ByteArray) (v:Vl):prF s n (prF s n v)=prF s n v:=by
  unfold prF
  cases hasS s.ss n && (checkF s == 0)
  · rfl
  · exact pj_twice s v _
def prSp:W.Spec:=fun av H K=>∃ (s:Sc) (n:ByteArray) (v:Vl),av=[.va (.gs (scC s)),tS n,.va (.gs (vlC v))]/\H=[]/\s.fit/\n.size<=9223372036854775807/\VlOk v/\K (.va (.gs (vlC (prF s n v)))) []
theorem pr_use {s:Sc} {n:ByteArray} {v:Vl} {K:S->Hp->Prop} (h1:s.fit) (h2:n.size<=9223372036854775807) (h3:VlOk v)
    (hK:K (.va (.gs [.vl (.int .i64 (prF s n v).k),.vl (.int .i64 (prF s n v).n),.vl (.string (prF s n v).s),.fz ((prF s n v).l.map vlC),.fz ((prF s n v).f.map veC)])) []) :
    prSp [.va (.gs [.vl (.int .i64 s.ver),.fz (s.es.map enC),.fz (s.ss.map stC)]),tS n,.va (.gs [.vl (.int .i64 v.k),.vl (.int .i64 v.n),.vl (.string v.s),.fz (v.l.map vlC),.fz (v.f.map veC)])] [] K:=by
  have:prSp [.va (.gs (scC s)),tS n,.va (.gs (vlC v))] [] K:=⟨s,n,v,rfl,rfl,h1,h2,h3,by rw [vlC_eq]; exact hK⟩
  rw [vlC_eq] at this
  exact this
theorem prT_ok {n:ByteArray} (h:n.size<=9223372036854775807):TyOk (prT n):=.mk (by unfold in64; decide) (by unfold in64; decide) h (by decide) (fun _ h=>by cases h)
set_option maxRecDepth 100000 in
set_option maxHeartbeats 1000000 in
theorem mProject:Meets Tryz.prog 7 prSp:=by
  refine meets_fn Tryz.func7 okR7 3 (by rw [Tryz.ntmps7]; decide) (meetsAll_s mStructP (meetsAll_f mCheck (meetsAll_s mProject' (meetsAll_nil _)))) (fun av H K h=>by obtain ⟨_,_,_,rfl,_⟩:=h; rfl) ?_
  rintro av H K ⟨s,n,v,rfl,rfl,hs,hn,hv,hK⟩
  have hso:=isScF_mk hs
  have hdo:=sc_dec s
  rw [scC] at hso hdo
  have fin:∀ (w:Vl) (R:Hp),prF s n v=w->W.Fin 0 K (.va (.gs [.vl (.int .i64 w.k),.vl (.int .i64 w.n),.vl (.string w.s),.fz (w.l.map vlC),.fz (w.f.map veC)])) R:=fun w R h=>by
    rw [h,vlC_eq] at hK
    exact .sel [] (by simp) (by simp) rfl (.done (by simpa [go_sem] using hK))
  have no:∀ (R:Hp) {K':S->Hp->Prop},K' (.va (.gs [.vl (.int .i64 (pj s default v).k),.vl (.int .i64 (pj s default v).n),.vl (.string (pj s default v).s),.fz ((pj s default v).l.map vlC),.fz ((pj s default v).f.map veC)])) []->
    pjS [.va (.gs [.vl (.int .i64 s.ver),.fz (s.es.map enC),.fz (s.ss.map stC)]),.va (.gs [.vl (.int .i64 0),.vl (.int .i64 0),.vl (.string (mk [])),.fz []]),.va (.gs [.vl (.int .i64 v.k),.vl (.int .i64 v.n),.vl (.string v.s),.fz (v.l.map vlC),.fz (v.f.map veC)])] [] K':=fun _ _ h=>pjS_use (t:=default) hs tyOk_default hv h
  simp (maxSteps:=1000000) -dsimp only [go_sem,vlC_eq v,scC,pcR7,rsR7]
  refine stp_use (s:=s) hs ?_
  generalize (fS s.ss n).getD default=u
  cases hkn:hasS s.ss n with
  | false=>
    simp (maxSteps:=1000000) -dsimp only [go_sem,stC,hso,hdo]
    refine no [] ?_
    simp (maxSteps:=1000000) -dsimp only [go_sem]
    exact fin _ _ (by unfold prF; rw [hkn,pj_default]; rfl)
  | true=>
    cases hc:checkF s != 0 with
    | true=>
      have hc':(checkF s == 0)=false:=by rw [bne,Bool.not_eq_true'] at hc; exact hc
      simp (maxSteps:=1000000) -dsimp only [go_sem,stC,hso,hdo,hc]
      refine no [] ?_
      simp (maxSteps:=1000000) -dsimp only [go_sem]
      exact fin _ _ (by unfold prF; rw [hkn,hc',pj_default]; rfl)
    | false=>
      have hc':(checkF s == 0)=true:=by rw [bne,Bool.not_eq_false'] at hc; exact hc
      simp (maxSteps:=1000000) -dsimp only [go_sem,stC,hso,hdo,hc]
      refine pjS_use (t:=prT n) hs (prT_ok hn) hv ?_
      simp (maxSteps:=1000000) -dsimp only [go_sem]
      exact fin _ _ (by unfold prF; rw [hkn,hc']; rfl)
set_option maxRecDepth 100000 in
set_option maxHeartbeats 1000000 in
theorem mRProject:Meets Tryz.prog 9 prSp:=by
  refine meets_fn Tryz.func9 ok9 3 (by rw [Tryz.ntmps9]; decide) (meetsAll_s mRStruct (meetsAll_f mRCheck (meetsAll_s mBy (meetsAll_nil _)))) (fun av H K h=>by obtain ⟨_,_,_,rfl,_⟩:=h; rfl) ?_
  rintro av H K ⟨s,n,v,rfl,rfl,hs,hn,hv,hK⟩
  have hso:=isScF_mk hs
  have hdo:=sc_dec s
  rw [scC] at hso hdo
  have fin:∀ (w:Vl) (R:Hp),prF s n v=w->W.Fin 0 K (.va (.gs [.vl (.int .i64 w.k),.vl (.int .i64 w.n),.vl (.string w.s),.fz (w.l.map vlC),.fz (w.f.map veC)])) R:=fun w R h=>by
    rw [h,vlC_eq] at hK
    exact .sel [] (by simp) (by simp) rfl (.done (by simpa [go_sem] using hK))
  simp (maxSteps:=1000000) -dsimp only [go_sem,vlC_eq v,scC,pc9,rs9]
  refine stp_use (s:=s) hs ?_
  generalize (fS s.ss n).getD default=u
  cases hkn:hasS s.ss n with
  | false=>
    simp (maxSteps:=1000000) -dsimp only [go_sem,stC,hso,hdo]
    exact fin _ _ (by unfold prF; rw [hkn]; rfl)
  | true=>
    cases hc:checkF s != 0 with
    | true=>
      have hc':(checkF s == 0)=false:=by rw [bne,Bool.not_eq_true'] at hc; exact hc
      simp (maxSteps:=1000000) -dsimp only [go_sem,stC,hso,hdo,hc]
      exact fin _ _ (by unfold prF; rw [hkn,hc']; rfl)
    | false=>
      have hc':(checkF s == 0)=true:=by rw [bne,Bool.not_eq_false'] at hc; exact hc
      simp (maxSteps:=1000000) -dsimp only [go_sem,stC,hso,hdo,hc]
      refine pjS_use (t:=prT n) hs (prT_ok hn) hv ?_
      simp (maxSteps:=1000000) -dsimp only [go_sem]
      exact fin _ _ (by unfold prF; rw [hkn,hc']; rfl)
end Go.Proofs.YtbcnggkldclemaaGreat
namespace Go.Proofs.YtbcnggkldclemaaGreat
open Go.W
noncomputable def widN:Nat->Ty->Ty->Bool
  | 0,a,b=>tyB a b
  | n + 1,a,b=>tyB a b || (decide (a.k=b.k) && decide (a.n=b.n) && (bif decide (a.k=5) then decide (a.e.length=1) && decide (b.e.length=1) && decide (a.s<=b.s) && widN n (a.e.headD default) (b.e.headD default)
      else (decide (a.k=2) || decide (a.k=3) || decide (a.k=4)) && decide (a.s < b.s) && tyB a (.mk b.k a.s b.n b.e)))
noncomputable def widF (a b:Ty):Bool:=widN a.h a b
theorem h_pos (t:Ty):0 < t.h:=by cases t; rw [Ty.h]; omega
theorem head_mem {l:List Ty} (h:l.length=1):l.headD default ∈ l:=by
  match l,h with
  | [x],_=>simp
theorem widN_more:∀ {n m:Nat} {a b:Ty},a.h<=n->a.h<=m->widN n a b=widN m a b
  | 0,_,a,_,h,_=>by have:=h_pos a; omega
  | _ + 1,0,a,_,_,h=>by have:=h_pos a; omega
  | n + 1,m + 1,a,b,h1,h2=>by
    rw [widN,widN]
    by_cases hl:a.e.length=1
    · have hh:=Ty.h_e (head_mem hl)
      rw [widN_more (n:=n) (m:=m) (by omega) (by omega)]
    · simp [hl]
theorem widF_step (a b:Ty):widF a b=(tyB a b || (decide (a.k=b.k) && decide (a.n=b.n) && (bif decide (a.k=5) then decide (a.e.length=1) && decide (b.e.length=1) && decide (a.s<=b.s) && widF (a.e.headD default) (b.e.headD default)
      else (decide (a.k=2) || decide (a.k=3) || decide (a.k=4)) && decide (a.s < b.s) && tyB a (.mk b.k a.s b.n b.e)))):=by
  obtain ⟨m,hm⟩:∃ m,a.h=m + 1:=⟨a.h - 1,by have:=h_pos a; omega⟩
  unfold widF
  rw [hm,widN]
  by_cases hl:a.e.length=1
  · have hh:=Ty.h_e (head_mem hl)
    rw [widN_more (n:=m) (m:=(a.e.headD default).h) (by omega) (Nat.le_refl _)]
  · simp [hl]
theorem widF_iff {a b:Ty}:widF a b=true ↔ a=b\/(a.k=b.k/\a.n=b.n/\((a.k=5/\a.e.length=1/\b.e.length=1/\a.s<=b.s/\widF (a.e.headD default) (b.e.headD default)=true)\/(a.k ≠ 5/\(a.k=2\/a.k=3\/a.k=4)/\a.s < b.s/\a.e=b.e))):=by
  rw [widF_step]
  have hx:tyB a (.mk b.k a.s b.n b.e)=true ↔ (a.k=b.k/\a.n=b.n/\a.e=b.e):=by
    rw [tyB_iff]
    cases a with
    | mk k s n e=>simp [Ty.k,Ty.s,Ty.n,Ty.e]
  by_cases h5:a.k=5
  · simp only [Bool.or_eq_true,Bool.and_eq_true,decide_eq_true_eq,tyB_iff,h5,decide_true,Bool.cond_true,true_and,not_true,ne_eq,false_and,or_false]
    simp only [and_assoc]
  · simp only [Bool.or_eq_true,Bool.and_eq_true,decide_eq_true_eq,tyB_iff,h5,decide_false,Bool.cond_false,false_and,false_or,ne_eq,not_false_eq_true,true_and,hx]
    constructor
    · rintro (h | ⟨⟨h1,h2⟩,⟨h3,h4⟩,h5,h6,h7⟩)
      · exact .inl h
      · exact .inr ⟨h1,h2,by omega,h4,h7⟩
    · rintro (h | ⟨h1,h2,h3,h4,h5⟩)
      · exact .inl h
      · exact .inr ⟨⟨h1,h2⟩,⟨by omega,h4⟩,h1,h2,h5⟩
end Go.Proofs.YtbcnggkldclemaaGreat
namespace Go.Proofs.YtbcnggkldclemaaGreat
open Go.W
structure Is where
  k:Int
  n:Int
  t:ByteArray
instance:Inhabited Is:=⟨⟨0,0,ByteArray.empty⟩⟩
theorem is_eq {a b:Is}:a=b ↔ (a.k=b.k/\a.n=b.n/\a.t=b.t):=by cases a; cases b; simp
instance:DecidableEq Is:=fun _ _=>decidable_of_iff _ is_eq.symm
def isC (x:Is):List C:=[.vl (.int .i64 x.k),.vl (.int .i64 x.n),.vl (.string x.t)]
theorem isC_inj {a b:Is} (h:isC a=isC b):a=b:=by
  rw [is_eq]
  simpa [isC] using h
def addF (l:List Is) (x:Is):List Is:=bif l.any (fun y=>decide (x=y)) then l else l ++ [x]
def addA (l xs:List Is):List Is:=xs.foldl addF l
theorem addA_app (l xs ys:List Is):addA l (xs ++ ys)=addA (addA l xs) ys:=List.foldl_append
theorem addA_nil (l:List Is):addA l []=l:=rfl
theorem addA_one (l:List Is) (x:Is):addA l [x]=addF l x:=rfl
theorem hasI_iff {l:List Is} {x:Is}:l.any (fun y=>decide (x=y))=true ↔ x ∈ l:=by
  rw [List.any_eq_true]
  constructor
  · rintro ⟨y,h1,h2⟩
    rw [of_decide_eq_true h2]; exact h1
  · intro h
    exact ⟨x,h,by simp⟩
theorem addF_mem {l:List Is} {x y:Is}:y ∈ addF l x ↔ y ∈ l\/y=x:=by
  unfold addF
  cases h:l.any (fun y=>decide (x=y)) with
  | true=>
    have:=hasI_iff.1 h
    rw [Bool.cond_true]
    constructor
    · exact .inl
    · rintro (h | rfl)
      · exact h
      · exact this
  | false=>simp
theorem addA_mem {y:Is}:∀ {xs l:List Is},y ∈ addA l xs ↔ y ∈ l\/y ∈ xs
  | [],l=>by simp [addA]
  | x :: xs,l=>by
    show y ∈ addA (addF l x) xs ↔ _
    rw [addA_mem,addF_mem,List.mem_cons,or_assoc]
theorem addF_nd {l:List Is} {x:Is} (h:l.Nodup):(addF l x).Nodup:=by
  unfold addF
  cases h1:l.any (fun y=>decide (x=y)) with
  | true=>exact h
  | false=>
    have:x ∉ l:=fun hx=>by rw [hasI_iff.2 hx] at h1; cases h1
    rw [Bool.cond_false,List.nodup_append]
    exact ⟨h,by simp,fun a ha b hb e=>by simp at hb; subst hb; subst e; exact this ha⟩
theorem addA_nd:∀ {xs l:List Is},l.Nodup->(addA l xs).Nodup
  | [],_,h=>h
  | x :: xs,l,h=>addA_nd (xs:=xs) (l:=addF l x) (addF_nd h)
theorem addF_len (l:List Is) (x:Is):(addF l x).length<=l.length + 1:=by
  unfold addF
  cases l.any (fun y=>decide (x=y))<;>simp
theorem addA_len:∀ (xs l:List Is),(addA l xs).length<=l.length + xs.length
  | [],l=>Nat.le_refl _
  | x :: xs,l=>by
    have h1:=addA_len xs (addF l x)
    have h2:=addF_len l x
    show (addA (addF l x) xs).length<=_
    rw [List.length_cons]; omega
def ltI (a b:Is):Prop:=ltS a.t b.t\/(a.t=b.t/\(a.k < b.k\/(a.k=b.k/\a.n < b.n)))
theorem ltI_irrefl (a:Is):¬ ltI a a:=by
  rintro (h | ⟨_,h | ⟨_,h⟩⟩)
  · exact ltS_irrefl _ h
  · omega
  · omega
theorem ltI_trans {a b c:Is} (h:ltI a b) (h2:ltI b c):ltI a c:=by
  rcases h with h | ⟨e,h⟩
  · rcases h2 with h2 | ⟨e2,h2⟩
    · exact .inl (ltS_trans h h2)
    · exact .inl (e2 ▸ h)
  · rcases h2 with h2 | ⟨e2,h2⟩
    · exact .inl (e ▸ h2)
    · exact .inr ⟨e.trans e2,by omega⟩
theorem ltI_total {a b:Is} (h:¬ ltI a b) (h2:a ≠ b):ltI b a:=by
  by_cases e:a.t=b.t
  · refine .inr ⟨e.symm,?_⟩
    have h3:¬ (a.k < b.k\/(a.k=b.k/\a.n < b.n)):=fun h3=>h (.inr ⟨e,h3⟩)
    have h4:¬ (a.k=b.k/\a.n=b.n):=fun h4=>h2 (is_eq.2 ⟨h4.1,h4.2,e⟩)
    omega
  · exact .inl (ltS_total (fun h3=>h (.inl h3)) e)
noncomputable def ltIB (a b:Is):Bool:=@decide (ltI a b) (Classical.propDecidable _)
theorem ltIB_iff {a b:Is}:ltIB a b=true ↔ ltI a b:=by unfold ltIB; simp
def AscI (l:List Is):Prop:=l.Pairwise ltI
theorem ascI_ext:∀ {a b:List Is},AscI a->AscI b->(∀ x,x ∈ a ↔ x ∈ b)->a=b
  | [],[],_,_,_=>rfl
  | [],y :: b,_,_,h=>by have:=(h y).2 List.mem_cons_self; cases this
  | x :: a,[],_,_,h=>by have:=(h x).1 List.mem_cons_self; cases this
  | x :: a,y :: b,h1,h2,h=>by
    obtain ⟨p1,p2⟩:=List.pairwise_cons.1 h1
    obtain ⟨p3,p4⟩:=List.pairwise_cons.1 h2
    have e:x=y:=by
      rcases List.mem_cons.1 ((h x).1 List.mem_cons_self) with e | e
      · exact e
      · rcases List.mem_cons.1 ((h y).2 List.mem_cons_self) with e2 | e2
        · exact e2.symm
        · exact absurd (ltI_trans (p1 y e2) (p3 x e)) (ltI_irrefl x)
    subst e
    rw [ascI_ext p2 p4 fun z=>?_]
    constructor
    · intro hz
      rcases List.mem_cons.1 ((h z).1 (List.mem_cons_of_mem _ hz)) with e | e
      · exact absurd (p1 z hz) (by rw [e]; exact ltI_irrefl x)
      · exact e
    · intro hz
      rcases List.mem_cons.1 ((h z).2 (List.mem_cons_of_mem _ hz)) with e | e
      · exact absurd (p3 z hz) (by rw [e]; exact ltI_irrefl x)
      · exact e
theorem ascI_of {l' l:List Is} (hp:l'.Perm l) (hn:l.Nodup) (hs:l'.Pairwise fun a b=>ltIB b a=false):AscI l':=by
  have hn':l'.Nodup:=hp.nodup_iff.2 hn
  refine List.Pairwise.imp₂ (fun a b h1 h2=>?_) hs hn'
  have h3:¬ ltI b a:=fun h=>by rw [ltIB_iff.2 h] at h1; cases h1
  exact ltI_total h3 (fun e=>h2 e.symm)
noncomputable def putJ (x:Is):Bool->List Is->List Is
  | d,[]=>bif d then [] else [x]
  | d,y :: r=>bif !(d || decide (y=x)) && ltIB x y then x :: y :: putJ x true r else y :: putJ x (d || decide (y=x)) r
theorem putJ_true (x:Is):∀ l,putJ x true l=l
  | []=>rfl
  | y :: r=>by rw [putJ,Bool.true_or,putJ_true x r]; rfl
theorem putJ_mem {x z:Is}:∀ {l:List Is},z ∈ putJ x false l ↔ z=x\/z ∈ l
  | []=>by simp [putJ]
  | y :: r=>by
    rw [putJ,putJ_true,Bool.false_or]
    by_cases c2:y=x
    · subst c2
      simp [putJ_true]
    · rw [decide_eq_false c2]
      cases c1:ltIB x y with
      | true=>simp
      | false=>
        have:=putJ_mem (x:=x) (z:=z) (l:=r)
        simp [this]
        constructor
        · rintro (h | h | h)
          · exact .inr (.inl h)
          · exact .inl h
          · exact .inr (.inr h)
        · rintro (h | h | h)
          · exact .inr (.inl h)
          · exact .inl h
          · exact .inr (.inr h)
theorem putJ_asc {x:Is}:∀ {l:List Is},AscI l->AscI (putJ x false l)
  | [],_=>by simp [putJ,AscI]
  | y :: r,h=>by
    obtain ⟨p1,p2⟩:=List.pairwise_cons.1 h
    rw [putJ,putJ_true,Bool.false_or]
    by_cases c2:y=x
    · rw [decide_eq_true c2,putJ_true]; exact h
    · rw [decide_eq_false c2]
      cases c1:ltIB x y with
      | true=>
        have c1:=ltIB_iff.1 c1
        refine List.pairwise_cons.2 ⟨fun z hz=>?_,h⟩
        rcases List.mem_cons.1 hz with rfl | hz
        · exact c1
        · exact ltI_trans c1 (p1 z hz)
      | false=>
        have c1:¬ ltI x y:=fun h=>by rw [ltIB_iff.2 h] at c1; cases c1
        refine List.pairwise_cons.2 ⟨fun z hz=>?_,putJ_asc p2⟩
        rcases putJ_mem.1 hz with rfl | hz
        · exact ltI_total c1 (fun e=>c2 e.symm)
        · exact p1 z hz
noncomputable def putA (l xs:List Is):List Is:=xs.foldl (fun l x=>putJ x false l) l
theorem putA_mem {y:Is}:∀ {xs l:List Is},y ∈ putA l xs ↔ y ∈ l\/y ∈ xs
  | [],l=>by simp [putA]
  | x :: xs,l=>by
    show y ∈ putA (putJ x false l) xs ↔ _
    rw [putA_mem,putJ_mem,List.mem_cons,or_assoc,or_left_comm]
theorem putA_asc:∀ {xs l:List Is},AscI l->AscI (putA l xs)
  | [],_,h=>h
  | x :: xs,l,h=>putA_asc (xs:=xs) (l:=putJ x false l) (putJ_asc h)
end Go.Proofs.YtbcnggkldclemaaGreat
namespace Go.Proofs.YtbcnggkldclemaaGreat
open Go.W
theorem okS_true {s:Sc} {n:ByteArray} (h:okS s n=true):checkF s=0/\hasS s.ss n=true:=by
  unfold okS at h; simpa using h
theorem hasS_some {ss:List St} {n:ByteArray} (h:hasS ss n=true):∃ t,fS ss n=some t:=by
  rw [<-fS_has] at h; exact Option.isSome_iff_exists.1 h
end Go.Proofs.YtbcnggkldclemaaGreat
namespace Go.Proofs.YtbcnggkldclemaaGreat
open Go.W
theorem usL_len {s:Sc} (h:s.fit) (n:ByteArray):(usL s n).length<=32:=by
  unfold usL
  cases hok:okS s n with
  | false=>exact Nat.zero_le _
  | true=>
    have:=(check_good h (okS_true hok).1).1.vlen n
    rw [Bool.cond_true,usesF_len]; exact this
theorem usL_bs {s:Sc} (h:s.fit) (n:ByteArray):isBs ((usL s n).map stR):=isBs_mk (by have:=usL_len h n; omega)
theorem cf_next {ss:List St} {es:List En} {t:St} (h:cfF ss es t=0) {i:Nat} {f g:Fl} (hf:t.fs[i]? = some f) (hg:t.fs[i + 1]? = some g):f.num < g.num:=by
  have:=fE_zero h (i + 1) (List.getElem?_eq_some_iff.1 hg).1
  unfold cfAt at this
  rw [hg] at this
  simp only [Nat.add_sub_cancel,hf] at this
  cases c1:decide (g.num < 1) || decide (127 < g.num) with
  | true=>rw [c1] at this; simp at this
  | false=>
  rw [c1] at this
  simp only [Bool.cond_false] at this
  have c0:decide (0 < ((i + 1:Nat):Int))=true:=decide_eq_true (by omega)
  rw [c0,Bool.true_and] at this
  by_cases c2:g.num<=f.num
  · rw [decide_eq_true c2] at this; simp at this
  · omega
theorem cf_asc {ss:List St} {es:List En} {t:St} (h:cfF ss es t=0):t.fs.Pairwise fun f g=>f.num < g.num:=by
  rw [List.pairwise_iff_getElem]
  have key:∀ d i (hi:i < t.fs.length) (hj:i + d + 1 < t.fs.length),t.fs[i].num < t.fs[i + d + 1].num:=by
    intro d
    induction d with
    | zero=>intro i hi hj; exact cf_next h (List.getElem?_eq_getElem hi) (List.getElem?_eq_getElem hj)
    | succ d ih=>
      intro i hi hj
      have h1:=ih i hi (by omega)
      have h2:=cf_next h (List.getElem?_eq_getElem (show i + d + 1 < t.fs.length by omega)) (List.getElem?_eq_getElem (show i + d + 1 + 1 < t.fs.length by omega))
      have:i + (d + 1) + 1=i + d + 1 + 1:=by omega
      simp only [this]
      omega
  intro i j hi hj hij
  obtain ⟨d,rfl⟩:∃ d,j=i + d + 1:=⟨j - i - 1,by omega⟩
  exact key d i hi hj
theorem fF_of_asc:∀ {l:List Fl},l.Pairwise (fun f g=>f.num < g.num)->∀ {f:Fl},f ∈ l->fF l f.num=some f
  | [],_,f,h=>by cases h
  | x :: l,h,f,hf=>by
    obtain ⟨h1,h2⟩:=List.pairwise_cons.1 h
    unfold fF
    rw [List.find?_cons]
    rcases List.mem_cons.1 hf with rfl | hf
    · simp
    · have:decide (x.num=f.num)=false:=by have:=h1 f hf; simp; omega
      rw [this]
      exact fF_of_asc h2 hf
theorem fF_some {l:List Fl} {k:Int} {f:Fl} (h:fF l k=some f):f ∈ l/\f.num=k:=by
  refine ⟨List.mem_of_find?_eq_some h,?_⟩
  have:=List.find?_some h
  simpa using this
theorem str_good {s:Sc} (hf:s.fit) (h:checkF s=0) {n:ByteArray} (hn:hasS s.ss n=true):∃ t,fS s.ss n=some t/\t ∈ s.ss/\t.nm=n/\t.fs.length<=16/\(∀ f ∈ t.fs,(1<=f.num/\f.num<=127)/\fF t.fs f.num=some f):=by
  obtain ⟨_,_,_,h2,hl,_⟩:=check_good hf h
  obtain ⟨t,ht⟩:=hasS_some hn
  obtain ⟨htm,hnm⟩:=fS_mem ht
  obtain ⟨i,hi⟩:=List.mem_iff_getElem?.1 htm
  have hc:=(st_zero hi (fE_zero h2 i (List.getElem?_eq_some_iff.1 hi).1)).2
  exact ⟨t,ht,htm,hnm,(large_false hl).2.2.2 t htm,fun f hm=>⟨(cf_zero hc f hm).1,fF_of_asc (cf_asc hc) hm⟩⟩
theorem enu_good {s:Sc} (hf:s.fit) (h:checkF s=0) {n:ByteArray} {e:En} (he:fEn s.es n=some e):e.vs.length=e.ns.length/\e.ns.length<=16:=by
  obtain ⟨_,_,h1,_,hl,_⟩:=check_good hf h
  obtain ⟨hem,_⟩:=fEn_mem he
  obtain ⟨i,hi⟩:=List.mem_iff_getElem?.1 hem
  have hc:=(en_zero hi (fE_zero h1 i (List.getElem?_eq_some_iff.1 hi).1)).2.2
  unfold ceF at hc
  cases c:decide (e.ns.length=0) || decide (e.ns.length ≠ e.vs.length) with
  | true=>rw [c] at hc; simp at hc
  | false=>
    simp at c
    exact ⟨c.2.symm,(large_false hl).2.2.1 e hem⟩
theorem enu_vs {s:Sc} (hf:s.fit) (h:checkF s=0) {n:ByteArray} {e:En} (he:fEn s.es n=some e):∀ v ∈ e.vs,0<=v/\v<=127:=by
  intro v hv
  have hl:=enu_good hf h he
  obtain ⟨_,_,h1,_,_,_⟩:=check_good hf h
  obtain ⟨hem,_⟩:=fEn_mem he
  obtain ⟨i,hi⟩:=List.mem_iff_getElem?.1 hem
  have hc:=(en_zero hi (fE_zero h1 i (List.getElem?_eq_some_iff.1 hi).1)).2.2
  unfold ceF at hc
  cases c:decide (e.ns.length=0) || decide (e.ns.length ≠ e.vs.length) with
  | true=>rw [c] at hc; simp at hc
  | false=>
    rw [c,Bool.cond_false] at hc
    obtain ⟨k,hk⟩:=List.mem_iff_getElem?.1 hv
    have hkl:=(List.getElem?_eq_some_iff.1 hk).1
    have hz:=fE_zero (f:=ceAt e) (m:=e.ns.length) hc k (by omega)
    have hn:e.ns[k]? = some e.ns[k]:=List.getElem?_eq_getElem (by omega)
    unfold ceAt at hz
    rw [hk,hn] at hz
    simp only at hz
    cases d1:isNm (bl e.ns[k]) with
    | false=>rw [d1] at hz; simp at hz
    | true=>
    rw [d1] at hz
    cases d2:inB (e.ns.take k) e.ns[k] with
    | true=>rw [d2] at hz; simp at hz
    | false=>
    rw [d2] at hz
    cases d3:decide (v < 0) || decide (127 < v) with
    | true=>rw [d3] at hz; simp at hz
    | false=>
      simp only [Bool.or_eq_false_iff,decide_eq_false_iff_not] at d3
      omega
noncomputable def isA (nm:ByteArray) (b:St) (f:Fl):List Is:=match fF b.fs f.num with
  | none=>bif f.opt then [] else [⟨2,f.num,nm⟩]
  | some g=>(bif widF f.ty g.ty then [] else [⟨1,f.num,nm⟩]) ++ (bif f.opt == g.opt then [] else [⟨3,f.num,nm⟩])
def isB (nm:ByteArray) (a:St) (g:Fl):List Is:=bif (fF a.fs g.num).isNone && !g.opt then [⟨2,g.num,nm⟩] else []
noncomputable def cmpS (nm:ByteArray) (a b:St):List Is:=a.fs.flatMap (isA nm b) ++ b.fs.flatMap (isB nm a)
def cmpV (nm:ByteArray) (vs:List Int) (e:En):List Is:=(vs.filter fun v=>!(e.vs.any fun w=>decide (v=w))).map fun v=>⟨4,v,nm⟩
def cmpE (nm:ByteArray) (d e:En):List Is:=cmpV nm d.vs e
noncomputable def cmpN (o n:Sc) (x:ByteArray):List Is:=bif hasS o.ss x != hasS n.ss x then [⟨5,0,x⟩] else
  (bif hasS o.ss x then cmpS x ((fS o.ss x).getD default) ((fS n.ss x).getD default) else []) ++ (bif hasE o.es x && hasE n.es x then cmpE x ((fEn o.es x).getD default) ((fEn n.es x).getD default) else [])
def nmsF (o n:Sc) (x:ByteArray):List ByteArray:=x :: (usL o x).filter (inB (usL n x))
noncomputable def rawI (o n:Sc) (x:ByteArray):List Is:=(nmsF o n x).flatMap (cmpN o n)
noncomputable def issF (o n:Sc) (x:ByteArray):List Is:=bif (checkF o != 0) || (checkF n != 0) then [] else putA [] (rawI o n x)
noncomputable def coF (o n:Sc) (x:ByteArray):Bool:=bif (checkF o != 0) || (checkF n != 0) then false else hasS o.ss x && hasS n.ss x && (((issF o n x).length:Int) == 0)
theorem ascI_nil:AscI []:=.nil
theorem iss_sorted {raw l':List Is} (hp:l'.Perm (addA [] raw)) (hs:l'.Pairwise fun a b=>ltIB b a=false):l'=putA [] raw:=by
  refine ascI_ext (ascI_of hp (addA_nd .nil) hs) (putA_asc ascI_nil) fun x=>?_
  rw [hp.mem_iff,addA_mem,putA_mem]
theorem fm_le {α β:Type} {f:α->List β} {k:Nat}:∀ {l:List α},(∀ a ∈ l,(f a).length<=k)->(l.flatMap f).length<=l.length * k
  | [],_=>by simp
  | x :: l,h=>by
    have h1:=fm_le fun a ha=>h a (List.mem_cons_of_mem _ ha)
    have h2:=h x List.mem_cons_self
    rw [List.flatMap_cons,List.length_append,List.length_cons,Nat.succ_mul]; omega
theorem isA_len (nm:ByteArray) (b:St) (f:Fl):(isA nm b f).length<=2:=by
  unfold isA
  split
  · cases f.opt<;>simp
  · rename_i g _
    cases widF f.ty g.ty<;>cases (f.opt == g.opt)<;>simp
theorem isB_len (nm:ByteArray) (b:St) (f:Fl):(isB nm b f).length<=1:=by
  unfold isB
  cases (fF b.fs f.num).isNone && !f.opt<;>simp
end Go.Proofs.YtbcnggkldclemaaGreat
namespace Go.Proofs.YtbcnggkldclemaaGreat
open Go.W
theorem ieq (a b:Int):(a == b)=decide (a=b):=rfl
def isIs (rs:List (List C)):Prop:=∃ l:List Int,rs=l.map inR/\l.length<=9223372036854775807
theorem isIs_mk {l:List Int} (h:l.length<=9223372036854775807):isIs (l.map inR):=⟨l,rfl,h⟩
def ciPre:List S->Prop:=fun av=>match av with
  | [.va (.c1 (.fz rs)),.va (.c1 (.vl (.int .i64 _)))]=>isIs rs
  | _=>False
theorem ciPre_open {av:List S} (h:ciPre av):∃ (l:List Int) (x:Int),av=[.va (.c1 (.fz (l.map inR))),iS .i64 x]/\l.length<=9223372036854775807:=by
  unfold ciPre at h
  split at h
  · obtain ⟨l,rfl,h⟩:=h; exact ⟨l,_,rfl,h⟩
  · exact h.elim
noncomputable def ciVal (f:List Int->Int->Value):List S->A:=fun av=>match av with
  | [.va (.c1 (.fz rs)),.va (.c1 (.vl (.int .i64 x)))]=>.c1 (.vl (f (rs.map C.it) x))
  | _=>.gs []
noncomputable def ciFn (f:List Int->Int->Value):Fun:=⟨ciPre,ciVal f,fun av h=>by obtain ⟨l,x,rfl,_⟩:=ciPre_open h; trivial⟩
theorem ciFn_len {f}:∀ av H K,(ciFn f).sp av H K->av.length=2:=fun av H K h=>by obtain ⟨l,x,rfl,_⟩:=ciPre_open h.1.1; rfl
attribute [go_sem] ciFn ciPre ciVal
def ixI:List Int->Int->Nat->Int
  | [],_,_=>-1
  | y :: l,x,i=>bif decide (x=y) then (i:Int) else ixI l x (i + 1)
def inI (l:List Int) (x:Int):Bool:=l.any fun y=>decide (x=y)
theorem ixI_has:∀ (l:List Int) (x:Int) (i:Nat),decide (0<=ixI l x i)=inI l x
  | [],_,_=>by simp [ixI,inI]
  | y :: l,x,i=>by
    simp only [ixI]
    by_cases h:x=y
    · simp [h,inI]
    · have:=ixI_has l x (i + 1)
      simp [h,inI] at this ⊢; exact this
set_option maxRecDepth 100000 in
theorem mIndexI:Meets Tryz.prog 54 (ciFn fun l x=>.int .i64 (ixI l x 0)).sp:=by
  refine meets_fn Tryz.func54 ok54 2 (by rw [Tryz.ntmps54]; decide) (meetsAll_nil _) ciFn_len ?_
  rintro av H K ⟨⟨h,rfl⟩,hK⟩
  obtain ⟨l,x,rfl,hl⟩:=ciPre_open h
  have hK:K (iS .i64 (ixI l x 0)) []:=by
    have:(ciFn fun l x=>.int .i64 (ixI l x 0)).val [.va (.c1 (.fz (l.map inR))),iS .i64 x]=iA .i64 (ixI l x 0):=by simp -dsimp only [go_sem]
    rw [this] at hK; exact hK
  simp -dsimp only [go_sem,pc54,rs54]
  refine vc_loop (α:=Nat) (fun i=>[(0,.va (.c1 (.fz (l.map inR)))),(1,iS .i64 x),(7,iS .i64 l.length),(8,iS .i64 i)]) (fun _=>[])
    (fun i=>i<=l.length/\ixI (l.drop i) x i=ixI l x 0) (fun i=>l.length - i) 0 0 ⟨Nat.zero_le _,rfl⟩ ?_ ?_ ?_
  · simp [go_sem]
  · simp [go_sem]
  rintro i ⟨hi,ho⟩
  rcases Nat.lt_or_ge i l.length with hlt | hge
  · have hg:decide ((i:Int) < (l.length:Int))=true:=by simp; omega
    have hx:l[i]? = some l[i]:=List.getElem?_eq_getElem hlt
    have q1:=row_rg (row:=inR) hx
    have q2:=row_rg' (row:=inR) hx
    rw [List.drop_eq_getElem_cons hlt] at ho
    simp only [ixI] at ho
    generalize l[i]=y at *
    cases hc:decide (x=y) with
    | true=>
      rw [hc,Bool.cond_true] at ho
      simp -dsimp only [go_sem,hg,↓q2,hc,ieq]
      and_intros
      all_goals first
        | omega
        | exact .done (by rw [ho]; exact hK)
    | false=>
      rw [hc,Bool.cond_false] at ho
      simp -dsimp only [go_sem,hg,↓q2,hc,ieq]
      and_intros
      all_goals first
        | omega
        | skip
      refine loop_next (i + 1) 0 ⟨by omega,ho⟩ (by omega) ?_ ?_
      · simp [go_sem]
      · simp [go_sem]
  · have hg:decide ((i:Int) < (l.length:Int))=false:=by simp; omega
    have:l.drop i=[]:=List.drop_eq_nil_iff.2 (by omega)
    rw [this] at ho
    simp -dsimp only [go_sem,hg]
    exact .done (by rw [show (-1:Int)=ixI l x 0 from ho]; exact hK)
theorem mContainsI:Meets Tryz.prog 25 (ciFn fun l x=>.bool (inI l x)).sp:=by
  refine meets_fn Tryz.func25 ok25 2 (by rw [Tryz.ntmps25]; decide) (meetsAll_f mIndexI (meetsAll_nil _)) ciFn_len ?_
  rintro av H K ⟨⟨h,rfl⟩,hK⟩
  obtain ⟨l,x,rfl,hl⟩:=ciPre_open h
  have hK:K (bS (inI l x)) []:=by
    have:(ciFn fun l x=>.bool (inI l x)).val [.va (.c1 (.fz (l.map inR))),iS .i64 x]=bA (inI l x):=by simp -dsimp only [go_sem]
    rw [this] at hK; exact hK
  simp -dsimp only [go_sem,pc25,rs25,isIs_mk hl,ixI_has]
  exact .done hK
end Go.Proofs.YtbcnggkldclemaaGreat
namespace Go.Proofs.YtbcnggkldclemaaGreat
open Go.W
def pc11_13:PC:=.seq (.gh (.reg [⟨some 66,none,.l (.ldn 3 (.t 3))⟩,⟨some 67,none,.q (.mv (.t 9))⟩,⟨some 68,none,.cl 24 [(.t 66),(.t 67)] []⟩,⟨some 65,none,.q (.mv (.t 68))⟩,⟨some 69,none,.q (.ex (.t 65) 0)⟩,⟨some 70,none,.q (.ex (.t 65) 1)⟩,⟨some 14,none,.e (.al (.agg #[(.string (mk [])),(.slice none 0 0),(.slice none 0 0)]) 60)⟩,⟨none,none,.e (.st 3 (.t 14) (.t 69))⟩,⟨some 15,none,.q (.mv (.t 70))⟩])) (.seq (.reg [⟨some 72,none,.l (.ldn 3 (.t 4))⟩,⟨some 73,none,.q (.mv (.t 9))⟩,⟨some 74,none,.cl 24 [(.t 72),(.t 73)] []⟩,⟨some 71,none,.q (.mv (.t 74))⟩,⟨some 75,none,.q (.ex (.t 71) 0)⟩,⟨some 76,none,.q (.ex (.t 71) 1)⟩,⟨some 16,none,.e (.al (.agg #[(.string (mk [])),(.slice none 0 0),(.slice none 0 0)]) 60)⟩,⟨none,none,.e (.st 3 (.t 16) (.t 75))⟩,⟨some 17,none,.q (.mv (.t 76))⟩]) (.seq (.reg [⟨some 77,none,.q (.fa 2 (.t 14))⟩,⟨some 78,none,.l (.ld1 (.t 77))⟩,⟨some 79,none,.q (.lnL (.t 78))⟩,⟨some 80,none,.q (.mv (.k (.int .i64 0)))⟩]) (.block 3 (.loop (.seq (.reg [⟨some 81,none,.q (.bin .lss true (.t 80) (.t 79))⟩]) (.seq (.cond (.t 81) .skip (.exit 3)) (.seq (.block 4 (.seq (.reg [⟨some 82,none,.l (.ia 1 (.t 78) (.t 80))⟩,⟨some 83,none,.l (.ld1 (.t 82))⟩,⟨some 19,none,.q (.mv (.t 83))⟩]) (.seq (.reg [⟨some 84,none,.q (.mv (.t 15))⟩,⟨some 85,none,.q (.mv (.t 84))⟩,⟨some 86,(some (85,true)),.q (.mv (.t 17))⟩,⟨some 87,none,.pick (.t 85) (.t 86) (.k (.bool false))⟩,⟨some 88,none,.q (.mv (.t 87))⟩,⟨some 89,(some (88,true)),.q (.fa 2 (.t 16))⟩,⟨some 90,(some (88,true)),.l (.ld1 (.t 89))⟩,⟨some 91,(some (88,true)),.q (.mv (.t 19))⟩,⟨some 92,(some (88,true)),.cq 25 [(.t 90),(.t 91)]⟩,⟨some 93,(some (88,true)),.q (.not (.t 92))⟩,⟨some 94,none,.pick (.t 88) (.t 93) (.k (.bool false))⟩]) (.cond (.t 94) (.reg [⟨some 95,none,.q (.mv (.t 7))⟩,⟨some 96,none,.q (.mv (.t 19))⟩,⟨some 97,none,.q (.mv (.t 9))⟩,⟨some 98,none,.cl 22 [(.t 95),(.k (.int .i64 4)),(.t 96),(.t 97)] [2,3]⟩]) .skip)))) (.reg [⟨some 99,none,.q (.bin .add true (.t 80) (.k (.int .i64 1)))⟩,⟨some 80,none,.q (.mv (.t 99))⟩]))))))))
@[go_sem ↓] theorem fold11_13 (Γ:Env) (k0:Nat) (fr:Fr) (H:Hp) (K:Ex->Fr->Hp->Prop):vc Γ k0 pc11_13 fr H K=vcn Γ k0 pc11_13 fr H K ⟨⟩:=rfl
def pc11:PC:=.seq (.reg [⟨some 3,none,.e (.bx 25 (.t 0))⟩,⟨some 4,none,.e (.bx 25 (.t 1))⟩,⟨some 6,none,.q (.mv (.k (.slice none 0 0)))⟩]) (.seq (.seq (.reg [⟨some 20,none,.l (.ldn 3 (.t 3))⟩,⟨some 21,none,.cq 14 [(.t 20)]⟩,⟨some 22,none,.q (.bin .neq true (.t 21) (.k (.int .i64 0)))⟩,⟨some 23,none,.q (.mv (.t 22))⟩,⟨some 24,(some (23,false)),.l (.ldn 3 (.t 4))⟩,⟨some 25,(some (23,false)),.cq 14 [(.t 24)]⟩,⟨some 26,(some (23,false)),.q (.bin .neq true (.t 25) (.k (.int .i64 0)))⟩,⟨some 27,none,.pick (.t 23) (.k (.bool true)) (.t 26)⟩]) (.cond (.t 27) (.seq (.reg [⟨some 6,none,.q (.mv (.k (.slice none 0 0)))⟩]) .ret) .skip)) (.seq (.reg [⟨some 28,none,.q (.bd [(.slice none 0 0)] [])⟩,⟨some 29,none,.e (.bx 64 (.t 28))⟩,⟨some 7,none,.q (.mv (.t 29))⟩]) (.seq (.seq (.reg [⟨some 30,none,.l (.ldn 3 (.t 3))⟩,⟨some 31,none,.l (.ldn 3 (.t 4))⟩,⟨some 32,none,.q (.mv (.t 2))⟩,⟨some 33,none,.cl 21 [(.t 30),(.t 31),(.t 32)] []⟩,⟨some 34,none,.q (.lnL (.t 33))⟩,⟨some 35,none,.q (.mv (.k (.int .i64 0)))⟩]) (.block 0 (.loop (.seq (.reg [⟨some 36,none,.q (.bin .lss true (.t 35) (.t 34))⟩]) (.seq (.cond (.t 36) .skip (.exit 0)) (.seq (.block 1 (.seq (.reg [⟨some 37,none,.l (.ia 1 (.t 33) (.t 35))⟩,⟨some 38,none,.l (.ld1 (.t 37))⟩,⟨some 9,none,.q (.mv (.t 38))⟩]) (.seq (.reg [⟨some 40,none,.l (.ldn 3 (.t 3))⟩,⟨some 41,none,.q (.mv (.t 9))⟩,⟨some 42,none,.cl 13 [(.t 40),(.t 41)] []⟩,⟨some 39,none,.q (.mv (.t 42))⟩,⟨some 43,none,.q (.ex (.t 39) 0)⟩,⟨some 44,none,.q (.ex (.t 39) 1)⟩,⟨some 10,none,.e (.al (.agg #[(.string (mk [])),(.slice none 0 0)]) 45)⟩,⟨none,none,.e (.st 2 (.t 10) (.t 43))⟩,⟨some 11,none,.q (.mv (.t 44))⟩]) (.seq (.reg [⟨some 46,none,.l (.ldn 3 (.t 4))⟩,⟨some 47,none,.q (.mv (.t 9))⟩,⟨some 48,none,.cl 13 [(.t 46),(.t 47)] []⟩,⟨some 45,none,.q (.mv (.t 48))⟩,⟨some 49,none,.q (.ex (.t 45) 0)⟩,⟨some 50,none,.q (.ex (.t 45) 1)⟩,⟨some 12,none,.e (.al (.agg #[(.string (mk [])),(.slice none 0 0)]) 45)⟩,⟨none,none,.e (.st 2 (.t 12) (.t 49))⟩,⟨some 13,none,.q (.mv (.t 50))⟩]) (.seq (.block 2 (.seq (.reg [⟨some 52,none,.q (.mv (.t 11))⟩,⟨some 53,none,.q (.mv (.t 13))⟩,⟨some 54,none,.q (.eqB true (.t 52) (.t 53))⟩,⟨some 51,none,.q (.mv (.t 54))⟩]) (.cond (.t 51) (.seq (.reg [⟨some 55,none,.q (.mv (.t 7))⟩,⟨some 56,none,.q (.mv (.t 9))⟩,⟨some 57,none,.cl 22 [(.t 55),(.k (.int .i64 5)),(.k (.int .i64 0)),(.t 56)] [2,3]⟩]) (.exit 1)) (.seq (.reg [⟨some 59,none,.q (.mv (.t 11))⟩,⟨some 58,none,.q (.mv (.t 59))⟩]) (.cond (.t 58) (.reg [⟨some 60,none,.q (.mv (.t 7))⟩,⟨some 61,none,.q (.mv (.t 9))⟩,⟨some 62,none,.l (.ldn 2 (.t 10))⟩,⟨some 63,none,.l (.ldn 2 (.t 12))⟩,⟨some 64,none,.cl 23 [(.t 60),(.t 61),(.t 62),(.t 63)] [2,3]⟩]) .skip))))) (pc11_13)))))) (.reg [⟨some 100,none,.q (.bin .add true (.t 35) (.k (.int .i64 1)))⟩,⟨some 35,none,.q (.mv (.t 100))⟩]))))))) (.seq (.reg [⟨some 101,none,.q (.mv (.t 7))⟩,⟨some 102,none,.q (.nc (.t 101))⟩,⟨some 103,none,.q (.fa 0 (.t 102))⟩,⟨some 104,none,.l (.ld1 (.t 103))⟩,⟨some 105,none,.cl 26 [(.t 104),(.f 27)] [3]⟩]) (.seq (.reg [⟨some 106,none,.q (.mv (.t 7))⟩,⟨some 107,none,.q (.nc (.t 106))⟩,⟨some 108,none,.q (.fa 0 (.t 107))⟩,⟨some 109,none,.l (.ld1 (.t 108))⟩,⟨some 6,none,.q (.mv (.t 109))⟩]) .ret)))))
def rs11:List RV:=[.mv (.t 6)]
theorem ok11:trFn Tryz.prog true ⟨fun r k=>if r=1/\k=1 then .q else if r=1/\k=5 then .q else if r=10/\k=2 then .own [2,3] else if r=12/\k=4 then .own [2,3] else if r=18/\k=8 then .q else if r=19/\k=3 then .own [2,3] else if r=22/\k=4 then .own [3] else .own [],fun r=>[13].contains r⟩ Tryz.f11=some (pc11,rs11):=by kernel_rfl
def pc12_5:PC:=.seq (.gh (.reg [⟨some 31,none,.q (.mv (.t 8))⟩,⟨some 32,none,.q (.mv (.t 31))⟩,⟨some 33,(some (32,true)),.q (.mv (.t 10))⟩,⟨some 34,none,.pick (.t 32) (.t 33) (.k (.bool false))⟩,⟨some 35,none,.q (.mv (.t 34))⟩,⟨some 36,(some (35,true)),.l (.ldn 3 (.t 3))⟩,⟨some 37,(some (35,true)),.l (.ldn 3 (.t 4))⟩,⟨some 38,(some (35,true)),.q (.mv (.t 2))⟩,⟨some 39,(some (35,true)),.cl 11 [(.t 36),(.t 37),(.t 38)] []⟩,⟨some 40,(some (35,true)),.q (.lnL (.t 39))⟩,⟨some 41,(some (35,true)),.q (.bin .eql true (.t 40) (.k (.int .i64 0)))⟩,⟨some 42,none,.pick (.t 35) (.t 41) (.k (.bool false))⟩,⟨some 6,none,.q (.mv (.t 42))⟩])) .ret
@[go_sem ↓] theorem fold12_5 (Γ:Env) (k0:Nat) (fr:Fr) (H:Hp) (K:Ex->Fr->Hp->Prop):vc Γ k0 pc12_5 fr H K=vcn Γ k0 pc12_5 fr H K ⟨⟩:=rfl
def pc12_4:PC:=.seq (.gh (.reg [⟨some 26,none,.l (.ldn 3 (.t 4))⟩,⟨some 27,none,.q (.mv (.t 2))⟩,⟨some 28,none,.cl 13 [(.t 26),(.t 27)] []⟩,⟨some 25,none,.q (.mv (.t 28))⟩,⟨some 29,none,.q (.ex (.t 25) 0)⟩,⟨some 30,none,.q (.ex (.t 25) 1)⟩,⟨some 9,none,.e (.al (.agg #[(.string (mk [])),(.slice none 0 0)]) 45)⟩,⟨none,none,.e (.st 2 (.t 9) (.t 29))⟩,⟨some 10,none,.q (.mv (.t 30))⟩])) (pc12_5)
@[go_sem ↓] theorem fold12_4 (Γ:Env) (k0:Nat) (fr:Fr) (H:Hp) (K:Ex->Fr->Hp->Prop):vc Γ k0 pc12_4 fr H K=vcn Γ k0 pc12_4 fr H K ⟨⟩:=rfl
def pc12:PC:=.seq (.reg [⟨some 3,none,.e (.bx 25 (.t 0))⟩,⟨some 4,none,.e (.bx 25 (.t 1))⟩,⟨some 6,none,.q (.mv (.k (.bool false)))⟩]) (.seq (.seq (.reg [⟨some 11,none,.l (.ldn 3 (.t 3))⟩,⟨some 12,none,.cq 14 [(.t 11)]⟩,⟨some 13,none,.q (.bin .neq true (.t 12) (.k (.int .i64 0)))⟩,⟨some 14,none,.q (.mv (.t 13))⟩,⟨some 15,(some (14,false)),.l (.ldn 3 (.t 4))⟩,⟨some 16,(some (14,false)),.cq 14 [(.t 15)]⟩,⟨some 17,(some (14,false)),.q (.bin .neq true (.t 16) (.k (.int .i64 0)))⟩,⟨some 18,none,.pick (.t 14) (.k (.bool true)) (.t 17)⟩]) (.cond (.t 18) (.seq (.reg [⟨some 6,none,.q (.mv (.k (.bool false)))⟩]) .ret) .skip)) (.seq (.reg [⟨some 20,none,.l (.ldn 3 (.t 3))⟩,⟨some 21,none,.q (.mv (.t 2))⟩,⟨some 22,none,.cl 13 [(.t 20),(.t 21)] []⟩,⟨some 19,none,.q (.mv (.t 22))⟩,⟨some 23,none,.q (.ex (.t 19) 0)⟩,⟨some 24,none,.q (.ex (.t 19) 1)⟩,⟨some 7,none,.e (.al (.agg #[(.string (mk [])),(.slice none 0 0)]) 45)⟩,⟨none,none,.e (.st 2 (.t 7) (.t 23))⟩,⟨some 8,none,.q (.mv (.t 24))⟩]) (pc12_4)))
def rs12:List RV:=[.mv (.t 6)]
theorem ok12:trFn Tryz.prog true ⟨fun r k=>if r=1/\k=1 then .q else if r=1/\k=5 then .q else .own [],fun r=>[4,5].contains r⟩ Tryz.f12=some (pc12,rs12):=by kernel_rfl
def pc21:PC:=.seq (.reg [⟨some 3,none,.e (.bx 25 (.t 0))⟩,⟨some 4,none,.e (.bx 25 (.t 1))⟩,⟨some 6,none,.q (.mv (.k (.slice none 0 0)))⟩]) (.seq (.reg [⟨some 11,none,.q (.mv (.t 2))⟩,⟨some 12,none,.e (.bsl 9 1 [(.t 11)])⟩,⟨some 7,none,.q (.mv (.t 12))⟩]) (.seq (.reg [⟨some 13,none,.l (.ldn 3 (.t 4))⟩,⟨some 14,none,.q (.mv (.t 2))⟩,⟨some 15,none,.cl 49 [(.t 13),(.t 14)] []⟩,⟨some 8,none,.q (.mv (.t 15))⟩]) (.seq (.seq (.reg [⟨some 16,none,.l (.ldn 3 (.t 3))⟩,⟨some 17,none,.q (.mv (.t 2))⟩,⟨some 18,none,.cl 49 [(.t 16),(.t 17)] []⟩,⟨some 19,none,.q (.lnL (.t 18))⟩,⟨some 20,none,.q (.mv (.k (.int .i64 0)))⟩]) (.block 0 (.loop (.seq (.reg [⟨some 21,none,.q (.bin .lss true (.t 20) (.t 19))⟩]) (.seq (.cond (.t 21) .skip (.exit 0)) (.seq (.block 1 (.seq (.reg [⟨some 22,none,.l (.ia 1 (.t 18) (.t 20))⟩,⟨some 23,none,.l (.ld1 (.t 22))⟩,⟨some 10,none,.q (.mv (.t 23))⟩]) (.seq (.reg [⟨some 24,none,.q (.mv (.t 8))⟩,⟨some 25,none,.q (.mv (.t 10))⟩,⟨some 26,none,.cq 50 [(.t 24),(.t 25)]⟩]) (.cond (.t 26) (.reg [⟨some 27,none,.q (.mv (.t 7))⟩,⟨some 28,none,.q (.mv (.t 10))⟩,⟨some 29,none,.e (.bsl 9 1 [(.t 28)])⟩,⟨some 30,none,.e (.ap 9 1 16 (.t 27) (.t 29))⟩,⟨some 7,none,.q (.mv (.t 30))⟩]) .skip)))) (.reg [⟨some 31,none,.q (.bin .add true (.t 20) (.k (.int .i64 1)))⟩,⟨some 20,none,.q (.mv (.t 31))⟩]))))))) (.seq (.reg [⟨some 32,none,.q (.mv (.t 7))⟩,⟨some 6,none,.q (.mv (.t 32))⟩]) .ret))))
def rs21:List RV:=[.mv (.t 6)]
theorem ok21:trFn Tryz.prog true ⟨fun r k=>if r=6/\k=2 then .q else .own [],fun _=>false⟩ Tryz.f21=some (pc21,rs21):=by kernel_rfl
def pc22:PC:=.seq (.reg [⟨some 11,none,.q (.mv (.t 1))⟩,⟨some 12,none,.q (.mv (.t 2))⟩,⟨some 13,none,.q (.mv (.t 3))⟩,⟨some 14,none,.q (.bd [(.int .i64 0),(.int .i64 0),(.string (mk []))] [(0,1,(.t 11)),(1,1,(.t 12)),(2,1,(.t 13))])⟩,⟨some 8,none,.e (.al (.agg #[(.int .i64 0),(.int .i64 0),(.string (mk []))]) 50)⟩,⟨none,none,.e (.st 3 (.t 8) (.t 14))⟩]) (.seq (.seq (.reg [⟨some 15,none,.q (.mv (.t 0))⟩,⟨some 16,none,.q (.nc (.t 15))⟩,⟨some 17,none,.q (.fa 0 (.t 16))⟩,⟨some 18,none,.l (.ld1 (.t 17))⟩,⟨some 19,none,.q (.lnL (.t 18))⟩,⟨some 20,none,.q (.mv (.k (.int .i64 0)))⟩]) (.block 0 (.loop (.seq (.reg [⟨some 21,none,.q (.bin .lss true (.t 20) (.t 19))⟩]) (.seq (.cond (.t 21) .skip (.exit 0)) (.seq (.block 1 (.seq (.reg [⟨some 22,none,.l (.ia 3 (.t 18) (.t 20))⟩,⟨some 23,none,.l (.ldn 3 (.t 22))⟩,⟨some 10,none,.e (.al (.agg #[(.int .i64 0),(.int .i64 0),(.string (mk []))]) 50)⟩,⟨none,none,.e (.st 3 (.t 10) (.t 23))⟩]) (.seq (.reg [⟨some 24,none,.l (.ldn 3 (.t 8))⟩,⟨some 25,none,.l (.ldn 3 (.t 10))⟩,⟨some 26,none,.q (.eqT false [(0,.int .i64),(1,.int .i64),(2,.str)] (.t 24) (.t 25))⟩]) (.cond (.t 26) .ret .skip)))) (.reg [⟨some 27,none,.q (.bin .add true (.t 20) (.k (.int .i64 1)))⟩,⟨some 20,none,.q (.mv (.t 27))⟩]))))))) (.ord  [.q ⟨some 28,none,.q (.mv (.t 0))⟩,.q ⟨some 29,none,.q (.mv (.t 0))⟩,.q ⟨some 30,none,.q (.nc (.t 29))⟩,.q ⟨some 31,none,.q (.fa 0 (.t 30))⟩,.q ⟨some 32,none,.l (.ld1 (.t 31))⟩,.q ⟨some 33,none,.l (.ldn 3 (.t 8))⟩,.m ⟨some 34,none,.e (.bsl 50 3 [(.t 33)])⟩,.rc ⟨some 28,none,.q (.mv (.t 0))⟩,.rc ⟨some 29,none,.q (.mv (.t 0))⟩,.rc ⟨some 30,none,.q (.nc (.t 29))⟩,.rc ⟨some 31,none,.q (.fa 0 (.t 30))⟩,.rc ⟨some 32,none,.l (.ld1 (.t 31))⟩,.m ⟨some 35,none,.e (.ap 50 3 32 (.t 32) (.t 34))⟩,.rc ⟨some 28,none,.q (.mv (.t 0))⟩,.q ⟨some 36,none,.q (.nc (.t 28))⟩,.q ⟨some 37,none,.q (.fa 0 (.t 36))⟩,.m ⟨none,none,.e (.st 1 (.t 37) (.t 35))⟩]))
def rs22:List RV:=[]
theorem ok22:trFn Tryz.prog true ⟨fun _ _=>.own [],fun _=>false⟩ Tryz.f22=some (pc22,rs22):=by kernel_rfl
def pc23:PC:=.seq (.reg [⟨some 6,none,.e (.bx 45 (.t 2))⟩,⟨some 7,none,.e (.bx 45 (.t 3))⟩]) (.seq (.seq (.reg [⟨some 16,none,.q (.fa 1 (.t 6))⟩,⟨some 17,none,.l (.ld1 (.t 16))⟩,⟨some 18,none,.q (.lnL (.t 17))⟩,⟨some 19,none,.q (.mv (.k (.int .i64 0)))⟩]) (.block 0 (.loop (.seq (.reg [⟨some 20,none,.q (.bin .lss true (.t 19) (.t 18))⟩]) (.seq (.cond (.t 20) .skip (.exit 0)) (.seq (.block 1 (.seq (.reg [⟨some 21,none,.l (.ia 7 (.t 17) (.t 19))⟩,⟨some 22,none,.l (.ldn 7 (.t 21))⟩,⟨some 9,none,.e (.al (.agg #[(.int .i64 0),(.string (mk [])),(.int .i64 0),(.int .i64 0),(.string (mk [])),(.slice none 0 0),(.bool false)]) 42)⟩,⟨none,none,.e (.st 7 (.t 9) (.t 22))⟩]) (.seq (.reg [⟨some 24,none,.l (.ldn 2 (.t 7))⟩,⟨some 25,none,.q (.fa 0 (.t 9))⟩,⟨some 26,none,.l (.ld1 (.t 25))⟩,⟨some 27,none,.cl 38 [(.t 24),(.t 26)] []⟩,⟨some 23,none,.q (.mv (.t 27))⟩,⟨some 28,none,.q (.ex (.t 23) 0)⟩,⟨some 29,none,.q (.ex (.t 23) 1)⟩,⟨some 10,none,.e (.al (.agg #[(.int .i64 0),(.string (mk [])),(.int .i64 0),(.int .i64 0),(.string (mk [])),(.slice none 0 0),(.bool false)]) 42)⟩,⟨none,none,.e (.st 7 (.t 10) (.t 28))⟩,⟨some 11,none,.q (.mv (.t 29))⟩]) (.seq (.seq (.reg [⟨some 30,none,.q (.mv (.t 11))⟩,⟨some 31,none,.q (.not (.t 30))⟩]) (.cond (.t 31) (.seq (.seq (.reg [⟨some 32,none,.q (.fa 6 (.t 9))⟩,⟨some 33,none,.l (.ld1 (.t 32))⟩,⟨some 34,none,.q (.not (.t 33))⟩]) (.cond (.t 34) (.reg [⟨some 35,none,.q (.mv (.t 0))⟩,⟨some 36,none,.q (.fa 0 (.t 9))⟩,⟨some 37,none,.l (.ld1 (.t 36))⟩,⟨some 38,none,.q (.mv (.t 1))⟩,⟨some 39,none,.cl 22 [(.t 35),(.k (.int .i64 2)),(.t 37),(.t 38)] [0,1]⟩]) .skip)) (.exit 1)) .skip)) (.seq (.seq (.reg [⟨some 40,none,.q (.fa 2 (.t 9))⟩,⟨some 41,none,.l (.ldn 4 (.t 40))⟩,⟨some 42,none,.q (.fa 2 (.t 10))⟩,⟨some 43,none,.l (.ldn 4 (.t 42))⟩,⟨some 44,none,.cq 51 [(.t 41),(.t 43)]⟩,⟨some 45,none,.q (.not (.t 44))⟩]) (.cond (.t 45) (.reg [⟨some 46,none,.q (.mv (.t 0))⟩,⟨some 47,none,.q (.fa 0 (.t 9))⟩,⟨some 48,none,.l (.ld1 (.t 47))⟩,⟨some 49,none,.q (.mv (.t 1))⟩,⟨some 50,none,.cl 22 [(.t 46),(.k (.int .i64 1)),(.t 48),(.t 49)] [0,1]⟩]) .skip)) (.seq (.reg [⟨some 51,none,.q (.fa 6 (.t 9))⟩,⟨some 52,none,.l (.ld1 (.t 51))⟩,⟨some 53,none,.q (.fa 6 (.t 10))⟩,⟨some 54,none,.l (.ld1 (.t 53))⟩,⟨some 55,none,.q (.eqB true (.t 52) (.t 54))⟩]) (.cond (.t 55) (.reg [⟨some 56,none,.q (.mv (.t 0))⟩,⟨some 57,none,.q (.fa 0 (.t 9))⟩,⟨some 58,none,.l (.ld1 (.t 57))⟩,⟨some 59,none,.q (.mv (.t 1))⟩,⟨some 60,none,.cl 22 [(.t 56),(.k (.int .i64 3)),(.t 58),(.t 59)] [0,1]⟩]) .skip))))))) (.reg [⟨some 61,none,.q (.bin .add true (.t 19) (.k (.int .i64 1)))⟩,⟨some 19,none,.q (.mv (.t 61))⟩]))))))) (.seq (.reg [⟨some 62,none,.q (.fa 1 (.t 7))⟩,⟨some 63,none,.l (.ld1 (.t 62))⟩,⟨some 64,none,.q (.lnL (.t 63))⟩,⟨some 65,none,.q (.mv (.k (.int .i64 0)))⟩]) (.block 2 (.loop (.seq (.reg [⟨some 66,none,.q (.bin .lss true (.t 65) (.t 64))⟩]) (.seq (.cond (.t 66) .skip (.exit 2)) (.seq (.block 3 (.seq (.reg [⟨some 67,none,.l (.ia 7 (.t 63) (.t 65))⟩,⟨some 68,none,.l (.ldn 7 (.t 67))⟩,⟨some 13,none,.e (.al (.agg #[(.int .i64 0),(.string (mk [])),(.int .i64 0),(.int .i64 0),(.string (mk [])),(.slice none 0 0),(.bool false)]) 42)⟩,⟨none,none,.e (.st 7 (.t 13) (.t 68))⟩]) (.seq (.reg [⟨some 70,none,.l (.ldn 2 (.t 6))⟩,⟨some 71,none,.q (.fa 0 (.t 13))⟩,⟨some 72,none,.l (.ld1 (.t 71))⟩,⟨some 73,none,.cl 38 [(.t 70),(.t 72)] []⟩,⟨some 69,none,.q (.mv (.t 73))⟩,⟨some 74,none,.q (.ex (.t 69) 0)⟩,⟨some 75,none,.q (.ex (.t 69) 1)⟩,⟨some 14,none,.e (.al (.agg #[(.int .i64 0),(.string (mk [])),(.int .i64 0),(.int .i64 0),(.string (mk [])),(.slice none 0 0),(.bool false)]) 42)⟩,⟨none,none,.e (.st 7 (.t 14) (.t 74))⟩,⟨some 15,none,.q (.mv (.t 75))⟩]) (.seq (.reg [⟨some 76,none,.q (.mv (.t 15))⟩,⟨some 77,none,.q (.not (.t 76))⟩,⟨some 78,none,.q (.mv (.t 77))⟩,⟨some 79,(some (78,true)),.q (.fa 6 (.t 13))⟩,⟨some 80,(some (78,true)),.l (.ld1 (.t 79))⟩,⟨some 81,(some (78,true)),.q (.not (.t 80))⟩,⟨some 82,none,.pick (.t 78) (.t 81) (.k (.bool false))⟩]) (.cond (.t 82) (.reg [⟨some 83,none,.q (.mv (.t 0))⟩,⟨some 84,none,.q (.fa 0 (.t 13))⟩,⟨some 85,none,.l (.ld1 (.t 84))⟩,⟨some 86,none,.q (.mv (.t 1))⟩,⟨some 87,none,.cl 22 [(.t 83),(.k (.int .i64 2)),(.t 85),(.t 86)] [0,1]⟩]) .skip))))) (.reg [⟨some 88,none,.q (.bin .add true (.t 65) (.k (.int .i64 1)))⟩,⟨some 65,none,.q (.mv (.t 88))⟩]))))))))
def rs23:List RV:=[]
theorem ok23:trFn Tryz.prog true ⟨fun r k=>if r=7/\k=4 then .own [0,1] else if r=8/\k=4 then .q else if r=9/\k=4 then .own [0,1] else if r=11/\k=4 then .own [0,1] else if r=18/\k=4 then .own [0,1] else .own [],fun _=>false⟩ Tryz.f23=some (pc23,rs23):=by kernel_rfl
def pc51:PC:=.seq (.reg [⟨some 2,none,.e (.bx 40 (.t 0))⟩,⟨some 3,none,.e (.bx 40 (.t 1))⟩,⟨some 4,none,.q (.mv (.k (.bool false)))⟩]) (.seq (.seq (.reg [⟨some 7,none,.l (.ldn 4 (.t 2))⟩,⟨some 8,none,.l (.ldn 4 (.t 3))⟩,⟨some 9,none,.cq 72 [(.t 7),(.t 8)]⟩]) (.cond (.t 9) (.seq (.reg [⟨some 4,none,.q (.mv (.k (.bool true)))⟩]) .ret) .skip)) (.seq (.seq (.reg [⟨some 10,none,.q (.fa 0 (.t 2))⟩,⟨some 11,none,.l (.ld1 (.t 10))⟩,⟨some 12,none,.q (.fa 0 (.t 3))⟩,⟨some 13,none,.l (.ld1 (.t 12))⟩,⟨some 14,none,.q (.bin .neq true (.t 11) (.t 13))⟩,⟨some 15,none,.q (.mv (.t 14))⟩,⟨some 16,(some (15,false)),.q (.fa 2 (.t 2))⟩,⟨some 17,(some (15,false)),.l (.ld1 (.t 16))⟩,⟨some 18,(some (15,false)),.q (.fa 2 (.t 3))⟩,⟨some 19,(some (15,false)),.l (.ld1 (.t 18))⟩,⟨some 20,(some (15,false)),.q (.bin .neq true (.t 17) (.t 19))⟩,⟨some 21,none,.pick (.t 15) (.k (.bool true)) (.t 20)⟩]) (.cond (.t 21) (.seq (.reg [⟨some 4,none,.q (.mv (.k (.bool false)))⟩]) .ret) .skip)) (.seq (.seq (.reg [⟨some 22,none,.q (.fa 0 (.t 2))⟩,⟨some 23,none,.l (.ld1 (.t 22))⟩,⟨some 24,none,.q (.bin .eql true (.t 23) (.k (.int .i64 5)))⟩]) (.cond (.t 24) (.seq (.reg [⟨some 25,none,.q (.fa 3 (.t 2))⟩,⟨some 26,none,.l (.ld1 (.t 25))⟩,⟨some 27,none,.q (.lnL (.t 26))⟩,⟨some 28,none,.q (.bin .eql true (.t 27) (.k (.int .i64 1)))⟩,⟨some 29,none,.q (.mv (.t 28))⟩,⟨some 30,(some (29,true)),.q (.fa 3 (.t 3))⟩,⟨some 31,(some (29,true)),.l (.ld1 (.t 30))⟩,⟨some 32,(some (29,true)),.q (.lnL (.t 31))⟩,⟨some 33,(some (29,true)),.q (.bin .eql true (.t 32) (.k (.int .i64 1)))⟩,⟨some 34,none,.pick (.t 29) (.t 33) (.k (.bool false))⟩,⟨some 35,none,.q (.mv (.t 34))⟩,⟨some 36,(some (35,true)),.q (.fa 1 (.t 3))⟩,⟨some 37,(some (35,true)),.l (.ld1 (.t 36))⟩,⟨some 38,(some (35,true)),.q (.fa 1 (.t 2))⟩,⟨some 39,(some (35,true)),.l (.ld1 (.t 38))⟩,⟨some 40,(some (35,true)),.q (.bin .geq true (.t 37) (.t 39))⟩,⟨some 41,none,.pick (.t 35) (.t 40) (.k (.bool false))⟩,⟨some 42,none,.q (.mv (.t 41))⟩,⟨some 43,(some (42,true)),.q (.fa 3 (.t 2))⟩,⟨some 44,(some (42,true)),.l (.ld1 (.t 43))⟩,⟨some 45,(some (42,true)),.l (.ia 4 (.t 44) (.k (.int .i64 0)))⟩,⟨some 46,(some (42,true)),.l (.ldn 4 (.t 45))⟩,⟨some 47,(some (42,true)),.q (.fa 3 (.t 3))⟩,⟨some 48,(some (42,true)),.l (.ld1 (.t 47))⟩,⟨some 49,(some (42,true)),.l (.ia 4 (.t 48) (.k (.int .i64 0)))⟩,⟨some 50,(some (42,true)),.l (.ldn 4 (.t 49))⟩,⟨some 51,(some (42,true)),.cq 51 [(.t 46),(.t 50)]⟩,⟨some 52,none,.pick (.t 42) (.t 51) (.k (.bool false))⟩,⟨some 4,none,.q (.mv (.t 52))⟩]) .ret) .skip)) (.seq (.reg [⟨some 53,none,.l (.ldn 4 (.t 3))⟩,⟨some 5,none,.e (.al (.agg #[(.int .i64 0),(.int .i64 0),(.string (mk [])),(.slice none 0 0)]) 40)⟩,⟨none,none,.e (.st 4 (.t 5) (.t 53))⟩]) (.seq (.reg [⟨some 54,none,.q (.fa 1 (.t 2))⟩,⟨some 55,none,.l (.ld1 (.t 54))⟩,⟨some 56,none,.q (.fa 1 (.t 5))⟩,⟨none,none,.e (.st 1 (.t 56) (.t 55))⟩]) (.seq (.reg [⟨some 57,none,.q (.fa 0 (.t 2))⟩,⟨some 58,none,.l (.ld1 (.t 57))⟩,⟨some 59,none,.q (.bin .eql true (.t 58) (.k (.int .i64 2)))⟩,⟨some 60,none,.q (.mv (.t 59))⟩,⟨some 61,(some (60,false)),.q (.fa 0 (.t 2))⟩,⟨some 62,(some (60,false)),.l (.ld1 (.t 61))⟩,⟨some 63,(some (60,false)),.q (.bin .eql true (.t 62) (.k (.int .i64 3)))⟩,⟨some 64,none,.pick (.t 60) (.k (.bool true)) (.t 63)⟩,⟨some 6,none,.q (.mv (.t 64))⟩]) (.seq (.reg [⟨some 65,none,.q (.mv (.t 6))⟩,⟨some 66,none,.q (.mv (.t 65))⟩,⟨some 67,(some (66,false)),.q (.fa 0 (.t 2))⟩,⟨some 68,(some (66,false)),.l (.ld1 (.t 67))⟩,⟨some 69,(some (66,false)),.q (.bin .eql true (.t 68) (.k (.int .i64 4)))⟩,⟨some 70,none,.pick (.t 66) (.k (.bool true)) (.t 69)⟩,⟨some 71,none,.q (.mv (.t 70))⟩,⟨some 72,(some (71,true)),.q (.fa 1 (.t 3))⟩,⟨some 73,(some (71,true)),.l (.ld1 (.t 72))⟩,⟨some 74,(some (71,true)),.q (.fa 1 (.t 2))⟩,⟨some 75,(some (71,true)),.l (.ld1 (.t 74))⟩,⟨some 76,(some (71,true)),.q (.bin .gtr true (.t 73) (.t 75))⟩,⟨some 77,none,.pick (.t 71) (.t 76) (.k (.bool false))⟩,⟨some 78,none,.q (.mv (.t 77))⟩,⟨some 79,(some (78,true)),.l (.ldn 4 (.t 2))⟩,⟨some 80,(some (78,true)),.l (.ldn 4 (.t 5))⟩,⟨some 81,(some (78,true)),.cq 72 [(.t 79),(.t 80)]⟩,⟨some 82,none,.pick (.t 78) (.t 81) (.k (.bool false))⟩,⟨some 4,none,.q (.mv (.t 82))⟩]) .ret)))))))
def rs51:List RV:=[.mv (.t 4)]
theorem ok51:trFn Tryz.prog true ⟨fun r k=>if r=1/\k=2 then .q else if r=6/\k=26 then .q else if r=10/\k=16 then .q else .own [],fun _=>false⟩ Tryz.f51=some (pc51,rs51):=by kernel_rfl
end Go.Proofs.YtbcnggkldclemaaGreat
namespace Go.Proofs.YtbcnggkldclemaaGreat
open Go.W
noncomputable def wdVal:List S->A:=fun av=>match av with
  | [.va (.gs r),.va (.gs q)]=>bA (widF (C.ty r) (C.ty q))
  | _=>.gs []
noncomputable def wdFn (N:Nat):Fun:=⟨saPre N,wdVal,fun av h=>by obtain ⟨a,b,rfl,_⟩:=saPre_open h; trivial⟩
attribute [go_sem] wdFn wdVal
theorem wdFn_len {N:Nat}:∀ av H K,(wdFn N).sp av H K->av.length=2:=fun av H K h=>by obtain ⟨a,b,rfl,_⟩:=saPre_open h.1.1; rfl
set_option maxRecDepth 100000 in
set_option maxHeartbeats 1000000 in
theorem mWidens':∀ N,Meets Tryz.prog 51 (wdFn N).sp
  | 0=>⟨by kernel_rfl,by rintro xs vs E ro w K _ _ _ ⟨⟨h,_⟩,_⟩; obtain ⟨a,_,_,_,_,h⟩:=saPre_open h; have:=a.h_pos; omega⟩
  | N + 1=>by
    refine meets_fn Tryz.func51 ok51 2 (by rw [Tryz.ntmps51]; decide) (meetsAll_f (mWidens' N) (meetsAll_f mSameS (meetsAll_nil _))) wdFn_len ?_
    rintro av H K ⟨⟨h,rfl⟩,hK⟩
    obtain ⟨a,b,rfl,ha,hb,hh⟩:=saPre_open h
    have hK:K (bS (widF a b)) []:=by
      have:(wdFn (N + 1)).val [.va (.gs (tyC a)),.va (.gs (tyC b))]=bA (widF a b):=by simp -dsimp only [go_sem]
      rw [this] at hK; exact hK
    clear h
    have fin:∀ (x:Bool) (R:Hp),widF a b=x->W.Fin 0 K (bS x) R:=fun x R h=>by
      rw [h] at hK
      exact .sel [] (by simp) (by simp) rfl (.done (by simpa [go_sem] using hK))
    obtain ⟨k,s,n,e⟩:=a
    obtain ⟨k',s',n',e'⟩:=b
    have hua:isTy (tyC (.mk k s n e)):=isTy_mk ha
    have hub:isTy (tyC (.mk k' s' n' e')):=isTy_mk hb
    have hax:TyOk (.mk k' s n' e'):=by cases hb; exact .mk (by assumption) ha.s (by assumption) (by assumption) (by assumption)
    have hux:isTy (tyC (.mk k' s n' e')):=isTy_mk hax
    have dua:=ty_dec (.mk k s n e)
    have dub:=ty_dec (.mk k' s' n' e')
    have dux:=ty_dec (.mk k' s n' e')
    have hla:=ha.len
    have hlb:=hb.len
    have hoa:=ha.e
    have hob:=hb.e
    simp only [Ty.e] at hla hlb hoa hob
    have hst:widF (.mk k s n e) (.mk k' s' n' e')=(tyB (.mk k s n e) (.mk k' s' n' e') || (decide (k=k') && decide (n=n') && (bif decide (k=5) then decide (e.length=1) && decide (e'.length=1) && decide (s<=s') && widF (e.headD default) (e'.headD default)
      else (decide (k=2) || decide (k=3) || decide (k=4)) && decide (s < s') && tyB (.mk k s n e) (.mk k' s n' e')))):=widF_step _ _
    simp only [tyC,tysC_map] at hua hub hux dua dub dux
    cases c1:tyB (.mk k s n e) (.mk k' s' n' e') with
    | true=>
      rw [c1,Bool.true_or] at hst
      simp (maxSteps:=1000000) -dsimp only [go_sem,tyC,tysC_map,pc51,rs51,hua,hub,dua,dub,c1]
      exact fin _ _ hst
    | false=>
    rw [c1,Bool.false_or] at hst
    simp (maxSteps:=1000000) -dsimp only [go_sem,tyC,tysC_map,pc51,rs51,bl_beq,hua,hub,hux,dua,dub,dux,c1]
    have e5:(k == (5:Int))=decide (k=5):=rfl
    have e2:(k == (2:Int))=decide (k=2):=rfl
    have e3:(k == (3:Int))=decide (k=3):=rfl
    have e4:(k == (4:Int))=decide (k=4):=rfl
    refine ⟨fun h1=>fin _ _ ?_,fun h1=>?_⟩
    · rw [hst]
      by_cases hk:k=k'
      · by_cases hn:n=n'
        · rw [hk,hn] at h1; simp at h1
        · rw [decide_eq_false hn,Bool.and_false,Bool.false_and]
      · rw [decide_eq_false hk,Bool.false_and,Bool.false_and]
    have hkn:(decide (k=k') && decide (n=n'))=true:=by
      simp only [Bool.or_eq_false_iff,bne_eq_false_iff_eq,Bool.not_eq_false'] at h1
      rw [h1.2,decide_eq_true h1.1]; rfl
    rw [hkn,Bool.true_and] at hst
    refine ⟨fun h5=>?_,fun h5=>fin _ _ ?_⟩
    · rw [e5] at h5
      rw [h5,Bool.cond_true] at hst
      refine ⟨fun h2=>?_,fun h2=>fin _ _ ?_⟩
      · have h2':=h2
        simp only [Bool.and_eq_true,beq_iff_eq,decide_eq_true_eq] at h2'
        obtain ⟨⟨l1,l2⟩,l3⟩:=h2'
        obtain ⟨u,rfl⟩:∃ u,e=[u]:=List.length_eq_one_iff.1 (by omega)
        obtain ⟨v,rfl⟩:∃ v,e'=[v]:=List.length_eq_one_iff.1 (by omega)
        have hu:isTy (tyC u):=isTy_mk (hoa u (by simp))
        have hv:isTy (tyC v):=isTy_mk (hob v (by simp))
        have huh:u.h<=N:=by rw [Ty.h,Ty.hs] at hh; omega
        have hfin:widF (.mk k s n [u]) (.mk k' s' n' [v])=widF u v:=by
          rw [hst]; simp [l3]
        simp (maxSteps:=1000000) -dsimp only [go_sem,tyC_len,hu,hv,List.getElem?_cons_zero,Option.some.injEq,forall_eq']
        refine ⟨by simp,by simp,huh,fin _ _ hfin⟩
      · rw [hst]
        cases hc:(decide (e.length=1) && decide (e'.length=1) && decide (s<=s')) with
        | false=>rfl
        | true=>
          simp only [Bool.and_eq_true,decide_eq_true_eq] at hc
          simp [hc] at h2
    · rw [e5] at h5
      rw [hst,h5,Bool.cond_false,e2,e3,e4]
end Go.Proofs.YtbcnggkldclemaaGreat
