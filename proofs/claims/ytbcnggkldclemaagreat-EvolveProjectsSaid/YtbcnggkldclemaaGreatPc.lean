/- Lemmas and walks for the proof. -/
import Derived.Test.YtbcnggkldclemaaGreatPb
import Derived.Test.YtbcnggkldclemaaGreatProg
import Derived.Shelf.Sort.Plain
import Derived.Shelf.Slices.In.SortNone
namespace Go.Proofs.YtbcnggkldclemaaGreat
open Go.W
theorem row_rg {α:Type} {row:α->List C} {l:List α} {n:Nat} {c:α} (h:l[n]? = some c) (p:List C->Prop):(∀ r,(l.map row)[n]? = some r->p r)=p (row c):=by
  rw [List.getElem?_map,h]; simp
theorem row_rg' {α:Type} {row:α->List C} {l:List α} {n:Nat} {c:α} (h:l[n]? = some c) (p:List C->Prop):(∀ r,(l.map row)[((n:Nat):Int).toNat]? = some r->p r)=p (row c):=by
  rw [Int.toNat_natCast,List.getElem?_map,h]; simp
theorem all_rows {α:Type} {row:α->List C} {n:Nat} (h:∀ a,(row a).length=n) (l:List α):(∀ r:List C,r ∈ l.map row->r.length=n)=True:=eq_true fun r hr=>by obtain ⟨x,_,rfl⟩:=List.mem_map.1 hr; exact h x
inductive Ty where
  | mk (k s:Int) (n:ByteArray) (e:List Ty)
instance:Inhabited Ty:=⟨.mk 0 0 ByteArray.empty []⟩
def Ty.k:Ty->Int | .mk k _ _ _=>k
def Ty.s:Ty->Int | .mk _ s _ _=>s
def Ty.n:Ty->ByteArray | .mk _ _ n _=>n
def Ty.e:Ty->List Ty | .mk _ _ _ e=>e
mutual
def tyC:Ty->List C
  | .mk k s n e=>[.vl (.int .i64 k),.vl (.int .i64 s),.vl (.string n),.fz (tysC e)]
def tysC:List Ty->List (List C)
  | []=>[]
  | t :: r=>tyC t :: tysC r
end
theorem tysC_map:∀ l:List Ty,tysC l=l.map tyC
  | []=>rfl
  | t :: r=>by rw [tysC,tysC_map r]; rfl
theorem tyC_eq (t:Ty):tyC t=[.vl (.int .i64 t.k),.vl (.int .i64 t.s),.vl (.string t.n),.fz (t.e.map tyC)]:=by
  cases t with
  | mk k s n e=>rw [tyC,tysC_map]; rfl
mutual
theorem tyC_inj:∀ {a b:Ty},tyC a=tyC b->a=b
  | .mk k s n e,.mk k' s' n' e',h=>by
    rw [tyC,tyC] at h
    simp only [List.cons.injEq,C.vl.injEq,Value.int.injEq,Value.string.injEq,C.fz.injEq,true_and,and_true] at h
    obtain ⟨rfl,rfl,rfl,h4⟩:=h
    rw [tysC_inj h4]
theorem tysC_inj:∀ {a b:List Ty},tysC a=tysC b->a=b
  | [],[],_=>rfl
  | [],_ :: _,h=>by rw [tysC,tysC] at h; cases h
  | _ :: _,[],h=>by rw [tysC,tysC] at h; cases h
  | x :: a,y :: b,h=>by
    rw [tysC,tysC] at h
    obtain ⟨h1,h2⟩:=List.cons.inj h
    rw [tyC_inj h1,tysC_inj h2]
end
mutual
def Ty.h:Ty->Nat
  | .mk _ _ _ e=>Ty.hs e + 1
def Ty.hs:List Ty->Nat
  | []=>0
  | t :: r=>max t.h (Ty.hs r)
end
theorem Ty.hs_mem:∀ {l:List Ty} {t:Ty},t ∈ l->t.h<=Ty.hs l
  | x :: l,t,h=>by
    rw [Ty.hs]
    rcases List.mem_cons.1 h with rfl | h
    · omega
    · have:=Ty.hs_mem h; omega
theorem Ty.h_e {t u:Ty} (h:u ∈ t.e):u.h < t.h:=by
  cases t with
  | mk k s n e=>have:=Ty.hs_mem (show u ∈ e from h); rw [Ty.h]; omega
structure Fl where
  num:Int
  nm:ByteArray
  ty:Ty
  opt:Bool
instance:Inhabited Fl:=⟨⟨0,ByteArray.empty,default,false⟩⟩
def flC (f:Fl):List C:=[.vl (.int .i64 f.num),.vl (.string f.nm),.vl (.int .i64 f.ty.k),.vl (.int .i64 f.ty.s),.vl (.string f.ty.n),.fz (f.ty.e.map tyC),.vl (.bool f.opt)]
structure St where
  nm:ByteArray
  fs:List Fl
instance:Inhabited St:=⟨⟨ByteArray.empty,[]⟩⟩
def stC (s:St):List C:=[.vl (.string s.nm),.fz (s.fs.map flC)]
abbrev inR (n:Int):List C:=[.vl (.int .i64 n)]
abbrev stR (b:ByteArray):List C:=[.vl (.string b)]
structure En where
  nm:ByteArray
  ns:List ByteArray
  vs:List Int
instance:Inhabited En:=⟨⟨ByteArray.empty,[],[]⟩⟩
def enC (e:En):List C:=[.vl (.string e.nm),.fz (e.ns.map stR),.fz (e.vs.map inR)]
structure Sc where
  ver:Int
  es:List En
  ss:List St
instance:Inhabited Sc:=⟨⟨0,[],[]⟩⟩
def scC (s:Sc):List C:=[.vl (.int .i64 s.ver),.fz (s.es.map enC),.fz (s.ss.map stC)]
theorem map_inj {α β:Type} {f:α->β} (hf:∀ {a b},f a=f b->a=b):∀ {l m:List α},l.map f=m.map f->l=m
  | [],[],_=>rfl
  | [],_ :: _,h=>by cases h
  | _ :: _,[],h=>by cases h
  | x :: l,y :: m,h=>by
    simp only [List.map_cons,List.cons.injEq] at h
    rw [hf h.1,map_inj hf h.2]
theorem inR_inj {a b:Int} (h:inR a=inR b):a=b:=by simpa using h
theorem stR_inj {a b:ByteArray} (h:stR a=stR b):a=b:=by simpa using h
theorem flC_inj {a b:Fl} (h:flC a=flC b):a=b:=by
  obtain ⟨a1,a2,a3,a4⟩:=a
  obtain ⟨b1,b2,b3,b4⟩:=b
  simp only [flC,List.cons.injEq,C.vl.injEq,Value.int.injEq,Value.string.injEq,Value.bool.injEq,C.fz.injEq,true_and,and_true] at h
  obtain ⟨rfl,rfl,h3,h4,h5,h6,rfl⟩:=h
  have:a3=b3:=tyC_inj (by rw [tyC_eq,tyC_eq,h3,h4,h5,h6])
  rw [this]
theorem stC_inj {a b:St} (h:stC a=stC b):a=b:=by
  obtain ⟨a1,a2⟩:=a
  obtain ⟨b1,b2⟩:=b
  simp only [stC,List.cons.injEq,C.vl.injEq,Value.string.injEq,C.fz.injEq,and_true] at h
  obtain ⟨rfl,h2⟩:=h
  rw [map_inj flC_inj h2]
theorem enC_inj {a b:En} (h:enC a=enC b):a=b:=by
  obtain ⟨a1,a2,a3⟩:=a
  obtain ⟨b1,b2,b3⟩:=b
  simp only [enC,List.cons.injEq,C.vl.injEq,Value.string.injEq,C.fz.injEq,and_true] at h
  obtain ⟨rfl,h2,h3⟩:=h
  rw [map_inj stR_inj h2,map_inj inR_inj h3]
theorem scC_inj {a b:Sc} (h:scC a=scC b):a=b:=by
  obtain ⟨a1,a2,a3⟩:=a
  obtain ⟨b1,b2,b3⟩:=b
  simp only [scC,List.cons.injEq,C.vl.injEq,Value.int.injEq,C.fz.injEq,true_and,and_true] at h
  obtain ⟨rfl,h2,h3⟩:=h
  rw [map_inj enC_inj h2,map_inj stC_inj h3]
noncomputable def unC {α β:Type} [Inhabited α] (f:α->β) (b:β):α:=Classical.epsilon fun a=>f a=b
theorem unC_eq {α β:Type} [Inhabited α] {f:α->β} (hf:∀ {a b},f a=f b->a=b) (a:α):unC f (f a)=a:=hf (Classical.epsilon_spec (p:=fun x=>f x=f a) ⟨a,rfl⟩)
theorem unC_map {α β:Type} [Inhabited α] {f:α->β} (hf:∀ {a b},f a=f b->a=b) (l:List α):(l.map f).map (unC f)=l:=by
  rw [List.map_map,show (unC f ∘ f)=id from funext fun a=>unC_eq hf a,List.map_id]
noncomputable def C.ty:=unC tyC
noncomputable def C.fl:=unC flC
noncomputable def C.st:=unC stC
noncomputable def C.en:=unC enC
noncomputable def C.sc:=unC scC
noncomputable def C.bs:=unC stR
noncomputable def C.it:=unC inR
@[go_sem] theorem ty_dec (t:Ty):C.ty (tyC t)=t:=unC_eq tyC_inj t
@[go_sem] theorem fl_dec (t:Fl):C.fl (flC t)=t:=unC_eq flC_inj t
@[go_sem] theorem st_dec (t:St):C.st (stC t)=t:=unC_eq stC_inj t
@[go_sem] theorem en_dec (t:En):C.en (enC t)=t:=unC_eq enC_inj t
@[go_sem] theorem sc_dec (t:Sc):C.sc (scC t)=t:=unC_eq scC_inj t
@[go_sem] theorem bs_dec (t:ByteArray):C.bs (stR t)=t:=unC_eq stR_inj t
@[go_sem] theorem it_dec (t:Int):C.it (inR t)=t:=unC_eq inR_inj t
@[go_sem] theorem ty_map (l:List Ty):(l.map tyC).map C.ty=l:=unC_map tyC_inj l
@[go_sem] theorem fl_map (l:List Fl):(l.map flC).map C.fl=l:=unC_map flC_inj l
@[go_sem] theorem st_map (l:List St):(l.map stC).map C.st=l:=unC_map stC_inj l
@[go_sem] theorem en_map (l:List En):(l.map enC).map C.en=l:=unC_map enC_inj l
@[go_sem] theorem bs_map (l:List ByteArray):(l.map stR).map C.bs=l:=unC_map stR_inj l
@[go_sem] theorem it_map (l:List Int):(l.map inR).map C.it=l:=unC_map inR_inj l
theorem tyC_len (t:Ty):(tyC t).length=4:=by rw [tyC_eq]; rfl
theorem flC_len (t:Fl):(flC t).length=7:=rfl
theorem stC_len (t:St):(stC t).length=2:=rfl
theorem enC_len (t:En):(enC t).length=3:=rfl
theorem bl_inj {a b:ByteArray} (h:bl a=bl b):a=b:=by rw [<-mk_bl a,<-mk_bl b,h]
theorem bl_beq (a b:ByteArray):(bl a == bl b)=decide (a=b):=by
  rw [Bool.eq_iff_iff,beq_iff_eq,decide_eq_true_eq]
  exact ⟨bl_inj,fun h=>by rw [h]⟩
def in64 (n:Int):Prop:=-9223372036854775808<=n/\n<=9223372036854775807
inductive TyOk:Ty->Prop
  | mk {k s:Int} {n:ByteArray} {e:List Ty}:in64 k->in64 s->n.size<=9223372036854775807->e.length<=9223372036854775807->(∀ t ∈ e,TyOk t)->TyOk (.mk k s n e)
theorem TyOk.len {t:Ty} (h:TyOk t):t.e.length<=9223372036854775807:=by cases h; assumption
theorem TyOk.k {t:Ty} (h:TyOk t):in64 t.k:=by cases h; assumption
theorem TyOk.s {t:Ty} (h:TyOk t):in64 t.s:=by cases h; assumption
theorem TyOk.n {t:Ty} (h:TyOk t):t.n.size<=9223372036854775807:=by cases h; assumption
theorem TyOk.e {t:Ty} (h:TyOk t):∀ u ∈ t.e,TyOk u:=by cases h; assumption
structure Fl.ok (f:Fl):Prop where
  num:in64 f.num
  nm:f.nm.size<=9223372036854775807
  ty:TyOk f.ty
structure St.ok (s:St):Prop where
  nm:s.nm.size<=9223372036854775807
  len:s.fs.length<=9223372036854775807
  fs:∀ f ∈ s.fs,f.ok
structure En.ok (e:En):Prop where
  nm:e.nm.size<=9223372036854775807
  ln:e.ns.length<=9223372036854775807
  lv:e.vs.length<=9223372036854775807
  ns:∀ n ∈ e.ns,n.size<=9223372036854775807
  vs:∀ n ∈ e.vs,in64 n
structure Sc.ok (s:Sc):Prop where
  ver:in64 s.ver
  le:s.es.length<=9223372036854775807
  ls:s.ss.length<=9223372036854775807
  es:∀ e ∈ s.es,e.ok
  ss:∀ t ∈ s.ss,t.ok
def isTy (r:List C):Prop:=∃ t,r=tyC t/\TyOk t
def isEn (r:List C):Prop:=∃ e:En,r=enC e/\e.ok
def isSc (r:List C):Prop:=∃ s:Sc,r=scC s/\s.ok
theorem isTy_mk {t:Ty} (h:TyOk t):isTy (tyC t):=⟨t,rfl,h⟩
theorem isEn_mk {t:En} (h:t.ok):isEn (enC t):=⟨t,rfl,h⟩
theorem isSc_mk {t:Sc} (h:t.ok):isSc (scC t):=⟨t,rfl,h⟩
def gPre (p:List C->Prop):List S->Prop:=fun av=>match av with
  | [.va (.gs r)]=>p r
  | _=>False
theorem gPre_open {p:List C->Prop} {av:List S} (h:gPre p av):∃ r,av=[.va (.gs r)]/\p r:=by
  unfold gPre at h
  split at h
  · exact ⟨_,rfl,h⟩
  · exact h.elim
def gVal {α:Type} (d:List C->α) (f:α->A):List S->A:=fun av=>match av with
  | [.va (.gs r)]=>f (d r)
  | _=>.gs []
attribute [go_sem] gPre gVal
end Go.Proofs.YtbcnggkldclemaaGreat
namespace Go.Proofs.YtbcnggkldclemaaGreat
open Go.W
inductive Vl where
  | mk (k n:Int) (s:ByteArray) (l:List Vl) (f:List (Int × Vl))
instance:Inhabited Vl:=⟨.mk 0 0 ByteArray.empty [] []⟩
def Vl.k:Vl->Int | .mk k _ _ _ _=>k
def Vl.n:Vl->Int | .mk _ n _ _ _=>n
def Vl.s:Vl->ByteArray | .mk _ _ s _ _=>s
def Vl.l:Vl->List Vl | .mk _ _ _ l _=>l
def Vl.f:Vl->List (Int × Vl) | .mk _ _ _ _ f=>f
mutual
def vlC:Vl->List C
  | .mk k n s l f=>[.vl (.int .i64 k),.vl (.int .i64 n),.vl (.string s),.fz (vlsC l),.fz (vesC f)]
def vlsC:List Vl->List (List C)
  | []=>[]
  | v :: r=>vlC v :: vlsC r
def vesC:List (Int × Vl)->List (List C)
  | []=>[]
  | (i,v) :: r=>(.vl (.int .i64 i) :: vlC v) :: vesC r
end
def veC (x:Int × Vl):List C:=.vl (.int .i64 x.1) :: vlC x.2
theorem vlsC_map:∀ l:List Vl,vlsC l=l.map vlC
  | []=>rfl
  | v :: r=>by rw [vlsC,vlsC_map r]; rfl
theorem vesC_map:∀ l:List (Int × Vl),vesC l=l.map veC
  | []=>rfl
  | (i,v) :: r=>by rw [vesC,vesC_map r]; rfl
theorem vlC_eq (v:Vl):vlC v=[.vl (.int .i64 v.k),.vl (.int .i64 v.n),.vl (.string v.s),.fz (v.l.map vlC),.fz (v.f.map veC)]:=by
  cases v with
  | mk k n s l f=>rw [vlC,vlsC_map,vesC_map]; rfl
theorem veC_eq (x:Int × Vl):veC x=[.vl (.int .i64 x.1),.vl (.int .i64 x.2.k),.vl (.int .i64 x.2.n),.vl (.string x.2.s),.fz (x.2.l.map vlC),.fz (x.2.f.map veC)]:=by
  show C.vl (.int .i64 x.1) :: vlC x.2=_
  rw [vlC_eq]
mutual
theorem vlC_inj:∀ {a b:Vl},vlC a=vlC b->a=b
  | .mk k n s l f,.mk k' n' s' l' f',h=>by
    rw [vlC,vlC] at h
    simp only [List.cons.injEq,C.vl.injEq,Value.int.injEq,Value.string.injEq,C.fz.injEq,true_and,and_true] at h
    obtain ⟨rfl,rfl,rfl,h4,h5⟩:=h
    rw [vlsC_inj h4,vesC_inj h5]
theorem vlsC_inj:∀ {a b:List Vl},vlsC a=vlsC b->a=b
  | [],[],_=>rfl
  | [],_ :: _,h=>by rw [vlsC,vlsC] at h; cases h
  | _ :: _,[],h=>by rw [vlsC,vlsC] at h; cases h
  | x :: a,y :: b,h=>by
    rw [vlsC,vlsC] at h
    obtain ⟨h1,h2⟩:=List.cons.inj h
    rw [vlC_inj h1,vlsC_inj h2]
theorem vesC_inj:∀ {a b:List (Int × Vl)},vesC a=vesC b->a=b
  | [],[],_=>rfl
  | [],(_,_) :: _,h=>by rw [vesC,vesC] at h; cases h
  | (_,_) :: _,[],h=>by rw [vesC,vesC] at h; cases h
  | (i,x) :: a,(j,y) :: b,h=>by
    rw [vesC,vesC] at h
    obtain ⟨h1,h2⟩:=List.cons.inj h
    obtain ⟨h3,h4⟩:=List.cons.inj h1
    have e:i=j:=by simpa using h3
    rw [e,vlC_inj h4,vesC_inj h2]
end
noncomputable def C.vv:=unC vlC
@[go_sem] theorem vv_dec (v:Vl):C.vv (vlC v)=v:=unC_eq vlC_inj v
mutual
def Vl.h:Vl->Nat
  | .mk _ _ _ l f=>max (Vl.hl l) (Vl.hf f) + 1
def Vl.hl:List Vl->Nat
  | []=>0
  | v :: r=>max v.h (Vl.hl r)
def Vl.hf:List (Int × Vl)->Nat
  | []=>0
  | (_,v) :: r=>max v.h (Vl.hf r)
end
theorem Vl.h_pos (v:Vl):0 < v.h:=by cases v; rw [Vl.h]; omega
theorem Vl.hl_mem:∀ {l:List Vl} {v:Vl},v ∈ l->v.h<=Vl.hl l
  | x :: l,v,h=>by
    rw [Vl.hl]
    rcases List.mem_cons.1 h with rfl | h
    · omega
    · have:=Vl.hl_mem h; omega
theorem Vl.hf_mem:∀ {l:List (Int × Vl)} {x:Int × Vl},x ∈ l->x.2.h<=Vl.hf l
  | (i,y) :: l,x,h=>by
    rw [Vl.hf]
    rcases List.mem_cons.1 h with rfl | h
    · dsimp only; omega
    · have:=Vl.hf_mem h; omega
theorem Vl.h_l {v x:Vl} (h:x ∈ v.l):x.h < v.h:=by
  cases v with
  | mk k n s l f=>have:=Vl.hl_mem (show x ∈ l from h); rw [Vl.h]; omega
theorem Vl.h_f {v:Vl} {x:Int × Vl} (h:x ∈ v.f):x.2.h < v.h:=by
  cases v with
  | mk k n s l f=>have:=Vl.hf_mem (show x ∈ f from h); rw [Vl.h]; omega
inductive VlOk:Vl->Prop
  | mk {k n:Int} {s:ByteArray} {l:List Vl} {f:List (Int × Vl)}:in64 k->in64 n->s.size<=9223372036854775807->l.length * 80<=140737488355328->f.length * 88<=140737488355328->(∀ v ∈ l,VlOk v)->(∀ x ∈ f,in64 x.1)->(∀ x ∈ f,VlOk x.2)->VlOk (.mk k n s l f)
theorem VlOk.k {v:Vl} (h:VlOk v):in64 v.k:=by cases h; assumption
theorem VlOk.n {v:Vl} (h:VlOk v):in64 v.n:=by cases h; assumption
theorem VlOk.s {v:Vl} (h:VlOk v):v.s.size<=9223372036854775807:=by cases h; assumption
theorem VlOk.ll {v:Vl} (h:VlOk v):v.l.length * 80<=140737488355328:=by cases h; assumption
theorem VlOk.lf {v:Vl} (h:VlOk v):v.f.length * 88<=140737488355328:=by cases h; assumption
theorem VlOk.l {v:Vl} (h:VlOk v):∀ x ∈ v.l,VlOk x:=by cases h; assumption
theorem VlOk.fn {v:Vl} (h:VlOk v):∀ x ∈ v.f,in64 x.1:=by cases h; assumption
theorem VlOk.f {v:Vl} (h:VlOk v):∀ x ∈ v.f,VlOk x.2:=by cases h; assumption
def isVl (r:List C):Prop:=∃ v,r=vlC v/\VlOk v
theorem isVl_mk {v:Vl} (h:VlOk v):isVl (vlC v):=⟨v,rfl,h⟩
end Go.Proofs.YtbcnggkldclemaaGreat
namespace Go.Proofs.YtbcnggkldclemaaGreat
open Go.W
def pc10:PC:=.seq (.reg [⟨some 1,none,.e (.bx 25 (.t 0))⟩,⟨some 2,none,.q (.mv (.k (.bool false)))⟩]) (.seq (.seq (.reg [⟨some 7,none,.q (.fa 1 (.t 1))⟩,⟨some 8,none,.l (.ld1 (.t 7))⟩,⟨some 9,none,.q (.lnL (.t 8))⟩,⟨some 10,none,.q (.bin .gtr true (.t 9) (.k (.int .i64 18)))⟩,⟨some 11,none,.q (.mv (.t 10))⟩,⟨some 12,(some (11,false)),.q (.fa 2 (.t 1))⟩,⟨some 13,(some (11,false)),.l (.ld1 (.t 12))⟩,⟨some 14,(some (11,false)),.q (.lnL (.t 13))⟩,⟨some 15,(some (11,false)),.q (.bin .gtr true (.t 14) (.k (.int .i64 18)))⟩,⟨some 16,none,.pick (.t 11) (.k (.bool true)) (.t 15)⟩]) (.cond (.t 16) (.seq (.reg [⟨some 2,none,.q (.mv (.k (.bool false)))⟩]) .ret) .skip)) (.seq (.seq (.reg [⟨some 3,none,.q (.mv (.k (.int .i64 0)))⟩]) (.block 0 (.loop (.seq (.seq (.reg [⟨some 17,none,.q (.mv (.t 3))⟩,⟨some 18,none,.q (.fa 1 (.t 1))⟩,⟨some 19,none,.l (.ld1 (.t 18))⟩,⟨some 20,none,.q (.lnL (.t 19))⟩,⟨some 21,none,.q (.bin .lss true (.t 17) (.t 20))⟩]) (.cond (.t 21) .skip (.exit 0))) (.seq (.block 1 (.seq (.seq (.reg [⟨some 24,none,.q (.fa 1 (.t 1))⟩,⟨some 25,none,.l (.ld1 (.t 24))⟩,⟨some 26,none,.q (.mv (.t 3))⟩,⟨some 27,none,.l (.ia 3 (.t 25) (.t 26))⟩,⟨some 28,none,.q (.fa 0 (.t 27))⟩,⟨some 29,none,.l (.ld1 (.t 28))⟩,⟨some 30,none,.q (.lnS (.t 29))⟩,⟨some 31,none,.q (.bin .gtr true (.t 30) (.k (.int .i64 40)))⟩,⟨some 32,none,.q (.mv (.t 31))⟩,⟨some 33,(some (32,false)),.q (.fa 1 (.t 1))⟩,⟨some 34,(some (32,false)),.l (.ld1 (.t 33))⟩,⟨some 35,(some (32,false)),.q (.mv (.t 3))⟩,⟨some 36,(some (32,false)),.l (.ia 3 (.t 34) (.t 35))⟩,⟨some 37,(some (32,false)),.q (.fa 1 (.t 36))⟩,⟨some 38,(some (32,false)),.l (.ld1 (.t 37))⟩,⟨some 39,(some (32,false)),.q (.lnL (.t 38))⟩,⟨some 40,(some (32,false)),.q (.bin .gtr true (.t 39) (.k (.int .i64 18)))⟩,⟨some 41,none,.pick (.t 32) (.k (.bool true)) (.t 40)⟩,⟨some 42,none,.q (.mv (.t 41))⟩,⟨some 43,(some (42,false)),.q (.fa 1 (.t 1))⟩,⟨some 44,(some (42,false)),.l (.ld1 (.t 43))⟩,⟨some 45,(some (42,false)),.q (.mv (.t 3))⟩,⟨some 46,(some (42,false)),.l (.ia 3 (.t 44) (.t 45))⟩,⟨some 47,(some (42,false)),.q (.fa 2 (.t 46))⟩,⟨some 48,(some (42,false)),.l (.ld1 (.t 47))⟩,⟨some 49,(some (42,false)),.q (.lnL (.t 48))⟩,⟨some 50,(some (42,false)),.q (.bin .gtr true (.t 49) (.k (.int .i64 18)))⟩,⟨some 51,none,.pick (.t 42) (.k (.bool true)) (.t 50)⟩]) (.cond (.t 51) (.seq (.reg [⟨some 2,none,.q (.mv (.k (.bool false)))⟩]) .ret) .skip)) (.seq (.reg [⟨some 4,none,.q (.mv (.k (.int .i64 0)))⟩]) (.block 2 (.loop (.seq (.seq (.reg [⟨some 52,none,.q (.mv (.t 4))⟩,⟨some 53,none,.q (.fa 1 (.t 1))⟩,⟨some 54,none,.l (.ld1 (.t 53))⟩,⟨some 55,none,.q (.mv (.t 3))⟩,⟨some 56,none,.l (.ia 3 (.t 54) (.t 55))⟩,⟨some 57,none,.q (.fa 1 (.t 56))⟩,⟨some 58,none,.l (.ld1 (.t 57))⟩,⟨some 59,none,.q (.lnL (.t 58))⟩,⟨some 60,none,.q (.bin .lss true (.t 52) (.t 59))⟩]) (.cond (.t 60) .skip (.exit 2))) (.seq (.block 3 (.seq (.reg [⟨some 63,none,.q (.fa 1 (.t 1))⟩,⟨some 64,none,.l (.ld1 (.t 63))⟩,⟨some 65,none,.q (.mv (.t 3))⟩,⟨some 66,none,.l (.ia 3 (.t 64) (.t 65))⟩,⟨some 67,none,.q (.fa 1 (.t 66))⟩,⟨some 68,none,.l (.ld1 (.t 67))⟩,⟨some 69,none,.q (.mv (.t 4))⟩,⟨some 70,none,.l (.ia 1 (.t 68) (.t 69))⟩,⟨some 71,none,.l (.ld1 (.t 70))⟩,⟨some 72,none,.q (.lnS (.t 71))⟩,⟨some 73,none,.q (.bin .gtr true (.t 72) (.k (.int .i64 40)))⟩]) (.cond (.t 73) (.seq (.reg [⟨some 2,none,.q (.mv (.k (.bool false)))⟩]) .ret) .skip))) (.reg [⟨some 61,none,.q (.mv (.t 4))⟩,⟨some 62,none,.q (.bin .add true (.t 61) (.k (.int .i64 1)))⟩,⟨some 4,none,.q (.mv (.t 62))⟩])))))))) (.reg [⟨some 22,none,.q (.mv (.t 3))⟩,⟨some 23,none,.q (.bin .add true (.t 22) (.k (.int .i64 1)))⟩,⟨some 3,none,.q (.mv (.t 23))⟩])))))) (.seq (.seq (.reg [⟨some 5,none,.q (.mv (.k (.int .i64 0)))⟩]) (.block 4 (.loop (.seq (.seq (.reg [⟨some 74,none,.q (.mv (.t 5))⟩,⟨some 75,none,.q (.fa 2 (.t 1))⟩,⟨some 76,none,.l (.ld1 (.t 75))⟩,⟨some 77,none,.q (.lnL (.t 76))⟩,⟨some 78,none,.q (.bin .lss true (.t 74) (.t 77))⟩]) (.cond (.t 78) .skip (.exit 4))) (.seq (.block 5 (.seq (.seq (.reg [⟨some 81,none,.q (.fa 2 (.t 1))⟩,⟨some 82,none,.l (.ld1 (.t 81))⟩,⟨some 83,none,.q (.mv (.t 5))⟩,⟨some 84,none,.l (.ia 2 (.t 82) (.t 83))⟩,⟨some 85,none,.q (.fa 0 (.t 84))⟩,⟨some 86,none,.l (.ld1 (.t 85))⟩,⟨some 87,none,.q (.lnS (.t 86))⟩,⟨some 88,none,.q (.bin .gtr true (.t 87) (.k (.int .i64 40)))⟩,⟨some 89,none,.q (.mv (.t 88))⟩,⟨some 90,(some (89,false)),.q (.fa 2 (.t 1))⟩,⟨some 91,(some (89,false)),.l (.ld1 (.t 90))⟩,⟨some 92,(some (89,false)),.q (.mv (.t 5))⟩,⟨some 93,(some (89,false)),.l (.ia 2 (.t 91) (.t 92))⟩,⟨some 94,(some (89,false)),.q (.fa 1 (.t 93))⟩,⟨some 95,(some (89,false)),.l (.ld1 (.t 94))⟩,⟨some 96,(some (89,false)),.q (.lnL (.t 95))⟩,⟨some 97,(some (89,false)),.q (.bin .gtr true (.t 96) (.k (.int .i64 18)))⟩,⟨some 98,none,.pick (.t 89) (.k (.bool true)) (.t 97)⟩]) (.cond (.t 98) (.seq (.reg [⟨some 2,none,.q (.mv (.k (.bool false)))⟩]) .ret) .skip)) (.seq (.reg [⟨some 6,none,.q (.mv (.k (.int .i64 0)))⟩]) (.block 6 (.loop (.seq (.seq (.reg [⟨some 99,none,.q (.mv (.t 6))⟩,⟨some 100,none,.q (.fa 2 (.t 1))⟩,⟨some 101,none,.l (.ld1 (.t 100))⟩,⟨some 102,none,.q (.mv (.t 5))⟩,⟨some 103,none,.l (.ia 2 (.t 101) (.t 102))⟩,⟨some 104,none,.q (.fa 1 (.t 103))⟩,⟨some 105,none,.l (.ld1 (.t 104))⟩,⟨some 106,none,.q (.lnL (.t 105))⟩,⟨some 107,none,.q (.bin .lss true (.t 99) (.t 106))⟩]) (.cond (.t 107) .skip (.exit 6))) (.seq (.block 7 (.seq (.reg [⟨some 110,none,.q (.fa 2 (.t 1))⟩,⟨some 111,none,.l (.ld1 (.t 110))⟩,⟨some 112,none,.q (.mv (.t 5))⟩,⟨some 113,none,.l (.ia 2 (.t 111) (.t 112))⟩,⟨some 114,none,.q (.fa 1 (.t 113))⟩,⟨some 115,none,.l (.ld1 (.t 114))⟩,⟨some 116,none,.q (.mv (.t 6))⟩,⟨some 117,none,.l (.ia 7 (.t 115) (.t 116))⟩,⟨some 118,none,.q (.fa 1 (.t 117))⟩,⟨some 119,none,.l (.ld1 (.t 118))⟩,⟨some 120,none,.q (.lnS (.t 119))⟩,⟨some 121,none,.q (.bin .gtr true (.t 120) (.k (.int .i64 40)))⟩,⟨some 122,none,.q (.mv (.t 121))⟩,⟨some 123,(some (122,false)),.q (.fa 2 (.t 1))⟩,⟨some 124,(some (122,false)),.l (.ld1 (.t 123))⟩,⟨some 125,(some (122,false)),.q (.mv (.t 5))⟩,⟨some 126,(some (122,false)),.l (.ia 2 (.t 124) (.t 125))⟩,⟨some 127,(some (122,false)),.q (.fa 1 (.t 126))⟩,⟨some 128,(some (122,false)),.l (.ld1 (.t 127))⟩,⟨some 129,(some (122,false)),.q (.mv (.t 6))⟩,⟨some 130,(some (122,false)),.l (.ia 7 (.t 128) (.t 129))⟩,⟨some 131,(some (122,false)),.q (.fa 2 (.t 130))⟩,⟨some 132,(some (122,false)),.l (.ldn 4 (.t 131))⟩,⟨some 133,(some (122,false)),.cq 20 [(.t 132)]⟩,⟨some 134,(some (122,false)),.q (.not (.t 133))⟩,⟨some 135,none,.pick (.t 122) (.k (.bool true)) (.t 134)⟩]) (.cond (.t 135) (.seq (.reg [⟨some 2,none,.q (.mv (.k (.bool false)))⟩]) .ret) .skip))) (.reg [⟨some 108,none,.q (.mv (.t 6))⟩,⟨some 109,none,.q (.bin .add true (.t 108) (.k (.int .i64 1)))⟩,⟨some 6,none,.q (.mv (.t 109))⟩])))))))) (.reg [⟨some 79,none,.q (.mv (.t 5))⟩,⟨some 80,none,.q (.bin .add true (.t 79) (.k (.int .i64 1)))⟩,⟨some 5,none,.q (.mv (.t 80))⟩])))))) (.seq (.reg [⟨some 2,none,.q (.mv (.k (.bool true)))⟩]) .ret))))
def rs10:List RV:=[.mv (.t 2)]
theorem ok10:trFn Tryz.prog true ⟨fun r k=>if r=21/\k=23 then .q else .own [],fun _=>false⟩ Tryz.f10=some (pc10,rs10):=by kernel_rfl
def pc17:PC:=.seq (.reg [⟨some 2,none,.e (.bx 25 (.t 0))⟩,⟨some 4,none,.e (.al (.agg #[(.string (mk [])),(.slice none 0 0)]) 45)⟩,⟨some 5,none,.q (.mv (.k (.bool false)))⟩]) (.seq (.seq (.reg [⟨some 6,none,.q (.mv (.k (.int .i64 0)))⟩]) (.block 0 (.loop (.seq (.seq (.reg [⟨some 7,none,.q (.mv (.t 6))⟩,⟨some 8,none,.q (.fa 2 (.t 2))⟩,⟨some 9,none,.l (.ld1 (.t 8))⟩,⟨some 10,none,.q (.lnL (.t 9))⟩,⟨some 11,none,.q (.bin .lss true (.t 7) (.t 10))⟩]) (.cond (.t 11) .skip (.exit 0))) (.seq (.block 1 (.seq (.reg [⟨some 14,none,.q (.fa 2 (.t 2))⟩,⟨some 15,none,.l (.ld1 (.t 14))⟩,⟨some 16,none,.q (.mv (.t 6))⟩,⟨some 17,none,.l (.ia 2 (.t 15) (.t 16))⟩,⟨some 18,none,.q (.fa 0 (.t 17))⟩,⟨some 19,none,.l (.ld1 (.t 18))⟩,⟨some 20,none,.q (.mv (.t 1))⟩,⟨some 21,none,.q (.bin .eql true (.t 19) (.t 20))⟩]) (.cond (.t 21) (.seq (.reg [⟨some 22,none,.q (.fa 2 (.t 2))⟩,⟨some 23,none,.l (.ld1 (.t 22))⟩,⟨some 24,none,.q (.mv (.t 6))⟩,⟨some 25,none,.l (.ia 2 (.t 23) (.t 24))⟩,⟨some 26,none,.l (.ldn 2 (.t 25))⟩,⟨none,none,.e (.st 2 (.t 4) (.t 26))⟩,⟨some 5,none,.q (.mv (.k (.bool true)))⟩]) .ret) .skip))) (.reg [⟨some 12,none,.q (.mv (.t 6))⟩,⟨some 13,none,.q (.bin .add true (.t 12) (.k (.int .i64 1)))⟩,⟨some 6,none,.q (.mv (.t 13))⟩])))))) (.seq (.reg [⟨some 27,none,.q (.bd [(.string (mk [])),(.slice none 0 0)] [])⟩,⟨none,none,.e (.st 2 (.t 4) (.t 27))⟩,⟨some 5,none,.q (.mv (.k (.bool false)))⟩]) .ret))
def rs17:List RV:=[.ld (.ldn 2 (.t 4)),.mv (.t 5)]
theorem ok17:trFn Tryz.prog true ⟨fun _ _=>.own [],fun _=>false⟩ Tryz.f17=some (pc17,rs17):=by kernel_rfl
def pc18:PC:=.seq (.reg [⟨some 1,none,.e (.bx 25 (.t 0))⟩,⟨some 2,none,.q (.mv (.k (.int .i64 0)))⟩]) (.seq (.seq (.reg [⟨some 11,none,.q (.fa 0 (.t 1))⟩,⟨some 12,none,.l (.ld1 (.t 11))⟩,⟨some 13,none,.q (.bin .lss true (.t 12) (.k (.int .i64 1)))⟩,⟨some 14,none,.q (.mv (.t 13))⟩,⟨some 15,(some (14,false)),.q (.fa 0 (.t 1))⟩,⟨some 16,(some (14,false)),.l (.ld1 (.t 15))⟩,⟨some 17,(some (14,false)),.q (.bin .gtr true (.t 16) (.k (.int .i64 999)))⟩,⟨some 18,none,.pick (.t 14) (.k (.bool true)) (.t 17)⟩]) (.cond (.t 18) (.seq (.reg [⟨some 2,none,.q (.mv (.k (.int .i64 4)))⟩]) .ret) .skip)) (.seq (.seq (.reg [⟨some 19,none,.l (.ldn 3 (.t 1))⟩,⟨some 20,none,.cq 41 [(.t 19)]⟩]) (.cond (.t 20) (.seq (.reg [⟨some 2,none,.q (.mv (.k (.int .i64 3)))⟩]) .ret) .skip)) (.seq (.seq (.reg [⟨some 3,none,.q (.mv (.k (.int .i64 0)))⟩]) (.block 0 (.loop (.seq (.seq (.reg [⟨some 21,none,.q (.mv (.t 3))⟩,⟨some 22,none,.q (.fa 1 (.t 1))⟩,⟨some 23,none,.l (.ld1 (.t 22))⟩,⟨some 24,none,.q (.lnL (.t 23))⟩,⟨some 25,none,.q (.bin .lss true (.t 21) (.t 24))⟩]) (.cond (.t 25) .skip (.exit 0))) (.seq (.block 1 (.seq (.reg [⟨some 28,none,.l (.ldn 3 (.t 1))⟩,⟨some 29,none,.q (.mv (.t 3))⟩,⟨some 30,none,.cq 42 [(.t 28),(.t 29)]⟩,⟨some 4,none,.q (.mv (.t 30))⟩]) (.seq (.reg [⟨some 31,none,.q (.mv (.t 4))⟩,⟨some 32,none,.q (.bin .neq true (.t 31) (.k (.int .i64 0)))⟩]) (.cond (.t 32) (.seq (.reg [⟨some 33,none,.q (.mv (.t 4))⟩,⟨some 2,none,.q (.mv (.t 33))⟩]) .ret) .skip)))) (.reg [⟨some 26,none,.q (.mv (.t 3))⟩,⟨some 27,none,.q (.bin .add true (.t 26) (.k (.int .i64 1)))⟩,⟨some 3,none,.q (.mv (.t 27))⟩])))))) (.seq (.seq (.reg [⟨some 5,none,.q (.mv (.k (.int .i64 0)))⟩]) (.block 2 (.loop (.seq (.seq (.reg [⟨some 34,none,.q (.mv (.t 5))⟩,⟨some 35,none,.q (.fa 2 (.t 1))⟩,⟨some 36,none,.l (.ld1 (.t 35))⟩,⟨some 37,none,.q (.lnL (.t 36))⟩,⟨some 38,none,.q (.bin .lss true (.t 34) (.t 37))⟩]) (.cond (.t 38) .skip (.exit 2))) (.seq (.block 3 (.seq (.reg [⟨some 41,none,.l (.ldn 3 (.t 1))⟩,⟨some 42,none,.q (.mv (.t 5))⟩,⟨some 43,none,.cq 43 [(.t 41),(.t 42)]⟩,⟨some 6,none,.q (.mv (.t 43))⟩]) (.seq (.reg [⟨some 44,none,.q (.mv (.t 6))⟩,⟨some 45,none,.q (.bin .neq true (.t 44) (.k (.int .i64 0)))⟩]) (.cond (.t 45) (.seq (.reg [⟨some 46,none,.q (.mv (.t 6))⟩,⟨some 2,none,.q (.mv (.t 46))⟩]) .ret) .skip)))) (.reg [⟨some 39,none,.q (.mv (.t 5))⟩,⟨some 40,none,.q (.bin .add true (.t 39) (.k (.int .i64 1)))⟩,⟨some 5,none,.q (.mv (.t 40))⟩])))))) (.seq (.seq (.reg [⟨some 7,none,.q (.mv (.k (.int .i64 0)))⟩]) (.block 4 (.loop (.seq (.seq (.reg [⟨some 47,none,.q (.mv (.t 7))⟩,⟨some 48,none,.q (.fa 2 (.t 1))⟩,⟨some 49,none,.l (.ld1 (.t 48))⟩,⟨some 50,none,.q (.lnL (.t 49))⟩,⟨some 51,none,.q (.bin .lss true (.t 47) (.t 50))⟩]) (.cond (.t 51) .skip (.exit 4))) (.seq (.block 5 (.seq (.reg [⟨some 54,none,.l (.ldn 3 (.t 1))⟩,⟨some 55,none,.q (.fa 2 (.t 1))⟩,⟨some 56,none,.l (.ld1 (.t 55))⟩,⟨some 57,none,.q (.mv (.t 7))⟩,⟨some 58,none,.l (.ia 2 (.t 56) (.t 57))⟩,⟨some 59,none,.q (.fa 0 (.t 58))⟩,⟨some 60,none,.l (.ld1 (.t 59))⟩,⟨some 61,none,.cl 44 [(.t 54),(.t 60)] []⟩,⟨some 8,none,.q (.mv (.t 61))⟩]) (.seq (.reg [⟨some 62,none,.q (.mv (.t 8))⟩,⟨some 63,none,.q (.mv (.t 8))⟩,⟨some 64,none,.q (.lnL (.t 63))⟩,⟨some 65,none,.q (.fa 2 (.t 1))⟩,⟨some 66,none,.l (.ld1 (.t 65))⟩,⟨some 67,none,.q (.mv (.t 7))⟩,⟨some 68,none,.l (.ia 2 (.t 66) (.t 67))⟩,⟨some 69,none,.q (.fa 0 (.t 68))⟩,⟨some 70,none,.l (.ld1 (.t 69))⟩,⟨some 71,none,.cq 45 [(.t 62),(.t 64),(.t 70)]⟩]) (.cond (.t 71) (.seq (.reg [⟨some 2,none,.q (.mv (.k (.int .i64 19)))⟩]) .ret) .skip)))) (.reg [⟨some 52,none,.q (.mv (.t 7))⟩,⟨some 53,none,.q (.bin .add true (.t 52) (.k (.int .i64 1)))⟩,⟨some 7,none,.q (.mv (.t 53))⟩])))))) (.seq (.reg [⟨some 72,none,.l (.ldn 3 (.t 1))⟩,⟨some 73,none,.cl 46 [(.t 72)] []⟩,⟨some 9,none,.q (.mv (.t 73))⟩]) (.seq (.seq (.reg [⟨some 10,none,.q (.mv (.k (.int .i64 0)))⟩]) (.block 6 (.loop (.seq (.seq (.reg [⟨some 74,none,.q (.mv (.t 10))⟩,⟨some 75,none,.q (.mv (.t 9))⟩,⟨some 76,none,.q (.lnL (.t 75))⟩,⟨some 77,none,.q (.bin .lss true (.t 74) (.t 76))⟩]) (.cond (.t 77) .skip (.exit 6))) (.seq (.block 7 (.seq (.reg [⟨some 80,none,.q (.mv (.t 9))⟩,⟨some 81,none,.q (.mv (.t 10))⟩,⟨some 82,none,.l (.ia 1 (.t 80) (.t 81))⟩,⟨some 83,none,.l (.ld1 (.t 82))⟩,⟨some 84,none,.q (.bin .gtr true (.t 83) (.k (.int .i64 6)))⟩]) (.cond (.t 84) (.seq (.reg [⟨some 2,none,.q (.mv (.k (.int .i64 9)))⟩]) .ret) .skip))) (.reg [⟨some 78,none,.q (.mv (.t 10))⟩,⟨some 79,none,.q (.bin .add true (.t 78) (.k (.int .i64 1)))⟩,⟨some 10,none,.q (.mv (.t 79))⟩])))))) (.seq (.reg [⟨some 2,none,.q (.mv (.k (.int .i64 0)))⟩]) .ret))))))))
def rs18:List RV:=[.mv (.t 2)]
theorem ok18:trFn Tryz.prog true ⟨fun r k=>if r=3/\k=1 then .q else if r=8/\k=2 then .q else if r=14/\k=2 then .q else if r=21/\k=9 then .q else .own [],fun _=>false⟩ Tryz.f18=some (pc18,rs18):=by kernel_rfl
def pc20:PC:=.seq (.reg [⟨some 1,none,.e (.bx 40 (.t 0))⟩,⟨some 2,none,.q (.mv (.k (.bool false)))⟩]) (.seq (.seq (.reg [⟨some 4,none,.q (.fa 2 (.t 1))⟩,⟨some 5,none,.l (.ld1 (.t 4))⟩,⟨some 6,none,.q (.lnS (.t 5))⟩,⟨some 7,none,.q (.bin .gtr true (.t 6) (.k (.int .i64 40)))⟩,⟨some 8,none,.q (.mv (.t 7))⟩,⟨some 9,(some (8,false)),.q (.fa 3 (.t 1))⟩,⟨some 10,(some (8,false)),.l (.ld1 (.t 9))⟩,⟨some 11,(some (8,false)),.q (.lnL (.t 10))⟩,⟨some 12,(some (8,false)),.q (.bin .gtr true (.t 11) (.k (.int .i64 3)))⟩,⟨some 13,none,.pick (.t 8) (.k (.bool true)) (.t 12)⟩,⟨some 14,none,.q (.mv (.t 13))⟩,⟨some 15,(some (14,false)),.l (.ldn 4 (.t 1))⟩,⟨some 16,(some (14,false)),.cq 48 [(.t 15),(.k (.int .i64 20))]⟩,⟨some 17,(some (14,false)),.q (.bin .gtr true (.t 16) (.k (.int .i64 8)))⟩,⟨some 18,none,.pick (.t 14) (.k (.bool true)) (.t 17)⟩]) (.cond (.t 18) (.seq (.reg [⟨some 2,none,.q (.mv (.k (.bool false)))⟩]) .ret) .skip)) (.seq (.seq (.reg [⟨some 3,none,.q (.mv (.k (.int .i64 0)))⟩]) (.block 0 (.loop (.seq (.seq (.reg [⟨some 19,none,.q (.mv (.t 3))⟩,⟨some 20,none,.q (.fa 3 (.t 1))⟩,⟨some 21,none,.l (.ld1 (.t 20))⟩,⟨some 22,none,.q (.lnL (.t 21))⟩,⟨some 23,none,.q (.bin .lss true (.t 19) (.t 22))⟩]) (.cond (.t 23) .skip (.exit 0))) (.seq (.block 1 (.seq (.reg [⟨some 26,none,.q (.fa 3 (.t 1))⟩,⟨some 27,none,.l (.ld1 (.t 26))⟩,⟨some 28,none,.q (.mv (.t 3))⟩,⟨some 29,none,.l (.ia 4 (.t 27) (.t 28))⟩,⟨some 30,none,.l (.ldn 4 (.t 29))⟩,⟨some 31,none,.cq 20 [(.t 30)]⟩,⟨some 32,none,.q (.not (.t 31))⟩]) (.cond (.t 32) (.seq (.reg [⟨some 2,none,.q (.mv (.k (.bool false)))⟩]) .ret) .skip))) (.reg [⟨some 24,none,.q (.mv (.t 3))⟩,⟨some 25,none,.q (.bin .add true (.t 24) (.k (.int .i64 1)))⟩,⟨some 3,none,.q (.mv (.t 25))⟩])))))) (.seq (.reg [⟨some 2,none,.q (.mv (.k (.bool true)))⟩]) .ret)))
def rs20:List RV:=[.mv (.t 2)]
theorem ok20:trFn Tryz.prog true ⟨fun r k=>if r=1/\k=12 then .q else if r=6/\k=5 then .q else .own [],fun _=>false⟩ Tryz.f20=some (pc20,rs20):=by kernel_rfl
def pc41:PC:=.seq (.reg [⟨some 1,none,.e (.bx 25 (.t 0))⟩,⟨some 2,none,.q (.mv (.k (.bool false)))⟩]) (.seq (.seq (.reg [⟨some 5,none,.q (.fa 1 (.t 1))⟩,⟨some 6,none,.l (.ld1 (.t 5))⟩,⟨some 7,none,.q (.lnL (.t 6))⟩,⟨some 8,none,.q (.bin .gtr true (.t 7) (.k (.int .i64 16)))⟩,⟨some 9,none,.q (.mv (.t 8))⟩,⟨some 10,(some (9,false)),.q (.fa 2 (.t 1))⟩,⟨some 11,(some (9,false)),.l (.ld1 (.t 10))⟩,⟨some 12,(some (9,false)),.q (.lnL (.t 11))⟩,⟨some 13,(some (9,false)),.q (.bin .gtr true (.t 12) (.k (.int .i64 16)))⟩,⟨some 14,none,.pick (.t 9) (.k (.bool true)) (.t 13)⟩,⟨some 15,none,.q (.mv (.t 14))⟩,⟨some 16,(some (15,false)),.q (.fa 1 (.t 1))⟩,⟨some 17,(some (15,false)),.l (.ld1 (.t 16))⟩,⟨some 18,(some (15,false)),.q (.lnL (.t 17))⟩,⟨some 19,(some (15,false)),.q (.fa 2 (.t 1))⟩,⟨some 20,(some (15,false)),.l (.ld1 (.t 19))⟩,⟨some 21,(some (15,false)),.q (.lnL (.t 20))⟩,⟨some 22,(some (15,false)),.q (.bin .add true (.t 18) (.t 21))⟩,⟨some 23,(some (15,false)),.q (.bin .gtr true (.t 22) (.k (.int .i64 16)))⟩,⟨some 24,none,.pick (.t 15) (.k (.bool true)) (.t 23)⟩]) (.cond (.t 24) (.seq (.reg [⟨some 2,none,.q (.mv (.k (.bool true)))⟩]) .ret) .skip)) (.seq (.seq (.reg [⟨some 3,none,.q (.mv (.k (.int .i64 0)))⟩]) (.block 0 (.loop (.seq (.seq (.reg [⟨some 25,none,.q (.mv (.t 3))⟩,⟨some 26,none,.q (.fa 1 (.t 1))⟩,⟨some 27,none,.l (.ld1 (.t 26))⟩,⟨some 28,none,.q (.lnL (.t 27))⟩,⟨some 29,none,.q (.bin .lss true (.t 25) (.t 28))⟩]) (.cond (.t 29) .skip (.exit 0))) (.seq (.block 1 (.seq (.reg [⟨some 32,none,.q (.fa 1 (.t 1))⟩,⟨some 33,none,.l (.ld1 (.t 32))⟩,⟨some 34,none,.q (.mv (.t 3))⟩,⟨some 35,none,.l (.ia 3 (.t 33) (.t 34))⟩,⟨some 36,none,.q (.fa 1 (.t 35))⟩,⟨some 37,none,.l (.ld1 (.t 36))⟩,⟨some 38,none,.q (.lnL (.t 37))⟩,⟨some 39,none,.q (.bin .gtr true (.t 38) (.k (.int .i64 16)))⟩]) (.cond (.t 39) (.seq (.reg [⟨some 2,none,.q (.mv (.k (.bool true)))⟩]) .ret) .skip))) (.reg [⟨some 30,none,.q (.mv (.t 3))⟩,⟨some 31,none,.q (.bin .add true (.t 30) (.k (.int .i64 1)))⟩,⟨some 3,none,.q (.mv (.t 31))⟩])))))) (.seq (.seq (.reg [⟨some 4,none,.q (.mv (.k (.int .i64 0)))⟩]) (.block 2 (.loop (.seq (.seq (.reg [⟨some 40,none,.q (.mv (.t 4))⟩,⟨some 41,none,.q (.fa 2 (.t 1))⟩,⟨some 42,none,.l (.ld1 (.t 41))⟩,⟨some 43,none,.q (.lnL (.t 42))⟩,⟨some 44,none,.q (.bin .lss true (.t 40) (.t 43))⟩]) (.cond (.t 44) .skip (.exit 2))) (.seq (.block 3 (.seq (.reg [⟨some 47,none,.q (.fa 2 (.t 1))⟩,⟨some 48,none,.l (.ld1 (.t 47))⟩,⟨some 49,none,.q (.mv (.t 4))⟩,⟨some 50,none,.l (.ia 2 (.t 48) (.t 49))⟩,⟨some 51,none,.q (.fa 1 (.t 50))⟩,⟨some 52,none,.l (.ld1 (.t 51))⟩,⟨some 53,none,.q (.lnL (.t 52))⟩,⟨some 54,none,.q (.bin .gtr true (.t 53) (.k (.int .i64 16)))⟩]) (.cond (.t 54) (.seq (.reg [⟨some 2,none,.q (.mv (.k (.bool true)))⟩]) .ret) .skip))) (.reg [⟨some 45,none,.q (.mv (.t 4))⟩,⟨some 46,none,.q (.bin .add true (.t 45) (.k (.int .i64 1)))⟩,⟨some 4,none,.q (.mv (.t 46))⟩])))))) (.seq (.reg [⟨some 2,none,.q (.mv (.k (.bool false)))⟩]) .ret))))
def rs41:List RV:=[.mv (.t 2)]
theorem ok41:trFn Tryz.prog true ⟨fun _ _=>.own [],fun _=>false⟩ Tryz.f41=some (pc41,rs41):=by kernel_rfl
def pc42:PC:=.seq (.reg [⟨some 2,none,.e (.bx 25 (.t 0))⟩,⟨some 4,none,.q (.mv (.k (.int .i64 0)))⟩]) (.seq (.reg [⟨some 8,none,.q (.fa 1 (.t 2))⟩,⟨some 9,none,.l (.ld1 (.t 8))⟩,⟨some 10,none,.q (.mv (.t 1))⟩,⟨some 11,none,.l (.ia 3 (.t 9) (.t 10))⟩,⟨some 12,none,.l (.ldn 3 (.t 11))⟩,⟨some 5,none,.e (.al (.agg #[(.string (mk [])),(.slice none 0 0),(.slice none 0 0)]) 60)⟩,⟨none,none,.e (.st 3 (.t 5) (.t 12))⟩]) (.seq (.seq (.reg [⟨some 13,none,.q (.fa 0 (.t 5))⟩,⟨some 14,none,.l (.ld1 (.t 13))⟩,⟨some 15,none,.cq 63 [(.t 14)]⟩,⟨some 16,none,.q (.not (.t 15))⟩]) (.cond (.t 16) (.seq (.reg [⟨some 4,none,.q (.mv (.k (.int .i64 5)))⟩]) .ret) .skip)) (.seq (.seq (.reg [⟨some 6,none,.q (.mv (.k (.int .i64 0)))⟩]) (.block 0 (.loop (.seq (.seq (.reg [⟨some 17,none,.q (.mv (.t 6))⟩,⟨some 18,none,.q (.mv (.t 1))⟩,⟨some 19,none,.q (.bin .lss true (.t 17) (.t 18))⟩]) (.cond (.t 19) .skip (.exit 0))) (.seq (.block 1 (.seq (.reg [⟨some 22,none,.q (.fa 1 (.t 2))⟩,⟨some 23,none,.l (.ld1 (.t 22))⟩,⟨some 24,none,.q (.mv (.t 6))⟩,⟨some 25,none,.l (.ia 3 (.t 23) (.t 24))⟩,⟨some 26,none,.q (.fa 0 (.t 25))⟩,⟨some 27,none,.l (.ld1 (.t 26))⟩,⟨some 28,none,.q (.fa 0 (.t 5))⟩,⟨some 29,none,.l (.ld1 (.t 28))⟩,⟨some 30,none,.q (.bin .eql true (.t 27) (.t 29))⟩]) (.cond (.t 30) (.seq (.reg [⟨some 4,none,.q (.mv (.k (.int .i64 7)))⟩]) .ret) .skip))) (.reg [⟨some 20,none,.q (.mv (.t 6))⟩,⟨some 21,none,.q (.bin .add true (.t 20) (.k (.int .i64 1)))⟩,⟨some 6,none,.q (.mv (.t 21))⟩])))))) (.seq (.seq (.reg [⟨some 31,none,.q (.fa 1 (.t 5))⟩,⟨some 32,none,.l (.ld1 (.t 31))⟩,⟨some 33,none,.q (.lnL (.t 32))⟩,⟨some 34,none,.q (.bin .eql true (.t 33) (.k (.int .i64 0)))⟩,⟨some 35,none,.q (.mv (.t 34))⟩,⟨some 36,(some (35,false)),.q (.fa 2 (.t 5))⟩,⟨some 37,(some (35,false)),.l (.ld1 (.t 36))⟩,⟨some 38,(some (35,false)),.q (.lnL (.t 37))⟩,⟨some 39,(some (35,false)),.q (.fa 1 (.t 5))⟩,⟨some 40,(some (35,false)),.l (.ld1 (.t 39))⟩,⟨some 41,(some (35,false)),.q (.lnL (.t 40))⟩,⟨some 42,(some (35,false)),.q (.bin .neq true (.t 38) (.t 41))⟩,⟨some 43,none,.pick (.t 35) (.k (.bool true)) (.t 42)⟩]) (.cond (.t 43) (.seq (.reg [⟨some 4,none,.q (.mv (.k (.int .i64 2)))⟩]) .ret) .skip)) (.seq (.seq (.reg [⟨some 7,none,.q (.mv (.k (.int .i64 0)))⟩]) (.block 2 (.loop (.seq (.seq (.reg [⟨some 44,none,.q (.mv (.t 7))⟩,⟨some 45,none,.q (.fa 1 (.t 5))⟩,⟨some 46,none,.l (.ld1 (.t 45))⟩,⟨some 47,none,.q (.lnL (.t 46))⟩,⟨some 48,none,.q (.bin .lss true (.t 44) (.t 47))⟩]) (.cond (.t 48) .skip (.exit 2))) (.seq (.block 3 (.seq (.seq (.reg [⟨some 51,none,.q (.fa 1 (.t 5))⟩,⟨some 52,none,.l (.ld1 (.t 51))⟩,⟨some 53,none,.q (.mv (.t 7))⟩,⟨some 54,none,.l (.ia 1 (.t 52) (.t 53))⟩,⟨some 55,none,.l (.ld1 (.t 54))⟩,⟨some 56,none,.cq 64 [(.t 55)]⟩,⟨some 57,none,.q (.not (.t 56))⟩]) (.cond (.t 57) (.seq (.reg [⟨some 4,none,.q (.mv (.k (.int .i64 5)))⟩]) .ret) .skip)) (.seq (.seq (.reg [⟨some 58,none,.q (.fa 1 (.t 5))⟩,⟨some 59,none,.l (.ld1 (.t 58))⟩,⟨some 60,none,.q (.mv (.t 7))⟩,⟨some 61,none,.q (.fa 1 (.t 5))⟩,⟨some 62,none,.l (.ld1 (.t 61))⟩,⟨some 63,none,.q (.mv (.t 7))⟩,⟨some 64,none,.l (.ia 1 (.t 62) (.t 63))⟩,⟨some 65,none,.l (.ld1 (.t 64))⟩,⟨some 66,none,.cq 45 [(.t 59),(.t 60),(.t 65)]⟩]) (.cond (.t 66) (.seq (.reg [⟨some 4,none,.q (.mv (.k (.int .i64 7)))⟩]) .ret) .skip)) (.seq (.seq (.reg [⟨some 67,none,.q (.fa 2 (.t 5))⟩,⟨some 68,none,.l (.ld1 (.t 67))⟩,⟨some 69,none,.q (.mv (.t 7))⟩,⟨some 70,none,.l (.ia 1 (.t 68) (.t 69))⟩,⟨some 71,none,.l (.ld1 (.t 70))⟩,⟨some 72,none,.q (.bin .lss true (.t 71) (.k (.int .i64 0)))⟩,⟨some 73,none,.q (.mv (.t 72))⟩,⟨some 74,(some (73,false)),.q (.fa 2 (.t 5))⟩,⟨some 75,(some (73,false)),.l (.ld1 (.t 74))⟩,⟨some 76,(some (73,false)),.q (.mv (.t 7))⟩,⟨some 77,(some (73,false)),.l (.ia 1 (.t 75) (.t 76))⟩,⟨some 78,(some (73,false)),.l (.ld1 (.t 77))⟩,⟨some 79,(some (73,false)),.q (.bin .gtr true (.t 78) (.k (.int .i64 127)))⟩,⟨some 80,none,.pick (.t 73) (.k (.bool true)) (.t 79)⟩]) (.cond (.t 80) (.seq (.reg [⟨some 4,none,.q (.mv (.k (.int .i64 4)))⟩]) .ret) .skip)) (.seq (.reg [⟨some 81,none,.q (.mv (.t 7))⟩,⟨some 82,none,.q (.bin .eql true (.t 81) (.k (.int .i64 0)))⟩,⟨some 83,none,.q (.mv (.t 82))⟩,⟨some 84,(some (83,true)),.q (.fa 2 (.t 5))⟩,⟨some 85,(some (83,true)),.l (.ld1 (.t 84))⟩,⟨some 86,(some (83,true)),.q (.mv (.t 7))⟩,⟨some 87,(some (83,true)),.l (.ia 1 (.t 85) (.t 86))⟩,⟨some 88,(some (83,true)),.l (.ld1 (.t 87))⟩,⟨some 89,(some (83,true)),.q (.bin .neq true (.t 88) (.k (.int .i64 0)))⟩,⟨some 90,none,.pick (.t 83) (.t 89) (.k (.bool false))⟩,⟨some 91,none,.q (.mv (.t 90))⟩,⟨some 92,(some (91,false)),.q (.mv (.t 7))⟩,⟨some 93,(some (91,false)),.q (.bin .gtr true (.t 92) (.k (.int .i64 0)))⟩,⟨some 94,(some (91,false)),.q (.mv (.t 93))⟩,⟨some 95,(some (94,true)),.q (.fa 2 (.t 5))⟩,⟨some 96,(some (94,true)),.l (.ld1 (.t 95))⟩,⟨some 97,(some (94,true)),.q (.mv (.t 7))⟩,⟨some 98,(some (94,true)),.l (.ia 1 (.t 96) (.t 97))⟩,⟨some 99,(some (94,true)),.l (.ld1 (.t 98))⟩,⟨some 100,(some (94,true)),.q (.fa 2 (.t 5))⟩,⟨some 101,(some (94,true)),.l (.ld1 (.t 100))⟩,⟨some 102,(some (94,true)),.q (.mv (.t 7))⟩,⟨some 103,(some (94,true)),.q (.bin .sub true (.t 102) (.k (.int .i64 1)))⟩,⟨some 104,(some (94,true)),.l (.ia 1 (.t 101) (.t 103))⟩,⟨some 105,(some (94,true)),.l (.ld1 (.t 104))⟩,⟨some 106,(some (94,true)),.q (.bin .leq true (.t 99) (.t 105))⟩,⟨some 107,(some (91,false)),.pick (.t 94) (.t 106) (.k (.bool false))⟩,⟨some 108,none,.pick (.t 91) (.k (.bool true)) (.t 107)⟩]) (.cond (.t 108) (.seq (.reg [⟨some 4,none,.q (.mv (.k (.int .i64 2)))⟩]) .ret) .skip)))))) (.reg [⟨some 49,none,.q (.mv (.t 7))⟩,⟨some 50,none,.q (.bin .add true (.t 49) (.k (.int .i64 1)))⟩,⟨some 7,none,.q (.mv (.t 50))⟩])))))) (.seq (.reg [⟨some 4,none,.q (.mv (.k (.int .i64 0)))⟩]) .ret))))))
def rs42:List RV:=[.mv (.t 4)]
theorem ok42:trFn Tryz.prog true ⟨fun r k=>if r=2/\k=2 then .q else if r=14/\k=5 then .q else if r=16/\k=8 then .q else .own [],fun _=>false⟩ Tryz.f42=some (pc42,rs42):=by kernel_rfl
def pc43:PC:=.seq (.reg [⟨some 2,none,.e (.bx 25 (.t 0))⟩,⟨some 4,none,.q (.mv (.k (.int .i64 0)))⟩]) (.seq (.reg [⟨some 12,none,.q (.fa 2 (.t 2))⟩,⟨some 13,none,.l (.ld1 (.t 12))⟩,⟨some 14,none,.q (.mv (.t 1))⟩,⟨some 15,none,.l (.ia 2 (.t 13) (.t 14))⟩,⟨some 16,none,.l (.ldn 2 (.t 15))⟩,⟨some 5,none,.e (.al (.agg #[(.string (mk [])),(.slice none 0 0)]) 45)⟩,⟨none,none,.e (.st 2 (.t 5) (.t 16))⟩]) (.seq (.seq (.reg [⟨some 17,none,.q (.fa 0 (.t 5))⟩,⟨some 18,none,.l (.ld1 (.t 17))⟩,⟨some 19,none,.cq 63 [(.t 18)]⟩,⟨some 20,none,.q (.not (.t 19))⟩]) (.cond (.t 20) (.seq (.reg [⟨some 4,none,.q (.mv (.k (.int .i64 5)))⟩]) .ret) .skip)) (.seq (.seq (.reg [⟨some 22,none,.l (.ldn 3 (.t 2))⟩,⟨some 23,none,.q (.fa 0 (.t 5))⟩,⟨some 24,none,.l (.ld1 (.t 23))⟩,⟨some 25,none,.cl 65 [(.t 22),(.t 24)] []⟩,⟨some 21,none,.q (.mv (.t 25))⟩,⟨some 26,none,.q (.ex (.t 21) 0)⟩,⟨some 27,none,.q (.ex (.t 21) 1)⟩,⟨some 6,none,.e (.al (.agg #[(.string (mk [])),(.slice none 0 0),(.slice none 0 0)]) 60)⟩,⟨none,none,.e (.st 3 (.t 6) (.t 26))⟩,⟨some 7,none,.q (.mv (.t 27))⟩]) (.seq (.reg [⟨some 28,none,.q (.mv (.t 7))⟩]) (.cond (.t 28) (.seq (.reg [⟨some 4,none,.q (.mv (.k (.int .i64 7)))⟩]) .ret) .skip))) (.seq (.seq (.reg [⟨some 8,none,.q (.mv (.k (.int .i64 0)))⟩]) (.block 0 (.loop (.seq (.seq (.reg [⟨some 29,none,.q (.mv (.t 8))⟩,⟨some 30,none,.q (.mv (.t 1))⟩,⟨some 31,none,.q (.bin .lss true (.t 29) (.t 30))⟩]) (.cond (.t 31) .skip (.exit 0))) (.seq (.block 1 (.seq (.reg [⟨some 34,none,.q (.fa 2 (.t 2))⟩,⟨some 35,none,.l (.ld1 (.t 34))⟩,⟨some 36,none,.q (.mv (.t 8))⟩,⟨some 37,none,.l (.ia 2 (.t 35) (.t 36))⟩,⟨some 38,none,.q (.fa 0 (.t 37))⟩,⟨some 39,none,.l (.ld1 (.t 38))⟩,⟨some 40,none,.q (.fa 0 (.t 5))⟩,⟨some 41,none,.l (.ld1 (.t 40))⟩,⟨some 42,none,.q (.bin .eql true (.t 39) (.t 41))⟩]) (.cond (.t 42) (.seq (.reg [⟨some 4,none,.q (.mv (.k (.int .i64 7)))⟩]) .ret) .skip))) (.reg [⟨some 32,none,.q (.mv (.t 8))⟩,⟨some 33,none,.q (.bin .add true (.t 32) (.k (.int .i64 1)))⟩,⟨some 8,none,.q (.mv (.t 33))⟩])))))) (.seq (.seq (.reg [⟨some 9,none,.q (.mv (.k (.int .i64 0)))⟩]) (.block 2 (.loop (.seq (.seq (.reg [⟨some 43,none,.q (.mv (.t 9))⟩,⟨some 44,none,.q (.fa 1 (.t 5))⟩,⟨some 45,none,.l (.ld1 (.t 44))⟩,⟨some 46,none,.q (.lnL (.t 45))⟩,⟨some 47,none,.q (.bin .lss true (.t 43) (.t 46))⟩]) (.cond (.t 47) .skip (.exit 2))) (.seq (.block 3 (.seq (.reg [⟨some 50,none,.q (.fa 1 (.t 5))⟩,⟨some 51,none,.l (.ld1 (.t 50))⟩,⟨some 52,none,.q (.mv (.t 9))⟩,⟨some 53,none,.l (.ia 7 (.t 51) (.t 52))⟩,⟨some 54,none,.l (.ldn 7 (.t 53))⟩,⟨some 10,none,.e (.al (.agg #[(.int .i64 0),(.string (mk [])),(.int .i64 0),(.int .i64 0),(.string (mk [])),(.slice none 0 0),(.bool false)]) 42)⟩,⟨none,none,.e (.st 7 (.t 10) (.t 54))⟩]) (.seq (.seq (.reg [⟨some 55,none,.q (.fa 0 (.t 10))⟩,⟨some 56,none,.l (.ld1 (.t 55))⟩,⟨some 57,none,.q (.bin .lss true (.t 56) (.k (.int .i64 1)))⟩,⟨some 58,none,.q (.mv (.t 57))⟩,⟨some 59,(some (58,false)),.q (.fa 0 (.t 10))⟩,⟨some 60,(some (58,false)),.l (.ld1 (.t 59))⟩,⟨some 61,(some (58,false)),.q (.bin .gtr true (.t 60) (.k (.int .i64 127)))⟩,⟨some 62,none,.pick (.t 58) (.k (.bool true)) (.t 61)⟩]) (.cond (.t 62) (.seq (.reg [⟨some 4,none,.q (.mv (.k (.int .i64 4)))⟩]) .ret) .skip)) (.seq (.seq (.reg [⟨some 63,none,.q (.mv (.t 9))⟩,⟨some 64,none,.q (.bin .gtr true (.t 63) (.k (.int .i64 0)))⟩,⟨some 65,none,.q (.mv (.t 64))⟩,⟨some 66,(some (65,true)),.q (.fa 0 (.t 10))⟩,⟨some 67,(some (65,true)),.l (.ld1 (.t 66))⟩,⟨some 68,(some (65,true)),.q (.fa 1 (.t 5))⟩,⟨some 69,(some (65,true)),.l (.ld1 (.t 68))⟩,⟨some 70,(some (65,true)),.q (.mv (.t 9))⟩,⟨some 71,(some (65,true)),.q (.bin .sub true (.t 70) (.k (.int .i64 1)))⟩,⟨some 72,(some (65,true)),.l (.ia 7 (.t 69) (.t 71))⟩,⟨some 73,(some (65,true)),.q (.fa 0 (.t 72))⟩,⟨some 74,(some (65,true)),.l (.ld1 (.t 73))⟩,⟨some 75,(some (65,true)),.q (.bin .leq true (.t 67) (.t 74))⟩,⟨some 76,none,.pick (.t 65) (.t 75) (.k (.bool false))⟩]) (.cond (.t 76) (.seq (.reg [⟨some 4,none,.q (.mv (.k (.int .i64 2)))⟩]) .ret) .skip)) (.seq (.seq (.reg [⟨some 77,none,.q (.fa 1 (.t 10))⟩,⟨some 78,none,.l (.ld1 (.t 77))⟩,⟨some 79,none,.cq 64 [(.t 78)]⟩,⟨some 80,none,.q (.not (.t 79))⟩]) (.cond (.t 80) (.seq (.reg [⟨some 4,none,.q (.mv (.k (.int .i64 5)))⟩]) .ret) .skip)) (.seq (.seq (.reg [⟨some 11,none,.q (.mv (.k (.int .i64 0)))⟩]) (.block 4 (.loop (.seq (.seq (.reg [⟨some 81,none,.q (.mv (.t 11))⟩,⟨some 82,none,.q (.mv (.t 9))⟩,⟨some 83,none,.q (.bin .lss true (.t 81) (.t 82))⟩]) (.cond (.t 83) .skip (.exit 4))) (.seq (.block 5 (.seq (.reg [⟨some 86,none,.q (.fa 1 (.t 5))⟩,⟨some 87,none,.l (.ld1 (.t 86))⟩,⟨some 88,none,.q (.mv (.t 11))⟩,⟨some 89,none,.l (.ia 7 (.t 87) (.t 88))⟩,⟨some 90,none,.q (.fa 1 (.t 89))⟩,⟨some 91,none,.l (.ld1 (.t 90))⟩,⟨some 92,none,.q (.fa 1 (.t 10))⟩,⟨some 93,none,.l (.ld1 (.t 92))⟩,⟨some 94,none,.q (.bin .eql true (.t 91) (.t 93))⟩]) (.cond (.t 94) (.seq (.reg [⟨some 4,none,.q (.mv (.k (.int .i64 7)))⟩]) .ret) .skip))) (.reg [⟨some 84,none,.q (.mv (.t 11))⟩,⟨some 85,none,.q (.bin .add true (.t 84) (.k (.int .i64 1)))⟩,⟨some 11,none,.q (.mv (.t 85))⟩])))))) (.seq (.reg [⟨some 95,none,.l (.ldn 3 (.t 2))⟩,⟨some 96,none,.q (.fa 2 (.t 10))⟩,⟨some 97,none,.l (.ldn 4 (.t 96))⟩,⟨some 98,none,.cq 66 [(.t 95),(.t 97)]⟩,⟨some 99,none,.q (.not (.t 98))⟩]) (.cond (.t 99) (.seq (.reg [⟨some 4,none,.q (.mv (.k (.int .i64 13)))⟩]) .ret) .skip)))))))) (.reg [⟨some 48,none,.q (.mv (.t 9))⟩,⟨some 49,none,.q (.bin .add true (.t 48) (.k (.int .i64 1)))⟩,⟨some 9,none,.q (.mv (.t 49))⟩])))))) (.seq (.reg [⟨some 4,none,.q (.mv (.k (.int .i64 0)))⟩]) .ret))))))
def rs43:List RV:=[.mv (.t 4)]
theorem ok43:trFn Tryz.prog true ⟨fun r k=>if r=2/\k=2 then .q else if r=20/\k=2 then .q else if r=27/\k=3 then .q else .own [],fun _=>false⟩ Tryz.f43=some (pc43,rs43):=by kernel_rfl
def pc44:PC:=.seq (.reg [⟨some 2,none,.e (.bx 25 (.t 0))⟩,⟨some 4,none,.q (.mv (.k (.slice none 0 0)))⟩]) (.seq (.reg [⟨some 5,none,.q (.mv (.k (.slice none 0 0)))⟩]) (.seq (.reg [⟨some 13,none,.q (.mv (.t 1))⟩,⟨some 14,none,.e (.bsl 9 1 [(.t 13)])⟩,⟨some 6,none,.q (.mv (.t 14))⟩]) (.seq (.seq (.reg [⟨some 7,none,.q (.mv (.k (.int .i64 0)))⟩]) (.block 0 (.loop (.seq (.seq (.reg [⟨some 15,none,.q (.mv (.t 7))⟩,⟨some 16,none,.q (.mv (.t 6))⟩,⟨some 17,none,.q (.lnL (.t 16))⟩,⟨some 18,none,.q (.bin .lss true (.t 15) (.t 17))⟩]) (.cond (.t 18) .skip (.exit 0))) (.seq (.block 1 (.seq (.ord  [.q ⟨some 22,none,.l (.ldn 3 (.t 2))⟩,.q ⟨some 23,none,.q (.mv (.t 6))⟩,.q ⟨some 24,none,.q (.mv (.t 7))⟩,.q ⟨some 25,none,.l (.ia 1 (.t 23) (.t 24))⟩,.q ⟨some 26,none,.l (.ld1 (.t 25))⟩,.m ⟨some 27,none,.cl 17 [(.t 22),(.t 26)] []⟩,.q ⟨some 21,none,.q (.mv (.t 27))⟩,.q ⟨some 28,none,.q (.ex (.t 21) 0)⟩,.q ⟨some 29,none,.q (.ex (.t 21) 1)⟩,.m ⟨some 8,none,.e (.al (.agg #[(.string (mk [])),(.slice none 0 0)]) 45)⟩,.rc ⟨some 21,none,.q (.mv (.t 27))⟩,.rc ⟨some 28,none,.q (.ex (.t 21) 0)⟩,.rc ⟨some 29,none,.q (.ex (.t 21) 1)⟩,.m ⟨none,none,.e (.st 2 (.t 8) (.t 28))⟩,.rc ⟨some 29,none,.q (.ex (.t 21) 1)⟩,.m ⟨some 9,none,.q (.mv (.t 29))⟩]) (.seq (.reg [⟨some 10,none,.q (.mv (.k (.int .i64 0)))⟩]) (.block 2 (.loop (.seq (.seq (.reg [⟨some 30,none,.q (.mv (.t 10))⟩,⟨some 31,none,.q (.fa 1 (.t 8))⟩,⟨some 32,none,.l (.ld1 (.t 31))⟩,⟨some 33,none,.q (.lnL (.t 32))⟩,⟨some 34,none,.q (.bin .lss true (.t 30) (.t 33))⟩]) (.cond (.t 34) .skip (.exit 2))) (.seq (.block 3 (.seq (.reg [⟨some 37,none,.q (.fa 1 (.t 8))⟩,⟨some 38,none,.l (.ld1 (.t 37))⟩,⟨some 39,none,.q (.mv (.t 10))⟩,⟨some 40,none,.l (.ia 7 (.t 38) (.t 39))⟩,⟨some 41,none,.q (.fa 2 (.t 40))⟩,⟨some 42,none,.l (.ldn 4 (.t 41))⟩,⟨some 43,none,.cl 67 [(.t 42)] []⟩,⟨some 11,none,.q (.mv (.t 43))⟩]) (.seq (.reg [⟨some 12,none,.q (.mv (.k (.int .i64 0)))⟩]) (.block 4 (.loop (.seq (.seq (.reg [⟨some 44,none,.q (.mv (.t 12))⟩,⟨some 45,none,.q (.mv (.t 11))⟩,⟨some 46,none,.q (.lnL (.t 45))⟩,⟨some 47,none,.q (.bin .lss true (.t 44) (.t 46))⟩]) (.cond (.t 47) .skip (.exit 4))) (.seq (.block 5 (.seq (.reg [⟨some 50,none,.q (.mv (.t 5))⟩,⟨some 51,none,.q (.mv (.t 5))⟩,⟨some 52,none,.q (.lnL (.t 51))⟩,⟨some 53,none,.q (.mv (.t 11))⟩,⟨some 54,none,.q (.mv (.t 12))⟩,⟨some 55,none,.l (.ia 1 (.t 53) (.t 54))⟩,⟨some 56,none,.l (.ld1 (.t 55))⟩,⟨some 57,none,.cq 45 [(.t 50),(.t 52),(.t 56)]⟩,⟨some 58,none,.q (.not (.t 57))⟩]) (.cond (.t 58) (.seq (.reg [⟨some 59,none,.q (.mv (.t 5))⟩,⟨some 60,none,.q (.mv (.t 11))⟩,⟨some 61,none,.q (.mv (.t 12))⟩,⟨some 62,none,.l (.ia 1 (.t 60) (.t 61))⟩,⟨some 63,none,.l (.ld1 (.t 62))⟩,⟨some 64,none,.cl 68 [(.t 59),(.t 63)] []⟩,⟨some 5,none,.q (.mv (.t 64))⟩]) (.reg [⟨some 65,none,.q (.mv (.t 6))⟩,⟨some 66,none,.q (.mv (.t 11))⟩,⟨some 67,none,.q (.mv (.t 12))⟩,⟨some 68,none,.l (.ia 1 (.t 66) (.t 67))⟩,⟨some 69,none,.l (.ld1 (.t 68))⟩,⟨some 70,none,.e (.bsl 9 1 [(.t 69)])⟩,⟨some 71,none,.e (.ap 9 1 16 (.t 65) (.t 70))⟩,⟨some 6,none,.q (.mv (.t 71))⟩])) .skip))) (.reg [⟨some 48,none,.q (.mv (.t 12))⟩,⟨some 49,none,.q (.bin .add true (.t 48) (.k (.int .i64 1)))⟩,⟨some 12,none,.q (.mv (.t 49))⟩])))))))) (.reg [⟨some 35,none,.q (.mv (.t 10))⟩,⟨some 36,none,.q (.bin .add true (.t 35) (.k (.int .i64 1)))⟩,⟨some 10,none,.q (.mv (.t 36))⟩])))))))) (.reg [⟨some 19,none,.q (.mv (.t 7))⟩,⟨some 20,none,.q (.bin .add true (.t 19) (.k (.int .i64 1)))⟩,⟨some 7,none,.q (.mv (.t 20))⟩])))))) (.seq (.reg [⟨some 72,none,.q (.mv (.t 5))⟩,⟨some 4,none,.q (.mv (.t 72))⟩]) .ret))))
def rs44:List RV:=[.mv (.t 4)]
theorem ok44:trFn Tryz.prog true ⟨fun r k=>if r=14/\k=7 then .q else .own [],fun _=>false⟩ Tryz.f44=some (pc44,rs44):=by kernel_rfl
def pc45:PC:=.seq (.reg [⟨some 6,none,.q (.mv (.k (.bool false)))⟩]) (.seq (.seq (.reg [⟨some 7,none,.q (.mv (.k (.int .i64 0)))⟩]) (.block 0 (.loop (.seq (.seq (.reg [⟨some 8,none,.q (.mv (.t 7))⟩,⟨some 9,none,.q (.mv (.t 1))⟩,⟨some 10,none,.q (.bin .lss true (.t 8) (.t 9))⟩,⟨some 11,none,.q (.mv (.t 10))⟩,⟨some 12,(some (11,true)),.q (.mv (.t 7))⟩,⟨some 13,(some (11,true)),.q (.mv (.t 0))⟩,⟨some 14,(some (11,true)),.q (.lnL (.t 13))⟩,⟨some 15,(some (11,true)),.q (.bin .lss true (.t 12) (.t 14))⟩,⟨some 16,none,.pick (.t 11) (.t 15) (.k (.bool false))⟩]) (.cond (.t 16) .skip (.exit 0))) (.seq (.block 1 (.seq (.reg [⟨some 19,none,.q (.mv (.t 0))⟩,⟨some 20,none,.q (.mv (.t 7))⟩,⟨some 21,none,.l (.ia 1 (.t 19) (.t 20))⟩,⟨some 22,none,.l (.ld1 (.t 21))⟩,⟨some 23,none,.q (.mv (.t 2))⟩,⟨some 24,none,.q (.bin .eql true (.t 22) (.t 23))⟩]) (.cond (.t 24) (.seq (.reg [⟨some 6,none,.q (.mv (.k (.bool true)))⟩]) .ret) .skip))) (.reg [⟨some 17,none,.q (.mv (.t 7))⟩,⟨some 18,none,.q (.bin .add true (.t 17) (.k (.int .i64 1)))⟩,⟨some 7,none,.q (.mv (.t 18))⟩])))))) (.seq (.reg [⟨some 6,none,.q (.mv (.k (.bool false)))⟩]) .ret))
def rs45:List RV:=[.mv (.t 6)]
theorem ok45:trFn Tryz.prog true ⟨fun _ _=>.own [],fun _=>false⟩ Tryz.f45=some (pc45,rs45):=by kernel_rfl
def pc46:PC:=.seq (.reg [⟨some 1,none,.e (.bx 25 (.t 0))⟩,⟨some 2,none,.q (.mv (.k (.slice none 0 0)))⟩]) (.seq (.reg [⟨some 8,none,.q (.fa 2 (.t 1))⟩,⟨some 9,none,.l (.ld1 (.t 8))⟩,⟨some 10,none,.q (.lnL (.t 9))⟩,⟨some 11,none,.e (.mk 3 1 8 [(.int .i64 0)] (.t 10) (.t 10))⟩,⟨some 3,none,.q (.mv (.t 11))⟩]) (.seq (.seq (.reg [⟨some 4,none,.q (.mv (.k (.int .i64 0)))⟩]) (.block 0 (.loop (.seq (.seq (.reg [⟨some 12,none,.q (.mv (.t 4))⟩,⟨some 13,none,.q (.fa 2 (.t 1))⟩,⟨some 14,none,.l (.ld1 (.t 13))⟩,⟨some 15,none,.q (.lnL (.t 14))⟩,⟨some 16,none,.q (.bin .leq true (.t 12) (.t 15))⟩]) (.cond (.t 16) .skip (.exit 0))) (.seq (.block 1 (.seq (.reg [⟨some 5,none,.q (.mv (.k (.int .i64 0)))⟩]) (.block 2 (.loop (.seq (.seq (.reg [⟨some 19,none,.q (.mv (.t 5))⟩,⟨some 20,none,.q (.fa 2 (.t 1))⟩,⟨some 21,none,.l (.ld1 (.t 20))⟩,⟨some 22,none,.q (.lnL (.t 21))⟩,⟨some 23,none,.q (.bin .lss true (.t 19) (.t 22))⟩]) (.cond (.t 23) .skip (.exit 2))) (.seq (.block 3 (.seq (.reg [⟨some 6,none,.q (.mv (.k (.int .i64 0)))⟩]) (.seq (.seq (.reg [⟨some 7,none,.q (.mv (.k (.int .i64 0)))⟩]) (.block 4 (.loop (.seq (.seq (.reg [⟨some 26,none,.q (.mv (.t 7))⟩,⟨some 27,none,.q (.fa 2 (.t 1))⟩,⟨some 28,none,.l (.ld1 (.t 27))⟩,⟨some 29,none,.q (.mv (.t 5))⟩,⟨some 30,none,.l (.ia 2 (.t 28) (.t 29))⟩,⟨some 31,none,.q (.fa 1 (.t 30))⟩,⟨some 32,none,.l (.ld1 (.t 31))⟩,⟨some 33,none,.q (.lnL (.t 32))⟩,⟨some 34,none,.q (.bin .lss true (.t 26) (.t 33))⟩]) (.cond (.t 34) .skip (.exit 4))) (.seq (.block 5 (.reg [⟨some 37,none,.q (.mv (.t 6))⟩,⟨some 38,none,.l (.ldn 3 (.t 1))⟩,⟨some 39,none,.q (.mv (.t 3))⟩,⟨some 40,none,.q (.fa 2 (.t 1))⟩,⟨some 41,none,.l (.ld1 (.t 40))⟩,⟨some 42,none,.q (.mv (.t 5))⟩,⟨some 43,none,.l (.ia 2 (.t 41) (.t 42))⟩,⟨some 44,none,.q (.fa 1 (.t 43))⟩,⟨some 45,none,.l (.ld1 (.t 44))⟩,⟨some 46,none,.q (.mv (.t 7))⟩,⟨some 47,none,.l (.ia 7 (.t 45) (.t 46))⟩,⟨some 48,none,.q (.fa 2 (.t 47))⟩,⟨some 49,none,.l (.ldn 4 (.t 48))⟩,⟨some 50,none,.cq 69 [(.t 38),(.t 39),(.t 49)]⟩,⟨some 51,none,.q (.mx true (.t 37) (.t 50))⟩,⟨some 6,none,.q (.mv (.t 51))⟩])) (.reg [⟨some 35,none,.q (.mv (.t 7))⟩,⟨some 36,none,.q (.bin .add true (.t 35) (.k (.int .i64 1)))⟩,⟨some 7,none,.q (.mv (.t 36))⟩])))))) (.reg [⟨some 52,none,.q (.mv (.t 3))⟩,⟨some 53,none,.q (.mv (.t 5))⟩,⟨some 54,none,.q (.mv (.t 6))⟩,⟨some 55,none,.q (.bin .add true (.k (.int .i64 1)) (.t 54))⟩,⟨some 56,none,.l (.ia 1 (.t 52) (.t 53))⟩,⟨none,none,.e (.st 1 (.t 56) (.t 55))⟩])))) (.reg [⟨some 24,none,.q (.mv (.t 5))⟩,⟨some 25,none,.q (.bin .add true (.t 24) (.k (.int .i64 1)))⟩,⟨some 5,none,.q (.mv (.t 25))⟩]))))))) (.reg [⟨some 17,none,.q (.mv (.t 4))⟩,⟨some 18,none,.q (.bin .add true (.t 17) (.k (.int .i64 1)))⟩,⟨some 4,none,.q (.mv (.t 18))⟩])))))) (.seq (.reg [⟨some 57,none,.q (.mv (.t 3))⟩,⟨some 2,none,.q (.mv (.t 57))⟩]) .ret)))
def rs46:List RV:=[.mv (.t 2)]
theorem ok46:trFn Tryz.prog true ⟨fun r k=>if r=12/\k=13 then .q else .own [],fun _=>false⟩ Tryz.f46=some (pc46,rs46):=by kernel_rfl
def pc47:PC:=.seq (.reg [⟨some 2,none,.e (.bx 45 (.t 0))⟩,⟨some 4,none,.e (.al (.agg #[(.int .i64 0),(.string (mk [])),(.int .i64 0),(.int .i64 0),(.string (mk [])),(.slice none 0 0),(.bool false)]) 42)⟩,⟨some 5,none,.q (.mv (.k (.bool false)))⟩]) (.seq (.seq (.reg [⟨some 6,none,.q (.mv (.k (.int .i64 0)))⟩]) (.block 0 (.loop (.seq (.seq (.reg [⟨some 7,none,.q (.mv (.t 6))⟩,⟨some 8,none,.q (.fa 1 (.t 2))⟩,⟨some 9,none,.l (.ld1 (.t 8))⟩,⟨some 10,none,.q (.lnL (.t 9))⟩,⟨some 11,none,.q (.bin .lss true (.t 7) (.t 10))⟩]) (.cond (.t 11) .skip (.exit 0))) (.seq (.block 1 (.seq (.reg [⟨some 14,none,.q (.fa 1 (.t 2))⟩,⟨some 15,none,.l (.ld1 (.t 14))⟩,⟨some 16,none,.q (.mv (.t 6))⟩,⟨some 17,none,.l (.ia 7 (.t 15) (.t 16))⟩,⟨some 18,none,.q (.fa 0 (.t 17))⟩,⟨some 19,none,.l (.ld1 (.t 18))⟩,⟨some 20,none,.q (.mv (.t 1))⟩,⟨some 21,none,.q (.bin .eql true (.t 19) (.t 20))⟩]) (.cond (.t 21) (.seq (.reg [⟨some 22,none,.q (.fa 1 (.t 2))⟩,⟨some 23,none,.l (.ld1 (.t 22))⟩,⟨some 24,none,.q (.mv (.t 6))⟩,⟨some 25,none,.l (.ia 7 (.t 23) (.t 24))⟩,⟨some 26,none,.l (.ldn 7 (.t 25))⟩,⟨none,none,.e (.st 7 (.t 4) (.t 26))⟩,⟨some 5,none,.q (.mv (.k (.bool true)))⟩]) .ret) .skip))) (.reg [⟨some 12,none,.q (.mv (.t 6))⟩,⟨some 13,none,.q (.bin .add true (.t 12) (.k (.int .i64 1)))⟩,⟨some 6,none,.q (.mv (.t 13))⟩])))))) (.seq (.reg [⟨some 27,none,.q (.bd [(.int .i64 0),(.string (mk [])),(.int .i64 0),(.int .i64 0),(.string (mk [])),(.slice none 0 0),(.bool false)] [])⟩,⟨none,none,.e (.st 7 (.t 4) (.t 27))⟩,⟨some 5,none,.q (.mv (.k (.bool false)))⟩]) .ret))
def rs47:List RV:=[.ld (.ldn 7 (.t 4)),.mv (.t 5)]
theorem ok47:trFn Tryz.prog true ⟨fun _ _=>.own [],fun _=>false⟩ Tryz.f47=some (pc47,rs47):=by kernel_rfl
def pc48:PC:=.seq (.reg [⟨some 2,none,.e (.bx 40 (.t 0))⟩,⟨some 4,none,.q (.mv (.k (.int .i64 0)))⟩]) (.seq (.reg [⟨some 5,none,.q (.mv (.k (.int .i64 0)))⟩]) (.seq (.seq (.reg [⟨some 6,none,.q (.mv (.k (.int .i64 0)))⟩]) (.block 0 (.loop (.seq (.seq (.reg [⟨some 7,none,.q (.mv (.t 6))⟩,⟨some 8,none,.q (.fa 3 (.t 2))⟩,⟨some 9,none,.l (.ld1 (.t 8))⟩,⟨some 10,none,.q (.lnL (.t 9))⟩,⟨some 11,none,.q (.bin .lss true (.t 7) (.t 10))⟩,⟨some 12,none,.q (.mv (.t 11))⟩,⟨some 13,(some (12,true)),.q (.mv (.t 1))⟩,⟨some 14,(some (12,true)),.q (.bin .gtr true (.t 13) (.k (.int .i64 0)))⟩,⟨some 15,none,.pick (.t 12) (.t 14) (.k (.bool false))⟩]) (.cond (.t 15) .skip (.exit 0))) (.seq (.block 1 (.reg [⟨some 18,none,.q (.mv (.t 5))⟩,⟨some 19,none,.q (.fa 3 (.t 2))⟩,⟨some 20,none,.l (.ld1 (.t 19))⟩,⟨some 21,none,.q (.mv (.t 6))⟩,⟨some 22,none,.l (.ia 4 (.t 20) (.t 21))⟩,⟨some 23,none,.l (.ldn 4 (.t 22))⟩,⟨some 24,none,.q (.mv (.t 1))⟩,⟨some 25,none,.q (.bin .sub true (.t 24) (.k (.int .i64 1)))⟩,⟨some 26,none,.cq 48 [(.t 23),(.t 25)]⟩,⟨some 27,none,.q (.bin .add true (.k (.int .i64 1)) (.t 26))⟩,⟨some 28,none,.q (.mx true (.t 18) (.t 27))⟩,⟨some 5,none,.q (.mv (.t 28))⟩])) (.reg [⟨some 16,none,.q (.mv (.t 6))⟩,⟨some 17,none,.q (.bin .add true (.t 16) (.k (.int .i64 1)))⟩,⟨some 6,none,.q (.mv (.t 17))⟩])))))) (.seq (.reg [⟨some 29,none,.q (.mv (.t 5))⟩,⟨some 4,none,.q (.mv (.t 29))⟩]) .ret)))
def rs48:List RV:=[.mv (.t 4)]
theorem ok48:trFn Tryz.prog true ⟨fun r k=>if r=5/\k=8 then .q else .own [],fun _=>false⟩ Tryz.f48=some (pc48,rs48):=by kernel_rfl
def pc63:PC:=.seq (.reg [⟨some 2,none,.q (.mv (.k (.bool false)))⟩]) (.seq (.reg [⟨some 3,none,.q (.mv (.t 0))⟩,⟨some 4,none,.cq 64 [(.t 3)]⟩,⟨some 5,none,.q (.mv (.t 4))⟩,⟨some 6,(some (5,true)),.q (.mv (.t 0))⟩,⟨some 7,(some (5,true)),.ix (.t 6) (.k (.int .i64 0))⟩,⟨some 8,(some (5,true)),.q (.bin .geq true (.t 7) (.k (.int .u8 65)))⟩,⟨some 9,none,.pick (.t 5) (.t 8) (.k (.bool false))⟩,⟨some 10,none,.q (.mv (.t 9))⟩,⟨some 11,(some (10,true)),.q (.mv (.t 0))⟩,⟨some 12,(some (10,true)),.ix (.t 11) (.k (.int .i64 0))⟩,⟨some 13,(some (10,true)),.q (.bin .leq true (.t 12) (.k (.int .u8 90)))⟩,⟨some 14,none,.pick (.t 10) (.t 13) (.k (.bool false))⟩,⟨some 2,none,.q (.mv (.t 14))⟩]) .ret)
def rs63:List RV:=[.mv (.t 2)]
theorem ok63:trFn Tryz.prog true ⟨fun r k=>if r=1/\k=1 then .q else .own [],fun _=>false⟩ Tryz.f63=some (pc63,rs63):=by kernel_rfl
def pc64:PC:=.seq (.reg [⟨some 2,none,.q (.mv (.k (.bool false)))⟩]) (.seq (.seq (.reg [⟨some 6,none,.q (.mv (.t 0))⟩,⟨some 7,none,.q (.lnS (.t 6))⟩,⟨some 8,none,.q (.bin .lss true (.t 7) (.k (.int .i64 1)))⟩,⟨some 9,none,.q (.mv (.t 8))⟩,⟨some 10,(some (9,false)),.q (.mv (.t 0))⟩,⟨some 11,(some (9,false)),.q (.lnS (.t 10))⟩,⟨some 12,(some (9,false)),.q (.bin .gtr true (.t 11) (.k (.int .i64 16)))⟩,⟨some 13,none,.pick (.t 9) (.k (.bool true)) (.t 12)⟩]) (.cond (.t 13) (.seq (.reg [⟨some 2,none,.q (.mv (.k (.bool false)))⟩]) .ret) .skip)) (.seq (.seq (.reg [⟨some 3,none,.q (.mv (.k (.int .i64 0)))⟩]) (.block 0 (.loop (.seq (.seq (.reg [⟨some 14,none,.q (.mv (.t 3))⟩,⟨some 15,none,.q (.mv (.t 0))⟩,⟨some 16,none,.q (.lnS (.t 15))⟩,⟨some 17,none,.q (.bin .lss true (.t 14) (.t 16))⟩]) (.cond (.t 17) .skip (.exit 0))) (.seq (.block 1 (.seq (.reg [⟨some 20,none,.q (.mv (.t 0))⟩,⟨some 21,none,.q (.mv (.t 3))⟩,⟨some 22,none,.ix (.t 20) (.t 21)⟩,⟨some 23,none,.q (.bin .geq true (.t 22) (.k (.int .u8 97)))⟩,⟨some 24,none,.q (.mv (.t 23))⟩,⟨some 25,(some (24,true)),.q (.mv (.t 0))⟩,⟨some 26,(some (24,true)),.q (.mv (.t 3))⟩,⟨some 27,(some (24,true)),.ix (.t 25) (.t 26)⟩,⟨some 28,(some (24,true)),.q (.bin .leq true (.t 27) (.k (.int .u8 122)))⟩,⟨some 29,none,.pick (.t 24) (.t 28) (.k (.bool false))⟩,⟨some 30,none,.q (.mv (.t 29))⟩,⟨some 31,(some (30,false)),.q (.mv (.t 0))⟩,⟨some 32,(some (30,false)),.q (.mv (.t 3))⟩,⟨some 33,(some (30,false)),.ix (.t 31) (.t 32)⟩,⟨some 34,(some (30,false)),.q (.bin .geq true (.t 33) (.k (.int .u8 65)))⟩,⟨some 35,(some (30,false)),.q (.mv (.t 34))⟩,⟨some 36,(some (35,true)),.q (.mv (.t 0))⟩,⟨some 37,(some (35,true)),.q (.mv (.t 3))⟩,⟨some 38,(some (35,true)),.ix (.t 36) (.t 37)⟩,⟨some 39,(some (35,true)),.q (.bin .leq true (.t 38) (.k (.int .u8 90)))⟩,⟨some 40,(some (30,false)),.pick (.t 35) (.t 39) (.k (.bool false))⟩,⟨some 41,none,.pick (.t 30) (.k (.bool true)) (.t 40)⟩,⟨some 4,none,.q (.mv (.t 41))⟩]) (.seq (.reg [⟨some 42,none,.q (.mv (.t 0))⟩,⟨some 43,none,.q (.mv (.t 3))⟩,⟨some 44,none,.ix (.t 42) (.t 43)⟩,⟨some 45,none,.q (.bin .eql true (.t 44) (.k (.int .u8 95)))⟩,⟨some 46,none,.q (.mv (.t 45))⟩,⟨some 47,(some (46,false)),.q (.mv (.t 0))⟩,⟨some 48,(some (46,false)),.q (.mv (.t 3))⟩,⟨some 49,(some (46,false)),.ix (.t 47) (.t 48)⟩,⟨some 50,(some (46,false)),.q (.bin .geq true (.t 49) (.k (.int .u8 48)))⟩,⟨some 51,(some (46,false)),.q (.mv (.t 50))⟩,⟨some 52,(some (51,true)),.q (.mv (.t 0))⟩,⟨some 53,(some (51,true)),.q (.mv (.t 3))⟩,⟨some 54,(some (51,true)),.ix (.t 52) (.t 53)⟩,⟨some 55,(some (51,true)),.q (.bin .leq true (.t 54) (.k (.int .u8 57)))⟩,⟨some 56,(some (46,false)),.pick (.t 51) (.t 55) (.k (.bool false))⟩,⟨some 57,none,.pick (.t 46) (.k (.bool true)) (.t 56)⟩,⟨some 5,none,.q (.mv (.t 57))⟩]) (.seq (.reg [⟨some 58,none,.q (.mv (.t 4))⟩,⟨some 59,none,.q (.not (.t 58))⟩,⟨some 60,none,.q (.mv (.t 59))⟩,⟨some 61,(some (60,true)),.q (.mv (.t 3))⟩,⟨some 62,(some (60,true)),.q (.bin .eql true (.t 61) (.k (.int .i64 0)))⟩,⟨some 63,(some (60,true)),.q (.mv (.t 62))⟩,⟨some 64,(some (63,false)),.q (.mv (.t 5))⟩,⟨some 65,(some (63,false)),.q (.not (.t 64))⟩,⟨some 66,(some (60,true)),.pick (.t 63) (.k (.bool true)) (.t 65)⟩,⟨some 67,none,.pick (.t 60) (.t 66) (.k (.bool false))⟩]) (.cond (.t 67) (.seq (.reg [⟨some 2,none,.q (.mv (.k (.bool false)))⟩]) .ret) .skip))))) (.reg [⟨some 18,none,.q (.mv (.t 3))⟩,⟨some 19,none,.q (.bin .add true (.t 18) (.k (.int .i64 1)))⟩,⟨some 3,none,.q (.mv (.t 19))⟩])))))) (.seq (.reg [⟨some 2,none,.q (.mv (.k (.bool true)))⟩]) .ret)))
def rs64:List RV:=[.mv (.t 2)]
theorem ok64:trFn Tryz.prog true ⟨fun _ _=>.own [],fun _=>false⟩ Tryz.f64=some (pc64,rs64):=by kernel_rfl
def pc65:PC:=.seq (.reg [⟨some 2,none,.e (.bx 25 (.t 0))⟩,⟨some 4,none,.e (.al (.agg #[(.string (mk [])),(.slice none 0 0),(.slice none 0 0)]) 60)⟩,⟨some 5,none,.q (.mv (.k (.bool false)))⟩]) (.seq (.seq (.reg [⟨some 6,none,.q (.mv (.k (.int .i64 0)))⟩]) (.block 0 (.loop (.seq (.seq (.reg [⟨some 7,none,.q (.mv (.t 6))⟩,⟨some 8,none,.q (.fa 1 (.t 2))⟩,⟨some 9,none,.l (.ld1 (.t 8))⟩,⟨some 10,none,.q (.lnL (.t 9))⟩,⟨some 11,none,.q (.bin .lss true (.t 7) (.t 10))⟩]) (.cond (.t 11) .skip (.exit 0))) (.seq (.block 1 (.seq (.reg [⟨some 14,none,.q (.fa 1 (.t 2))⟩,⟨some 15,none,.l (.ld1 (.t 14))⟩,⟨some 16,none,.q (.mv (.t 6))⟩,⟨some 17,none,.l (.ia 3 (.t 15) (.t 16))⟩,⟨some 18,none,.q (.fa 0 (.t 17))⟩,⟨some 19,none,.l (.ld1 (.t 18))⟩,⟨some 20,none,.q (.mv (.t 1))⟩,⟨some 21,none,.q (.bin .eql true (.t 19) (.t 20))⟩]) (.cond (.t 21) (.seq (.reg [⟨some 22,none,.q (.fa 1 (.t 2))⟩,⟨some 23,none,.l (.ld1 (.t 22))⟩,⟨some 24,none,.q (.mv (.t 6))⟩,⟨some 25,none,.l (.ia 3 (.t 23) (.t 24))⟩,⟨some 26,none,.l (.ldn 3 (.t 25))⟩,⟨none,none,.e (.st 3 (.t 4) (.t 26))⟩,⟨some 5,none,.q (.mv (.k (.bool true)))⟩]) .ret) .skip))) (.reg [⟨some 12,none,.q (.mv (.t 6))⟩,⟨some 13,none,.q (.bin .add true (.t 12) (.k (.int .i64 1)))⟩,⟨some 6,none,.q (.mv (.t 13))⟩])))))) (.seq (.reg [⟨some 27,none,.q (.bd [(.string (mk [])),(.slice none 0 0),(.slice none 0 0)] [])⟩,⟨none,none,.e (.st 3 (.t 4) (.t 27))⟩,⟨some 5,none,.q (.mv (.k (.bool false)))⟩]) .ret))
def rs65:List RV:=[.ld (.ldn 3 (.t 4)),.mv (.t 5)]
theorem ok65:trFn Tryz.prog true ⟨fun _ _=>.own [],fun _=>false⟩ Tryz.f65=some (pc65,rs65):=by kernel_rfl
def pc66:PC:=.seq (.reg [⟨some 2,none,.e (.bx 25 (.t 0))⟩,⟨some 3,none,.e (.bx 40 (.t 1))⟩,⟨some 4,none,.q (.mv (.k (.bool false)))⟩]) (.seq (.seq (.reg [⟨some 9,none,.q (.fa 0 (.t 3))⟩,⟨some 10,none,.l (.ld1 (.t 9))⟩]) (.block 0 (.seq (.reg [⟨some 12,none,.q (.bin .eql true (.t 10) (.k (.int .i64 1)))⟩,⟨some 11,none,.q (.mv (.t 12))⟩]) (.cond (.t 11) (.seq (.reg [⟨some 13,none,.q (.fa 1 (.t 3))⟩,⟨some 14,none,.l (.ld1 (.t 13))⟩,⟨some 15,none,.q (.bin .eql true (.t 14) (.k (.int .i64 0)))⟩,⟨some 16,none,.q (.mv (.t 15))⟩,⟨some 17,(some (16,true)),.q (.fa 2 (.t 3))⟩,⟨some 18,(some (16,true)),.l (.ld1 (.t 17))⟩,⟨some 19,(some (16,true)),.q (.bin .eql true (.t 18) (.k (.string (mk []))))⟩,⟨some 20,none,.pick (.t 16) (.t 19) (.k (.bool false))⟩,⟨some 21,none,.q (.mv (.t 20))⟩,⟨some 22,(some (21,true)),.l (.ldn 4 (.t 3))⟩,⟨some 23,(some (21,true)),.cq 90 [(.t 22)]⟩,⟨some 24,none,.pick (.t 21) (.t 23) (.k (.bool false))⟩,⟨some 4,none,.q (.mv (.t 24))⟩]) .ret) (.seq (.reg [⟨some 26,none,.q (.bin .eql true (.t 10) (.k (.int .i64 2)))⟩,⟨some 25,none,.q (.mv (.t 26))⟩]) (.cond (.t 25) (.seq (.reg [⟨some 27,none,.q (.fa 1 (.t 3))⟩,⟨some 28,none,.l (.ld1 (.t 27))⟩,⟨some 29,none,.q (.bin .eql true (.t 28) (.k (.int .i64 8)))⟩,⟨some 30,none,.q (.mv (.t 29))⟩,⟨some 31,(some (30,false)),.q (.fa 1 (.t 3))⟩,⟨some 32,(some (30,false)),.l (.ld1 (.t 31))⟩,⟨some 33,(some (30,false)),.q (.bin .eql true (.t 32) (.k (.int .i64 16)))⟩,⟨some 34,none,.pick (.t 30) (.k (.bool true)) (.t 33)⟩,⟨some 35,none,.q (.mv (.t 34))⟩,⟨some 36,(some (35,false)),.q (.fa 1 (.t 3))⟩,⟨some 37,(some (35,false)),.l (.ld1 (.t 36))⟩,⟨some 38,(some (35,false)),.q (.bin .eql true (.t 37) (.k (.int .i64 32)))⟩,⟨some 39,none,.pick (.t 35) (.k (.bool true)) (.t 38)⟩,⟨some 40,none,.q (.mv (.t 39))⟩,⟨some 41,(some (40,false)),.q (.fa 1 (.t 3))⟩,⟨some 42,(some (40,false)),.l (.ld1 (.t 41))⟩,⟨some 43,(some (40,false)),.q (.bin .eql true (.t 42) (.k (.int .i64 64)))⟩,⟨some 44,none,.pick (.t 40) (.k (.bool true)) (.t 43)⟩,⟨some 45,none,.q (.mv (.t 44))⟩,⟨some 46,(some (45,true)),.q (.fa 2 (.t 3))⟩,⟨some 47,(some (45,true)),.l (.ld1 (.t 46))⟩,⟨some 48,(some (45,true)),.q (.bin .eql true (.t 47) (.k (.string (mk []))))⟩,⟨some 49,none,.pick (.t 45) (.t 48) (.k (.bool false))⟩,⟨some 50,none,.q (.mv (.t 49))⟩,⟨some 51,(some (50,true)),.l (.ldn 4 (.t 3))⟩,⟨some 52,(some (50,true)),.cq 90 [(.t 51)]⟩,⟨some 53,none,.pick (.t 50) (.t 52) (.k (.bool false))⟩,⟨some 4,none,.q (.mv (.t 53))⟩]) .ret) (.seq (.reg [⟨some 55,none,.q (.bin .eql true (.t 10) (.k (.int .i64 3)))⟩,⟨some 54,none,.q (.mv (.t 55))⟩]) (.cond (.t 54) (.seq (.reg [⟨some 56,none,.q (.fa 1 (.t 3))⟩,⟨some 57,none,.l (.ld1 (.t 56))⟩,⟨some 58,none,.q (.bin .eql true (.t 57) (.k (.int .i64 8)))⟩,⟨some 59,none,.q (.mv (.t 58))⟩,⟨some 60,(some (59,false)),.q (.fa 1 (.t 3))⟩,⟨some 61,(some (59,false)),.l (.ld1 (.t 60))⟩,⟨some 62,(some (59,false)),.q (.bin .eql true (.t 61) (.k (.int .i64 16)))⟩,⟨some 63,none,.pick (.t 59) (.k (.bool true)) (.t 62)⟩,⟨some 64,none,.q (.mv (.t 63))⟩,⟨some 65,(some (64,false)),.q (.fa 1 (.t 3))⟩,⟨some 66,(some (64,false)),.l (.ld1 (.t 65))⟩,⟨some 67,(some (64,false)),.q (.bin .eql true (.t 66) (.k (.int .i64 32)))⟩,⟨some 68,none,.pick (.t 64) (.k (.bool true)) (.t 67)⟩,⟨some 69,none,.q (.mv (.t 68))⟩,⟨some 70,(some (69,true)),.q (.fa 2 (.t 3))⟩,⟨some 71,(some (69,true)),.l (.ld1 (.t 70))⟩,⟨some 72,(some (69,true)),.q (.bin .eql true (.t 71) (.k (.string (mk []))))⟩,⟨some 73,none,.pick (.t 69) (.t 72) (.k (.bool false))⟩,⟨some 74,none,.q (.mv (.t 73))⟩,⟨some 75,(some (74,true)),.l (.ldn 4 (.t 3))⟩,⟨some 76,(some (74,true)),.cq 90 [(.t 75)]⟩,⟨some 77,none,.pick (.t 74) (.t 76) (.k (.bool false))⟩,⟨some 4,none,.q (.mv (.t 77))⟩]) .ret) (.seq (.reg [⟨some 79,none,.q (.bin .eql true (.t 10) (.k (.int .i64 4)))⟩,⟨some 78,none,.q (.mv (.t 79))⟩]) (.cond (.t 78) (.seq (.reg [⟨some 80,none,.q (.fa 1 (.t 3))⟩,⟨some 81,none,.l (.ld1 (.t 80))⟩,⟨some 82,none,.q (.bin .geq true (.t 81) (.k (.int .i64 1)))⟩,⟨some 83,none,.q (.mv (.t 82))⟩,⟨some 84,(some (83,true)),.q (.fa 1 (.t 3))⟩,⟨some 85,(some (83,true)),.l (.ld1 (.t 84))⟩,⟨some 86,(some (83,true)),.q (.bin .leq true (.t 85) (.k (.int .i64 2000)))⟩,⟨some 87,none,.pick (.t 83) (.t 86) (.k (.bool false))⟩,⟨some 88,none,.q (.mv (.t 87))⟩,⟨some 89,(some (88,true)),.q (.fa 2 (.t 3))⟩,⟨some 90,(some (88,true)),.l (.ld1 (.t 89))⟩,⟨some 91,(some (88,true)),.q (.bin .eql true (.t 90) (.k (.string (mk []))))⟩,⟨some 92,none,.pick (.t 88) (.t 91) (.k (.bool false))⟩,⟨some 93,none,.q (.mv (.t 92))⟩,⟨some 94,(some (93,true)),.l (.ldn 4 (.t 3))⟩,⟨some 95,(some (93,true)),.cq 90 [(.t 94)]⟩,⟨some 96,none,.pick (.t 93) (.t 95) (.k (.bool false))⟩,⟨some 4,none,.q (.mv (.t 96))⟩]) .ret) (.seq (.reg [⟨some 98,none,.q (.bin .eql true (.t 10) (.k (.int .i64 5)))⟩,⟨some 97,none,.q (.mv (.t 98))⟩]) (.cond (.t 97) (.seq (.reg [⟨some 99,none,.q (.fa 1 (.t 3))⟩,⟨some 100,none,.l (.ld1 (.t 99))⟩,⟨some 101,none,.q (.bin .geq true (.t 100) (.k (.int .i64 1)))⟩,⟨some 102,none,.q (.mv (.t 101))⟩,⟨some 103,(some (102,true)),.q (.fa 1 (.t 3))⟩,⟨some 104,(some (102,true)),.l (.ld1 (.t 103))⟩,⟨some 105,(some (102,true)),.q (.bin .leq true (.t 104) (.k (.int .i64 32)))⟩,⟨some 106,none,.pick (.t 102) (.t 105) (.k (.bool false))⟩,⟨some 107,none,.q (.mv (.t 106))⟩,⟨some 108,(some (107,true)),.q (.fa 2 (.t 3))⟩,⟨some 109,(some (107,true)),.l (.ld1 (.t 108))⟩,⟨some 110,(some (107,true)),.q (.bin .eql true (.t 109) (.k (.string (mk []))))⟩,⟨some 111,none,.pick (.t 107) (.t 110) (.k (.bool false))⟩,⟨some 112,none,.q (.mv (.t 111))⟩,⟨some 113,(some (112,true)),.q (.fa 3 (.t 3))⟩,⟨some 114,(some (112,true)),.l (.ld1 (.t 113))⟩,⟨some 115,(some (112,true)),.q (.lnL (.t 114))⟩,⟨some 116,(some (112,true)),.q (.bin .eql true (.t 115) (.k (.int .i64 1)))⟩,⟨some 117,none,.pick (.t 112) (.t 116) (.k (.bool false))⟩,⟨some 118,none,.q (.mv (.t 117))⟩,⟨some 119,(some (118,true)),.l (.ldn 3 (.t 2))⟩,⟨some 120,(some (118,true)),.q (.fa 3 (.t 3))⟩,⟨some 121,(some (118,true)),.l (.ld1 (.t 120))⟩,⟨some 122,(some (118,true)),.l (.ia 4 (.t 121) (.k (.int .i64 0)))⟩,⟨some 123,(some (118,true)),.l (.ldn 4 (.t 122))⟩,⟨some 124,(some (118,true)),.cq 66 [(.t 119),(.t 123)]⟩,⟨some 125,none,.pick (.t 118) (.t 124) (.k (.bool false))⟩,⟨some 4,none,.q (.mv (.t 125))⟩]) .ret) (.seq (.reg [⟨some 127,none,.q (.bin .eql true (.t 10) (.k (.int .i64 6)))⟩,⟨some 126,none,.q (.mv (.t 127))⟩]) (.cond (.t 126) (.seq (.reg [⟨some 129,none,.l (.ldn 3 (.t 2))⟩,⟨some 130,none,.q (.fa 2 (.t 3))⟩,⟨some 131,none,.l (.ld1 (.t 130))⟩,⟨some 132,none,.cl 17 [(.t 129),(.t 131)] []⟩,⟨some 128,none,.q (.mv (.t 132))⟩,⟨some 133,none,.q (.ex (.t 128) 0)⟩,⟨some 134,none,.q (.ex (.t 128) 1)⟩,⟨some 5,none,.e (.al (.agg #[(.string (mk [])),(.slice none 0 0)]) 45)⟩,⟨none,none,.e (.st 2 (.t 5) (.t 133))⟩,⟨some 6,none,.q (.mv (.t 134))⟩]) (.seq (.reg [⟨some 135,none,.q (.mv (.t 6))⟩,⟨some 136,none,.q (.mv (.t 135))⟩,⟨some 137,(some (136,true)),.q (.fa 1 (.t 3))⟩,⟨some 138,(some (136,true)),.l (.ld1 (.t 137))⟩,⟨some 139,(some (136,true)),.q (.bin .eql true (.t 138) (.k (.int .i64 0)))⟩,⟨some 140,none,.pick (.t 136) (.t 139) (.k (.bool false))⟩,⟨some 141,none,.q (.mv (.t 140))⟩,⟨some 142,(some (141,true)),.l (.ldn 4 (.t 3))⟩,⟨some 143,(some (141,true)),.cq 90 [(.t 142)]⟩,⟨some 144,none,.pick (.t 141) (.t 143) (.k (.bool false))⟩,⟨some 4,none,.q (.mv (.t 144))⟩]) .ret)) (.seq (.reg [⟨some 146,none,.q (.bin .eql true (.t 10) (.k (.int .i64 7)))⟩,⟨some 145,none,.q (.mv (.t 146))⟩]) (.cond (.t 145) (.seq (.reg [⟨some 148,none,.l (.ldn 3 (.t 2))⟩,⟨some 149,none,.q (.fa 2 (.t 3))⟩,⟨some 150,none,.l (.ld1 (.t 149))⟩,⟨some 151,none,.cl 65 [(.t 148),(.t 150)] []⟩,⟨some 147,none,.q (.mv (.t 151))⟩,⟨some 152,none,.q (.ex (.t 147) 0)⟩,⟨some 153,none,.q (.ex (.t 147) 1)⟩,⟨some 7,none,.e (.al (.agg #[(.string (mk [])),(.slice none 0 0),(.slice none 0 0)]) 60)⟩,⟨none,none,.e (.st 3 (.t 7) (.t 152))⟩,⟨some 8,none,.q (.mv (.t 153))⟩]) (.seq (.reg [⟨some 154,none,.q (.mv (.t 8))⟩,⟨some 155,none,.q (.mv (.t 154))⟩,⟨some 156,(some (155,true)),.q (.fa 1 (.t 3))⟩,⟨some 157,(some (155,true)),.l (.ld1 (.t 156))⟩,⟨some 158,(some (155,true)),.q (.bin .eql true (.t 157) (.k (.int .i64 0)))⟩,⟨some 159,none,.pick (.t 155) (.t 158) (.k (.bool false))⟩,⟨some 160,none,.q (.mv (.t 159))⟩,⟨some 161,(some (160,true)),.l (.ldn 4 (.t 3))⟩,⟨some 162,(some (160,true)),.cq 90 [(.t 161)]⟩,⟨some 163,none,.pick (.t 160) (.t 162) (.k (.bool false))⟩,⟨some 4,none,.q (.mv (.t 163))⟩]) .ret)) .skip)))))))))))))))) (.seq (.reg [⟨some 4,none,.q (.mv (.k (.bool false)))⟩]) .ret))
def rs66:List RV:=[.mv (.t 4)]
theorem ok66:trFn Tryz.prog true ⟨fun r k=>if r=3/\k=10 then .q else if r=5/\k=25 then .q else if r=7/\k=20 then .q else if r=9/\k=15 then .q else if r=11/\k=25 then .q else if r=14/\k=8 then .q else if r=17/\k=8 then .q else .own [],fun _=>false⟩ Tryz.f66=some (pc66,rs66):=by kernel_rfl
def pc67:PC:=.seq (.reg [⟨some 1,none,.e (.bx 40 (.t 0))⟩,⟨some 2,none,.q (.mv (.k (.slice none 0 0)))⟩]) (.seq (.seq (.reg [⟨some 5,none,.q (.fa 0 (.t 1))⟩,⟨some 6,none,.l (.ld1 (.t 5))⟩,⟨some 7,none,.q (.bin .eql true (.t 6) (.k (.int .i64 6)))⟩,⟨some 8,none,.q (.mv (.t 7))⟩,⟨some 9,(some (8,false)),.q (.fa 0 (.t 1))⟩,⟨some 10,(some (8,false)),.l (.ld1 (.t 9))⟩,⟨some 11,(some (8,false)),.q (.bin .eql true (.t 10) (.k (.int .i64 7)))⟩,⟨some 12,none,.pick (.t 8) (.k (.bool true)) (.t 11)⟩]) (.cond (.t 12) (.seq (.reg [⟨some 13,none,.q (.fa 2 (.t 1))⟩,⟨some 14,none,.l (.ld1 (.t 13))⟩,⟨some 15,none,.e (.bsl 9 1 [(.t 14)])⟩,⟨some 2,none,.q (.mv (.t 15))⟩]) .ret) .skip)) (.seq (.reg [⟨some 3,none,.q (.mv (.k (.slice none 0 0)))⟩]) (.seq (.seq (.reg [⟨some 4,none,.q (.mv (.k (.int .i64 0)))⟩]) (.block 0 (.loop (.seq (.seq (.reg [⟨some 16,none,.q (.mv (.t 4))⟩,⟨some 17,none,.q (.fa 3 (.t 1))⟩,⟨some 18,none,.l (.ld1 (.t 17))⟩,⟨some 19,none,.q (.lnL (.t 18))⟩,⟨some 20,none,.q (.bin .lss true (.t 16) (.t 19))⟩]) (.cond (.t 20) .skip (.exit 0))) (.seq (.block 1 (.reg [⟨some 23,none,.q (.mv (.t 3))⟩,⟨some 24,none,.q (.fa 3 (.t 1))⟩,⟨some 25,none,.l (.ld1 (.t 24))⟩,⟨some 26,none,.q (.mv (.t 4))⟩,⟨some 27,none,.l (.ia 4 (.t 25) (.t 26))⟩,⟨some 28,none,.l (.ldn 4 (.t 27))⟩,⟨some 29,none,.cl 67 [(.t 28)] []⟩,⟨some 30,none,.e (.ap 9 1 16 (.t 23) (.t 29))⟩,⟨some 3,none,.q (.mv (.t 30))⟩])) (.reg [⟨some 21,none,.q (.mv (.t 4))⟩,⟨some 22,none,.q (.bin .add true (.t 21) (.k (.int .i64 1)))⟩,⟨some 4,none,.q (.mv (.t 22))⟩])))))) (.seq (.reg [⟨some 31,none,.q (.mv (.t 3))⟩,⟨some 2,none,.q (.mv (.t 31))⟩]) .ret))))
def rs67:List RV:=[.mv (.t 2)]
theorem ok67:trFn Tryz.prog true ⟨fun _ _=>.own [],fun _=>false⟩ Tryz.f67=some (pc67,rs67):=by kernel_rfl
def pc68:PC:=.seq (.reg [⟨some 4,none,.q (.mv (.k (.slice none 0 0)))⟩]) (.seq (.reg [⟨some 5,none,.q (.mv (.k (.slice none 0 0)))⟩]) (.seq (.reg [⟨some 6,none,.q (.mv (.k (.bool false)))⟩]) (.seq (.seq (.reg [⟨some 7,none,.q (.mv (.k (.int .i64 0)))⟩]) (.block 0 (.loop (.seq (.seq (.reg [⟨some 8,none,.q (.mv (.t 7))⟩,⟨some 9,none,.q (.mv (.t 0))⟩,⟨some 10,none,.q (.lnL (.t 9))⟩,⟨some 11,none,.q (.bin .lss true (.t 8) (.t 10))⟩]) (.cond (.t 11) .skip (.exit 0))) (.seq (.block 1 (.seq (.seq (.reg [⟨some 14,none,.q (.mv (.t 6))⟩,⟨some 15,none,.q (.not (.t 14))⟩,⟨some 16,none,.q (.mv (.t 15))⟩,⟨some 17,(some (16,true)),.q (.mv (.t 1))⟩,⟨some 18,(some (16,true)),.q (.mv (.t 0))⟩,⟨some 19,(some (16,true)),.q (.mv (.t 7))⟩,⟨some 20,(some (16,true)),.l (.ia 1 (.t 18) (.t 19))⟩,⟨some 21,(some (16,true)),.l (.ld1 (.t 20))⟩,⟨some 22,(some (16,true)),.q (.bin .leq true (.t 17) (.t 21))⟩,⟨some 23,none,.pick (.t 16) (.t 22) (.k (.bool false))⟩]) (.cond (.t 23) (.seq (.reg [⟨some 6,none,.q (.mv (.k (.bool true)))⟩]) (.seq (.reg [⟨some 24,none,.q (.mv (.t 1))⟩,⟨some 25,none,.q (.mv (.t 0))⟩,⟨some 26,none,.q (.mv (.t 7))⟩,⟨some 27,none,.l (.ia 1 (.t 25) (.t 26))⟩,⟨some 28,none,.l (.ld1 (.t 27))⟩,⟨some 29,none,.q (.bin .lss true (.t 24) (.t 28))⟩]) (.cond (.t 29) (.reg [⟨some 30,none,.q (.mv (.t 5))⟩,⟨some 31,none,.q (.mv (.t 1))⟩,⟨some 32,none,.e (.bsl 9 1 [(.t 31)])⟩,⟨some 33,none,.e (.ap 9 1 16 (.t 30) (.t 32))⟩,⟨some 5,none,.q (.mv (.t 33))⟩]) .skip))) .skip)) (.reg [⟨some 34,none,.q (.mv (.t 5))⟩,⟨some 35,none,.q (.mv (.t 0))⟩,⟨some 36,none,.q (.mv (.t 7))⟩,⟨some 37,none,.l (.ia 1 (.t 35) (.t 36))⟩,⟨some 38,none,.l (.ld1 (.t 37))⟩,⟨some 39,none,.e (.bsl 9 1 [(.t 38)])⟩,⟨some 40,none,.e (.ap 9 1 16 (.t 34) (.t 39))⟩,⟨some 5,none,.q (.mv (.t 40))⟩]))) (.reg [⟨some 12,none,.q (.mv (.t 7))⟩,⟨some 13,none,.q (.bin .add true (.t 12) (.k (.int .i64 1)))⟩,⟨some 7,none,.q (.mv (.t 13))⟩])))))) (.seq (.seq (.reg [⟨some 41,none,.q (.mv (.t 6))⟩,⟨some 42,none,.q (.not (.t 41))⟩]) (.cond (.t 42) (.reg [⟨some 43,none,.q (.mv (.t 5))⟩,⟨some 44,none,.q (.mv (.t 1))⟩,⟨some 45,none,.e (.bsl 9 1 [(.t 44)])⟩,⟨some 46,none,.e (.ap 9 1 16 (.t 43) (.t 45))⟩,⟨some 5,none,.q (.mv (.t 46))⟩]) .skip)) (.seq (.reg [⟨some 47,none,.q (.mv (.t 5))⟩,⟨some 4,none,.q (.mv (.t 47))⟩]) .ret)))))
def rs68:List RV:=[.mv (.t 4)]
theorem ok68:trFn Tryz.prog true ⟨fun _ _=>.own [],fun _=>false⟩ Tryz.f68=some (pc68,rs68):=by kernel_rfl
def pc69:PC:=.seq (.reg [⟨some 3,none,.e (.bx 25 (.t 0))⟩,⟨some 5,none,.e (.bx 40 (.t 2))⟩,⟨some 6,none,.q (.mv (.k (.int .i64 0)))⟩]) (.seq (.seq (.reg [⟨some 8,none,.q (.fa 0 (.t 5))⟩,⟨some 9,none,.l (.ld1 (.t 8))⟩,⟨some 10,none,.q (.bin .eql true (.t 9) (.k (.int .i64 5)))⟩,⟨some 11,none,.q (.mv (.t 10))⟩,⟨some 12,(some (11,true)),.q (.fa 3 (.t 5))⟩,⟨some 13,(some (11,true)),.l (.ld1 (.t 12))⟩,⟨some 14,(some (11,true)),.q (.lnL (.t 13))⟩,⟨some 15,(some (11,true)),.q (.bin .gtr true (.t 14) (.k (.int .i64 0)))⟩,⟨some 16,none,.pick (.t 11) (.t 15) (.k (.bool false))⟩]) (.cond (.t 16) (.seq (.reg [⟨some 17,none,.l (.ldn 3 (.t 3))⟩,⟨some 18,none,.q (.mv (.t 1))⟩,⟨some 19,none,.q (.fa 3 (.t 5))⟩,⟨some 20,none,.l (.ld1 (.t 19))⟩,⟨some 21,none,.l (.ia 4 (.t 20) (.k (.int .i64 0)))⟩,⟨some 22,none,.l (.ldn 4 (.t 21))⟩,⟨some 23,none,.cq 69 [(.t 17),(.t 18),(.t 22)]⟩,⟨some 24,none,.q (.bin .add true (.k (.int .i64 1)) (.t 23))⟩,⟨some 6,none,.q (.mv (.t 24))⟩]) .ret) .skip)) (.seq (.seq (.reg [⟨some 7,none,.q (.mv (.k (.int .i64 0)))⟩]) (.block 0 (.loop (.seq (.seq (.reg [⟨some 25,none,.q (.mv (.t 7))⟩,⟨some 26,none,.q (.fa 2 (.t 3))⟩,⟨some 27,none,.l (.ld1 (.t 26))⟩,⟨some 28,none,.q (.lnL (.t 27))⟩,⟨some 29,none,.q (.bin .lss true (.t 25) (.t 28))⟩]) (.cond (.t 29) .skip (.exit 0))) (.seq (.block 1 (.seq (.reg [⟨some 32,none,.q (.fa 0 (.t 5))⟩,⟨some 33,none,.l (.ld1 (.t 32))⟩,⟨some 34,none,.q (.bin .eql true (.t 33) (.k (.int .i64 6)))⟩,⟨some 35,none,.q (.mv (.t 34))⟩,⟨some 36,(some (35,true)),.q (.fa 2 (.t 3))⟩,⟨some 37,(some (35,true)),.l (.ld1 (.t 36))⟩,⟨some 38,(some (35,true)),.q (.mv (.t 7))⟩,⟨some 39,(some (35,true)),.l (.ia 2 (.t 37) (.t 38))⟩,⟨some 40,(some (35,true)),.q (.fa 0 (.t 39))⟩,⟨some 41,(some (35,true)),.l (.ld1 (.t 40))⟩,⟨some 42,(some (35,true)),.q (.fa 2 (.t 5))⟩,⟨some 43,(some (35,true)),.l (.ld1 (.t 42))⟩,⟨some 44,(some (35,true)),.q (.bin .eql true (.t 41) (.t 43))⟩,⟨some 45,none,.pick (.t 35) (.t 44) (.k (.bool false))⟩]) (.cond (.t 45) (.seq (.reg [⟨some 46,none,.q (.mv (.t 1))⟩,⟨some 47,none,.q (.mv (.t 7))⟩,⟨some 48,none,.l (.ia 1 (.t 46) (.t 47))⟩,⟨some 49,none,.l (.ld1 (.t 48))⟩,⟨some 6,none,.q (.mv (.t 49))⟩]) .ret) .skip))) (.reg [⟨some 30,none,.q (.mv (.t 7))⟩,⟨some 31,none,.q (.bin .add true (.t 30) (.k (.int .i64 1)))⟩,⟨some 7,none,.q (.mv (.t 31))⟩])))))) (.seq (.reg [⟨some 6,none,.q (.mv (.k (.int .i64 0)))⟩]) .ret)))
def rs69:List RV:=[.mv (.t 6)]
theorem ok69:trFn Tryz.prog true ⟨fun r k=>if r=2/\k=6 then .q else .own [],fun _=>false⟩ Tryz.f69=some (pc69,rs69):=by kernel_rfl
def pc90:PC:=.seq (.reg [⟨some 1,none,.e (.bx 40 (.t 0))⟩,⟨some 2,none,.q (.mv (.k (.bool false)))⟩]) (.seq (.reg [⟨some 3,none,.q (.fa 3 (.t 1))⟩,⟨some 4,none,.l (.ld1 (.t 3))⟩,⟨some 5,none,.q (.lnL (.t 4))⟩,⟨some 6,none,.q (.bin .eql true (.t 5) (.k (.int .i64 0)))⟩,⟨some 2,none,.q (.mv (.t 6))⟩]) .ret)
def rs90:List RV:=[.mv (.t 2)]
theorem ok90:trFn Tryz.prog true ⟨fun _ _=>.own [],fun _=>false⟩ Tryz.f90=some (pc90,rs90):=by kernel_rfl
end Go.Proofs.YtbcnggkldclemaaGreat
namespace Go.Proofs.YtbcnggkldclemaaGreat
open Go.W
def tnB (l:List UInt8):Bool:=isNm l && match l with | c :: _=>decide (65<=(c.toNat:Int)) && decide ((c.toNat:Int)<=90) | []=>false
set_option maxRecDepth 100000 in
theorem mTypeName:Meets Tryz.prog 32 (strFn fun l=>.bool (tnB l)).sp:=by
  refine meets_fn Tryz.func32 ok32 1 (by rw [Tryz.ntmps32]; decide) (meetsAll_f mIsName (meetsAll_nil _)) strFn_len ?_
  rintro xs H K ⟨⟨h,rfl⟩,hK⟩
  obtain ⟨s,rfl⟩:=strPre_open h
  have hK':K (.va (.c1 (.vl (.bool (tnB (bl s)))))) []:=hK
  clear hK h
  unfold tnB at hK'
  cases hn:isNm (bl s) with
  | false=>
    rw [hn] at hK'
    simp -dsimp only [go_sem,pc32,rs32,hn]
    exact .done hK'
  | true=>
    cases hl:bl s with
    | nil=>rw [hl] at hn; cases hn
    | cons c r=>
      rw [hl] at hn hK'
      rw [hn] at hK'
      simp -dsimp only [go_sem,pc32,rs32,hl,hn]
      refine ⟨by omega,fun d hd=>⟨fun _=>by omega,fun e he=>?_⟩⟩
      subst hd
      cases hc:decide (65<=(c.toNat:Int)) with
      | false=>simp only [hc,Bool.true_and,Bool.false_and] at hK'; exact .done hK'
      | true=>
        obtain rfl:=he hc
        simp only [hc,Bool.true_and] at hK'; exact .done hK'
def isBs (rs:List (List C)):Prop:=∃ l:List ByteArray,rs=l.map stR/\l.length<=9223372036854775807
theorem isBs_mk {l:List ByteArray} (h:l.length<=9223372036854775807):isBs (l.map stR):=⟨l,rfl,h⟩
def csPre:List S->Prop:=fun av=>match av with
  | [.va (.c1 (.fz rs)),.va (.c1 (.vl (.string _)))]=>isBs rs
  | _=>False
theorem csPre_open {av:List S} (h:csPre av):∃ (l:List ByteArray) (x:ByteArray),av=[.va (.c1 (.fz (l.map stR))),tS x]/\l.length<=9223372036854775807:=by
  unfold csPre at h
  split at h
  · obtain ⟨l,rfl,h⟩:=h; exact ⟨l,_,rfl,h⟩
  · exact h.elim
noncomputable def csVal (f:List ByteArray->ByteArray->Value):List S->A:=fun av=>match av with
  | [.va (.c1 (.fz rs)),.va (.c1 (.vl (.string x)))]=>.c1 (.vl (f (rs.map C.bs) x))
  | _=>.gs []
noncomputable def csFn (f:List ByteArray->ByteArray->Value):Fun:=⟨csPre,csVal f,fun av h=>by obtain ⟨l,x,rfl,_⟩:=csPre_open h; trivial⟩
theorem csFn_len {f}:∀ av H K,(csFn f).sp av H K->av.length=2:=fun av H K h=>by obtain ⟨l,x,rfl,_⟩:=csPre_open h.1.1; rfl
attribute [go_sem] csFn csPre csVal
def ixF:List ByteArray->ByteArray->Nat->Int
  | [],_,_=>-1
  | y :: l,x,i=>bif decide (x=y) then (i:Int) else ixF l x (i + 1)
def inB (l:List ByteArray) (x:ByteArray):Bool:=l.any fun y=>decide (x=y)
theorem inB_iff (l:List ByteArray) (x:ByteArray):inB l x=true ↔ x ∈ l:=by
  unfold inB; rw [List.any_eq_true]
  exact ⟨fun ⟨y,hy,h⟩=>by rw [of_decide_eq_true h]; exact hy,fun h=>⟨x,h,by simp⟩⟩
theorem ixF_has:∀ (l:List ByteArray) (x:ByteArray) (i:Nat),decide (0<=ixF l x i)=inB l x
  | [],_,_=>by simp [ixF,inB]
  | y :: l,x,i=>by
    simp only [ixF]
    by_cases h:x=y
    · simp [h,inB]
    · have:=ixF_has l x (i + 1)
      simp [h,inB] at this ⊢; exact this
set_option maxRecDepth 100000 in
theorem mIndexS:Meets Tryz.prog 71 (csFn fun l x=>.int .i64 (ixF l x 0)).sp:=by
  refine meets_fn Tryz.func71 ok71 2 (by rw [Tryz.ntmps71]; decide) (meetsAll_nil _) csFn_len ?_
  rintro av H K ⟨⟨h,rfl⟩,hK⟩
  obtain ⟨l,x,rfl,hl⟩:=csPre_open h
  have hK:K (iS .i64 (ixF l x 0)) []:=by
    have:(csFn fun l x=>.int .i64 (ixF l x 0)).val [.va (.c1 (.fz (l.map stR))),tS x]=iA .i64 (ixF l x 0):=by simp -dsimp only [go_sem]
    rw [this] at hK; exact hK
  simp -dsimp only [go_sem,pc71,rs71]
  refine vc_loop (α:=Nat) (fun i=>[(0,.va (.c1 (.fz (l.map stR)))),(1,tS x),(7,iS .i64 l.length),(8,iS .i64 i)]) (fun _=>[])
    (fun i=>i<=l.length/\ixF (l.drop i) x i=ixF l x 0) (fun i=>l.length - i) 0 0 ⟨Nat.zero_le _,rfl⟩ ?_ ?_ ?_
  · simp [go_sem]
  · simp [go_sem]
  rintro i ⟨hi,ho⟩
  rcases Nat.lt_or_ge i l.length with hlt | hge
  · have hg:decide ((i:Int) < (l.length:Int))=true:=by simp; omega
    have hx:l[i]? = some l[i]:=List.getElem?_eq_getElem hlt
    have q1:=row_rg (row:=stR) hx
    have q2:=row_rg' (row:=stR) hx
    rw [List.drop_eq_getElem_cons hlt] at ho
    simp only [ixF] at ho
    generalize l[i]=y at *
    cases hc:decide (x=y) with
    | true=>
      rw [hc,Bool.cond_true] at ho
      simp -dsimp only [go_sem,hg,↓q2,hc,bl_beq]
      and_intros
      all_goals first
        | omega
        | exact .done (by rw [ho]; exact hK)
    | false=>
      rw [hc,Bool.cond_false] at ho
      simp -dsimp only [go_sem,hg,↓q2,hc,bl_beq]
      and_intros
      all_goals first
        | omega
        | skip
      refine loop_next (i + 1) 0 ⟨by omega,ho⟩ (by omega) ?_ ?_
      · simp [go_sem]
      · simp [go_sem]
  · have hg:decide ((i:Int) < (l.length:Int))=false:=by simp; omega
    have:l.drop i=[]:=List.drop_eq_nil_iff.2 (by omega)
    rw [this] at ho
    simp -dsimp only [go_sem,hg]
    exact .done (by rw [show (-1:Int)=ixF l x 0 from ho]; exact hK)
theorem mContainsS:Meets Tryz.prog 50 (csFn fun l x=>.bool (inB l x)).sp:=by
  refine meets_fn Tryz.func50 ok50 2 (by rw [Tryz.ntmps50]; decide) (meetsAll_f mIndexS (meetsAll_nil _)) csFn_len ?_
  rintro av H K ⟨⟨h,rfl⟩,hK⟩
  obtain ⟨l,x,rfl,hl⟩:=csPre_open h
  have hK:K (bS (inB l x)) []:=by
    have:(csFn fun l x=>.bool (inB l x)).val [.va (.c1 (.fz (l.map stR))),tS x]=bA (inB l x):=by simp -dsimp only [go_sem]
    rw [this] at hK; exact hK
  simp -dsimp only [go_sem,pc50,rs50,isBs_mk hl,ixF_has]
  exact .done hK
theorem take_rows {α:Type} (row:α->List C) (l:List α) (n:Nat):(l.map row).take n=(l.take n).map row:=List.map_take.symm
theorem len_take {α:Type} (l:List α) (n:Nat):(l.take n).length<=l.length:=by rw [List.length_take]; omega
theorem stR_len (b:ByteArray):(stR b).length=1:=rfl
end Go.Proofs.YtbcnggkldclemaaGreat
namespace Go.Proofs.YtbcnggkldclemaaGreat
open Go.W
noncomputable def gFn {α:Type} (p:List C->Prop) (d:List C->α) (f:α->Value):Fun:=⟨gPre p,gVal d fun a=>.c1 (.vl (f a)),fun av h=>by obtain ⟨r,rfl,_⟩:=gPre_open h; trivial⟩
theorem gFn_len {α:Type} {p:List C->Prop} {d:List C->α} {f:α->Value}:∀ av H K,(gFn p d f).sp av H K->av.length=1:=fun av H K h=>by obtain ⟨r,rfl,_⟩:=gPre_open h.1.1; rfl
attribute [go_sem] gFn
theorem any_step {α:Type} {l:List α} {i:Nat} {x:α} (hx:l[i]? = some x) (p:α->Bool):(l.drop i).any p=(p x || (l.drop (i + 1)).any p):=by
  obtain ⟨h,rfl⟩:=List.getElem?_eq_some_iff.1 hx
  rw [List.drop_eq_getElem_cons h,List.any_cons]
theorem any_end {α:Type} {l:List α} (p:α->Bool):(l.drop l.length).any p=false:=by rw [List.drop_length]; rfl
def largeF (s:Sc):Bool:=decide (16 < s.es.length) || decide (16 < s.es.length + s.ss.length) || s.es.any (fun e=>decide (16 < e.ns.length)) || s.ss.any (fun t=>decide (16 < t.fs.length))
set_option maxRecDepth 100000 in
theorem mLarge:Meets Tryz.prog 31 (gFn isSc C.sc fun s=>.bool (largeF s)).sp:=by
  refine meets_fn Tryz.func31 ok31 1 (by rw [Tryz.ntmps31]; decide) (meetsAll_nil _) gFn_len ?_
  rintro av H K ⟨⟨h,rfl⟩,hK⟩
  obtain ⟨_,rfl,s,rfl,hs⟩:=gPre_open h
  have hK:K (bS (largeF s)) []:=by
    have:(gFn isSc C.sc fun s=>.bool (largeF s)).val [.va (.gs (scC s))]=bA (largeF s):=by simp -dsimp only [go_sem]
    rw [this] at hK; exact hK
  obtain ⟨hv,hle,hls,hes,hss⟩:=hs
  simp -dsimp only [go_sem,scC,pc31,rs31]
  refine ⟨fun _=>by omega,fun h1=>?_,fun h1=>?_⟩
  · have:largeF s=true:=by
      simp only [Bool.or_eq_true,decide_eq_true_eq] at h1
      unfold largeF
      rcases h1 with h1 | h1
      · simp [show 16 < s.es.length by omega]
      · simp [show 16 < s.es.length + s.ss.length by omega]
    rw [this] at hK
    exact .sel [] (by simp) (by simp) rfl (.done (by simpa [go_sem] using hK))
  simp only [Bool.or_eq_false_iff,decide_eq_false_iff_not] at h1
  have hL:largeF s=(s.es.any (fun e=>decide (16 < e.ns.length)) || s.ss.any (fun t=>decide (16 < t.fs.length))):=by
    unfold largeF; rw [decide_eq_false (by omega),decide_eq_false (by omega)]; rfl
  refine vc_loop (α:=Nat) (fun i=>[(1,.va (.c1 (.pt 0 0))),(22,.va (.c1 (.fz (s.es.map enC)))),(23,iS .i64 s.es.length),(24,iS .i64 i)]) (fun _=>[.cells (scC s) 25])
    (fun i=>i<=s.es.length/\(s.es.drop i).any (fun e=>decide (16 < e.ns.length))=s.es.any (fun e=>decide (16 < e.ns.length))) (fun i=>s.es.length - i) 0 1 ⟨Nat.zero_le _,rfl⟩ ?_ ?_ ?_
  · simp [go_sem]
  · simp [go_sem,scC]
  rintro i ⟨hi,ho⟩
  rcases Nat.lt_or_ge i s.es.length with hlt | hge
  · have hg:decide ((i:Int) < (s.es.length:Int))=true:=by simp; omega
    obtain ⟨e,hx⟩:∃ e,s.es[i]? = some e:=⟨_,List.getElem?_eq_getElem hlt⟩
    have q2:=row_rg' (row:=enC) hx
    rw [any_step hx] at ho
    simp -dsimp only [go_sem,hg,↓q2,enC,scC]
    and_intros
    all_goals first
      | omega
      | skip
    · intro hc
      have hc':decide (16 < e.ns.length)=true:=by simp at hc; simp; omega
      have:largeF s=true:=by simp only [hL,<-ho,hc',Bool.true_or]
      rw [this] at hK
      exact .sel [] (by simp) (by simp) rfl (.done (by simpa [go_sem] using hK))
    · intro hc
      refine ⟨by omega,loop_next (i + 1) 1 ⟨by omega,?_⟩ (by omega) ?_ ?_⟩
      · have hc':decide (16 < e.ns.length)=false:=by simp at hc; simp; omega
        rw [<-ho,hc',Bool.false_or]
      · simp [go_sem]
      · simp [go_sem,scC]
  · have hg:decide ((i:Int) < (s.es.length:Int))=false:=by simp; omega
    obtain rfl:i=s.es.length:=by omega
    rw [any_end] at ho
    rw [<-ho,Bool.false_or] at hL
    simp -dsimp only [go_sem,hg,scC]
    refine vc_loop (α:=Nat) (fun i=>[(1,.va (.c1 (.pt 0 0))),(34,.va (.c1 (.fz (s.ss.map stC)))),(35,iS .i64 s.ss.length),(36,iS .i64 i)]) (fun _=>[.cells (scC s) 25])
      (fun i=>i<=s.ss.length/\(s.ss.drop i).any (fun e=>decide (16 < e.fs.length))=s.ss.any (fun e=>decide (16 < e.fs.length))) (fun i=>s.ss.length - i) 0 1 ⟨Nat.zero_le _,rfl⟩ ?_ ?_ ?_
    · simp [go_sem]
    · simp [go_sem,scC]
    clear hi ho hge hg
    rintro i ⟨hi,ho⟩
    rcases Nat.lt_or_ge i s.ss.length with hlt | hge
    · have hg:decide ((i:Int) < (s.ss.length:Int))=true:=by simp; omega
      obtain ⟨e,hx⟩:∃ e,s.ss[i]? = some e:=⟨_,List.getElem?_eq_getElem hlt⟩
      have q2:=row_rg' (row:=stC) hx
      rw [any_step hx] at ho
      simp -dsimp only [go_sem,hg,↓q2,stC,scC]
      and_intros
      all_goals first
        | omega
        | skip
      · intro hc
        have hc':decide (16 < e.fs.length)=true:=by simp at hc; simp; omega
        have:largeF s=true:=by simp only [hL,<-ho,hc',Bool.true_or]
        rw [this] at hK
        exact .sel [] (by simp) (by simp) rfl (.done (by simpa [go_sem] using hK))
      · intro hc
        refine ⟨by omega,loop_next (i + 1) 1 ⟨by omega,?_⟩ (by omega) ?_ ?_⟩
        · have hc':decide (16 < e.fs.length)=false:=by simp at hc; simp; omega
          rw [<-ho,hc',Bool.false_or]
        · simp [go_sem]
        · simp [go_sem,scC]
    · have hg:decide ((i:Int) < (s.ss.length:Int))=false:=by simp; omega
      obtain rfl:i=s.ss.length:=by omega
      rw [any_end] at ho
      simp -dsimp only [go_sem,hg,scC]
      rw [hL,<-ho] at hK
      exact .sel [] (by simp) (by simp) rfl (.done (by simpa [go_sem] using hK))
end Go.Proofs.YtbcnggkldclemaaGreat
namespace Go.Proofs.YtbcnggkldclemaaGreat
open Go.W
def fE (f:Nat->Int):Nat->Nat->Int
  | 0,_=>0
  | n + 1,i=>bif f i == 0 then fE f n (i + 1) else f i
theorem fE_step {f:Nat->Int} {m i:Nat} (h:i < m):fE f (m - i) i=bif f i == 0 then fE f (m - (i + 1)) (i + 1) else f i:=by
  obtain ⟨k,rfl⟩:∃ k,m=i + k + 1:=⟨m - i - 1,by omega⟩
  rw [show i + k + 1 - i=k + 1 by omega,show i + k + 1 - (i + 1)=k by omega]; rfl
theorem fE_ok {f:Nat->Int} {m i:Nat} (h:i < m) (h0:f i=0):fE f (m - i) i=fE f (m - (i + 1)) (i + 1):=by rw [fE_step h,h0]; rfl
theorem fE_err {f:Nat->Int} {m i:Nat} (h:i < m) (h0:f i ≠ 0):fE f (m - i) i=f i:=by
  rw [fE_step h,beq_eq_false_iff_ne.2 h0]; rfl
theorem fE_end (f:Nat->Int) (m:Nat):fE f (m - m) m=0:=by rw [Nat.sub_self]; rfl
def ceAt (e:En) (k:Nat):Int:=match e.ns[k]?,e.vs[k]? with
  | some nm,some n=>bif !(isNm (bl nm)) then 5 else bif inB (e.ns.take k) nm then 7 else bif decide (n < 0) || decide (127 < n) then 4 else
    bif (decide ((k:Int)=0) && decide (n ≠ 0)) || (decide (0 < (k:Int)) && match e.vs[k - 1]? with | some m=>decide (n<=m) | none=>false) then 2 else 0
  | _,_=>0
def ceF (e:En):Int:=bif decide (e.ns.length=0) || decide (e.ns.length ≠ e.vs.length) then 2 else fE (ceAt e) e.ns.length 0
set_option maxRecDepth 100000 in
theorem mCheckEnum:Meets Tryz.prog 33 (gFn isEn C.en fun e=>.int .i64 (ceF e)).sp:=by
  refine meets_fn Tryz.func33 ok33 1 (by rw [Tryz.ntmps33]; decide) (meetsAll_f mIsName (meetsAll_f mContainsS (meetsAll_nil _))) gFn_len ?_
  rintro av H K ⟨⟨h,rfl⟩,hK⟩
  obtain ⟨_,rfl,e,rfl,he⟩:=gPre_open h
  have hK:K (iS .i64 (ceF e)) []:=by
    have:(gFn isEn C.en fun e=>.int .i64 (ceF e)).val [.va (.gs (enC e))]=iA .i64 (ceF e):=by simp -dsimp only [go_sem]
    rw [this] at hK; exact hK
  clear h
  obtain ⟨_,hln,hlv,_,_⟩:=he
  simp -dsimp only [go_sem,enC,pc33,rs33]
  refine ⟨fun h1=>?_,fun h1=>?_⟩
  · have:ceF e=2:=by
      unfold ceF
      have:(decide (e.ns.length=0) || decide (e.ns.length ≠ e.vs.length))=true:=by
        simp only [Bool.or_eq_true,beq_iff_eq,bne_iff_ne,decide_eq_true_eq] at h1 ⊢; omega
      rw [this]; rfl
    rw [this] at hK
    exact .sel [] (by simp) (by simp) rfl (.done (by simpa [go_sem] using hK))
  simp only [Bool.or_eq_false_iff,beq_eq_false_iff_ne,bne_eq_false_iff_eq,ne_eq] at h1
  have hl:e.ns.length=e.vs.length:=by omega
  have hF:ceF e=fE (ceAt e) (e.ns.length - 0) 0:=by
    unfold ceF; rw [decide_eq_false (by omega),decide_eq_false (by omega)]; rfl
  refine vc_loop (α:=Nat) (fun i=>[(1,.va (.c1 (.pt 0 0))),(20,.va (.c1 (.fz (e.ns.map stR)))),(21,iS .i64 e.ns.length),(22,iS .i64 i)]) (fun _=>[.cells (enC e) 60])
    (fun i=>i<=e.ns.length/\fE (ceAt e) (e.ns.length - i) i=fE (ceAt e) (e.ns.length - 0) 0) (fun i=>e.ns.length - i) 0 1 ⟨Nat.zero_le _,rfl⟩ ?_ ?_ ?_
  · simp [go_sem]
  · simp [go_sem,enC]
  rintro i ⟨hi,ho⟩
  rcases Nat.lt_or_ge i e.ns.length with hlt | hge
  · have hg:decide ((i:Int) < (e.ns.length:Int))=true:=by simp; omega
    obtain ⟨nm,hx⟩:∃ nm,e.ns[i]? = some nm:=⟨_,List.getElem?_eq_getElem hlt⟩
    obtain ⟨n,hy⟩:∃ nm,e.vs[i]? = some nm:=⟨_,List.getElem?_eq_getElem (by omega)⟩
    have q1:=row_rg' (row:=stR) hx
    have q2:=row_rg' (row:=inR) hy
    have ht:isBs ((e.ns.take i).map stR):=isBs_mk (Nat.le_trans (len_take _ _) hln)
    have hA:ceAt e i=bif !(isNm (bl nm)) then (5:Int) else bif inB (e.ns.take i) nm then 7 else bif decide (n < 0) || decide (127 < n) then 4 else
      bif (decide ((i:Int)=0) && decide (n ≠ 0)) || (decide (0 < (i:Int)) && match e.vs[i - 1]? with | some m=>decide (n<=m) | none=>false) then 2 else 0:=by
      unfold ceAt; rw [hx,hy]
    have fin:∀ x:Int,ceAt e i=x->x ≠ 0->W.Fin 0 K (iS .i64 x) [.cells (enC e) 60]:=fun x h1 h2=>by
      rw [hF,<-ho,fE_err hlt (by rw [h1]; exact h2),h1] at hK
      exact .sel [] (by simp) (by simp) rfl (.done (by simpa [go_sem] using hK))
    have nxt:ceAt e i=0->fE (ceAt e) (e.ns.length - (i + 1)) (i + 1)=fE (ceAt e) (e.ns.length - 0) 0:=fun h1=>by rw [<-ho,fE_ok hlt h1]
    rcases Nat.eq_zero_or_pos i with h0 | h0
    · subst h0
      have g1:decide ((0:Int) < 0)=false:=rfl
      have g2:((0:Int) == 0)=true:=rfl
      have hb0:inB [] nm=false:=rfl
      have ht0:isBs []:=⟨[],rfl,Nat.zero_le _⟩
      rw [Int.natCast_zero] at *
      cases hc1:isNm (bl nm) with
      | false=>
        simp -dsimp only [go_sem,hg,↓q1,↓q2,enC,hc1]
        exact ⟨by omega,by omega,fin 5 (by rw [hA,hc1]; rfl) (by decide)⟩
      | true=>
        cases hc3:(decide (n < 0) || decide (127 < n)) with
        | true=>
          simp -dsimp only [go_sem,hg,↓q1,↓q2,enC,ht0,hb0,take_rows,all_rows stR_len,hc1,hc3]
          exact ⟨by omega,by omega,by omega,fin 4 (by rw [hA,hc1,hc3]; rfl) (by decide)⟩
        | false=>
          cases hn:(n != 0) with
          | true=>
            simp -dsimp only [go_sem,hg,↓q1,↓q2,enC,ht0,hb0,take_rows,all_rows stR_len,Bool.false_and,g1,g2,hc1,hc3,hn]
            exact ⟨by omega,by omega,by omega,fin 2 (by rw [hA,hc1,hc3]; simp at hn; simp [hn,inB]) (by decide)⟩
          | false=>
            simp -dsimp only [go_sem,hg,↓q1,↓q2,enC,ht0,hb0,take_rows,all_rows stR_len,Bool.true_and,g1,g2,hc1,hc3,hn]
            refine ⟨by omega,by omega,by omega,by omega,loop_next 1 1 ⟨by omega,nxt ?_⟩ (by omega) ?_ ?_⟩
            · rw [hA,hc1,hc3]; simp at hn; simp [hn,inB]
            · simp [go_sem]
            · simp [go_sem,enC]
    · have g1:decide (0 < (i:Int))=true:=by simp; omega
      have g2:((i:Int) == 0)=false:=by simp; omega
      obtain ⟨m,hm⟩:∃ m,e.vs[i - 1]? = some m:=⟨_,List.getElem?_eq_getElem (by omega)⟩
      have q4:((i:Int) - 1).toNat=i - 1:=by omega
      cases hc1:isNm (bl nm) with
      | false=>
        simp -dsimp only [go_sem,hg,↓q1,↓q2,enC,hc1]
        exact ⟨by omega,by omega,fin 5 (by rw [hA,hc1]; rfl) (by decide)⟩
      | true=>
        cases hc2:inB (e.ns.take i) nm with
        | true=>
          simp -dsimp only [go_sem,hg,↓q1,↓q2,enC,ht,take_rows,all_rows stR_len,hc1,hc2]
          exact ⟨by omega,by omega,by omega,fin 7 (by rw [hA,hc1,hc2]; rfl) (by decide)⟩
        | false=>
          cases hc3:(decide (n < 0) || decide (127 < n)) with
          | true=>
            simp -dsimp only [go_sem,hg,↓q1,↓q2,enC,ht,take_rows,all_rows stR_len,hc1,hc2,hc3]
            exact ⟨by omega,by omega,by omega,fin 4 (by rw [hA,hc1,hc2,hc3]; rfl) (by decide)⟩
          | false=>
            simp -dsimp only [go_sem,hg,↓q1,↓q2,enC,ht,take_rows,all_rows stR_len,Bool.true_and,g1,g2,hc1,hc2,hc3,q4]
            refine ⟨by omega,by omega,by omega,by omega,by omega,fun x hx'=>?_⟩
            rw [hm] at hx'
            obtain rfl:=Option.some.inj hx'
            refine ⟨fun hn=>fin 2 (by rw [hA,hc1,hc2,hc3,hm,g1]; simp at hn; simp [hn]) (by decide),fun hn=>⟨by omega,loop_next (i + 1) 1 ⟨by omega,nxt ?_⟩ (by omega) ?_ ?_⟩⟩
            · have hi0:i ≠ 0:=by omega
              rw [hA,hc1,hc2,hc3,hm,g1]; simp at hn; simp [hi0,show ¬ n<=m by omega]
            · simp [go_sem]
            · simp [go_sem,enC]
  · have hg:decide ((i:Int) < (e.ns.length:Int))=false:=by simp; omega
    obtain rfl:i=e.ns.length:=by omega
    rw [fE_end] at ho
    simp -dsimp only [go_sem,hg,enC]
    rw [hF,<-ho] at hK
    exact .sel [] (by simp) (by simp) rfl (.done (by simpa [go_sem] using hK))
end Go.Proofs.YtbcnggkldclemaaGreat
namespace Go.Proofs.YtbcnggkldclemaaGreat
open Go.W
def hasS (ss:List St) (n:ByteArray):Bool:=ss.any fun s=>decide (s.nm=n)
def hasE (es:List En) (n:ByteArray):Bool:=es.any fun s=>decide (s.nm=n)
def cnF (s:Sc) (i:Nat) (n:ByteArray):Int:=bif !(tnB (bl n)) then 5 else bif hasE s.es n then 7 else bif hasS (s.ss.take i) n then 7 else 0
def cnPre:List S->Prop:=fun av=>match av with
  | [.va (.gs r),.va (.c1 (.vl (.int .i64 i))),.va (.c1 (.vl (.string _)))]=>isSc r/\0<=i/\i<=((C.sc r).ss.length:Int)
  | _=>False
theorem cnPre_open {av:List S} (h:cnPre av):∃ (s:Sc) (i:Nat) (n:ByteArray),av=[.va (.gs (scC s)),iS .i64 i,tS n]/\s.ok/\i<=s.ss.length:=by
  unfold cnPre at h
  split at h
  · obtain ⟨⟨s,rfl,hs⟩,h1,h2⟩:=h
    rename_i i n
    rw [sc_dec] at h2
    exact ⟨s,i.toNat,n,by rw [Int.toNat_of_nonneg h1],hs,by omega⟩
  · exact h.elim
noncomputable def cnVal:List S->A:=fun av=>match av with
  | [.va (.gs r),.va (.c1 (.vl (.int .i64 i))),.va (.c1 (.vl (.string n)))]=>iA .i64 (cnF (C.sc r) i.toNat n)
  | _=>.gs []
noncomputable def cnFn:Fun:=⟨cnPre,cnVal,fun av h=>by obtain ⟨s,i,n,rfl,_⟩:=cnPre_open h; trivial⟩
theorem cnFn_len:∀ av H K,cnFn.sp av H K->av.length=3:=fun av H K h=>by obtain ⟨s,i,n,rfl,_⟩:=cnPre_open h.1.1; rfl
attribute [go_sem] cnFn cnPre cnVal
set_option maxRecDepth 100000 in
theorem mCheckName:Meets Tryz.prog 35 cnFn.sp:=by
  refine meets_fn Tryz.func35 ok35 3 (by rw [Tryz.ntmps35]; decide) (meetsAll_f mTypeName (meetsAll_nil _)) cnFn_len ?_
  rintro av H K ⟨⟨h,rfl⟩,hK⟩
  obtain ⟨s,j,n,rfl,hs,hj⟩:=cnPre_open h
  have hK:K (iS .i64 (cnF s j n)) []:=by
    have:cnFn.val [.va (.gs (scC s)),iS .i64 j,tS n]=iA .i64 (cnF s j n):=by simp -dsimp only [go_sem,Int.toNat_natCast]
    rw [this] at hK; exact hK
  clear h
  obtain ⟨hv,hle,hls,hes,hss⟩:=hs
  have fin:∀ x:Int,cnF s j n=x->W.Fin 0 K (iS .i64 x) [.cells (scC s) 25]:=fun x h1=>by
    rw [h1] at hK
    exact .sel [] (by simp) (by simp) rfl (.done (by simpa [go_sem] using hK))
  have fin2:∀ (x:Int) (b:B),cnF s j n=x->W.Fin 0 K (iS .i64 x) [.cells (scC s) 25,b]:=fun x b h1=>by
    rw [h1] at hK
    exact .sel [] (by simp) (by simp) rfl (.done (by simpa [go_sem] using hK))
  simp -dsimp only [go_sem,scC,pc35,rs35]
  refine ⟨fun h1=>fin 5 (by unfold cnF; rw [h1]; rfl),fun h1=>?_⟩
  simp only [Bool.not_eq_false'] at h1
  refine vc_loop (α:=Nat) (fun i=>[(1,iS .i64 j),(2,tS n),(3,.va (.c1 (.pt 0 0))),(15,.va (.c1 (.fz (s.es.map enC)))),(16,iS .i64 s.es.length),(17,iS .i64 i)]) (fun _=>[.cells (scC s) 25])
    (fun i=>i<=s.es.length/\hasE (s.es.drop i) n=hasE s.es n) (fun i=>s.es.length - i) 0 1 ⟨Nat.zero_le _,rfl⟩ ?_ ?_ ?_
  · simp [go_sem]
  · simp [go_sem,scC]
  rintro i ⟨hi,ho⟩
  rcases Nat.lt_or_ge i s.es.length with hlt | hge
  · have hg:decide ((i:Int) < (s.es.length:Int))=true:=by simp; omega
    obtain ⟨e,hx⟩:∃ e,s.es[i]? = some e:=⟨_,List.getElem?_eq_getElem hlt⟩
    have q2:=row_rg' (row:=enC) hx
    rw [hasE,any_step hx] at ho
    simp -dsimp only [go_sem,hg,↓q2,enC,scC,bl_beq]
    and_intros
    all_goals first
      | omega
      | skip
    · intro hc
      rw [hc,Bool.true_or] at ho
      exact fin2 7 _ (by unfold cnF; rw [h1,<-ho]; rfl)
    · intro hc
      rw [hc,Bool.false_or] at ho
      refine ⟨by omega,loop_next (i + 1) 1 ⟨by omega,ho⟩ (by omega) ?_ ?_⟩
      · simp [go_sem]
      · simp [go_sem,scC]
  · have hg:decide ((i:Int) < (s.es.length:Int))=false:=by simp; omega
    obtain rfl:i=s.es.length:=by omega
    rw [hasE,any_end] at ho
    simp -dsimp only [go_sem,hg,scC,take_rows,Int.toNat_natCast]
    refine ⟨?_,?_⟩
    · exact ⟨by omega,fun r hr=>by obtain ⟨x,_,rfl⟩:=List.mem_map.1 hr; exact stC_len x⟩
    refine vc_loop (α:=Nat) (fun i=>[(2,tS n),(3,.va (.c1 (.pt 0 0))),(29,.va (.c1 (.fz ((s.ss.take j).map stC)))),(30,iS .i64 (s.ss.take j).length),(31,iS .i64 i)]) (fun _=>[.cells (scC s) 25])
      (fun i=>i<=(s.ss.take j).length/\hasS ((s.ss.take j).drop i) n=hasS (s.ss.take j) n) (fun i=>(s.ss.take j).length - i) 0 1 ⟨Nat.zero_le _,rfl⟩ ?_ ?_ ?_
    · simp [go_sem]
    · simp [go_sem,scC]
    have hlj:=len_take s.ss j
    generalize hl:s.ss.take j=l at *
    clear hi hge hg
    rintro i ⟨hi,ho2⟩
    rcases Nat.lt_or_ge i l.length with hlt | hge
    · have hg:decide ((i:Int) < (l.length:Int))=true:=by simp; omega
      obtain ⟨e,hx⟩:∃ e,l[i]? = some e:=⟨_,List.getElem?_eq_getElem hlt⟩
      have q2:=row_rg' (row:=stC) hx
      rw [hasS,any_step hx] at ho2
      simp -dsimp only [go_sem,hg,↓q2,stC,scC,bl_beq]
      and_intros
      all_goals first
        | omega
        | skip
      · intro hc
        rw [hc,Bool.true_or] at ho2
        exact fin2 7 _ (by unfold cnF; rw [h1,<-ho,hl,<-ho2]; rfl)
      · intro hc
        rw [hc,Bool.false_or] at ho2
        refine ⟨by omega,loop_next (i + 1) 1 ⟨by omega,ho2⟩ (by omega) ?_ ?_⟩
        · simp [go_sem]
        · simp [go_sem,scC]
    · have hg:decide ((i:Int) < (l.length:Int))=false:=by simp; omega
      obtain rfl:i=l.length:=by omega
      rw [hasS,any_end] at ho2
      simp -dsimp only [go_sem,hg,scC]
      exact fin 0 (by unfold cnF; rw [h1,<-ho,hl,<-ho2]; rfl)
end Go.Proofs.YtbcnggkldclemaaGreat
namespace Go.Proofs.YtbcnggkldclemaaGreat
open Go.W
mutual
def valF (ss:List St) (es:List En):Ty->Bool
  | .mk k s n e=>bif k == 1 then s == 0 && bl n == [] && (e.length:Int) == 0
    else bif k == 2 then (s == 8 || s == 16 || s == 32 || s == 64) && bl n == [] && (e.length:Int) == 0
    else bif k == 3 then (s == 8 || s == 16 || s == 32 || (s == 64 && false)) && bl n == [] && (e.length:Int) == 0
    else bif k == 4 then decide (1<=s) && decide (s<=2000) && bl n == [] && (e.length:Int) == 0
    else bif k == 5 then decide (1<=s) && decide (s<=32) && bl n == [] && valFs ss es e
    else bif k == 6 then hasS ss n && s == 0 && (e.length:Int) == 0
    else bif k == 7 then hasE es n && s == 0 && (e.length:Int) == 0 else false
def valFs (ss:List St) (es:List En):List Ty->Bool
  | []=>false
  | u :: r=>valF ss es u && r.isEmpty
end
def fS (ss:List St) (n:ByteArray):Option St:=ss.find? fun s=>decide (s.nm=n)
def fEn (es:List En) (n:ByteArray):Option En:=es.find? fun s=>decide (s.nm=n)
theorem fS_has (ss:List St) (n:ByteArray):(fS ss n).isSome=hasS ss n:=by unfold fS hasS; rw [Bool.eq_iff_iff,List.find?_isSome,List.any_eq_true]
abbrev stA (s:St):A:=.gs (stC s)
abbrev enA (s:En):A:=.gs (enC s)
def IxS (ks:List Value) (vs:List St) (ss:List St):Prop:=∀ n,mget ks (vs.map stA) (.string n)=(fS ss n).map stA
def IxE (ks:List Value) (vs:List En) (es:List En):Prop:=∀ n,mget ks (vs.map enA) (.string n)=(fEn es n).map enA
@[go_sem] theorem stA_ren (f:Nat->Option Nat) (l:List St):(l.map stA).map (A.ren f)=l.map stA:=by rw [List.map_map]; rfl
@[go_sem] theorem enA_ren (f:Nat->Option Nat) (l:List En):(l.map enA).map (A.ren f)=l.map enA:=by rw [List.map_map]; rfl
@[go_sem] theorem stA_pub (n:Nat) (xs:List (List C)) (l:List St):(l.map stA).map (A.pub n xs)=l.map stA:=by rw [List.map_map]; rfl
@[go_sem] theorem enA_pub (n:Nat) (xs:List (List C)) (l:List En):(l.map enA).map (A.pub n xs)=l.map enA:=by rw [List.map_map]; rfl
abbrev ixV:S:=.va (.gs [.mp 0,.mp 1])
abbrev ixH (ks:List Value) (vs:List St) (ks':List Value) (vs':List En):Hp:=[.map .string ks (vs.map stA),.map .string ks' (vs'.map enA)]
def valSp (N:Nat):W.Spec:=fun av H K=>∃ (ss:List St) (es:List En) (t:Ty) (ks:List Value) (vs:List St) (ks':List Value) (vs':List En),av=[ixV,.va (.gs (tyC t))]/\H=ixH ks vs ks' vs'/\
  IxS ks vs ss/\IxE ks' vs' es/\TyOk t/\t.h<=N/\K (bS (valF ss es t)) (ixH ks vs ks' vs')
theorem fEn_has (es:List En) (n:ByteArray):(fEn es n).isSome=hasE es n:=by unfold fEn hasE; rw [Bool.eq_iff_iff,List.find?_isSome,List.any_eq_true]
theorem val_use {N:Nat} {ss:List St} {es:List En} {t:Ty} {ks:List Value} {vs:List St} {ks':List Value} {vs':List En} {K:S->Hp->Prop} (h1:IxS ks vs ss) (h2:IxE ks' vs' es) (h3:TyOk t) (h4:t.h<=N) (hK:K (bS (valF ss es t)) (ixH ks vs ks' vs')) :
    valSp N [ixV,.va (.gs (tyC t))] (ixH ks vs ks' vs') K:=⟨ss,es,t,ks,vs,ks',vs',rfl,rfl,h1,h2,h3,h4,hK⟩
@[go_sem] theorem tyC_take (t:Ty):(tyC t).take 4=tyC t:=by rw [tyC_eq]; rfl
@[go_sem] theorem tyC_nf (t:Ty):(tyC t).map C.nf=tyC t:=by rw [tyC_eq]; rfl
@[go_sem] theorem tyC_ren (t:Ty) (f:Nat->Option Nat):(tyC t).map (C.ren f)=tyC t:=by rw [tyC_eq]; rfl
theorem Ty.h_pos (t:Ty):0 < t.h:=by cases t; rw [Ty.h]; omega
set_option maxRecDepth 100000 in
set_option maxHeartbeats 2000000 in
theorem mValid:∀ N,Meets Tryz.prog 60 (valSp N)
  | 0=>⟨by kernel_rfl,by rintro xs vs E ro w K _ _ _ ⟨_,_,t,_,_,_,_,_,_,_,_,_,h,_⟩; have:=t.h_pos; omega⟩
  | N + 1=>by
    refine meets_fn Tryz.func60 ok60 2 (by rw [Tryz.ntmps60]; decide) (meetsAll_s (mValid N) (meetsAll_nil _)) (fun av H K h=>by obtain ⟨_,_,_,_,_,_,_,rfl,_⟩:=h; rfl) ?_
    rintro av H K ⟨ss,es,t,ks,vs,ks',vs',rfl,rfl,h1,h2,h3,h4,hK⟩
    cases t with
    | mk k s n e=>
    have fin:∀ (b:Bool) (B1 B2:B),valF ss es (.mk k s n e)=b->W.Fin 2 K (bS b) [.map .string ks (vs.map stA),.map .string ks' (vs'.map enA),B1,B2]:=fun b B1 B2 h=>by
      rw [h] at hK
      exact .sel [0,1] (by simp) (by simp) rfl (.done (by simp -dsimp only [go_sem]; simpa using hK))
    by_cases k1:(k == 1)=true
    · have hF:=valF.eq_1 ss es k s n e
      rw [k1] at hF
      simp only [Bool.cond_true] at hF
      simp -dsimp only [go_sem,tyC,tysC_map,pc60,rs60,k1]
      exact fin _ _ _ hF
    rw [Bool.not_eq_true] at k1
    by_cases k2:(k == 2)=true
    · have hF:=valF.eq_1 ss es k s n e
      rw [k1,k2] at hF
      simp only [Bool.cond_true,Bool.cond_false] at hF
      simp -dsimp only [go_sem,tyC,tysC_map,pc60,rs60,k1,k2]
      exact fin _ _ _ hF
    rw [Bool.not_eq_true] at k2
    by_cases k3:(k == 3)=true
    · have hF:=valF.eq_1 ss es k s n e
      rw [k1,k2,k3] at hF
      simp only [Bool.cond_true,Bool.cond_false] at hF
      simp -dsimp only [go_sem,tyC,tysC_map,pc60,rs60,k1,k2,k3]
      exact fin _ _ _ hF
    rw [Bool.not_eq_true] at k3
    by_cases k4:(k == 4)=true
    · have hF:=valF.eq_1 ss es k s n e
      rw [k1,k2,k3,k4] at hF
      simp only [Bool.cond_true,Bool.cond_false] at hF
      simp -dsimp only [go_sem,tyC,tysC_map,pc60,rs60,k1,k2,k3,k4]
      exact fin _ _ _ hF
    rw [Bool.not_eq_true] at k4
    by_cases k5:(k == 5)=true
    · have hF:=valF.eq_1 ss es k s n e
      rw [k1,k2,k3,k4,k5] at hF
      simp only [Bool.cond_true,Bool.cond_false] at hF
      cases hc:(decide (1<=s) && decide (s<=32) && bl n == [] && (e.length:Int) == 1) with
      | false=>
        have hF':valF ss es (.mk k s n e)=false:=by
          rw [hF]
          cases h0:(decide (1<=s) && decide (s<=32) && bl n == []) with
          | false=>rfl
          | true=>
            rw [h0,Bool.true_and] at hc
            match e,hc with
            | [],_=>rfl
            | [u],hc=>simp at hc
            | u :: v :: r,_=>simp [valFs]
        simp (maxSteps:=1000000) -dsimp only [go_sem,tyC,tysC_map,pc60,rs60,k1,k2,k3,k4,k5,hc]
        exact fin _ _ _ hF'
      | true=>
        obtain ⟨u,rfl⟩:∃ u,e=[u]:=by
          simp only [Bool.and_eq_true,beq_iff_eq] at hc
          exact List.length_eq_one_iff.1 (by omega)
        have h0:(decide (1<=s) && decide (s<=32) && bl n == [])=true:=by
          simp only [Bool.and_eq_true] at hc ⊢; exact hc.1
        have hF':valF ss es (.mk k s n [u])=valF ss es u:=by rw [hF,h0]; simp [valFs]
        have hh:u.h<=N:=by rw [Ty.h,Ty.hs,Ty.hs] at h4; omega
        have hu:TyOk u:=h3.e u (by simp [Ty.e])
        have hc':(decide (1<=s) && decide (s<=32) && bl n == [] && ((1:Nat):Int) == 1)=true:=hc
        simp (maxSteps:=1000000) -dsimp only [go_sem,tyC,tysC_map,pc60,rs60,k1,k2,k3,k4,k5,hc']
        refine ⟨⟨by omega,fun r hr=>by subst hr; exact tyC_len u⟩,fun r hr=>?_⟩
        subst hr
        refine ⟨by rw [tyC_len]; exact Nat.le_refl _,?_⟩
        simp -dsimp only [go_sem]
        refine val_use h1 h2 hu hh ?_
        simp (maxSteps:=1000000) -dsimp only [go_sem]
        exact fin _ _ _ hF'
    rw [Bool.not_eq_true] at k5
    by_cases k6:(k == 6)=true
    · have hF:=valF.eq_1 ss es k s n e
      rw [k1,k2,k3,k4,k5,k6] at hF
      simp only [Bool.cond_true,Bool.cond_false] at hF
      have hm:=h1 n
      rw [<-fS_has] at hF
      cases hf:fS ss n with
      | none=>
        rw [hf] at hm hF
        simp only [Option.map_none] at hm
        simp (maxSteps:=1000000) -dsimp only [go_sem,tyC,tysC_map,pc60,rs60,k1,k2,k3,k4,k5,k6,hm]
        refine .sel [0,1] (by simp) (by simp) rfl (.done ?_)
        rw [hF] at hK
        simp -dsimp only [go_sem]; simpa using hK
      | some d=>
        rw [hf] at hm hF
        simp only [Option.map_some] at hm
        simp (maxSteps:=1000000) -dsimp only [go_sem,tyC,tysC_map,pc60,rs60,k1,k2,k3,k4,k5,k6,hm]
        refine ⟨by simp [stC,go_sem],by simp [stC],.sel [0,1] (by simp) (by simp) rfl (.done ?_)⟩
        rw [hF] at hK
        simp -dsimp only [go_sem]; simpa using hK
    rw [Bool.not_eq_true] at k6
    by_cases k7:(k == 7)=true
    · have hF:=valF.eq_1 ss es k s n e
      rw [k1,k2,k3,k4,k5,k6,k7] at hF
      simp only [Bool.cond_true,Bool.cond_false] at hF
      have hm:=h2 n
      rw [<-fEn_has] at hF
      cases hf:fEn es n with
      | none=>
        rw [hf] at hm hF
        simp only [Option.map_none] at hm
        simp (maxSteps:=1000000) -dsimp only [go_sem,tyC,tysC_map,pc60,rs60,k1,k2,k3,k4,k5,k6,k7,hm]
        refine .sel [0,1] (by simp) (by simp) rfl (.done ?_)
        rw [hF] at hK
        simp -dsimp only [go_sem]; simpa using hK
      | some d=>
        rw [hf] at hm hF
        simp only [Option.map_some] at hm
        simp (maxSteps:=1000000) -dsimp only [go_sem,tyC,tysC_map,pc60,rs60,k1,k2,k3,k4,k5,k6,k7,hm]
        refine ⟨by simp [enC,go_sem],by simp [enC],.sel [0,1] (by simp) (by simp) rfl (.done ?_)⟩
        rw [hF] at hK
        simp -dsimp only [go_sem]; simpa using hK
    rw [Bool.not_eq_true] at k7
    have hF:=valF.eq_1 ss es k s n e
    rw [k1,k2,k3,k4,k5,k6,k7] at hF
    simp only [Bool.cond_false] at hF
    simp -dsimp only [go_sem,tyC,tysC_map,pc60,rs60,k1,k2,k3,k4,k5,k6,k7]
    exact fin _ _ _ hF
end Go.Proofs.YtbcnggkldclemaaGreat
namespace Go.Proofs.YtbcnggkldclemaaGreat
open Go.W
theorem meets_all {P:Program} {f:FuncId} {s:W.Spec} {ι:Type} {t:ι->W.Spec} (i0:ι) (m:∀ i,Meets P f (t i)) (h:∀ av H K,s av H K->∃ i,t i av H K):Meets P f s:=⟨(m i0).1,by
  intro xs vl E ro w K h1 h2 h3 h4
  obtain ⟨i,hi⟩:=h _ _ _ h4
  exact (m i).2 xs vl E ro w K h1 h2 h3 hi⟩
def valSp':W.Spec:=fun av H K=>∃ (ss:List St) (es:List En) (t:Ty) (ks:List Value) (vs:List St) (ks':List Value) (vs':List En),av=[ixV,.va (.gs (tyC t))]/\H=ixH ks vs ks' vs'/\
  IxS ks vs ss/\IxE ks' vs' es/\TyOk t/\K (bS (valF ss es t)) (ixH ks vs ks' vs')
theorem mValid':Meets Tryz.prog 60 valSp':=meets_all 0 mValid fun _av _H _K ⟨ss,es,t,ks,vs,ks',vs',e1,e2,h4,h5,h6,hK⟩=>⟨t.h,ss,es,t,ks,vs,ks',vs',e1,e2,h4,h5,h6,Nat.le_refl _,hK⟩
theorem val_use' {ss:List St} {es:List En} {t:Ty} {ks:List Value} {vs:List St} {ks':List Value} {vs':List En} {K:S->Hp->Prop} (h1:IxS ks vs ss) (h2:IxE ks' vs' es) (h3:TyOk t) (hK:K (bS (valF ss es t)) (ixH ks vs ks' vs')) :
    valSp' [ixV,.va (.gs (tyC t))] (ixH ks vs ks' vs') K:=⟨ss,es,t,ks,vs,ks',vs',rfl,rfl,h1,h2,h3,hK⟩
def cfAt (ss:List St) (es:List En) (t:St) (k:Nat):Int:=match t.fs[k]? with
  | some f=>bif decide (f.num < 1) || decide (127 < f.num) then 4 else bif decide (0 < (k:Int)) && (match t.fs[k - 1]? with | some g=>decide (f.num<=g.num) | none=>false) then 2 else
    bif !(isNm (bl f.nm)) then 5 else bif (t.fs.take k).any (fun g=>decide (g.nm=f.nm)) then 7 else bif !(valF ss es f.ty) then 13 else 0
  | none=>0
def cfF (ss:List St) (es:List En) (t:St):Int:=fE (cfAt ss es t) (t.fs.length - 0) 0
def cfSp:W.Spec:=fun av H K=>∃ (ss:List St) (es:List En) (t:St) (ks:List Value) (vs:List St) (ks':List Value) (vs':List En),av=[ixV,.va (.gs (stC t))]/\H=ixH ks vs ks' vs'/\
  IxS ks vs ss/\IxE ks' vs' es/\t.ok/\K (iS .i64 (cfF ss es t)) (ixH ks vs ks' vs')
theorem cf_use {ss:List St} {es:List En} {t:St} {ks:List Value} {vs:List St} {ks':List Value} {vs':List En} {K:S->Hp->Prop} (h1:IxS ks vs ss) (h2:IxE ks' vs' es) (h3:t.ok) (hK:K (iS .i64 (cfF ss es t)) (ixH ks vs ks' vs')) :
    cfSp [ixV,.va (.gs (stC t))] (ixH ks vs ks' vs') K:=⟨ss,es,t,ks,vs,ks',vs',rfl,rfl,h1,h2,h3,hK⟩
theorem fl_ty (f:Fl):[C.vl (.int .i64 f.ty.k),.vl (.int .i64 f.ty.s),.vl (.string f.ty.n),.fz (f.ty.e.map tyC)]=tyC f.ty:=(tyC_eq f.ty).symm
set_option maxRecDepth 100000 in
set_option maxHeartbeats 2000000 in
theorem mCheckFields:Meets Tryz.prog 36 cfSp:=by
  refine meets_fn Tryz.func36 ok36 2 (by rw [Tryz.ntmps36]; decide) (meetsAll_s mValid' (meetsAll_f mIsName (meetsAll_nil _))) (fun av H K h=>by obtain ⟨_,_,_,_,_,_,_,rfl,_⟩:=h; rfl) ?_
  rintro av H K ⟨ss,es,t,ks,vs,ks',vs',rfl,rfl,h1,h2,h3,hK⟩
  have fin:∀ (x:Int) (R:Hp),cfF ss es t=x->W.Fin 2 K (iS .i64 x) (.map .string ks (vs.map stA) :: .map .string ks' (vs'.map enA) :: R):=fun x R h=>by
    rw [h] at hK
    exact .sel [0,1] (by simp) (by simp) rfl (.done (by simp -dsimp only [go_sem]; simpa using hK))
  obtain ⟨_,hl,hfs⟩:=h3
  simp -dsimp only [go_sem,stC,pc36,rs36]
  refine vc_loop (α:=Nat) (fun i=>[(2,.va (.c1 (.pt 2 0))),(3,.va (.c1 (.pt 3 0))),(10,.va (.c1 (.fz (t.fs.map flC)))),(11,iS .i64 t.fs.length),(12,iS .i64 i)]) (fun _=>[.map .string ks (vs.map stA),.map .string ks' (vs'.map enA),.cells [.mp 0,.mp 1] 81,.cells (stC t) 45])
    (fun i=>i<=t.fs.length/\fE (cfAt ss es t) (t.fs.length - i) i=cfF ss es t) (fun i=>t.fs.length - i) 0 4 ⟨Nat.zero_le _,rfl⟩ ?_ ?_ ?_
  · simp -dsimp only [go_sem]<;>simp
  · simp -dsimp only [go_sem,stC]<;>simp
  rintro i ⟨hi,ho⟩
  rcases Nat.lt_or_ge i t.fs.length with hlt | hge
  · have hg:decide ((i:Int) < (t.fs.length:Int))=true:=by simp; omega
    obtain ⟨f,hx⟩:∃ nm,t.fs[i]? = some nm:=⟨_,List.getElem?_eq_getElem hlt⟩
    have q1:=row_rg' (row:=flC) hx
    have hf:f.ok:=hfs f (List.mem_of_getElem? hx)
    have hA:cfAt ss es t i=bif decide (f.num < 1) || decide (127 < f.num) then (4:Int) else bif decide (0 < (i:Int)) && (match t.fs[i - 1]? with | some g=>decide (f.num<=g.num) | none=>false) then 2 else
      bif !(isNm (bl f.nm)) then 5 else bif (t.fs.take i).any (fun g=>decide (g.nm=f.nm)) then 7 else bif !(valF ss es f.ty) then 13 else 0:=by
      unfold cfAt; rw [hx]
    have fin':∀ (x:Int) (R:Hp),cfAt ss es t i=x->x ≠ 0->W.Fin 2 K (iS .i64 x) (.map .string ks (vs.map stA) :: .map .string ks' (vs'.map enA) :: R):=fun x R h1 h2=>fin x R (by
      rw [<-ho,fE_err hlt (by rw [h1]; exact h2),h1])
    have nxt:cfAt ss es t i=0->fE (cfAt ss es t) (t.fs.length - (i + 1)) (i + 1)=cfF ss es t:=fun h1=>by rw [<-ho,fE_ok hlt h1]
    cases c1:(decide (f.num < 1) || decide (127 < f.num)) with
    | true=>
      rw [c1] at hA
      simp (maxSteps:=1000000) -dsimp only [go_sem,hg,↓q1,flC,stC,c1]
      and_intros
      all_goals first
        | omega
        | exact fin' 4 _ hA (by decide)
    | false=>
      rw [c1] at hA
      simp only [Bool.cond_false] at hA
      rcases Nat.eq_zero_or_pos i with h0 | h0
      · have g1:decide (0 < (i:Int))=false:=by simp; omega
        rw [g1] at hA
        simp only [Bool.false_and,Bool.cond_false] at hA
        cases c3:isNm (bl f.nm) with
        | false=>
          rw [c3] at hA
          simp (maxSteps:=1000000) -dsimp only [go_sem,hg,↓q1,flC,stC,c1,c3,g1]
          and_intros
          all_goals first
            | omega
            | exact fin' 5 _ hA (by decide)
            | trace_state
        | true=>
          rw [c3] at hA
          simp only [Bool.not_true,Bool.cond_false] at hA
          simp (maxSteps:=1000000) -dsimp only [go_sem,hg,↓q1,flC,stC,c1,c3,g1,take_rows,all_rows flC_len]
          and_intros
          all_goals first
            | omega
            | skip
          have hlj:=len_take t.fs i
          generalize hm:t.fs.take i=m at *
          refine vc_loop (α:=Nat) (fun j=>[(2,.va (.c1 (.pt 2 0))),(3,.va (.c1 (.pt 3 0))),(6,.va (.c1 (.pt 4 0))),(10,.va (.c1 (.fz (t.fs.map flC)))),(11,iS .i64 t.fs.length),(12,iS .i64 i),(49,.va (.c1 (.fz (m.map flC)))),(50,iS .i64 m.length),(51,iS .i64 j)])
            (fun _=>[.map .string ks (vs.map stA),.map .string ks' (vs'.map enA),.cells [.mp 0,.mp 1] 81,.cells (stC t) 45,.cells (flC f) 42])
            (fun j=>j<=m.length/\(m.drop j).any (fun g=>decide (g.nm=f.nm))=m.any (fun g=>decide (g.nm=f.nm))) (fun j=>m.length - j) 0 5 ⟨Nat.zero_le _,rfl⟩ ?_ ?_ ?_
          · simp -dsimp only [go_sem]<;>simp
          · simp -dsimp only [go_sem,stC,flC]<;>simp
          rintro j ⟨hj,ho2⟩
          rcases Nat.lt_or_ge j m.length with hjt | hjg
          · have hgj:decide ((j:Int) < (m.length:Int))=true:=by simp; omega
            obtain ⟨d,hd⟩:∃ e,m[j]? = some e:=⟨_,List.getElem?_eq_getElem hjt⟩
            have q5:=row_rg' (row:=flC) hd
            rw [any_step hd] at ho2
            simp (maxSteps:=1000000) -dsimp only [go_sem,hgj,↓q5,flC,stC,bl_beq]
            and_intros
            all_goals first
              | omega
              | skip
            · intro hc
              rw [hc,Bool.true_or] at ho2
              rw [<-ho2] at hA
              exact fin' 7 _ hA (by decide)
            · intro hc
              rw [hc,Bool.false_or] at ho2
              refine ⟨by omega,loop_next (j + 1) 5 ⟨by omega,ho2⟩ (by omega) ?_ ?_⟩
              · simp -dsimp only [go_sem]<;>simp
              · simp -dsimp only [go_sem,stC,flC]<;>simp
          · have hgj:decide ((j:Int) < (m.length:Int))=false:=by simp; omega
            obtain rfl:j=m.length:=by omega
            rw [any_end] at ho2
            rw [<-ho2] at hA
            simp only [Bool.cond_false] at hA
            simp (maxSteps:=1000000) -dsimp only [go_sem,hgj,flC,stC,fl_ty]
            refine val_use' h1 h2 hf.ty ?_
            cases c5:valF ss es f.ty with
            | true=>
              rw [c5] at hA
              simp (maxSteps:=1000000) -dsimp only [go_sem]
              refine ⟨by omega,loop_next (i + 1) 4 ⟨by omega,nxt hA⟩ (by omega) ?_ ?_⟩
              · simp -dsimp only [go_sem]<;>simp
              · simp -dsimp only [go_sem,stC]<;>simp
            | false=>
              rw [c5] at hA
              simp (maxSteps:=1000000) -dsimp only [go_sem]
              exact fin' 13 _ hA (by decide)
      · have g1:decide (0 < (i:Int))=true:=by simp; omega
        obtain ⟨g,hy⟩:∃ m,t.fs[i - 1]? = some m:=⟨_,List.getElem?_eq_getElem (by omega)⟩
        have q4:((i:Int) - 1).toNat=i - 1:=by omega
        rw [g1,hy,Bool.true_and] at hA
        simp only at hA
        cases c2:decide (f.num<=g.num) with
        | true=>
          rw [c2] at hA
          simp (maxSteps:=1000000) -dsimp only [go_sem,hg,↓q1,flC,stC,c1,g1,q4,hy,Option.some.injEq,forall_eq',c2]
          and_intros
          all_goals first
            | omega
            | exact fin' 2 _ hA (by decide)
            | trace_state
        | false=>
          rw [c2] at hA
          simp only [Bool.cond_false] at hA
          cases c3:isNm (bl f.nm) with
          | false=>
            rw [c3] at hA
            simp (maxSteps:=1000000) -dsimp only [go_sem,hg,↓q1,flC,stC,c1,c3,g1,q4,hy,Option.some.injEq,forall_eq',c2]
            and_intros
            all_goals first
              | omega
              | exact fin' 5 _ hA (by decide)
              | trace_state
          | true=>
            rw [c3] at hA
            simp only [Bool.not_true,Bool.cond_false] at hA
            simp (maxSteps:=1000000) -dsimp only [go_sem,hg,↓q1,flC,stC,c1,c3,g1,q4,hy,Option.some.injEq,forall_eq',c2,take_rows,all_rows flC_len]
            and_intros
            all_goals first
              | omega
              | skip
            have hlj:=len_take t.fs i
            generalize hm:t.fs.take i=m at *
            refine vc_loop (α:=Nat) (fun j=>[(2,.va (.c1 (.pt 2 0))),(3,.va (.c1 (.pt 3 0))),(6,.va (.c1 (.pt 4 0))),(10,.va (.c1 (.fz (t.fs.map flC)))),(11,iS .i64 t.fs.length),(12,iS .i64 i),(49,.va (.c1 (.fz (m.map flC)))),(50,iS .i64 m.length),(51,iS .i64 j)])
              (fun _=>[.map .string ks (vs.map stA),.map .string ks' (vs'.map enA),.cells [.mp 0,.mp 1] 81,.cells (stC t) 45,.cells (flC f) 42])
              (fun j=>j<=m.length/\(m.drop j).any (fun g=>decide (g.nm=f.nm))=m.any (fun g=>decide (g.nm=f.nm))) (fun j=>m.length - j) 0 5 ⟨Nat.zero_le _,rfl⟩ ?_ ?_ ?_
            · simp -dsimp only [go_sem]<;>simp
            · simp -dsimp only [go_sem,stC,flC]<;>simp
            rintro j ⟨hj,ho2⟩
            rcases Nat.lt_or_ge j m.length with hjt | hjg
            · have hgj:decide ((j:Int) < (m.length:Int))=true:=by simp; omega
              obtain ⟨d,hd⟩:∃ e,m[j]? = some e:=⟨_,List.getElem?_eq_getElem hjt⟩
              have q5:=row_rg' (row:=flC) hd
              rw [any_step hd] at ho2
              simp (maxSteps:=1000000) -dsimp only [go_sem,hgj,↓q5,flC,stC,bl_beq]
              and_intros
              all_goals first
                | omega
                | skip
              · intro hc
                rw [hc,Bool.true_or] at ho2
                rw [<-ho2] at hA
                exact fin' 7 _ hA (by decide)
              · intro hc
                rw [hc,Bool.false_or] at ho2
                refine ⟨by omega,loop_next (j + 1) 5 ⟨by omega,ho2⟩ (by omega) ?_ ?_⟩
                · simp -dsimp only [go_sem]<;>simp
                · simp -dsimp only [go_sem,stC,flC]<;>simp
            · have hgj:decide ((j:Int) < (m.length:Int))=false:=by simp; omega
              obtain rfl:j=m.length:=by omega
              rw [any_end] at ho2
              rw [<-ho2] at hA
              simp only [Bool.cond_false] at hA
              simp (maxSteps:=1000000) -dsimp only [go_sem,hgj,flC,stC,fl_ty]
              refine val_use' h1 h2 hf.ty ?_
              cases c5:valF ss es f.ty with
              | true=>
                rw [c5] at hA
                simp (maxSteps:=1000000) -dsimp only [go_sem]
                refine ⟨by omega,loop_next (i + 1) 4 ⟨by omega,nxt hA⟩ (by omega) ?_ ?_⟩
                · simp -dsimp only [go_sem]<;>simp
                · simp -dsimp only [go_sem,stC]<;>simp
              | false=>
                rw [c5] at hA
                simp (maxSteps:=1000000) -dsimp only [go_sem]
                exact fin' 13 _ hA (by decide)
  · have hg:decide ((i:Int) < (t.fs.length:Int))=false:=by simp; omega
    obtain rfl:i=t.fs.length:=by omega
    rw [fE_end] at ho
    simp -dsimp only [go_sem,hg,stC]
    exact fin 0 _ ho.symm
end Go.Proofs.YtbcnggkldclemaaGreat
namespace Go.Proofs.YtbcnggkldclemaaGreat
open Go.W
def pc3_4:PC:=.gh (.ord  [.q ⟨some 20,none,.l (.ldn 5 (.t 7))⟩,.q ⟨some 21,none,.l (.ldn 3 (.t 3))⟩,.q ⟨some 22,none,.q (.mv (.t 1))⟩,.q ⟨some 23,none,.l (.ldn 5 (.t 5))⟩,.m ⟨some 24,none,.cl 9 [(.t 21),(.t 22),(.t 23)] []⟩,.rc ⟨some 20,none,.l (.ldn 5 (.t 7))⟩,.m ⟨some 25,none,.cq 8 [(.t 20),(.t 24)]⟩,.q ⟨some 26,none,.q (.mv (.t 25))⟩,.q ⟨some 27,(some (26,true)),.l (.ldn 3 (.t 3))⟩,.q ⟨some 28,(some (26,true)),.q (.mv (.t 1))⟩,.q ⟨some 29,(some (26,true)),.l (.ldn 5 (.t 7))⟩,.q ⟨some 31,(some (26,true)),.l (.ldn 5 (.t 7))⟩,.m ⟨some 30,(some (26,true)),.cl 7 [(.t 27),(.t 28),(.t 29)] []⟩,.rc ⟨some 31,(some (26,true)),.l (.ldn 5 (.t 7))⟩,.m ⟨some 32,(some (26,true)),.cq 8 [(.t 30),(.t 31)]⟩,.q ⟨some 33,none,.pick (.t 26) (.t 32) (.k (.bool false))⟩,.q ⟨some 34,none,.q (.mv (.t 33))⟩,.m ⟨some 35,(some (34,true)),.cq 6 []⟩,.q ⟨some 36,none,.pick (.t 34) (.t 35) (.k (.bool false))⟩,.m ⟨some 6,none,.q (.mv (.t 36))⟩])
@[go_sem ↓] theorem fold3_4 (Γ:Env) (k0:Nat) (fr:Fr) (H:Hp) (K:Ex->Fr->Hp->Prop):vc Γ k0 pc3_4 fr H K=vcn Γ k0 pc3_4 fr H K ⟨⟩:=rfl
def pc3:PC:=.seq (.reg [⟨some 3,none,.e (.bx 25 (.t 0))⟩,⟨some 5,none,.e (.bx 29 (.t 2))⟩,⟨some 6,none,.q (.mv (.k (.bool false)))⟩]) (.seq (.seq (.reg [⟨some 8,none,.l (.ldn 3 (.t 3))⟩,⟨some 9,none,.cq 4 [(.t 8)]⟩,⟨some 10,none,.q (.mv (.t 9))⟩,⟨some 11,(some (10,false)),.l (.ldn 5 (.t 5))⟩,⟨some 12,(some (10,false)),.cq 5 [(.t 11)]⟩,⟨some 13,(some (10,false)),.q (.bin .gtr true (.t 12) (.k (.int .i64 300)))⟩,⟨some 14,none,.pick (.t 10) (.k (.bool true)) (.t 13)⟩]) (.cond (.t 14) (.seq (.reg [⟨some 15,none,.cq 6 []⟩,⟨some 6,none,.q (.mv (.t 15))⟩]) .ret) .skip)) (.seq (.reg [⟨some 16,none,.l (.ldn 3 (.t 3))⟩,⟨some 17,none,.q (.mv (.t 1))⟩,⟨some 18,none,.l (.ldn 5 (.t 5))⟩,⟨some 19,none,.cl 7 [(.t 16),(.t 17),(.t 18)] []⟩,⟨some 7,none,.e (.al (.agg #[(.int .i64 0),(.int .i64 0),(.string (mk [])),(.slice none 0 0),(.slice none 0 0)]) 29)⟩,⟨none,none,.e (.st 5 (.t 7) (.t 19))⟩]) (.seq (pc3_4) .ret)))
def rs3:List RV:=[.mv (.t 6)]
theorem ok3:trFn Tryz.prog true ⟨fun r k=>if r=1/\k=1 then .q else if r=1/\k=4 then .q else if r=2/\k=0 then .q else if r=4/\k=5 then .q else if r=4/\k=12 then .q else if r=4/\k=15 then .q else .own [],fun r=>[4].contains r⟩ Tryz.f3=some (pc3,rs3):=by kernel_rfl
def pc5:PC:=.seq (.reg [⟨some 1,none,.e (.bx 29 (.t 0))⟩,⟨some 2,none,.q (.mv (.k (.int .i64 0)))⟩]) (.seq (.reg [⟨some 3,none,.q (.mv (.k (.int .i64 1)))⟩]) (.seq (.seq (.reg [⟨some 4,none,.q (.mv (.k (.int .i64 0)))⟩]) (.block 0 (.loop (.seq (.seq (.reg [⟨some 6,none,.q (.mv (.t 4))⟩,⟨some 7,none,.q (.fa 3 (.t 1))⟩,⟨some 8,none,.l (.ld1 (.t 7))⟩,⟨some 9,none,.q (.lnL (.t 8))⟩,⟨some 10,none,.q (.bin .lss false (.t 6) (.t 9))⟩]) (.cond (.t 10) .skip (.exit 0))) (.seq (.block 1 (.reg [⟨some 13,none,.q (.mv (.t 3))⟩,⟨some 14,none,.q (.fa 3 (.t 1))⟩,⟨some 15,none,.l (.ld1 (.t 14))⟩,⟨some 16,none,.q (.mv (.t 4))⟩,⟨some 17,none,.l (.ia 5 (.t 15) (.t 16))⟩,⟨some 18,none,.l (.ldn 5 (.t 17))⟩,⟨some 19,none,.cq 5 [(.t 18)]⟩,⟨some 20,none,.q (.bin .add false (.t 13) (.t 19))⟩,⟨some 3,none,.q (.mv (.t 20))⟩])) (.reg [⟨some 11,none,.q (.mv (.t 4))⟩,⟨some 12,none,.q (.bin .add false (.t 11) (.k (.int .i64 1)))⟩,⟨some 4,none,.q (.mv (.t 12))⟩])))))) (.seq (.seq (.reg [⟨some 5,none,.q (.mv (.k (.int .i64 0)))⟩]) (.block 2 (.loop (.seq (.seq (.reg [⟨some 21,none,.q (.mv (.t 5))⟩,⟨some 22,none,.q (.fa 4 (.t 1))⟩,⟨some 23,none,.l (.ld1 (.t 22))⟩,⟨some 24,none,.q (.lnL (.t 23))⟩,⟨some 25,none,.q (.bin .lss false (.t 21) (.t 24))⟩]) (.cond (.t 25) .skip (.exit 2))) (.seq (.block 3 (.reg [⟨some 28,none,.q (.mv (.t 3))⟩,⟨some 29,none,.q (.fa 4 (.t 1))⟩,⟨some 30,none,.l (.ld1 (.t 29))⟩,⟨some 31,none,.q (.mv (.t 5))⟩,⟨some 32,none,.l (.ia 6 (.t 30) (.t 31))⟩,⟨some 33,none,.q (.fa 1 (.t 32))⟩,⟨some 34,none,.l (.ldn 5 (.t 33))⟩,⟨some 35,none,.cq 5 [(.t 34)]⟩,⟨some 36,none,.q (.bin .add false (.t 28) (.t 35))⟩,⟨some 3,none,.q (.mv (.t 36))⟩])) (.reg [⟨some 26,none,.q (.mv (.t 5))⟩,⟨some 27,none,.q (.bin .add false (.t 26) (.k (.int .i64 1)))⟩,⟨some 5,none,.q (.mv (.t 27))⟩])))))) (.seq (.reg [⟨some 37,none,.q (.mv (.t 3))⟩,⟨some 2,none,.q (.mv (.t 37))⟩]) .ret))))
def rs5:List RV:=[.mv (.t 2)]
theorem ok5:trFn Tryz.prog false ⟨fun r k=>if r=5/\k=6 then .q else if r=9/\k=7 then .q else .own [],fun _=>false⟩ Tryz.f5=some (pc5,rs5):=by kernel_rfl
def pc8:PC:=.seq (.reg [⟨some 2,none,.e (.bx 29 (.t 0))⟩,⟨some 3,none,.e (.bx 29 (.t 1))⟩,⟨some 4,none,.q (.mv (.k (.bool false)))⟩]) (.seq (.reg [⟨some 5,none,.l (.ldn 5 (.t 2))⟩,⟨some 6,none,.l (.ldn 5 (.t 3))⟩,⟨some 7,none,.cq 16 [(.t 5),(.t 6)]⟩,⟨some 8,none,.q (.bin .eql true (.t 7) (.k (.int .i64 0)))⟩,⟨some 4,none,.q (.mv (.t 8))⟩]) .ret)
def rs8:List RV:=[.mv (.t 4)]
theorem ok8:trFn Tryz.prog true ⟨fun r k=>if r=1/\k=2 then .q else .own [],fun _=>false⟩ Tryz.f8=some (pc8,rs8):=by kernel_rfl
def pc9:PC:=.seq (.reg [⟨some 3,none,.e (.bx 25 (.t 0))⟩,⟨some 5,none,.e (.bx 29 (.t 2))⟩,⟨some 6,none,.e (.al (.agg #[(.int .i64 0),(.int .i64 0),(.string (mk [])),(.slice none 0 0),(.slice none 0 0)]) 29)⟩]) (.seq (.seq (.reg [⟨some 10,none,.l (.ldn 3 (.t 3))⟩,⟨some 11,none,.q (.mv (.t 1))⟩,⟨some 12,none,.cl 17 [(.t 10),(.t 11)] []⟩,⟨some 9,none,.q (.mv (.t 12))⟩,⟨some 13,none,.q (.ex (.t 9) 0)⟩,⟨some 14,none,.q (.ex (.t 9) 1)⟩,⟨some 7,none,.e (.al (.agg #[(.string (mk [])),(.slice none 0 0)]) 45)⟩,⟨none,none,.e (.st 2 (.t 7) (.t 13))⟩,⟨some 8,none,.q (.mv (.t 14))⟩]) (.seq (.reg [⟨some 15,none,.q (.mv (.t 8))⟩,⟨some 16,none,.q (.not (.t 15))⟩,⟨some 17,none,.q (.mv (.t 16))⟩,⟨some 18,(some (17,false)),.l (.ldn 3 (.t 3))⟩,⟨some 19,(some (17,false)),.cq 18 [(.t 18)]⟩,⟨some 20,(some (17,false)),.q (.bin .neq true (.t 19) (.k (.int .i64 0)))⟩,⟨some 21,none,.pick (.t 17) (.k (.bool true)) (.t 20)⟩]) (.cond (.t 21) (.seq (.reg [⟨some 22,none,.l (.ldn 5 (.t 5))⟩,⟨none,none,.e (.st 5 (.t 6) (.t 22))⟩]) .ret) .skip))) (.seq (.reg [⟨some 23,none,.l (.ldn 3 (.t 3))⟩,⟨some 24,none,.q (.mv (.t 1))⟩,⟨some 25,none,.q (.bd [(.int .i64 0),(.int .i64 0),(.string (mk [])),(.slice none 0 0)] [(0,1,(.k (.int .i64 6))),(2,1,(.t 24))])⟩,⟨some 26,none,.l (.ldn 5 (.t 5))⟩,⟨some 27,none,.cl 19 [(.t 23),(.t 25),(.t 26)] []⟩,⟨none,none,.e (.st 5 (.t 6) (.t 27))⟩]) .ret))
def rs9:List RV:=[.ld (.ldn 5 (.t 6))]
theorem ok9:trFn Tryz.prog true ⟨fun r k=>if r=2/\k=4 then .q else .own [],fun _=>false⟩ Tryz.f9=some (pc9,rs9):=by kernel_rfl
def pc16:PC:=.seq (.reg [⟨some 2,none,.e (.bx 29 (.t 0))⟩,⟨some 3,none,.e (.bx 29 (.t 1))⟩,⟨some 4,none,.q (.mv (.k (.int .i64 0)))⟩]) (.seq (.seq (.reg [⟨some 10,none,.q (.fa 0 (.t 2))⟩,⟨some 11,none,.l (.ld1 (.t 10))⟩,⟨some 12,none,.q (.fa 0 (.t 3))⟩,⟨some 13,none,.l (.ld1 (.t 12))⟩,⟨some 14,none,.q (.bin .neq true (.t 11) (.t 13))⟩]) (.cond (.t 14) (.seq (.reg [⟨some 15,none,.q (.fa 0 (.t 2))⟩,⟨some 16,none,.l (.ld1 (.t 15))⟩,⟨some 17,none,.q (.fa 0 (.t 3))⟩,⟨some 18,none,.l (.ld1 (.t 17))⟩,⟨some 19,none,.cq 39 [(.t 16),(.t 18)]⟩,⟨some 4,none,.q (.mv (.t 19))⟩]) .ret) .skip)) (.seq (.seq (.reg [⟨some 20,none,.q (.fa 1 (.t 2))⟩,⟨some 21,none,.l (.ld1 (.t 20))⟩,⟨some 22,none,.q (.fa 1 (.t 3))⟩,⟨some 23,none,.l (.ld1 (.t 22))⟩,⟨some 24,none,.q (.bin .lss true (.t 21) (.t 23))⟩]) (.cond (.t 24) (.seq (.reg [⟨some 4,none,.q (.mv (.k (.int .i64 (-1))))⟩]) .ret) .skip)) (.seq (.seq (.reg [⟨some 25,none,.q (.fa 1 (.t 2))⟩,⟨some 26,none,.l (.ld1 (.t 25))⟩,⟨some 27,none,.q (.fa 1 (.t 3))⟩,⟨some 28,none,.l (.ld1 (.t 27))⟩,⟨some 29,none,.q (.bin .gtr true (.t 26) (.t 28))⟩]) (.cond (.t 29) (.seq (.reg [⟨some 4,none,.q (.mv (.k (.int .i64 1)))⟩]) .ret) .skip)) (.seq (.seq (.reg [⟨some 30,none,.q (.fa 2 (.t 2))⟩,⟨some 31,none,.l (.ld1 (.t 30))⟩,⟨some 32,none,.q (.fa 2 (.t 3))⟩,⟨some 33,none,.l (.ld1 (.t 32))⟩,⟨some 34,none,.cq 40 [(.t 31),(.t 33)]⟩,⟨some 5,none,.q (.mv (.t 34))⟩]) (.seq (.reg [⟨some 35,none,.q (.mv (.t 5))⟩,⟨some 36,none,.q (.bin .neq true (.t 35) (.k (.int .i64 0)))⟩]) (.cond (.t 36) (.seq (.reg [⟨some 37,none,.q (.mv (.t 5))⟩,⟨some 4,none,.q (.mv (.t 37))⟩]) .ret) .skip))) (.seq (.seq (.reg [⟨some 6,none,.q (.mv (.k (.int .i64 0)))⟩]) (.block 0 (.loop (.seq (.seq (.reg [⟨some 38,none,.q (.mv (.t 6))⟩,⟨some 39,none,.q (.fa 3 (.t 2))⟩,⟨some 40,none,.l (.ld1 (.t 39))⟩,⟨some 41,none,.q (.lnL (.t 40))⟩,⟨some 42,none,.q (.bin .lss true (.t 38) (.t 41))⟩,⟨some 43,none,.q (.mv (.t 42))⟩,⟨some 44,(some (43,true)),.q (.mv (.t 6))⟩,⟨some 45,(some (43,true)),.q (.fa 3 (.t 3))⟩,⟨some 46,(some (43,true)),.l (.ld1 (.t 45))⟩,⟨some 47,(some (43,true)),.q (.lnL (.t 46))⟩,⟨some 48,(some (43,true)),.q (.bin .lss true (.t 44) (.t 47))⟩,⟨some 49,none,.pick (.t 43) (.t 48) (.k (.bool false))⟩]) (.cond (.t 49) .skip (.exit 0))) (.seq (.block 1 (.seq (.reg [⟨some 52,none,.q (.fa 3 (.t 2))⟩,⟨some 53,none,.l (.ld1 (.t 52))⟩,⟨some 54,none,.q (.mv (.t 6))⟩,⟨some 55,none,.l (.ia 5 (.t 53) (.t 54))⟩,⟨some 56,none,.l (.ldn 5 (.t 55))⟩,⟨some 57,none,.q (.fa 3 (.t 3))⟩,⟨some 58,none,.l (.ld1 (.t 57))⟩,⟨some 59,none,.q (.mv (.t 6))⟩,⟨some 60,none,.l (.ia 5 (.t 58) (.t 59))⟩,⟨some 61,none,.l (.ldn 5 (.t 60))⟩,⟨some 62,none,.cq 16 [(.t 56),(.t 61)]⟩,⟨some 7,none,.q (.mv (.t 62))⟩]) (.seq (.reg [⟨some 63,none,.q (.mv (.t 7))⟩,⟨some 64,none,.q (.bin .neq true (.t 63) (.k (.int .i64 0)))⟩]) (.cond (.t 64) (.seq (.reg [⟨some 65,none,.q (.mv (.t 7))⟩,⟨some 4,none,.q (.mv (.t 65))⟩]) .ret) .skip)))) (.reg [⟨some 50,none,.q (.mv (.t 6))⟩,⟨some 51,none,.q (.bin .add true (.t 50) (.k (.int .i64 1)))⟩,⟨some 6,none,.q (.mv (.t 51))⟩])))))) (.seq (.seq (.reg [⟨some 66,none,.q (.fa 3 (.t 2))⟩,⟨some 67,none,.l (.ld1 (.t 66))⟩,⟨some 68,none,.q (.lnL (.t 67))⟩,⟨some 69,none,.q (.fa 3 (.t 3))⟩,⟨some 70,none,.l (.ld1 (.t 69))⟩,⟨some 71,none,.q (.lnL (.t 70))⟩,⟨some 72,none,.q (.bin .neq true (.t 68) (.t 71))⟩]) (.cond (.t 72) (.seq (.reg [⟨some 73,none,.q (.fa 3 (.t 2))⟩,⟨some 74,none,.l (.ld1 (.t 73))⟩,⟨some 75,none,.q (.lnL (.t 74))⟩,⟨some 76,none,.q (.fa 3 (.t 3))⟩,⟨some 77,none,.l (.ld1 (.t 76))⟩,⟨some 78,none,.q (.lnL (.t 77))⟩,⟨some 79,none,.cq 39 [(.t 75),(.t 78)]⟩,⟨some 4,none,.q (.mv (.t 79))⟩]) .ret) .skip)) (.seq (.seq (.reg [⟨some 8,none,.q (.mv (.k (.int .i64 0)))⟩]) (.block 2 (.loop (.seq (.seq (.reg [⟨some 80,none,.q (.mv (.t 8))⟩,⟨some 81,none,.q (.fa 4 (.t 2))⟩,⟨some 82,none,.l (.ld1 (.t 81))⟩,⟨some 83,none,.q (.lnL (.t 82))⟩,⟨some 84,none,.q (.bin .lss true (.t 80) (.t 83))⟩,⟨some 85,none,.q (.mv (.t 84))⟩,⟨some 86,(some (85,true)),.q (.mv (.t 8))⟩,⟨some 87,(some (85,true)),.q (.fa 4 (.t 3))⟩,⟨some 88,(some (85,true)),.l (.ld1 (.t 87))⟩,⟨some 89,(some (85,true)),.q (.lnL (.t 88))⟩,⟨some 90,(some (85,true)),.q (.bin .lss true (.t 86) (.t 89))⟩,⟨some 91,none,.pick (.t 85) (.t 90) (.k (.bool false))⟩]) (.cond (.t 91) .skip (.exit 2))) (.seq (.block 3 (.seq (.seq (.reg [⟨some 94,none,.q (.fa 4 (.t 2))⟩,⟨some 95,none,.l (.ld1 (.t 94))⟩,⟨some 96,none,.q (.mv (.t 8))⟩,⟨some 97,none,.l (.ia 6 (.t 95) (.t 96))⟩,⟨some 98,none,.q (.fa 0 (.t 97))⟩,⟨some 99,none,.l (.ld1 (.t 98))⟩,⟨some 100,none,.q (.fa 4 (.t 3))⟩,⟨some 101,none,.l (.ld1 (.t 100))⟩,⟨some 102,none,.q (.mv (.t 8))⟩,⟨some 103,none,.l (.ia 6 (.t 101) (.t 102))⟩,⟨some 104,none,.q (.fa 0 (.t 103))⟩,⟨some 105,none,.l (.ld1 (.t 104))⟩,⟨some 106,none,.q (.bin .neq true (.t 99) (.t 105))⟩]) (.cond (.t 106) (.seq (.reg [⟨some 107,none,.q (.fa 4 (.t 2))⟩,⟨some 108,none,.l (.ld1 (.t 107))⟩,⟨some 109,none,.q (.mv (.t 8))⟩,⟨some 110,none,.l (.ia 6 (.t 108) (.t 109))⟩,⟨some 111,none,.q (.fa 0 (.t 110))⟩,⟨some 112,none,.l (.ld1 (.t 111))⟩,⟨some 113,none,.q (.fa 4 (.t 3))⟩,⟨some 114,none,.l (.ld1 (.t 113))⟩,⟨some 115,none,.q (.mv (.t 8))⟩,⟨some 116,none,.l (.ia 6 (.t 114) (.t 115))⟩,⟨some 117,none,.q (.fa 0 (.t 116))⟩,⟨some 118,none,.l (.ld1 (.t 117))⟩,⟨some 119,none,.cq 39 [(.t 112),(.t 118)]⟩,⟨some 4,none,.q (.mv (.t 119))⟩]) .ret) .skip)) (.seq (.reg [⟨some 120,none,.q (.fa 4 (.t 2))⟩,⟨some 121,none,.l (.ld1 (.t 120))⟩,⟨some 122,none,.q (.mv (.t 8))⟩,⟨some 123,none,.l (.ia 6 (.t 121) (.t 122))⟩,⟨some 124,none,.q (.fa 1 (.t 123))⟩,⟨some 125,none,.l (.ldn 5 (.t 124))⟩,⟨some 126,none,.q (.fa 4 (.t 3))⟩,⟨some 127,none,.l (.ld1 (.t 126))⟩,⟨some 128,none,.q (.mv (.t 8))⟩,⟨some 129,none,.l (.ia 6 (.t 127) (.t 128))⟩,⟨some 130,none,.q (.fa 1 (.t 129))⟩,⟨some 131,none,.l (.ldn 5 (.t 130))⟩,⟨some 132,none,.cq 16 [(.t 125),(.t 131)]⟩,⟨some 9,none,.q (.mv (.t 132))⟩]) (.seq (.reg [⟨some 133,none,.q (.mv (.t 9))⟩,⟨some 134,none,.q (.bin .neq true (.t 133) (.k (.int .i64 0)))⟩]) (.cond (.t 134) (.seq (.reg [⟨some 135,none,.q (.mv (.t 9))⟩,⟨some 4,none,.q (.mv (.t 135))⟩]) .ret) .skip))))) (.reg [⟨some 92,none,.q (.mv (.t 8))⟩,⟨some 93,none,.q (.bin .add true (.t 92) (.k (.int .i64 1)))⟩,⟨some 8,none,.q (.mv (.t 93))⟩])))))) (.seq (.reg [⟨some 136,none,.q (.fa 4 (.t 2))⟩,⟨some 137,none,.l (.ld1 (.t 136))⟩,⟨some 138,none,.q (.lnL (.t 137))⟩,⟨some 139,none,.q (.fa 4 (.t 3))⟩,⟨some 140,none,.l (.ld1 (.t 139))⟩,⟨some 141,none,.q (.lnL (.t 140))⟩,⟨some 142,none,.cq 39 [(.t 138),(.t 141)]⟩,⟨some 4,none,.q (.mv (.t 142))⟩]) .ret))))))))
def rs16:List RV:=[.mv (.t 4)]
theorem ok16:trFn Tryz.prog true ⟨fun r k=>if r=2/\k=4 then .q else if r=7/\k=4 then .q else if r=13/\k=10 then .q else if r=17/\k=6 then .q else if r=22/\k=12 then .q else if r=23/\k=12 then .q else if r=26/\k=6 then .q else .own [],fun _=>false⟩ Tryz.f16=some (pc16,rs16):=by kernel_rfl
def pc19_19:PC:=.seq (.gh (.reg [⟨some 86,none,.q (.mv (.t 13))⟩])) (.cond (.t 86) (.ord  [.q ⟨some 87,none,.q (.fa 4 (.t 7))⟩,.q ⟨some 88,none,.l (.ld1 (.t 87))⟩,.q ⟨some 89,none,.q (.fa 4 (.t 5))⟩,.q ⟨some 90,none,.l (.ld1 (.t 89))⟩,.q ⟨some 91,none,.q (.mv (.t 11))⟩,.q ⟨some 92,none,.l (.ia 6 (.t 90) (.t 91))⟩,.q ⟨some 93,none,.q (.fa 0 (.t 92))⟩,.q ⟨some 94,none,.l (.ld1 (.t 93))⟩,.q ⟨some 95,none,.l (.ldn 3 (.t 3))⟩,.q ⟨some 96,none,.q (.fa 2 (.t 12))⟩,.q ⟨some 97,none,.l (.ldn 4 (.t 96))⟩,.q ⟨some 98,none,.q (.fa 4 (.t 5))⟩,.q ⟨some 99,none,.l (.ld1 (.t 98))⟩,.q ⟨some 100,none,.q (.mv (.t 11))⟩,.q ⟨some 101,none,.l (.ia 6 (.t 99) (.t 100))⟩,.q ⟨some 102,none,.q (.fa 1 (.t 101))⟩,.q ⟨some 103,none,.l (.ldn 5 (.t 102))⟩,.m ⟨some 104,none,.cl 19 [(.t 95),(.t 97),(.t 103)] []⟩,.rc ⟨some 87,none,.q (.fa 4 (.t 7))⟩,.rc ⟨some 88,none,.l (.ld1 (.t 87))⟩,.rc ⟨some 89,none,.q (.fa 4 (.t 5))⟩,.rc ⟨some 90,none,.l (.ld1 (.t 89))⟩,.rc ⟨some 91,none,.q (.mv (.t 11))⟩,.rc ⟨some 92,none,.l (.ia 6 (.t 90) (.t 91))⟩,.rc ⟨some 93,none,.q (.fa 0 (.t 92))⟩,.rc ⟨some 94,none,.l (.ld1 (.t 93))⟩,.q ⟨some 105,none,.q (.bd [(.int .i64 0),(.int .i64 0),(.int .i64 0),(.string (mk [])),(.slice none 0 0),(.slice none 0 0)] [(0,1,(.t 94)),(1,5,(.t 104))])⟩,.m ⟨some 106,none,.e (.bsl 37 6 [(.t 105)])⟩,.rc ⟨some 87,none,.q (.fa 4 (.t 7))⟩,.rc ⟨some 88,none,.l (.ld1 (.t 87))⟩,.m ⟨some 107,none,.e (.ap 37 6 88 (.t 88) (.t 106))⟩,.q ⟨some 108,none,.q (.fa 4 (.t 7))⟩,.m ⟨none,none,.e (.st 1 (.t 108) (.t 107))⟩]) .skip)
@[go_sem ↓] theorem fold19_19 (Γ:Env) (k0:Nat) (fr:Fr) (H:Hp) (K:Ex->Fr->Hp->Prop):vc Γ k0 pc19_19 fr H K=vcn Γ k0 pc19_19 fr H K ⟨⟩:=rfl
def pc19:PC:=.seq (.reg [⟨some 3,none,.e (.bx 25 (.t 0))⟩,⟨some 4,none,.e (.bx 40 (.t 1))⟩,⟨some 5,none,.e (.bx 29 (.t 2))⟩,⟨some 6,none,.e (.al (.agg #[(.int .i64 0),(.int .i64 0),(.string (mk [])),(.slice none 0 0),(.slice none 0 0)]) 29)⟩]) (.seq (.seq (.reg [⟨some 14,none,.q (.fa 0 (.t 5))⟩,⟨some 15,none,.l (.ld1 (.t 14))⟩,⟨some 16,none,.q (.fa 0 (.t 4))⟩,⟨some 17,none,.l (.ld1 (.t 16))⟩,⟨some 18,none,.q (.bin .neq true (.t 15) (.t 17))⟩]) (.cond (.t 18) (.seq (.reg [⟨some 19,none,.l (.ldn 5 (.t 5))⟩,⟨none,none,.e (.st 5 (.t 6) (.t 19))⟩]) .ret) .skip)) (.seq (.reg [⟨some 20,none,.l (.ldn 5 (.t 5))⟩,⟨some 7,none,.e (.al (.agg #[(.int .i64 0),(.int .i64 0),(.string (mk [])),(.slice none 0 0),(.slice none 0 0)]) 29)⟩,⟨none,none,.e (.st 5 (.t 7) (.t 20))⟩]) (.seq (.seq (.reg [⟨some 21,none,.q (.fa 0 (.t 4))⟩,⟨some 22,none,.l (.ld1 (.t 21))⟩,⟨some 23,none,.q (.bin .eql true (.t 22) (.k (.int .i64 5)))⟩,⟨some 24,none,.q (.mv (.t 23))⟩,⟨some 25,(some (24,true)),.q (.fa 3 (.t 4))⟩,⟨some 26,(some (24,true)),.l (.ld1 (.t 25))⟩,⟨some 27,(some (24,true)),.q (.lnL (.t 26))⟩,⟨some 28,(some (24,true)),.q (.bin .eql true (.t 27) (.k (.int .i64 1)))⟩,⟨some 29,none,.pick (.t 24) (.t 28) (.k (.bool false))⟩]) (.cond (.t 29) (.seq (.reg [⟨some 30,none,.q (.fa 3 (.t 7))⟩,⟨none,none,.e (.st 1 (.t 30) (.k (.slice none 0 0)))⟩]) (.seq (.reg [⟨some 8,none,.q (.mv (.k (.int .i64 0)))⟩]) (.block 0 (.loop (.seq (.seq (.reg [⟨some 31,none,.q (.mv (.t 8))⟩,⟨some 32,none,.q (.fa 3 (.t 5))⟩,⟨some 33,none,.l (.ld1 (.t 32))⟩,⟨some 34,none,.q (.lnL (.t 33))⟩,⟨some 35,none,.q (.bin .lss true (.t 31) (.t 34))⟩]) (.cond (.t 35) .skip (.exit 0))) (.seq (.block 1 (.ord  [.q ⟨some 38,none,.q (.fa 3 (.t 7))⟩,.q ⟨some 39,none,.l (.ld1 (.t 38))⟩,.q ⟨some 40,none,.l (.ldn 3 (.t 3))⟩,.q ⟨some 41,none,.q (.fa 3 (.t 4))⟩,.q ⟨some 42,none,.l (.ld1 (.t 41))⟩,.q ⟨some 43,none,.l (.ia 4 (.t 42) (.k (.int .i64 0)))⟩,.q ⟨some 44,none,.l (.ldn 4 (.t 43))⟩,.q ⟨some 45,none,.q (.fa 3 (.t 5))⟩,.q ⟨some 46,none,.l (.ld1 (.t 45))⟩,.q ⟨some 47,none,.q (.mv (.t 8))⟩,.q ⟨some 48,none,.l (.ia 5 (.t 46) (.t 47))⟩,.q ⟨some 49,none,.l (.ldn 5 (.t 48))⟩,.m ⟨some 50,none,.cl 19 [(.t 40),(.t 44),(.t 49)] []⟩,.rc ⟨some 38,none,.q (.fa 3 (.t 7))⟩,.rc ⟨some 39,none,.l (.ld1 (.t 38))⟩,.m ⟨some 51,none,.e (.bsl 29 5 [(.t 50)])⟩,.rc ⟨some 38,none,.q (.fa 3 (.t 7))⟩,.rc ⟨some 39,none,.l (.ld1 (.t 38))⟩,.m ⟨some 52,none,.e (.ap 29 5 80 (.t 39) (.t 51))⟩,.q ⟨some 53,none,.q (.fa 3 (.t 7))⟩,.m ⟨none,none,.e (.st 1 (.t 53) (.t 52))⟩])) (.reg [⟨some 36,none,.q (.mv (.t 8))⟩,⟨some 37,none,.q (.bin .add true (.t 36) (.k (.int .i64 1)))⟩,⟨some 8,none,.q (.mv (.t 37))⟩]))))))) .skip)) (.seq (.seq (.reg [⟨some 54,none,.q (.fa 0 (.t 4))⟩,⟨some 55,none,.l (.ld1 (.t 54))⟩,⟨some 56,none,.q (.bin .eql true (.t 55) (.k (.int .i64 6)))⟩]) (.cond (.t 56) (.seq (.reg [⟨some 58,none,.l (.ldn 3 (.t 3))⟩,⟨some 59,none,.q (.fa 2 (.t 4))⟩,⟨some 60,none,.l (.ld1 (.t 59))⟩,⟨some 61,none,.cl 17 [(.t 58),(.t 60)] []⟩,⟨some 57,none,.q (.mv (.t 61))⟩,⟨some 62,none,.q (.ex (.t 57) 0)⟩,⟨some 63,none,.q (.ex (.t 57) 1)⟩,⟨some 9,none,.e (.al (.agg #[(.string (mk [])),(.slice none 0 0)]) 45)⟩,⟨none,none,.e (.st 2 (.t 9) (.t 62))⟩,⟨some 10,none,.q (.mv (.t 63))⟩]) (.seq (.seq (.reg [⟨some 64,none,.q (.mv (.t 10))⟩,⟨some 65,none,.q (.not (.t 64))⟩]) (.cond (.t 65) (.seq (.reg [⟨some 66,none,.l (.ldn 5 (.t 5))⟩,⟨none,none,.e (.st 5 (.t 6) (.t 66))⟩]) .ret) .skip)) (.seq (.reg [⟨some 67,none,.q (.fa 4 (.t 7))⟩,⟨none,none,.e (.st 1 (.t 67) (.k (.slice none 0 0)))⟩]) (.seq (.reg [⟨some 11,none,.q (.mv (.k (.int .i64 0)))⟩]) (.block 2 (.loop (.seq (.seq (.reg [⟨some 68,none,.q (.mv (.t 11))⟩,⟨some 69,none,.q (.fa 4 (.t 5))⟩,⟨some 70,none,.l (.ld1 (.t 69))⟩,⟨some 71,none,.q (.lnL (.t 70))⟩,⟨some 72,none,.q (.bin .lss true (.t 68) (.t 71))⟩]) (.cond (.t 72) .skip (.exit 2))) (.seq (.block 3 (.seq (.ord  [.q ⟨some 76,none,.l (.ldn 2 (.t 9))⟩,.q ⟨some 77,none,.q (.fa 4 (.t 5))⟩,.q ⟨some 78,none,.l (.ld1 (.t 77))⟩,.q ⟨some 79,none,.q (.mv (.t 11))⟩,.q ⟨some 80,none,.l (.ia 6 (.t 78) (.t 79))⟩,.q ⟨some 81,none,.q (.fa 0 (.t 80))⟩,.q ⟨some 82,none,.l (.ld1 (.t 81))⟩,.m ⟨some 83,none,.cl 47 [(.t 76),(.t 82)] []⟩,.q ⟨some 75,none,.q (.mv (.t 83))⟩,.q ⟨some 84,none,.q (.ex (.t 75) 0)⟩,.q ⟨some 85,none,.q (.ex (.t 75) 1)⟩,.m ⟨some 12,none,.e (.al (.agg #[(.int .i64 0),(.string (mk [])),(.int .i64 0),(.int .i64 0),(.string (mk [])),(.slice none 0 0),(.bool false)]) 42)⟩,.rc ⟨some 75,none,.q (.mv (.t 83))⟩,.rc ⟨some 84,none,.q (.ex (.t 75) 0)⟩,.rc ⟨some 85,none,.q (.ex (.t 75) 1)⟩,.m ⟨none,none,.e (.st 7 (.t 12) (.t 84))⟩,.rc ⟨some 85,none,.q (.ex (.t 75) 1)⟩,.m ⟨some 13,none,.q (.mv (.t 85))⟩]) (pc19_19))) (.reg [⟨some 73,none,.q (.mv (.t 11))⟩,⟨some 74,none,.q (.bin .add true (.t 73) (.k (.int .i64 1)))⟩,⟨some 11,none,.q (.mv (.t 74))⟩]))))))))) .skip)) (.seq (.reg [⟨some 109,none,.l (.ldn 5 (.t 7))⟩,⟨none,none,.e (.st 5 (.t 6) (.t 109))⟩]) .ret)))))
def rs19:List RV:=[.ld (.ldn 5 (.t 6))]
theorem ok19:trFn Tryz.prog true ⟨fun _ _=>.own [],fun r=>[19].contains r⟩ Tryz.f19=some (pc19,rs19):=by kernel_rfl
def pc39:PC:=.seq (.reg [⟨some 4,none,.q (.mv (.k (.int .i64 0)))⟩]) (.seq (.seq (.reg [⟨some 5,none,.q (.mv (.t 0))⟩,⟨some 6,none,.q (.mv (.t 1))⟩,⟨some 7,none,.q (.bin .lss true (.t 5) (.t 6))⟩]) (.cond (.t 7) (.seq (.reg [⟨some 4,none,.q (.mv (.k (.int .i64 (-1))))⟩]) .ret) .skip)) (.seq (.seq (.reg [⟨some 8,none,.q (.mv (.t 0))⟩,⟨some 9,none,.q (.mv (.t 1))⟩,⟨some 10,none,.q (.bin .gtr true (.t 8) (.t 9))⟩]) (.cond (.t 10) (.seq (.reg [⟨some 4,none,.q (.mv (.k (.int .i64 1)))⟩]) .ret) .skip)) (.seq (.reg [⟨some 4,none,.q (.mv (.k (.int .i64 0)))⟩]) .ret)))
def rs39:List RV:=[.mv (.t 4)]
theorem ok39:trFn Tryz.prog true ⟨fun _ _=>.own [],fun _=>false⟩ Tryz.f39=some (pc39,rs39):=by kernel_rfl
def pc40:PC:=.seq (.reg [⟨some 4,none,.q (.mv (.k (.int .i64 0)))⟩]) (.seq (.seq (.reg [⟨some 5,none,.q (.mv (.k (.int .i64 0)))⟩]) (.block 0 (.loop (.seq (.seq (.reg [⟨some 6,none,.q (.mv (.t 5))⟩,⟨some 7,none,.q (.mv (.t 0))⟩,⟨some 8,none,.q (.lnS (.t 7))⟩,⟨some 9,none,.q (.bin .lss true (.t 6) (.t 8))⟩,⟨some 10,none,.q (.mv (.t 9))⟩,⟨some 11,(some (10,true)),.q (.mv (.t 5))⟩,⟨some 12,(some (10,true)),.q (.mv (.t 1))⟩,⟨some 13,(some (10,true)),.q (.lnS (.t 12))⟩,⟨some 14,(some (10,true)),.q (.bin .lss true (.t 11) (.t 13))⟩,⟨some 15,none,.pick (.t 10) (.t 14) (.k (.bool false))⟩]) (.cond (.t 15) .skip (.exit 0))) (.seq (.block 1 (.seq (.seq (.reg [⟨some 18,none,.q (.mv (.t 0))⟩,⟨some 19,none,.q (.mv (.t 5))⟩,⟨some 20,none,.ix (.t 18) (.t 19)⟩,⟨some 21,none,.q (.mv (.t 1))⟩,⟨some 22,none,.q (.mv (.t 5))⟩,⟨some 23,none,.ix (.t 21) (.t 22)⟩,⟨some 24,none,.q (.bin .lss true (.t 20) (.t 23))⟩]) (.cond (.t 24) (.seq (.reg [⟨some 4,none,.q (.mv (.k (.int .i64 (-1))))⟩]) .ret) .skip)) (.seq (.reg [⟨some 25,none,.q (.mv (.t 0))⟩,⟨some 26,none,.q (.mv (.t 5))⟩,⟨some 27,none,.ix (.t 25) (.t 26)⟩,⟨some 28,none,.q (.mv (.t 1))⟩,⟨some 29,none,.q (.mv (.t 5))⟩,⟨some 30,none,.ix (.t 28) (.t 29)⟩,⟨some 31,none,.q (.bin .gtr true (.t 27) (.t 30))⟩]) (.cond (.t 31) (.seq (.reg [⟨some 4,none,.q (.mv (.k (.int .i64 1)))⟩]) .ret) .skip)))) (.reg [⟨some 16,none,.q (.mv (.t 5))⟩,⟨some 17,none,.q (.bin .add true (.t 16) (.k (.int .i64 1)))⟩,⟨some 5,none,.q (.mv (.t 17))⟩])))))) (.seq (.reg [⟨some 32,none,.q (.mv (.t 0))⟩,⟨some 33,none,.q (.lnS (.t 32))⟩,⟨some 34,none,.q (.mv (.t 1))⟩,⟨some 35,none,.q (.lnS (.t 34))⟩,⟨some 36,none,.cq 39 [(.t 33),(.t 35)]⟩,⟨some 4,none,.q (.mv (.t 36))⟩]) .ret))
def rs40:List RV:=[.mv (.t 4)]
theorem ok40:trFn Tryz.prog true ⟨fun r k=>if r=8/\k=4 then .q else .own [],fun _=>false⟩ Tryz.f40=some (pc40,rs40):=by kernel_rfl
end Go.Proofs.YtbcnggkldclemaaGreat
namespace Go.Proofs.YtbcnggkldclemaaGreat
open Go.W
def sgn (a b:Int):Int:=bif decide (a < b) then -1 else bif decide (b < a) then 1 else 0
theorem sgn_self (a:Int):sgn a a=0:=by unfold sgn; simp
def sgPre:List S->Prop:=fun av=>match av with
  | [.va (.c1 (.vl (.int .i64 _))),.va (.c1 (.vl (.int .i64 _)))]=>True
  | _=>False
theorem sgPre_open {av:List S} (h:sgPre av):∃ a b:Int,av=[iS .i64 a,iS .i64 b]:=by
  unfold sgPre at h
  split at h
  · exact ⟨_,_,rfl⟩
  · exact h.elim
def sgVal:List S->A:=fun av=>match av with
  | [.va (.c1 (.vl (.int _ a))),.va (.c1 (.vl (.int _ b)))]=>iA .i64 (sgn a b)
  | _=>.gs []
def sgFn:Fun:=⟨sgPre,sgVal,fun av h=>by obtain ⟨a,b,rfl⟩:=sgPre_open h; trivial⟩
theorem sgFn_len:∀ av H K,sgFn.sp av H K->av.length=2:=fun av H K h=>by obtain ⟨a,b,rfl⟩:=sgPre_open h.1.1; rfl
attribute [go_sem] sgFn sgPre sgVal
set_option maxRecDepth 100000 in
theorem mSign:Meets Tryz.prog 39 sgFn.sp:=by
  refine meets_fn Tryz.func39 ok39 2 (by rw [Tryz.ntmps39]; decide) (meetsAll_nil _) sgFn_len ?_
  rintro av H K ⟨⟨h,rfl⟩,hK⟩
  obtain ⟨a,b,rfl⟩:=sgPre_open h
  have hK:K (iS .i64 (sgn a b)) []:=hK
  clear h
  unfold sgn at hK
  simp (maxSteps:=1000000) -dsimp only [go_sem,pc39,rs39]
  refine ⟨fun h1=>?_,fun h1=>⟨fun h2=>?_,fun h2=>?_⟩⟩
  · rw [h1] at hK; exact .done hK
  · rw [h1,h2] at hK; exact .done hK
  · rw [h1,h2] at hK; exact .done hK
def ordPre:List S->Prop:=fun av=>match av with
  | [.va (.c1 (.vl (.string a))),.va (.c1 (.vl (.string b)))]=>a=b/\a.size<=9223372036854775807
  | _=>False
theorem ordPre_open {av:List S} (h:ordPre av):∃ a:ByteArray,av=[tS a,tS a]/\a.size<=9223372036854775807:=by
  unfold ordPre at h
  split at h
  · obtain ⟨rfl,h⟩:=h; exact ⟨_,rfl,h⟩
  · exact h.elim
def ordFn:Fun:=⟨ordPre,fun _=>iA .i64 0,fun _ _=>trivial⟩
theorem ordFn_len:∀ av H K,ordFn.sp av H K->av.length=2:=fun av H K h=>by obtain ⟨a,rfl,_⟩:=ordPre_open h.1.1; rfl
attribute [go_sem] ordFn ordPre
set_option maxRecDepth 100000 in
theorem mOrder:Meets Tryz.prog 40 ordFn.sp:=by
  refine meets_fn Tryz.func40 ok40 2 (by rw [Tryz.ntmps40]; decide) (meetsAll_f mSign (meetsAll_nil _)) ordFn_len ?_
  rintro av H K ⟨⟨h,rfl⟩,hK⟩
  obtain ⟨a,rfl,hs⟩:=ordPre_open h
  have hK:K (iS .i64 0) []:=hK
  clear h
  rw [size_bl] at hs
  simp (maxSteps:=1000000) -dsimp only [go_sem,pc40,rs40]
  refine vc_loop (α:=Nat) (fun i=>[(0,tS a),(1,tS a),(5,iS .i64 i)]) (fun _=>[])
    (fun i=>i<=(bl a).length) (fun i=>(bl a).length - i) 0 0 (Nat.zero_le _) ?_ ?_ ?_
  · simp -dsimp only [go_sem]<;>simp
  · simp -dsimp only [go_sem]<;>simp
  intro i hi
  rcases Nat.lt_or_ge i (bl a).length with hlt | hge
  · have hg:decide ((i:Int) < ((bl a).length:Int))=true:=by simp; omega
    obtain ⟨c,hc⟩:∃ c,(bl a)[i]? = some c:=⟨_,List.getElem?_eq_getElem hlt⟩
    have hcc:decide ((c.toNat:Int) < (c.toNat:Int))=false:=by simp
    simp (maxSteps:=1000000) -dsimp only [go_sem,hg,hc,Option.some.injEq,forall_eq',hcc]
    refine ⟨by omega,by omega,by omega,by omega,by omega,loop_next (i + 1) 0 (by omega) (by omega) ?_ ?_⟩
    · simp -dsimp only [go_sem]<;>simp
    · simp -dsimp only [go_sem]<;>simp
  · have hg:decide ((i:Int) < ((bl a).length:Int))=false:=by simp; omega
    obtain rfl:i=(bl a).length:=by omega
    simp (maxSteps:=1000000) -dsimp only [go_sem,hg,sgn_self]
    exact .done hK
def cmPre (N:Nat):List S->Prop:=fun av=>match av with
  | [.va (.gs r),.va (.gs q)]=>r=q/\isVl r/\(C.vv r).h<=N
  | _=>False
theorem cmPre_open {N:Nat} {av:List S} (h:cmPre N av):∃ v,av=[.va (.gs (vlC v)),.va (.gs (vlC v))]/\VlOk v/\v.h<=N:=by
  unfold cmPre at h
  split at h
  · obtain ⟨rfl,⟨v,rfl,hv⟩,h⟩:=h
    rw [vv_dec] at h
    exact ⟨v,rfl,hv,h⟩
  · exact h.elim
def zVal:List S->A:=fun _=>iA .i64 0
noncomputable def cmFn (N:Nat):Fun:=⟨cmPre N,zVal,fun _ _=>trivial⟩
theorem cmFn_len {N:Nat}:∀ av H K,(cmFn N).sp av H K->av.length=2:=fun av H K h=>by obtain ⟨v,rfl,_⟩:=cmPre_open h.1.1; rfl
attribute [go_sem] cmFn cmPre zVal
def vlX (v:Vl):List C:=[.vl (.int .i64 v.k),.vl (.int .i64 v.n),.vl (.string v.s),.fz (v.l.map vlC),.fz (v.f.map veC)]
theorem vl_rg {l:List Vl} {i:Nat} {x:Vl} (h:l[i]? = some x) (p:List C->Prop):(∀ r,(l.map vlC)[((i:Nat):Int).toNat]? = some r->p r)=p [.vl (.int .i64 x.k),.vl (.int .i64 x.n),.vl (.string x.s),.fz (x.l.map vlC),.fz (x.f.map veC)]:=by
  rw [<-vlC_eq]; exact row_rg' (row:=vlC) h p
theorem ve_rg {l:List (Int × Vl)} {i:Nat} {x:Int × Vl} (h:l[i]? = some x) (p:List C->Prop):(∀ r,(l.map veC)[((i:Nat):Int).toNat]? = some r->p r)=p [.vl (.int .i64 x.1),.vl (.int .i64 x.2.k),.vl (.int .i64 x.2.n),.vl (.string x.2.s),.fz (x.2.l.map vlC),.fz (x.2.f.map veC)]:=by
  rw [<-veC_eq]; exact row_rg' (row:=veC) h p
theorem isVl_x {v:Vl} (h:VlOk v):isVl [.vl (.int .i64 v.k),.vl (.int .i64 v.n),.vl (.string v.s),.fz (v.l.map vlC),.fz (v.f.map veC)]:=by rw [<-vlC_eq]; exact isVl_mk h
theorem vv_x (v:Vl):C.vv [.vl (.int .i64 v.k),.vl (.int .i64 v.n),.vl (.string v.s),.fz (v.l.map vlC),.fz (v.f.map veC)]=v:=by rw [<-vlC_eq,vv_dec]
set_option maxRecDepth 100000 in
set_option maxHeartbeats 1000000 in
theorem mCompareN:∀ N,Meets Tryz.prog 16 (cmFn N).sp
  | 0=>⟨by kernel_rfl,by rintro xs vs E ro w K _ _ _ ⟨⟨h,_⟩,_⟩; obtain ⟨v,_,_,h⟩:=cmPre_open h; have:=v.h_pos; omega⟩
  | N + 1=>by
    refine meets_fn Tryz.func16 ok16 2 (by rw [Tryz.ntmps16]; decide) (meetsAll_f (mCompareN N) (meetsAll_f mSign (meetsAll_f mOrder (meetsAll_nil _)))) cmFn_len ?_
    rintro av H K ⟨⟨h,rfl⟩,hK⟩
    obtain ⟨v,rfl,hv,hh⟩:=cmPre_open h
    have hK:K (iS .i64 0) []:=hK
    clear h
    have fin:∀ R:Hp,W.Fin 0 K (iS .i64 0) R:=fun R=>.sel [] (by simp) (by simp) rfl (.done (by simpa [go_sem] using hK))
    have hll:=hv.ll
    have hlf:=hv.lf
    have hs:=hv.s
    have h0:decide (v.n < v.n)=false:=by simp
    simp (maxSteps:=1000000) -dsimp only [go_sem,vlC_eq v,pc16,rs16,bne_self_eq_false,h0,hs]
    refine vc_loop (α:=Nat) (fun i=>[(2,.va (.c1 (.pt 0 0))),(3,.va (.c1 (.pt 1 0))),(6,iS .i64 i)]) (fun _=>[.cells (vlX v) 29,.cells (vlX v) 29])
      (fun i=>i<=v.l.length) (fun i=>v.l.length - i) 0 2 (Nat.zero_le _) ?_ ?_ ?_
    · simp -dsimp only [go_sem]<;>simp
    · simp -dsimp only [go_sem,vlX]<;>simp
    intro i hi
    rcases Nat.lt_or_ge i v.l.length with hlt | hge
    · have hg:decide ((i:Int) < (v.l.length:Int))=true:=by simp; omega
      obtain ⟨x,hx⟩:∃ t,v.l[i]? = some t:=⟨_,List.getElem?_eq_getElem hlt⟩
      have q1:=vl_rg hx
      have hxm:=List.mem_of_getElem? hx
      have k1:=isVl_x (hv.l x hxm)
      have k2:=vv_x x
      have k3:x.h<=N:=by have:=Vl.h_l hxm; omega
      simp (maxSteps:=1000000) -dsimp only [go_sem,hg,↓q1,vlX,k1,k2,k3,bne_self_eq_false]
      refine ⟨by omega,by omega,by omega,loop_next (i + 1) 2 (by omega) (by omega) ?_ ?_⟩
      · simp -dsimp only [go_sem]<;>simp
      · simp -dsimp only [go_sem,vlX]<;>simp [vlX]
    · have hg:decide ((i:Int) < (v.l.length:Int))=false:=by simp; omega
      obtain rfl:i=v.l.length:=by omega
      simp (maxSteps:=1000000) -dsimp only [go_sem,hg,vlX,bne_self_eq_false]
      clear hi hge hg
      refine vc_loop (α:=Nat) (fun i=>[(2,.va (.c1 (.pt 0 0))),(3,.va (.c1 (.pt 1 0))),(8,iS .i64 i)]) (fun _=>[.cells (vlX v) 29,.cells (vlX v) 29])
        (fun i=>i<=v.f.length) (fun i=>v.f.length - i) 0 2 (Nat.zero_le _) ?_ ?_ ?_
      · simp -dsimp only [go_sem]<;>simp
      · simp -dsimp only [go_sem,vlX]<;>simp
      intro i hi
      rcases Nat.lt_or_ge i v.f.length with hlt | hge
      · have hg:decide ((i:Int) < (v.f.length:Int))=true:=by simp; omega
        obtain ⟨x,hx⟩:∃ t,v.f[i]? = some t:=⟨_,List.getElem?_eq_getElem hlt⟩
        have q1:=ve_rg hx
        have hxm:=List.mem_of_getElem? hx
        have k1:=isVl_x (hv.f x hxm)
        have k2:=vv_x x.2
        have k3:x.2.h<=N:=by have:=Vl.h_f hxm; omega
        simp (maxSteps:=1000000) -dsimp only [go_sem,hg,↓q1,vlX,k1,k2,k3,bne_self_eq_false]
        and_intros
        all_goals first
          | omega
          | skip
        refine loop_next (i + 1) 2 (by omega) (by omega) ?_ ?_
        · simp -dsimp only [go_sem]<;>simp
        · simp -dsimp only [go_sem,vlX]<;>simp [vlX]
      · have hg:decide ((i:Int) < (v.f.length:Int))=false:=by simp; omega
        obtain rfl:i=v.f.length:=by omega
        simp (maxSteps:=1000000) -dsimp only [go_sem,hg,vlX,sgn_self]
        exact fin _
def ceqPre:List S->Prop:=fun av=>match av with
  | [.va (.gs r),.va (.gs q)]=>r=q/\isVl r
  | _=>False
theorem ceqPre_open {av:List S} (h:ceqPre av):∃ v,av=[.va (.gs (vlC v)),.va (.gs (vlC v))]/\VlOk v:=by
  unfold ceqPre at h
  split at h
  · obtain ⟨rfl,v,rfl,hv⟩:=h; exact ⟨v,rfl,hv⟩
  · exact h.elim
noncomputable def ceFn:Fun:=⟨ceqPre,zVal,fun _ _=>trivial⟩
theorem mCompareV:Meets Tryz.prog 16 ceFn.sp:=meets_all 0 mCompareN fun av H K ⟨⟨h,e⟩,hK⟩=>by
  obtain ⟨v,rfl,hv⟩:=ceqPre_open h
  exact ⟨v.h,⟨⟨⟨rfl,isVl_mk hv,by rw [vv_dec]; exact Nat.le_refl _⟩,e⟩,hK⟩⟩
noncomputable def eqFn:Fun:=⟨ceqPre,fun _=>bA true,fun _ _=>trivial⟩
theorem eqFn_len:∀ av H K,eqFn.sp av H K->av.length=2:=fun av H K h=>by obtain ⟨v,rfl,_⟩:=ceqPre_open h.1.1; rfl
attribute [go_sem] ceFn eqFn ceqPre
set_option maxRecDepth 100000 in
theorem mEqualV:Meets Tryz.prog 8 eqFn.sp:=by
  refine meets_fn Tryz.func8 ok8 2 (by rw [Tryz.ntmps8]; decide) (meetsAll_f mCompareV (meetsAll_nil _)) eqFn_len ?_
  rintro av H K ⟨⟨h,rfl⟩,hK⟩
  obtain ⟨v,rfl,hv⟩:=ceqPre_open h
  have hK:K (bS true) []:=hK
  clear h
  have k1:=isVl_x hv
  simp (maxSteps:=1000000) -dsimp only [go_sem,vlC_eq v,pc8,rs8,k1]
  exact .sel [] (by simp) (by simp) rfl (.done (by simpa [go_sem] using hK))
mutual
def szW:Vl->Int
  | .mk _ _ _ l f=>szF (szL 1 l) f
def szL:Int->List Vl->Int
  | a,[]=>a
  | a,v :: r=>szL (IntKind.i64.wrap (a + szW v)) r
def szF:Int->List (Int × Vl)->Int
  | a,[]=>a
  | a,(_,v) :: r=>szF (IntKind.i64.wrap (a + szW v)) r
end
theorem szW_eq (v:Vl):szW v=szF (szL 1 v.l) v.f:=by cases v; rw [szW]; rfl
theorem szF_cons (a:Int) (x:Int × Vl) (r:List (Int × Vl)):szF a (x :: r)=szF (IntKind.i64.wrap (a + szW x.2)) r:=by cases x; rw [szF]
theorem wrap_ok {n:Int} (h1:-9223372036854775808<=n) (h2:n<=9223372036854775807):IntKind.i64.wrap n=n:=wrap_inr (inr64 h1 h2)
def svPre (N:Nat):List S->Prop:=fun av=>match av with
  | [.va (.gs r)]=>isVl r/\(C.vv r).h<=N
  | _=>False
theorem svPre_open {N:Nat} {av:List S} (h:svPre N av):∃ v,av=[.va (.gs (vlC v))]/\VlOk v/\v.h<=N:=by
  unfold svPre at h
  split at h
  · obtain ⟨⟨v,rfl,hv⟩,h⟩:=h
    rw [vv_dec] at h
    exact ⟨v,rfl,hv,h⟩
  · exact h.elim
noncomputable def svVal:List S->A:=fun av=>match av with
  | [.va (.gs r)]=>iA .i64 (szW (C.vv r))
  | _=>.gs []
noncomputable def svFn (N:Nat):Fun:=⟨svPre N,svVal,fun av h=>by obtain ⟨v,rfl,_⟩:=svPre_open h; trivial⟩
theorem svFn_len {N:Nat}:∀ av H K,(svFn N).sp av H K->av.length=1:=fun av H K h=>by obtain ⟨v,rfl,_⟩:=svPre_open h.1.1; rfl
attribute [go_sem] svFn svPre svVal
set_option maxRecDepth 100000 in
set_option maxHeartbeats 1000000 in
theorem mSizeN:∀ N,Meets Tryz.prog 5 (svFn N).sp
  | 0=>⟨by kernel_rfl,by rintro xs vs E ro w K _ _ _ ⟨⟨h,_⟩,_⟩; obtain ⟨v,_,_,h⟩:=svPre_open h; have:=v.h_pos; omega⟩
  | N + 1=>by
    refine meets_fn Tryz.func5 ok5 1 (by rw [Tryz.ntmps5]; decide) (meetsAll_f (mSizeN N) (meetsAll_nil _)) svFn_len ?_
    rintro av H K ⟨⟨h,rfl⟩,hK⟩
    obtain ⟨v,rfl,hv,hh⟩:=svPre_open h
    have hK:K (iS .i64 (szW v)) []:=by
      have:(svFn (N + 1)).val [.va (.gs (vlC v))]=iA .i64 (szW v):=by simp -dsimp only [go_sem]
      rw [this] at hK; exact hK
    clear h
    rw [szW_eq] at hK
    generalize hX:szF (szL 1 v.l) v.f=X at hK
    have hll:=hv.ll
    have hlf:=hv.lf
    simp (maxSteps:=1000000) -dsimp only [go_sem,vlC_eq v,pc5,rs5]
    refine vc_loop (α:=Nat × Int) (fun z=>[(1,.va (.c1 (.pt 0 0))),(3,iS .i64 z.2),(4,iS .i64 z.1)]) (fun _=>[.cells (vlX v) 29])
      (fun z=>z.1<=v.l.length/\szF (szL z.2 (v.l.drop z.1)) v.f=X) (fun z=>v.l.length - z.1) (0,1) 1 ⟨Nat.zero_le _,hX⟩ ?_ ?_ ?_
    · simp -dsimp only [go_sem]<;>simp
    · simp -dsimp only [go_sem,vlX]<;>simp
    clear hX
    rintro ⟨i,a⟩ ⟨hi,ho⟩
    simp only at hi ho ⊢
    rcases Nat.lt_or_ge i v.l.length with hlt | hge
    · have hg:decide ((i:Int) < (v.l.length:Int))=true:=by simp; omega
      obtain ⟨x,hx⟩:∃ t,v.l[i]? = some t:=⟨_,List.getElem?_eq_getElem hlt⟩
      have q1:=vl_rg hx
      have hxm:=List.mem_of_getElem? hx
      have k1:=isVl_x (hv.l x hxm)
      have k2:=vv_x x
      have k3:x.h<=N:=by have:=Vl.h_l hxm; omega
      have hw:IntKind.i64.wrap ((i:Int) + 1)=(i:Int) + 1:=wrap_ok (by omega) (by omega)
      have hdr:v.l.drop i=x :: v.l.drop (i + 1):=by
        obtain ⟨h,rfl⟩:=List.getElem?_eq_some_iff.1 hx
        exact List.drop_eq_getElem_cons h
      rw [hdr,szL] at ho
      simp (maxSteps:=1000000) -dsimp only [go_sem,hg,↓q1,vlX,k1,k2,k3,hw]
      refine ⟨by omega,loop_next (i + 1,IntKind.i64.wrap (a + szW x)) 1 ⟨by simp only; omega,ho⟩ (by simp only; omega) ?_ ?_⟩
      · simp -dsimp only [go_sem]<;>simp
      · simp -dsimp only [go_sem,vlX]<;>simp [vlX]
    · have hg:decide ((i:Int) < (v.l.length:Int))=false:=by simp; omega
      obtain rfl:i=v.l.length:=by omega
      rw [List.drop_length,szL] at ho
      simp (maxSteps:=1000000) -dsimp only [go_sem,hg,vlX]
      clear hi hge hg
      refine vc_loop (α:=Nat × Int) (fun z=>[(1,.va (.c1 (.pt 0 0))),(3,iS .i64 z.2),(5,iS .i64 z.1)]) (fun _=>[.cells (vlX v) 29])
        (fun z=>z.1<=v.f.length/\szF z.2 (v.f.drop z.1)=X) (fun z=>v.f.length - z.1) (0,a) 1 ⟨Nat.zero_le _,ho⟩ ?_ ?_ ?_
      · simp -dsimp only [go_sem]<;>simp
      · simp -dsimp only [go_sem,vlX]<;>simp
      clear ho
      rintro ⟨i,a⟩ ⟨hi,ho⟩
      simp only at hi ho ⊢
      rcases Nat.lt_or_ge i v.f.length with hlt | hge
      · have hg:decide ((i:Int) < (v.f.length:Int))=true:=by simp; omega
        obtain ⟨x,hx⟩:∃ t,v.f[i]? = some t:=⟨_,List.getElem?_eq_getElem hlt⟩
        have q1:=ve_rg hx
        have hxm:=List.mem_of_getElem? hx
        have k1:=isVl_x (hv.f x hxm)
        have k2:=vv_x x.2
        have k3:x.2.h<=N:=by have:=Vl.h_f hxm; omega
        have hw:IntKind.i64.wrap ((i:Int) + 1)=(i:Int) + 1:=wrap_ok (by omega) (by omega)
        have hdr:v.f.drop i=x :: v.f.drop (i + 1):=by
          obtain ⟨h,rfl⟩:=List.getElem?_eq_some_iff.1 hx
          exact List.drop_eq_getElem_cons h
        rw [hdr,szF_cons] at ho
        simp (maxSteps:=1000000) -dsimp only [go_sem,hg,↓q1,vlX,k1,k2,k3,hw]
        refine ⟨by omega,loop_next (i + 1,IntKind.i64.wrap (a + szW x.2)) 1 ⟨by simp only; omega,ho⟩ (by simp only; omega) ?_ ?_⟩
        · simp -dsimp only [go_sem]<;>simp
        · simp -dsimp only [go_sem,vlX]<;>simp [vlX]
      · have hg:decide ((i:Int) < (v.f.length:Int))=false:=by simp; omega
        obtain rfl:i=v.f.length:=by omega
        rw [List.drop_length,szF] at ho
        subst ho
        simp (maxSteps:=1000000) -dsimp only [go_sem,hg,vlX]
        exact .sel [] (by simp) (by simp) rfl (.done (by simpa [go_sem] using hK))
def svPre':List S->Prop:=gPre isVl
noncomputable def svFn':Fun:=⟨svPre',svVal,fun av h=>by obtain ⟨r,rfl,v,rfl,_⟩:=gPre_open h; trivial⟩
attribute [go_sem] svFn' svPre'
theorem mSizeV:Meets Tryz.prog 5 svFn'.sp:=meets_all 0 mSizeN fun av H K ⟨⟨h,e⟩,hK⟩=>by
  obtain ⟨r,rfl,v,rfl,hv⟩:=gPre_open h
  exact ⟨v.h,⟨⟨⟨isVl_mk hv,by rw [vv_dec]; exact Nat.le_refl _⟩,e⟩,hK⟩⟩
end Go.Proofs.YtbcnggkldclemaaGreat
namespace Go.Proofs.YtbcnggkldclemaaGreat
open Go.W
abbrev nmK (ns:List ByteArray):List Value:=ns.map Value.string
def sidx:List ByteArray->ByteArray->Option Nat
  | [],_=>none
  | k :: ks,q=>bif decide (q=k) then some 0 else (sidx ks q).map (· + 1)
theorem keyEq_str (a b:ByteArray):keyEq (.string a) (.string b)=decide (a=b):=by
  rw [Bool.eq_iff_iff,keyEq_iff (d:=.string) (by simp [MapKept.IsKey]) (by simp [MapKept.IsKey])]; simp
theorem midx_nm (q:ByteArray):∀ ns:List ByteArray,midx (nmK ns) (.string q)=sidx ns q
  | []=>rfl
  | k :: ks=>by
    have:=midx_nm q ks
    simp only [nmK,List.map_cons,midx,sidx,keyEq_str] at this ⊢
    rw [this]
theorem sidx_some {q:ByteArray}:∀ {ns:List ByteArray} {i:Nat},sidx ns q=some i->ns[i]? = some q/\i < ns.length
  | [],_,h=>by cases h
  | k :: ks,i,h=>by
    simp only [sidx] at h
    by_cases hk:q=k
    · simp [hk] at h; subst h; simp [hk]
    · simp [hk] at h
      obtain ⟨j,h1,rfl⟩:=h
      have:=sidx_some h1
      simpa using this
theorem sidx_app (ns:List ByteArray) (q n:ByteArray):sidx (ns ++ [q]) n=match sidx ns n with | some i=>some i | none=>bif decide (n=q) then some ns.length else none:=by
  induction ns with
  | nil=>simp only [List.nil_append,sidx,List.length_nil,Option.map_none]
  | cons k ks ih=>
    simp only [List.cons_append,sidx,ih]
    by_cases hk:n=k
    · simp [hk]
    · simp only [hk,decide_false,cond_false]
      cases sidx ks n with
      | some i=>rfl
      | none=>by_cases hq:n=q<;>simp [hq]
theorem mget_nm {α:Type} (row:α->A) (ns:List ByteArray) (l:List α) (n:ByteArray):mget (nmK ns) (l.map row) (.string n)=(sidx ns n).bind fun i=>(l[i]?).map row:=by
  unfold mget; rw [midx_nm]; simp only [List.getElem?_map]
theorem put_ex {α:Type} (row:α->A) {ns:List ByteArray} {l:List α} (h:ns.length=l.length) (q:ByteArray) (x:α):∃ (ns':List ByteArray) (l':List α),mputK (nmK ns) (.string q)=nmK ns'/\mputV (nmK ns) (l.map row) (.string q) (row x)=l'.map row/\
    ns'.length=l'.length/\∀ n,mget (nmK ns') (l'.map row) (.string n)=bif decide (n=q) then some (row x) else mget (nmK ns) (l.map row) (.string n):=by
  cases hm:sidx ns q with
  | none=>
    refine ⟨ns ++ [q],l ++ [x],?_,?_,by simp [h],fun n=>?_⟩
    · unfold mputK; rw [midx_nm,hm]; simp
    · unfold mputV; rw [midx_nm,hm]; simp
    · rw [mget_nm,mget_nm,sidx_app]
      by_cases hn:n=q
      · subst hn; rw [hm]; simp [h]
      · simp only [hn,decide_false,cond_false]
        cases hs:sidx ns n with
        | none=>rfl
        | some i=>have:=(sidx_some hs).2; simp [List.getElem?_append_left (show i < l.length by omega)]
  | some i=>
    obtain ⟨h1,h2⟩:=sidx_some hm
    refine ⟨ns,l.set i x,?_,?_,by simp [h],fun n=>?_⟩
    · unfold mputK; rw [midx_nm,hm]
    · unfold mputV; rw [midx_nm,hm]; simp only [List.map_set]
    · rw [mget_nm,mget_nm]
      by_cases hn:n=q
      · subst hn; rw [hm]; simp [show i < l.length by omega]
      · simp only [hn,decide_false,cond_false]
        cases hs:sidx ns n with
        | none=>rfl
        | some j=>
          have hj:=sidx_some hs
          have:i ≠ j:=fun e=>hn (by subst e; rw [h1] at hj; exact (Option.some.inj hj.1).symm)
          simp [List.getElem?_set,this]
theorem fS_step {ss:List St} {k:Nat} {x:St} (hx:ss[k]? = some x) (n:ByteArray):fS (ss.drop k) n=bif decide (n=x.nm) then some x else fS (ss.drop (k + 1)) n:=by
  obtain ⟨h,rfl⟩:=List.getElem?_eq_some_iff.1 hx
  rw [List.drop_eq_getElem_cons h]
  unfold fS
  rw [List.find?_cons]
  by_cases hn:n=ss[k].nm
  · simp [hn]
  · simp [hn,show ¬ ss[k].nm=n from fun e=>hn e.symm]
theorem fEn_step {ss:List En} {k:Nat} {x:En} (hx:ss[k]? = some x) (n:ByteArray):fEn (ss.drop k) n=bif decide (n=x.nm) then some x else fEn (ss.drop (k + 1)) n:=by
  obtain ⟨h,rfl⟩:=List.getElem?_eq_some_iff.1 hx
  rw [List.drop_eq_getElem_cons h]
  unfold fEn
  rw [List.find?_cons]
  by_cases hn:n=ss[k].nm
  · simp [hn]
  · simp [hn,show ¬ ss[k].nm=n from fun e=>hn e.symm]
def ioSp:W.Spec:=fun av H K=>∃ s:Sc,av=[.va (.gs (scC s))]/\H=[]/\s.ok/\∀ ks vs ks' vs',IxS ks vs s.ss->IxE ks' vs' s.es->K ixV (ixH ks vs ks' vs')
theorem io_use {s:Sc} {K:S->Hp->Prop} (h:s.ok) (hK:∀ ks vs ks' vs',IxS ks vs s.ss->IxE ks' vs' s.es->K ixV (ixH ks vs ks' vs')):ioSp [.va (.gs (scC s))] [] K:=⟨s,rfl,rfl,h,hK⟩
abbrev nm2:B:=.cells [.vl (.map none),.vl (.map none)] 81
set_option maxRecDepth 100000 in
theorem mIndexOf:Meets Tryz.prog 34 ioSp:=by
  refine meets_fn Tryz.func34 ok34 1 (by rw [Tryz.ntmps34]; decide) (meetsAll_nil _) (fun av H K h=>by obtain ⟨_,rfl,_⟩:=h; rfl) ?_
  rintro av H K ⟨s,rfl,rfl,hs,hK⟩
  obtain ⟨_,hle,hls,_,_⟩:=hs
  simp -dsimp only [go_sem,scC,pc34,rs34]
  refine ⟨by omega,vc_loop (α:=Nat × List ByteArray × List St) (fun z=>[(1,.va (.c1 (.pt 0 0))),(2,.va (.c1 (.pt 1 0))),(3,.va (.c1 (.pt 4 0))),(4,iS .i64 ((z.1:Int) - 1))]) (fun z=>[.cells (scC s) 25,nm2,.map .string (nmK z.2.1) (z.2.2.map stA),.map .string [] [],.cells [.mp 2,.mp 3] 81])
    (fun z=>z.1<=s.ss.length/\z.2.1.length=z.2.2.length/\∀ n,mget (nmK z.2.1) (z.2.2.map stA) (.string n)=(fS (s.ss.drop z.1) n).map stA) (fun z=>z.1) (s.ss.length,[],[]) 5 ⟨Nat.le_refl _,rfl,fun n=>by rw [List.drop_length]; rfl⟩ ?_ ?_ ?_⟩
  · simp -dsimp only [go_sem]<;>simp
  · simp -dsimp only [go_sem,scC]<;>simp
  rintro ⟨m,ns,l⟩ ⟨hm,hnl,hg⟩
  simp only at hm hnl hg ⊢
  cases m with
  | zero=>
    have e0:decide (0<=((0:Nat):Int) - 1)=false:=rfl
    rw [List.drop_zero] at hg
    simp -dsimp only [go_sem,scC,e0]
    refine ⟨by omega,vc_loop (α:=Nat × List ByteArray × List En) (fun z=>[(1,.va (.c1 (.pt 0 0))),(2,.va (.c1 (.pt 1 0))),(3,.va (.c1 (.pt 4 0))),(5,iS .i64 ((z.1:Int) - 1))]) (fun z=>[.cells (scC s) 25,nm2,.map .string (nmK ns) (l.map stA),.map .string (nmK z.2.1) (z.2.2.map enA),.cells [.mp 2,.mp 3] 81])
      (fun z=>z.1<=s.es.length/\z.2.1.length=z.2.2.length/\∀ n,mget (nmK z.2.1) (z.2.2.map enA) (.string n)=(fEn (s.es.drop z.1) n).map enA) (fun z=>z.1) (s.es.length,[],[]) 5 ⟨Nat.le_refl _,rfl,fun n=>by rw [List.drop_length]; rfl⟩ ?_ ?_ ?_⟩
    · simp -dsimp only [go_sem]<;>simp
    · simp -dsimp only [go_sem,scC]<;>simp
    clear hnl hm
    rintro ⟨m,ms,j⟩ ⟨hm,hnl,hge⟩
    simp only at hm hnl hge ⊢
    cases m with
    | zero=>
      rw [List.drop_zero] at hge
      simp -dsimp only [go_sem,scC,e0]
      exact .sel [2,3] (by simp) (by simp) rfl (.done (by simp -dsimp only [go_sem]; simpa [go_sem] using hK (nmK ns) l (nmK ms) j hg hge))
    | succ k=>
      obtain ⟨x,hx⟩:∃ x,s.es[k]? = some x:=⟨_,List.getElem?_eq_getElem (by omega)⟩
      have q2:=row_rg' (row:=enC) hx
      have e1:((k + 1:Nat):Int) - 1=(k:Int):=by omega
      have e2:decide (0<=(k:Int))=true:=by simp
      obtain ⟨ns',l',p1,p2,p3,p4⟩:=put_ex enA hnl x.nm x
      simp -dsimp only [go_sem,scC,e1,e2,↓q2,enC]
      refine ⟨by omega,by omega,by omega,loop_next (k,ns',l') 5 ⟨by simp only; omega,p3,fun n=>?_⟩ (Nat.lt_succ_self _) ?_ ?_⟩
      · simp only; rw [p4,fEn_step hx,hge]; cases decide (n=x.nm)<;>rfl
      · simp -dsimp only [go_sem]<;>simp
      · simp -dsimp only [go_sem,scC,p1]<;>simp
        exact (congrArg (List.map (A.ren (san 5))) p2).trans (enA_ren _ _)
  | succ k=>
    obtain ⟨x,hx⟩:∃ x,s.ss[k]? = some x:=⟨_,List.getElem?_eq_getElem (by omega)⟩
    have q2:=row_rg' (row:=stC) hx
    have e1:((k + 1:Nat):Int) - 1=(k:Int):=by omega
    have e2:decide (0<=(k:Int))=true:=by simp
    obtain ⟨ns',l',p1,p2,p3,p4⟩:=put_ex stA hnl x.nm x
    simp -dsimp only [go_sem,scC,e1,e2,↓q2,stC]
    refine ⟨by omega,by omega,by omega,loop_next (k,ns',l') 5 ⟨by simp only; omega,p3,fun n=>?_⟩ (Nat.lt_succ_self _) ?_ ?_⟩
    · simp only; rw [p4,fS_step hx,hg]; cases decide (n=x.nm)<;>rfl
    · simp -dsimp only [go_sem]<;>simp
    · simp -dsimp only [go_sem,scC,p1]<;>simp
      exact (congrArg (List.map (A.ren (san 5))) p2).trans (stA_ren _ _)
end Go.Proofs.YtbcnggkldclemaaGreat
namespace Go.Proofs.YtbcnggkldclemaaGreat
open Go.W
def pc13:PC:=.seq (.reg [⟨some 2,none,.e (.bx 25 (.t 0))⟩,⟨some 4,none,.e (.al (.agg #[(.string (mk [])),(.slice none 0 0)]) 45)⟩,⟨some 5,none,.q (.mv (.k (.bool false)))⟩]) (.seq (.seq (.reg [⟨some 8,none,.q (.fa 2 (.t 2))⟩,⟨some 9,none,.l (.ld1 (.t 8))⟩,⟨some 10,none,.q (.lnL (.t 9))⟩,⟨some 11,none,.q (.mv (.k (.int .i64 0)))⟩]) (.block 0 (.loop (.seq (.reg [⟨some 12,none,.q (.bin .lss true (.t 11) (.t 10))⟩]) (.seq (.cond (.t 12) .skip (.exit 0)) (.seq (.block 1 (.seq (.reg [⟨some 13,none,.l (.ia 2 (.t 9) (.t 11))⟩,⟨some 14,none,.l (.ldn 2 (.t 13))⟩,⟨some 7,none,.e (.al (.agg #[(.string (mk [])),(.slice none 0 0)]) 45)⟩,⟨none,none,.e (.st 2 (.t 7) (.t 14))⟩]) (.seq (.reg [⟨some 15,none,.q (.fa 0 (.t 7))⟩,⟨some 16,none,.l (.ld1 (.t 15))⟩,⟨some 17,none,.q (.mv (.t 1))⟩,⟨some 18,none,.q (.bin .eql true (.t 16) (.t 17))⟩]) (.cond (.t 18) (.seq (.reg [⟨some 19,none,.l (.ldn 2 (.t 7))⟩,⟨some 20,none,.cl 30 [(.t 19)] []⟩,⟨none,none,.e (.st 2 (.t 4) (.t 20))⟩,⟨some 5,none,.q (.mv (.k (.bool true)))⟩]) .ret) .skip)))) (.reg [⟨some 21,none,.q (.bin .add true (.t 11) (.k (.int .i64 1)))⟩,⟨some 11,none,.q (.mv (.t 21))⟩]))))))) (.seq (.reg [⟨some 22,none,.q (.bd [(.string (mk [])),(.slice none 0 0)] [])⟩,⟨none,none,.e (.st 2 (.t 4) (.t 22))⟩,⟨some 5,none,.q (.mv (.k (.bool false)))⟩]) .ret))
def rs13:List RV:=[.ld (.ldn 2 (.t 4)),.mv (.t 5)]
theorem ok13:trFn Tryz.prog true ⟨fun _ _=>.own [],fun _=>false⟩ Tryz.f13=some (pc13,rs13):=by kernel_rfl
def pc14:PC:=.seq (.reg [⟨some 1,none,.e (.bx 25 (.t 0))⟩,⟨some 2,none,.q (.mv (.k (.int .i64 0)))⟩]) (.seq (.seq (.reg [⟨some 13,none,.q (.fa 0 (.t 1))⟩,⟨some 14,none,.l (.ld1 (.t 13))⟩,⟨some 15,none,.q (.bin .lss true (.t 14) (.k (.int .i64 1)))⟩,⟨some 16,none,.q (.mv (.t 15))⟩,⟨some 17,(some (16,false)),.q (.fa 0 (.t 1))⟩,⟨some 18,(some (16,false)),.l (.ld1 (.t 17))⟩,⟨some 19,(some (16,false)),.q (.bin .gtr true (.t 18) (.k (.int .i64 999)))⟩,⟨some 20,none,.pick (.t 16) (.k (.bool true)) (.t 19)⟩]) (.cond (.t 20) (.seq (.reg [⟨some 2,none,.q (.mv (.k (.int .i64 4)))⟩]) .ret) .skip)) (.seq (.seq (.reg [⟨some 21,none,.l (.ldn 3 (.t 1))⟩,⟨some 22,none,.cq 31 [(.t 21)]⟩]) (.cond (.t 22) (.seq (.reg [⟨some 2,none,.q (.mv (.k (.int .i64 3)))⟩]) .ret) .skip)) (.seq (.seq (.reg [⟨some 23,none,.q (.fa 1 (.t 1))⟩,⟨some 24,none,.l (.ld1 (.t 23))⟩,⟨some 25,none,.q (.lnL (.t 24))⟩,⟨some 26,none,.q (.mv (.k (.int .i64 0)))⟩]) (.block 0 (.loop (.seq (.reg [⟨some 27,none,.q (.bin .lss true (.t 26) (.t 25))⟩]) (.seq (.cond (.t 27) .skip (.exit 0)) (.seq (.block 1 (.seq (.reg [⟨some 28,none,.q (.mv (.t 26))⟩,⟨some 29,none,.l (.ia 3 (.t 24) (.t 26))⟩,⟨some 30,none,.l (.ldn 3 (.t 29))⟩,⟨some 4,none,.e (.al (.agg #[(.string (mk [])),(.slice none 0 0),(.slice none 0 0)]) 60)⟩,⟨some 3,none,.q (.mv (.t 28))⟩,⟨none,none,.e (.st 3 (.t 4) (.t 30))⟩]) (.seq (.seq (.reg [⟨some 31,none,.q (.fa 0 (.t 4))⟩,⟨some 32,none,.l (.ld1 (.t 31))⟩,⟨some 33,none,.cq 32 [(.t 32)]⟩,⟨some 34,none,.q (.not (.t 33))⟩]) (.cond (.t 34) (.seq (.reg [⟨some 2,none,.q (.mv (.k (.int .i64 5)))⟩]) .ret) .skip)) (.seq (.seq (.reg [⟨some 35,none,.q (.fa 1 (.t 1))⟩,⟨some 36,none,.l (.ld1 (.t 35))⟩,⟨some 37,none,.q (.mv (.t 3))⟩,⟨some 38,none,.q (.sf 3 (.t 36) none (some (.t 37)))⟩,⟨some 39,none,.q (.lnL (.t 38))⟩,⟨some 40,none,.q (.mv (.k (.int .i64 0)))⟩]) (.block 2 (.loop (.seq (.reg [⟨some 41,none,.q (.bin .lss true (.t 40) (.t 39))⟩]) (.seq (.cond (.t 41) .skip (.exit 2)) (.seq (.block 3 (.seq (.reg [⟨some 42,none,.l (.ia 3 (.t 38) (.t 40))⟩,⟨some 43,none,.l (.ldn 3 (.t 42))⟩,⟨some 6,none,.e (.al (.agg #[(.string (mk [])),(.slice none 0 0),(.slice none 0 0)]) 60)⟩,⟨none,none,.e (.st 3 (.t 6) (.t 43))⟩]) (.seq (.reg [⟨some 44,none,.q (.fa 0 (.t 6))⟩,⟨some 45,none,.l (.ld1 (.t 44))⟩,⟨some 46,none,.q (.fa 0 (.t 4))⟩,⟨some 47,none,.l (.ld1 (.t 46))⟩,⟨some 48,none,.q (.bin .eql true (.t 45) (.t 47))⟩]) (.cond (.t 48) (.seq (.reg [⟨some 2,none,.q (.mv (.k (.int .i64 7)))⟩]) .ret) .skip)))) (.reg [⟨some 49,none,.q (.bin .add true (.t 40) (.k (.int .i64 1)))⟩,⟨some 40,none,.q (.mv (.t 49))⟩]))))))) (.seq (.reg [⟨some 50,none,.l (.ldn 3 (.t 4))⟩,⟨some 51,none,.cq 33 [(.t 50)]⟩,⟨some 7,none,.q (.mv (.t 51))⟩]) (.seq (.reg [⟨some 52,none,.q (.mv (.t 7))⟩,⟨some 53,none,.q (.bin .neq true (.t 52) (.k (.int .i64 0)))⟩]) (.cond (.t 53) (.seq (.reg [⟨some 54,none,.q (.mv (.t 7))⟩,⟨some 2,none,.q (.mv (.t 54))⟩]) .ret) .skip))))))) (.reg [⟨some 55,none,.q (.bin .add true (.t 26) (.k (.int .i64 1)))⟩,⟨some 26,none,.q (.mv (.t 55))⟩]))))))) (.seq (.reg [⟨some 56,none,.l (.ldn 3 (.t 1))⟩,⟨some 57,none,.cl 34 [(.t 56)] []⟩,⟨some 8,none,.e (.al (.agg #[(.map none),(.map none)]) 81)⟩,⟨none,none,.e (.st 2 (.t 8) (.t 57))⟩]) (.seq (.seq (.reg [⟨some 58,none,.q (.fa 2 (.t 1))⟩,⟨some 59,none,.l (.ld1 (.t 58))⟩,⟨some 60,none,.q (.lnL (.t 59))⟩,⟨some 61,none,.q (.mv (.k (.int .i64 0)))⟩]) (.block 4 (.loop (.seq (.reg [⟨some 62,none,.q (.bin .lss true (.t 61) (.t 60))⟩]) (.seq (.cond (.t 62) .skip (.exit 4)) (.seq (.block 5 (.seq (.reg [⟨some 63,none,.q (.mv (.t 61))⟩,⟨some 64,none,.l (.ia 2 (.t 59) (.t 61))⟩,⟨some 65,none,.l (.ldn 2 (.t 64))⟩,⟨some 10,none,.e (.al (.agg #[(.string (mk [])),(.slice none 0 0)]) 45)⟩,⟨some 9,none,.q (.mv (.t 63))⟩,⟨none,none,.e (.st 2 (.t 10) (.t 65))⟩]) (.seq (.seq (.reg [⟨some 66,none,.l (.ldn 3 (.t 1))⟩,⟨some 67,none,.q (.mv (.t 9))⟩,⟨some 68,none,.q (.fa 0 (.t 10))⟩,⟨some 69,none,.l (.ld1 (.t 68))⟩,⟨some 70,none,.cq 35 [(.t 66),(.t 67),(.t 69)]⟩,⟨some 11,none,.q (.mv (.t 70))⟩]) (.seq (.reg [⟨some 71,none,.q (.mv (.t 11))⟩,⟨some 72,none,.q (.bin .neq true (.t 71) (.k (.int .i64 0)))⟩]) (.cond (.t 72) (.seq (.reg [⟨some 73,none,.q (.mv (.t 11))⟩,⟨some 2,none,.q (.mv (.t 73))⟩]) .ret) .skip))) (.seq (.reg [⟨some 74,none,.l (.ldn 2 (.t 8))⟩,⟨some 75,none,.l (.ldn 2 (.t 10))⟩,⟨some 76,none,.cl 36 [(.t 74),(.t 75)] [1,2]⟩,⟨some 12,none,.q (.mv (.t 76))⟩]) (.seq (.reg [⟨some 77,none,.q (.mv (.t 12))⟩,⟨some 78,none,.q (.bin .neq true (.t 77) (.k (.int .i64 0)))⟩]) (.cond (.t 78) (.seq (.reg [⟨some 79,none,.q (.mv (.t 12))⟩,⟨some 2,none,.q (.mv (.t 79))⟩]) .ret) .skip)))))) (.reg [⟨some 80,none,.q (.bin .add true (.t 61) (.k (.int .i64 1)))⟩,⟨some 61,none,.q (.mv (.t 80))⟩]))))))) (.seq (.reg [⟨some 81,none,.l (.ldn 3 (.t 1))⟩,⟨some 82,none,.l (.ldn 2 (.t 8))⟩,⟨some 83,none,.cl 37 [(.t 81),(.t 82)] [1,2]⟩,⟨some 2,none,.q (.mv (.t 83))⟩]) .ret))))))
def rs14:List RV:=[.mv (.t 2)]
theorem ok14:trFn Tryz.prog true ⟨fun r k=>if r=3/\k=1 then .q else if r=8/\k=2 then .q else if r=16/\k=1 then .q else if r=24/\k=4 then .q else if r=27/\k=2 then .own [1,2] else if r=31/\k=2 then .own [1,2] else .own [],fun _=>false⟩ Tryz.f14=some (pc14,rs14):=by kernel_rfl
def pc24:PC:=.seq (.reg [⟨some 2,none,.e (.bx 25 (.t 0))⟩,⟨some 4,none,.e (.al (.agg #[(.string (mk [])),(.slice none 0 0),(.slice none 0 0)]) 60)⟩,⟨some 5,none,.q (.mv (.k (.bool false)))⟩]) (.seq (.seq (.reg [⟨some 8,none,.q (.fa 1 (.t 2))⟩,⟨some 9,none,.l (.ld1 (.t 8))⟩,⟨some 10,none,.q (.lnL (.t 9))⟩,⟨some 11,none,.q (.mv (.k (.int .i64 0)))⟩]) (.block 0 (.loop (.seq (.reg [⟨some 12,none,.q (.bin .lss true (.t 11) (.t 10))⟩]) (.seq (.cond (.t 12) .skip (.exit 0)) (.seq (.block 1 (.seq (.reg [⟨some 13,none,.l (.ia 3 (.t 9) (.t 11))⟩,⟨some 14,none,.l (.ldn 3 (.t 13))⟩,⟨some 7,none,.e (.al (.agg #[(.string (mk [])),(.slice none 0 0),(.slice none 0 0)]) 60)⟩,⟨none,none,.e (.st 3 (.t 7) (.t 14))⟩]) (.seq (.reg [⟨some 15,none,.q (.fa 0 (.t 7))⟩,⟨some 16,none,.l (.ld1 (.t 15))⟩,⟨some 17,none,.q (.mv (.t 1))⟩,⟨some 18,none,.q (.bin .eql true (.t 16) (.t 17))⟩]) (.cond (.t 18) (.seq (.ord  [.q ⟨some 19,none,.q (.fa 0 (.t 7))⟩,.q ⟨some 20,none,.l (.ld1 (.t 19))⟩,.q ⟨some 21,none,.q (.fa 1 (.t 7))⟩,.q ⟨some 22,none,.l (.ld1 (.t 21))⟩,.q ⟨some 24,none,.q (.fa 2 (.t 7))⟩,.q ⟨some 25,none,.l (.ld1 (.t 24))⟩,.m ⟨some 23,none,.cl 52 [(.t 22)] []⟩,.rc ⟨some 19,none,.q (.fa 0 (.t 7))⟩,.rc ⟨some 20,none,.l (.ld1 (.t 19))⟩,.rc ⟨some 24,none,.q (.fa 2 (.t 7))⟩,.rc ⟨some 25,none,.l (.ld1 (.t 24))⟩,.m ⟨some 26,none,.cl 53 [(.t 25)] []⟩,.rc ⟨some 19,none,.q (.fa 0 (.t 7))⟩,.rc ⟨some 20,none,.l (.ld1 (.t 19))⟩,.q ⟨some 27,none,.q (.bd [(.string (mk [])),(.slice none 0 0),(.slice none 0 0)] [(0,1,(.t 20)),(1,1,(.t 23)),(2,1,(.t 26))])⟩,.m ⟨none,none,.e (.st 3 (.t 4) (.t 27))⟩,.m ⟨some 5,none,.q (.mv (.k (.bool true)))⟩]) .ret) .skip)))) (.reg [⟨some 28,none,.q (.bin .add true (.t 11) (.k (.int .i64 1)))⟩,⟨some 11,none,.q (.mv (.t 28))⟩]))))))) (.seq (.reg [⟨some 29,none,.q (.bd [(.string (mk [])),(.slice none 0 0),(.slice none 0 0)] [])⟩,⟨none,none,.e (.st 3 (.t 4) (.t 29))⟩,⟨some 5,none,.q (.mv (.k (.bool false)))⟩]) .ret))
def rs24:List RV:=[.ld (.ldn 3 (.t 4)),.mv (.t 5)]
theorem ok24:trFn Tryz.prog true ⟨fun _ _=>.own [],fun _=>false⟩ Tryz.f24=some (pc24,rs24):=by kernel_rfl
def pc30:PC:=.seq (.reg [⟨some 1,none,.e (.bx 45 (.t 0))⟩,⟨some 2,none,.e (.al (.agg #[(.string (mk [])),(.slice none 0 0)]) 45)⟩]) (.seq (.reg [⟨some 6,none,.q (.fa 0 (.t 1))⟩,⟨some 7,none,.l (.ld1 (.t 6))⟩,⟨some 8,none,.q (.bd [(.string (mk [])),(.slice none 0 0)] [(0,1,(.t 7))])⟩,⟨some 3,none,.e (.al (.agg #[(.string (mk [])),(.slice none 0 0)]) 45)⟩,⟨none,none,.e (.st 2 (.t 3) (.t 8))⟩]) (.seq (.seq (.reg [⟨some 9,none,.q (.fa 1 (.t 1))⟩,⟨some 10,none,.l (.ld1 (.t 9))⟩,⟨some 11,none,.q (.lnL (.t 10))⟩,⟨some 12,none,.q (.mv (.k (.int .i64 0)))⟩]) (.block 0 (.loop (.seq (.reg [⟨some 13,none,.q (.bin .lss true (.t 12) (.t 11))⟩]) (.seq (.cond (.t 13) .skip (.exit 0)) (.seq (.block 1 (.seq (.reg [⟨some 14,none,.l (.ia 7 (.t 10) (.t 12))⟩,⟨some 15,none,.l (.ldn 7 (.t 14))⟩,⟨some 5,none,.e (.al (.agg #[(.int .i64 0),(.string (mk [])),(.int .i64 0),(.int .i64 0),(.string (mk [])),(.slice none 0 0),(.bool false)]) 42)⟩,⟨none,none,.e (.st 7 (.t 5) (.t 15))⟩]) (.ord  [.q ⟨some 16,none,.q (.fa 1 (.t 3))⟩,.q ⟨some 17,none,.l (.ld1 (.t 16))⟩,.q ⟨some 18,none,.l (.ldn 7 (.t 5))⟩,.m ⟨some 19,none,.cl 58 [(.t 18)] []⟩,.rc ⟨some 16,none,.q (.fa 1 (.t 3))⟩,.rc ⟨some 17,none,.l (.ld1 (.t 16))⟩,.m ⟨some 20,none,.e (.bsl 42 7 [(.t 19)])⟩,.rc ⟨some 16,none,.q (.fa 1 (.t 3))⟩,.rc ⟨some 17,none,.l (.ld1 (.t 16))⟩,.m ⟨some 21,none,.e (.ap 42 7 88 (.t 17) (.t 20))⟩,.q ⟨some 22,none,.q (.fa 1 (.t 3))⟩,.m ⟨none,none,.e (.st 1 (.t 22) (.t 21))⟩]))) (.reg [⟨some 23,none,.q (.bin .add true (.t 12) (.k (.int .i64 1)))⟩,⟨some 12,none,.q (.mv (.t 23))⟩]))))))) (.seq (.reg [⟨some 24,none,.l (.ldn 2 (.t 3))⟩,⟨none,none,.e (.st 2 (.t 2) (.t 24))⟩]) .ret)))
def rs30:List RV:=[.ld (.ldn 2 (.t 2))]
theorem ok30:trFn Tryz.prog true ⟨fun _ _=>.own [],fun _=>false⟩ Tryz.f30=some (pc30,rs30):=by kernel_rfl
def pc37:PC:=.seq (.reg [⟨some 2,none,.e (.bx 25 (.t 0))⟩,⟨some 3,none,.e (.bx 81 (.t 1))⟩,⟨some 4,none,.q (.mv (.k (.int .i64 0)))⟩]) (.seq (.seq (.reg [⟨some 9,none,.q (.fa 2 (.t 2))⟩,⟨some 10,none,.l (.ld1 (.t 9))⟩,⟨some 11,none,.q (.lnL (.t 10))⟩,⟨some 12,none,.q (.mv (.k (.int .i64 0)))⟩]) (.block 0 (.loop (.seq (.reg [⟨some 13,none,.q (.bin .lss true (.t 12) (.t 11))⟩]) (.seq (.cond (.t 13) .skip (.exit 0)) (.seq (.block 1 (.seq (.reg [⟨some 14,none,.l (.ia 2 (.t 10) (.t 12))⟩,⟨some 15,none,.l (.ldn 2 (.t 14))⟩,⟨some 6,none,.e (.al (.agg #[(.string (mk [])),(.slice none 0 0)]) 45)⟩,⟨none,none,.e (.st 2 (.t 6) (.t 15))⟩]) (.seq (.ord  [.q ⟨some 16,none,.l (.ldn 2 (.t 3))⟩,.q ⟨some 17,none,.q (.fa 0 (.t 6))⟩,.q ⟨some 18,none,.l (.ld1 (.t 17))⟩,.q ⟨some 20,none,.q (.fa 0 (.t 6))⟩,.q ⟨some 21,none,.l (.ld1 (.t 20))⟩,.m ⟨some 19,none,.cl 61 [(.t 16),(.t 18)] [0,1]⟩,.rc ⟨some 20,none,.q (.fa 0 (.t 6))⟩,.rc ⟨some 21,none,.l (.ld1 (.t 20))⟩,.m ⟨some 22,none,.cq 50 [(.t 19),(.t 21)]⟩]) (.cond (.t 22) (.seq (.reg [⟨some 4,none,.q (.mv (.k (.int .i64 19)))⟩]) .ret) .skip)))) (.reg [⟨some 23,none,.q (.bin .add true (.t 12) (.k (.int .i64 1)))⟩,⟨some 12,none,.q (.mv (.t 23))⟩]))))))) (.seq (.seq (.reg [⟨some 24,none,.q (.fa 2 (.t 2))⟩,⟨some 25,none,.l (.ld1 (.t 24))⟩,⟨some 26,none,.q (.lnL (.t 25))⟩,⟨some 27,none,.q (.mv (.k (.int .i64 0)))⟩]) (.block 2 (.loop (.seq (.reg [⟨some 28,none,.q (.bin .lss true (.t 27) (.t 26))⟩]) (.seq (.cond (.t 28) .skip (.exit 2)) (.seq (.block 3 (.seq (.reg [⟨some 29,none,.l (.ia 2 (.t 25) (.t 27))⟩,⟨some 30,none,.l (.ldn 2 (.t 29))⟩,⟨some 8,none,.e (.al (.agg #[(.string (mk [])),(.slice none 0 0)]) 45)⟩,⟨none,none,.e (.st 2 (.t 8) (.t 30))⟩]) (.seq (.reg [⟨some 31,none,.l (.ldn 2 (.t 3))⟩,⟨some 32,none,.l (.ldn 2 (.t 8))⟩,⟨some 33,none,.cl 62 [(.t 31),(.t 32)] [0,1]⟩,⟨some 34,none,.q (.bin .gtr true (.t 33) (.k (.int .i64 6)))⟩]) (.cond (.t 34) (.seq (.reg [⟨some 4,none,.q (.mv (.k (.int .i64 9)))⟩]) .ret) .skip)))) (.reg [⟨some 35,none,.q (.bin .add true (.t 27) (.k (.int .i64 1)))⟩,⟨some 27,none,.q (.mv (.t 35))⟩]))))))) (.seq (.reg [⟨some 4,none,.q (.mv (.k (.int .i64 0)))⟩]) .ret)))
def rs37:List RV:=[.mv (.t 4)]
theorem ok37:trFn Tryz.prog true ⟨fun r k=>if r=4/\k=3 then .own [0,1] else if r=4/\k=6 then .q else if r=10/\k=2 then .own [0,1] else .own [],fun _=>false⟩ Tryz.f37=some (pc37,rs37):=by kernel_rfl
def pc38:PC:=.seq (.reg [⟨some 2,none,.e (.bx 45 (.t 0))⟩,⟨some 4,none,.e (.al (.agg #[(.int .i64 0),(.string (mk [])),(.int .i64 0),(.int .i64 0),(.string (mk [])),(.slice none 0 0),(.bool false)]) 42)⟩,⟨some 5,none,.q (.mv (.k (.bool false)))⟩]) (.seq (.seq (.reg [⟨some 8,none,.q (.fa 1 (.t 2))⟩,⟨some 9,none,.l (.ld1 (.t 8))⟩,⟨some 10,none,.q (.lnL (.t 9))⟩,⟨some 11,none,.q (.mv (.k (.int .i64 0)))⟩]) (.block 0 (.loop (.seq (.reg [⟨some 12,none,.q (.bin .lss true (.t 11) (.t 10))⟩]) (.seq (.cond (.t 12) .skip (.exit 0)) (.seq (.block 1 (.seq (.reg [⟨some 13,none,.l (.ia 7 (.t 9) (.t 11))⟩,⟨some 14,none,.l (.ldn 7 (.t 13))⟩,⟨some 7,none,.e (.al (.agg #[(.int .i64 0),(.string (mk [])),(.int .i64 0),(.int .i64 0),(.string (mk [])),(.slice none 0 0),(.bool false)]) 42)⟩,⟨none,none,.e (.st 7 (.t 7) (.t 14))⟩]) (.seq (.reg [⟨some 15,none,.q (.fa 0 (.t 7))⟩,⟨some 16,none,.l (.ld1 (.t 15))⟩,⟨some 17,none,.q (.mv (.t 1))⟩,⟨some 18,none,.q (.bin .eql true (.t 16) (.t 17))⟩]) (.cond (.t 18) (.seq (.reg [⟨some 19,none,.l (.ldn 7 (.t 7))⟩,⟨some 20,none,.cl 58 [(.t 19)] []⟩,⟨none,none,.e (.st 7 (.t 4) (.t 20))⟩,⟨some 5,none,.q (.mv (.k (.bool true)))⟩]) .ret) .skip)))) (.reg [⟨some 21,none,.q (.bin .add true (.t 11) (.k (.int .i64 1)))⟩,⟨some 11,none,.q (.mv (.t 21))⟩]))))))) (.seq (.reg [⟨some 22,none,.q (.bd [(.int .i64 0),(.string (mk [])),(.int .i64 0),(.int .i64 0),(.string (mk [])),(.slice none 0 0),(.bool false)] [])⟩,⟨none,none,.e (.st 7 (.t 4) (.t 22))⟩,⟨some 5,none,.q (.mv (.k (.bool false)))⟩]) .ret))
def rs38:List RV:=[.ld (.ldn 7 (.t 4)),.mv (.t 5)]
theorem ok38:trFn Tryz.prog true ⟨fun _ _=>.own [],fun _=>false⟩ Tryz.f38=some (pc38,rs38):=by kernel_rfl
def pc49:PC:=.seq (.reg [⟨some 2,none,.e (.bx 25 (.t 0))⟩,⟨some 4,none,.q (.mv (.k (.slice none 0 0)))⟩]) (.seq (.reg [⟨some 8,none,.l (.ldn 3 (.t 2))⟩,⟨some 9,none,.q (.mv (.t 1))⟩,⟨some 10,none,.cl 70 [(.t 8),(.t 9)] []⟩,⟨some 7,none,.q (.mv (.t 10))⟩,⟨some 11,none,.q (.ex (.t 7) 0)⟩,⟨some 12,none,.q (.ex (.t 7) 1)⟩,⟨some 5,none,.e (.al (.agg #[(.map none),(.map none)]) 81)⟩,⟨none,none,.e (.st 2 (.t 5) (.t 11))⟩,⟨some 6,none,.q (.mv (.t 12))⟩]) (.seq (.seq (.reg [⟨some 13,none,.q (.mv (.t 6))⟩,⟨some 14,none,.q (.not (.t 13))⟩]) (.cond (.t 14) (.seq (.reg [⟨some 4,none,.q (.mv (.k (.slice none 0 0)))⟩]) .ret) .skip)) (.seq (.reg [⟨some 15,none,.l (.ldn 2 (.t 5))⟩,⟨some 16,none,.q (.mv (.t 1))⟩,⟨some 17,none,.cl 61 [(.t 15),(.t 16)] [1,2]⟩,⟨some 4,none,.q (.mv (.t 17))⟩]) .ret)))
def rs49:List RV:=[.mv (.t 4)]
theorem ok49:trFn Tryz.prog true ⟨fun r k=>if r=4/\k=2 then .own [1,2] else .own [],fun _=>false⟩ Tryz.f49=some (pc49,rs49):=by kernel_rfl
def pc58:PC:=.seq (.reg [⟨some 1,none,.e (.bx 42 (.t 0))⟩,⟨some 2,none,.e (.al (.agg #[(.int .i64 0),(.string (mk [])),(.int .i64 0),(.int .i64 0),(.string (mk [])),(.slice none 0 0),(.bool false)]) 42)⟩]) (.seq (.reg [⟨some 3,none,.q (.fa 2 (.t 1))⟩,⟨some 4,none,.l (.ldn 4 (.t 3))⟩,⟨some 5,none,.cl 84 [(.t 4)] []⟩,⟨some 6,none,.q (.fa 2 (.t 1))⟩,⟨none,none,.e (.st 4 (.t 6) (.t 5))⟩]) (.seq (.reg [⟨some 7,none,.l (.ldn 7 (.t 1))⟩,⟨none,none,.e (.st 7 (.t 2) (.t 7))⟩]) .ret))
def rs58:List RV:=[.ld (.ldn 7 (.t 2))]
theorem ok58:trFn Tryz.prog true ⟨fun _ _=>.own [],fun _=>false⟩ Tryz.f58=some (pc58,rs58):=by kernel_rfl
def pc61:PC:=.seq (.reg [⟨some 2,none,.e (.bx 81 (.t 0))⟩,⟨some 4,none,.q (.mv (.k (.slice none 0 0)))⟩]) (.seq (.reg [⟨some 8,none,.e (.mm .string)⟩,⟨some 5,none,.e (.al (.map none) 127)⟩,⟨none,none,.e (.st 1 (.t 5) (.t 8))⟩]) (.seq (.reg [⟨some 6,none,.e (.al (.slice none 0 0) 57)⟩]) (.seq (.reg [⟨some 7,none,.e (.al .nilFunc 128)⟩]) (.seq (.reg [⟨some 9,none,.q (.mf 86 [(.t 5),(.t 6),(.t 2),(.t 7)])⟩,⟨none,none,.e (.st 1 (.t 7) (.t 9))⟩]) (.seq (.gh (.reg [⟨some 10,none,.l (.ld1 (.t 7))⟩,⟨some 11,none,.q (.fa 0 (.t 2))⟩,⟨some 12,none,.l (.ld1 (.t 11))⟩,⟨some 13,none,.q (.mv (.t 1))⟩,⟨some 14,none,.l (.lk .string (.agg #[(.string (mk [])),(.slice none 0 0)]) false (.t 12) (.t 13))⟩,⟨some 15,none,.ca (.t 10) [(.t 14)] [0,1,2,3,4,5,6,7]⟩])) (.seq (.reg [⟨some 16,none,.l (.ld1 (.t 6))⟩,⟨some 17,none,.cl 88 [(.t 16)] [7]⟩]) (.seq (.reg [⟨some 18,none,.l (.ld1 (.t 6))⟩,⟨some 4,none,.q (.mv (.t 18))⟩]) .ret)))))))
def rs61:List RV:=[.mv (.t 4)]
theorem ok61:trFn Tryz.prog true ⟨fun r k=>if r=5/\k=5 then .own [0,1,2,3,4,5,6,7] else if r=6/\k=1 then .own [7] else .own [],fun r=>[5].contains r⟩ Tryz.f61=some (pc61,rs61):=by kernel_rfl
def pc62:PC:=.seq (.reg [⟨some 2,none,.e (.bx 81 (.t 0))⟩,⟨some 3,none,.e (.bx 45 (.t 1))⟩,⟨some 4,none,.q (.mv (.k (.int .i64 0)))⟩]) (.seq (.reg [⟨some 7,none,.e (.mm .string)⟩,⟨some 5,none,.e (.al (.map none) 132)⟩,⟨none,none,.e (.st 1 (.t 5) (.t 7))⟩]) (.seq (.reg [⟨some 6,none,.e (.al .nilFunc 133)⟩]) (.seq (.reg [⟨some 8,none,.q (.mf 89 [(.t 5),(.t 6),(.t 2)])⟩,⟨none,none,.e (.st 1 (.t 6) (.t 8))⟩]) (.seq (.reg [⟨some 9,none,.l (.ld1 (.t 6))⟩,⟨some 10,none,.l (.ldn 2 (.t 3))⟩,⟨some 11,none,.ca (.t 9) [(.t 10)] [0,1,2,4,5,6]⟩,⟨some 4,none,.q (.mv (.t 11))⟩]) .ret))))
def rs62:List RV:=[.mv (.t 4)]
theorem ok62:trFn Tryz.prog true ⟨fun r k=>if r=4/\k=2 then .own [0,1,2,4,5,6] else .own [],fun _=>false⟩ Tryz.f62=some (pc62,rs62):=by kernel_rfl
def pc70:PC:=.seq (.reg [⟨some 2,none,.e (.bx 25 (.t 0))⟩,⟨some 4,none,.e (.al (.agg #[(.map none),(.map none)]) 81)⟩,⟨some 5,none,.q (.mv (.k (.bool false)))⟩]) (.seq (.seq (.reg [⟨some 9,none,.l (.ldn 3 (.t 2))⟩,⟨some 10,none,.cq 14 [(.t 9)]⟩,⟨some 11,none,.q (.bin .neq true (.t 10) (.k (.int .i64 0)))⟩]) (.cond (.t 11) (.seq (.reg [⟨some 12,none,.q (.bd [(.map none),(.map none)] [])⟩,⟨none,none,.e (.st 2 (.t 4) (.t 12))⟩,⟨some 5,none,.q (.mv (.k (.bool false)))⟩]) .ret) .skip)) (.seq (.reg [⟨some 13,none,.l (.ldn 3 (.t 2))⟩,⟨some 14,none,.cl 34 [(.t 13)] []⟩,⟨some 6,none,.e (.al (.agg #[(.map none),(.map none)]) 81)⟩,⟨none,none,.e (.st 2 (.t 6) (.t 14))⟩]) (.seq (.reg [⟨some 16,none,.q (.fa 0 (.t 6))⟩,⟨some 17,none,.l (.ld1 (.t 16))⟩,⟨some 18,none,.q (.mv (.t 1))⟩,⟨some 19,none,.l (.lk .string (.agg #[(.string (mk [])),(.slice none 0 0)]) true (.t 17) (.t 18))⟩,⟨some 15,none,.q (.mv (.t 19))⟩,⟨some 20,none,.q (.ex (.t 15) 0)⟩,⟨some 21,none,.q (.ex (.t 15) 1)⟩,⟨some 7,none,.e (.al (.agg #[(.string (mk [])),(.slice none 0 0)]) 45)⟩,⟨none,none,.e (.st 2 (.t 7) (.t 20))⟩,⟨some 8,none,.q (.mv (.t 21))⟩]) (.seq (.reg [⟨some 22,none,.l (.ldn 2 (.t 6))⟩,⟨some 23,none,.q (.mv (.t 8))⟩,⟨none,none,.e (.st 2 (.t 4) (.t 22))⟩,⟨some 5,none,.q (.mv (.t 23))⟩]) .ret))))
def rs70:List RV:=[.ld (.ldn 2 (.t 4)),.mv (.t 5)]
theorem ok70:trFn Tryz.prog true ⟨fun r k=>if r=1/\k=1 then .q else .own [],fun _=>false⟩ Tryz.f70=some (pc70,rs70):=by kernel_rfl
def pc72:PC:=.seq (.reg [⟨some 2,none,.e (.bx 40 (.t 0))⟩,⟨some 3,none,.e (.bx 40 (.t 1))⟩,⟨some 4,none,.q (.mv (.k (.bool false)))⟩]) (.seq (.seq (.reg [⟨some 6,none,.q (.fa 0 (.t 2))⟩,⟨some 7,none,.l (.ld1 (.t 6))⟩,⟨some 8,none,.q (.fa 0 (.t 3))⟩,⟨some 9,none,.l (.ld1 (.t 8))⟩,⟨some 10,none,.q (.bin .neq true (.t 7) (.t 9))⟩,⟨some 11,none,.q (.mv (.t 10))⟩,⟨some 12,(some (11,false)),.q (.fa 1 (.t 2))⟩,⟨some 13,(some (11,false)),.l (.ld1 (.t 12))⟩,⟨some 14,(some (11,false)),.q (.fa 1 (.t 3))⟩,⟨some 15,(some (11,false)),.l (.ld1 (.t 14))⟩,⟨some 16,(some (11,false)),.q (.bin .neq true (.t 13) (.t 15))⟩,⟨some 17,none,.pick (.t 11) (.k (.bool true)) (.t 16)⟩,⟨some 18,none,.q (.mv (.t 17))⟩,⟨some 19,(some (18,false)),.q (.fa 2 (.t 2))⟩,⟨some 20,(some (18,false)),.l (.ld1 (.t 19))⟩,⟨some 21,(some (18,false)),.q (.fa 2 (.t 3))⟩,⟨some 22,(some (18,false)),.l (.ld1 (.t 21))⟩,⟨some 23,(some (18,false)),.q (.bin .neq true (.t 20) (.t 22))⟩,⟨some 24,none,.pick (.t 18) (.k (.bool true)) (.t 23)⟩,⟨some 25,none,.q (.mv (.t 24))⟩,⟨some 26,(some (25,false)),.q (.fa 3 (.t 2))⟩,⟨some 27,(some (25,false)),.l (.ld1 (.t 26))⟩,⟨some 28,(some (25,false)),.q (.lnL (.t 27))⟩,⟨some 29,(some (25,false)),.q (.fa 3 (.t 3))⟩,⟨some 30,(some (25,false)),.l (.ld1 (.t 29))⟩,⟨some 31,(some (25,false)),.q (.lnL (.t 30))⟩,⟨some 32,(some (25,false)),.q (.bin .neq true (.t 28) (.t 31))⟩,⟨some 33,none,.pick (.t 25) (.k (.bool true)) (.t 32)⟩]) (.cond (.t 33) (.seq (.reg [⟨some 4,none,.q (.mv (.k (.bool false)))⟩]) .ret) .skip)) (.seq (.seq (.reg [⟨some 34,none,.q (.fa 3 (.t 2))⟩,⟨some 35,none,.l (.ld1 (.t 34))⟩,⟨some 36,none,.q (.lnL (.t 35))⟩,⟨some 37,none,.q (.mv (.k (.int .i64 0)))⟩]) (.block 0 (.loop (.seq (.reg [⟨some 38,none,.q (.bin .lss true (.t 37) (.t 36))⟩]) (.seq (.cond (.t 38) .skip (.exit 0)) (.seq (.block 1 (.seq (.reg [⟨some 39,none,.q (.mv (.t 37))⟩,⟨some 5,none,.q (.mv (.t 39))⟩]) (.seq (.reg [⟨some 40,none,.q (.fa 3 (.t 2))⟩,⟨some 41,none,.l (.ld1 (.t 40))⟩,⟨some 42,none,.q (.mv (.t 5))⟩,⟨some 43,none,.l (.ia 4 (.t 41) (.t 42))⟩,⟨some 44,none,.l (.ldn 4 (.t 43))⟩,⟨some 45,none,.q (.fa 3 (.t 3))⟩,⟨some 46,none,.l (.ld1 (.t 45))⟩,⟨some 47,none,.q (.mv (.t 5))⟩,⟨some 48,none,.l (.ia 4 (.t 46) (.t 47))⟩,⟨some 49,none,.l (.ldn 4 (.t 48))⟩,⟨some 50,none,.cq 72 [(.t 44),(.t 49)]⟩,⟨some 51,none,.q (.not (.t 50))⟩]) (.cond (.t 51) (.seq (.reg [⟨some 4,none,.q (.mv (.k (.bool false)))⟩]) .ret) .skip)))) (.reg [⟨some 52,none,.q (.bin .add true (.t 37) (.k (.int .i64 1)))⟩,⟨some 37,none,.q (.mv (.t 52))⟩]))))))) (.seq (.reg [⟨some 4,none,.q (.mv (.k (.bool true)))⟩]) .ret)))
def rs72:List RV:=[.mv (.t 4)]
theorem ok72:trFn Tryz.prog true ⟨fun r k=>if r=6/\k=10 then .q else .own [],fun _=>false⟩ Tryz.f72=some (pc72,rs72):=by kernel_rfl
def pc84:PC:=.seq (.reg [⟨some 1,none,.e (.bx 40 (.t 0))⟩,⟨some 2,none,.e (.al (.agg #[(.int .i64 0),(.int .i64 0),(.string (mk [])),(.slice none 0 0)]) 40)⟩]) (.seq (.reg [⟨some 6,none,.q (.fa 0 (.t 1))⟩,⟨some 7,none,.l (.ld1 (.t 6))⟩,⟨some 8,none,.q (.fa 1 (.t 1))⟩,⟨some 9,none,.l (.ld1 (.t 8))⟩,⟨some 10,none,.q (.fa 2 (.t 1))⟩,⟨some 11,none,.l (.ld1 (.t 10))⟩,⟨some 12,none,.q (.bd [(.int .i64 0),(.int .i64 0),(.string (mk [])),(.slice none 0 0)] [(0,1,(.t 7)),(1,1,(.t 9)),(2,1,(.t 11))])⟩,⟨some 3,none,.e (.al (.agg #[(.int .i64 0),(.int .i64 0),(.string (mk [])),(.slice none 0 0)]) 40)⟩,⟨none,none,.e (.st 4 (.t 3) (.t 12))⟩]) (.seq (.seq (.reg [⟨some 13,none,.q (.fa 3 (.t 1))⟩,⟨some 14,none,.l (.ld1 (.t 13))⟩,⟨some 15,none,.q (.lnL (.t 14))⟩,⟨some 16,none,.q (.mv (.k (.int .i64 0)))⟩]) (.block 0 (.loop (.seq (.reg [⟨some 17,none,.q (.bin .lss true (.t 16) (.t 15))⟩]) (.seq (.cond (.t 17) .skip (.exit 0)) (.seq (.block 1 (.seq (.reg [⟨some 18,none,.l (.ia 4 (.t 14) (.t 16))⟩,⟨some 19,none,.l (.ldn 4 (.t 18))⟩,⟨some 5,none,.e (.al (.agg #[(.int .i64 0),(.int .i64 0),(.string (mk [])),(.slice none 0 0)]) 40)⟩,⟨none,none,.e (.st 4 (.t 5) (.t 19))⟩]) (.ord  [.q ⟨some 20,none,.q (.fa 3 (.t 3))⟩,.q ⟨some 21,none,.l (.ld1 (.t 20))⟩,.q ⟨some 22,none,.l (.ldn 4 (.t 5))⟩,.m ⟨some 23,none,.cl 84 [(.t 22)] []⟩,.rc ⟨some 20,none,.q (.fa 3 (.t 3))⟩,.rc ⟨some 21,none,.l (.ld1 (.t 20))⟩,.m ⟨some 24,none,.e (.bsl 40 4 [(.t 23)])⟩,.rc ⟨some 20,none,.q (.fa 3 (.t 3))⟩,.rc ⟨some 21,none,.l (.ld1 (.t 20))⟩,.m ⟨some 25,none,.e (.ap 40 4 56 (.t 21) (.t 24))⟩,.q ⟨some 26,none,.q (.fa 3 (.t 3))⟩,.m ⟨none,none,.e (.st 1 (.t 26) (.t 25))⟩]))) (.reg [⟨some 27,none,.q (.bin .add true (.t 16) (.k (.int .i64 1)))⟩,⟨some 16,none,.q (.mv (.t 27))⟩]))))))) (.seq (.reg [⟨some 28,none,.l (.ldn 4 (.t 3))⟩,⟨none,none,.e (.st 4 (.t 2) (.t 28))⟩]) .ret)))
def rs84:List RV:=[.ld (.ldn 4 (.t 2))]
theorem ok84:trFn Tryz.prog true ⟨fun _ _=>.own [],fun _=>false⟩ Tryz.f84=some (pc84,rs84):=by kernel_rfl
def pc86:PC:=.seq (.reg [⟨some 5,none,.e (.bx 45 (.t 0))⟩]) (.seq (.reg [⟨some 12,none,.q (.fa 1 (.t 5))⟩,⟨some 13,none,.l (.ld1 (.t 12))⟩,⟨some 14,none,.q (.lnL (.t 13))⟩,⟨some 15,none,.q (.mv (.k (.int .i64 0)))⟩]) (.block 0 (.loop (.seq (.reg [⟨some 16,none,.q (.bin .lss true (.t 15) (.t 14))⟩]) (.seq (.cond (.t 16) .skip (.exit 0)) (.seq (.block 1 (.seq (.reg [⟨some 17,none,.l (.ia 7 (.t 13) (.t 15))⟩,⟨some 18,none,.l (.ldn 7 (.t 17))⟩,⟨some 7,none,.e (.al (.agg #[(.int .i64 0),(.string (mk [])),(.int .i64 0),(.int .i64 0),(.string (mk [])),(.slice none 0 0),(.bool false)]) 42)⟩,⟨none,none,.e (.st 7 (.t 7) (.t 18))⟩]) (.seq (.reg [⟨some 20,none,.q (.fa 2 (.t 7))⟩,⟨some 21,none,.l (.ldn 4 (.t 20))⟩,⟨some 22,none,.cl 87 [(.t 21)] []⟩,⟨some 19,none,.q (.mv (.t 22))⟩,⟨some 23,none,.q (.ex (.t 19) 0)⟩,⟨some 24,none,.q (.ex (.t 19) 1)⟩,⟨some 8,none,.q (.mv (.t 23))⟩,⟨some 9,none,.q (.mv (.t 24))⟩]) (.seq (.seq (.reg [⟨some 25,none,.q (.mv (.t 9))⟩,⟨some 26,none,.q (.not (.t 25))⟩,⟨some 27,none,.q (.mv (.t 26))⟩,⟨some 28,(some (27,false)),.l (.ld1 (.t 1))⟩,⟨some 29,(some (27,false)),.q (.mv (.t 8))⟩,⟨some 30,(some (27,false)),.l (.lk .string (.bool false) false (.t 28) (.t 29))⟩,⟨some 31,none,.pick (.t 27) (.k (.bool true)) (.t 30)⟩]) (.cond (.t 31) (.exit 1) .skip)) (.seq (.reg [⟨some 32,none,.l (.ld1 (.t 1))⟩,⟨some 33,none,.q (.mv (.t 8))⟩,⟨none,none,.e (.mu .string (.t 32) (.t 33) (.k (.bool true)))⟩]) (.seq (.reg [⟨some 34,none,.l (.ld1 (.t 2))⟩,⟨some 35,none,.q (.mv (.t 8))⟩,⟨some 36,none,.e (.bsl 9 1 [(.t 35)])⟩,⟨some 37,none,.e (.ap 9 1 16 (.t 34) (.t 36))⟩,⟨none,none,.e (.st 1 (.t 2) (.t 37))⟩]) (.seq (.reg [⟨some 39,none,.q (.fa 0 (.t 3))⟩,⟨some 40,none,.l (.ld1 (.t 39))⟩,⟨some 41,none,.q (.mv (.t 8))⟩,⟨some 42,none,.l (.lk .string (.agg #[(.string (mk [])),(.slice none 0 0)]) true (.t 40) (.t 41))⟩,⟨some 38,none,.q (.mv (.t 42))⟩,⟨some 43,none,.q (.ex (.t 38) 0)⟩,⟨some 44,none,.q (.ex (.t 38) 1)⟩,⟨some 10,none,.e (.al (.agg #[(.string (mk [])),(.slice none 0 0)]) 45)⟩,⟨none,none,.e (.st 2 (.t 10) (.t 43))⟩,⟨some 11,none,.q (.mv (.t 44))⟩]) (.seq (.reg [⟨some 45,none,.q (.mv (.t 11))⟩]) (.cond (.t 45) (.reg [⟨some 46,none,.l (.ld1 (.t 4))⟩,⟨some 47,none,.l (.ldn 2 (.t 10))⟩,⟨some 48,none,.ca (.t 46) [(.t 47)] [0,1,2,3,4,5,6,7]⟩]) .skip))))))))) (.reg [⟨some 49,none,.q (.bin .add true (.t 15) (.k (.int .i64 1)))⟩,⟨some 15,none,.q (.mv (.t 49))⟩])))))))
def rs86:List RV:=[]
theorem ok86:trFn Tryz.prog true ⟨fun r k=>if r=10/\k=2 then .own [0,1,2,3,4,5,6,7] else .own [],fun _=>false⟩ Tryz.f86=some (pc86,rs86):=by kernel_rfl
def pc87:PC:=.seq (.reg [⟨some 1,none,.e (.bx 40 (.t 0))⟩,⟨some 2,none,.q (.mv (.k (.string (mk []))))⟩,⟨some 3,none,.q (.mv (.k (.bool false)))⟩]) (.seq (.block 0 (.loop (.seq (.seq (.reg [⟨some 4,none,.q (.fa 0 (.t 1))⟩,⟨some 5,none,.l (.ld1 (.t 4))⟩,⟨some 6,none,.q (.bin .eql true (.t 5) (.k (.int .i64 5)))⟩,⟨some 7,none,.q (.mv (.t 6))⟩,⟨some 8,(some (7,true)),.q (.fa 3 (.t 1))⟩,⟨some 9,(some (7,true)),.l (.ld1 (.t 8))⟩,⟨some 10,(some (7,true)),.q (.lnL (.t 9))⟩,⟨some 11,(some (7,true)),.q (.bin .eql true (.t 10) (.k (.int .i64 1)))⟩,⟨some 12,none,.pick (.t 7) (.t 11) (.k (.bool false))⟩]) (.cond (.t 12) .skip (.exit 0))) (.block 1 (.reg [⟨some 13,none,.q (.fa 3 (.t 1))⟩,⟨some 14,none,.l (.ld1 (.t 13))⟩,⟨some 15,none,.l (.ia 4 (.t 14) (.k (.int .i64 0)))⟩,⟨some 16,none,.l (.ldn 4 (.t 15))⟩,⟨none,none,.e (.st 4 (.t 1) (.t 16))⟩]))))) (.seq (.reg [⟨some 17,none,.q (.fa 2 (.t 1))⟩,⟨some 18,none,.l (.ld1 (.t 17))⟩,⟨some 19,none,.q (.fa 0 (.t 1))⟩,⟨some 20,none,.l (.ld1 (.t 19))⟩,⟨some 21,none,.q (.bin .eql true (.t 20) (.k (.int .i64 6)))⟩,⟨some 22,none,.q (.mv (.t 21))⟩,⟨some 23,(some (22,false)),.q (.fa 0 (.t 1))⟩,⟨some 24,(some (22,false)),.l (.ld1 (.t 23))⟩,⟨some 25,(some (22,false)),.q (.bin .eql true (.t 24) (.k (.int .i64 7)))⟩,⟨some 26,none,.pick (.t 22) (.k (.bool true)) (.t 25)⟩,⟨some 2,none,.q (.mv (.t 18))⟩,⟨some 3,none,.q (.mv (.t 26))⟩]) .ret))
def rs87:List RV:=[.mv (.t 2),.mv (.t 3)]
theorem ok87:trFn Tryz.prog true ⟨fun _ _=>.own [],fun _=>false⟩ Tryz.f87=some (pc87,rs87):=by kernel_rfl
def pc89:PC:=.seq (.reg [⟨some 4,none,.e (.bx 45 (.t 0))⟩,⟨some 5,none,.q (.mv (.k (.int .i64 0)))⟩]) (.seq (.seq (.reg [⟨some 14,none,.l (.ld1 (.t 1))⟩,⟨some 15,none,.q (.fa 0 (.t 4))⟩,⟨some 16,none,.l (.ld1 (.t 15))⟩,⟨some 17,none,.l (.lk .string (.int .i64 0) true (.t 14) (.t 16))⟩,⟨some 13,none,.q (.mv (.t 17))⟩,⟨some 18,none,.q (.ex (.t 13) 0)⟩,⟨some 19,none,.q (.ex (.t 13) 1)⟩,⟨some 6,none,.q (.mv (.t 18))⟩,⟨some 7,none,.q (.mv (.t 19))⟩]) (.seq (.reg [⟨some 20,none,.q (.mv (.t 7))⟩]) (.cond (.t 20) (.seq (.reg [⟨some 21,none,.q (.mv (.t 6))⟩,⟨some 5,none,.q (.mv (.t 21))⟩]) .ret) .skip))) (.seq (.reg [⟨some 8,none,.q (.mv (.k (.int .i64 0)))⟩]) (.seq (.seq (.reg [⟨some 22,none,.q (.fa 1 (.t 4))⟩,⟨some 23,none,.l (.ld1 (.t 22))⟩,⟨some 24,none,.q (.lnL (.t 23))⟩,⟨some 25,none,.q (.mv (.k (.int .i64 0)))⟩]) (.block 0 (.loop (.seq (.reg [⟨some 26,none,.q (.bin .lss true (.t 25) (.t 24))⟩]) (.seq (.cond (.t 26) .skip (.exit 0)) (.seq (.block 1 (.seq (.reg [⟨some 27,none,.l (.ia 7 (.t 23) (.t 25))⟩,⟨some 28,none,.l (.ldn 7 (.t 27))⟩,⟨some 10,none,.e (.al (.agg #[(.int .i64 0),(.string (mk [])),(.int .i64 0),(.int .i64 0),(.string (mk [])),(.slice none 0 0),(.bool false)]) 42)⟩,⟨none,none,.e (.st 7 (.t 10) (.t 28))⟩]) (.seq (.ord  [.q ⟨some 29,none,.q (.fa 2 (.t 10))⟩,.q ⟨some 30,none,.l (.ldn 4 (.t 29))⟩,.m ⟨some 12,none,.e (.al (.agg #[(.int .i64 0),(.int .i64 0),(.string (mk [])),(.slice none 0 0)]) 40)⟩,.rc ⟨some 29,none,.q (.fa 2 (.t 10))⟩,.rc ⟨some 30,none,.l (.ldn 4 (.t 29))⟩,.m ⟨some 11,none,.q (.mv (.k (.int .i64 0)))⟩,.rc ⟨some 29,none,.q (.fa 2 (.t 10))⟩,.rc ⟨some 30,none,.l (.ldn 4 (.t 29))⟩,.m ⟨none,none,.e (.st 4 (.t 12) (.t 30))⟩]) (.seq (.block 2 (.loop (.seq (.seq (.reg [⟨some 31,none,.q (.fa 0 (.t 12))⟩,⟨some 32,none,.l (.ld1 (.t 31))⟩,⟨some 33,none,.q (.bin .eql true (.t 32) (.k (.int .i64 5)))⟩]) (.cond (.t 33) .skip (.exit 2))) (.block 3 (.seq (.reg [⟨some 34,none,.q (.mv (.t 11))⟩,⟨some 35,none,.q (.bin .add true (.t 34) (.k (.int .i64 1)))⟩,⟨some 11,none,.q (.mv (.t 35))⟩]) (.reg [⟨some 36,none,.q (.fa 3 (.t 12))⟩,⟨some 37,none,.l (.ld1 (.t 36))⟩,⟨some 38,none,.l (.ia 4 (.t 37) (.k (.int .i64 0)))⟩,⟨some 39,none,.l (.ldn 4 (.t 38))⟩,⟨none,none,.e (.st 4 (.t 12) (.t 39))⟩])))))) (.seq (.seq (.reg [⟨some 40,none,.q (.fa 0 (.t 12))⟩,⟨some 41,none,.l (.ld1 (.t 40))⟩,⟨some 42,none,.q (.bin .eql true (.t 41) (.k (.int .i64 6)))⟩]) (.cond (.t 42) (.reg [⟨some 43,none,.q (.mv (.t 11))⟩,⟨some 44,none,.l (.ld1 (.t 2))⟩,⟨some 45,none,.q (.fa 0 (.t 3))⟩,⟨some 46,none,.l (.ld1 (.t 45))⟩,⟨some 47,none,.q (.fa 2 (.t 12))⟩,⟨some 48,none,.l (.ld1 (.t 47))⟩,⟨some 49,none,.l (.lk .string (.agg #[(.string (mk [])),(.slice none 0 0)]) false (.t 46) (.t 48))⟩,⟨some 50,none,.ca (.t 44) [(.t 49)] [0,1,2,3,4,5]⟩,⟨some 51,none,.q (.bin .add true (.t 43) (.t 50))⟩,⟨some 11,none,.q (.mv (.t 51))⟩]) .skip)) (.reg [⟨some 52,none,.q (.mv (.t 8))⟩,⟨some 53,none,.q (.mv (.t 11))⟩,⟨some 54,none,.q (.mx true (.t 52) (.t 53))⟩,⟨some 8,none,.q (.mv (.t 54))⟩])))))) (.reg [⟨some 55,none,.q (.bin .add true (.t 25) (.k (.int .i64 1)))⟩,⟨some 25,none,.q (.mv (.t 55))⟩]))))))) (.seq (.reg [⟨some 56,none,.l (.ld1 (.t 1))⟩,⟨some 57,none,.q (.fa 0 (.t 4))⟩,⟨some 58,none,.l (.ld1 (.t 57))⟩,⟨some 59,none,.q (.mv (.t 8))⟩,⟨some 60,none,.q (.bin .add true (.t 59) (.k (.int .i64 1)))⟩,⟨none,none,.e (.mu .string (.t 56) (.t 58) (.t 60))⟩]) (.seq (.reg [⟨some 61,none,.q (.mv (.t 8))⟩,⟨some 62,none,.q (.bin .add true (.t 61) (.k (.int .i64 1)))⟩,⟨some 5,none,.q (.mv (.t 62))⟩]) .ret)))))
def rs89:List RV:=[.mv (.t 5)]
theorem ok89:trFn Tryz.prog true ⟨fun r k=>if r=13/\k=7 then .own [0,1,2,3,4,5] else .own [],fun _=>false⟩ Tryz.f89=some (pc89,rs89):=by kernel_rfl
end Go.Proofs.YtbcnggkldclemaaGreat
namespace Go.Proofs.YtbcnggkldclemaaGreat
open Go.W
mutual
def namedT:Ty->Ty
  | .mk k s n e=>bif k == 5 then namedL e (.mk k s n e) else .mk k s n e
def namedL:List Ty->Ty->Ty
  | [],d=>d
  | u :: r,d=>bif r.isEmpty then namedT u else d
end
def isNamed (t:Ty):Bool:=(namedT t).k == 6 || (namedT t).k == 7
def nmOf (t:Ty):ByteArray:=(namedT t).n
theorem named_one {s:Int} {n:ByteArray} {u:Ty}:namedT (.mk 5 s n [u])=namedT u:=by simp [namedT,namedL]
theorem named_stop {k s:Int} {n:ByteArray} {e:List Ty} (h:(k == 5 && (e.length:Int) == 1)=false):namedT (.mk k s n e)=.mk k s n e:=by
  rw [namedT]
  cases hk:k == 5 with
  | false=>rfl
  | true=>
    rw [hk,Bool.true_and] at h
    match e,h with
    | [],_=>rfl
    | [u],h=>simp at h
    | u :: v :: r,_=>simp [namedL]
def naSp:W.Spec:=fun av H K=>match av,H with
  | [.va (.gs r)],[]=>isTy r/\K (.tu [.c1 (.vl (.string (nmOf (C.ty r)))),bA (isNamed (C.ty r))]) []
  | _,_=>False
theorem naSp_open {av:List S} {H:Hp} {K:S->Hp->Prop} (h:naSp av H K):∃ t:Ty,av=[.va (.gs (tyC t))]/\H=[]/\TyOk t/\K (.tu [.c1 (.vl (.string (nmOf t))),bA (isNamed t)]) []:=by
  unfold naSp at h
  split at h
  · obtain ⟨⟨t,rfl,ht⟩,hK⟩:=h
    rw [ty_dec] at hK
    exact ⟨t,rfl,rfl,ht,hK⟩
  · exact h.elim
attribute [go_sem ↓] naSp
theorem tyC_one (t:Ty):∀ c ∈ tyC t,c.one:=by rw [tyC_eq]; simp [go_sem]
set_option maxRecDepth 100000 in
theorem mNamed:Meets Tryz.prog 87 naSp:=by
  refine meets_fn Tryz.func87 ok87 1 (by rw [Tryz.ntmps87]; decide) (meetsAll_nil _) (fun av H K h=>by obtain ⟨_,rfl,_⟩:=naSp_open h; rfl) ?_
  intro av H K h
  obtain ⟨t,rfl,rfl,ht,hK⟩:=naSp_open h
  simp -dsimp only [go_sem,pc87,rs87]
  refine vc_loop (α:=Ty) (fun z=>[(1,.va (.c1 (.pt 0 0)))]) (fun z=>[.cells (tyC z) 40]) (fun z=>namedT z=namedT t) (fun z=>z.h) t 1 rfl ?_ ?_ ?_
  · simp -dsimp only [go_sem]<;>simp
  · simp -dsimp only [go_sem]<;>simp
  intro z hz
  cases z with
  | mk k s n e=>
  cases hc:(k == 5 && (e.length:Int) == 1) with
  | true=>
    simp only [Bool.and_eq_true,beq_iff_eq] at hc
    obtain ⟨rfl,hl⟩:=hc
    obtain ⟨u,rfl⟩:∃ u,e=[u]:=List.length_eq_one_iff.1 (by omega)
    rw [named_one] at hz
    simp -dsimp only [go_sem,tyC,tysC_map]
    refine ⟨fun _=>⟨⟨by omega,fun r hr=>by subst hr; exact tyC_len u⟩,fun r hr=>?_⟩,fun h=>by simp at h⟩
    subst hr
    simp -dsimp only [go_sem,tyC_len]
    refine ⟨tyC_one u,loop_next u 1 hz (by simp only [Ty.h,Ty.hs]; omega) ?_ ?_⟩
    · simp -dsimp only [go_sem]<;>simp
    · simp -dsimp only [go_sem]<;>simp
  | false=>
    rw [named_stop hc] at hz
    simp -dsimp only [go_sem,tyC,tysC_map,hc]
    rw [nmOf,isNamed,<-hz] at hK
    exact .sel [] (by simp) (by simp) rfl (.done (by simpa [go_sem,Ty.n,Ty.k] using hK))
end Go.Proofs.YtbcnggkldclemaaGreat
namespace Go.Proofs.YtbcnggkldclemaaGreat
open Go.W
abbrev trA:ByteArray->A:=fun _=>.c1 (.vl (.bool true))
@[go_sem] theorem trA_ren (f:Nat->Option Nat) (l:List ByteArray):(l.map trA).map (A.ren f)=l.map trA:=by rw [List.map_map]; rfl
@[go_sem] theorem trA_pub (n:Nat) (xs:List (List C)) (l:List ByteArray):(l.map trA).map (A.pub n xs)=l.map trA:=by rw [List.map_map]; rfl
def vStep (go:St->List ByteArray->List ByteArray) (ss:List St) (o:List ByteArray) (f:Fl):List ByteArray:=
  bif !(isNamed f.ty) || inB o (nmOf f.ty) then o else match fS ss (nmOf f.ty) with
    | some t=>go t (o ++ [nmOf f.ty])
    | none=>o ++ [nmOf f.ty]
def vis (ss:List St):Nat->St->List ByteArray->List ByteArray
  | 0,_,o=>o
  | N + 1,t,o=>t.fs.foldl (vStep (vis ss N) ss) o
theorem sidx_has (n:ByteArray):∀ ns:List ByteArray,(sidx ns n).isSome=inB ns n
  | []=>rfl
  | k :: ks=>by
    have:=sidx_has n ks
    unfold inB at this
    simp only [sidx,inB,List.any_cons]
    by_cases h:n=k
    · simp [h]
    · simp [h,this]
theorem mget_tr (o:List ByteArray) (n:ByteArray):mget (nmK o) (o.map trA) (.string n)=bif inB o n then some (.c1 (.vl (.bool true))) else none:=by
  rw [mget_nm,<-sidx_has]
  cases h:sidx o n with
  | none=>rfl
  | some i=>simp [List.getElem?_eq_getElem (sidx_some h).2]
theorem mputK_tr {o:List ByteArray} {n:ByteArray} (h:inB o n=false):mputK (nmK o) (.string n)=nmK (o ++ [n]):=by
  rw [<-sidx_has] at h
  unfold mputK; rw [midx_nm]
  cases h2:sidx o n with
  | none=>simp
  | some i=>rw [h2] at h; cases h
theorem mputV_tr {o:List ByteArray} {n:ByteArray} (h:inB o n=false):mputV (nmK o) (o.map trA) (.string n) (.c1 (.vl (.bool true)))=(o ++ [n]).map trA:=by
  rw [<-sidx_has] at h
  unfold mputV; rw [midx_nm]
  cases h2:sidx o n with
  | none=>simp
  | some i=>rw [h2] at h; cases h
def fresh:List St->List ByteArray->Nat
  | [],_=>0
  | s :: ss,o=>(bif inB o s.nm then 0 else 1) + fresh ss o
theorem inB_app (o p:List ByteArray) (n:ByteArray):inB (o ++ p) n=(inB o n || inB p n):=by simp [inB]
theorem fresh_app (o p:List ByteArray):∀ ss:List St,fresh ss (o ++ p)<=fresh ss o
  | []=>Nat.le_refl _
  | s :: ss=>by
    have:=fresh_app o p ss
    simp only [fresh,inB_app]
    cases inB o s.nm<;>cases inB p s.nm<;>simp only [Bool.or_true,Bool.or_false,Bool.cond_true,Bool.cond_false]<;>omega
theorem fresh_lt {o:List ByteArray} {n:ByteArray} {t:St} (hn:inB o n=false):∀ {ss:List St},fS ss n=some t->fresh ss (o ++ [n]) < fresh ss o
  | [],h=>by cases h
  | s :: ss,h=>by
    unfold fS at h
    rw [List.find?_cons] at h
    simp only [fresh,inB_app]
    by_cases hs:s.nm=n
    · have h1:=fresh_app o [n] ss
      have h2:inB [n] s.nm=true:=by simp [inB,hs]
      have h3:inB o s.nm=false:=by rw [hs]; exact hn
      rw [h2,h3]; simp only [Bool.or_true,Bool.cond_true,Bool.cond_false]; omega
    · simp only [hs,decide_false] at h
      have:=fresh_lt hn h
      have h2:inB [n] s.nm=false:=by simp [inB,hs]
      rw [h2,Bool.or_false]
      omega
def Pfx (o p:List ByteArray):Prop:=∃ q,p=o ++ q
theorem Pfx.refl (o:List ByteArray):Pfx o o:=⟨[],by simp⟩
theorem Pfx.trans {a b c:List ByteArray} (h:Pfx a b) (k:Pfx b c):Pfx a c:=by
  obtain ⟨p,rfl⟩:=h; obtain ⟨q,rfl⟩:=k; exact ⟨p ++ q,by simp⟩
theorem Pfx.len {a b:List ByteArray} (h:Pfx a b):a.length<=b.length:=by obtain ⟨p,rfl⟩:=h; simp
theorem Pfx.fresh {ss:List St} {a b:List ByteArray} (h:Pfx a b):fresh ss b<=fresh ss a:=by obtain ⟨p,rfl⟩:=h; exact fresh_app _ _ _
theorem vStep_pfx {go:St->List ByteArray->List ByteArray} (hg:∀ t o,Pfx o (go t o)) (ss:List St) (o:List ByteArray) (f:Fl):Pfx o (vStep go ss o f):=by
  unfold vStep
  cases !(isNamed f.ty) || inB o (nmOf f.ty) with
  | true=>exact .refl _
  | false=>
    cases fS ss (nmOf f.ty) with
    | none=>exact ⟨_,rfl⟩
    | some t=>exact Pfx.trans ⟨_,rfl⟩ (hg _ _)
theorem fold_pfx {g:List ByteArray->Fl->List ByteArray} (hg:∀ o f,Pfx o (g o f)):∀ (l:List Fl) (o:List ByteArray),Pfx o (l.foldl g o)
  | [],_o=>.refl _
  | f :: l,o=>(hg o f).trans (fold_pfx hg l _)
theorem vis_pfx (ss:List St):∀ (N:Nat) (t:St) (o:List ByteArray),Pfx o (vis ss N t o)
  | 0,_,_o=>.refl _
  | N + 1,t,o=>fold_pfx (fun o f=>vStep_pfx (vis_pfx ss N) ss o f) t.fs o
abbrev visH (ks:List Value) (vs:List St) (ks':List Value) (vs':List En) (o:List ByteArray):Hp:=
  [.map .string ks (vs.map stA),.map .string ks' (vs'.map enA),.cells [.mp 0,.mp 1] 81,.map .string (nmK o) (o.map trA),.cells [.mp 3] 127,.cells [.sl 7 o.length] 57,.cells [.fn 86 [(false,[.pt 4 0]),(false,[.pt 5 0]),(false,[.pt 2 0]),(false,[.pt 6 0])]] 128,.row (o.map stR) 9 1]
def visSp (N:Nat):W.Spec:=fun av H K=>∃ (ss:List St) (t:St) (ks:List Value) (vs:List St) (ks':List Value) (vs':List En) (o:List ByteArray),av=[.va (.gs (stC t)),.va (.c1 (.pt 4 0)),.va (.c1 (.pt 5 0)),.va (.c1 (.pt 2 0)),.va (.c1 (.pt 6 0))]/\H=visH ks vs ks' vs' o/\
  IxS ks vs ss/\(∀ s ∈ ss,s.ok)/\t.ok/\fresh ss o < N/\(vis ss N t o).length<=1000000000/\K (.tu []) (visH ks vs ks' vs' (vis ss N t o))
theorem vis_use {N:Nat} {ss:List St} {t:St} {ks:List Value} {vs:List St} {ks':List Value} {vs':List En} {o:List ByteArray} {K:S->Hp->Prop} {H:Hp} (hH:H=visH ks vs ks' vs' o) (h1:IxS ks vs ss) (h2:∀ s ∈ ss,s.ok) (h3:t.ok) (h4:fresh ss o < N) (h5:(vis ss N t o).length<=1000000000) (hK:K (.tu []) (visH ks vs ks' vs' (vis ss N t o))) :
  visSp N [.va (.gs (stC t)),.va (.c1 (.pt 4 0)),.va (.c1 (.pt 5 0)),.va (.c1 (.pt 2 0)),.va (.c1 (.pt 6 0))] H K:=⟨ss,t,ks,vs,ks',vs',o,rfl,hH,h1,h2,h3,h4,h5,hK⟩
theorem fold_step {g:List ByteArray->Fl->List ByteArray} {l:List Fl} {i:Nat} {f:Fl} (hx:l[i]? = some f) (o:List ByteArray):(l.drop i).foldl g o=(l.drop (i + 1)).foldl g (g o f):=by
  obtain ⟨h,rfl⟩:=List.getElem?_eq_some_iff.1 hx
  rw [List.drop_eq_getElem_cons h]; rfl
set_option maxRecDepth 100000 in
set_option maxHeartbeats 2000000 in
theorem mVisit:∀ N,Meets Tryz.prog 86 (visSp N)
  | 0=>⟨by kernel_rfl,by rintro xs vs E ro w K _ _ _ ⟨_,_,_,_,_,_,_,_,_,_,_,_,h,_⟩; exact absurd h (Nat.not_lt_zero _)⟩
  | N + 1=>by
    refine meets_fn Tryz.func86 ok86 5 (by rw [Tryz.ntmps86]; decide) (meetsAll_s (mVisit N) (meetsAll_s mNamed (meetsAll_nil _))) (fun av H K h=>by obtain ⟨_,_,_,_,_,_,_,rfl,_⟩:=h; rfl) ?_
    rintro av H K ⟨ss,t,ks,vs,ks',vs',o0,rfl,rfl,h1,h2,h3,h4,h5,hK⟩
    obtain ⟨_,hl,hfs⟩:=h3
    simp -dsimp only [go_sem,stC,pc86,rs86]
    refine vc_loop (α:=Nat × List ByteArray) (fun z=>[(1,.va (.c1 (.pt 4 0))),(2,.va (.c1 (.pt 5 0))),(3,.va (.c1 (.pt 2 0))),(4,.va (.c1 (.pt 6 0))),(13,.va (.c1 (.fz (t.fs.map flC)))),(14,iS .i64 t.fs.length),(15,iS .i64 z.1)]) (fun z=>visH ks vs ks' vs' z.2)
      (fun z=>z.1<=t.fs.length/\(t.fs.drop z.1).foldl (vStep (vis ss N) ss) z.2=vis ss (N + 1) t o0/\fresh ss z.2 < N + 1) (fun z=>t.fs.length - z.1) (0,o0) 8 ⟨Nat.zero_le _,rfl,h4⟩ ?_ ?_ ?_
    · simp -dsimp only [go_sem]<;>simp
    · simp -dsimp only [go_sem]<;>simp
    rintro ⟨i,o⟩ ⟨hi,ho,hfr⟩
    simp only at hi ho hfr ⊢
    rcases Nat.lt_or_ge i t.fs.length with hlt | hge
    · have hg:decide ((i:Int) < (t.fs.length:Int))=true:=by simp; omega
      obtain ⟨f,hx⟩:∃ nm,t.fs[i]? = some nm:=⟨_,List.getElem?_eq_getElem hlt⟩
      have q1:=row_rg' (row:=flC) hx
      have hf:f.ok:=hfs f (List.mem_of_getElem? hx)
      rw [fold_step hx] at ho
      have ht:isTy (tyC f.ty):=isTy_mk hf.ty
      cases c1:isNamed f.ty with
      | false=>
        simp (maxSteps:=1000000) -dsimp only [go_sem,hg,↓q1,flC,fl_ty,ht,c1]
        have hv:vStep (vis ss N) ss o f=o:=by unfold vStep; rw [c1]; rfl
        rw [hv] at ho
        refine ⟨by omega,by omega,loop_next (i + 1,o) 8 ⟨by simp only; omega,ho,hfr⟩ (by simp only; omega) ?_ ?_⟩
        · simp -dsimp only [go_sem]<;>simp
        · simp -dsimp only [go_sem]<;>simp
      | true=>
      have hm:=mget_tr o (nmOf f.ty)
      cases c2:inB o (nmOf f.ty) with
      | true=>
        have hv:vStep (vis ss N) ss o f=o:=by unfold vStep; rw [c1,c2]; rfl
        rw [hv] at ho
        rw [c2] at hm
        simp only [Bool.cond_true] at hm
        simp (maxSteps:=1000000) -dsimp only [go_sem,hg,↓q1,flC,fl_ty,ht,c1,hm]
        refine ⟨by omega,by omega,loop_next (i + 1,o) 8 ⟨by simp only; omega,ho,hfr⟩ (by simp only; omega) ?_ ?_⟩
        · simp -dsimp only [go_sem]<;>simp
        · simp -dsimp only [go_sem]<;>simp
      | false=>
        rw [c2] at hm
        simp only [Bool.cond_false] at hm
        have mk1:=mputK_tr c2
        have mv1:=mputV_tr c2
        have hx1:=h1 (nmOf f.ty)
        have hb1:(vStep (vis ss N) ss o f).length<=1000000000:=by
          have:=(fold_pfx (fun o f=>vStep_pfx (vis_pfx ss N) ss o f) (t.fs.drop (i + 1)) (vStep (vis ss N) ss o f)).len
          rw [ho] at this; omega
        have hb:(o ++ [nmOf f.ty]).length<=1000000000:=by
          refine Nat.le_trans (Pfx.len ?_) hb1
          unfold vStep; rw [c1,c2]
          cases fS ss (nmOf f.ty) with
          | none=>exact .refl _
          | some t=>exact vis_pfx _ _ _ _
        cases hs:fS ss (nmOf f.ty) with
        | none=>
          have hv:vStep (vis ss N) ss o f=o ++ [nmOf f.ty]:=by unfold vStep; rw [c1,c2,hs]; rfl
          rw [hv] at ho
          rw [hs] at hx1
          simp only [Option.map_none] at hx1
          simp (maxSteps:=1000000) -dsimp only [go_sem,hg,↓q1,flC,fl_ty,ht,c1,hm,mk1,mv1,hx1]
          refine ⟨by omega,by simp at hb; omega,by omega,loop_next (i + 1,o ++ [nmOf f.ty]) 8 ⟨by simp only; omega,ho,by have:=fresh_app o [nmOf f.ty] ss; simp only; omega⟩ (by simp only; omega) ?_ ?_⟩
          · simp -dsimp only [go_sem]<;>simp
          · simp -dsimp only [go_sem]<;>simp
        | some d=>
          have hv:vStep (vis ss N) ss o f=vis ss N d (o ++ [nmOf f.ty]):=by unfold vStep; rw [c1,c2,hs]; rfl
          rw [hv] at ho hb1
          rw [hs] at hx1
          simp only [Option.map_some] at hx1
          have hd:d.ok:=h2 d (List.mem_of_find?_eq_some hs)
          have hfl:=fresh_lt c2 hs
          simp (maxSteps:=1000000) -dsimp only [go_sem,hg,↓q1,flC,fl_ty,ht,c1,hm,mk1,mv1,hx1,stC]
          refine ⟨by omega,by simp at hb; omega,vis_use (o:=o ++ [nmOf f.ty]) (ks':=ks') (vs':=vs') (by simp [go_sem]) h1 h2 hd (by omega) hb1 ?_⟩
          simp (maxSteps:=1000000) -dsimp only [go_sem]
          refine ⟨by omega,loop_next (i + 1,vis ss N d (o ++ [nmOf f.ty])) 8 ⟨by simp only; omega,ho,by have:=(vis_pfx ss N d (o ++ [nmOf f.ty])).fresh (ss:=ss); simp only; omega⟩ (by simp only; omega) ?_ ?_⟩
          · simp -dsimp only [go_sem]<;>simp
          · simp -dsimp only [go_sem]<;>simp
    · have hg:decide ((i:Int) < (t.fs.length:Int))=false:=by simp; omega
      obtain rfl:i=t.fs.length:=by omega
      rw [List.drop_length] at ho
      simp only [List.foldl_nil] at ho
      simp -dsimp only [go_sem,hg]
      rw [<-ho] at hK
      exact .sel [0,1,2,3,4,5,6,7] (by simp) (by simp) rfl (.done (by simp -dsimp only [go_sem]; simpa [go_sem] using hK))
end Go.Proofs.YtbcnggkldclemaaGreat
namespace Go.Proofs
open Go.Shelf
def Tryz.lays190_ren:Go.Shelf.Ren:=⟨fun | 190=>88 | 125=>56 | 258=>97 | 128=>81 | 129=>82 | 302=>100 | 303=>101 | 304=>102 | 305=>103 | 306=>104 | 307=>105 | 308=>106 | 309=>107 | 310=>108 | 333=>110 | 329=>92 | 330=>93 | 334=>111 | 335=>112 | 336=>113 | 344=>114 | n=>n,fun | 31=>57 | 9=>9 | 3=>3 | 46=>101 | 0=>0 | 51=>122 | 53=>124 | 4=>4 | 183=>115 | 182=>114 | 131=>119 | 5=>5 | 218=>134 | 222=>138 | 228=>142 | 229=>143 | n=>n,fun | n=>n⟩
theorem Tryz.lays190:Go.Proofs.Lays.n190 Tryz.prog Tryz.lays190_ren:={
  mixed:=by kernel_rfl
  f125:=Tryz.func56.trans (congrArg some (by kernel_rfl))
  f128:=Tryz.func81.trans (congrArg some (by kernel_rfl))
  f129:=Tryz.func82.trans (congrArg some (by kernel_rfl))
  f190:=Tryz.func88.trans (congrArg some (by kernel_rfl))
  f258:=Tryz.func97.trans (congrArg some (by kernel_rfl))
  f302:=Tryz.func100.trans (congrArg some (by kernel_rfl))
  f303:=Tryz.func101.trans (congrArg some (by kernel_rfl))
  f304:=Tryz.func102.trans (congrArg some (by kernel_rfl))
  f305:=Tryz.func103.trans (congrArg some (by kernel_rfl))
  f306:=Tryz.func104.trans (congrArg some (by kernel_rfl))
  f307:=Tryz.func105.trans (congrArg some (by kernel_rfl))
  f308:=Tryz.func106.trans (congrArg some (by kernel_rfl))
  f309:=Tryz.func107.trans (congrArg some (by kernel_rfl))
  f310:=Tryz.func108.trans (congrArg some (by kernel_rfl))
  f329:=Tryz.func92.trans (congrArg some (by kernel_rfl))
  f330:=Tryz.func93.trans (congrArg some (by kernel_rfl))
  f333:=Tryz.func110.trans (congrArg some (by kernel_rfl))
  f334:=Tryz.func111.trans (congrArg some (by kernel_rfl))
  f335:=Tryz.func112.trans (congrArg some (by kernel_rfl))
  f336:=Tryz.func113.trans (congrArg some (by kernel_rfl))
  f344:=Tryz.func114.trans (congrArg some (by kernel_rfl))
  t0:=Tryz.underlying0
  a0:=Tryz.isAgg0
  z0:=Tryz.sizeOf0
  v0:=Tryz.zeroValue0
  t3:=Tryz.underlying3
  a3:=Tryz.isAgg3
  z3:=Tryz.sizeOf3
  v3:=Tryz.zeroValue3
  t4:=Tryz.underlying4
  a4:=Tryz.isAgg4
  z4:=Tryz.sizeOf4
  v4:=Tryz.zeroValue4
  t5:=Tryz.underlying5
  a5:=Tryz.isAgg5
  z5:=Tryz.sizeOf5
  v5:=Tryz.zeroValue5
  t9:=Tryz.underlying9
  a9:=Tryz.isAgg9
  z9:=Tryz.sizeOf9
  v9:=Tryz.zeroValue9
  t31:=Tryz.underlying57
  a31:=Tryz.isAgg57
  z31:=Tryz.sizeOf57
  v31:=Tryz.zeroValue57
  t46:=Tryz.underlying101
  a46:=Tryz.isAgg101
  z46:=Tryz.sizeOf101
  v46:=Tryz.zeroValue101
  t51:=Tryz.underlying122
  a51:=Tryz.isAgg122
  z51:=Tryz.sizeOf122
  v51:=Tryz.zeroValue122
  t53:=Tryz.underlying124
  a53:=Tryz.isAgg124
  z53:=Tryz.sizeOf124
  v53:=Tryz.zeroValue124
  t131:=Tryz.underlying119
  a131:=Tryz.isAgg119
  z131:=Tryz.sizeOf119
  v131:=Tryz.zeroValue119
  t182:=Tryz.underlying114
  a182:=Tryz.isAgg114
  z182:=Tryz.sizeOf114
  v182:=Tryz.zeroValue114
  t183:=Tryz.underlying115
  a183:=Tryz.isAgg115
  z183:=Tryz.sizeOf115
  v183:=Tryz.zeroValue115
  t218:=Tryz.underlying134
  a218:=Tryz.isAgg134
  z218:=Tryz.sizeOf134
  v218:=Tryz.zeroValue134
  t222:=Tryz.underlying138
  a222:=Tryz.isAgg138
  z222:=Tryz.sizeOf138
  v222:=Tryz.zeroValue138
  t228:=Tryz.underlying142
  a228:=Tryz.isAgg142
  z228:=Tryz.sizeOf142
  v228:=Tryz.zeroValue142
  t229:=Tryz.underlying143
  a229:=Tryz.isAgg143
  z229:=Tryz.sizeOf143
  v229:=Tryz.zeroValue143 }
end Go.Proofs
namespace Go.Proofs.YtbcnggkldclemaaGreat
open Go.W Go.Sort
def srtB (l:List ByteArray):List ByteArray:=((l.map bl).mergeSort fun x y=>decide (x<=y)).map mk
theorem srtB_len (l:List ByteArray):(srtB l).length=l.length:=by simp [srtB]
theorem heap_grow_old (w:World) (os:Array Obj) {k:Nat} (h:k < w.heap.size):(grow w os).heap[k]? = w.heap[k]?:=by
  simp [grow,Array.getElem?_append_left h]
theorem heap_putRow (enc:List UInt8->Value) (w:World) (b:Nat) (d:Array (List UInt8)) {cur:Array Value} {T:TypeId} {p:Nat × Nat} (h:w.heap[b]? = some (.cells cur T p)):(putRow enc w b 0 d).heap[b]? = some (.cells (putCells enc 0 d cur) T p):=by
  unfold putRow mapBlock
  simp [Array.getElem?_modify,h,onCells]
theorem heap_putRow_ne (enc:List UInt8->Value) (w:World) {b k:Nat} (d:Array (List UInt8)) (h:k ≠ b):(putRow enc w b 0 d).heap[k]? = w.heap[k]?:=by
  unfold putRow mapBlock
  simp [Array.getElem?_modify,Ne.symm h]
def soSp:W.Spec:=fun av H K=>∃ l:List ByteArray,av=[.va (.c1 (.sl 0 l.length))]/\H=[.row (l.map stR) 9 1]/\l.length<=1000000000/\K (.tu []) [.row ((srtB l).map stR) 9 1]
theorem so_use {l:List ByteArray} {K:S->Hp->Prop} (h:l.length<=1000000000) (hK:K (.tu []) [.row ((srtB l).map stR) 9 1]):soSp [.va (.c1 (.sl 0 l.length))] [.row (l.map stR) 9 1] K:=⟨l,rfl,rfl,h,hK⟩
theorem stR_flat (l:List ByteArray):(l.map stR).flatten=l.map fun x=>C.vl (.string x):=by
  induction l with
  | nil=>rfl
  | cons x l ih=>rw [List.map_cons,List.flatten_cons,ih]; rfl
theorem vs_str {l:List ByteArray} {vs:List Value} {ro:RO} (h:All2 (C.fv ro) (l.map stR).flatten vs):vs=l.map Value.string:=by
  rw [stR_flat] at h
  refine List.ext_getElem? fun i=>?_
  obtain ⟨h1,h2⟩:=h
  rw [List.length_map] at h1
  rw [List.getElem?_map]
  rcases Nat.lt_or_ge i l.length with hi | hi
  · obtain ⟨x,hx⟩:∃ x,l[i]? = some x:=⟨_,List.getElem?_eq_getElem hi⟩
    obtain ⟨v,hv⟩:∃ v,vs[i]? = some v:=⟨_,List.getElem?_eq_getElem (by omega)⟩
    have:=h2 i _ v (by rw [List.getElem?_map,hx]; rfl) hv
    rw [hv,hx]; exact congrArg some this
  · rw [List.getElem?_eq_none (by omega),List.getElem?_eq_none hi]; rfl
theorem mSort:Meets Tryz.prog 88 soSp:=by
  refine ⟨by kernel_rfl,fun av vs E ro w K hlen hrel hR hs=>?_⟩
  obtain ⟨l,rfl,hH,hl,hK⟩:=hs
  match E,hH with
  | [(g,blk)],hH=>
    obtain rfl:blk=.row (l.map stR) 9 1:=by simpa [hp] using hH
    match vs,hlen with
    | [v0],_=>
      have r0:=hrel 0 _ _ rfl rfl
      have hon:=hR.own 0 g _ rfl
      obtain ⟨o1,o2,o3,o4,o5,o6,o7⟩:=hon
      rw [List.length_map] at o2 o5
      obtain ⟨g',hg',_,_,_,hv0⟩:=r0
      obtain rfl:g=g':=by simpa [gm] using hg'
      obtain rfl:=hv0 o2.symm
      have hvs:=vs_str o6
      obtain ⟨l1,l2⟩:=o5
      rcases Nat.eq_zero_or_pos l.length with h0 | h0
      · obtain rfl:=List.eq_nil_of_length_eq_zero h0
        refine (Any.slices_Sort_string_none Tryz.lays190 _ _ w).mono ?_
        rintro e w' ⟨rfl,rfl⟩
        rw [show srtB []=[] by simp [srtB]] at hK
        exact ⟨.tu [],_,[(g,.row ([].map stR) 9 1)],ro,rfl,⟨[],rfl,.nil⟩,hK,hR⟩
      rcases l2 with ⟨_,h1⟩ | ⟨b,cap,cur,hsl,_,hb,hcap,hmax,hcs,htk⟩
      · omega
      have hob:g.ob=some b:=by
        cases hgo:g.ob with
        | none=>rw [hgo] at hsl; simp [obA] at hsl
        | some b'=>rw [hgo] at hsl; simp [obA] at hsl; rw [hsl.1]
      have hgc:g.cap=cap:=by simp at hsl; exact hsl.2
      have hbs:b < w.heap.size:=by
        rcases Nat.lt_or_ge b w.heap.size with h' | h'
        · exact h'
        · rw [Array.getElem?_eq_none h'] at hb; cases hb
      have hcell:∀ k,k < l.length->w.cell? ⟨b,k,none⟩=(l.map Value.string)[k]?:=fun k hk=>by
        rw [<-hvs,<-htk,List.getElem?_take,if_pos (by omega)]
        simp [World.cell?,hb]
      rw [hob,hgc]
      have key:=Any.slices_Sort_string Tryz.lays190 b 0 cap (l.map bl) w (fun j hj=>by
        have hj':j < l.length:=by simpa using hj
        refine ⟨?_,by simp [World.frozen?,hb]⟩
        rw [Nat.zero_add,hcell j hj']
        simp [hj']
        exact (mk_bl _).symm) hbs (by simp; omega)
      rw [List.length_map] at key
      refine key.mono ?_
      rintro e w' ⟨rfl,n,os,rfl⟩
      obtain ⟨D,hD⟩:∃ D,D=(l.map bl).mergeSort fun x y=>decide (x<=y):=⟨_,rfl⟩
      have hDl:D.length=l.length:=by rw [hD]; simp
      have hsD:srtB l=D.map mk:=by rw [hD]; rfl
      rw [<-hD]
      obtain ⟨W',hW⟩:∃ W',W'=grow (putRow encStr (Sort.ahead w n) b 0 D.toArray) os:=⟨_,rfl⟩
      have hmod:(putRow encStr (Sort.ahead w n) b 0 D.toArray).heap.size=w.heap.size:=by simp [putRow,mapBlock,Sort.ahead]
      have hb':W'.heap[b]? = some (.cells (putCells encStr 0 D.toArray cur) 9 (0,0)):=by
        rw [hW,heap_grow_old _ _ (by rw [hmod]; exact hbs)]
        exact heap_putRow encStr _ b D.toArray hb
      have hne:∀ k,k ≠ b->k < w.heap.size->W'.heap[k]? = w.heap[k]?:=fun k h1 h2=>by
        rw [hW,heap_grow_old _ _ (by rw [hmod]; exact h2),heap_putRow_ne encStr _ D.toArray h1]; rfl
      have hsz:w.heap.size<=W'.heap.size:=by rw [hW]; simp [hmod]
      have hrest:W'.os=w.os/\W'.tape=w.tape/\W'.output=w.output:=by rw [hW]; exact ⟨rfl,rfl,rfl⟩
      rw [<-hW]
      clear hW
      have htk':(putCells encStr 0 D.toArray cur).toList.take l.length=(srtB l).map Value.string:=by
        have hsl':(srtB l).length=l.length:=srtB_len l
        refine List.ext_getElem? fun k=>?_
        rw [List.getElem?_take,List.getElem?_map]
        rcases Nat.lt_or_ge k l.length with hk | hk
        · rw [if_pos hk,hsD]
          have h1:k < cur.size:=by omega
          have h2:k < D.length:=by omega
          simp [putCells,h1,hDl]
          rw [if_pos hk,List.getElem?_eq_getElem h2]; rfl
        · rw [if_neg (by omega),List.getElem?_eq_none (by omega)]; rfl
      have hown:B.On (gm [(⟨some b,true,l.length,cap,g.T,(srtB l).map Value.string⟩,.row ((srtB l).map stR) 9 1)]) ro W' ⟨some b,true,l.length,cap,g.T,(srtB l).map Value.string⟩ (.row ((srtB l).map stR) 9 1):=by
        have hsl':(srtB l).length=l.length:=srtB_len l
        refine ⟨rfl,by rw [List.length_map,hsl'],fun x hx=>?_,fun c hc=>?_,⟨?_,.inr ⟨b,cap,putCells encStr 0 D.toArray cur,?_,Nat.zero_le _,hb',?_,hmax,by simp [putCells]; omega,?_⟩⟩,?_,fun b' _=>(by show 0 < cap; omega)⟩
        · obtain ⟨y,_,rfl⟩:=List.mem_map.1 hx; rfl
        · rw [stR_flat] at hc; obtain ⟨y,_,rfl⟩:=List.mem_map.1 hc; rfl
        · simp
        · simp [obA]
        · rw [List.length_map,hsl']; exact hcap
        · rw [List.length_map,hsl',Nat.mul_one]; exact htk'
        · rw [stR_flat]
          refine ⟨by simp,fun i x y hx hy=>?_⟩
          rw [List.getElem?_map] at hx hy
          cases hi:(srtB l)[i]? with
          | none=>rw [hi] at hx; cases hx
          | some z=>rw [hi] at hx hy; cases hx; cases hy; rfl
      have hpb:b ∈ blks [(g,.row (l.map stR) 9 1)]:=by
        rcases hR.par 0 b g _ rfl hob rfl with h | h
        · exact absurd h (Nat.not_le.2 hbs)
        · exact h
      refine ⟨.tu [],_,[(⟨some b,true,l.length,cap,g.T,(srtB l).map Value.string⟩,.row ((srtB l).map stR) 9 1)],ro,rfl,⟨[],rfl,.nil⟩,hK,?_⟩
      refine ⟨fun n gn bn hn=>?_,fun n m gn gm' bn bm b' hn hm h1 h2 l1 l2=>?_,fun b' off v hv n gn bn hn hgb=>?_,fun b' off v hv=>?_,hR.ro0,hR.rob,fun n b' gn bn hn hgb hl=>?_,?_,hsz,fun k hk hkb=>hne k (fun e=>hkb (e ▸ hpb)) hk,hrest.1,hrest.2.1,hrest.2.2⟩
      · match n,hn with
        | 0,hn=>cases hn; exact hown
        | n + 1,hn=>cases hn
      · match n,m,hn,hm with
        | 0,0,_,_=>rfl
        | n + 1,_,hn,_=>cases hn
        | _,m + 1,_,hm=>cases hm
      · match n,hn with
        | 0,hn=>
          cases hn
          have hbb:b=b':=by simpa using hgb
          subst hbb
          exact absurd (hR.apart b off v hv 0 g _ rfl hob) (by simp [B.live])
        | n + 1,hn=>cases hn
      · have hne':b' ≠ b:=fun e=>by
          subst e
          exact absurd (hR.apart b' off v hv 0 g _ rfl hob) (by simp [B.live])
        have:=hR.rd b' off v hv
        rcases Nat.lt_or_ge b' w.heap.size with h' | h'
        · rw [World.cell?_of_block (hne b' hne' h')]
          exact this
        · simp [World.cell?,Array.getElem?_eq_none h'] at this
      · match n,hn with
        | 0,hn=>
          cases hn
          have:b=b':=by simpa using hgb
          subst this; exact .inr hpb
        | n + 1,hn=>cases hn
      · intro n g2 h2
        match n,h2 with
        | 0,h2=>
          cases h2
          exact ⟨_,rfl,o1.symm,.inl ⟨hob.symm,o2.symm,hgc.symm⟩⟩
        | n + 1,h2=>cases h2
end Go.Proofs.YtbcnggkldclemaaGreat
namespace Go.Proofs.YtbcnggkldclemaaGreat
open Go.W
def visAll (ss:List St) (n:ByteArray):List ByteArray:=vis ss (ss.length + 1) ((fS ss n).getD default) []
def usesF (ss:List St) (n:ByteArray):List ByteArray:=srtB (visAll ss n)
theorem fresh_le (ss:List St) (o:List ByteArray):fresh ss o<=ss.length:=by
  induction ss with
  | nil=>exact Nat.le_refl _
  | cons s ss ih=>simp only [fresh,List.length_cons]; cases inB o s.nm<;>simp only [Bool.cond_true,Bool.cond_false]<;>omega
theorem St.ok_default:(default:St).ok:=⟨by decide,by decide,fun f h=>by cases h⟩
def usSp:W.Spec:=fun av H K=>∃ (ss:List St) (n:ByteArray) (ks:List Value) (vs:List St) (ks':List Value) (vs':List En),av=[ixV,tS n]/\H=ixH ks vs ks' vs'/\
  IxS ks vs ss/\(∀ s ∈ ss,s.ok)/\(visAll ss n).length<=1000000000/\K (.va (.c1 (.fz ((usesF ss n).map stR)))) (ixH ks vs ks' vs')
theorem us_use {ss:List St} {n:ByteArray} {ks:List Value} {vs:List St} {ks':List Value} {vs':List En} {K:S->Hp->Prop} (h1:IxS ks vs ss) (h2:∀ s ∈ ss,s.ok) (h3:(visAll ss n).length<=1000000000) (hK:K (.va (.c1 (.fz ((usesF ss n).map stR)))) (ixH ks vs ks' vs')) :
    usSp [ixV,tS n] (ixH ks vs ks' vs') K:=⟨ss,n,ks,vs,ks',vs',rfl,rfl,h1,h2,h3,hK⟩
set_option maxRecDepth 100000 in
theorem mUses:Meets Tryz.prog 61 usSp:=by
  refine meets_all 0 (t:=fun N=>fun av H K=>∃ (ss:List St) (n:ByteArray) (ks:List Value) (vs:List St) (ks':List Value) (vs':List En),av=[ixV,tS n]/\H=ixH ks vs ks' vs'/\
    IxS ks vs ss/\(∀ s ∈ ss,s.ok)/\ss.length=N/\(visAll ss n).length<=1000000000/\K (.va (.c1 (.fz ((usesF ss n).map stR)))) (ixH ks vs ks' vs')) (fun N=>?_) fun av H K ⟨ss,n,ks,vs,ks',vs',e1,e2,h1,h2,h3,hK⟩=>⟨ss.length,ss,n,ks,vs,ks',vs',e1,e2,h1,h2,rfl,h3,hK⟩
  refine meets_fn Tryz.func61 ok61 2 (by rw [Tryz.ntmps61]; decide) (meetsAll_s (mVisit (N + 1)) (meetsAll_s mSort (meetsAll_nil _))) (fun av H K h=>by obtain ⟨_,_,_,_,_,_,rfl,_⟩:=h; rfl) ?_
  rintro av H K ⟨ss,n,ks,vs,ks',vs',rfl,rfl,h1,h2,rfl,h3,hK⟩
  have hx:=h1 n
  simp -dsimp only [go_sem,pc61,rs61]
  refine .nilc 5 0 9 1 [.vl (.slice none 0 0)] 57 rfl rfl (.done ?_)
  cases hs:fS ss n with
  | none=>
    rw [hs] at hx
    simp only [Option.map_none] at hx
    simp -dsimp only [go_sem,hx]
    have hF:visAll ss n=vis ss (ss.length + 1) default []:=by unfold visAll; rw [hs]; rfl
    have hU:usesF ss n=srtB (vis ss (ss.length + 1) default []):=by unfold usesF; rw [hF]
    rw [hF] at h3
    rw [hU] at hK
    have hfr:=fresh_le ss []
    refine vis_use (ss:=ss) (t:=default) (ks:=ks) (vs:=vs) (ks':=ks') (vs':=vs') (o:=[]) rfl h1 h2 St.ok_default (by omega) h3 ?_
    generalize vis ss (ss.length + 1) default []=o at h3 hK
    simp -dsimp only [go_sem]
    refine so_use h3 ?_
    simp -dsimp only [go_sem]
    rw [<-srtB_len o]
    refine .pub 7 _ _ _ rfl (.sel [0,1] (by simp) (by simp [pubH]) rfl (.done ?_))
    simp -dsimp only [go_sem,pubH]; exact hK
  | some d=>
    rw [hs] at hx
    simp only [Option.map_some] at hx
    simp -dsimp only [go_sem,hx,stC]
    have hF:visAll ss n=vis ss (ss.length + 1) d []:=by unfold visAll; rw [hs]; rfl
    have hU:usesF ss n=srtB (vis ss (ss.length + 1) d []):=by unfold usesF; rw [hF]
    rw [hF] at h3
    rw [hU] at hK
    have hfr:=fresh_le ss []
    refine vis_use (ss:=ss) (t:=d) (ks:=ks) (vs:=vs) (ks':=ks') (vs':=vs') (o:=[]) rfl h1 h2 (h2 d (List.mem_of_find?_eq_some hs)) (by omega) h3 ?_
    generalize vis ss (ss.length + 1) d []=o at h3 hK
    simp -dsimp only [go_sem]
    refine so_use h3 ?_
    simp -dsimp only [go_sem]
    rw [<-srtB_len o]
    refine .pub 7 _ _ _ rfl (.sel [0,1] (by simp) (by simp [pubH]) rfl (.done ?_))
    simp -dsimp only [go_sem,pubH]; exact hK
end Go.Proofs.YtbcnggkldclemaaGreat
namespace Go.Proofs.YtbcnggkldclemaaGreat
open Go.W
mutual
def lvT:Ty->Nat × Ty
  | .mk k s n e=>bif k == 5 then lvL e (.mk k s n e) else (0,.mk k s n e)
def lvL:List Ty->Ty->Nat × Ty
  | [],d=>(0,d)
  | u :: _,_=>((lvT u).1 + 1,(lvT u).2)
end
def fdep (dp:ByteArray->Int) (t:Ty):Int:=(lvT t).1 + bif (lvT t).2.k == 6 then dp (lvT t).2.n else 0
def maxF (dp:ByteArray->Int) (fs:List Fl):Int:=fs.foldl (fun m f=>max m (fdep dp f.ty)) 0
def dN (ss:List St):Nat->ByteArray->Int
  | 0,_=>1
  | N + 1,n=>maxF (dN ss N) ((fS ss n).getD default).fs + 1
inductive LOk:Ty->Prop
  | stop {k s n e}:(k == 5)=false->LOk (.mk k s n e)
  | list {s n u r}:LOk u->LOk (.mk 5 s n (u :: r))
abbrev inA (d:Int):A:=.c1 (.vl (.int .i64 d))
@[go_sem] theorem inA_ren (f:Nat->Option Nat) (l:List Int):(l.map inA).map (A.ren f)=l.map inA:=by rw [List.map_map]; rfl
@[go_sem] theorem inA_pub (n:Nat) (xs:List (List C)) (l:List Int):(l.map inA).map (A.pub n xs)=l.map inA:=by rw [List.map_map]; rfl
structure Dp (ss:List St) (D:ByteArray->Int) (r:ByteArray->Nat):Prop where
  ok:∀ s ∈ ss,s.ok
  eq:∀ n t,fS ss n=some t->D n=maxF D t.fs + 1
  lo:∀ n,0<=D n
  hi:∀ n,D n<=1000000000000
  ls:∀ n t,fS ss n=some t->∀ f ∈ t.fs,LOk f.ty
  rf:∀ n t,fS ss n=some t->∀ f ∈ t.fs,((lvT f.ty).2.k == 6)=true->∃ u,fS ss (lvT f.ty).2.n=some u/\r (lvT f.ty).2.n < r n
def Known (D:ByteArray->Int) (ms:List ByteArray) (ds:List Int):Prop:=ms.length=ds.length/\∀ n v,mget (nmK ms) (ds.map inA) (.string n)=some v->v=inA (D n)
abbrev depH (ks:List Value) (vs:List St) (ks':List Value) (vs':List En) (ms:List ByteArray) (ds:List Int):Hp:=
  [.map .string ks (vs.map stA),.map .string ks' (vs'.map enA),.cells [.mp 0,.mp 1] 81,.map .string (nmK ms) (ds.map inA),.cells [.mp 3] 132,.cells [.fn 89 [(false,[.pt 4 0]),(false,[.pt 5 0]),(false,[.pt 2 0])]] 133]
def depSp (N:Nat):W.Spec:=fun av H K=>∃ (ss:List St) (D:ByteArray->Int) (r:ByteArray->Nat) (t:St) (ks:List Value) (vs:List St) (ks':List Value) (vs':List En) (ms:List ByteArray) (ds:List Int),
  av=[.va (.gs (stC t)),.va (.c1 (.pt 4 0)),.va (.c1 (.pt 5 0)),.va (.c1 (.pt 2 0))]/\H=depH ks vs ks' vs' ms ds/\
  IxS ks vs ss/\Dp ss D r/\fS ss t.nm=some t/\r t.nm < N/\Known D ms ds/\∀ ms' ds',Known D ms' ds'->K (iS .i64 (D t.nm)) (depH ks vs ks' vs' ms' ds')
end Go.Proofs.YtbcnggkldclemaaGreat
namespace Go.Proofs.YtbcnggkldclemaaGreat
open Go.W
theorem known_get {D:ByteArray->Int} {ms:List ByteArray} {ds:List Int} (h:Known D ms ds) (n:ByteArray):mget (nmK ms) (ds.map inA) (.string n)=none\/mget (nmK ms) (ds.map inA) (.string n)=some (inA (D n)):=by
  cases hm:mget (nmK ms) (ds.map inA) (.string n) with
  | none=>exact .inl rfl
  | some v=>rw [h.2 n v hm]; exact .inr rfl
theorem known_put {D:ByteArray->Int} {ms:List ByteArray} {ds:List Int} (h:Known D ms ds) (n:ByteArray):∃ ms' ds',mputK (nmK ms) (.string n)=nmK ms'/\mputV (nmK ms) (ds.map inA) (.string n) (inA (D n))=ds'.map inA/\Known D ms' ds':=by
  obtain ⟨ms',ds',h1,h2,h3,h4⟩:=put_ex inA h.1 n (D n)
  refine ⟨ms',ds',h1,h2,h3,fun k v hk=>?_⟩
  rw [h4] at hk
  by_cases e:k=n
  · subst e; simp at hk; exact hk.symm
  · simp [e] at hk; exact h.2 k v hk
abbrev gF (D:ByteArray->Int):Int->Fl->Int:=fun m f=>max m (fdep D f.ty)
theorem gF_le (D:ByteArray->Int):∀ (l:List Fl) (m:Int),m<=l.foldl (gF D) m
  | [],_=>Int.le_refl _
  | f :: l,m=>by
    have:=gF_le D l (max m (fdep D f.ty))
    show m<=l.foldl (gF D) (max m (fdep D f.ty)); omega
theorem gF_step {D:ByteArray->Int} {l:List Fl} {i:Nat} {f:Fl} (hx:l[i]? = some f) (m:Int):(l.drop i).foldl (gF D) m=(l.drop (i + 1)).foldl (gF D) (max m (fdep D f.ty)):=by
  obtain ⟨h,rfl⟩:=List.getElem?_eq_some_iff.1 hx
  rw [List.drop_eq_getElem_cons h]; rfl
set_option maxRecDepth 100000 in
set_option maxHeartbeats 2000000 in
theorem mDep:∀ N,Meets Tryz.prog 89 (depSp N)
  | 0=>⟨by kernel_rfl,by rintro xs vs E ro w K _ _ _ ⟨_,_,_,_,_,_,_,_,_,_,_,_,_,_,_,h,_⟩; exact absurd h (Nat.not_lt_zero _)⟩
  | N + 1=>by
    refine meets_fn Tryz.func89 ok89 4 (by rw [Tryz.ntmps89]; decide) (meetsAll_s (mDep N) (meetsAll_nil _)) (fun av H K h=>by obtain ⟨_,_,_,_,_,_,_,_,_,_,rfl,_⟩:=h; rfl) ?_
    rintro av H K ⟨ss,D,r,t,ks,vs,ks',vs',ms,ds,rfl,rfl,h1,h2,ht,hr,hk,hK⟩
    have htok:=h2.ok t (List.mem_of_find?_eq_some ht)
    obtain ⟨_,hl,hfs⟩:=htok
    rcases known_get hk t.nm with hm | hm
    · simp (maxSteps:=1000000) -dsimp only [go_sem,stC,pc89,rs89,hm]
      have hD:=h2.eq t.nm t ht
      have hDh:=h2.hi t.nm
      refine vc_loop (α:=Nat × Int × List ByteArray × List Int) (fun z=>[(1,.va (.c1 (.pt 4 0))),(2,.va (.c1 (.pt 5 0))),(3,.va (.c1 (.pt 2 0))),(4,.va (.c1 (.pt 6 0))),(8,iS .i64 z.2.1),(23,.va (.c1 (.fz (t.fs.map flC)))),(24,iS .i64 t.fs.length),(25,iS .i64 z.1)])
        (fun z=>depH ks vs ks' vs' z.2.2.1 z.2.2.2 ++ [.cells (stC t) 45])
        (fun z=>z.1<=t.fs.length/\0<=z.2.1/\(t.fs.drop z.1).foldl (gF D) z.2.1=maxF D t.fs/\Known D z.2.2.1 z.2.2.2) (fun z=>t.fs.length - z.1) (0,0,ms,ds) 7 ⟨Nat.zero_le _,Int.le_refl _,rfl,hk⟩ ?_ ?_ ?_
      · simp -dsimp only [go_sem]<;>simp
      · simp -dsimp only [go_sem,stC]<;>simp
      clear hk hm
      rintro ⟨i,m,ms,ds⟩ ⟨hi,hm0,ho,hk⟩
      simp only at hi hm0 ho hk ⊢
      have hmb:m<=1000000000000:=by have:=gF_le D (t.fs.drop i) m; rw [ho] at this; omega
      rcases Nat.lt_or_ge i t.fs.length with hlt | hge
      · have hg:decide ((i:Int) < (t.fs.length:Int))=true:=by simp; omega
        obtain ⟨f,hx⟩:∃ nm,t.fs[i]? = some nm:=⟨_,List.getElem?_eq_getElem hlt⟩
        have q1:=row_rg' (row:=flC) hx
        have hf:f.ok:=hfs f (List.mem_of_getElem? hx)
        rw [gF_step hx] at ho
        have hfb:fdep D f.ty<=1000000000000:=by have:=gF_le D (t.fs.drop (i + 1)) (max m (fdep D f.ty)); rw [ho] at this; omega
        simp (maxSteps:=1000000) -dsimp only [go_sem,hg,↓q1,flC,fl_ty]
        have hlo:=h2.ls t.nm t ht f (List.mem_of_getElem? hx)
        refine ⟨by omega,⟨tyC_one _,tyC_len _⟩,by rw [tyC_len]; exact Nat.le_refl _,?_⟩
        refine vc_loop (α:=Nat × Ty) (fun z=>[(1,.va (.c1 (.pt 4 0))),(2,.va (.c1 (.pt 5 0))),(3,.va (.c1 (.pt 2 0))),(4,.va (.c1 (.pt 6 0))),(8,iS .i64 m),(11,iS .i64 z.1),(12,.va (.c1 (.pt 8 0))),(23,.va (.c1 (.fz (t.fs.map flC)))),(24,iS .i64 t.fs.length),(25,iS .i64 i)])
          (fun z=>depH ks vs ks' vs' ms ds ++ [.cells (stC t) 45,.cells (flC f) 42,.cells (tyC z.2) 40])
          (fun z=>LOk z.2/\z.1 + (lvT z.2).1=(lvT f.ty).1/\(lvT z.2).2=(lvT f.ty).2) (fun z=>z.2.h) (0,f.ty) 9 ⟨hlo,by simp,rfl⟩ ?_ ?_ ?_
        · simp -dsimp only [go_sem]<;>simp
        · simp -dsimp only [go_sem,stC,flC,tyC_len]<;>simp
        rintro ⟨n,u⟩ ⟨hu1,hu2,hu3⟩
        simp only at hu1 hu2 hu3 ⊢
        have hlv:((lvT f.ty).1:Int)<=1000000000000:=by
          have hd0:=h2.lo (lvT f.ty).2.n
          unfold fdep at hfb
          cases hq:(lvT f.ty).2.k == 6<;>rw [hq] at hfb<;>simp only [Bool.cond_true,Bool.cond_false] at hfb<;>omega
        cases hu1 with
        | list hv=>
          rename_i s' n' v r'
          have hl5:lvT (.mk 5 s' n' (v :: r'))=((lvT v).1 + 1,(lvT v).2):=by simp [lvT,lvL]
          rw [hl5] at hu2 hu3
          simp (maxSteps:=1000000) -dsimp only [go_sem,tyC,tysC_map]
          refine ⟨by omega,⟨by omega,fun r hr=>by subst hr; exact tyC_len v⟩,fun r hr=>?_⟩
          subst hr
          simp -dsimp only [go_sem,tyC_len]
          refine ⟨tyC_one v,loop_next (n + 1,v) 9 ⟨hv,by simp only at hu2 ⊢; omega,hu3⟩ (by simp only [Ty.h,Ty.hs]; omega) ?_ ?_⟩
          · simp -dsimp only [go_sem]<;>simp
          · simp -dsimp only [go_sem,stC,flC]<;>simp
        | stop hk5=>
          rename_i k' s' n' e'
          have hl0:lvT (.mk k' s' n' e')=(0,.mk k' s' n' e'):=by rw [lvT,hk5]; rfl
          rw [hl0] at hu2 hu3
          simp only [Nat.add_zero] at hu2
          have hfd:fdep D f.ty=(n:Int) + bif k' == 6 then D n' else 0:=by unfold fdep; rw [<-hu2,<-hu3]; rfl
          cases k6:k' == 6 with
          | false=>
            rw [k6,Bool.cond_false,Int.add_zero] at hfd
            rw [hfd] at ho
            simp (maxSteps:=1000000) -dsimp only [go_sem,tyC,tysC_map,hk5,k6]
            refine ⟨by omega,loop_next (i + 1,max m (n:Int),ms,ds) 7 ⟨by simp only; omega,by simp only; omega,ho,hk⟩ (by simp only; omega) ?_ ?_⟩
            · simp -dsimp only [go_sem]<;>simp
            · simp -dsimp only [go_sem,stC]<;>simp
          | true=>
            rw [k6,Bool.cond_true] at hfd
            rw [hfd] at ho
            obtain ⟨w,hw,hrw⟩:=h2.rf t.nm t ht f (List.mem_of_getElem? hx) (by rw [<-hu3]; exact k6)
            rw [<-hu3] at hw hrw
            have hx1:=h1 n'
            rw [show fS ss n'=some w from hw] at hx1
            simp only [Option.map_some] at hx1
            simp (maxSteps:=1000000) -dsimp only [go_sem,tyC,tysC_map,hk5,k6,hx1,stC]
            have hwn:w.nm=n':=by have:=List.find?_some hw; simp only [decide_eq_true_eq] at this; exact this
            refine ⟨ss,D,r,w,ks,vs,ks',vs',ms,ds,rfl,rfl,h1,h2,by rw [hwn]; exact hw,by rw [hwn]; exact Nat.lt_of_lt_of_le hrw (Nat.le_of_lt_succ hr),hk,fun ms' ds' hk'=>?_⟩
            rw [hwn]
            have hd0:=h2.lo n'
            have hd1:=h2.hi n'
            simp (maxSteps:=1000000) -dsimp only [go_sem]
            refine ⟨by omega,by omega,loop_next (i + 1,max m ((n:Int) + D n'),ms',ds') 7 ⟨by simp only; omega,by simp only; omega,ho,hk'⟩ (by simp only; omega) ?_ ?_⟩
            · simp -dsimp only [go_sem]<;>simp
            · simp -dsimp only [go_sem,stC]<;>simp
      · have hg:decide ((i:Int) < (t.fs.length:Int))=false:=by simp; omega
        obtain rfl:i=t.fs.length:=by omega
        rw [List.drop_length] at ho
        simp only [List.foldl_nil] at ho
        obtain ⟨ms',ds',p1,p2,p3⟩:=known_put hk t.nm
        have e1:m + 1=D t.nm:=by omega
        simp (maxSteps:=1000000) -dsimp only [go_sem,hg,stC,e1,p1,p2]
        refine ⟨by have:=h2.lo t.nm; omega,by have:=h2.lo t.nm; omega,.sel [0,1,2,3,4,5] (by simp) (by simp) rfl (.done (by simp -dsimp only [go_sem]; simpa [go_sem] using hK ms' ds' p3))⟩
    · simp (maxSteps:=1000000) -dsimp only [go_sem,stC,pc89,rs89,hm]
      exact .sel [0,1,2,3,4,5] (by simp) (by simp) rfl (.done (by simp -dsimp only [go_sem]; simpa [go_sem] using hK ms ds hk))
end Go.Proofs.YtbcnggkldclemaaGreat
namespace Go.Proofs.YtbcnggkldclemaaGreat
open Go.W
def dpSp:W.Spec:=fun av H K=>∃ (ss:List St) (D:ByteArray->Int) (r:ByteArray->Nat) (t:St) (ks:List Value) (vs:List St) (ks':List Value) (vs':List En),av=[ixV,.va (.gs (stC t))]/\H=ixH ks vs ks' vs'/\
  IxS ks vs ss/\Dp ss D r/\fS ss t.nm=some t/\K (iS .i64 (D t.nm)) (ixH ks vs ks' vs')
theorem dp_use {ss:List St} {D:ByteArray->Int} {r:ByteArray->Nat} {t:St} {ks:List Value} {vs:List St} {ks':List Value} {vs':List En} {K:S->Hp->Prop} (h1:IxS ks vs ss) (h2:Dp ss D r) (h3:fS ss t.nm=some t) (hK:K (iS .i64 (D t.nm)) (ixH ks vs ks' vs')) :
    dpSp [ixV,.va (.gs (stC t))] (ixH ks vs ks' vs') K:=⟨ss,D,r,t,ks,vs,ks',vs',rfl,rfl,h1,h2,h3,hK⟩
set_option maxRecDepth 100000 in
theorem mDepth:Meets Tryz.prog 62 dpSp:=by
  refine meets_all 0 (t:=fun N=>fun av H K=>∃ (ss:List St) (D:ByteArray->Int) (r:ByteArray->Nat) (t:St) (ks:List Value) (vs:List St) (ks':List Value) (vs':List En),av=[ixV,.va (.gs (stC t))]/\H=ixH ks vs ks' vs'/\
    IxS ks vs ss/\Dp ss D r/\fS ss t.nm=some t/\r t.nm < N/\K (iS .i64 (D t.nm)) (ixH ks vs ks' vs')) (fun N=>?_) fun av H K ⟨ss,D,r,t,ks,vs,ks',vs',e1,e2,h1,h2,h3,hK⟩=>⟨r t.nm + 1,ss,D,r,t,ks,vs,ks',vs',e1,e2,h1,h2,h3,Nat.lt_succ_self _,hK⟩
  refine meets_fn Tryz.func62 ok62 2 (by rw [Tryz.ntmps62]; decide) (meetsAll_s (mDep N) (meetsAll_nil _)) (fun av H K h=>by obtain ⟨_,_,_,_,_,_,_,_,rfl,_⟩:=h; rfl) ?_
  rintro av H K ⟨ss,D,r,t,ks,vs,ks',vs',rfl,rfl,h1,h2,ht,hr,hK⟩
  simp -dsimp only [go_sem,stC,pc62,rs62]
  refine ⟨ss,D,r,t,ks,vs,ks',vs',[],[],rfl,rfl,h1,h2,ht,hr,⟨rfl,fun n v h=>by cases h⟩,fun ms ds _=>?_⟩
  simp -dsimp only [go_sem]
  exact .sel [0,1] (by simp) (by simp) rfl (.done (by simp -dsimp only [go_sem]; exact hK))
end Go.Proofs.YtbcnggkldclemaaGreat
namespace Go.Proofs.YtbcnggkldclemaaGreat
open Go.W
def refT (t:St) (b:ByteArray):Prop:=∃ f ∈ t.fs,isNamed f.ty=true/\nmOf f.ty=b
def isRef (ss:List St) (a b:ByteArray):Prop:=refT ((fS ss a).getD default) b
inductive Reach (ss:List St):ByteArray->ByteArray->Prop
  | one {a b:ByteArray}:isRef ss a b->Reach ss a b
  | more {a b c:ByteArray}:Reach ss a b->isRef ss b c->Reach ss a c
theorem Reach.head {ss:List St} {a b c:ByteArray} (h:isRef ss a b) (r:Reach ss b c):Reach ss a c:=by
  induction r with
  | one h2=>exact .more (.one h) h2
  | more _ h2 ih=>exact .more ih h2
theorem Reach.trans {ss:List St} {a b c:ByteArray} (h:Reach ss a b) (r:Reach ss b c):Reach ss a c:=by
  induction r with
  | one h2=>exact .more h h2
  | more _ h2 ih=>exact .more ih h2
theorem Reach.first {ss:List St} {a c:ByteArray} (r:Reach ss a c):∃ b,isRef ss a b/\(c=b\/Reach ss b c):=by
  induction r with
  | one h=>exact ⟨_,h,.inl rfl⟩
  | more _ h2 ih=>
    obtain ⟨b,h3,h4⟩:=ih
    refine ⟨b,h3,.inr ?_⟩
    rcases h4 with rfl | h4
    · exact .one h2
    · exact .more h4 h2
theorem not_inB {o:List ByteArray} {n:ByteArray}:inB o n=false ↔ n ∉ o:=by
  rw [<-Bool.not_eq_true,inB_iff]
theorem vstep_cl (ss:List St) {N:Nat} (ih:∀ t o,fresh ss o < N->(∀ b,refT t b->b ∈ vis ss N t o)/\∀ x ∈ vis ss N t o,x ∉ o->∀ y,isRef ss x y->y ∈ vis ss N t o) (o:List ByteArray) (f:Fl) (h:fresh ss o < N + 1) :
    (isNamed f.ty=true->nmOf f.ty ∈ vStep (vis ss N) ss o f)/\∀ x ∈ vStep (vis ss N) ss o f,x ∉ o->∀ y,isRef ss x y->y ∈ vStep (vis ss N) ss o f:=by
  cases c1:isNamed f.ty with
  | false=>
    have:vStep (vis ss N) ss o f=o:=by unfold vStep; rw [c1]; rfl
    rw [this]; exact ⟨fun h=>by simp at h,fun x hx hn=>absurd hx hn⟩
  | true=>
  cases c2:inB o (nmOf f.ty) with
  | true=>
    have:vStep (vis ss N) ss o f=o:=by unfold vStep; rw [c1,c2]; rfl
    rw [this]; exact ⟨fun _=>(inB_iff _ _).1 c2,fun x hx hn=>absurd hx hn⟩
  | false=>
    cases hs:fS ss (nmOf f.ty) with
    | none=>
      have:vStep (vis ss N) ss o f=o ++ [nmOf f.ty]:=by unfold vStep; rw [c1,c2,hs]; rfl
      rw [this]
      refine ⟨fun _=>by simp,fun x hx hn y hy=>?_⟩
      have:x=nmOf f.ty:=by simpa [hn] using hx
      subst this
      unfold isRef at hy; rw [hs] at hy
      obtain ⟨g,hg,_⟩:=hy; cases hg
    | some d=>
      have:vStep (vis ss N) ss o f=vis ss N d (o ++ [nmOf f.ty]):=by unfold vStep; rw [c1,c2,hs]; rfl
      rw [this]
      have hl:=fresh_lt c2 hs
      obtain ⟨i1,i2⟩:=ih d (o ++ [nmOf f.ty]) (by omega)
      obtain ⟨q,hq⟩:=vis_pfx ss N d (o ++ [nmOf f.ty])
      refine ⟨fun _=>by rw [hq]; simp,fun x hx hn y hy=>?_⟩
      by_cases hxn:x=nmOf f.ty
      · subst hxn
        unfold isRef at hy; rw [hs] at hy
        exact i1 y hy
      · exact i2 x hx (by simp [hn,hxn]) y hy
theorem vfold_cl (ss:List St) {N:Nat} (ih:∀ t o,fresh ss o < N->(∀ b,refT t b->b ∈ vis ss N t o)/\∀ x ∈ vis ss N t o,x ∉ o->∀ y,isRef ss x y->y ∈ vis ss N t o):∀ (l:List Fl) (o:List ByteArray),fresh ss o < N + 1->
    (∀ f ∈ l,isNamed f.ty=true->nmOf f.ty ∈ l.foldl (vStep (vis ss N) ss) o)/\∀ x ∈ l.foldl (vStep (vis ss N) ss) o,x ∉ o->∀ y,isRef ss x y->y ∈ l.foldl (vStep (vis ss N) ss) o
  | [],o,_=>⟨fun f h=>(List.not_mem_nil h).elim,fun x hx hn=>absurd hx hn⟩
  | f :: l,o,h=>by
    obtain ⟨s1,s2⟩:=vstep_cl ss ih o f h
    have hp:=vStep_pfx (vis_pfx ss N) ss o f
    obtain ⟨r1,r2⟩:=vfold_cl ss ih l (vStep (vis ss N) ss o f) (by have:=hp.fresh (ss:=ss); omega)
    obtain ⟨q,hq⟩:=fold_pfx (fun o f=>vStep_pfx (vis_pfx ss N) ss o f) l (vStep (vis ss N) ss o f)
    have hin:∀ x,x ∈ vStep (vis ss N) ss o f->x ∈ l.foldl (vStep (vis ss N) ss) (vStep (vis ss N) ss o f):=fun x hx=>by rw [hq]; simp [hx]
    rw [List.foldl_cons]
    refine ⟨fun g hg hn=>?_,fun x hx hn y hy=>?_⟩
    · rcases List.mem_cons.1 hg with rfl | hg
      · exact hin _ (s1 hn)
      · exact r1 g hg hn
    · by_cases hx2:x ∈ vStep (vis ss N) ss o f
      · exact hin _ (s2 x hx2 hn y hy)
      · exact r2 x hx hx2 y hy
theorem vis_cl (ss:List St):∀ (N:Nat) (t:St) (o:List ByteArray),fresh ss o < N->(∀ b,refT t b->b ∈ vis ss N t o)/\∀ x ∈ vis ss N t o,x ∉ o->∀ y,isRef ss x y->y ∈ vis ss N t o
  | 0,_,_,h=>absurd h (Nat.not_lt_zero _)
  | N + 1,t,o,h=>by
    obtain ⟨r1,r2⟩:=vfold_cl ss (vis_cl ss N) t.fs o h
    exact ⟨fun b ⟨f,hf,hn,hb⟩=>hb ▸ r1 f hf hn,r2⟩
theorem vis_sound (ss:List St):∀ (N:Nat) (t:St) (o:List ByteArray),∀ x ∈ vis ss N t o,x ∈ o\/∃ b,refT t b/\(x=b\/Reach ss b x)
  | 0,_,o=>fun x hx=>.inl hx
  | N + 1,t,o=>by
    have step:∀ (o:List ByteArray) (f:Fl),∀ x ∈ vStep (vis ss N) ss o f,x ∈ o\/(isNamed f.ty=true/\(x=nmOf f.ty\/Reach ss (nmOf f.ty) x)):=fun o f x hx=>by
      cases c1:isNamed f.ty with
      | false=>
        have:vStep (vis ss N) ss o f=o:=by unfold vStep; rw [c1]; rfl
        rw [this] at hx; exact .inl hx
      | true=>
      cases c2:inB o (nmOf f.ty) with
      | true=>
        have:vStep (vis ss N) ss o f=o:=by unfold vStep; rw [c1,c2]; rfl
        rw [this] at hx; exact .inl hx
      | false=>
        cases hs:fS ss (nmOf f.ty) with
        | none=>
          have:vStep (vis ss N) ss o f=o ++ [nmOf f.ty]:=by unfold vStep; rw [c1,c2,hs]; rfl
          rw [this] at hx
          rcases List.mem_append.1 hx with h | h
          · exact .inl h
          · exact .inr ⟨rfl,.inl (by simpa using h)⟩
        | some d=>
          have:vStep (vis ss N) ss o f=vis ss N d (o ++ [nmOf f.ty]):=by unfold vStep; rw [c1,c2,hs]; rfl
          rw [this] at hx
          rcases vis_sound ss N d _ x hx with h | ⟨b,hb,h⟩
          · rcases List.mem_append.1 h with h | h
            · exact .inl h
            · exact .inr ⟨rfl,.inl (by simpa using h)⟩
          · have hr:isRef ss (nmOf f.ty) b:=by unfold isRef; rw [hs]; exact hb
            refine .inr ⟨rfl,.inr ?_⟩
            rcases h with rfl | h
            · exact .one hr
            · exact .head hr h
    have fold:∀ (l:List Fl) (o:List ByteArray),∀ x ∈ l.foldl (vStep (vis ss N) ss) o,x ∈ o\/∃ f ∈ l,isNamed f.ty=true/\(x=nmOf f.ty\/Reach ss (nmOf f.ty) x):=by
      intro l
      induction l with
      | nil=>exact fun o x hx=>.inl hx
      | cons f l ih=>
        intro o x hx
        rw [List.foldl_cons] at hx
        rcases ih _ x hx with h | ⟨g,hg,h⟩
        · rcases step o f x h with h | h
          · exact .inl h
          · exact .inr ⟨f,List.mem_cons_self,h⟩
        · exact .inr ⟨g,List.mem_cons_of_mem _ hg,h⟩
    intro x hx
    rcases fold t.fs o x hx with h | ⟨f,hf,hn,h⟩
    · exact .inl h
    · exact .inr ⟨nmOf f.ty,⟨f,hf,hn,rfl⟩,h⟩
theorem vis_nodup (ss:List St):∀ (N:Nat) (t:St) (o:List ByteArray),o.Nodup->(vis ss N t o).Nodup
  | 0,_,_=>id
  | N + 1,t,o=>by
    have step:∀ (o:List ByteArray) (f:Fl),o.Nodup->(vStep (vis ss N) ss o f).Nodup:=fun o f ho=>by
      have app:inB o (nmOf f.ty)=false->(o ++ [nmOf f.ty]).Nodup:=fun c2=>by
        rw [not_inB] at c2
        rw [List.nodup_append]
        exact ⟨ho,by simp,fun a ha b hb=>by simp at hb; subst hb; exact fun e=>c2 (e ▸ ha)⟩
      unfold vStep
      cases c1:isNamed f.ty with
      | false=>exact ho
      | true=>
      cases c2:inB o (nmOf f.ty) with
      | true=>exact ho
      | false=>
        cases hs:fS ss (nmOf f.ty) with
        | none=>exact app c2
        | some d=>exact vis_nodup ss N d _ (app c2)
    show o.Nodup->(t.fs.foldl (vStep (vis ss N) ss) o).Nodup
    generalize t.fs=l
    induction l generalizing o with
    | nil=>exact id
    | cons f l ih=>exact fun h=>ih _ (step o f h)
theorem mem_visAll (ss:List St) (n x:ByteArray):x ∈ visAll ss n ↔ Reach ss n x:=by
  unfold visAll
  constructor
  · intro h
    rcases vis_sound ss _ _ _ x h with h | ⟨b,hb,h⟩
    · cases h
    · rcases h with rfl | h
      · exact .one hb
      · exact .head hb h
  · intro h
    obtain ⟨c1,c2⟩:=vis_cl ss (ss.length + 1) ((fS ss n).getD default) [] (Nat.lt_succ_of_le (fresh_le ss []))
    induction h with
    | one h=>exact c1 _ h
    | more _ h2 ih=>exact c2 _ ih (by simp) _ h2
theorem visAll_nodup (ss:List St) (n:ByteArray):(visAll ss n).Nodup:=vis_nodup ss _ _ _ .nil
theorem mem_srtB {l:List ByteArray} {x:ByteArray}:x ∈ srtB l ↔ x ∈ l:=by
  unfold srtB
  rw [List.mem_map]
  constructor
  · rintro ⟨y,hy,rfl⟩
    rw [List.mem_mergeSort,List.mem_map] at hy
    obtain ⟨z,hz,rfl⟩:=hy
    rw [mk_bl]; exact hz
  · intro h
    exact ⟨bl x,by rw [List.mem_mergeSort]; exact List.mem_map_of_mem h,mk_bl x⟩
theorem mem_usesF {ss:List St} {n x:ByteArray}:x ∈ usesF ss n ↔ Reach ss n x:=by unfold usesF; rw [mem_srtB,mem_visAll]
theorem usesF_len (ss:List St) (n:ByteArray):(usesF ss n).length=(visAll ss n).length:=srtB_len _
end Go.Proofs.YtbcnggkldclemaaGreat
