/- The W library, part 9: programs of instructions, what is to be shown of them (vc), and how the model's code is read as such a program (tr). -/
import Derived.Test.YtngmjggconefcaaW8
import Derived.StillTail
namespace Go.W

abbrev Spec := List S → Hp → (S → Hp → Prop) → Prop

def A.flat : A → Prop
  | .c1 (.vl _) => True
  | .gs cs => ∀ c ∈ cs, ∃ v, c = .vl v
  | _ => False
/-- A function that only reads: what it asks, and the value that it hands back. -/
structure Fun where
  pre : List S → Prop
  val : List S → A
  flat : ∀ as, pre as → (val as).flat
def Fun.sp (p : Fun) : Spec := fun xs H K => (p.pre xs ∧ H = []) ∧ K (.va (p.val xs)) []
structure Entry where
  sp : Spec
  fn : Option Fun
def Entry.s (s : Spec) : Entry := ⟨s, none⟩
def Entry.f (p : Fun) : Entry := ⟨p.sp, some p⟩
abbrev Env := List (FuncId × Entry)

inductive I where
  | q (i : QI)
  | ix (x y : O)
  | l (i : LI)
  | e (i : EI)
  | pick (c x y : O)
  | cl (f : FuncId) (xs : List O) (σ : List Nat)
  | ca (x : O) (xs : List O) (σ : List Nat)
  | cq (f : FuncId) (xs : List O)

structure J where
  d : Option Nat
  g : Option (Nat × Bool)
  i : I

/-- A step of a region that is read in an order of its own: a quiet instruction that may come up later; one in its order; what was read before is still so. -/
inductive OJ where
  | q (j : J)
  | m (j : J)
  | rc (j : J)

inductive PC where
  | skip
  | seq (x y : PC)
  | reg (js : List J)
  | ord (l : List OJ)
  | cond (o : O) (x y : PC)
  | block (id : Nat) (x : PC)
  | loop (x : PC)
  | exit (id : Nat)
  | ret
  | gh (x : PC)
  | no

inductive Ex where
  | n
  | e (id : Nat)
  | r

/-! ### Operands: which slots an instruction reads -/
def O.sl : O → List Nat
  | .t i => [i]
  | _ => []
def O.sls : List O → List Nat
  | [] => []
  | o :: r => o.sl ++ O.sls r
def O.slo : Option O → List Nat
  | none => []
  | some o => o.sl
def O.slp : List (Nat × Nat × O) → List Nat
  | [] => []
  | (_, _, o) :: r => o.sl ++ O.slp r
def QI.sl : QI → List Nat
  | .mv x | .not x | .neg _ x | .cvt _ x | .fa _ x | .fld1 _ x | .fldn _ _ x | .lnS x | .lnL x | .ex x _ | .nc x => x.sl
  | .b2s x | .cu x | .c4u _ _ x | .usd x => x.sl
  | .bin _ _ x y | .eqB _ x y | .eqP _ x y | .eqT _ _ x y => x.sl ++ y.sl
  | .bd _ ps => O.slp ps
  | .ss x lo hi => x.sl ++ (O.slo lo ++ O.slo hi)
  | .sf _ x lo hi => x.sl ++ (O.slo lo ++ O.slo hi)
def LI.sl : LI → List Nat
  | .ia _ x y => x.sl ++ y.sl
  | .ld1 x => x.sl
  | .ldn _ x => x.sl
def EI.sl : EI → List Nat
  | .st _ x y => x.sl ++ y.sl
  | .al _ _ => []
  | .bx _ x => x.sl
  | .bsl _ _ xs => O.sls xs
  | .ap _ _ _ x y => x.sl ++ y.sl
  | .us _ x y => x.sl ++ y.sl
  | .aps _ x y => x.sl ++ y.sl

def S.st : S → S
  | .cn _ a => .va a
  | s => s
def S.gd : S → Prop
  | .cn g _ => g = true
  | _ => True
def fst (fr : Fr) : Fr := fun i => (fr i).st
def gds (fr : Fr) : List Nat → Prop
  | [] => True
  | i :: r => (fr i).gd ∧ gds fr r

def S.cnd (g : Bool) : S → S
  | .va a => .cn g a
  | _ => .un

/-- The value of a guard. -/
def gv (fr : Fr) (sl : Nat) (want : Bool) : Option Bool :=
  match fr sl with
  | .va (.c1 (.vl (.bool b))) => some (b == want)
  | .cn g (.c1 (.vl (.bool b))) => some (g && (b == want))
  | .cn false _ => some false
  | _ => none

def mrg (b : Bool) : A → A → A
  | .c1 (.vl (.bool x)), .c1 (.vl (.bool y)) => .c1 (.vl (.bool (bif b then x else y)))
  | x, y => bif b then x else y

def dum : S := .cn false (.c1 .no)
/-- A guard's slot, where the guard holds; where it does not. -/
def rfn (fr : Fr) (sl : Nat) (want : Bool) : Fr := put fr (some sl) (bS want)
def rff (fr : Fr) (sl : Nat) (want : Bool) : Fr :=
  match fr sl with
  | .va (.c1 (.vl (.bool _))) => put fr (some sl) (bS (!want))
  | _ => fr

/-! ### Names -/
def C.ren (f : Nat → Option Nat) : C → C
  | .pt n off => match f n with | some m => .pt m off | none => .no
  | .sl n l => match f n with | some m => .sl m l | none => .no
  | .qt n l sz i j => match f n with | some m => .qt m l sz i j | none => .no
  | .dp n l => match f n with | some m => .dp m l | none => .no
  | .fn g ns => match ns.mapM f with | some ms => .fn g ms | none => .no
  | c => c
def A.ren (f : Nat → Option Nat) : A → A
  | .c1 c => .c1 (c.ren f)
  | .gs cs => .gs (cs.map (C.ren f))
def S.ren (f : Nat → Option Nat) : S → S
  | .va a => .va (a.ren f)
  | .tu l => .tu (l.map (A.ren f))
  | .cn g a => .cn g (a.ren f)
  | .un => .un
def B.ren (f : Nat → Option Nat) : B → B
  | .cells cs T => .cells (cs.map (C.ren f)) T
  | .row xs T sz => .row xs T sz
  | .dead => .dead

/-- From a caller's names to a callee's, and back. -/
def loc : List Nat → Nat → Option Nat
  | [], _ => none
  | m :: σ, n => if m = n then some 0 else (loc σ n).map (· + 1)
def back (σ : List Nat) (L : Nat) (j : Nat) : Option Nat := match σ[j]? with | some n => some n | none => some (L + (j - σ.length))
def san (k : Nat) (n : Nat) : Option Nat := if n < k then some n else none
def pickH (H : Hp) (σ : List Nat) : Hp := σ.map fun n => H.getD n .dead
def mergeH : List Nat → Hp → Hp → Hp
  | [], H, H' => H ++ H'
  | n :: σ, H, H' => mergeH σ (H.set n (H'.headD .dead)) H'.tail

def sp (Γ : Env) (f : FuncId) : Spec := fun as H K =>
  match Γ with
  | [] => False
  | (g, s) :: r => if g = f then s.sp as H K else sp r f as H K
def fnOf (Γ : Env) (f : FuncId) : Option Fun :=
  match Γ with
  | [] => none
  | (g, s) :: r => if g = f then s.fn else fnOf r f

/-! ### Steps that change what is told, and nothing else -/
def C.pub (n : Nat) (xs : List (List C)) : C → C
  | .sl m l => if m = n then (if l = xs.length then .fz xs else .no) else .sl m l
  | .qt m l sz i j => if m = n then .no else .qt m l sz i j
  | .dp m l => if m = n then .no else .dp m l
  | c => c
def A.pub (n : Nat) (xs : List (List C)) : A → A
  | .c1 c => .c1 (c.pub n xs)
  | .gs cs => .gs (cs.map (C.pub n xs))
def S.pub (n : Nat) (xs : List (List C)) : S → S
  | .va a => .va (a.pub n xs)
  | .tu l => .tu (l.map (A.pub n xs))
  | .cn g a => .cn g (a.pub n xs)
  | .un => .un
def B.pub (n : Nat) (xs : List (List C)) : B → B
  | .cells cs T => .cells (cs.map (C.pub n xs)) T
  | .row ys T sz => .row ys T sz
  | .dead => .dead
def pubH (n : Nat) (xs : List (List C)) (H : Hp) : Hp := (H.set n .dead).map (B.pub n xs)

/-- nil as an empty frozen slice. -/
def C.nf : C → C
  | .vl (.slice none 0 0) => .fz []
  | c => c
def A.nf : A → A
  | .c1 c => .c1 c.nf
  | .gs cs => .gs (cs.map C.nf)
def S.nf : S → S
  | .va a => .va a.nf
  | .tu l => .tu (l.map A.nf)
  | .cn g a => .cn g a.nf
  | .un => .un

/-- Own rows, lent: as frozen memory. -/
def C.bor (H : Hp) : C → C
  | .sl n l => match H[n]? with
    | some (.row xs _ _) => if l = xs.length then .fz xs else .no
    | _ => .no
  | .pt _ _ | .qt _ _ _ _ _ | .dp _ _ => .no
  | .fn f [] => .fn f []
  | .fn _ _ => .no
  | c => c
def A.bor (H : Hp) : A → A
  | .c1 c => .c1 (c.bor H)
  | .gs cs => .gs (cs.map (C.bor H))
def S.bor (H : Hp) : S → S
  | .va a => .va (a.bor H)
  | _ => .un

def nilC : C := .vl (.slice none 0 0)

inductive Gh (k0 : Nat) (Q : Fr → Hp → Prop) : Fr → Hp → Prop
  | done {fr : Fr} {H : Hp} : Q fr H → Gh k0 Q fr H
  | wk {fr : Fr} {H : Hp} (fr' : Fr) : (∀ i, fr' i = fr i ∨ fr' i = .un) → Gh k0 Q fr' H → Gh k0 Q fr H
  | cut {fr : Fr} {H : Hp} (k : Nat) : k0 ≤ k → Gh k0 Q (fun i => (fr i).ren (san k)) ((H.take k).map (B.ren (san k))) → Gh k0 Q fr H
  | sel {fr : Fr} {H : Hp} (ns : List Nat) : ns.Nodup → (∀ n ∈ ns, n < H.length) → ns.take k0 = List.range k0 → Gh k0 Q (fun i => (fr i).ren (loc ns)) ((pickH H ns).map (B.ren (loc ns))) → Gh k0 Q fr H
  | kill {fr : Fr} {H : Hp} (n : Nat) : Gh k0 Q fr (H.set n .dead) → Gh k0 Q fr H
  | nil {fr : Fr} {H : Hp} (sl T sz : Nat) : fr sl = .va (.c1 nilC) → Gh k0 Q (put fr (some sl) (.va (.c1 (.sl H.length 0)))) (H ++ [.row [] T sz]) → Gh k0 Q fr H
  | nilc {fr : Fr} {H : Hp} (nm k T sz : Nat) (cs : List C) (T' : TypeId) : H[nm]? = some (.cells cs T') → cs[k]? = some nilC → Gh k0 Q fr (H.set nm (.cells (cs.set k (.sl H.length 0)) T') ++ [.row [] T sz]) → Gh k0 Q fr H
  | nf {fr : Fr} {H : Hp} (sl : Nat) : Gh k0 Q (put fr (some sl) (fr sl).nf) H → Gh k0 Q fr H
  | pub {fr : Fr} {H : Hp} (n : Nat) (xs : List (List C)) (T : TypeId) (sz : Nat) : H[n]? = some (.row xs T sz) → Gh k0 Q (fun i => (fr i).pub n xs) (pubH n xs H) → Gh k0 Q fr H

inductive Fin (k0 : Nat) (K : S → Hp → Prop) : S → Hp → Prop
  | done {r : S} {H : Hp} : K r H → Fin k0 K r H
  | sel {r : S} {H : Hp} (ns : List Nat) : ns.Nodup → (∀ n ∈ ns, n < H.length) → ns.take k0 = List.range k0 → Fin k0 K (r.ren (loc ns)) ((pickH H ns).map (B.ren (loc ns))) → Fin k0 K r H
  | kill {r : S} {H : Hp} (n : Nat) : Fin k0 K r (H.set n .dead) → Fin k0 K r H
  | nilc {r : S} {H : Hp} (nm k T sz : Nat) (cs : List C) (T' : TypeId) : H[nm]? = some (.cells cs T') → cs[k]? = some nilC → Fin k0 K r (H.set nm (.cells (cs.set k (.sl H.length 0)) T') ++ [.row [] T sz]) → Fin k0 K r H
  | pub {r : S} {H : Hp} (n : Nat) (xs : List (List C)) (T : TypeId) (sz : Nat) : H[n]? = some (.row xs T sz) → Fin k0 K (r.pub n xs) (pubH n xs H) → Fin k0 K r H

/-! ### What is to be shown -/
def callP (Γ : Env) (H : Hp) (f : FuncId) (as : List S) (σ : List Nat) (K : S → Hp → Prop) : Prop :=
  (σ.Nodup ∧ ∀ n ∈ σ, n < H.length) ∧ sp Γ f (as.map fun s => s.nf.ren (loc σ)) ((pickH H σ).map (B.ren (loc σ))) (fun r H' => K (r.ren (back σ H.length)) (mergeH σ H (H'.map (B.ren (back σ H.length)))))

def vI (Γ : Env) (fr : Fr) (H : Hp) (K : S → Hp → Prop) : I → Prop
  | .e i => gds fr i.sl ∧ vE (fst fr) H K i
  | .cl f xs σ => gds fr (O.sls xs) ∧ callP Γ H f (xs.map fun o => ev (fst fr) o) σ K
  | .ca x xs σ => gds fr (x.sl ++ O.sls xs) ∧ (match ev (fst fr) x with
    | .va (.c1 (.fn f ns)) => callP Γ H f ((xs.map fun o => ev (fst fr) o) ++ ns.map fun n => S.va (.c1 (.pt n 0))) σ K
    | _ => False)
  | _ => False

/-- A call of a function that only reads. -/
def cqP (Γ : Env) (fr : Fr) (H : Hp) (f : FuncId) (xs : List O) (g : Prop) (K : A → Prop) : Prop :=
  match fnOf Γ f with
  | none => False
  | some p => (g → gds fr (O.sls xs) ∧ p.pre (xs.map fun o => ((ev (fst fr) o).bor H).nf)) ∧ K (p.val (xs.map fun o => ((ev (fst fr) o).bor H).nf))

def vJ0 (Γ : Env) (fr : Fr) (H : Hp) (K : Fr → Hp → Prop) (d : Option Nat) : I → Prop
  | .q i => match qv (fst fr) H i with
    | some s => gds fr i.sl ∧ qc (fst fr) H i ∧ K (put fr d s) H
    | none => False
  | .ix x y => match ev (fst fr) x, ev (fst fr) y with
    | .va (.c1 (.vl (.string s))), .va (.c1 (.vl (.int _ k))) => (gds fr (x.sl ++ y.sl) ∧ 0 ≤ k ∧ k < (bl s).length) ∧ ∀ c : UInt8, (bl s)[k.toNat]? = some c → K (put fr d (iS .u8 c.toNat)) H
    | _, _ => False
  | .l i => gds fr i.sl ∧ vL (fst fr) H i fun s => K (put fr d s) H
  | .pick c x y => match ev (fst fr) c, ev (fst fr) x, ev (fst fr) y with
    | .va (.c1 (.vl (.bool b))), .va ax, .va ay => gds fr c.sl ∧ (b = true → gds fr x.sl) ∧ (b = false → gds fr y.sl) ∧ K (put fr d (.va (mrg b ax ay))) H
    | _, _, _ => False
  | .cq f xs => cqP Γ fr H f xs True fun a => K (put fr d (.va a)) H
  | i => vI Γ fr H (fun s H' => K (put fr d s) H') i

/-- What is loaded out of cells that are written out. -/
def lq (fr : Fr) (H : Hp) : LI → Option S
  | .ld1 x => match ev fr x with
    | .va (.c1 (.pt n off)) => match H[n]? with
      | some (.cells cs _) => (cs[off]?).map fun c => .va (.c1 c)
      | _ => none
    | _ => none
  | .ldn n x => match ev fr x with
    | .va (.c1 (.pt m off)) => match H[m]? with
      | some (.cells cs _) => if off + n ≤ cs.length then some (.va (.gs ((cs.drop off).take n))) else none
      | _ => none
    | _ => none
  | _ => none
theorem lq_vL {fr : Fr} {H : Hp} {i : LI} {s : S} (h : lq fr H i = some s) : vL fr H i (· = s) := by
  cases i with
  | ia sz x y => simp [lq] at h
  | ld1 x =>
    simp only [lq] at h
    simp only [vL]
    split at h <;> try (simp at h; done)
    rename_i n off hx
    split at h <;> try (simp at h; done)
    rename_i cs T hH
    simp only [hx, hH]
    cases hc : cs[off]? with
    | none => simp [hc] at h
    | some c => simp [hc] at h; exact h
  | ldn n x =>
    simp only [lq] at h
    simp only [vL]
    split at h <;> try (simp at h; done)
    rename_i m off hx
    split at h <;> try (simp at h; done)
    rename_i cs T hH
    simp only [hx, hH]
    split at h
    · rename_i hle; simp at h; exact ⟨hle, h⟩
    · cases h
def vJg (Γ : Env) (fr : Fr) (H : Hp) (K : Fr → Hp → Prop) (d : Option Nat) (sl : Nat) (want g : Bool) : I → Prop
  | .q i => match qv (fst fr) H i with
    | some s => (g = true → gds fr i.sl ∧ qc (fst fr) H i) ∧ K (put fr d (s.cnd g)) H
    | none => g = false ∧ K (put fr d dum) H
  | .ix x y => match ev (fst fr) x, ev (fst fr) y with
    | .va (.c1 (.vl (.string s))), .va (.c1 (.vl (.int _ k))) => (g = true → gds fr (x.sl ++ y.sl) ∧ 0 ≤ k ∧ k < (bl s).length) ∧ ∀ c : UInt8, (g = true → (bl s)[k.toNat]? = some c) → K (put fr d (.cn g (.c1 (.vl (.int .u8 c.toNat))))) H
    | _, _ => g = false ∧ K (put fr d dum) H
  | .l i => match lq (fst fr) H i with
    | some s => (g = true → gds fr i.sl) ∧ K (put fr d (s.cnd g)) H
    | none => (g = true → gds (rfn fr sl want) i.sl ∧ vL (fst (rfn fr sl want)) H i fun s => K (put (rfn fr sl want) d s) H) ∧ (g = false → K (put (rff fr sl want) d dum) H)
  | .pick c x y => match ev (fst fr) c, ev (fst fr) x, ev (fst fr) y with
    | .va (.c1 (.vl (.bool b))), .va ax, .va ay => (g = true → gds fr c.sl ∧ (b = true → gds fr x.sl) ∧ (b = false → gds fr y.sl)) ∧ K (put fr d (.cn g (mrg b ax ay))) H
    | _, _, _ => g = false ∧ K (put fr d dum) H
  | .cq f xs => cqP Γ fr H f xs (g = true) fun a => K (put fr d (.cn g a)) H
  | i => (g = true → vI Γ (rfn fr sl want) H (fun s H' => K (put (rfn fr sl want) d s) H') i) ∧ (g = false → K (put (rff fr sl want) d .un) H)

def vJ (Γ : Env) (fr : Fr) (H : Hp) (K : Fr → Hp → Prop) (j : J) : Prop :=
  match j.g with
  | none => vJ0 Γ fr H K j.d j.i
  | some (sl, want) => match gv fr sl want with
    | none => False
    | some g => vJg Γ fr H K j.d sl want g j.i

def vR (Γ : Env) : List J → Fr → Hp → (Fr → Hp → Prop) → Prop
  | [], fr, H, K => K fr H
  | j :: r, fr, H, K => vJ Γ fr H (fun fr' H' => vR Γ r fr' H' K) j

def J.dn (j : J) : Nat := j.d.getD 0
def vO (Γ : Env) : List OJ → Fr → Hp → (Fr → Hp → Prop) → Prop
  | [], fr, H, K => K fr H
  | .q j :: r, fr, H, K => vJ Γ fr H (fun fr' _ => vO Γ r (put fr j.d (fr' j.dn)) H K) j
  | .m j :: r, fr, H, K => vJ Γ fr H (fun fr' H' => vO Γ r fr' H' K) j
  | .rc j :: r, fr, H, K => vJ Γ fr H (fun fr' _ => fr' j.dn = fr j.dn) j ∧ vO Γ r fr H K

def vc (Γ : Env) (k0 : Nat) : PC → Fr → Hp → (Ex → Fr → Hp → Prop) → Prop
  | .skip, fr, H, K => K .n fr H
  | .seq x y, fr, H, K => vc Γ k0 x fr H (fun e fr' H' => match e with | .n => vc Γ k0 y fr' H' K | e => K e fr' H')
  | .reg js, fr, H, K => vR Γ js fr H (K .n)
  | .ord l, fr, H, K => vO Γ l fr H (K .n)
  | .cond o x y, fr, H, K => match ev (fst fr) o with
    | .va (.c1 (.vl (.bool b))) => gds fr o.sl ∧ (b = true → vc Γ k0 x fr H K) ∧ (b = false → vc Γ k0 y fr H K)
    | _ => False
  | .block id x, fr, H, K => vc Γ k0 x fr H (fun e fr' H' => match e with | .e j => if j = id then K .n fr' H' else K (.e j) fr' H' | e => K e fr' H')
  | .loop x, fr, H, K => ∃ Inv : Nat → Fr → Hp → Prop, (Gh k0 (fun fr H => ∃ m, Inv m fr H) fr H) ∧
      ∀ m fr H, Inv m fr H → vc Γ k0 x fr H (fun e fr' H' => match e with | .n => Gh k0 (fun fr'' H'' => ∃ m', m' < m ∧ Inv m' fr'' H'') fr' H' | e => K e fr' H')
  | .gh x, fr, H, K => Gh k0 (fun fr' H' => vc Γ k0 x fr' H' K) fr H
  | .exit id, fr, H, K => K (.e id) fr H
  | .no, _, _, _ => False
  | .ret, fr, H, K => K .r fr H

/-! ### The model's code, read -/
def enters (P : Program) (f : FuncId) : Bool :=
  match P.funcs[f]? with
  | some fn => fn.body.isSome && !(fn.name == "runtime.NumGoroutine")
  | none => false

/-- σ: of each call, by the region's number and the operation's place; gh: ahead of which regions steps of telling may stand: what the one who prints the program says. -/
inductive CH where
  | own (σ : List Nat)
  | q
structure Hint where
  σ : Nat → Nat → CH
  gh : Nat → Bool

def trI (P : Program) (nw : Bool) (σ : CH) (op : Op) : Option I :=
  match trQ P nw op with
  | some i => some (.q i)
  | none => match trL P op with
    | some i => some (.l i)
    | none => match trX P op with
      | some (x, y) => some (.ix x y)
      | none => match trE P op with
        | some i => some (.e i)
        | none => match op with
          | .pick c x y => some (.pick (trO c) (trO x) (trO y))
          | .call c => match c.callee with
            | .value (.func f) => some (match σ with | .own l => .cl f (c.args.toList.map trO) l | .q => .cq f (c.args.toList.map trO))
            | .value (.tmp t) => match σ with
              | .own l => some (.ca (.t t) (c.args.toList.map trO) l)
              | .q => none
            | _ => none
          | _ => none

def trG (ops : Array Oper) : Option (Nat × Bool) → Option (Option (Nat × Bool))
  | none => some none
  | some (j, want) => match (ops[j]?).bind (·.dst) with
    | some d => some (some (d, want))
    | none => none

def trJ (P : Program) (nw : Bool) (N : Nat) (ops : Array Oper) (σ : CH) (o : Oper) : Option J :=
  match trI P nw σ o.op, trG ops o.guard with
  | some i, some g => match o.dst with
    | some d => if d < N then some ⟨o.dst, g, i⟩ else none
    | none => some ⟨o.dst, g, i⟩
  | _, _ => none

def trR (P : Program) (nw : Bool) (N : Nat) (ops : Array Oper) (h : Nat → CH) : Nat → List Oper → Option (List J)
  | _, [] => some []
  | k, o :: r => match trJ P nw N ops (h k) o, trR P nw N ops h (k + 1) r with
    | some j, some js => some (j :: js)
    | _, _ => none

def J.quiet (j : J) : Bool :=
  match j.i with
  | .q _ | .ix _ _ | .l _ | .pick _ _ _ => true
  | _ => false

def J.quietC (j : J) : Bool :=
  match j.i with
  | .q _ | .ix _ _ | .l _ | .pick _ _ _ | .cq _ _ => true
  | _ => false

/-- How many instructions stand ahead of the first that is not quiet. -/
def headLen : List J → Nat
  | [] => 0
  | j :: r => if j.quiet then headLen r + 1 else 0

/-- How many instructions stand ahead of the first that is neither quiet nor a quiet call. -/
def headC : List J → Nat
  | [] => 0
  | j :: r => if j.quietC then headC r + 1 else 0
/-- An instruction that looks at its operands alone. -/
def pureOp (P : Program) (o : Oper) : Bool :=
  o.guard.isNone && match o.op with
    | .move _ | .assign _ => true
    | .binOp .add t _ _ _ | .binOp .sub t _ _ _ => (match P.underlying t with | some (.int _) => true | _ => false)
    | _ => false
/-- The instructions ahead of number n that may come up behind it. -/
def lateGo (ops : Array Oper) (n : Nat) : Nat → List Nat → List Nat
  | 0, acc => acc
  | i + 1, acc => lateGo ops n i (if (List.range (n + 1)).all fun j => !(decide (i < j) && Region.waitsFor .any ops j i) || acc.contains j then i :: acc else acc)
def lateL (ops : Array Oper) (n : Nat) : List Nat := lateGo ops n n []
def restL (ops : Array Oper) (n : Nat) : List Nat := (List.range n).filter fun i => !(lateL ops n).contains i
def marks (ls : List Nat) (l : Array Bool) : Array Bool := ls.foldl (fun l i => l.setIfInBounds i true) l
def takeB (ops : Array Oper) : List Nat → Array Bool → Bool
  | [], _ => true
  | k :: r, l => (Region.ready .any ops l).contains k && Region.free .any ops l k && takeB ops r (l.setIfInBounds k true)
def lexL (ops : Array Oper) (n : Nat) : List Nat → Array Bool → Bool
  | [], l => Region.seqB .any ops (ops.size - n) n l
  | k :: r, l => decide (k < n) && (Region.ready .any ops l).contains k && Region.free .any ops l k && lexL ops n r (l.setIfInBounds k true)
def sinkL (ops : Array Oper) (n : Nat) (ls : List Nat) : Bool :=
  (List.range n).all fun i => ls.contains i || (List.range (n + 1)).any fun j => decide (i < j) && !ls.contains j && Region.waitsFor .any ops j i
def lateB (P : Program) (ops : Array Oper) (n : Nat) : Bool :=
  Region.noSelect ops && decide (n < ops.size) && sinkL ops n (lateL ops n) && Region.chainB .any ops n && takeB ops (lateL ops n) (Array.replicate ops.size false) &&
    lexL ops n (restL ops n) (marks (lateL ops n) (Array.replicate ops.size false)) && (lateL ops n).all (fun i => match ops[i]? with | some o => pureOp P o | none => false) &&
    decide ((lateL ops n).length + ((restL ops n).length + (ops.size - n)) = ops.size)
/-- Some of a list, by their numbers. -/
def picks {α : Type} (l : List α) (is : List Nat) : List α := is.filterMap (l[·]?)
def lateJs (ops : Array Oper) (js : List J) : List J := picks js (lateL ops (headC js)) ++ (picks js (restL ops (headC js)) ++ js.drop (headC js))

/-- An operation that makes a list of parts: it changes nothing that stands. -/
def growB (P : Program) : Op → Bool
  | .buildSlice t _ _ => match P.underlying t with
    | some (.slice e) => match P.info? e with
      | some i => i.zero.isSome
      | none => false
    | _ => false
  | _ => false
/-- Operation n makes a list of parts; what stands ahead of it may come up behind it, but ahead of the next. -/
def earlyB (P : Program) (ops : Array Oper) (n : Nat) : Bool :=
  Region.noSelect ops && decide (n + 1 < ops.size) && Region.chainB .any ops n && Region.chainB .any ops (n + 1) && sinkL ops (n + 1) [] && lexL ops n (List.range n) (Array.replicate ops.size false) &&
    (match ops[n]? with
    | some on => on.guard.isNone && growB P on.op && (List.range n).all fun j => !Region.waitsFor .any ops j n && (Region.waitsFor .any ops n j || (match ops[j]? with
      | some oj => on.apart ops oj
      | none => true))
    | none => false)

/-! ### Regions read in an order of their own: what is quiet as early as may be, what makes memory as late as may be -/
def I.sl : I → List Nat
  | .q i => i.sl
  | .ix x y => x.sl ++ y.sl
  | .l i => i.sl
  | .e i => i.sl
  | .pick c x y => c.sl ++ (x.sl ++ y.sl)
  | .cl _ xs _ => O.sls xs
  | .ca x xs _ => x.sl ++ O.sls xs
  | .cq _ xs => O.sls xs
/-- The slots that an instruction looks at. -/
def J.rds (j : J) : List Nat := (match j.g with | some (sl, _) => [sl] | none => []) ++ j.i.sl
/-- Quiet, and no assignment to a variable. -/
def J.gix (j : J) : Bool := match j.g, j.i with
  | some _, .ix _ _ => true
  | _, _ => false
def qOf (j : J) (o : Oper) : Bool := j.quiet && !j.gix && j.d.isSome && (match o.op with | .assign _ => false | _ => true)
def aOf (j : J) : Bool := match j with
  | ⟨some _, none, .e (.al _ _)⟩ => true
  | _ => false
def isQ (ops : Array Oper) (js : List J) (i : Nat) : Bool := match js[i]?, ops[i]? with
  | some j, some o => qOf j o
  | _, _ => false
def isA (js : List J) (i : Nat) : Bool := match js[i]? with
  | some j => aOf j
  | none => false
def dsl (js : List J) (i : Nat) : Option Nat := (js[i]?).bind (·.d)
def rdl (js : List J) (i : Nat) : List Nat := match js[i]? with
  | some j => j.rds
  | none => []
/-- What has come up wherever i has. -/
def ancGo (ops : Array Oper) : List Nat → List Nat → List Nat
  | [], s => s
  | k :: r, s => ancGo ops r (if s.any fun t => Region.waitsFor .any ops t k then k :: s else s)
def anc (ops : Array Oper) (i : Nat) : List Nat := ancGo ops (List.range ops.size).reverse [i]
def readyB (ops : Array Oper) (pre : List Nat) (i : Nat) : Bool := !pre.contains i && (List.range ops.size).all fun k => !Region.waitsFor .any ops i k || pre.contains k
def ordGo (ops : Array Oper) (js : List J) : Nat → List Nat → List Nat
  | 0, _ => []
  | f + 1, pre => match (List.range ops.size).find? (fun i => readyB ops pre i && isQ ops js i) with
    | some i => i :: ordGo ops js f (pre ++ [i])
    | none => match (List.range ops.size).find? (fun i => readyB ops pre i && !isA js i) with
      | some i => i :: ordGo ops js f (pre ++ [i])
      | none => match (List.range ops.size).find? (readyB ops pre) with
        | some i => i :: ordGo ops js f (pre ++ [i])
        | none => []
def ordL (ops : Array Oper) (js : List J) : List Nat := ordGo ops js ops.size []
/-- One place of the order. -/
def chk1 (ops : Array Oper) (js : List J) (pre : List Nat) (i : Nat) (r : List Nat) : Bool :=
  decide (i < ops.size) && !pre.contains i && (match ops[i]? with | some o => o.after.all fun e => !Region.binds .any e || pre.contains e.on | none => false) &&
  (!(isQ ops js i || isA js i) || pre.all fun k => !(rdl js k).any fun s => dsl js i == some s) &&
  (pre.all fun k => !(rdl js i).any (fun s => dsl js k == some s) || !(isQ ops js k) || (anc ops i).contains k) &&
  (match dsl js i with
    | some d => pre.all fun k => !(dsl js k == some d)
    | none => true) &&
  (!(isQ ops js i) || !(rdl js i).any fun s => dsl js i == some s) &&
  (isQ ops js i || r.all fun j => isA js j || Region.waitsFor .any ops j i || r.any fun k => !isA js k && Region.waitsFor .any ops j k) &&
  (!(isA js i) || pre.all fun k => !isA js k)
def ordC (ops : Array Oper) (js : List J) : List Nat → List Nat → Bool
  | _, [] => true
  | pre, i :: r => chk1 ops js pre i r && ordC ops js (pre ++ [i]) r
def ordB (ops : Array Oper) (js : List J) : Bool := Region.noSelect ops && decide ((ordL ops js).length = ops.size) && ordC ops js [] (ordL ops js)
def rcs (js : List J) (qs kd : List Nat) : List OJ := qs.filterMap fun k => if kd.contains k then none else (js[k]?).map OJ.rc
def ordJs (ops : Array Oper) (js : List J) : List Nat → List Nat → List Nat → List OJ
  | _, _, [] => []
  | qs, kd, i :: r => match js[i]? with
    | none => []
    | some j => if isQ ops js i then .q j :: ordJs ops js (qs ++ [i]) kd r else .m j :: (rcs js qs (kd ++ anc ops i) ++ ordJs ops js qs (kd ++ anc ops i) r)

def tr (P : Program) (nw : Bool) (N : Nat) (h : Hint) : Code → Option PC
  | .skip => some .skip
  | .seq x y => match tr P nw N h x, tr P nw N h y with
    | some x, some y => some (.seq x y)
    | _, _ => none
  | .region id ops draw => match trR P nw N ops (h.σ id) 0 ops.toList with
    | some js => if draw then
        (if P.follows .mixedOrders && (if js.all J.quietC then Region.lexB .any ops else Region.lexTailB .any ops (headLen js)) then some (if h.gh id then .gh (.reg js) else .reg js)
        else if P.follows .mixedOrders && lateB P ops (headC js) then some (if h.gh id then .gh (.reg (lateJs ops js)) else .reg (lateJs ops js))
        else if P.follows .mixedOrders && earlyB P ops (headLen js) then some (if h.gh id then .gh (.reg js) else .reg js)
        else if P.follows .mixedOrders && ordB ops js then some (if h.gh id then .gh (.ord (ordJs ops js [] [] (ordL ops js))) else .ord (ordJs ops js [] [] (ordL ops js))) else none)
      else some (if h.gh id then .gh (.reg js) else .reg js)
    | none => none
  | .cond o x y => match tr P nw N h x, tr P nw N h y with
    | some x, some y => some (.cond (trO o) x y)
    | _, _ => none
  | .block id x => match tr P nw N h x with
    | some x => some (.block id x)
    | none => none
  | .loop x => match tr P nw N h x with
    | some x => some (.loop x)
    | none => none
  | .exit id => some (.exit id)
  | .refuse _ => some .no
  | .ret => some .ret
  | _ => none

/-! ### Congruence: an instruction looks at its own slots alone -/
theorem ev_congr {fr fr2 : Fr} {o : O} (h : ∀ i ∈ o.sl, fr i = fr2 i) : ev fr o = ev fr2 o := by
  cases o with
  | t i => exact h i (by simp [O.sl])
  | k v => rfl
  | f n => rfl

theorem bdV_congr {fr fr2 : Fr} : ∀ {ps : List (Nat × Nat × O)} {cs : List C}, (∀ i ∈ O.slp ps, fr i = fr2 i) → bdV fr cs ps = bdV fr2 cs ps
  | [], _, _ => rfl
  | (off, n, o) :: r, cs, h => by
    have h1 : ev fr o = ev fr2 o := ev_congr fun i hi => h i (by simp [O.slp, hi])
    simp only [bdV, h1]
    split
    · exact bdV_congr fun i hi => h i (by simp [O.slp, hi])
    · rfl

theorem bdC_congr {fr fr2 : Fr} {len : Nat} : ∀ {ps : List (Nat × Nat × O)}, (∀ i ∈ O.slp ps, fr i = fr2 i) → bdC fr len ps = bdC fr2 len ps
  | [], _ => rfl
  | (off, n, o) :: r, h => by
    have h1 : ev fr o = ev fr2 o := ev_congr fun i hi => h i (by simp [O.slp, hi])
    simp only [bdC, h1]
    rw [bdC_congr fun i hi => h i (by simp [O.slp, hi])]

theorem bnd_congr {fr fr2 : Fr} {d : Int} {o : Option O} (h : ∀ i ∈ O.slo o, fr i = fr2 i) : bnd fr d o = bnd fr2 d o := by
  cases o with
  | none => rfl
  | some o => simp only [bnd, ev_congr h]

theorem q_congr {fr fr2 : Fr} {H : Hp} {i : QI} (h : ∀ j ∈ i.sl, fr j = fr2 j) : qv fr H i = qv fr2 H i ∧ qc fr H i = qc fr2 H i := by
  have e2 : ∀ {x y : O}, (∀ j ∈ x.sl ++ y.sl, fr j = fr2 j) → ev fr x = ev fr2 x ∧ ev fr y = ev fr2 y := fun h => ⟨ev_congr fun i hi => h i (by simp [hi]), ev_congr fun i hi => h i (by simp [hi])⟩
  cases i <;> simp only [QI.sl] at h
  case bd zero ps => simp only [qv, qc, bdV_congr h, bdC_congr h]; exact ⟨trivial, trivial⟩
  case ss x lo hi =>
    have h1 : ev fr x = ev fr2 x := ev_congr fun i hi => h i (by simp [hi])
    have h2 : ∀ d, bnd fr d lo = bnd fr2 d lo := fun d => bnd_congr fun i hi => h i (by simp [hi])
    have h3 : ∀ d, bnd fr d hi = bnd fr2 d hi := fun d => bnd_congr fun i hi => h i (by simp [hi])
    simp only [qv, qc, h1, h2, h3]; exact ⟨trivial, trivial⟩
  case sf sz x lo hi =>
    have h1 : ev fr x = ev fr2 x := ev_congr fun i hi => h i (by simp [hi])
    have h2 : ∀ d, bnd fr d lo = bnd fr2 d lo := fun d => bnd_congr fun i hi => h i (by simp [hi])
    have h3 : ∀ d, bnd fr d hi = bnd fr2 d hi := fun d => bnd_congr fun i hi => h i (by simp [hi])
    simp only [qv, qc, h1, h2, h3]; exact ⟨trivial, trivial⟩
  all_goals first
    | (have h1 := ev_congr h; simp only [qv, qc, h1]; exact ⟨trivial, trivial⟩)
    | (obtain ⟨h1, h2⟩ := e2 h; simp only [qv, qc, h1, h2]; exact ⟨trivial, trivial⟩)
theorem l_congr {fr fr2 : Fr} {H : Hp} {K : S → Prop} {i : LI} (h : ∀ j ∈ i.sl, fr j = fr2 j) : vL fr H i K = vL fr2 H i K := by
  cases i <;> simp only [LI.sl] at h
  case ia sz x y =>
    have h1 : ev fr x = ev fr2 x := ev_congr fun i hi => h i (by simp [hi])
    have h2 : ev fr y = ev fr2 y := ev_congr fun i hi => h i (by simp [hi])
    simp only [vL, h1, h2]
  all_goals (have h1 := ev_congr h; simp only [vL, h1])
theorem rows_congr {fr fr2 : Fr} : ∀ {xs : List O}, (∀ i ∈ O.sls xs, fr i = fr2 i) → rows fr xs = rows fr2 xs ∧ oks fr xs = oks fr2 xs
  | [], _ => ⟨rfl, rfl⟩
  | o :: r, h => by
    have h1 : ev fr o = ev fr2 o := ev_congr fun i hi => h i (by simp [O.sls, hi])
    obtain ⟨h2, h3⟩ := rows_congr (xs := r) fun i hi => h i (by simp [O.sls, hi])
    exact ⟨by simp only [rows, h1, h2], by simp only [oks, h1, h3]⟩

theorem e_congr {fr fr2 : Fr} {H : Hp} {K : S → Hp → Prop} {i : EI} (h : ∀ j ∈ i.sl, fr j = fr2 j) : vE fr H K i = vE fr2 H K i := by
  have e2 : ∀ {x y : O}, (∀ j ∈ x.sl ++ y.sl, fr j = fr2 j) → ev fr x = ev fr2 x ∧ ev fr y = ev fr2 y := fun h => ⟨ev_congr fun i hi => h i (by simp [hi]), ev_congr fun i hi => h i (by simp [hi])⟩
  cases i <;> simp only [EI.sl] at h
  case bsl T sz xs => obtain ⟨h1, h2⟩ := rows_congr h; simp only [vE, h1, h2]
  case al => rfl
  case bx => have h1 := ev_congr h; simp only [vE, h1]
  case st => obtain ⟨h1, h2⟩ := e2 h; simp only [vE, h1, h2]
  case ap => obtain ⟨h1, h2⟩ := e2 h; simp only [vE, vA, h1, h2]
  case aps => obtain ⟨h1, h2⟩ := e2 h; simp only [vE, vA, h1, h2]
  case us => obtain ⟨h1, h2⟩ := e2 h; simp only [vE, h1, h2]

end Go.W
