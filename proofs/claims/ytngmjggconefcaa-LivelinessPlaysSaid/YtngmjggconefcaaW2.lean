/- The W library, part 2: instructions that leave the world alone. -/
import Derived.Test.YtngmjggconefcaaW1
namespace Go.W

/-- Shapes of cells that are compared. -/
inductive Sh where
  | int (k : IntKind)
  | bool
  | str

/-- Quiet instructions whose value is reckoned. -/
inductive QI where
  | mv (x : O)
  | bin (op : BinOp) (nw : Bool) (x y : O)
  | eqB (neg : Bool) (x y : O)
  | eqP (neg : Bool) (x y : O)
  | eqT (neg : Bool) (fs : List (Nat × Sh)) (x y : O)
  | b2s (x : O)
  | not (x : O)
  | neg (nw : Bool) (x : O)
  | cvt (k : IntKind) (x : O)
  | fa (off : Nat) (x : O)
  | fld1 (off : Nat) (x : O)
  | fldn (off n : Nat) (x : O)
  | bd (zero : List Value) (parts : List (Nat × Nat × O))
  | ss (x : O) (lo hi : Option O)
  | sf (sz : Nat) (x : O) (lo hi : Option O)
  | lnS (x : O)
  | lnL (x : O)
  | ex (x : O) (i : Nat)
  | nc (x : O)
  | cu (x : O)
  | c4u (u k : Nat) (x : O)
  | usd (x : O)
/-- Quiet instructions that look into memory. -/
inductive LI where
  | ia (sz : Nat) (x i : O)
  | ld1 (x : O)
  | ldn (n : Nat) (x : O)

abbrev iS (k : IntKind) (n : Int) : S := .va (.c1 (.vl (.int k n)))
abbrev bS (b : Bool) : S := .va (.c1 (.vl (.bool b)))
abbrev tS (s : ByteArray) : S := .va (.c1 (.vl (.string s)))

/-- A text as its list of bytes, and back. -/
def mk (l : List UInt8) : ByteArray := ⟨l.toArray⟩
def bl (s : ByteArray) : List UInt8 := s.data.toList
@[simp] theorem bl_mk (l : List UInt8) : bl (mk l) = l := rfl
@[simp] theorem mk_bl (s : ByteArray) : mk (bl s) = s := ByteArray.ext (Array.toArray_toList (xs := s.data))
theorem size_bl (s : ByteArray) : s.size = (bl s).length := (Array.length_toList (xs := s.data)).symm
theorem toList_bl (s : ByteArray) : s.toList = bl s := ByteArray.toList_eq s

def inr (k : IntKind) (n : Int) : Prop := k.min ≤ n ∧ n ≤ k.max

def wr (k : IntKind) (nw : Bool) (n : Int) : Int := if nw then n else k.wrap n

def binI (op : BinOp) (nw : Bool) (k : IntKind) (a b : Int) : Option S :=
  match op with
  | .add => some (iS k (wr k nw (a + b)))
  | .sub => some (iS k (wr k nw (a - b)))
  | .mul => some (iS k (wr k nw (a * b)))
  | .quo => some (iS k (wr k nw (a.tdiv b)))
  | .rem => some (iS k (a.tmod b))
  | .eql => some (bS (a == b))
  | .neq => some (bS (a != b))
  | .lss => some (bS (decide (a < b)))
  | .leq => some (bS (decide (a ≤ b)))
  | .gtr => some (bS (decide (b < a)))
  | .geq => some (bS (decide (b ≤ a)))
  | .shl => some (iS k (k.wrap (a * 2 ^ (min b.toNat k.bits))))
  | .shr => some (iS k (a.fdiv (2 ^ (min b.toNat k.bits))))
  | .and => some (iS k (k.wrap (BitVec.ofInt k.bits a &&& BitVec.ofInt k.bits b).toNat))
  | .or => some (iS k (k.wrap (BitVec.ofInt k.bits a ||| BitVec.ofInt k.bits b).toNat))
  | .xor => some (iS k (k.wrap (BitVec.ofInt k.bits a ^^^ BitVec.ofInt k.bits b).toNat))
  | .andNot => some (iS k (k.wrap (BitVec.ofInt k.bits a &&& ~~~ (BitVec.ofInt k.bits b)).toNat))

def binIc (op : BinOp) (nw : Bool) (k k' : IntKind) (a b : Int) : Prop :=
  match op with
  | .add => k = k' ∧ (nw = true → inr k (a + b))
  | .sub => k = k' ∧ (nw = true → inr k (a - b))
  | .mul => k = k' ∧ (nw = true → inr k (a * b))
  | .quo => k = k' ∧ b ≠ 0 ∧ (nw = true → inr k (a.tdiv b))
  | .rem => k = k' ∧ b ≠ 0
  | .shl | .shr => 0 ≤ b
  | _ => k = k'

def binS (op : BinOp) (a b : ByteArray) : Option S :=
  match op with
  | .add => some (tS (mk (bl a ++ bl b)))
  | .eql => some (bS (bl a == bl b))
  | .neq => some (bS (!(bl a == bl b)))
  | .lss => some (bS (Op.bytesLess (bl a) (bl b)))
  | .leq => some (bS (Op.bytesLess (bl a) (bl b) || bl a == bl b))
  | .gtr => some (bS (!(Op.bytesLess (bl a) (bl b) || bl a == bl b)))
  | .geq => some (bS (!(Op.bytesLess (bl a) (bl b))))
  | _ => none

def binSc (op : BinOp) (a b : ByteArray) : Prop :=
  match op with
  | .add => (bl a).length + (bl b).length ≤ 9223372036854775807
  | _ => True

theorem wrap_inr {k : IntKind} {n : Int} (h : inr k n) : k.wrap n = n := by
  unfold inr IntKind.min IntKind.max at h
  unfold IntKind.wrap
  cases k <;> simp [IntKind.signed, IntKind.bits] at h ⊢ <;> omega

theorem wr_eq {k : IntKind} {nw : Bool} {n : Int} (h : nw = true → inr k n) : wr k nw n = k.wrap n := by
  unfold wr; split
  · exact (wrap_inr (h ‹_›)).symm
  · rfl

theorem run_binI {P : Program} {op : BinOp} {nw : Bool} {k k' : IntKind} {a b : Int} {t : TypeId} {s : S} (h : binI op nw k a b = some s) (hc : binIc op nw k k' a b) :
    ∃ v, (∀ γ ro, s.rel γ ro v) ∧ ∀ w, (binOp op t (.int k a) (.int k' b)).run P w = .ok v w := by
  cases op <;> simp only [binI, Option.some.injEq] at h <;> subst h <;> simp only [binIc] at hc
  case add => obtain ⟨rfl, hc⟩ := hc; exact ⟨_, fun _ _ => rfl, fun w => by simp [binOp, Op.intArith, wr_eq hc]⟩
  case sub => obtain ⟨rfl, hc⟩ := hc; exact ⟨_, fun _ _ => rfl, fun w => by simp [binOp, Op.intArith, wr_eq hc]⟩
  case mul => obtain ⟨rfl, hc⟩ := hc; exact ⟨_, fun _ _ => rfl, fun w => by simp [binOp, Op.intArith, wr_eq hc]⟩
  case quo => obtain ⟨rfl, h0, hc⟩ := hc; exact ⟨_, fun _ _ => rfl, fun w => by simp [binOp, Op.intDiv, h0, wr_eq hc]⟩
  case rem => obtain ⟨rfl, h0⟩ := hc; exact ⟨_, fun _ _ => rfl, fun w => by simp [binOp, Op.intDiv, h0]⟩
  case shl => exact ⟨_, fun _ _ => rfl, fun w => by simp [binOp, Op.shift, show ¬ b < 0 by omega]⟩
  case shr => exact ⟨_, fun _ _ => rfl, fun w => by simp [binOp, Op.shift, show ¬ b < 0 by omega]⟩
  all_goals (subst hc; exact ⟨_, fun _ _ => rfl, fun w => by simp [binOp, Op.intBits, Op.intCmp]⟩)

theorem run_binS {P : Program} {op : BinOp} {a b : ByteArray} {t : TypeId} {s : S} (h : binS op a b = some s) (hc : binSc op a b) :
    ∃ v, (∀ γ ro, s.rel γ ro v) ∧ ∀ w, (binOp op t (.string a) (.string b)).run P w = .ok v w := by
  cases op <;> simp only [binS, Option.some.injEq, reduceCtorEq] at h <;> subst h <;> simp only [binSc] at hc
  case add =>
    refine ⟨_, fun _ _ => rfl, fun w => ?_⟩
    have hsz : ¬ (((a.size + b.size : Nat) : Int) > IntKind.i64.max) := by
      rw [size_bl, size_bl]; simp [IntKind.max, IntKind.signed, IntKind.bits]; omega
    simp only [binOp, Op.stringOp, hsz, if_false, Sem.run_pure]
    congr 2
  all_goals exact ⟨_, fun _ _ => rfl, fun w => by simp [binOp, Op.stringOp, toList_bl]⟩


def eqC : Sh → C → C → Option Bool
  | .int _, .vl (.int k a), .vl (.int k' b) => if k = k' then some (a == b) else none
  | .str, .vl (.string a), .vl (.string b) => some (bl a == bl b)
  | .bool, .vl (.bool a), .vl (.bool b) => some (a == b)
  | _, _, _ => none

def eqF (cs ds : List C) : List (Nat × Sh) → Option Bool
  | [] => some true
  | (off, sh) :: r => match cs[off]?, ds[off]? with
    | some c, some d => match eqC sh c d, eqF cs ds r with
      | some x, some y => some (x && y)
      | _, _ => none
    | _, _ => none


def C.gi : Option C → Int
  | some (.vl (.int _ n)) => n
  | _ => 0
/-- The bytes of a row of bytes. -/
def rowB (xs : List (List C)) : List UInt8 := xs.map fun r => UInt8.ofNat (C.gi (r[0]?)).toNat
def splice (cs : List C) (off : Nat) (vs : List C) : List C := cs.take off ++ vs ++ cs.drop (off + vs.length)

def bdV (fr : Fr) : List C → List (Nat × Nat × O) → Option (List C)
  | cs, [] => some cs
  | cs, (off, _, o) :: r => match ev fr o with
    | .va a => bdV fr (splice cs off a.cells) r
    | _ => none

def bdC (fr : Fr) (len : Nat) : List (Nat × Nat × O) → Prop
  | [] => True
  | (off, n, o) :: r => (match ev fr o with
    | .va a => a.ok ∧ a.cells.length = n ∧ off + n ≤ len
    | _ => False) ∧ bdC fr len r

def bnd (fr : Fr) (d : Int) : Option O → Option Int
  | none => some d
  | some o => match ev fr o with | .va (.c1 (.vl (.int _ i))) => some i | _ => none


def C.isP : C → Bool
  | .pt _ _ | .qt _ _ _ _ _ | .fp _ _ => true
  | _ => false
def qv (fr : Fr) (H : Hp) : QI → Option S
  | .mv x => some (ev fr x)
  | .bin op nw x y => match ev fr x, ev fr y with
    | .va (.c1 (.vl (.int k a))), .va (.c1 (.vl (.int _ b))) => binI op nw k a b
    | .va (.c1 (.vl (.string a))), .va (.c1 (.vl (.string b))) => binS op a b
    | _, _ => none
  | .eqB neg x y => match ev fr x, ev fr y with
    | .va (.c1 (.vl (.bool a))), .va (.c1 (.vl (.bool b))) => some (bS (bif neg then !(a == b) else a == b))
    | _, _ => none
  | .eqP neg x y => match ev fr x, ev fr y with
    | .va (.c1 (.pt _ _)), .va (.c1 (.vl (.pointer none))) => some (bS neg)
    | .va (.c1 (.vl (.pointer a))), .va (.c1 (.vl (.pointer none))) => some (bS (bif neg then a.isSome else a.isNone))
    | .va (.c1 (.pt n o)), .va (.c1 (.pt m o')) => if n = m ∧ o = o' then some (bS (!neg)) else none
    | _, _ => none
  | .eqT neg fs x y => match ev fr x, ev fr y with
    | .va (.gs cs), .va (.gs ds) => (eqF cs ds fs).map fun b => bS (bif neg then !b else b)
    | _, _ => none
  | .b2s x => match ev fr x with
    | .va (.c1 (.vl (.slice none _ _))) => some (tS (mk []))
    | .va (.c1 (.sl n _)) => match H[n]? with
      | some (.row xs _ _) => some (tS (mk (rowB xs)))
      | _ => none
    | _ => none
  | .not x => match ev fr x with
    | .va (.c1 (.vl (.bool b))) => some (bS (!b))
    | _ => none
  | .neg nw x => match ev fr x with
    | .va (.c1 (.vl (.int k a))) => binI .sub nw k 0 a
    | _ => none
  | .cvt k x => match ev fr x with
    | .va (.c1 (.vl (.int _ a))) => some (iS k (k.wrap a))
    | _ => none
  | .fa off x => match ev fr x with
    | .va (.c1 (.pt n o)) => some (.va (.c1 (.pt n (o + off))))
    | .va (.c1 (.qt n len sz i j)) => some (.va (.c1 (.qt n len sz i (j + off))))
    | .va (.c1 (.fp r j)) => some (.va (.c1 (.fp r (j + off))))
    | _ => none
  | .fld1 off x => match ev fr x with
    | .va (.gs cs) => (cs[off]?).map fun c => .va (.c1 c)
    | _ => none
  | .fldn off n x => match ev fr x with
    | .va (.gs cs) => some (.va (.gs ((cs.drop off).take n)))
    | _ => none
  | .bd zero parts => (bdV fr (zero.map C.vl) parts).map fun cs => .va (.gs cs)
  | .ss x lo hi => match ev fr x with
    | .va (.c1 (.vl (.string s))) => match bnd fr 0 lo, bnd fr (bl s).length hi with
      | some l, some h => some (tS (mk (((bl s).take h.toNat).drop l.toNat)))
      | _, _ => none
    | _ => none
  | .sf _ x lo hi => match ev fr x with
    | .va (.c1 (.fz xs)) => match bnd fr 0 lo, bnd fr xs.length hi with
      | some l, some h => some (.va (.c1 (.fz ((xs.take h.toNat).drop l.toNat))))
      | _, _ => none
    | _ => none
  | .lnS x => match ev fr x with
    | .va (.c1 (.vl (.string s))) => some (iS .i64 (bl s).length)
    | _ => none
  | .lnL x => match ev fr x with
    | .va (.c1 (.sl _ n)) => some (iS .i64 n)
    | .va (.c1 (.fz xs)) => some (iS .i64 xs.length)
    | .va (.c1 (.vl (.slice _ n _))) => some (iS .i64 n)
    | _ => none
  | .ex x i => match ev fr x with
    | .tu l => (l[i]?).map fun a => .va a
    | _ => none
  | .nc x => match ev fr x with
    | .va (.c1 (.pt n o)) => some (.va (.c1 (.pt n o)))
    | .va (.c1 (.qt n len sz i j)) => some (.va (.c1 (.qt n len sz i j)))
    | .va (.c1 (.fp r j)) => some (.va (.c1 (.fp r j)))
    | .va (.c1 (.fn f ns)) => some (.va (.c1 (.fn f ns)))
    | _ => none
  | .cu x => match ev fr x with
    | .va (.c1 (.pt n o)) => some (.va (.c1 (.pt n o)))
    | _ => none
  | .c4u _ _ x => match ev fr x with
    | .va (.c1 (.pt n o)) => some (.va (.c1 (.pt n o)))
    | _ => none
  | .usd x => match ev fr x with
    | .va (.c1 (.sl n len)) => some (.va (.c1 (.dp n len)))
    | _ => none

def rowAt (H : Hp) (n len sz : Nat) : Prop :=
  match H[n]? with
  | some (.row xs _ sz') => xs.length = len ∧ sz' = sz
  | _ => False

def qc (fr : Fr) (H : Hp) : QI → Prop
  | .bin op nw x y => match ev fr x, ev fr y with
    | .va (.c1 (.vl (.int k a))), .va (.c1 (.vl (.int k' b))) => binIc op nw k k' a b
    | .va (.c1 (.vl (.string a))), .va (.c1 (.vl (.string b))) => binSc op a b
    | _, _ => False
  | .neg nw x => match ev fr x with
    | .va (.c1 (.vl (.int k a))) => nw = true → inr k (0 - a)
    | _ => False
  | .b2s x => match ev fr x with
    | .va (.c1 (.vl (.slice none _ _))) => True
    | .va (.c1 (.sl n len)) => match H[n]? with
      | some (.row xs _ sz) => xs.length = len ∧ sz = 1 ∧ ∀ r ∈ xs, r = [.vl (.int .u8 (C.gi (r[0]?)))]
      | _ => False
    | _ => False
  | .fa _ x => match ev fr x with
    | .va (.c1 (.qt n len sz _ _)) => rowAt H n len sz
    | _ => True
  | .nc x => match ev fr x with
    | .va (.c1 (.qt n len sz _ _)) => rowAt H n len sz
    | _ => True
  | .cu x => match ev fr x with
    | .va (.c1 (.pt n o)) => match H[n]? with
      | some (.cells cs _) => o < cs.length
      | _ => False
    | _ => False
  | .c4u u k x => match ev fr x with
    | .va (.c1 (.pt n o)) => match H[n]? with
      | some (.cells cs T) => o = 0 ∧ T = u ∧ cs.length = k
      | _ => False
    | _ => False
  | .usd x => match ev fr x with
    | .va (.c1 (.sl n len)) => match H[n]? with
      | some (.row xs _ _) => xs.length = len
      | _ => False
    | _ => False
  | .lnL x => match ev fr x with
    | .va (.c1 (.sl n len)) => match H[n]? with
      | some (.row xs _ _) => xs.length = len
      | _ => False
    | _ => True
  | .fldn off n x => match ev fr x with
    | .va (.gs cs) => off + n ≤ cs.length
    | _ => False
  | .bd zero parts => bdC fr zero.length parts
  | .ss x lo hi => match ev fr x with
    | .va (.c1 (.vl (.string s))) => match bnd fr 0 lo, bnd fr (bl s).length hi with
      | some l, some h => 0 ≤ l ∧ l ≤ h ∧ h ≤ (bl s).length
      | _, _ => False
    | _ => False
  | .sf sz x lo hi => match ev fr x with
    | .va (.c1 (.fz xs)) => match bnd fr 0 lo, bnd fr xs.length hi with
      | some l, some h => (0 ≤ l ∧ l ≤ h ∧ h ≤ xs.length) ∧ 0 < sz ∧ ∀ r ∈ xs, r.length = sz
      | _, _ => False
    | _ => False
  | _ => True

def vL (fr : Fr) (H : Hp) (i : LI) (K : S → Prop) : Prop :=
  match i with
  | .ia sz x i => match ev fr x, ev fr i with
    | .va (.c1 (.sl n len)), .va (.c1 (.vl (.int _ k))) => ((0 ≤ k ∧ k < len) ∧ rowAt H n len sz) ∧ K (.va (.c1 (.qt n len sz k.toNat 0)))
    | .va (.c1 (.fz xs)), .va (.c1 (.vl (.int _ k))) => ((0 ≤ k ∧ k < xs.length) ∧ ∀ r, xs[k.toNat]? = some r → r.length = sz) ∧ ∀ r, xs[k.toNat]? = some r → K (.va (.c1 (.fp r 0)))
    | _, _ => False
  | .ld1 x => match ev fr x with
    | .va (.c1 (.pt n off)) => (match H[n]? with
      | some (.cells cs _) => (match cs[off]? with | some c => K (.va (.c1 c)) | none => False)
      | _ => False)
    | .va (.c1 (.qt n len sz i j)) => (match H[n]? with
      | some (.row xs _ sz') => (xs.length = len ∧ sz' = sz ∧ i < xs.length) ∧ ∀ r, xs[i]? = some r → (match r[j]? with | some c => K (.va (.c1 c)) | none => False)
      | _ => False)
    | .va (.c1 (.fp r j)) => (match r[j]? with | some c => K (.va (.c1 c)) | none => False)
    | _ => False
  | .ldn n x => match ev fr x with
    | .va (.c1 (.pt m off)) => (match H[m]? with
      | some (.cells cs _) => off + n ≤ cs.length ∧ K (.va (.gs ((cs.drop off).take n)))
      | _ => False)
    | .va (.c1 (.qt m len sz i j)) => (match H[m]? with
      | some (.row xs _ sz') => (xs.length = len ∧ sz' = sz ∧ i < xs.length) ∧ ∀ r, xs[i]? = some r → j + n ≤ r.length ∧ K (.va (.gs ((r.drop j).take n)))
      | _ => False)
    | .va (.c1 (.fp r j)) => j + n ≤ r.length ∧ K (.va (.gs ((r.drop j).take n)))
    | _ => False

end Go.W
