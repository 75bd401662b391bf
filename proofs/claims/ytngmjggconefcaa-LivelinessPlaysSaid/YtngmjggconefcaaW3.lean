/- The W library, part 3: which operations are quiet instructions, and that they do what part 2 says. -/
import Derived.Test.YtngmjggconefcaaW2
import Derived.Lib.Builder
import Derived.Lib.UnsafeStr
import Derived.Laws.Externs
import Derived.KernelRfl
namespace Go.W

def sh1 (P : Program) (t : TypeId) : Option Sh :=
  match P.underlying t with
  | some (.int k) => some (.int k)
  | some .bool => some .bool
  | some .string => some .str
  | _ => none

def aggT (P : Program) (t : TypeId) : Option Bool :=
  match P.underlying t with
  | some (.struct _) => some true
  | some (.array _ _) => some true
  | some _ => some false
  | none => none

def szT (P : Program) (t : TypeId) : Option Nat := (P.info? t).map (·.size)

def bdP (P : Program) (fs : Array Field) : List (Nat × Operand) → Option (List (Nat × Nat × O))
  | [] => some []
  | (i, x) :: r => match fs[i]? with
    | some f => match szT P f.type, bdP P fs r with
      | some n, some l => some ((f.offset, n, trO x) :: l)
      | _, _ => none
    | none => none

def placesOf (P : Program) (fs : List Field) : Option (List (Nat × Nat)) := fs.mapM (fun f => (P.info? f.type).map fun i => (f.offset, i.size))

def eqPl (P : Program) : List Field → Option (List (Nat × Sh))
  | [] => some []
  | f :: r => match sh1 P f.type, aggT P f.type, eqPl P r with
    | some sh, some false, some l => if !(f.name == "_") then some ((f.offset, sh) :: l) else none
    | _, _, _ => none

def trCallQ (P : Program) (c : Call) : Option QI :=
  match c.callee, c.args.toList, c.argTypes.toList with
  | .builtin .len, [x], [t] => match P.underlying t with
    | some .string => some (.lnS (trO x))
    | some (.slice _) => some (.lnL (trO x))
    | _ => none
  | .builtin .unsafeSliceData, [x], [t] => match P.underlying t with
    | some (.slice _) => some (.usd (trO x))
    | _ => none
  | .value (.func f), [x], [_] => match P.funcs[f]? with
    | some fn => if fn.name == "internal/abi.NoEscape" && fn.origin == "" && fn.body.isNone then some (.mv (trO x)) else none
    | none => none
  | _, _, _ => none

def trQ (P : Program) (nw : Bool) (op : Op) : Option QI :=
  match op with
  | .move x => some (.mv (trO x))
  | .assign x => some (.mv (trO x))
  | .binOp op t x y _ => match P.underlying t with
    | some (.int _) => some (.bin op nw (trO x) (trO y))
    | some .string => some (.bin op nw (trO x) (trO y))
    | some .bool => match op with
      | .eql => some (.eqB false (trO x) (trO y))
      | .neq => some (.eqB true (trO x) (trO y))
      | _ => none
    | some (.pointer e) => if (P.info? e).isNone then none else match op with
      | .eql => some (.eqP false (trO x) (trO y))
      | .neq => some (.eqP true (trO x) (trO y))
      | _ => none
    | some (.struct fs) => if !P.stoodInHeld t && !P.eqGuardType P.depth t then match eqPl P fs.toList, op with
        | some l, .eql => some (.eqT false l (trO x) (trO y))
        | some l, .neq => some (.eqT true l (trO x) (trO y))
        | _, _ => none
      else none
    | _ => none
  | .unOp .not _ x => some (.not (trO x))
  | .unOp .neg _ x => some (.neg false (trO x))
  | .convert src dst x => match P.underlying src, P.underlying dst with
    | some (.int _), some (.int k) => some (.cvt k (trO x))
    | some (.pointer e), some .unsafePointer => match szT P e with
      | some (_ + 1) => some (.cu (trO x))
      | _ => none
    | some .unsafePointer, some (.pointer u) => match szT P u with
      | some k => if liesAt P P.depth u (k / P.cellsOf u) 0 u 1 then some (.c4u u k (trO x)) else none
      | none => none
    | some (.slice e), some .string => match P.underlying e with
      | some (.int .u8) => some (.b2s (trO x))
      | _ => none
    | _, _ => none
  | .fieldAddr s x f => match P.underlying s with
    | some (.struct fs) => match fs[f]? with
      | some f => match szT P f.type with
        | some (_ + 1) => some (.fa f.offset (trO x))
        | _ => none
      | none => none
    | _ => none
  | .field s x f => match P.underlying s with
    | some (.struct fs) => match fs[f]? with
      | some f => match aggT P f.type, szT P f.type with
        | some true, some n => some (.fldn f.offset n (trO x))
        | some false, some _ => some (.fld1 f.offset (trO x))
        | _, _ => none
      | none => none
    | _ => none
  | .build t parts => match P.underlying t, P.info? t with
    | some (.struct fs), some i => match i.zero, placesOf P fs.toList with
      | some z, some _ => (bdP P fs parts.toList).map fun l => .bd z.cells.toList l
      | _, _ => none
    | _, _ => none
  | .slice t x lo hi mx => match P.underlying t, mx with
    | some .string, none => some (.ss (trO x) (lo.map trO) (hi.map trO))
    | some (.slice e), none => match szT P e with
      | some n => some (.sf n (trO x) (lo.map trO) (hi.map trO))
      | none => none
    | _, _ => none
  | .call c => trCallQ P c
  | .extract x i => some (.ex (trO x) i)
  | .nilCheck x => some (.nc (trO x))
  | _ => none


def trL (P : Program) (op : Op) : Option LI :=
  match op with
  | .load t x => match aggT P t, szT P t with
    | some true, some n => some (.ldn n (trO x))
    | some false, some _ => some (.ld1 (trO x))
    | _, _ => none
  | .indexAddr t x i => match P.underlying t with
    | some (.slice e) => match szT P e with
      | some n => some (.ia n (trO x) (trO i))
      | none => none
    | _ => none
  | _ => none

def trX (P : Program) (op : Op) : Option (O × O) :=
  match op with
  | .index t x i => match P.underlying t with
    | some .string => some (trO x, trO i)
    | _ => none
  | _ => none

/-- What a quiet instruction's soundness says. -/
def QOk (P : Program) (o : Oper) (E : Es) (ro : RO) (a : Act) (s : S) : Prop :=
  ∃ v, s.rel (gm E) ro v ∧ ∀ X w, Rel X E ro w → (execOp a.eval o).run P w = .ok (.value v) w

theorem fold_set (off : Nat) : ∀ (vs : List Value) (k : Nat) (cur : List Value), off + k + vs.length ≤ cur.length →
    ((vs.zipIdx k).foldl (fun (cs : Array Value) (x : Value × Nat) => cs.setIfInBounds (off + x.2) x.1) cur.toArray) = (cur.take (off + k) ++ vs ++ cur.drop (off + k + vs.length)).toArray := by
  intro vs
  induction vs with
  | nil => intro k cur _; simp
  | cons v vs ih =>
    intro k cur hk
    simp only [List.length_cons] at hk
    simp only [List.zipIdx_cons, List.foldl_cons, List.setIfInBounds_toArray]
    rw [ih (k + 1) _ (by simp; omega)]
    congr 1
    have hp : off + k < cur.length := by omega
    rw [List.set_eq_take_append_cons_drop, if_pos hp]
    have e1 : (cur.take (off + k)).length = off + k := by simp; omega
    have t1 : List.take (off + (k + 1)) (cur.take (off + k) ++ v :: cur.drop (off + k + 1)) = cur.take (off + k) ++ [v] := by
      rw [List.take_append, e1, List.take_of_length_le (by omega), show off + (k + 1) - (off + k) = 1 by omega]; simp
    have t2 : List.drop (off + (k + 1) + vs.length) (cur.take (off + k) ++ v :: cur.drop (off + k + 1)) = cur.drop (off + k + (vs.length + 1)) := by
      rw [List.drop_append, e1, List.drop_of_length_le (by omega), show off + (k + 1) + vs.length - (off + k) = vs.length + 1 by omega]
      simp only [List.nil_append, List.drop_succ_cons, List.drop_drop]
      congr 1; omega
    rw [t1, t2]
    simp
theorem flat_get {xs : List (List C)} {sz : Nat} (h : ∀ x ∈ xs, x.length = sz) : ∀ {i j : Nat}, i < xs.length → j < sz → xs.flatten[i * sz + j]? = (xs[i]?).bind (·[j]?) := by
  induction xs with
  | nil => intro i j hi; simp at hi
  | cons x r ih =>
    intro i j hi hj
    have hx : x.length = sz := h x (by simp)
    cases i with
    | zero => simp [List.getElem?_append, hx, hj]
    | succ i =>
      simp only [List.flatten_cons, List.getElem?_append, hx]
      rw [if_neg (by rw [Nat.succ_mul]; omega), show (i + 1) * sz + j - sz = i * sz + j by rw [Nat.succ_mul]; omega]
      simpa using ih (fun y hy => h y (by simp [hy])) (by simpa using hi) hj

end Go.W
