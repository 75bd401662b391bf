/- Changes, how they are compared; insertion sort. -/
import Derived.Test.YtngmjggconefcaaW18
import Derived.Test.YtngmjggconefcaaPa
namespace Go.Proofs.Ytngmjggconefcaa
open Go.W
abbrev iA (k : IntKind) (n : Int) : A := .c1 (.vl (.int k n))
abbrev bA (b : Bool) : A := .c1 (.vl (.bool b))
/-- A change: whose, when, alive or silent. -/
structure Chg where
  id : Int
  at' : Int
  up : Bool
abbrev chC (c : Chg) : List C := [.vl (.int .i64 c.id), .vl (.int .i64 c.at'), .vl (.bool c.up)]
def C.chg (r : List C) : Chg := match r with
  | [.vl (.int .i64 i), .vl (.int .i64 t), .vl (.bool b)] => ⟨i, t, b⟩
  | _ => ⟨0, 0, false⟩
def cmpI (a b : Int) : Int := bif decide (a < b) then -1 else bif decide (b < a) then 1 else 0
def cmpC (a b : Chg) : Int := bif cmpI a.at' b.at' == 0 then cmpI a.id b.id else cmpI a.at' b.at'
def ltC (a b : Chg) : Bool := decide (cmpC a b < 0)
def before (a b : Chg) : Bool := decide (a.at' < b.at') || (a.at' == b.at' && decide (a.id < b.id))
theorem ltC_eq (a b : Chg) : ltC a b = before a b := by
  unfold ltC before cmpC cmpI
  rcases Int.lt_trichotomy a.at' b.at' with h | h | h
  · simp [h]
  · simp [h]
    rcases Int.lt_trichotomy a.id b.id with h | h | h
    · simp [h]
    · simp [h]
    · simp [h, show ¬ a.id < b.id by omega]
  · simp [h, show ¬ a.at' < b.at' by omega]
    omega
theorem swo : Swo ltC where
  asym a b h := by
    rw [ltC_eq] at h ⊢
    simp [before] at h ⊢
    omega
  ntr a b c h k := by
    rw [ltC_eq] at h k ⊢
    simp [before] at h k ⊢
    omega
def i2Pre : List S → Prop := fun xs => match xs with
  | [.va (.c1 (.vl (.int .i64 _))), .va (.c1 (.vl (.int .i64 _)))] => True
  | _ => False
theorem i2Pre_open {xs : List S} (h : i2Pre xs) : ∃ a b, xs = [iS .i64 a, iS .i64 b] := by
  unfold i2Pre at h
  split at h
  · exact ⟨_, _, rfl⟩
  · exact h.elim
def i2Val (f : Int → Int → Value) : List S → A := fun xs => match xs with
  | [.va (.c1 (.vl (.int .i64 a))), .va (.c1 (.vl (.int .i64 b)))] => .c1 (.vl (f a b))
  | _ => .gs []
def i2Fn (f : Int → Int → Value) : Fun := ⟨i2Pre, i2Val f, fun xs h => by obtain ⟨a, b, rfl⟩ := i2Pre_open h; trivial⟩
theorem i2Fn_len {f : Int → Int → Value} : ∀ xs H K, (i2Fn f).sp xs H K → xs.length = 2 := fun xs H K h => by obtain ⟨a, b, rfl⟩ := i2Pre_open h.1.1; rfl
def i1Pre : List S → Prop := fun xs => match xs with
  | [.va (.c1 (.vl (.int .i64 _)))] => True
  | _ => False
theorem i1Pre_open {xs : List S} (h : i1Pre xs) : ∃ a, xs = [iS .i64 a] := by
  unfold i1Pre at h
  split at h
  · exact ⟨_, rfl⟩
  · exact h.elim
def i1Val (f : Int → Value) : List S → A := fun xs => match xs with
  | [.va (.c1 (.vl (.int .i64 a)))] => .c1 (.vl (f a))
  | _ => .gs []
def i1Fn (f : Int → Value) : Fun := ⟨i1Pre, i1Val f, fun xs h => by obtain ⟨a, rfl⟩ := i1Pre_open h; trivial⟩
theorem i1Fn_len {f : Int → Value} : ∀ xs H K, (i1Fn f).sp xs H K → xs.length = 1 := fun xs H K h => by obtain ⟨a, rfl⟩ := i1Pre_open h.1.1; rfl
attribute [go_sem ↓] i2Pre i2Val i2Fn i1Pre i1Val i1Fn
theorem mNaN : Meets Try.prog 41 (i1Fn fun _ => .bool false).sp := by
  refine meets_fn Try.func41 ok41 1 (by rw [Try.ntmps41]; decide) (meetsAll_nil _) i1Fn_len ?_
  rintro xs H K ⟨⟨h, rfl⟩, hK⟩
  obtain ⟨a, rfl⟩ := i1Pre_open h
  simp -dsimp only [go_sem, pc41, rs41, bne] at hK ⊢
  exact .done hK
theorem mCompare : Meets Try.prog 36 (i2Fn fun a b => .int .i64 (cmpI a b)).sp := by
  refine meets_fn Try.func36 ok36 2 (by rw [Try.ntmps36]; decide) (meetsAll_f mNaN (meetsAll_nil _)) i2Fn_len ?_
  rintro xs H K ⟨⟨h, rfl⟩, hK⟩
  obtain ⟨a, b, rfl⟩ := i2Pre_open h
  simp -dsimp only [go_sem, pc36, rs36] at hK ⊢
  refine ⟨fun h1 => .done ?_, fun h1 => ⟨fun h2 => .done ?_, fun h2 => .done ?_⟩⟩
  · simpa [cmpI, h1] using hK
  · simpa [cmpI, h1, h2] using hK
  · simpa [cmpI, h1, h2] using hK
def orL : List Int → Int
  | [] => 0
  | n :: l => bif n == 0 then orL l else n
abbrev inC (n : Int) : List C := [.vl (.int .i64 n)]
def orPre : List S → Prop := fun xs => match xs with
  | [.va (.c1 (.fz rs))] => ∃ l : List Int, rs = l.map inC ∧ l.length ≤ 1000000
  | _ => False
theorem orPre_open {xs : List S} (h : orPre xs) : ∃ l : List Int, xs = [.va (.c1 (.fz (l.map inC)))] ∧ l.length ≤ 1000000 := by
  unfold orPre at h
  split at h
  · obtain ⟨l, rfl, h1⟩ := h; exact ⟨l, rfl, h1⟩
  · exact h.elim
def orVal : List S → A := fun xs => match xs with
  | [.va (.c1 (.fz rs))] => iA .i64 (orL (rs.map fun r => C.gi r[0]?))
  | _ => .gs []
theorem orVal_eq (l : List Int) : orVal [.va (.c1 (.fz (l.map inC)))] = iA .i64 (orL l) := by
  show iA .i64 (orL ((l.map inC).map fun r => C.gi r[0]?)) = _
  rw [List.map_map, show ((fun r => C.gi r[0]?) ∘ inC) = id from funext fun n => rfl, List.map_id]
def orFn : Fun := ⟨orPre, orVal, fun xs h => by obtain ⟨l, rfl, _⟩ := orPre_open h; rw [orVal_eq]; trivial⟩
theorem orFn_len : ∀ xs H K, orFn.sp xs H K → xs.length = 1 := fun xs H K h => by obtain ⟨l, rfl, _⟩ := orPre_open h.1.1; rfl
theorem mOr : Meets Try.prog 35 orFn.sp := by
  refine meets_fn Try.func35 ok35 1 (by rw [Try.ntmps35]; decide) (meetsAll_nil _) orFn_len ?_
  rintro xs H K ⟨⟨h, rfl⟩, hK⟩
  obtain ⟨l, rfl, hl⟩ := orPre_open h
  have hK' : K (iS .i64 (orL l)) [] := by have := hK; rw [show orFn.val = orVal from rfl, orVal_eq] at this; exact this
  simp -dsimp only [go_sem, pc35, rs35]
  refine vc_loop (α := Nat) (fun i => [(3, iS .i64 0), (6, .va (.c1 (.fz (l.map inC)))), (7, iS .i64 l.length), (8, iS .i64 i)]) (fun _ => []) (fun i => i ≤ l.length ∧ orL (l.drop i) = orL l) (fun i => l.length - i) 0 0 ⟨by omega, rfl⟩ ?_ rfl ?_
  · simp [go_sem]
  rintro i ⟨hi, ho⟩
  simp -dsimp only [go_sem, all_map, bne]
  refine ⟨fun h1 => ⟨by simp at h1; omega, fun n hn => ?_⟩, fun h1 => ?_⟩
  · have hd : l.drop i = n :: l.drop (i + 1) := by
      have hi := (List.getElem?_eq_some_iff.1 hn).1
      rw [List.drop_eq_getElem_cons hi]
      rw [List.getElem?_eq_getElem hi] at hn
      rw [Option.some.inj hn]
    rw [hd] at ho
    simp only [orL] at ho
    refine ⟨fun h2 => ?_, fun h2 => ⟨by omega, loop_next (i + 1) 0 ⟨by simp at h1; omega, ?_⟩ (by simp at h1; omega) ?_ rfl⟩⟩
    · rw [h2] at ho
      exact .done (by rw [show n = orL l from ho]; exact hK')
    · have h2' : (n == 0) = true := by simpa using h2
      rw [h2'] at ho; exact ho
    · simp [go_sem]
  · have : l.drop i = [] := List.drop_eq_nil_iff.2 (by simp at h1; omega)
    rw [this] at ho
    exact .done (by rw [show (0 : Int) = orL l from ho]; exact hK')
/-! ### The comparison of two changes -/
def ccPre : List S → Prop := fun xs => match xs with
  | [.va (.gs r), .va (.gs q)] => ∃ a b : Chg, r = chC a ∧ q = chC b
  | _ => False
theorem ccPre_open {xs : List S} (h : ccPre xs) : ∃ a b : Chg, xs = [.va (.gs (chC a)), .va (.gs (chC b))] := by
  unfold ccPre at h
  split at h
  · obtain ⟨a, b, rfl, rfl⟩ := h; exact ⟨a, b, rfl⟩
  · exact h.elim
theorem ccPre_mk (a b : Chg) : ccPre [.va (.gs (chC a)), .va (.gs (chC b))] := ⟨a, b, rfl, rfl⟩
def ccVal : List S → A := fun xs => match xs with
  | [.va (.gs r), .va (.gs q)] => iA .i64 (cmpC (C.chg r) (C.chg q))
  | _ => .gs []
theorem ccVal_eq (a b : Chg) : ccVal [.va (.gs (chC a)), .va (.gs (chC b))] = iA .i64 (cmpC a b) := rfl
def ccFn : Fun := ⟨ccPre, ccVal, fun xs h => by obtain ⟨a, b, rfl⟩ := ccPre_open h; trivial⟩
theorem ccFn_len : ∀ xs H K, ccFn.sp xs H K → xs.length = 2 := fun xs H K h => by obtain ⟨a, b, rfl⟩ := ccPre_open h.1.1; rfl
theorem mCmp : Meets Try.prog 34 ccFn.sp := by
  refine meets_fn Try.func34 ok34 2 (by rw [Try.ntmps34]; decide) (meetsAll_f mCompare (meetsAll_f mOr (meetsAll_nil _))) ccFn_len ?_
  rintro xs H K ⟨⟨h, rfl⟩, hK⟩
  obtain ⟨a, b, rfl⟩ := ccPre_open h
  have hK' : K (iS .i64 (cmpC a b)) [] := hK
  have hO : ∀ x y : Int, orVal [.va (.c1 (.fz [inC x, inC y]))] = iA .i64 (orL [x, y]) := fun x y => orVal_eq [x, y]
  simp -dsimp only [go_sem, pc34, rs34, orFn, hO]
  have e : orL [cmpI a.at' b.at', cmpI a.id b.id] = cmpC a b := by
    simp only [orL, cmpC]
    cases h1 : cmpI a.at' b.at' == 0 with
    | false => rfl
    | true =>
      cases h2 : cmpI a.id b.id == 0 with
      | false => rfl
      | true => simp only [Bool.cond_true]; have : cmpI a.id b.id = 0 := by simpa using h2
                exact this.symm
  exact ⟨⟨[_, _], rfl, by simp⟩, .sel [] (by simp) (by simp) rfl (.done (by rw [e]; exact hK'))⟩
end Go.Proofs.Ytngmjggconefcaa
