/- Plain laws of the lexer: what its functions reckon. No program. -/
import Derived.Test.YtgophdhegdcekaaW15
import Derived.Shelf.Strings.Search1
namespace Go.Proofs.Ytgophdhegdcekaa
open Go.W
def isLet (c : Int) : Bool := (decide (97 ≤ c) && decide (c ≤ 122)) || (decide (65 ≤ c) && decide (c ≤ 90))
def isDig (c : Int) : Bool := decide (48 ≤ c) && decide (c ≤ 57)
def isWord (c : Int) : Bool := isLet c || isDig c || c == 95
def marksB : List UInt8 := [123, 125, 40, 41, 91, 93, 58, 59, 44, 61, 46, 63, 33, 38, 124, 64]
def isMark (c : Int) : Bool := decide (c.toNat.toUInt8 ∈ marksB)
def cls (c : Int) : Int :=
  bif c == 32 || c == 9 || c == 10 then 1 else bif c == 35 then 2 else bif isLet c then 3 else bif isDig c then 4
  else bif c == 45 then 5 else bif c == 95 then 6 else bif c == 34 then 7 else bif isMark c then 8 else 0
theorem indexByte_neg (l : List UInt8) (c : UInt8) : decide (0 ≤ Lib.indexByte l c) = decide (c ∈ l) := by
  rw [decide_eq_decide]
  induction l with
  | nil => simp [Lib.indexByte]
  | cons b l ih =>
    have hge := Lib.indexByte_ge l c
    rw [Lib.indexByte]
    by_cases hb : b = c
    · simp [hb]
    · have hb2 : (b == c) = false := by simpa using hb
      have hb3 : ¬ c = b := fun e => hb e.symm
      simp only [hb2, Bool.false_eq_true, if_false, List.mem_cons, hb3, false_or, ← ih]
      by_cases h : Lib.indexByte l c = -1
      · simp [h]
      · have h2 : (Lib.indexByte l c == -1) = false := by simpa using h
        simp only [h2, Bool.false_eq_true, if_false]; omega
def kindN (l : List UInt8) (at' : Nat) : Int := match l[at']? with | some c => cls c.toNat | none => -1
def skipL : Bool → List UInt8 → Nat
  | _, [] => 0
  | r, c :: l =>
    let r' := bif c == 35 then true else bif c == 10 then false else r
    bif !r' && !(c == 32 || c == 9 || c == 10) then 0 else skipL r' l + 1
def skipN (l : List UInt8) (a : Nat) : Nat := a + skipL false (l.drop a)
theorem skipL_le : ∀ r l, skipL r l ≤ l.length
  | _, [] => Nat.le_refl 0
  | r, c :: l => by
    simp only [skipL, List.length_cons]
    cases hh : (!(bif c == 35 then true else bif c == 10 then false else r) && !(c == 32 || c == 9 || c == 10))
    · have := skipL_le (bif c == 35 then true else bif c == 10 then false else r) l; simp only [Bool.cond_false]; omega
    · simp
theorem skipN_le {l : List UInt8} {a : Nat} (h : a ≤ l.length) : skipN l a ≤ l.length := by
  have := skipL_le false (l.drop a); simp at this; unfold skipN; omega
theorem cls1 (c : UInt8) : (cls c.toNat == 1) = (c == 32 || c == 9 || c == 10) := by
  have := byte_all (p := fun c => (cls c.toNat == 1) == (c == 32 || c == 9 || c == 10)) (by decide +kernel) c
  simpa using this
theorem cls2 (c : UInt8) : (cls c.toNat == 2) = (c == 35) := by
  have := byte_all (p := fun c => (cls c.toNat == 2) == (c == 35)) (by decide +kernel) c
  simpa using this
theorem skip_true (l : List UInt8) : skipL true l = bif decide (0 ≤ Lib.indexByte l 10) then (Lib.indexByte l 10).toNat + skipL false (l.drop (Lib.indexByte l 10).toNat) else l.length := by
  induction l with
  | nil => rfl
  | cons c l ih =>
    have hge := Lib.indexByte_ge l 10
    by_cases hc : c = 10
    · subst hc; simp [skipL, Lib.indexByte]
    · have hc2 : (c == 10) = false := by simpa using hc
      have e : skipL true (c :: l) = skipL true l + 1 := by simp [skipL, hc2]
      rw [e, ih, Lib.indexByte]
      simp only [hc2, Bool.false_eq_true, if_false]
      by_cases h : Lib.indexByte l 10 = -1
      · simp [h]
      · have h2 : (Lib.indexByte l 10 == -1) = false := by simpa using h
        have h3 : 0 ≤ Lib.indexByte l 10 := by omega
        have h4 : 0 ≤ Lib.indexByte l 10 + 1 := by omega
        have h5 : (Lib.indexByte l 10 + 1).toNat = (Lib.indexByte l 10).toNat + 1 := by omega
        simp only [h2, Bool.false_eq_true, if_false, h3, h4, decide_true, Bool.cond_true, h5, List.drop_succ_cons]
        omega
theorem drop_get {l : List UInt8} {i : Nat} {c : UInt8} (h : l[i]? = some c) : l.drop i = c :: l.drop (i + 1) := by
  obtain ⟨hi, rfl⟩ := List.getElem?_eq_some_iff.1 h
  exact List.drop_eq_getElem_cons hi
theorem skip_blank {l : List UInt8} {i : Nat} {c : UInt8} (h : l[i]? = some c) (hc : (c == 32 || c == 9 || c == 10) = true) : skipN l (i + 1) = skipN l i := by
  have h35 : (c == 35) = false := by
    have := byte_all (p := fun c => !(c == 32 || c == 9 || c == 10) || !(c == 35)) (by decide +kernel) c
    simp only [hc, Bool.not_true, Bool.false_or] at this; simpa using this
  simp only [skipN, drop_get h, skipL, h35, hc, Bool.cond_false, Bool.not_true, Bool.and_false, Bool.cond_self]
  omega
theorem skip_other {l : List UInt8} {i : Nat} {c : UInt8} (h : l[i]? = some c) (hc : (c == 32 || c == 9 || c == 10) = false) (h35 : (c == 35) = false) : skipN l i = i := by
  simp only [skipN, drop_get h, skipL, h35, hc, Bool.cond_false, Bool.not_false, Bool.and_true, Bool.cond_self]
  simp
theorem skip_end {l : List UInt8} {i : Nat} (h : l.length ≤ i) : skipN l i = i := by
  simp [skipN, List.drop_eq_nil_iff.2 h, skipL]
theorem skip_hash {l : List UInt8} {i : Nat} (h : l[i]? = some 35) : skipN l i = i + skipL true (l.drop i) := by
  simp [skipN, drop_get h, skipL]
theorem skip_hash1 {l : List UInt8} {i : Nat} (h : l[i]? = some 35) (h0 : 0 ≤ Lib.indexByte (l.drop i) 10) :
    ∃ n : Nat, Lib.indexByte (l.drop i) 10 = n ∧ 0 < n ∧ i + n ≤ l.length ∧ skipN l (i + n) = skipN l i := by
  obtain ⟨n, hn⟩ : ∃ n : Nat, Lib.indexByte (l.drop i) 10 = n := ⟨_, (Int.toNat_of_nonneg h0).symm⟩
  have h1 : skipL true (l.drop i) = n + skipL false ((l.drop i).drop n) := by rw [skip_true, hn]; simp
  have hp : 0 < n := by
    rcases Nat.eq_zero_or_pos n with h2 | h2
    · subst h2; rw [drop_get h, Lib.indexByte] at hn
      exfalso
      have hge := Lib.indexByte_ge (l.drop (i + 1)) 10
      simp at hn
      split at hn <;> omega
    · exact h2
  have hle := skipL_le true (l.drop i)
  simp only [List.length_drop] at hle
  have hi : i < l.length := (List.getElem?_eq_some_iff.1 h).1
  refine ⟨n, hn, hp, by omega, ?_⟩
  rw [skip_hash h, h1, skipN, List.drop_drop]
  omega
theorem skip_hash2 {l : List UInt8} {i : Nat} (h : l[i]? = some 35) (h0 : ¬ 0 ≤ Lib.indexByte (l.drop i) 10) : skipN l l.length = skipN l i := by
  have hi : i < l.length := (List.getElem?_eq_some_iff.1 h).1
  rw [skip_hash h, skip_true, skip_end (Nat.le_refl _)]
  simp [h0]; omega
inductive R where
  | ok (k : Int) (t : List UInt8) (n : Int) (z : Nat)
  | bad (e t : Int)
def wordB (c : UInt8) : Bool := isWord c.toNat
def runN (p : UInt8 → Bool) (l : List UInt8) (a : Nat) : Nat := a + ((l.drop a).takeWhile p).length
theorem runN_step {p : UInt8 → Bool} {l : List UInt8} {a : Nat} {c : UInt8} (h : l[a]? = some c) (hp : p c = true) : runN p l (a + 1) = runN p l a := by
  simp only [runN, drop_get h, List.takeWhile_cons, hp, if_true, List.length_cons]; omega
theorem runN_stop {p : UInt8 → Bool} {l : List UInt8} {a : Nat} (h : ∀ c, l[a]? = some c → p c = false) : runN p l a = a := by
  rcases Nat.lt_or_ge a l.length with h1 | h1
  · have h2 := getD_some (l := l) 0 h1
    simp only [runN, drop_get h2, List.takeWhile_cons, h _ h2, Bool.false_eq_true, if_false, List.length_nil, Nat.add_zero]
  · simp [runN, List.drop_eq_nil_iff.2 h1]
theorem runN_le {p : UInt8 → Bool} {l : List UInt8} {a : Nat} (h : a ≤ l.length) : runN p l a ≤ l.length := by
  have := (List.takeWhile_sublist (l := l.drop a) p).length_le
  simp at this; unfold runN; omega
theorem runN_ge {p : UInt8 → Bool} {l : List UInt8} {a : Nat} : a ≤ runN p l a := by unfold runN; omega
theorem cls346 (c : UInt8) : (cls c.toNat == 3 || cls c.toNat == 4 || cls c.toNat == 6) = wordB c := by
  have := byte_all (p := fun c => (cls c.toNat == 3 || cls c.toNat == 4 || cls c.toNat == 6) == wordB c) (by decide +kernel) c
  simpa using this
theorem cls5 (c : UInt8) : (cls c.toNat == 5) = (c == 45) := by
  have := byte_all (p := fun c => (cls c.toNat == 5) == (c == 45)) (by decide +kernel) c
  simpa using this
def wordR (l : List UInt8) (a : Nat) : R :=
  let z := runN wordB l a
  bif decide (16 < z - a) then .bad 3 a else bif l[z]? == some 45 then .bad 2 z else .ok 1 ((l.take z).drop a) 0 z
theorem runN_all {p : UInt8 → Bool} {l : List UInt8} {a : Nat} : ∀ c ∈ (l.take (runN p l a)).drop a, p c = true := by
  intro c hc
  have e : (l.take (runN p l a)).drop a = (l.drop a).takeWhile p := by
    rw [List.drop_take, runN, Nat.add_sub_cancel_left]
    exact (List.prefix_iff_eq_take.1 (List.takeWhile_prefix p)).symm
  rw [e] at hc
  have : ∀ (q : List UInt8), ∀ c ∈ q.takeWhile p, p c = true := by
    intro q
    induction q with
    | nil => intro c h; simp at h
    | cons x q ih =>
      intro c h
      rw [List.takeWhile_cons] at h
      split at h
      · rcases List.mem_cons.1 h with rfl | h
        · assumption
        · exact ih c h
      · simp at h
  exact this _ c hc
/-! ### numbers -/
def digB (c : UInt8) : Bool := isDig c.toNat
theorem cls4 (c : UInt8) : (cls c.toNat == 4) = digB c := by
  have := byte_all (p := fun c => (cls c.toNat == 4) == digB c) (by decide +kernel) c
  simpa using this
theorem cls365 (c : UInt8) : (cls c.toNat == 3 || cls c.toNat == 6 || cls c.toNat == 5) = ((wordB c && !digB c) || c == 45) := by
  have := byte_all (p := fun c => (cls c.toNat == 3 || cls c.toNat == 6 || cls c.toNat == 5) == ((wordB c && !digB c) || c == 45)) (by decide +kernel) c
  simpa using this
theorem digB_iff {c : UInt8} : digB c = true ↔ 48 ≤ c.toNat ∧ c.toNat ≤ 57 := by
  simp [digB, isDig]; omega
/-- The number of digits, up to a limit. -/
def valL (lim : Nat) : Nat → List UInt8 → Option Nat
  | n, [] => some n
  | n, c :: l => if (lim - (c.toNat - 48)) / 10 < n then none else valL lim (10 * n + (c.toNat - 48)) l
def limit (neg : Bool) : Nat := bif neg then 9223372036854775808 else 9223372036854775807
theorem valL_le {lim : Nat} (h : 9 ≤ lim) : ∀ {l : List UInt8} {n m : Nat}, n ≤ lim → (∀ c ∈ l, digB c = true) → valL lim n l = some m → m ≤ lim
  | [], n, m, hn, _, hv => by simp [valL] at hv; omega
  | c :: l, n, m, hn, hd, hv => by
    simp only [valL] at hv
    split at hv
    · cases hv
    · rename_i hc
      have := digB_iff.1 (hd c (by simp))
      exact valL_le h (by omega) (fun x hx => hd x (by simp [hx])) hv
def signed (neg : Bool) (n : Nat) : Int := bif neg then -n else n
/-- What may not follow a number. -/
def wmAt (l : List UInt8) (i : Nat) : Bool := match l[i]? with | some c => wordB c && !digB c || c == 45 | none => false
def numR (l : List UInt8) (a : Nat) : R :=
  let neg := l[a]? == some 45
  let f := bif neg then a + 1 else a
  let z := runN digB l f
  let s := (l.take z).drop f
  bif s == [] || (s[0]? == some 48 && (decide (1 < s.length) || neg)) then .bad 2 a
  else match valL (limit neg) 0 s with
    | none => .bad 4 a
    | some n => bif wmAt l z then .bad 2 z else .ok 2 [] (signed neg n) z
end Go.Proofs.Ytgophdhegdcekaa
