/- Names; the examples of the chapter. -/
import Derived.Test.YtgophdhegdcekaaLexD
namespace Go.Proofs.Ytgophdhegdcekaa
open Go.W
def isNm (l : List UInt8) : Bool := match l with
  | [] => false
  | c :: _ => decide (l.length ≤ 16) && isLet c.toNat && l.all wordB
def strPre : List S → Prop := fun xs => match xs with
  | [.va (.c1 (.vl (.string _)))] => True
  | _ => False
theorem strPre_open {xs : List S} (h : strPre xs) : ∃ s, xs = [tS s] := by
  unfold strPre at h
  split at h
  · exact ⟨_, rfl⟩
  · exact h.elim
def strVal (f : List UInt8 → Value) : List S → A := fun xs => match xs with
  | [.va (.c1 (.vl (.string s)))] => .c1 (.vl (f (bl s)))
  | _ => .gs []
def strFn (f : List UInt8 → Value) : Fun := ⟨strPre, strVal f, fun xs h => by obtain ⟨s, rfl⟩ := strPre_open h; trivial⟩
theorem strFn_len {f : List UInt8 → Value} : ∀ xs H K, (strFn f).sp xs H K → xs.length = 1 := fun xs H K h => by obtain ⟨s, rfl⟩ := strPre_open h.1.1; rfl
attribute [go_sem] strFn strPre strVal
theorem isNm_long {l : List UInt8} (h : 16 < l.length) : isNm l = false := by
  cases l with
  | nil => rfl
  | cons c l => simp only [isNm]; have : decide ((c :: l).length ≤ 16) = false := by simp at h ⊢; omega
                rw [this]; rfl
theorem isNm_first {l : List UInt8} {c : UInt8} (h : l[0]? = some c) (hc : isLet c.toNat = false) : isNm l = false := by
  cases l with
  | nil => rfl
  | cons d l => simp at h; subst h; simp [isNm, hc]
theorem isNm_at {l : List UInt8} {i : Nat} {c : UInt8} (h : l[i]? = some c) (hc : wordB c = false) : isNm l = false := by
  cases l with
  | nil => rfl
  | cons d l =>
    have : (d :: l).all wordB = false := by rw [List.all_eq_false]; exact ⟨c, List.mem_of_getElem? h, by simp [hc]⟩
    simp only [isNm, this, Bool.and_false]
theorem isNm_true {l : List UInt8} {c : UInt8} (h : l[0]? = some c) (hl : l.length ≤ 16) (hc : isLet c.toNat = true) (ha : ∀ (j : Nat) (x : UInt8), l[j]? = some x → wordB x = true) : isNm l = true := by
  cases l with
  | nil => simp at h
  | cons d l =>
    simp at h; subst h
    have h1 : (d :: l).all wordB = true := by
      rw [List.all_eq_true]; intro x hx
      obtain ⟨j, hj⟩ := List.mem_iff_getElem?.1 hx
      exact ha j x hj
    simp only [isNm, h1, hc, Bool.and_true, decide_eq_true_eq]; exact hl
theorem cls346n (c : UInt8) : ((cls c.toNat != 3) && (cls c.toNat != 4) && (cls c.toNat != 6)) = !(wordB c) := by
  rw [← cls346]; simp [bne, Bool.not_or]
set_option maxRecDepth 100000 in
theorem mIsName : Meets Try.prog 12 (strFn fun l => .bool (isNm l)).sp := by
  refine meets_fn Try.func12 ok12 1 (by rw [Try.ntmps12]; decide) (meetsAll_f mClass (meetsAll_nil _)) strFn_len ?_
  rintro xs H K ⟨⟨h, rfl⟩, hK⟩
  obtain ⟨s, rfl⟩ := strPre_open h
  have hn : ∀ c : UInt8, (cls c.toNat != 3) = !(isLet c.toNat) := fun c => by rw [bne, cls3]
  simp -dsimp only [go_sem, pc12, rs12, hn] at hK ⊢
  generalize hg : (bl s == [] || decide (16 < ((bl s).length : Int))) = g
  have hg1 : g = false → 0 < (bl s).length ∧ (bl s).length ≤ 16 := fun h => by
    subst hg; simp at h
    exact ⟨List.length_pos_iff.2 h.1, by omega⟩
  have hg2 : g = true → isNm (bl s) = false := fun h => by
    subst hg; simp at h
    rcases h with h | h
    · rw [h]; rfl
    · exact isNm_long (by omega)
  refine ⟨fun h => ⟨by omega, by have := hg1 h; omega⟩, fun c hc => ⟨fun h => ?_, fun h => ?_, fun h => ?_⟩⟩
  · have := c.toNat_lt; omega
  · refine fin_eq hK ?_
    cases g with
    | true => rw [hg2 rfl]
    | false => simp at h; rw [isNm_first (hc rfl) h]
  simp at h
  obtain ⟨rfl, h3⟩ := h
  have hc := hc rfl
  obtain ⟨hl0, hl⟩ := hg1 rfl
  refine vc_loop (α := Nat) (fun i => [(0, tS s), (19, iS .i64 (bl s).length), (20, iS .i64 i)]) (fun i => []) (fun i => i ≤ (bl s).length ∧ ∀ (j : Nat) (x : UInt8), j < i → (bl s)[j]? = some x → wordB x = true) (fun i => (bl s).length - i) 0 0 ⟨by omega, by omega⟩ ?_ ?_ ?_
  · simp -dsimp only [go_sem]; simp
  · simp [go_sem]
  rintro i ⟨hi, ha⟩
  simp -dsimp only [go_sem, cls346n]
  have hlt : (bl s).length < 2^64 := by omega
  refine ⟨fun h1 => ⟨⟨by omega, by simpa using h1⟩, fun d hd => ⟨by have := d.toNat_lt; omega, fun h2 => ?_, fun h2 => ⟨by omega, ?_⟩⟩⟩, fun h1 => ?_⟩
  · refine fin_eq hK ?_
    rw [isNm_at hd h2]
  · refine loop_next (i + 1) 0 ⟨by have := (List.getElem?_eq_some_iff.1 hd).1; omega, fun j x hj hx => ?_⟩ (by have := (List.getElem?_eq_some_iff.1 hd).1; omega) ?_ ?_
    · rcases Nat.lt_or_ge j i with h4 | h4
      · exact ha j x h4 hx
      · obtain rfl : j = i := by omega
        rw [hd] at hx; obtain rfl := Option.some.inj hx
        simpa [wordB] using h2
    · simp -dsimp only [go_sem]; simp
    · simp [go_sem]
  · refine fin_eq hK ?_
    have : i = (bl s).length := by simp at h1; omega
    subst this
    rw [isNm_true hc hl h3 fun j x hx => ha j x (List.getElem?_eq_some_iff.1 hx).1 hx]
set_option maxRecDepth 100000 in
theorem mIsNameR : Meets Try.prog 13 (strFn fun l => .bool (isNm l)).sp := by
  refine meets_fn Try.func13 ok13 1 (by rw [Try.ntmps13]; decide) (meetsAll_f mLetter (meetsAll_f mWordB (meetsAll_nil _))) strFn_len ?_
  rintro xs H K ⟨⟨h, rfl⟩, hK⟩
  obtain ⟨s, rfl⟩ := strPre_open h
  simp -dsimp only [go_sem, pc13, rs13] at hK ⊢
  generalize hg : (decide (((bl s).length : Int) < 1) || decide (16 < ((bl s).length : Int))) = g
  have hg1 : g = false → 0 < (bl s).length ∧ (bl s).length ≤ 16 := fun h => by
    subst hg; simp at h
    exact ⟨by omega, by omega⟩
  have hg2 : g = true → isNm (bl s) = false := fun h => by
    subst hg; simp at h
    rcases h with h | h
    · have : bl s = [] := List.eq_nil_of_length_eq_zero (by omega)
      rw [this]; rfl
    · exact isNm_long (by omega)
  refine ⟨fun h => ⟨by omega, by have := hg1 h; omega⟩, fun c hc => ⟨fun h => ?_, fun h => ?_, fun h => ?_⟩⟩
  · have := c.toNat_lt; omega
  · refine fin_eq hK ?_
    cases g with
    | true => rw [hg2 rfl]
    | false => simp at h; rw [isNm_first (hc rfl) h]
  simp at h
  obtain ⟨rfl, h3⟩ := h
  have hc := hc rfl
  obtain ⟨hl0, hl⟩ := hg1 rfl
  refine vc_loop (α := Nat) (fun i => [(0, tS s), (3, iS .i64 i)]) (fun i => []) (fun i => i ≤ (bl s).length ∧ ∀ (j : Nat) (x : UInt8), j < i → (bl s)[j]? = some x → wordB x = true) (fun i => (bl s).length - i) 0 0 ⟨by omega, by omega⟩ ?_ ?_ ?_
  · simp -dsimp only [go_sem]; simp
  · simp [go_sem]
  rintro i ⟨hi, ha⟩
  simp -dsimp only [go_sem]
  have hlt : (bl s).length < 2^64 := by omega
  refine ⟨fun h1 => ⟨⟨by omega, by simpa using h1⟩, fun d hd => ⟨by have := d.toNat_lt; omega, fun h2 => ?_, fun h2 => ⟨by omega, ?_⟩⟩⟩, fun h1 => ?_⟩
  · refine fin_eq hK ?_
    rw [isNm_at hd h2]
  · refine loop_next (i + 1) 0 ⟨by have := (List.getElem?_eq_some_iff.1 hd).1; omega, fun j x hj hx => ?_⟩ (by have := (List.getElem?_eq_some_iff.1 hd).1; omega) ?_ ?_
    · rcases Nat.lt_or_ge j i with h4 | h4
      · exact ha j x h4 hx
      · obtain rfl : j = i := by omega
        rw [hd] at hx; obtain rfl := Option.some.inj hx
        simpa [wordB] using h2
    · simp -dsimp only [go_sem]; simp
    · simp [go_sem]
  · refine fin_eq hK ?_
    have : i = (bl s).length := by simp at h1; omega
    subst this
    rw [isNm_true hc hl h3 fun j x hx => ha j x (List.getElem?_eq_some_iff.1 hx).1 hx]
def qTrue : Fun := ⟨fun xs => xs = [], fun _ => bA true, fun xs h => trivial⟩
theorem qTrue_len : ∀ xs H K, qTrue.sp xs H K → xs.length = 0 := fun xs H K h => by rw [show xs = [] from h.1.1]; rfl
attribute [go_sem] qTrue
theorem bl_mk (l : List UInt8) : bl (mk l) = l := by simp [bl, mk]
theorem awake_scan : scanR [97, 32, 61, 32, 45, 53] = .ok [⟨1, [97], 0, 0⟩, ⟨4, [61], 0, 2⟩, ⟨2, [], -5, 4⟩, ⟨0, [], 0, 6⟩] := by kernel_rfl
theorem awake_name : isNm [97, 95, 49] = true := by decide +kernel
set_option maxRecDepth 100000 in
theorem mAwake : Meets Try.prog 11 qTrue.sp := by
  refine meets_fn Try.func11 ok11 0 (by rw [Try.ntmps11]; decide) (meetsAll_s mScan (meetsAll_f mIsName (meetsAll_nil _))) qTrue_len ?_
  rintro xs H K ⟨⟨h, rfl⟩, hK⟩
  obtain rfl : xs = [] := h
  simp -dsimp only [go_sem, pc11, rs11, bl_mk] at hK ⊢
  simp only [awake_scan, awake_name, SR.toks, SR.err]
  simp
  all_goals exact .done hK
end Go.Proofs.Ytgophdhegdcekaa
