/- The lexer's small functions meet their specifications. -/
import Derived.Test.YtgophdhegdcekaaPc
import Derived.Test.YtgophdhegdcekaaPd
import Derived.Test.YtgophdhegdcekaaLexP
import Derived.Test.YtgophdhegdcekaaShelfIb
namespace Go.Proofs.Ytgophdhegdcekaa
open Go.W
abbrev iA (k : IntKind) (n : Int) : A := .c1 (.vl (.int k n))
abbrev bA (b : Bool) : A := .c1 (.vl (.bool b))
abbrev tA (b : ByteArray) : A := .c1 (.vl (.string b))
def bytePre : List S → Prop := fun xs => match xs with
  | [.va (.c1 (.vl (.int .u8 c)))] => 0 ≤ c ∧ c ≤ 255
  | _ => False
theorem bytePre_open {xs : List S} (h : bytePre xs) : ∃ c : Int, xs = [iS .u8 c] ∧ 0 ≤ c ∧ c ≤ 255 := by
  unfold bytePre at h
  split at h
  · exact ⟨_, rfl, h⟩
  · exact h.elim
def byteVal (f : Int → Value) : List S → A := fun xs => match xs with
  | [.va (.c1 (.vl (.int .u8 c)))] => .c1 (.vl (f c))
  | _ => .gs []
def byteFn (f : Int → Value) : Fun := ⟨bytePre, byteVal f, fun xs h => by obtain ⟨c, rfl, _⟩ := bytePre_open h; trivial⟩
theorem byteFn_len {f : Int → Value} : ∀ xs H K, (byteFn f).sp xs H K → xs.length = 1 := fun xs H K h => by obtain ⟨c, rfl, _⟩ := bytePre_open h.1.1; rfl
attribute [go_sem] byteFn bytePre byteVal
def ibPre : List S → Prop := fun xs => match xs with | [.va (.c1 (.vl (.string _))), .va (.c1 (.vl (.int .u8 _)))] => True | _ => False
def ibVal : List S → A := fun xs => match xs with | [.va (.c1 (.vl (.string s))), .va (.c1 (.vl (.int .u8 c)))] => iA .i64 (Lib.indexByte (bl s) c.toNat.toUInt8) | _ => .gs []
theorem ibPre_open {xs : List S} (h : ibPre xs) : ∃ s c, xs = [tS s, iS .u8 c] := by
  unfold ibPre at h
  split at h
  · exact ⟨_, _, rfl⟩
  · exact h.elim
def fnIb : Fun := ⟨ibPre, ibVal, fun xs h => by obtain ⟨s, c, rfl⟩ := ibPre_open h; trivial⟩
attribute [go_sem] fnIb ibPre ibVal
theorem mIb : Meets Try.prog 52 fnIb.sp := by
  refine ⟨by kernel_rfl, ?_⟩
  rintro xs vs E ro w K hl hrel hr ⟨⟨h, hE⟩, hK⟩
  obtain ⟨s, c, rfl⟩ := ibPre_open h
  obtain ⟨v0, v1, rfl⟩ : ∃ v0 v1, vs = [v0, v1] := by
    match vs, hl with
    | [v0, v1], _ => exact ⟨v0, v1, rfl⟩
  have h0 : v0 = .string s := hrel 0 _ _ rfl rfl
  have h1 : v1 = .int .u8 c := hrel 1 _ _ rfl rfl
  subst h0 h1
  refine (Try.strings_IndexByte s c w).mono ?_
  rintro e w' ⟨rfl, rfl⟩
  exact ⟨iS .i64 _, _, E, ro, rfl, rfl, by rw [hE]; exact hK, hr⟩
theorem mLetter : Meets Try.prog 29 (byteFn fun c => .bool (isLet c)).sp := by
  refine meets_fn Try.func29 ok29 1 (by rw [Try.ntmps29]; decide) (meetsAll_nil _) byteFn_len ?_
  rintro xs H K ⟨⟨h, rfl⟩, hK⟩
  obtain ⟨c, rfl, hc⟩ := bytePre_open h
  simp -dsimp only [go_sem, pc29, rs29] at hK ⊢
  and_intros
  all_goals first | exact fin_eq hK (by simp [isLet]) | (simp; omega)
theorem mDigit : Meets Try.prog 31 (byteFn fun c => .bool (isDig c)).sp := by
  refine meets_fn Try.func31 ok31 1 (by rw [Try.ntmps31]; decide) (meetsAll_nil _) byteFn_len ?_
  rintro xs H K ⟨⟨h, rfl⟩, hK⟩
  obtain ⟨c, rfl, hc⟩ := bytePre_open h
  simp -dsimp only [go_sem, pc31, rs31] at hK ⊢
  exact fin_eq hK (by simp [isDig])
theorem mWordB : Meets Try.prog 36 (byteFn fun c => .bool (isWord c)).sp := by
  refine meets_fn Try.func36 ok36 1 (by rw [Try.ntmps36]; decide) (meetsAll_f mLetter (meetsAll_f mDigit (meetsAll_nil _))) byteFn_len ?_
  rintro xs H K ⟨⟨h, rfl⟩, hK⟩
  obtain ⟨c, rfl, hc⟩ := bytePre_open h
  simp -dsimp only [go_sem, pc36, rs36] at hK ⊢
  and_intros
  all_goals first | exact fin_eq hK (by simp [isWord]) | (intros; simp_all; done) | omega
set_option maxRecDepth 100000 in
theorem mClass : Meets Try.prog 35 (byteFn fun c => .int .i64 (cls c)).sp := by
  refine meets_fn Try.func35 ok35 1 (by rw [Try.ntmps35]; decide) (meetsAll_f mIb (meetsAll_nil _)) byteFn_len ?_
  rintro xs H K ⟨⟨h, rfl⟩, hK⟩
  obtain ⟨c, rfl, hc⟩ := bytePre_open h
  simp -dsimp (maxSteps := 1000000) only [go_sem, pc35, rs35] at hK ⊢
  have hw : IntKind.i32.wrap c = c := wrap_inr (by simp [inr, IntKind.min, IntKind.max, IntKind.signed, IntKind.bits]; omega)
  rw [hw]
  have hm : decide (0 ≤ Lib.indexByte [123, 125, 40, 41, 91, 93, 58, 59, 44, 61, 46, 63, 33, 38, 124, 64] c.toNat.toUInt8) = isMark c := indexByte_neg _ _
  rw [hm]
  clear hm hw
  refine ⟨fun h1 => fin_eq hK ?_, fun h1 => ⟨fun h2 => fin_eq hK ?_, fun h2 => ⟨by simp; omega, fun h3 => fin_eq hK ?_, fun h3 => ⟨fun h4 => fin_eq hK ?_, fun h4 => ⟨fun h5 => fin_eq hK ?_, fun h5 => ⟨fun h6 => fin_eq hK ?_, fun h6 => ⟨fun h7 => fin_eq hK ?_, fun h7 => ⟨fun h8 => fin_eq hK ?_, fun h8 => fin_eq hK ?_⟩⟩⟩⟩⟩⟩⟩⟩
  all_goals simp only [cls, isLet, isDig, *, Bool.cond_true, Bool.cond_false]
set_option maxRecDepth 100000 in
theorem mMark : Meets Try.prog 34 (byteFn fun c => .bool (isMark c)).sp := by
  refine meets_fn Try.func34 ok34 1 (by rw [Try.ntmps34]; decide) (meetsAll_nil _) byteFn_len ?_
  rintro xs H K ⟨⟨h, rfl⟩, hK⟩
  obtain ⟨c, rfl, hc⟩ := bytePre_open h
  simp -dsimp only [go_sem, pc34, rs34] at hK ⊢
  have hml : marksB.length = 16 := rfl
  refine vc_loop (α := Nat) (fun i => [(0, iS .u8 c), (3, .va (tA (mk marksB))), (4, iS .i64 i)]) (fun _ => []) (fun i => i ≤ 16 ∧ ∀ j < i, marksB[j]? ≠ some c.toNat.toUInt8) (fun i => 16 - i) 0 0 ⟨by omega, by omega⟩ ?_ rfl ?_
  · simp [go_sem, marksB]
  rintro i ⟨hi, hj⟩
  simp -dsimp only [go_sem, hml]
  refine ⟨fun h1 => ⟨by simp at h1; omega, fun b hb => ⟨fun h2 => fin_eq hK ?_, fun h2 => ⟨by omega, loop_next (i + 1) 0 ⟨by simp at h1; omega, ?_⟩ (by simp at h1; omega) (by simp [go_sem]) rfl⟩⟩⟩, fun h1 => fin_eq hK ?_⟩
  · simp only [isMark]
    congr; symm
    rw [decide_eq_true_eq]
    simp at h2
    rw [← h2]
    simpa using List.mem_of_getElem? hb
  · intro j hj2 e
    by_cases hji : j = i
    · subst hji
      rw [hb] at e
      simp only [Option.some.injEq] at e
      rw [e] at h2
      simp at h2; omega
    · exact hj j (by omega) e
  · simp only [isMark]
    congr; symm
    rw [decide_eq_false_iff_not]
    intro hm
    obtain ⟨j, h3⟩ := List.mem_iff_getElem?.1 hm
    refine hj j ?_ h3
    have := (List.getElem?_eq_some_iff.1 h3).1
    simp at h1; omega
/-! ### the scanner's own block -/
abbrev scB (s : ByteArray) (a e t : Int) : B := .cells [.vl (.string s), .vl (.int .i64 a), .vl (.int .i64 e), .vl (.int .i64 t)] 46
def scSp (pre : List UInt8 → Int → Int → Int → Prop) (post : ByteArray → Int → Int → Int → (S → Hp → Prop) → Prop) : W.Spec := fun xs H K =>
  match xs, H with
  | [.va (.c1 (.pt 0 0))], [.cells [.vl (.string s), .vl (.int .i64 a), .vl (.int .i64 e), .vl (.int .i64 t)] 46] =>
      (0 ≤ a ∧ a ≤ (bl s).length ∧ (bl s).length ≤ 4000 ∧ pre (bl s) a e t) ∧ post s a e t K
  | _, _ => False
theorem scSp_open {pre : List UInt8 → Int → Int → Int → Prop} {post : ByteArray → Int → Int → Int → (S → Hp → Prop) → Prop} {xs : List S} {H : Hp} {K : S → Hp → Prop} (h : scSp pre post xs H K) :
    ∃ s a e t, xs = [.va (.c1 (.pt 0 0))] ∧ H = [scB s a e t] ∧ 0 ≤ a ∧ a ≤ (bl s).length ∧ (bl s).length ≤ 4000 ∧ pre (bl s) a e t ∧ post s a e t K := by
  unfold scSp at h
  split at h
  · obtain ⟨⟨h1, h2, h3, h4⟩, h5⟩ := h
    exact ⟨_, _, _, _, rfl, rfl, h1, h2, h3, h4, h5⟩
  · exact h.elim
theorem scSp_len {pre : List UInt8 → Int → Int → Int → Prop} {post : ByteArray → Int → Int → Int → (S → Hp → Prop) → Prop} : ∀ xs H K, scSp pre post xs H K → xs.length = 1 := fun xs H K h => by
  obtain ⟨s, a, e, t, rfl, _⟩ := scSp_open h; rfl
attribute [go_sem ↓] scSp
def kindSp : W.Spec := scSp (fun _ _ _ _ => True) fun s a e t K => K (iS .i64 (kindN (bl s) a.toNat)) [scB s a e t]
attribute [go_sem ↓] kindSp scB
theorem mKind : Meets Try.prog 46 kindSp := by
  refine meets_fn Try.func46 ok46 1 (by rw [Try.ntmps46]; decide) (meetsAll_f mClass (meetsAll_nil _)) scSp_len ?_
  intro xs H K h
  obtain ⟨s, a, e, t, rfl, rfl, h0, h1, h2, -, hK⟩ := scSp_open h
  simp -dsimp only [go_sem, pc46, rs46] at hK ⊢
  refine ⟨fun h3 => fin_eq hK ?_, fun h3 => ⟨by simp at h3; omega, fun c hc => ⟨⟨by omega, by have := c.toNat_lt; omega⟩, fin_eq hK ?_⟩⟩⟩
  · simp at h3; rw [kindN, List.getElem?_eq_none (by omega)]
  · rw [kindN, hc]
/-! ### fail -/
def failSp : W.Spec := fun xs H K =>
  match xs, H with
  | [.va (.c1 (.pt 0 0)), .va (.c1 (.vl (.int .i64 x))), .va (.c1 (.vl (.int .i64 y)))], [.cells [.vl (.string s), .vl (.int .i64 a), .vl (.int .i64 e), .vl (.int .i64 t)] 46] =>
      K (.tu []) [scB s a (bif e == 0 then x else e) (bif e == 0 then y else t)]
  | _, _ => False
attribute [go_sem ↓] failSp
theorem failSp_open {xs : List S} {H : Hp} {K : S → Hp → Prop} (h : failSp xs H K) :
    ∃ x y s a e t, xs = [.va (.c1 (.pt 0 0)), iS .i64 x, iS .i64 y] ∧ H = [scB s a e t] ∧ K (.tu []) [scB s a (bif e == 0 then x else e) (bif e == 0 then y else t)] := by
  unfold failSp at h
  split at h
  · exact ⟨_, _, _, _, _, _, rfl, rfl, h⟩
  · exact h.elim
theorem mFail : Meets Try.prog 50 failSp := by
  refine meets_fn Try.func50 ok50 3 (by rw [Try.ntmps50]; decide) (meetsAll_nil _) (fun xs H K h => by obtain ⟨x, y, s, a, e, t, rfl, _⟩ := failSp_open h; rfl) ?_
  intro xs H K h
  obtain ⟨x, y, s, a, e, t, rfl, rfl, hK⟩ := failSp_open h
  simp -dsimp only [go_sem, pc50, rs50] at hK ⊢
  refine ⟨fun h1 => ?_, fun h1 => ?_⟩
  · simp only [h1, Bool.cond_true] at hK; exact .done hK
  · simp only [h1, Bool.cond_false] at hK; exact .done hK
/-! ### skip -/
def skipSp : W.Spec := scSp (fun _ _ _ _ => True) fun s a e t K => K (.tu []) [scB s (skipN (bl s) a.toNat) e t]
attribute [go_sem ↓] skipSp
set_option maxRecDepth 100000 in
theorem mSkip : Meets Try.prog 45 skipSp := by
  refine meets_fn Try.func45 ok45 1 (by rw [Try.ntmps45]; decide) (meetsAll_s mKind (meetsAll_f mIb (meetsAll_nil _))) scSp_len ?_
  intro xs H K h
  obtain ⟨s, a, e, t, rfl, rfl, h0, h1, h2, -, hK⟩ := scSp_open h
  simp -dsimp only [go_sem, pc45, rs45] at hK ⊢
  refine vc_loop (α := Nat) (fun i => [(0, .va (.c1 (.pt 0 0)))]) (fun i => [scB s i e t]) (fun i => i ≤ (bl s).length ∧ skipN (bl s) i = skipN (bl s) a.toNat) (fun i => (bl s).length - i) a.toNat 1 ⟨by omega, rfl⟩ ?_ ?_ ?_
  · simp [go_sem]
  · simp [go_sem]; omega
  rintro i ⟨hi, hj⟩
  simp -dsimp only [go_sem]
  have hget : i < (bl s).length → (bl s)[i]? = some ((bl s).getD i 0) := getD_some 0
  refine ⟨fun h3 => ⟨⟨by omega, by omega, h2⟩, fun h4 => ⟨by omega, loop_next (i + 1) 1 ?_ ?_ ?_ ?_⟩, fun h4 => ⟨fun h5 => ⟨by omega, fun h6 => ?_, fun h6 => ?_⟩, fun h5 => ?_⟩⟩, fun h3 => ?_⟩
  · simp at h3
    have h7 := hget h3
    rw [kindN, h7] at h4
    simp only [cls1] at h4
    exact ⟨h3, by rw [skip_blank h7 h4, hj]⟩
  · simp at h3; omega
  · simp [go_sem]
  · simp [go_sem]
  · simp at h3
    have h7 := hget h3
    rw [kindN, h7] at h5
    simp only [cls2, beq_iff_eq] at h5
    rw [h5] at h7
    have h8 : Nat.toUInt8 10 = (10 : UInt8) := rfl
    rw [h8] at h6 ⊢
    obtain ⟨n, hn, hp, hl, hs⟩ := skip_hash1 h7 (by simpa using h6)
    rw [hn]
    refine ⟨by omega, loop_next (i + n) 1 ⟨hl, by rw [hs, hj]⟩ (by omega) (by simp [go_sem]) (by simp [go_sem])⟩
  · simp at h3
    have h7 := hget h3
    rw [kindN, h7] at h5
    simp only [cls2, beq_iff_eq] at h5
    rw [h5] at h7
    have h8 : Nat.toUInt8 10 = (10 : UInt8) := rfl
    rw [h8] at h6
    exact loop_next (bl s).length 1 ⟨Nat.le_refl _, by rw [skip_hash2 h7 (by simpa using h6), hj]⟩ (by omega) (by simp [go_sem]) (by simp [go_sem])
  · simp at h3
    have h7 := hget h3
    rw [kindN, h7] at h5 h4
    simp only [cls2, cls1] at h5 h4
    rw [← hj, skip_other h7 h4 h5] at hK
    exact .done hK
  · simp at h3
    rw [← hj, skip_end h3] at hK
    exact .done hK
end Go.Proofs.Ytgophdhegdcekaa
