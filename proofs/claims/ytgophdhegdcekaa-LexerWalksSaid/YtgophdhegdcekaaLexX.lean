/- The Scanners made; a nil Scanner's methods. -/
import Derived.Test.YtgophdhegdcekaaLexV
namespace Go.Proofs.Ytgophdhegdcekaa
open Go.W
def newSp : W.Spec := fun xs H K =>
  match xs, H with
  | [.va (.c1 (.vl (.string s)))], [] => ((scanR (bl s)).err = 0 → K (.tu [.c1 (.pt 0 0), iA .i64 0, iA .i64 0]) [wkB 57 (scanR (bl s)).toks 0]) ∧
      ((scanR (bl s)).err ≠ 0 → K (.tu [.c1 (.vl (.pointer none)), iA .i64 (scanR (bl s)).err, iA .i64 (scanR (bl s)).off]) [])
  | _, _ => False
theorem newSp_open {xs : List S} {H : Hp} {K : S → Hp → Prop} (h : newSp xs H K) : ∃ s, xs = [tS s] ∧ H = [] ∧ ((scanR (bl s)).err = 0 → K (.tu [.c1 (.pt 0 0), iA .i64 0, iA .i64 0]) [wkB 57 (scanR (bl s)).toks 0]) ∧
      ((scanR (bl s)).err ≠ 0 → K (.tu [.c1 (.vl (.pointer none)), iA .i64 (scanR (bl s)).err, iA .i64 (scanR (bl s)).off]) []) := by
  unfold newSp at h
  split at h
  · exact ⟨_, rfl, rfl, h.1, h.2⟩
  · exact h.elim
def newRSp : W.Spec := fun xs H K =>
  match xs, H with
  | [.va (.c1 (.vl (.string s)))], [] => K (.tu [.gs [.fz ((scanR (bl s)).toks.map tkL), .vl (.int .i64 0)], iA .i64 (scanR (bl s)).err, iA .i64 (scanR (bl s)).off]) []
  | _, _ => False
theorem newRSp_open {xs : List S} {H : Hp} {K : S → Hp → Prop} (h : newRSp xs H K) : ∃ s, xs = [tS s] ∧ H = [] ∧ K (.tu [.gs [.fz ((scanR (bl s)).toks.map tkL), .vl (.int .i64 0)], iA .i64 (scanR (bl s)).err, iA .i64 (scanR (bl s)).off]) [] := by
  unfold newRSp at h
  split at h
  · exact ⟨_, rfl, rfl, h⟩
  · exact h.elim
attribute [go_sem ↓] newSp newRSp
set_option maxRecDepth 100000 in
theorem mNew : Meets Try.prog 14 newSp := by
  refine meets_fn Try.func14 ok14 1 (by rw [Try.ntmps14]; decide) (meetsAll_s mScan (meetsAll_nil _)) (fun xs H K h => by obtain ⟨s, rfl, _⟩ := newSp_open h; rfl) ?_
  intro xs H K h
  obtain ⟨s, rfl, rfl, hK1, hK2⟩ := newSp_open h
  simp -dsimp only [go_sem, pc14, rs14]
  refine ⟨fun h => .done (hK2 (by simpa using h)), fun h => ?_⟩
  have hK := hK1 (by simpa using h)
  exact .sel [0] (by simp) (by simp) rfl (.done hK)
set_option maxRecDepth 100000 in
theorem mNewR : Meets Try.prog 15 newRSp := by
  refine meets_fn Try.func15 ok15 1 (by rw [Try.ntmps15]; decide) (meetsAll_s mScanR (meetsAll_nil _)) (fun xs H K h => by obtain ⟨s, rfl, _⟩ := newRSp_open h; rfl) ?_
  intro xs H K h
  obtain ⟨s, rfl, rfl, hK⟩ := newRSp_open h
  simp -dsimp only [go_sem, pc15, rs15]
  exact .sel [] (by simp) (by simp) rfl (.done hK)
def nilPre : List S → Prop := fun xs => match xs with
  | [.va (.c1 (.vl (.pointer none)))] => True
  | _ => False
theorem nilPre_open {xs : List S} (h : nilPre xs) : xs = [.va (.c1 (.vl (.pointer none)))] := by
  unfold nilPre at h
  split at h
  · rfl
  · exact h.elim
def nilTok : Fun := ⟨nilPre, fun _ => .gs (tkC 0 (mk []) 0 0), fun xs _ => by simp [A.flat]⟩
theorem nilTok_len : ∀ xs H K, nilTok.sp xs H K → xs.length = 1 := fun xs H K h => by rw [nilPre_open h.1.1]; rfl
attribute [go_sem] nilTok nilPre
set_option maxRecDepth 100000 in
theorem mPeekN : Meets Try.prog 18 nilTok.sp := by
  refine meets_fn Try.func18 Nil.ok18 1 (by rw [Try.ntmps18]; decide) (meetsAll_nil _) nilTok_len ?_
  rintro xs H K ⟨⟨h, rfl⟩, hK⟩
  obtain rfl := nilPre_open h
  simp -dsimp only [go_sem, Nil.pc18, Nil.rs18] at hK ⊢
  simp only [Option.isNone, Bool.not_true, Bool.true_eq_false, false_implies, true_implies, true_and]
  exact .sel [] (by simp) (by simp) rfl (.done hK)
set_option maxRecDepth 100000 in
theorem mStepN : Meets Try.prog 16 nilTok.sp := by
  refine meets_fn Try.func16 Nil.ok16 1 (by rw [Try.ntmps16]; decide) (meetsAll_f mPeekN (meetsAll_nil _)) nilTok_len ?_
  rintro xs H K ⟨⟨h, rfl⟩, hK⟩
  obtain rfl := nilPre_open h
  simp -dsimp only [go_sem, Nil.pc16, Nil.rs16] at hK ⊢
  exact .sel [] (by simp) (by simp) rfl (.done hK)
def nilTakePre : List S → Prop := fun xs => match xs with
  | [.va (.c1 (.vl (.pointer none))), .va (.c1 (.vl (.int .i64 k))), .va (.c1 (.vl (.string _)))] => k ≠ 0
  | _ => False
theorem nilTakePre_open {xs : List S} (h : nilTakePre xs) : ∃ k w, xs = [.va (.c1 (.vl (.pointer none))), iS .i64 k, tS w] ∧ k ≠ 0 := by
  unfold nilTakePre at h
  split at h
  · exact ⟨_, _, rfl, h⟩
  · exact h.elim
def nilTake : Fun := ⟨nilTakePre, fun _ => bA false, fun xs _ => trivial⟩
theorem nilTake_len : ∀ xs H K, nilTake.sp xs H K → xs.length = 3 := fun xs H K h => by obtain ⟨k, w, rfl, _⟩ := nilTakePre_open h.1.1; rfl
def nilMarkPre : List S → Prop := fun xs => match xs with
  | [.va (.c1 (.vl (.pointer none))), .va (.c1 (.vl (.string _)))] => True
  | _ => False
theorem nilMarkPre_open {xs : List S} (h : nilMarkPre xs) : ∃ w, xs = [.va (.c1 (.vl (.pointer none))), tS w] := by
  unfold nilMarkPre at h
  split at h
  · exact ⟨_, rfl⟩
  · exact h.elim
def nilMark : Fun := ⟨nilMarkPre, fun _ => bA false, fun xs _ => trivial⟩
theorem nilMark_len : ∀ xs H K, nilMark.sp xs H K → xs.length = 2 := fun xs H K h => by obtain ⟨w, rfl⟩ := nilMarkPre_open h.1.1; rfl
attribute [go_sem] nilTake nilTakePre nilMark nilMarkPre
set_option maxRecDepth 100000 in
theorem mTakeN : Meets Try.prog 37 nilTake.sp := by
  refine meets_fn Try.func37 Nil.ok37 3 (by rw [Try.ntmps37]; decide) (meetsAll_f mPeekN (meetsAll_f mStepN (meetsAll_nil _))) nilTake_len ?_
  rintro xs H K ⟨⟨h, rfl⟩, hK⟩
  obtain ⟨k, w, rfl, hk⟩ := nilTakePre_open h
  simp -dsimp only [go_sem, Nil.pc37, Nil.rs37] at hK ⊢
  refine ⟨fun _ => .sel [] (by simp) (by simp) rfl (.done hK), fun h => ?_⟩
  simp at h
  exact absurd h.1.symm hk
set_option maxRecDepth 100000 in
theorem mMarkN : Meets Try.prog 20 nilMark.sp := by
  refine meets_fn Try.func20 Nil.ok20 2 (by rw [Try.ntmps20]; decide) (meetsAll_f mTakeN (meetsAll_nil _)) nilMark_len ?_
  rintro xs H K ⟨⟨h, rfl⟩, hK⟩
  obtain ⟨w, rfl⟩ := nilMarkPre_open h
  simp -dsimp only [go_sem, Nil.pc20, Nil.rs20] at hK ⊢
  exact ⟨by decide, .done hK⟩
set_option maxRecDepth 100000 in
theorem mWordN : Meets Try.prog 22 nilMark.sp := by
  refine meets_fn Try.func22 Nil.ok22 2 (by rw [Try.ntmps22]; decide) (meetsAll_f mTakeN (meetsAll_nil _)) nilMark_len ?_
  rintro xs H K ⟨⟨h, rfl⟩, hK⟩
  obtain ⟨w, rfl⟩ := nilMarkPre_open h
  simp -dsimp only [go_sem, Nil.pc22, Nil.rs22] at hK ⊢
  exact ⟨by decide, .done hK⟩
end Go.Proofs.Ytgophdhegdcekaa
