/- The specification's scanner meets the same plain functions: skip, name. -/
import Derived.Test.YtgophdhegdcekaaLexG
import Derived.Test.YtgophdhegdcekaaPe
namespace Go.Proofs.Ytgophdhegdcekaa
open Go.W
def atPre : List S → Prop := fun xs => match xs with
  | [.va (.c1 (.vl (.string s))), .va (.c1 (.vl (.int .i64 a)))] => 0 ≤ a ∧ a ≤ (bl s).length ∧ (bl s).length ≤ 4000
  | _ => False
theorem atPre_open {xs : List S} (h : atPre xs) : ∃ s a, xs = [tS s, iS .i64 a] ∧ 0 ≤ a ∧ a ≤ (bl s).length ∧ (bl s).length ≤ 4000 := by
  unfold atPre at h
  split at h
  · exact ⟨_, _, rfl, h⟩
  · exact h.elim
def atVal (f : List UInt8 → Nat → Value) : List S → A := fun xs => match xs with
  | [.va (.c1 (.vl (.string s))), .va (.c1 (.vl (.int .i64 a)))] => .c1 (.vl (f (bl s) a.toNat))
  | _ => .gs []
def atFn (f : List UInt8 → Nat → Value) : Fun := ⟨atPre, atVal f, fun xs h => by obtain ⟨s, a, rfl, _⟩ := atPre_open h; trivial⟩
theorem atFn_len {f : List UInt8 → Nat → Value} : ∀ xs H K, (atFn f).sp xs H K → xs.length = 2 := fun xs H K h => by obtain ⟨s, a, rfl, _⟩ := atPre_open h.1.1; rfl
attribute [go_sem] atFn atPre atVal
set_option maxRecDepth 100000 in
theorem mSkipR : Meets Try.prog 28 (atFn fun l a => .int .i64 (skipN l a)).sp := by
  refine meets_fn Try.func28 ok28 2 (by rw [Try.ntmps28]; decide) (meetsAll_nil _) atFn_len ?_
  rintro xs H K ⟨⟨h, rfl⟩, hK⟩
  obtain ⟨s, a, rfl, h0, h1, h2⟩ := atPre_open h
  simp -dsimp only [go_sem, pc28, rs28] at hK ⊢
  have h10 : ∀ c : UInt8, ((c.toNat : Int) == 10) = (c == 10) := fun c => u8_beq 10
  have h35 : ∀ c : UInt8, ((c.toNat : Int) == 35) = (c == 35) := fun c => u8_beq 35
  have h32 : ∀ c : UInt8, ((c.toNat : Int) == 32) = (c == 32) := fun c => u8_beq 32
  have h9 : ∀ c : UInt8, ((c.toNat : Int) == 9) = (c == 9) := fun c => u8_beq 9
  refine vc_loop (α := Bool × Nat) (fun z => [(0, tS s), (1, iS .i64 z.2), (5, bS z.1)]) (fun z => []) (fun z => z.2 ≤ (bl s).length ∧ z.2 + skipL z.1 ((bl s).drop z.2) = skipN (bl s) a.toNat) (fun z => (bl s).length - z.2) (false, a.toNat) 0 ⟨by simp only; omega, rfl⟩ ?_ ?_ ?_
  · simp -dsimp only [go_sem]; simp [Int.toNat_of_nonneg h0]
  · simp [go_sem]
  rintro ⟨r, i⟩ ⟨hi, hr⟩
  simp only at hi hr
  simp -dsimp only [go_sem, bne, h10, h35, h32, h9]
  refine ⟨fun hlt => ⟨⟨by omega, by simpa using hlt⟩, fun c hc => ?_⟩, fun hge => fin_eq hK ?_⟩
  · have hlt : i < (bl s).length := (List.getElem?_eq_some_iff.1 hc).1
    rw [drop_get hc] at hr
    simp only [skipL] at hr
    have hstep : ∀ r' : Bool, (bif c == 35 then true else bif c == 10 then false else r) = r' → (!r' && !(c == 32 || c == 9 || c == 10)) = false → i + 1 + skipL r' ((bl s).drop (i + 1)) = skipN (bl s) a.toNat := by
      rintro r' rfl h
      rw [h, Bool.cond_false] at hr
      omega
    have hend : ∀ r' : Bool, (bif c == 35 then true else bif c == 10 then false else r) = r' → (!r' && !(c == 32 || c == 9 || c == 10)) = true → i = skipN (bl s) a.toNat := by
      rintro r' rfl h
      rw [h, Bool.cond_true] at hr
      omega
    refine ⟨fun q1 => ⟨fun q2 => ?_, fun q2 => ⟨fun q3 => ?_, fun q3 => ⟨by omega, loop_next (false, i + 1) 0 ⟨by simp only; omega, hstep _ (by simp [q1, q2]) (by simp [q1])⟩ (by simp only; omega) ?_ ?_⟩⟩⟩,
      fun q1 => ⟨fun q2 => ⟨by omega, loop_next (true, i + 1) 0 ⟨by simp only; omega, hstep _ (by simp [q2]) (by simp)⟩ (by simp only; omega) ?_ ?_⟩,
        fun q2 => ⟨fun q3 => ?_, fun q3 => ⟨by omega, loop_next (r, i + 1) 0 ⟨by simp only; omega, hstep _ (by simp [q1, q2]) (by simpa [Bool.and_assoc] using q3)⟩ (by simp only; omega) ?_ ?_⟩⟩⟩⟩
    · exfalso
      have e1 : c = 10 := by simpa using q1
      subst e1; cases q2
    · simp [q1] at q3
    · simp -dsimp only [go_sem]; simp
    · simp [go_sem]
    · simp -dsimp only [go_sem]; simp
    · simp [go_sem]
    · refine fin_eq hK ?_
      rw [← hend r (by simp [q1, q2]) (by simpa [Bool.and_assoc] using q3)]
    · simp -dsimp only [go_sem]; simp
    · simp [go_sem]
  · have : i = (bl s).length := by simp at hge; omega
    subst this
    simp [skipL] at hr
    rw [← hr]
/-- A reading, as the specification's functions return it. -/
def atSp (pre : List UInt8 → Nat → Prop) (post : ByteArray → Int → (S → Hp → Prop) → Prop) : W.Spec := fun xs H K =>
  match xs, H with
  | [.va (.c1 (.vl (.string s))), .va (.c1 (.vl (.int .i64 a)))], [] => (0 ≤ a ∧ a ≤ (bl s).length ∧ (bl s).length ≤ 4000 ∧ pre (bl s) a.toNat) ∧ post s a K
  | _, _ => False
theorem atSp_open {pre : List UInt8 → Nat → Prop} {post : ByteArray → Int → (S → Hp → Prop) → Prop} {xs : List S} {H : Hp} {K : S → Hp → Prop} (h : atSp pre post xs H K) :
    ∃ s a, xs = [tS s, iS .i64 a] ∧ H = [] ∧ 0 ≤ a ∧ a ≤ (bl s).length ∧ (bl s).length ≤ 4000 ∧ pre (bl s) a.toNat ∧ post s a K := by
  unfold atSp at h
  split at h
  · exact ⟨_, _, rfl, rfl, h.1.1, h.1.2.1, h.1.2.2.1, h.1.2.2.2, h.2⟩
  · exact h.elim
theorem atSp_len {pre : List UInt8 → Nat → Prop} {post : ByteArray → Int → (S → Hp → Prop) → Prop} : ∀ xs H K, atSp pre post xs H K → xs.length = 2 := fun xs H K h => by
  obtain ⟨s, a, rfl, _⟩ := atSp_open h; rfl
attribute [go_sem ↓] atSp
def Got : R → ByteArray → Int → Int → Int → Int → Prop
  | .ok _ x n z, x', n', z', e', t' => x' = mk x ∧ n' = n ∧ z' = z ∧ e' = 0 ∧ t' = 0
  | .bad e t, _, _, _, e', t' => e' = e ∧ t' = t
def nameSp : W.Spec := atSp (fun _ _ => True) fun s a K => ∀ x n z e t, Got (wordR (bl s) a.toNat) x n z e t → z = runN wordB (bl s) a.toNat → K (.tu [iA .i64 z, iA .i64 e, iA .i64 t]) []
attribute [go_sem ↓] nameSp
set_option maxRecDepth 100000 in
theorem mNameR : Meets Try.prog 30 nameSp := by
  refine meets_fn Try.func30 ok30 2 (by rw [Try.ntmps30]; decide) (meetsAll_f mWordB (meetsAll_nil _)) atSp_len ?_
  intro xs H K h
  obtain ⟨s, a, rfl, rfl, h0, h1, h2, -, hK⟩ := atSp_open h
  simp -dsimp only [go_sem, pc30, rs30] at hK ⊢
  have h45 : ∀ c : UInt8, ((c.toNat : Int) == 45) = (c == 45) := fun c => u8_beq 45
  refine vc_loop (α := Nat) (fun z => [(0, tS s), (1, iS .i64 a), (7, iS .i64 z)]) (fun z => []) (fun z => a.toNat ≤ z ∧ z ≤ (bl s).length ∧ runN wordB (bl s) z = runN wordB (bl s) a.toNat) (fun z => (bl s).length - z) a.toNat 0 ⟨by omega, by omega, rfl⟩ ?_ ?_ ?_
  · simp -dsimp only [go_sem]; simp [Int.toNat_of_nonneg h0]
  · simp [go_sem]
  rintro i ⟨hai, hi, hr⟩
  simp -dsimp only [go_sem, bne, h45]
  refine ⟨fun hlt => ⟨by omega, by simpa using hlt⟩, fun c hc => ⟨fun _ => by have := c.toNat_lt; omega, fun h3 => ?_, fun h3 => ?_⟩⟩
  · simp only [Bool.and_eq_true, decide_eq_true_eq] at h3
    have hc := hc (by simpa using h3.1)
    have hlt : i < (bl s).length := (List.getElem?_eq_some_iff.1 hc).1
    refine ⟨by omega, loop_next (i + 1) 0 ⟨by omega, hlt, by rw [runN_step hc h3.2, hr]⟩ (by omega) ?_ ?_⟩
    · simp -dsimp only [go_sem]; simp
    · simp [go_sem]
  · have hz : runN wordB (bl s) a.toNat = i := by
      rw [← hr]
      refine runN_stop fun d hd => ?_
      have hlt : i < (bl s).length := (List.getElem?_eq_some_iff.1 hd).1
      have hd2 := hc (by simp; omega)
      rw [hd] at hd2; obtain rfl := Option.some.inj hd2
      have hlt2 : decide ((i : Int) < (bl s).length) = true := by simp; omega
      rw [hlt2, Bool.true_and] at h3
      exact h3
    simp only [wordR, hz] at hK
    refine ⟨by omega, fun h4 => .done (hK (mk []) 0 _ _ _ ?_ rfl), fun h4 => ⟨fun hlt => ⟨by omega, by simpa using hlt⟩, fun d hd => ⟨fun h5 => .done (hK (mk []) 0 _ _ _ ?_ rfl), fun h5 => .done (hK (mk (List.drop a.toNat (List.take i (bl s)))) 0 _ _ _ ?_ rfl)⟩⟩⟩
    · have : decide (16 < i - a.toNat) = true := by simp at h4 ⊢; omega
      rw [this]; exact ⟨rfl, by simp; omega⟩
    all_goals
      have : decide (16 < i - a.toNat) = false := by simp at h4 ⊢; omega
      rw [this]
    · simp only [Bool.and_eq_true] at h5
      have := hd h5.1
      simp only [Bool.cond_false, this]
      rw [show (some d == some 45) = (d == 45) from rfl, h5.2]
      exact ⟨rfl, rfl⟩
    · have : ((bl s)[i]? == some 45) = false := by
        cases he : (bl s)[i]? with
        | none => rfl
        | some e =>
          have hlt : i < (bl s).length := (List.getElem?_eq_some_iff.1 he).1
          have hd2 := hd (by simp; omega)
          rw [he] at hd2; obtain rfl := Option.some.inj hd2
          have hlt2 : decide ((i : Int) < (bl s).length) = true := by simp; omega
          rw [hlt2, Bool.true_and] at h5
          exact h5
      rw [this]
      exact ⟨rfl, rfl, rfl, rfl, rfl⟩
end Go.Proofs.Ytgophdhegdcekaa
