/- The scanner's tokens: names and numbers. -/
import Derived.Test.YtgophdhegdcekaaLexA
namespace Go.Proofs.Ytgophdhegdcekaa
open Go.W
abbrev tkC (k : Int) (x : ByteArray) (n a : Int) : List C := [.vl (.int .i64 k), .vl (.string x), .vl (.int .i64 n), .vl (.int .i64 a)]
def tokP (s : ByteArray) (a : Int) (K : S → Hp → Prop) : R → Prop
  | .ok k x n z => K (.va (.gs (tkC k (mk x) n a))) [scB s z 0 0]
  | .bad e' t' => ∀ k x n y (z : Nat), K (.va (.gs (tkC k x n y))) [scB s z e' t']
def Tok : R → Int → Int → ByteArray → Int → Int → Int → Int → Int → Prop
  | .ok k x n z, a, k', x', n', a', z', e', t' => k' = k ∧ x' = mk x ∧ n' = n ∧ a' = a ∧ z' = z ∧ e' = 0 ∧ t' = 0
  | .bad e t, _, _, _, _, _, z', e', t' => e' = e ∧ t' = t ∧ ∃ z : Nat, z' = z
def tokN (s : ByteArray) (a : Int) (K : S → Hp → Prop) (r : R) : Prop := ∀ k x n y z e t, Tok r a k x n y z e t → K (.va (.gs (tkC k x n y))) [scB s z e t]
theorem tokN_P {s : ByteArray} {a : Int} {K : S → Hp → Prop} {r : R} (h : tokN s a K r) : tokP s a K r := by
  cases r with
  | ok k x n z => exact h _ _ _ _ _ _ _ ⟨rfl, rfl, rfl, rfl, rfl, rfl, rfl⟩
  | bad e t => exact fun k x n y z => h k x n y z e t ⟨rfl, rfl, z, rfl⟩
def tokSp (pre : List UInt8 → Nat → Prop) (f : List UInt8 → Nat → R) : W.Spec := scSp (fun l a e t => e = 0 ∧ t = 0 ∧ pre l a.toNat) fun s a _ _ K => tokN s a K (f (bl s) a.toNat)
theorem tokSp_open {pre : List UInt8 → Nat → Prop} {f : List UInt8 → Nat → R} {xs : List S} {H : Hp} {K : S → Hp → Prop} (h : tokSp pre f xs H K) :
    ∃ s a, xs = [.va (.c1 (.pt 0 0))] ∧ H = [scB s a 0 0] ∧ 0 ≤ a ∧ a ≤ (bl s).length ∧ (bl s).length ≤ 4000 ∧ pre (bl s) a.toNat ∧ tokP s a K (f (bl s) a.toNat) := by
  obtain ⟨s, a, e, t, rfl, rfl, h0, h1, h2, ⟨rfl, rfl, h3⟩, h4⟩ := scSp_open h
  exact ⟨_, _, rfl, rfl, h0, h1, h2, h3, tokN_P h4⟩
theorem tokSp_len {pre : List UInt8 → Nat → Prop} {f : List UInt8 → Nat → R} : ∀ xs H K, tokSp pre f xs H K → xs.length = 1 := fun xs H K h => by
  obtain ⟨s, a, rfl, _⟩ := tokSp_open h; rfl
attribute [go_sem ↓] tokSp tkC tokN
def wordSp : W.Spec := tokSp (fun _ _ => True) wordR
attribute [go_sem ↓] wordSp
set_option maxRecDepth 100000 in
theorem mWord : Meets Try.prog 47 wordSp := by
  refine meets_fn Try.func47 ok47 1 (by rw [Try.ntmps47]; decide) (meetsAll_s mKind (meetsAll_s mFail (meetsAll_nil _))) tokSp_len ?_
  intro xs H K h
  obtain ⟨s, a, rfl, rfl, h0, h1, h2, -, hK⟩ := tokSp_open h
  simp -dsimp only [go_sem, pc47, rs47] at hK ⊢
  refine ⟨⟨h0, h1, h2⟩, vc_loop (α := Nat) (fun i => [(0, .va (.c1 (.pt 0 0))), (2, .va (.c1 (.pt 1 0))), (3, iS .i64 a), (4, iS .i64 (kindN (bl s) i))]) (fun i => [scB s i 0 0, .cells (tkC 0 (mk []) 0 0) 30]) (fun i => a.toNat ≤ i ∧ i ≤ (bl s).length ∧ runN wordB (bl s) i = runN wordB (bl s) a.toNat) (fun i => (bl s).length - i) a.toNat 2 ⟨Nat.le_refl _, by omega, rfl⟩ ?_ ?_ ?_⟩
  · simp -dsimp only [go_sem]
  · simp [go_sem]; omega
  rintro i ⟨hai, hi, hj⟩
  simp -dsimp only [go_sem]
  have hget : i < (bl s).length → (bl s)[i]? = some ((bl s).getD i 0) := getD_some 0
  have hz : (kindN (bl s) i == 3 || kindN (bl s) i == 4 || kindN (bl s) i == 6) = false → runN wordB (bl s) a.toNat = i := fun h => by
    rw [← hj]; exact runN_stop fun c hc => by rw [kindN, hc] at h; simp only [cls346] at h; exact h
  have hm : (kindN (bl s) i == 5) = ((bl s)[i]? == some 45) := by
    unfold kindN
    cases hc : (bl s)[i]? with
    | none => rfl
    | some c => simp only [cls5]; rfl
  refine ⟨fun h3 => ?_, fun h3 => ?_⟩
  · have hlt : i < (bl s).length := by
      rcases Nat.lt_or_ge i (bl s).length with h4 | h4
      · exact h4
      · rw [kindN, List.getElem?_eq_none h4] at h3; simp at h3
    have h7 := hget hlt
    refine ⟨by omega, ⟨by omega, by omega, h2⟩, loop_next (i + 1) 2 ⟨by omega, hlt, ?_⟩ (by omega) ?_ ?_⟩
    · rw [kindN, h7] at h3; simp only [cls346] at h3
      rw [runN_step h7 h3, hj]
    · simp -dsimp only [go_sem]; simp [go_sem]
    · simp [go_sem]
  · have hz := hz h3
    simp only [wordR, hz, hm.symm] at hK
    refine ⟨by omega, fun h4 => ⟨⟨by omega, by omega, h2⟩, fun h5 => ⟨by omega, ?_⟩, fun h5 => ⟨by omega, ?_⟩⟩, fun h4 => ⟨⟨by omega, by omega, h2⟩, fun h5 => ⟨by omega, ?_⟩, fun h5 => ⟨by omega, ?_⟩⟩⟩
    all_goals refine .sel [0] (by simp) (by simp) rfl (.done ?_)
    all_goals simp only [decide_eq_true_eq, decide_eq_false_iff_not] at h4
    · have h6 : decide (16 < i - a.toNat) = true := by simp; omega
      simp only [h6, Bool.cond_true, tokP] at hK
      have := hK 1 (mk (List.drop a.toNat (List.take i (bl s)))) 0 a i
      rw [Int.toNat_of_nonneg h0] at this
      exact this
    · have h6 : decide (16 < i - a.toNat) = true := by simp; omega
      simp only [h6, Bool.cond_true, tokP] at hK
      have := hK 1 (mk (List.drop a.toNat (List.take i (bl s)))) 0 a i
      rw [Int.toNat_of_nonneg h0] at this
      exact this
    · have h6 : decide (16 < i - a.toNat) = false := by simp; omega
      simp only [h6, h5, Bool.cond_true, Bool.cond_false, tokP] at hK
      exact hK 1 (mk (List.drop a.toNat (List.take i (bl s)))) 0 a i
    · have h6 : decide (16 < i - a.toNat) = false := by simp; omega
      simp only [h6, h5, Bool.cond_false, tokP] at hK
      exact hK
/-! ### value -/
def valN (neg : Bool) (l : List UInt8) : Int := match valL (limit neg) 0 l with | some n => signed neg n | none => 0
def valB (neg : Bool) (l : List UInt8) : Bool := (valL (limit neg) 0 l).isSome
def valSp : W.Spec := fun xs H K =>
  match xs, H with
  | [.va (.c1 (.vl (.bool neg))), .va (.c1 (.vl (.string s)))], [] => ((bl s).length ≤ 4000 ∧ ∀ c ∈ bl s, digB c = true) ∧
      K (.tu [iA .i64 (valN neg (bl s)), bA (valB neg (bl s))]) []
  | _, _ => False
attribute [go_sem ↓] valSp
theorem valSp_open {xs : List S} {H : Hp} {K : S → Hp → Prop} (h : valSp xs H K) : ∃ neg s, xs = [bS neg, tS s] ∧ H = [] ∧ (bl s).length ≤ 4000 ∧ (∀ c ∈ bl s, digB c = true) ∧
      K (.tu [iA .i64 (valN neg (bl s)), bA (valB neg (bl s))]) [] := by
  unfold valSp at h
  split at h
  · exact ⟨_, _, rfl, rfl, h.1.1, h.1.2, h.2⟩
  · exact h.elim
set_option maxRecDepth 100000 in
theorem mValue : Meets Try.prog 56 valSp := by
  refine meets_fn Try.func56 ok56 2 (by rw [Try.ntmps56]; decide) (meetsAll_nil _) (fun xs H K h => by obtain ⟨neg, s, rfl, _⟩ := valSp_open h; rfl) ?_
  intro xs H K h
  obtain ⟨neg, s, rfl, rfl, hl, hd, hK⟩ := valSp_open h
  have rest : vc [] 0 pc56_4.ungh (puts [(0, bS neg), (1, tS s), (6, iS .u64 (limit neg))]) [] (retK 0 rs56 K) := by
    simp -dsimp only [go_sem, pc56_4, rs56]
    refine vc_loop (α := Nat × Nat) (fun z => [(0, bS neg), (1, tS s), (6, iS .u64 (limit neg)), (7, iS .u64 z.2), (12, iS .i64 (bl s).length), (13, iS .i64 z.1)]) (fun _ => []) (fun z => z.1 ≤ (bl s).length ∧ z.2 ≤ limit neg ∧ valL (limit neg) z.2 ((bl s).drop z.1) = valL (limit neg) 0 (bl s)) (fun z => (bl s).length - z.1) (0, 0) 0 ⟨by omega, by omega, rfl⟩ ?_ rfl ?_
    · simp [go_sem]
    rintro ⟨i, n⟩ ⟨hi, hn, hv⟩
    simp only at hi hn hv
    have hL : limit neg ≤ 9223372036854775808 ∧ 9 ≤ limit neg := by cases neg <;> simp [limit]
    simp -dsimp only [go_sem]
    refine ⟨fun h1 => ⟨by simp at h1; omega, fun c hc => ?_⟩, fun h1 => ?_⟩
    · simp at h1
      have hdc := digB_iff.1 (hd c (List.mem_of_getElem? hc))
      have w1 : IntKind.u64.wrap ((c.toNat : Int) - 48) = (c.toNat : Int) - 48 := wrap_inr (by simp [inr, IntKind.min, IntKind.max, IntKind.signed, IntKind.bits]; omega)
      have hq : ((limit neg : Int) - ((c.toNat : Int) - 48)).tdiv 10 = ((limit neg - (c.toNat - 48)) / 10 : Nat) := by
        rw [Int.tdiv_eq_ediv_of_nonneg (by omega)]; omega
      rw [drop_get hc] at hv
      rw [w1, hq]
      refine ⟨by omega, by omega, ⟨by decide, by omega⟩, fun h2 => ?_, fun h2 => ?_⟩
      · simp only [decide_eq_true_eq, Int.ofNat_lt] at h2
        simp only [valL, h2, if_true] at hv
        simp only [valN, valB, ← hv] at hK
        exact .done hK
      · simp only [decide_eq_false_iff_not, Int.ofNat_lt] at h2
        simp only [valL, h2, if_false] at hv
        refine ⟨by omega, by omega, by omega, loop_next (i + 1, 10 * n + (c.toNat - 48)) 0 ⟨h1, by omega, hv⟩ (by simp only; omega) ?_ rfl⟩
        simp [go_sem]
        omega
    · simp at h1
      have hi2 : i = (bl s).length := by omega
      subst hi2
      simp only [List.drop_length, valL] at hv
      simp only [valN, valB, ← hv] at hK
      refine ⟨fun h2 => fin_eq hK ?_, fun h2 => fin_eq hK ?_⟩
      · subst h2
        simp [signed, iA, bA, IntKind.wrap, IntKind.signed, IntKind.bits]
        omega
      · subst h2
        simp [signed, iA, bA, IntKind.wrap, IntKind.signed, IntKind.bits, limit] at hn ⊢
        omega
  simp -dsimp only [go_sem, pc56, rs56]
  refine ⟨fun h => vc_tail 0 rest ?_ rfl, fun h => vc_tail 0 rest ?_ rfl⟩
  all_goals simp [go_sem, limit, h]
/-! ### number -/
def numSp : W.Spec := tokSp (fun l a => ∃ c, l[a]? = some c ∧ (digB c = true ∨ c = 45)) numR
attribute [go_sem ↓] numSp
theorem kind_dig {l : List UInt8} {i : Nat} : (kindN l i == 4) = (match l[i]? with | some c => digB c | none => false) := by
  unfold kindN
  cases l[i]? with
  | none => rfl
  | some c => exact cls4 c
theorem kind_minus {l : List UInt8} {i : Nat} : (kindN l i == 5) = (l[i]? == some 45) := by
  unfold kindN
  cases hc : l[i]? with
  | none => rfl
  | some c => simp only [cls5]; rfl
theorem kind_wm {l : List UInt8} {i : Nat} : (kindN l i == 3 || kindN l i == 6 || kindN l i == 5) = wmAt l i := by
  unfold kindN wmAt
  cases hc : l[i]? with
  | none => rfl
  | some c => simp only [cls365]
set_option maxRecDepth 100000 in
theorem mNumber : Meets Try.prog 48 numSp := by
  refine meets_fn Try.func48 ok48 1 (by rw [Try.ntmps48]; decide) (meetsAll_s mKind (meetsAll_s mFail (meetsAll_s mValue (meetsAll_nil _)))) tokSp_len ?_
  intro xs H K h
  obtain ⟨s, a, rfl, rfl, h0, h1, h2, ⟨c0, hc0, hc1⟩, hK⟩ := tokSp_open h
  have hlt : a.toNat < (bl s).length := (List.getElem?_eq_some_iff.1 hc0).1
  generalize hneg : ((bl s)[a.toNat]? == some 45) = neg at hK
  generalize hfe : (bif neg then a.toNat + 1 else a.toNat) = f
  have hf1 : a.toNat ≤ f ∧ f ≤ (bl s).length := by subst hfe; cases neg <;> simp <;> omega
  have rest : vc [(46, .s kindSp), (50, .s failSp), (56, .s valSp)] 1 pc48_5.ungh (puts [(0, .va (.c1 (.pt 0 0))), (2, .va (.c1 (.pt 1 0))), (3, iS .i64 a), (4, bS neg)]) [scB s f 0 0, .cells (tkC 0 (mk []) 0 0) 30] (retK 1 rs48 K) := by
    simp -dsimp only [go_sem, pc48_5, rs48]
    refine vc_loop (α := Nat) (fun i => [(0, .va (.c1 (.pt 0 0))), (2, .va (.c1 (.pt 1 0))), (3, iS .i64 a), (4, bS neg), (5, iS .i64 f)]) (fun i => [scB s i 0 0, .cells (tkC 0 (mk []) 0 0) 30]) (fun i => f ≤ i ∧ i ≤ (bl s).length ∧ runN digB (bl s) i = runN digB (bl s) f) (fun i => (bl s).length - i) f 2 ⟨Nat.le_refl _, hf1.2, rfl⟩ ?_ ?_ ?_
    · simp -dsimp only [go_sem]
    · simp -dsimp only [go_sem]
    rintro i ⟨hai, hi, hj⟩
    simp -dsimp only [go_sem]
    refine ⟨by omega, fun h3 => ?_, fun h3 => ?_⟩
    · rw [kind_dig] at h3
      split at h3
      · rename_i c hc
        have hlt' := (List.getElem?_eq_some_iff.1 hc).1
        refine ⟨by omega, loop_next (i + 1) 2 ⟨by omega, hlt', by rw [runN_step hc h3, hj]⟩ (by omega) ?_ ?_⟩
        · simp -dsimp only [go_sem]
        · simp -dsimp only [go_sem]; simp
      · cases h3
    · have hz : runN digB (bl s) f = i := by
        rw [← hj]
        refine runN_stop fun c hc => ?_
        rw [kind_dig, hc] at h3
        exact h3
      have hcond : ∀ c : UInt8, ((List.drop f (List.take i (bl s)) == []) = false → (List.drop f (List.take i (bl s)))[0]? = some c) →
          (List.drop f (List.take i (bl s)) == [] || (c.toNat : Int) == 48 && (decide (1 < ((List.drop f (List.take i (bl s))).length : Int)) || neg)) =
          (List.drop f (List.take i (bl s)) == [] || ((List.drop f (List.take i (bl s)))[0]? == some 48 && (decide (1 < (List.drop f (List.take i (bl s))).length) || neg))) := by
        intro c hc
        cases hd : (List.drop f (List.take i (bl s))) with
        | nil => rfl
        | cons x l =>
          rw [hd] at hc
          have := hc rfl
          simp only [List.getElem?_cons_zero, Option.some.injEq] at this
          subst this
          rw [u8_beq 48]
          have h9 : decide (1 < (((x :: l).length : Nat) : Int)) = decide (1 < (x :: l).length) := by rw [decide_eq_decide]; omega
          rw [h9]
          simp only [List.getElem?_cons_zero]
          rfl
      simp only [numR, hneg, hfe, hz] at hK
      refine ⟨by omega, fun h4 => ⟨by omega, by cases hd : (List.drop f (List.take i (bl s))) <;> simp_all⟩, fun c hc => ⟨fun h5 h6 => by rw [h5]; simpa using h6, fun h5 h6 => by simp_all, fun h5 => ?_, fun h5 => ?_⟩⟩
      · rw [hcond c hc] at h5
        simp only [h5, Bool.cond_true, tokP] at hK
        refine .sel [0] (by simp) (by simp) rfl (.done ?_)
        have := hK 0 (mk []) 0 0 i
        rw [Int.toNat_of_nonneg h0] at this
        exact this
      · rw [hcond c hc] at h5
        simp only [h5, Bool.cond_false] at hK
        have hdig : ∀ c ∈ List.drop f (List.take i (bl s)), digB c = true := by
          intro c hc
          rw [← hz] at hc
          exact runN_all c hc
        refine ⟨⟨by simp; omega, hdig⟩, ?_⟩
        have rest2 : ∀ e t : Int, (e = 0 ∧ t = 0 ∧ valB neg ((List.take i (bl s)).drop f) = true ∨ e = 4 ∧ t = a ∧ valB neg ((List.take i (bl s)).drop f) = false) → vc [(46, .s kindSp), (50, .s failSp), (56, .s valSp)] 1 pc48_15.ungh (puts [(0, .va (.c1 (.pt 0 0))), (2, .va (.c1 (.pt 1 0))), (3, iS .i64 a), (7, iS .i64 (valN neg ((List.take i (bl s)).drop f)))]) [scB s i e t, .cells (tkC 0 (mk []) 0 0) 30] (retK 1 rs48 K) := by
          intro e t het
          simp -dsimp only [go_sem, pc48_15, rs48]
          rw [kind_wm]
          refine ⟨by omega, fun h7 => .sel [0] (by simp) (by simp) rfl (.done ?_), fun h7 => .sel [0] (by simp) (by simp) rfl (.done ?_)⟩
          · rcases het with ⟨rfl, rfl, hb⟩ | ⟨rfl, rfl, hb⟩
            · cases hv : valL (limit neg) 0 (List.drop f (List.take i (bl s))) with
              | none => simp [valB, hv] at hb
              | some n =>
                simp only [hv, h7, Bool.cond_true, tokP] at hK
                exact hK _ _ _ _ i
            · cases hv : valL (limit neg) 0 (List.drop f (List.take i (bl s))) with
              | some n => simp [valB, hv] at hb
              | none =>
                simp only [hv, tokP] at hK
                have := hK 2 (mk []) (valN neg (List.drop f (List.take i (bl s)))) t i
                rw [Int.toNat_of_nonneg h0] at this
                exact this
          · rcases het with ⟨rfl, rfl, hb⟩ | ⟨rfl, rfl, hb⟩
            · cases hv : valL (limit neg) 0 (List.drop f (List.take i (bl s))) with
              | none => simp [valB, hv] at hb
              | some n =>
                simp only [hv, h7, Bool.cond_false, tokP] at hK
                simp only [valN, hv]
                exact hK
            · cases hv : valL (limit neg) 0 (List.drop f (List.take i (bl s))) with
              | some n => simp [valB, hv] at hb
              | none =>
                simp only [hv, tokP] at hK
                have := hK 2 (mk []) (valN neg (List.drop f (List.take i (bl s)))) t i
                rw [Int.toNat_of_nonneg h0] at this
                exact this
        refine ⟨fun h6 => vc_tail 2 (rest2 4 a (.inr ⟨rfl, rfl, by simpa using h6⟩)) ?_ ?_, fun h6 => vc_tail 2 (rest2 0 0 (.inl ⟨rfl, rfl, by simpa using h6⟩)) ?_ ?_⟩
        all_goals simp -dsimp only [go_sem]
  simp -dsimp only [go_sem, pc48, rs48]
  rw [kind_minus, hneg]
  refine ⟨by omega, fun h3 => ⟨by omega, vc_tail 2 rest ?_ ?_⟩, fun h3 => vc_tail 2 rest ?_ ?_⟩
  all_goals simp -dsimp only [go_sem]
  all_goals (subst h3; simp at hfe; subst hfe; simp; try omega)
end Go.Proofs.Ytgophdhegdcekaa
