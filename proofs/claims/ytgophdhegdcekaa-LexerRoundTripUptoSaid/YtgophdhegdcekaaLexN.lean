/- The law of the names: its function returns true. -/
import Derived.Test.YtgophdhegdcekaaLexG
namespace Go.Proofs.Ytgophdhegdcekaa
open Go.W
theorem wordR_ok {l : List UInt8} {a : Nat} {k : Int} {x : List UInt8} {n : Int} {z : Nat} (h : wordR l a = .ok k x n z) : k = 1 ∧ n = 0 ∧ z = runN wordB l a ∧ z - a ≤ 16 ∧ x = (l.take z).drop a ∧ l[z]? ≠ some 45 := by
  unfold wordR at h
  simp only at h
  revert h
  cases h1 : decide (16 < runN wordB l a - a) <;> cases h2 : (l[runN wordB l a]? == some 45) <;> simp [R.ok.injEq]
  rintro rfl rfl rfl rfl
  simp at h1 h2
  exact ⟨rfl, rfl, rfl, by omega, rfl, h2⟩
theorem isNm_iff (l : List UInt8) : isNm l = true ↔ ∃ c, l[0]? = some c ∧ l.length ≤ 16 ∧ isLet c.toNat = true ∧ ∀ x ∈ l, wordB x = true := by
  cases l with
  | nil => simp [isNm]
  | cons c l => simp [isNm, and_assoc]
theorem runN_full {l : List UInt8} (h : ∀ x ∈ l, wordB x = true) : runN wordB l 0 = l.length := by
  have : l.takeWhile wordB = l := by
    induction l with
    | nil => rfl
    | cons c l ih => rw [List.takeWhile_cons, if_pos (h c (by simp)), ih fun x hx => h x (by simp [hx])]
  simp [runN, this]
theorem let_skip {l : List UInt8} {i : Nat} {c : UInt8} (h : l[i]? = some c) (hc : isLet c.toNat = true) : skipN l i = i := by
  have := byte_all (p := fun c => !(isLet c.toNat) || (!(c == 32 || c == 9 || c == 10) && !(c == 35))) (by decide +kernel) c
  simp only [hc, Bool.not_true, Bool.false_or, Bool.and_eq_true, Bool.not_eq_true'] at this
  exact skip_other h this.1 this.2
/-- A text is a name just where its tokens are that name and the end. -/
theorem names_one (l : List UInt8) : isNm l = true ↔ (scanR l).err = 0 ∧ (scanR l).toks.length = 2 ∧ ∀ t, (scanR l).toks[0]? = some t → t.k = 1 ∧ t.x = l := by
  constructor
  · intro h
    obtain ⟨c, h0, h1, h2, h3⟩ := (isNm_iff l).1 h
    have hlt : 0 < l.length := (List.getElem?_eq_some_iff.1 h0).1
    have hw : wordR l 0 = .ok 1 l 0 l.length := by
      have : decide (16 < l.length) = false := by simp; omega
      simp [wordR, runN_full h3, this]
    have e : scanR l = .ok [⟨1, l, 0, 0⟩, ⟨0, [], 0, l.length⟩] := by
      have h4 : decide (4000 < l.length) = false := by simp; omega
      obtain ⟨m, hm⟩ : ∃ m, l.length = m + 1 := ⟨l.length - 1, by omega⟩
      have t0 : tokR l (skipN l 0) = .ok 1 l 0 l.length := by rw [let_skip h0 h2, tokR, h0]; simp only [h2, Bool.cond_true]; exact hw
      have t1 : tokR l (skipN l l.length) = .ok 0 [] 0 l.length := by rw [skip_end (Nat.le_refl _), tokR, List.getElem?_eq_none (Nat.le_refl _)]
      rw [scanR, h4, Bool.cond_false, show l.length + 1 = m + 1 + 1 by omega, scanN, t0]
      simp only [scanN, t1, let_skip h0 h2]
      simp [SR.cons, skip_end]
    rw [e]
    refine ⟨rfl, rfl, fun t ht => ?_⟩
    simp [SR.toks] at ht
    subst ht; exact ⟨rfl, rfl⟩
  · rintro ⟨h1, h2, h3⟩
    cases h4 : decide (4000 < l.length) with
    | true => rw [scanR, h4] at h1; simp [SR.err] at h1
    | false =>
      rw [scanR, h4, Bool.cond_false, scanN] at h1 h2 h3
      cases hR : tokR l (skipN l 0) with
      | bad e t =>
        rw [hR] at h1
        exact absurd h1 ((tokR_told (skipN_le (Nat.zero_le _))).1 hR).1
      | ok k x n z =>
        have hT := (tokR_told (skipN_le (Nat.zero_le _))).2 hR
        rw [hR] at h2 h3
        have : k = 1 ∧ x = l := by
          cases hk : k == 0 with
          | true => simp only [hk, Bool.cond_true, SR.toks] at h2; simp at h2
          | false =>
            simp only [hk, Bool.cond_false] at h2 h3
            cases hr : scanN l.length l z with
            | bad e t => rw [hr] at h2; simp [SR.cons, SR.toks] at h2
            | ok ts => rw [hr] at h3; exact h3 _ (by simp only [SR.cons, SR.toks, List.getElem?_cons_zero]; rfl)
        obtain ⟨rfl, rfl⟩ := this
        obtain ⟨c, p1, p2, p3, _, _, _, _, _, p9⟩ := hT.one (by decide)
        have hL : isLet c.toNat = true := by rw [← p9]; rfl
        rw [tokR, p1] at hR
        simp only [hL, Bool.cond_true] at hR
        obtain ⟨_, rfl, q1, q2, q3, _⟩ := wordR_ok hR
        have hlen := congrArg List.length q3
        simp only [List.length_drop, List.length_take] at hlen
        have h0 : skipN x 0 = 0 := by omega
        rw [h0] at p1 q1 q2 q3
        refine (isNm_iff x).2 ⟨c, p1, by omega, hL, fun b hb => ?_⟩
        rw [q3] at hb
        rw [q1] at hb
        exact runN_all b hb
set_option maxRecDepth 100000 in
theorem mNames : Meets Try.prog 5 (strFn fun _ => .bool true).sp := by
  refine meets_fn Try.func5 ok5 1 (by rw [Try.ntmps5]; decide) (meetsAll_s mScan (meetsAll_f mIsName (meetsAll_f mIsNameR (meetsAll_f mAwake (meetsAll_nil _))))) strFn_len ?_
  rintro xs H K ⟨⟨h, rfl⟩, hK⟩
  obtain ⟨s, rfl⟩ := strPre_open h
  simp -dsimp only [go_sem, pc5, rs5] at hK ⊢
  have hn := names_one (bl s)
  generalize scanR (bl s) = r at hn ⊢
  refine ⟨fun h => ⟨by simp at h; omega, fun t ht => ⟨fun hk => ⟨by simp at h; omega, fun u hu => fin_eq hK ?_⟩, fun hk => fin_eq hK ?_⟩⟩, fun h => fin_eq hK ?_⟩
  · rw [ht] at hu
    obtain rfl := Option.some.inj hu
    simp at h
    have : isNm (bl s) = (t.x == bl s) := by
      rw [Bool.eq_iff_iff, hn, beq_iff_eq, ht]
      exact ⟨fun q => (q.2.2 t rfl).2, fun q => ⟨h.1, by omega, fun u hu => by obtain rfl := Option.some.inj hu; exact ⟨by simpa using hk, q⟩⟩⟩
    simp [this]
  · have : isNm (bl s) = false := by
      cases hb : isNm (bl s) with
      | false => rfl
      | true => exfalso; have := ((hn.1 hb).2.2 t ht).1; simp [this] at hk
    simp [this]
  · have : isNm (bl s) = false := by
      cases hb : isNm (bl s) with
      | false => rfl
      | true => exfalso; obtain ⟨q1, q2, _⟩ := hn.1 hb; simp [q1, q2] at h
    simp [this]
end Go.Proofs.Ytgophdhegdcekaa
