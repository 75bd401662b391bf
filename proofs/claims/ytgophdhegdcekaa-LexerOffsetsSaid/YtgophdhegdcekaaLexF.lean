/- The law of the offsets. -/
import Derived.Test.YtgophdhegdcekaaLexG
namespace Go.Proofs.Ytgophdhegdcekaa
open Go.W
set_option maxRecDepth 100000 in
theorem mOffsets : Meets Try.prog 4 (strFn fun _ => .bool true).sp := by
  refine meets_fn Try.func4 ok4 1 (by rw [Try.ntmps4]; decide) (meetsAll_s mScan (meetsAll_f mIsName (meetsAll_f mAwake (meetsAll_nil _)))) strFn_len ?_
  rintro xs H K ⟨⟨h, rfl⟩, hK⟩
  obtain ⟨s, rfl⟩ := strPre_open h
  simp -dsimp only [go_sem, pc4, rs4] at hK ⊢
  rcases scanR_told (bl s) with ⟨h1, h2, h3, h4⟩ | ⟨h1, h2, h3, h4⟩
  · simp only [h2, List.length_nil]
    exact ⟨fun _ => fin_eq hK (by simp; omega), fun h => absurd h (by simpa using h1)⟩
  refine ⟨fun h => absurd h (by simp [h1]), fun _ => ?_⟩
  generalize (scanR (bl s)).toks = ts at h4 ⊢
  have ha := fun i t => offs_at (i := i) (t := t) h4
  have h0 := offs_ne h4
  have hlen : ts.length < 1000000 := by have := offs_len h4; omega
  have h34 : ∀ c : UInt8, ((c.toNat : Int) == 34) = (c == 34) := fun c => u8_beq 34
  have h35 : ∀ c : UInt8, ((c.toNat : Int) == 35) = (c == 35) := fun c => u8_beq 35
  refine vc_loop (α := Nat) (fun i => [(0, tS s), (3, .va (.c1 (.fz (ts.map tkL)))), (6, iS .i64 i)]) (fun i => []) (fun i => i ≤ ts.length) (fun i => ts.length - i) 0 0 (by omega) ?_ ?_ ?_
  · simp -dsimp only [go_sem]; simp
  · simp [go_sem]
  rintro i hi
  simp -dsimp only [go_sem, h34, h35]
  refine ⟨fun hlt => ⟨⟨by omega, by simpa using hlt⟩, fun t ht => ?_⟩, fun hge => fin_eq hK (by simp [h0])⟩
  obtain ⟨q1, q2, ⟨z, q3⟩, q4, q5⟩ := ha i t ht
  have hlt : i < ts.length := (List.getElem?_eq_some_iff.1 ht).1
  have hE : ((i : Int) == (ts.length : Int) - 1) = (t.k == 0) := by
    rw [Bool.eq_iff_iff, beq_iff_eq, beq_iff_eq, q4]; omega
  have hB : decide ((t.a : Int) < 0) = false := by simp
  rw [hE]
  have hA : (!(t.k == 0) == (t.k == 0)) = false := by simp
  refine ⟨by omega, fun h => ?_, fun h => ⟨⟨by simp at h; omega, by omega⟩, fun u hu => ?_⟩, fun h => ?_⟩
  · simp at h; omega
  all_goals simp only [hA, hB, Bool.or_self, Bool.not_false, Bool.true_and, Bool.false_or, mrg_f, decide_eq_true_eq, decide_eq_false_iff_not] at h ⊢
  · have hu : u.a < t.a := q5 u (by omega) (by rw [show ((i : Int) - 1).toNat = i - 1 by omega] at hu; exact hu)
    refine ⟨h, fun h => by omega, fun _ => ⟨fun hk => ?_, fun hk => ?_⟩⟩
    · have := q4.1 (by simpa using hk)
      have hl : t.a = (bl s).length := (q3.zero (by simpa using hk)).1
      simp only [hl]
      refine ⟨fun h => by simp at h, fun _ => ⟨by omega, loop_next (i + 1) 0 (by omega) (by omega) ?_ ?_⟩⟩
      · simp -dsimp only [go_sem]; simp
      · simp [go_sem]
    · obtain ⟨c, p1, p2, p3, p4, p5, p6, p7, p8, p9⟩ := q3.one (by simpa using hk)
      have hlt : t.a < (bl s).length := (List.getElem?_eq_some_iff.1 p1).1
      have hC : decide (((bl s).length : Int) ≤ t.a) = false := by simp; omega
      have hD : ¬ ((bl s).length : Int) ≤ t.a := by omega
      have hF : decide ((c.toNat : Int) ≤ 32) = false := by simp; omega
      have hG : (c == 35) = false := by
        cases hb : c == 35 with
        | false => rfl
        | true => exfalso; have : c = 35 := by simpa using hb
                  subst this; exact p7 rfl
      have hI : isNm (List.drop t.a (List.take ((t.a : Int) + 1).toNat (bl s))) = isLet c.toNat := by
        rw [show ((t.a : Int) + 1).toNat = t.a + 1 by omega, List.drop_take, drop_get p1]
        simp [isNm, wordB, isWord]
        intro h; left; left; exact h
      simp only [hC, hD, decide_false, p1, Bool.false_or, not_false_eq_true, true_implies, Option.some.injEq, forall_eq', eq_self, and_true, hF, hG, p8, p9, hI, beq_self_eq_true, Bool.not_true]
      simp only [Bool.true_eq_false, Bool.false_eq_true, false_implies, true_and]
      refine ⟨by omega, by omega, by omega, by omega, by omega, by omega, loop_next (i + 1) 0 (by omega) (by omega) ?_ ?_⟩
      · simp -dsimp only [go_sem]; simp
      · simp [go_sem]
  · have hz : decide (0 < (i : Int)) = false := by simpa using h
    simp only [hz, mrg_f, Bool.false_eq_true, false_implies, implies_true, true_and]
    refine ⟨fun h => by omega, fun _ => ⟨fun _ h => by omega, fun _ => ⟨fun hk => ?_, fun hk => ?_⟩⟩⟩
    · have := q4.1 (by simpa using hk)
      have hl : t.a = (bl s).length := (q3.zero (by simpa using hk)).1
      simp only [hl]
      refine ⟨fun h => by simp at h, fun _ => ⟨by omega, loop_next (i + 1) 0 (by omega) (by omega) ?_ ?_⟩⟩
      · simp -dsimp only [go_sem]; simp
      · simp [go_sem]
    · obtain ⟨c, p1, p2, p3, p4, p5, p6, p7, p8, p9⟩ := q3.one (by simpa using hk)
      have hlt : t.a < (bl s).length := (List.getElem?_eq_some_iff.1 p1).1
      have hC : decide (((bl s).length : Int) ≤ t.a) = false := by simp; omega
      have hD : ¬ ((bl s).length : Int) ≤ t.a := by omega
      have hF : decide ((c.toNat : Int) ≤ 32) = false := by simp; omega
      have hG : (c == 35) = false := by
        cases hb : c == 35 with
        | false => rfl
        | true => exfalso; have : c = 35 := by simpa using hb
                  subst this; exact p7 rfl
      have hI : isNm (List.drop t.a (List.take ((t.a : Int) + 1).toNat (bl s))) = isLet c.toNat := by
        rw [show ((t.a : Int) + 1).toNat = t.a + 1 by omega, List.drop_take, drop_get p1]
        simp [isNm, wordB, isWord]
        intro h; left; left; exact h
      simp only [hC, hD, decide_false, p1, Bool.false_or, not_false_eq_true, true_implies, Option.some.injEq, forall_eq', eq_self, and_true, hF, hG, p8, p9, hI, beq_self_eq_true, Bool.not_true]
      simp only [Bool.true_eq_false, Bool.false_eq_true, false_implies, true_and]
      refine ⟨by omega, by omega, by omega, by omega, by omega, by omega, loop_next (i + 1) 0 (by omega) (by omega) ?_ ?_⟩
      · simp -dsimp only [go_sem]; simp
      · simp [go_sem]
end Go.Proofs.Ytgophdhegdcekaa
