/- The specification's numbers meet the same plain function. -/
import Derived.Test.YtgophdhegdcekaaLexQ
namespace Go.Proofs.Ytgophdhegdcekaa
open Go.W
def decV : Nat → List UInt8 → Nat
  | n, [] => n
  | n, c :: l => decV (10 * n + (c.toNat - 48)) l
theorem decV_nil (n : Nat) : decV n [] = n := by rw [decV.eq_def]
theorem decV_cons (n : Nat) (c : UInt8) (l : List UInt8) : decV n (c :: l) = decV (10 * n + (c.toNat - 48)) l := by rw [decV.eq_def]
theorem decV_ge : ∀ (l : List UInt8) (n : Nat), n ≤ decV n l
  | [], n => by rw [decV_nil]; exact Nat.le_refl n
  | c :: l, n => by have := decV_ge l (10 * n + (c.toNat - 48)); rw [decV_cons]; omega
theorem valL_cons (lim n : Nat) (c : UInt8) (l : List UInt8) : valL lim n (c :: l) = if (lim - (c.toNat - 48)) / 10 < n then none else valL lim (10 * n + (c.toNat - 48)) l := by rw [valL.eq_def]
theorem valL_dec {lim : Nat} (h9 : 9 ≤ lim) : ∀ (l : List UInt8) (n : Nat), n ≤ lim → (∀ c ∈ l, digB c = true) → valL lim n l = bif decide (decV n l ≤ lim) then some (decV n l) else none
  | [], n, hn, _ => by rw [decV_nil, valL.eq_def]; simp [hn]
  | c :: l, n, hn, hd => by
    have hc := digB_iff.1 (hd c (by simp))
    rw [valL_cons, decV_cons]
    generalize c.toNat = d at hc ⊢
    by_cases h : (lim - (d - 48)) / 10 < n
    · have := decV_ge l (10 * n + (d - 48))
      have h2 : decide (decV (10 * n + (d - 48)) l ≤ lim) = false := by simp only [decide_eq_false_iff_not]; omega
      rw [if_pos h, h2]; rfl
    · rw [if_neg h]
      exact valL_dec h9 l _ (by omega) (fun x hx => hd x (by simp [hx]))
def numV (l : List UInt8) : Int × Int :=
  let neg := l[0]? == some 45
  let s := l.drop (bif neg then 1 else 0)
  bif s == [] || (s[0]? == some 48 && (decide (1 < s.length) || neg)) then (0, 2)
  else match valL (limit neg) 0 s with
    | none => (0, 1)
    | some n => (signed neg n, 0)
def numVSp : W.Spec := fun xs H K =>
  match xs, H with
  | [.va (.c1 (.vl (.string s)))], [] => ((bl s).length ≤ 4000 ∧ ∀ c ∈ (bl s).drop (bif (bl s)[0]? == some 45 then 1 else 0), digB c = true) ∧ K (.tu [iA .i64 (numV (bl s)).1, iA .i64 (numV (bl s)).2]) []
  | _, _ => False
theorem numVSp_open {xs : List S} {H : Hp} {K : S → Hp → Prop} (h : numVSp xs H K) : ∃ s, xs = [tS s] ∧ H = [] ∧ (bl s).length ≤ 4000 ∧ (∀ c ∈ (bl s).drop (bif (bl s)[0]? == some 45 then 1 else 0), digB c = true) ∧ K (.tu [iA .i64 (numV (bl s)).1, iA .i64 (numV (bl s)).2]) [] := by
  unfold numVSp at h
  split at h
  · exact ⟨_, rfl, rfl, h.1.1, h.1.2, h.2⟩
  · exact h.elim
attribute [go_sem ↓] numVSp
set_option maxRecDepth 100000 in
theorem mNumV : Meets Try.prog 51 numVSp := by
  refine meets_fn Try.func51 ok51 1 (by rw [Try.ntmps51]; decide) (meetsAll_f mDigit (meetsAll_nil _)) (fun xs H K h => by obtain ⟨s, rfl, _⟩ := numVSp_open h; rfl) ?_
  intro xs H K h
  obtain ⟨s, rfl, rfl, h0, hd, hK⟩ := numVSp_open h
  have h45 : ∀ c : UInt8, ((c.toNat : Int) == 45) = (c == 45) := fun c => u8_beq 45
  have h48 : ∀ c : UInt8, ((c.toNat : Int) == 48) = (c == 48) := fun c => u8_beq 48
  generalize hneg : ((bl s)[0]? == some 45) = neg at hd
  generalize hf : (bif neg then 1 else 0 : Nat) = f at hd
  have rest : vc [(31, .f (byteFn fun c => .bool (isDig c)))] 0 pc51_4.ungh (puts [(0, tS s), (4, iS .i64 f)]) [] (retK 0 rs51 K) := by
    simp -dsimp only [go_sem, pc51_4, rs51, h48]
    have hfn : ((f : Int) == 1) = neg := by subst hf; cases neg <;> rfl
    simp only [numV, hneg, hf] at hK
    generalize hq : List.drop f (bl s) = q at hK hd
    have hql : q.length = (bl s).length - f := by rw [← hq]; simp
    have hqg : ∀ d r, q = d :: r → (bl s)[f]? = some d := fun d r e => by
      have : (List.drop f (bl s))[0]? = some d := by rw [hq, e]; rfl
      simpa using this
    rw [hfn]
    have key : ∀ c e : UInt8, ((!decide (((bl s).length : Int) ≤ f) && decide (1 < ((bl s).length : Int) - f)) = true → (bl s)[f]? = some c) →
        ((!(decide (((bl s).length : Int) ≤ f) || decide (1 < ((bl s).length : Int) - f) && c == 48) && neg) = true → (bl s)[f]? = some e) →
        ((decide (((bl s).length : Int) ≤ f) || decide (1 < ((bl s).length : Int) - f) && c == 48) || neg && e == 48) = (q == [] || (q[0]? == some 48 && (decide (1 < q.length) || neg))) := by
      intro c e hc he
      cases q with
      | nil => have : decide (((bl s).length : Int) ≤ f) = true := by simp at hql ⊢; omega
               rw [this]; rfl
      | cons d r =>
        have hd0 := hqg d r rfl
        have hA : decide (((bl s).length : Int) ≤ f) = false := by simp only [List.length_cons] at hql; simp; omega
        have hB : decide (1 < ((bl s).length : Int) - f) = decide (1 < (d :: r).length) := by rw [decide_eq_decide]; simp only [List.length_cons] at hql ⊢; omega
        rw [hB] at hc he ⊢
        rw [hA, hd0] at hc he
        rw [hA]
        simp only [Bool.not_false, Bool.true_and, Bool.false_or, Option.some.injEq] at hc he
        simp only [Bool.false_or, List.getElem?_cons_zero]
        rw [show (some d == some 48) = (d == 48) from rfl, show ((d :: r) == []) = false from rfl, Bool.false_or]
        generalize decide (1 < (d :: r).length) = b at hc he
        cases b with
        | true =>
          obtain rfl := hc rfl
          simp only [Bool.true_and] at he ⊢
          cases hd48 : d == 48 with
          | true => rfl
          | false =>
            rw [hd48] at he
            cases neg with
            | true => obtain rfl := he rfl; rw [hd48]; rfl
            | false => rfl
        | false =>
          simp only [Bool.false_and, Bool.false_or] at he ⊢
          cases neg with
          | true => obtain rfl := he rfl; simp
          | false => simp
    have hf1 : f ≤ 1 := by subst hf; cases neg <;> decide
    refine ⟨fun _ => by omega, fun h => ⟨by omega, by simp at h; omega⟩, fun c hc => ⟨fun h1 h2 => by rw [h1, h2]; rfl, fun h => ⟨by omega, by simp at h; omega⟩, fun e he => ⟨fun h1 h2 => by rw [h1, h2]; rfl, ?_⟩⟩⟩
    rw [key c e hc he]
    generalize hG : (q == [] || (q[0]? == some 48 && (decide (1 < q.length) || neg))) = G at hK
    refine ⟨fun h => ?_, fun h => ?_⟩
    · rw [h] at hK; exact .done hK
    rw [h] at hK hG
    simp only [Bool.cond_false] at hK
    have hlim : 9 ≤ limit neg := by cases neg <;> decide
    rw [valL_dec hlim q 0 (Nat.zero_le _) hd] at hK
    have hfl : f < (bl s).length := by
      cases q with
      | nil => cases hG
      | cons d r => simp only [List.length_cons] at hql; omega
    have hpos : neg = true → 0 < decV 0 q := fun hn => by
      cases q with
      | nil => cases hG
      | cons d r =>
        subst hn
        have hdd := digB_iff.1 (hd d (by simp))
        have h1 : ¬ d = 48 := fun e => by subst e; simp at hG
        have h2 : d.toNat ≠ 48 := fun e => h1 (UInt8.toNat.inj e)
        have := decV_ge r (10 * 0 + (d.toNat - 48))
        rw [decV_cons]; omega
    refine vc_loop (α := Nat × Nat) (fun z => [(0, tS s), (4, iS .i64 f), (5, iS .u64 z.1), (6, iS .i64 z.2)]) (fun z => []) (fun z => f ≤ z.2 ∧ z.2 ≤ (bl s).length ∧ z.1 ≤ 10000000000000000009 ∧ decV z.1 ((bl s).drop z.2) = decV 0 q) (fun z => (bl s).length - z.2) (0, f) 0 ⟨by simp only; omega, by simp only; omega, by simp, by simp only; rw [hq]⟩ ?_ ?_ ?_
    · simp -dsimp only [go_sem]; simp
    · simp [go_sem]
    rintro ⟨n, i⟩ ⟨hi1, hi2, hn, hv⟩
    simp only at hi1 hi2 hn hv
    simp -dsimp only [go_sem, hfn]
    have hnone : ¬ decV 0 q ≤ limit neg → K (.tu [iA .i64 0, iA .i64 1]) [] := fun h => by
      have : decide (decV 0 q ≤ limit neg) = false := by simpa using h
      rw [this] at hK; exact hK
    have hlim2 : limit neg ≤ 9223372036854775808 := by cases neg <;> decide
    refine ⟨fun hlt => ⟨⟨by omega, by simpa using hlt⟩, fun c hc => ⟨by have := c.toNat_lt; omega, fun h3 => ?_, fun h3 => ⟨fun h4 => .done (hnone ?_), fun h4 => ⟨by simp at h4; omega, ⟨by omega, by simpa using hlt⟩, fun e he => ?_⟩⟩⟩⟩, fun hge => ?_⟩
    · exfalso
      have : c ∈ q := by rw [← hq]; exact List.mem_of_getElem? (i := i - f) (by rw [List.getElem?_drop, show f + (i - f) = i by omega]; exact hc)
      have := hd c this
      rw [digB, h3] at this; cases this
    · rw [drop_get hc, decV_cons] at hv
      have := decV_ge ((bl s).drop (i + 1)) (10 * n + (c.toNat - 48))
      simp at h4; omega
    · rw [hc] at he; obtain rfl := Option.some.inj he
      have hc9 := digB_iff.1 (show digB c = true by simpa [digB] using h3)
      have hw : IntKind.u64.wrap ((c.toNat : Int) - 48) = ((c.toNat - 48 : Nat) : Int) := by
        simp [IntKind.wrap, IntKind.signed, IntKind.bits]; omega
      have hlt : i < (bl s).length := (List.getElem?_eq_some_iff.1 hc).1
      simp at h4
      refine ⟨by omega, by rw [hw]; omega, by omega, loop_next (10 * n + (c.toNat - 48), i + 1) 0 ⟨by simp only; omega, by simp only; omega, by simp only; omega, by simp only; rw [← hv, drop_get hc, decV_cons]⟩ (by simp only; omega) ?_ ?_⟩
      · simp -dsimp only [go_sem, hw]; simp
      · simp [go_sem]
    · have hN : n = decV 0 q := by
        have : i = (bl s).length := by simp at hge; omega
        rw [← hv, this, List.drop_length, decV_nil]
      rw [← hN] at hK hpos hnone
      refine ⟨fun hn1 => ⟨fun h4 => .done (hnone ?_), fun h4 => ?_⟩, fun hn1 => ⟨fun h4 => .done (hnone ?_), fun h4 => ?_⟩⟩
      · subst hn1; simp at h4; simp [limit]; omega
      · have hp := hpos hn1
        simp at h4
        have w1 : IntKind.i64.wrap ((n : Int) - 1) = (n : Int) - 1 := wrap_inr (by simp [inr, IntKind.min, IntKind.max, IntKind.signed, IntKind.bits]; omega)
        rw [w1]
        refine ⟨by omega, by omega, by omega, fin_eq hK ?_⟩
        subst hn1
        have : decide (n ≤ limit true) = true := decide_eq_true (show n ≤ 9223372036854775808 by omega)
        rw [this]
        simp [signed]; omega
      · subst hn1; simp at h4; simp [limit]; omega
      · simp at h4
        have w1 : IntKind.i64.wrap (n : Int) = (n : Int) := wrap_inr (by simp [inr, IntKind.min, IntKind.max, IntKind.signed, IntKind.bits]; omega)
        rw [w1]
        refine fin_eq hK ?_
        subst hn1
        have : decide (n ≤ limit false) = true := decide_eq_true (show n ≤ 9223372036854775807 by omega)
        rw [this]
        simp [signed]
  simp -dsimp only [go_sem, pc51, rs51, h45]
  refine ⟨fun h => ⟨by omega, by simpa using h⟩, fun c hc => ⟨fun h => ?_, fun h => ?_⟩⟩
  · simp only [Bool.and_eq_true] at h
    have hc := hc h.1
    have : neg = true := by rw [← hneg, hc]; exact h.2
    subst this
    obtain rfl : 1 = f := hf
    refine vc_tail 0 rest ?_ ?_
    · simp -dsimp only [go_sem]; simp
    · simp [go_sem]
  · have : neg = false := by
      rw [← hneg]
      cases h0 : (bl s)[0]? with
      | none => rfl
      | some d =>
        have hlt : 0 < (bl s).length := (List.getElem?_eq_some_iff.1 h0).1
        have hd2 := hc (by simp; omega)
        rw [h0] at hd2; obtain rfl := Option.some.inj hd2
        have : decide ((0 : Int) < (bl s).length) = true := by simp; omega
        rw [this, Bool.true_and] at h
        exact h
    subst this
    obtain rfl : 0 = f := hf
    refine vc_tail 0 rest ?_ ?_
    · simp -dsimp only [go_sem]; simp
    · simp [go_sem]
end Go.Proofs.Ytgophdhegdcekaa
