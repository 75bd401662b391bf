/- Plain facts on the tokens of a text. -/
import Derived.Test.YtgophdhegdcekaaLexE
namespace Go.Proofs.Ytgophdhegdcekaa
open Go.W
theorem quoL_le : ∀ (m : Nat) (r : List UInt8) (i : Nat) (out : List UInt8), r.length = m → (quoL i r out).1 ≤ i + r.length := by
  intro m
  induction m using Nat.strongRecOn with
  | ind m ih =>
    intro r i out hm
    cases r with
    | nil => rw [quoL_nil]; exact Nat.le_add_right _ _
    | cons c r =>
      rw [quoL_cons]
      simp only [List.length_cons] at hm ⊢
      cases (decide (c < 32) || decide (126 < c)) with
      | true => simp
      | false =>
        cases (c == 34) with
        | true => simp
        | false =>
          cases (c == 92) with
          | true =>
            simp only [Bool.cond_false, Bool.cond_true]
            cases r with
            | nil => simp
            | cons d r' =>
              simp only [List.length_cons] at hm ⊢
              cases (d == 34 || d == 92) with
              | true => simp only [Bool.cond_true]; have := ih r'.length (by omega) r' (i + 2) (out ++ [d]) rfl; omega
              | false => simp
          | false =>
            simp only [Bool.cond_false]
            have := ih r.length (by omega) r (i + 1) (out ++ [c]) rfl; omega
/-- What a token's reading says of its place. -/
structure Told (l : List UInt8) (p : Nat) (k : Int) (x : List UInt8) (n : Int) (z : Nat) : Prop where
  zero : k = 0 → p = l.length ∧ x = [] ∧ n = 0
  one : k ≠ 0 → ∃ c, l[p]? = some c ∧ p < z ∧ z ≤ l.length ∧ 0 < k ∧ k ≤ 4 ∧ 32 < c.toNat ∧ c.toNat ≠ 35 ∧ (c == 34) = (k == 3) ∧ (k == 1) = isLet c.toNat
theorem wordR_told {l : List UInt8} {a : Nat} (ha : a ≤ l.length) : (∀ {e t}, wordR l a = .bad e t → 0 ≤ t ∧ t ≤ l.length) ∧ ∀ {k x n z}, wordR l a = .ok k x n z → k = 1 := by
  have := runN_le (p := wordB) ha
  unfold wordR
  simp only
  cases decide (16 < runN wordB l a - a) <;> cases (l[runN wordB l a]? == some 45) <;> simp [R.bad.injEq, R.ok.injEq]
  all_goals (intros; omega)
theorem numR_told {l : List UInt8} {a : Nat} {c : UInt8} (hc : l[a]? = some c) : (∀ {e t}, numR l a = .bad e t → 0 ≤ t ∧ t ≤ l.length) ∧ ∀ {k x n z}, numR l a = .ok k x n z → k = 2 := by
  have hlt : a < l.length := (List.getElem?_eq_some_iff.1 hc).1
  have hge : (bif l[a]? == some 45 then a + 1 else a) ≤ l.length := by cases (l[a]? == some 45) <;> simp <;> omega
  have hz2 := runN_le (p := digB) hge
  unfold numR
  simp only
  generalize (List.drop (bif l[a]? == some 45 then a + 1 else a) (List.take (runN digB l (bif l[a]? == some 45 then a + 1 else a)) l)) = q
  cases (q == [] || (q[0]? == some 48 && (decide (1 < q.length) || l[a]? == some 45))) with
  | true => simp only [Bool.cond_true, R.bad.injEq, reduceCtorEq, false_implies, implies_true, and_true]; rintro e t ⟨rfl, rfl⟩; omega
  | false =>
    simp only [Bool.cond_false]
    split
    · simp only [R.bad.injEq, reduceCtorEq, false_implies, implies_true, and_true]; rintro e t ⟨rfl, rfl⟩; omega
    · cases wmAt l (runN digB l (bif l[a]? == some 45 then a + 1 else a)) <;> simp only [Bool.cond_true, Bool.cond_false, R.bad.injEq, R.ok.injEq, reduceCtorEq, false_implies, implies_true, and_true, true_and]
      · rintro k x n z ⟨rfl, _⟩; rfl
      · rintro e t ⟨rfl, rfl⟩; omega
theorem textR_told {l : List UInt8} {a : Nat} (ha : a < l.length) : (∀ {e t}, textR l a = .bad e t → 0 ≤ t ∧ t ≤ l.length) ∧ ∀ {k x n z}, textR l a = .ok k x n z → k = 3 := by
  have := quoL_le _ (l.drop (a + 1)) (a + 1) [] rfl
  simp only [List.length_drop] at this
  unfold textR
  split
  · rename_i i hq
    rw [hq] at this
    simp only at this
    constructor
    · intro e t h; simp only [R.bad.injEq] at h; omega
    · intro k x n z h; cases h
  · rename_i z o hq
    cases decide (200 < o.length) <;> simp [R.bad.injEq, R.ok.injEq]
    all_goals (intros; omega)
def startOk (c : UInt8) : Bool :=
  (!(isLet c.toNat || digB c || c == 45 || c == 34 || isMark c.toNat) || (decide (32 < c.toNat) && c.toNat != 35)) && (!isLet c.toNat || !(c == 34)) && (!(digB c || c == 45) || !(c == 34)) && (!isMark c.toNat || !(c == 34))
theorem start_all (c : UInt8) : startOk c = true := byte_all (by decide +kernel) c
theorem tokR_told {l : List UInt8} {p : Nat} (hp : p ≤ l.length) : (∀ {e t}, tokR l p = .bad e t → e ≠ 0 ∧ 0 ≤ t ∧ t ≤ l.length) ∧ ∀ {k x n z}, tokR l p = .ok k x n z → Told l p k x n z := by
  obtain ⟨hb, ho⟩ := tokR_shape hp
  refine ⟨fun {e t} h => ⟨hb h, ?_⟩, fun {k x n z} h => ?_⟩
  · unfold tokR at h
    split at h
    · cases h
    · rename_i c hc
      have hlt : p < l.length := (List.getElem?_eq_some_iff.1 hc).1
      revert h
      cases isLet c.toNat with
      | true => exact fun h => (wordR_told hp).1 h
      | false =>
        cases (digB c || c == 45) with
        | true => exact fun h => (numR_told hc).1 h
        | false =>
          cases (c == 34) with
          | true => exact fun h => (textR_told hlt).1 h
          | false =>
            cases isMark c.toNat with
            | true => intro h; cases h
            | false => intro h; simp only [Bool.cond_false, R.bad.injEq] at h; omega
  · obtain ⟨o1, o2⟩ := ho h
    unfold tokR at h
    split at h
    · simp only [R.ok.injEq] at h
      exact ⟨fun h0 => ⟨o1 h0, h.2.1.symm, h.2.2.1.symm⟩, fun h0 => absurd h.1.symm h0⟩
    · rename_i c hc
      have hlt : p < l.length := (List.getElem?_eq_some_iff.1 hc).1
      have hs := start_all c
      unfold startOk at hs
      have key : ∀ {q : Int}, k = q → 0 < q → q ≤ 4 → (32 < c.toNat ∧ c.toNat ≠ 35) → (c == 34) = (q == 3) → (q == 1) = isLet c.toNat → Told l p k x n z := by
        rintro q rfl h1 h2 h3 h4 h5
        obtain ⟨h6, h7⟩ := o2 (by omega)
        exact ⟨fun h => by omega, fun _ => ⟨c, hc, h6, h7, h1, h2, h3.1, h3.2, h4, h5⟩⟩
      revert h hs
      cases hL : isLet c.toNat with
      | true =>
        intro h hs
        simp at hs
        exact key ((wordR_told hp).2 h) (by omega) (by omega) hs.1.1.1 (by simpa using hs.1.1.2) (by rw [hL]; rfl)
      | false =>
        cases hd : (digB c || c == 45) with
        | true =>
          intro h hs
          have hd' : digB c = true ∨ c = 45 := by simpa using hd
          simp only [Bool.false_or, hd, Bool.true_or, Bool.not_true, Bool.not_false, Bool.and_true, Bool.true_and, Bool.and_eq_true] at hs
          simp at hs
          exact key ((numR_told hc).2 h) (by omega) (by omega) hs.1.1 (by simpa using hs.1.2) (by rw [hL]; rfl)
        | false =>
          cases h4 : (c == 34) with
          | true =>
            intro h hs
            have : c = 34 := by simpa using h4
            subst this
            exact key ((textR_told hlt).2 h) (by omega) (by omega) (by decide) (by rfl) (by rw [hL]; rfl)
          | false =>
            cases hm : isMark c.toNat with
            | true =>
              intro h hs
              simp only [Bool.false_or, hd, Bool.or_true, Bool.not_true, Bool.not_false, Bool.and_true, Bool.true_and, Bool.and_eq_true] at hs
              simp at hs
              simp only [Bool.cond_false, Bool.cond_true, R.ok.injEq] at h
              exact key h.1.symm (by omega) (by omega) hs (by rw [h4]; rfl) (by rw [hL]; rfl)
            | false => intro h hs; cases h
/-- The tokens of a text, one after the other. -/
def Offs (l : List UInt8) : Nat → List Tk → Prop
  | _, [] => False
  | a, t :: ts => a ≤ t.a ∧ t.a ≤ l.length ∧ ∃ z, Told l t.a t.k t.x t.n z ∧ (t.k = 0 → ts = []) ∧ (t.k ≠ 0 → Offs l z ts)
theorem scan_offs {l : List UInt8} : ∀ (f a : Nat) (ts : List Tk), a ≤ l.length → l.length < f + a → scanN f l a = .ok ts → Offs l a ts
  | 0, a, ts, ha, hf, h => by omega
  | f + 1, a, ts, ha, hf, h => by
    have hpl : skipN l a ≤ l.length := skipN_le ha
    have hpa : a ≤ skipN l a := skipN_ge
    rw [scanN] at h
    split at h
    · cases h
    · rename_i k x n z hR
      have ht := (tokR_told hpl).2 hR
      cases hk : k == 0 with
      | true =>
        rw [hk] at h
        simp only [Bool.cond_true, SR.ok.injEq] at h
        subst h
        exact ⟨hpa, hpl, z, ht, fun _ => rfl, fun h => absurd (by simpa using hk) h⟩
      | false =>
        rw [hk] at h
        have hk' : k ≠ 0 := by simpa using hk
        obtain ⟨c, _, h1, h2, _⟩ := ht.one hk'
        cases hr : scanN f l z with
        | bad e t => rw [hr] at h; cases h
        | ok us =>
          rw [hr] at h
          simp only [Bool.cond_false, SR.cons, SR.ok.injEq] at h
          subst h
          exact ⟨hpa, hpl, z, ht, fun h => absurd h hk', fun _ => scan_offs f z us h2 (by omega) hr⟩
theorem scan_bad {l : List UInt8} : ∀ (f a : Nat) (e t : Int), a ≤ l.length → scanN f l a = .bad e t → e ≠ 0 ∧ 0 ≤ t ∧ t ≤ l.length
  | 0, a, e, t, ha, h => by cases h
  | f + 1, a, e, t, ha, h => by
    have hpl : skipN l a ≤ l.length := skipN_le ha
    rw [scanN] at h
    split at h
    · rename_i e' t' hR
      have := (tokR_told hpl).1 hR
      simp only [SR.bad.injEq] at h
      obtain ⟨rfl, rfl⟩ := h; exact this
    · rename_i k x n z hR
      have ht := (tokR_told hpl).2 hR
      cases hk : k == 0 with
      | true => rw [hk] at h; cases h
      | false =>
        rw [hk] at h
        have hk' : k ≠ 0 := by simpa using hk
        obtain ⟨c, _, h1, h2, _⟩ := ht.one hk'
        cases hr : scanN f l z with
        | bad e' t' => rw [hr] at h; simp only [Bool.cond_false, SR.cons, SR.bad.injEq] at h; obtain ⟨rfl, rfl⟩ := h; exact scan_bad f z _ _ h2 hr
        | ok us => rw [hr] at h; cases h
/-- Scan's answer: an error in the text, or tokens in a row. -/
theorem scanR_told (l : List UInt8) : (scanR l).err ≠ 0 ∧ (scanR l).toks = [] ∧ 0 ≤ (scanR l).off ∧ (scanR l).off ≤ l.length ∨ (scanR l).err = 0 ∧ (scanR l).off = 0 ∧ l.length ≤ 4000 ∧ Offs l 0 (scanR l).toks := by
  unfold scanR
  cases h : decide (4000 < l.length) with
  | true => left; exact ⟨by simp [SR.err], rfl, by simp [SR.off], by simp [SR.off]⟩
  | false =>
    have h4 : l.length ≤ 4000 := by simpa using h
    simp only [Bool.cond_false]
    cases hr : scanN (l.length + 1) l 0 with
    | bad e t => left; obtain ⟨h1, h2, h3⟩ := scan_bad _ _ _ _ (by omega) hr; exact ⟨h1, rfl, h2, h3⟩
    | ok ts => right; exact ⟨rfl, rfl, h4, scan_offs _ _ _ (by omega) (by omega) hr⟩
theorem offs_ne {l : List UInt8} {a : Nat} {ts : List Tk} (h : Offs l a ts) : 0 < ts.length := by
  cases ts with
  | nil => exact h.elim
  | cons t ts => simp
theorem offs_len {l : List UInt8} : ∀ {a : Nat} {ts : List Tk}, Offs l a ts → ts.length + a ≤ l.length + 1
  | a, [], h => h.elim
  | a, t :: ts, ⟨h1, h2, z, h3, h4, h5⟩ => by
    rcases Decidable.em (t.k = 0) with h0 | h0
    · rw [h4 h0]; simp only [List.length_cons, List.length_nil]; omega
    · obtain ⟨c, _, g1, _⟩ := h3.one h0
      have := offs_len (h5 h0)
      simp only [List.length_cons]; omega
theorem offs_at {l : List UInt8} : ∀ {a : Nat} {ts : List Tk} {i : Nat} {t : Tk}, Offs l a ts → ts[i]? = some t →
    a ≤ t.a ∧ t.a ≤ l.length ∧ (∃ z, Told l t.a t.k t.x t.n z) ∧ (t.k = 0 ↔ i + 1 = ts.length) ∧ ∀ u, 0 < i → ts[i - 1]? = some u → u.a < t.a
  | a, [], i, t, h, _ => h.elim
  | a, s :: ts, 0, t, ⟨h1, h2, z, h3, h4, h5⟩, hi => by
    simp at hi; subst hi
    refine ⟨h1, h2, ⟨z, h3⟩, ⟨fun h => by rw [h4 h]; rfl, fun h => ?_⟩, fun u h => by omega⟩
    rcases Decidable.em (s.k = 0) with h0 | h0
    · exact h0
    · have := offs_ne (h5 h0); simp only [List.length_cons] at h; omega
  | a, s :: ts, i + 1, t, ⟨h1, h2, z, h3, h4, h5⟩, hi => by
    simp at hi
    have h0 : s.k ≠ 0 := fun h => by rw [h4 h] at hi; simp at hi
    obtain ⟨c, _, g1, g2, _⟩ := h3.one h0
    obtain ⟨q1, q2, q3, q4, q5⟩ := offs_at (h5 h0) hi
    refine ⟨by omega, q2, q3, by rw [q4]; simp, fun u _ hu => ?_⟩
    simp only [Nat.add_sub_cancel] at hu
    cases i with
    | zero => simp at hu; subst hu; omega
    | succ i => simp at hu; exact q5 u (by omega) (by simpa using hu)
end Go.Proofs.Ytgophdhegdcekaa
