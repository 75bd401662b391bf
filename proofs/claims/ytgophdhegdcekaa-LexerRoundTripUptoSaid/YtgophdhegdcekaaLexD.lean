/- The scanner's next token; Scan. -/
import Derived.Test.YtgophdhegdcekaaLexC
namespace Go.Proofs.Ytgophdhegdcekaa
open Go.W
def tokR (l : List UInt8) (p : Nat) : R := match l[p]? with
  | none => .ok 0 [] 0 p
  | some c => bif isLet c.toNat then wordR l p else bif digB c || c == 45 then numR l p else bif c == 34 then textR l p
    else bif isMark c.toNat then .ok 4 [c] 0 (p + 1) else .bad 2 p
theorem cls3 (c : UInt8) : (cls c.toNat == 3) = isLet c.toNat := by
  have := byte_all (p := fun c => (cls c.toNat == 3) == isLet c.toNat) (by decide +kernel) c
  simpa using this
theorem cls45 (c : UInt8) : (cls c.toNat == 4 || cls c.toNat == 5) = (digB c || c == 45) := by
  have := byte_all (p := fun c => (cls c.toNat == 4 || cls c.toNat == 5) == (digB c || c == 45)) (by decide +kernel) c
  simpa using this
theorem cls7 (c : UInt8) : (cls c.toNat == 7) = (c == 34) := by
  have := byte_all (p := fun c => (cls c.toNat == 7) == (c == 34)) (by decide +kernel) c
  simpa using this
theorem cls8 (c : UInt8) : (cls c.toNat == 8) = isMark c.toNat := by
  have := byte_all (p := fun c => (cls c.toNat == 8) == isMark c.toNat) (by decide +kernel) c
  simpa using this
theorem clsm1 (c : UInt8) : (cls c.toNat == -1) = false := by
  have := byte_all (p := fun c => (cls c.toNat == -1) == false) (by decide +kernel) c
  simpa using this
def nextSp : W.Spec := scSp (fun _ _ e t => e = 0 ∧ t = 0) fun s a _ _ K => tokN s (skipN (bl s) a.toNat) K (tokR (bl s) (skipN (bl s) a.toNat))
attribute [go_sem ↓] nextSp
set_option maxRecDepth 100000 in
theorem mNext : Meets Try.prog 27 nextSp := by
  refine meets_fn Try.func27 ok27 1 (by rw [Try.ntmps27]; decide)
    (meetsAll_s mSkip (meetsAll_s mKind (meetsAll_s mWord (meetsAll_s mNumber (meetsAll_s mText (meetsAll_s mFail (meetsAll_nil _))))))) scSp_len ?_
  intro xs H K h
  obtain ⟨s, a, e, t, rfl, rfl, h0, h1, h2, ⟨rfl, rfl⟩, hK⟩ := scSp_open h
  generalize hp : skipN (bl s) a.toNat = p at hK
  have hpl : p ≤ (bl s).length := by rw [← hp]; exact skipN_le (by omega)
  have hfin : ∀ {k x n y z e t} {B2 : B}, Tok (tokR (bl s) p) p k x n y z e t → W.Fin 1 K (.va (.gs (tkC k x n y))) [scB s z e t, B2] := fun h => .sel [0] (by simp) (by simp) rfl (.done (hK _ _ _ _ _ _ _ h))
  have ht : tokR (bl s) p = match (bl s)[p]? with
      | none => .ok 0 [] 0 p
      | some c => bif cls c.toNat == 3 then wordR (bl s) p else bif cls c.toNat == 4 || cls c.toNat == 5 then numR (bl s) p else bif cls c.toNat == 7 then textR (bl s) p
        else bif cls c.toNat == 8 then .ok 4 [c] 0 (p + 1) else .bad 2 p := by
    unfold tokR
    cases (bl s)[p]? with
    | none => rfl
    | some c => simp only [cls3, cls45, cls7, cls8]
  rw [ht] at hfin
  simp -dsimp only [go_sem, pc27, rs27, hp] at ⊢
  cases hc : (bl s)[p]? with
  | none =>
    rw [hc] at hfin
    have hk : kindN (bl s) p = -1 := by rw [kindN, hc]
    simp only [hk]
    refine ⟨⟨h0, h1, h2⟩, ⟨by omega, by omega, h2⟩, fun _ => hfin ⟨rfl, rfl, rfl, rfl, rfl, rfl, rfl⟩, fun h => by simp at h⟩
  | some c =>
    rw [hc] at hfin
    have hplt : p < (bl s).length := (List.getElem?_eq_some_iff.1 hc).1
    have hk : kindN (bl s) p = cls c.toNat := by rw [kindN, hc]
    have hd : (List.take (p + 1) (bl s)).drop p = [c] := by
      rw [List.drop_take, drop_get hc]; simp
    simp only [hk, clsm1]
    have q45 := cls45 c
    have q7 := cls7 c
    have hi1 : ((p : Int) + 1 - 1) = p := by omega
    have hi2 : ((p : Int) + 1).toNat = p + 1 := by omega
    rw [hi1, hi2]
    refine ⟨⟨h0, h1, h2⟩, ⟨by omega, by omega, h2⟩, fun h => by simp at h, fun _ => ?_⟩
    simp only [Int.toNat_natCast, hd]
    repeat' (first | apply And.intro | intro)
    all_goals first
      | omega
      | (refine hfin ?_; simp_all; done)
      | (exact ⟨c, rfl, by simp_all⟩)
      | (simp_all; done)
      | skip
    · rename_i g3 g4 g5 g7 g8
      refine hfin ?_
      simp only [g3, g4, g5, g7, g8, Bool.cond_true, Bool.cond_false, Bool.or_self]
      exact ⟨rfl, rfl, rfl, rfl, by simp, rfl, rfl⟩
    · rename_i g3 g4 g5 g7 g8
      refine hfin ?_
      simp only [g3, g4, g5, g7, g8, Bool.cond_false, Bool.or_self]
      exact ⟨rfl, rfl, p, rfl⟩
/-! ### Scan -/
structure Tk where
  k : Int
  x : List UInt8
  n : Int
  a : Nat
abbrev tkL (t : Tk) : List C := tkC t.k (mk t.x) t.n t.a
inductive SR where
  | ok (l : List Tk)
  | bad (e t : Int)
def SR.cons (t : Tk) : SR → SR
  | .ok l => .ok (t :: l)
  | .bad e t => .bad e t
def SR.app (acc : List Tk) : SR → SR
  | .ok l => .ok (acc ++ l)
  | .bad e t => .bad e t
theorem SR.app_cons (acc : List Tk) (t : Tk) (r : SR) : SR.app acc (SR.cons t r) = SR.app (acc ++ [t]) r := by cases r <;> simp [SR.app, SR.cons]
def scanN : Nat → List UInt8 → Nat → SR
  | 0, _, _ => .ok []
  | f + 1, l, a => match tokR l (skipN l a) with
    | .bad e t => .bad e t
    | .ok k x n z => bif k == 0 then .ok [⟨k, x, n, skipN l a⟩] else SR.cons ⟨k, x, n, skipN l a⟩ (scanN f l z)
def scanR (l : List UInt8) : SR := bif decide (4000 < l.length) then .bad 3 0 else scanN (l.length + 1) l 0
def SR.toks : SR → List Tk
  | .ok l => l
  | .bad _ _ => []
def SR.err : SR → Int
  | .ok _ => 0
  | .bad e _ => e
def SR.off : SR → Int
  | .ok _ => 0
  | .bad _ t => t
theorem numR_shape {l : List UInt8} {a : Nat} {c : UInt8} (hc : l[a]? = some c) (hd : digB c = true ∨ c = 45) : (∀ {e t}, numR l a = .bad e t → e ≠ 0) ∧ ∀ {k x n z}, numR l a = .ok k x n z → k ≠ 0 ∧ a < z ∧ z ≤ l.length := by
  have hlt : a < l.length := (List.getElem?_eq_some_iff.1 hc).1
  have hne : (l[a]? == some 45) = (c == 45) := by rw [hc]; rfl
  have hge : (bif c == 45 then a + 1 else a) ≤ l.length := by cases (c == 45) <;> simp <;> omega
  have hz2 := runN_le (p := digB) hge
  have hz : ∀ {p : UInt8 → Bool} {f : Nat}, f ≤ runN p l f := fun {p f} => runN_ge
  have hz1 : a < runN digB l (bif c == 45 then a + 1 else a) := by
    rcases hd with hd | hd
    · have h45 : (c == 45) = false := by
        have := byte_all (p := fun c => !(digB c) || !(c == 45)) (by decide +kernel) c
        simpa [hd] using this
      simp only [h45, Bool.cond_false]
      rw [← runN_step hc hd]
      exact Nat.lt_of_lt_of_le (Nat.lt_succ_self a) hz
    · subst hd
      simp only [beq_self_eq_true, Bool.cond_true]
      exact Nat.lt_of_lt_of_le (Nat.lt_succ_self a) hz
  constructor
  · intro e t h
    unfold numR at h
    simp only at h
    revert h
    cases (List.drop (bif l[a]? == some 45 then a + 1 else a) (List.take (runN digB l (bif l[a]? == some 45 then a + 1 else a)) l) == [] || ((List.drop (bif l[a]? == some 45 then a + 1 else a) (List.take (runN digB l (bif l[a]? == some 45 then a + 1 else a)) l))[0]? == some 48 && (decide (1 < (List.drop (bif l[a]? == some 45 then a + 1 else a) (List.take (runN digB l (bif l[a]? == some 45 then a + 1 else a)) l)).length) || l[a]? == some 45))) with
    | true => intro h; simp only [Bool.cond_true, R.bad.injEq] at h; omega
    | false =>
      simp only [Bool.cond_false]
      split
      · intro h; simp only [R.bad.injEq] at h; omega
      · cases wmAt l (runN digB l (bif l[a]? == some 45 then a + 1 else a)) <;> simp only [Bool.cond_true, Bool.cond_false, R.bad.injEq, reduceCtorEq, false_implies]; intro h; omega
  · intro k x n z h
    unfold numR at h
    simp only at h
    rw [hne] at h
    revert h
    generalize (List.drop (bif c == 45 then a + 1 else a) (List.take (runN digB l (bif c == 45 then a + 1 else a)) l)) = q
    cases (q == [] || (q[0]? == some 48 && (decide (1 < q.length) || c == 45))) with
    | true => intro h; simp only [Bool.cond_true, reduceCtorEq] at h
    | false =>
      simp only [Bool.cond_false]
      split
      · intro h; cases h
      · cases wmAt l (runN digB l (bif c == 45 then a + 1 else a)) <;> simp only [Bool.cond_true, Bool.cond_false, R.ok.injEq, reduceCtorEq, false_implies]
        rintro ⟨rfl, rfl, rfl, rfl⟩
        exact ⟨by decide, hz1, hz2⟩
theorem wordR_shape {l : List UInt8} {a : Nat} {c : UInt8} (hc : l[a]? = some c) (hd : isLet c.toNat = true) : (∀ {e t}, wordR l a = .bad e t → e ≠ 0) ∧ ∀ {k x n z}, wordR l a = .ok k x n z → k ≠ 0 ∧ a < z ∧ z ≤ l.length := by
  have hlt : a < l.length := (List.getElem?_eq_some_iff.1 hc).1
  have hz2 := runN_le (p := wordB) (Nat.le_of_lt hlt)
  have hw : wordB c = true := by simp [wordB, isWord, hd]
  have hz1 : a < runN wordB l a := by
    rw [← runN_step hc hw]
    exact Nat.lt_of_lt_of_le (Nat.lt_succ_self a) runN_ge
  unfold wordR
  simp only
  cases decide (16 < runN wordB l a - a) <;> cases (l[runN wordB l a]? == some 45) <;> simp only [Bool.cond_true, Bool.cond_false]
  all_goals refine ⟨fun {e t} h => ?_, fun {k x n z} h => ?_⟩
  all_goals simp only [R.bad.injEq, R.ok.injEq, reduceCtorEq] at h
  all_goals first | omega | (obtain ⟨rfl, rfl, rfl, rfl⟩ := h; exact ⟨by decide, hz1, hz2⟩)
theorem textR_shape {l : List UInt8} {a : Nat} (hc : l[a]? = some 34) : (∀ {e t}, textR l a = .bad e t → e ≠ 0) ∧ ∀ {k x n z}, textR l a = .ok k x n z → k ≠ 0 ∧ a < z ∧ z ≤ l.length := by
  have hlt : a < l.length := (List.getElem?_eq_some_iff.1 hc).1
  have key : ∀ (m : Nat) (r : List UInt8) (i : Nat) (out : List UInt8) (z : Nat) (o : List UInt8), r.length = m → quoL i r out = (z, some o) → i < z ∧ z ≤ i + r.length := by
    intro m
    induction m using Nat.strongRecOn with
    | ind m ih =>
      intro r i out z o hm h
      cases r with
      | nil => rw [quoL_nil] at h; cases h
      | cons c r =>
        rw [quoL_cons] at h
        simp only [List.length_cons] at hm
        revert h
        cases (decide (c < 32) || decide (126 < c)) with
        | true => intro h; cases h
        | false =>
          cases (c == 34) with
          | true => intro h; simp only [Bool.cond_false, Bool.cond_true, Prod.mk.injEq] at h; simp; omega
          | false =>
            cases (c == 92) with
            | true =>
              simp only [Bool.cond_false, Bool.cond_true]
              cases r with
              | nil => intro h; cases h
              | cons d r' =>
                simp only
                cases (d == 34 || d == 92) with
                | true => intro h; have := ih r'.length (by simp at hm; omega) r' _ _ _ _ rfl h; simp; omega
                | false => intro h; cases h
            | false =>
              simp only [Bool.cond_false]
              intro h; have := ih r.length (by omega) r _ _ _ _ rfl h; simp; omega
  unfold textR
  split
  · constructor
    · intro e t h; simp only [R.bad.injEq] at h; omega
    · intro k x n z h; cases h
  · rename_i z o hq
    have := key _ _ _ _ _ _ rfl hq
    simp only [List.length_drop] at this
    cases decide (200 < o.length) <;> simp [R.bad.injEq, R.ok.injEq]
    all_goals (intros; omega)
theorem tokR_shape {l : List UInt8} {p : Nat} (hp : p ≤ l.length) : (∀ {e t}, tokR l p = .bad e t → e ≠ 0) ∧ ∀ {k x n z}, tokR l p = .ok k x n z → (k = 0 → p = l.length) ∧ (k ≠ 0 → p < z ∧ z ≤ l.length) := by
  unfold tokR
  cases hc : l[p]? with
  | none =>
    have : l.length ≤ p := List.getElem?_eq_none_iff.1 hc
    simp only [R.ok.injEq, reduceCtorEq, false_implies, implies_true, true_and]
    rintro k x n z ⟨rfl, rfl, rfl, rfl⟩
    exact ⟨fun _ => by omega, fun h => absurd rfl h⟩
  | some c =>
    have hlt : p < l.length := (List.getElem?_eq_some_iff.1 hc).1
    simp only
    cases h1 : isLet c.toNat with
    | true =>
      simp only [Bool.cond_true]
      obtain ⟨q1, q2⟩ := wordR_shape hc h1
      exact ⟨q1, fun h => ⟨fun e => absurd e (q2 h).1, fun _ => (q2 h).2⟩⟩
    | false =>
      simp only [Bool.cond_false]
      cases h2 : (digB c || c == 45) with
      | true =>
        simp only [Bool.cond_true]
        obtain ⟨q1, q2⟩ := numR_shape hc (by simpa using h2)
        exact ⟨q1, fun h => ⟨fun e => absurd e (q2 h).1, fun _ => (q2 h).2⟩⟩
      | false =>
        simp only [Bool.cond_false]
        cases h3 : (c == 34) with
        | true =>
          simp only [Bool.cond_true]
          have : c = 34 := by simpa using h3
          subst this
          obtain ⟨q1, q2⟩ := textR_shape hc
          exact ⟨q1, fun h => ⟨fun e => absurd e (q2 h).1, fun _ => (q2 h).2⟩⟩
        | false =>
          simp only [Bool.cond_false]
          cases isMark c.toNat with
          | true =>
            simp only [Bool.cond_true, R.ok.injEq, reduceCtorEq, false_implies, implies_true, true_and]
            rintro k x n z ⟨rfl, rfl, rfl, rfl⟩
            exact ⟨fun e => by omega, fun _ => by omega⟩
          | false =>
            simp only [Bool.cond_false, R.bad.injEq, reduceCtorEq, false_implies, implies_true, and_true]
            rintro e t ⟨rfl, rfl⟩
            decide
theorem skipN_ge {l : List UInt8} {a : Nat} : a ≤ skipN l a := by unfold skipN; omega
def scanSp : W.Spec := fun xs H K =>
  match xs, H with
  | [.va (.c1 (.vl (.string s)))], [] => K (.tu [.c1 (.fz ((scanR (bl s)).toks.map tkL)), iA .i64 (scanR (bl s)).err, iA .i64 (scanR (bl s)).off]) []
  | _, _ => False
theorem scanSp_open {xs : List S} {H : Hp} {K : S → Hp → Prop} (h : scanSp xs H K) : ∃ s, xs = [tS s] ∧ H = [] ∧ K (.tu [.c1 (.fz ((scanR (bl s)).toks.map tkL)), iA .i64 (scanR (bl s)).err, iA .i64 (scanR (bl s)).off]) [] := by
  unfold scanSp at h
  split at h
  · exact ⟨_, rfl, rfl, h⟩
  · exact h.elim
attribute [go_sem ↓] scanSp
set_option maxRecDepth 100000 in
theorem mScan : Meets Try.prog 8 scanSp := by
  refine meets_fn Try.func8 ok8 1 (by rw [Try.ntmps8]; decide) (meetsAll_s mNext (meetsAll_nil _)) (fun xs H K h => by obtain ⟨s, rfl, _⟩ := scanSp_open h; rfl) ?_
  intro xs H K h
  obtain ⟨s, rfl, rfl, hK⟩ := scanSp_open h
  simp -dsimp only [go_sem, pc8, rs8] at hK ⊢
  refine ⟨fun h1 => ?_, fun h1 => ?_⟩
  · have h2 : decide (4000 < (bl s).length) = true := by simp at h1 ⊢; omega
    simp only [scanR, h2, Bool.cond_true, SR.toks, SR.err, SR.off] at hK
    exact .done hK
  have h2 : decide (4000 < (bl s).length) = false := by simp at h1 ⊢; omega
  have hlen : (bl s).length ≤ 4000 := by simpa using h2
  refine vc_loop_gh (α := Nat × Nat × List Tk) (fun z => [(5, .va (.c1 (.pt 0 0))), (6, .va (.c1 (.sl 1 z.2.2.length)))]) (fun z => [scB s z.2.1 0 0, .row (z.2.2.map tkL) 30 4])
    (fun z => (bl s).length < z.1 + z.2.1 ∧ z.2.1 ≤ (bl s).length ∧ z.2.2.length ≤ z.2.1 ∧ SR.app z.2.2 (scanN z.1 (bl s) z.2.1) = scanR (bl s)) (fun z => z.1)
    (.nil 6 30 4 ?_ (gh_at ((bl s).length + 1, 0, []) 2 ⟨by simp only; omega, by simp, by simp, ?_⟩ ?_ ?_)) ?_
  · simp -dsimp only [go_sem]; rfl
  · simp only [scanR, h2, Bool.cond_false]
    cases scanN ((bl s).length + 1) (bl s) 0 <;> rfl
  · simp -dsimp only [go_sem]
  · simp -dsimp only [go_sem]; rfl
  rintro ⟨f, a, acc⟩ ⟨hf, ha, hac, hr⟩
  simp only at hf ha hac hr
  simp -dsimp only [go_sem]
  have hpl : skipN (bl s) a ≤ (bl s).length := skipN_le ha
  have hpa : a ≤ skipN (bl s) a := skipN_ge
  obtain ⟨hb, ho⟩ := tokR_shape hpl
  obtain ⟨f, rfl⟩ : ∃ g, f = g + 1 := ⟨f - 1, by omega⟩
  rw [scanN] at hr
  refine ⟨⟨by omega, by omega, hlen⟩, fun k x n y z e t ht => ?_⟩
  cases hR : tokR (bl s) (skipN (bl s) a) with
  | bad e' t' =>
    rw [hR] at ht hr
    obtain ⟨rfl, rfl, z, rfl⟩ := ht
    have he := hb hR
    simp only [SR.app] at hr
    rw [← hr] at hK
    simp only [SR.toks, SR.err, SR.off] at hK
    refine ⟨fun h3 => .sel [] (by simp) (by simp) rfl (.done ?_), fun h3 => absurd h3 (by simpa using he)⟩
    simpa [go_sem] using hK
  | ok k' x' n' z' =>
    rw [hR] at ht hr
    obtain ⟨rfl, rfl, rfl, rfl, rfl, rfl, rfl⟩ := ht
    obtain ⟨o1, o2⟩ := ho hR
    refine ⟨fun h3 => absurd h3 (by simp), fun _ => ⟨by omega, fun h3 => ?_, fun h3 => ?_⟩⟩
    · simp only [h3, Bool.cond_true, SR.app] at hr
      rw [← hr] at hK
      simp only [SR.toks, SR.err, SR.off, List.map_append, List.map_cons, List.map_nil] at hK
      refine .pub 1 _ _ _ rfl (.sel [] (by simp) (by simp [pubH]) rfl (.done ?_))
      simpa [go_sem] using hK
    · simp only [h3, Bool.cond_false, SR.app_cons] at hr
      obtain ⟨o3, o4⟩ := o2 (by simpa using h3)
      refine loop_next (f, z', acc ++ [⟨k, x', n, skipN (bl s) a⟩]) 2 ⟨by simp only; omega, o4, by simp; omega, hr⟩ (by simp only; omega) ?_ ?_
      · simp -dsimp only [go_sem]
      · simp -dsimp only [go_sem]
end Go.Proofs.Ytgophdhegdcekaa
