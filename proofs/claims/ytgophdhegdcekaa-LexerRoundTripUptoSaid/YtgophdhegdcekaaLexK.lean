/- What is printed is scanned back: in plain lists. -/
import Derived.Test.YtgophdhegdcekaaLexJ
import Derived.Test.YtgophdhegdcekaaLexR
import Derived.Test.YtgophdhegdcekaaLexN
namespace Go.Proofs.Ytgophdhegdcekaa
open Go.W
def Ends1 (rest : List UInt8) : Prop := ∀ c, rest[0]? = some c → c = 32
theorem take_ends {p : UInt8 → Bool} (h32 : p 32 = false) {x rest : List UInt8} (hx : ∀ c ∈ x, p c = true) (hr : Ends1 rest) : (x ++ rest).takeWhile p = x := by
  induction x with
  | nil =>
    cases rest with
    | nil => rfl
    | cons c r => rw [List.nil_append, List.takeWhile_cons, hr c rfl, h32]; rfl
  | cons c x ih => rw [List.cons_append, List.takeWhile_cons, if_pos (hx c (by simp)), ih fun d hd => hx d (by simp [hd])]
theorem runN_ends {p : UInt8 → Bool} (h32 : p 32 = false) {l x rest : List UInt8} {a : Nat} (h : l.drop a = x ++ rest) (hx : ∀ c ∈ x, p c = true) (hr : Ends1 rest) : runN p l a = a + x.length := by
  rw [runN, h, take_ends h32 hx hr]
theorem sub_ends {l x rest : List UInt8} {a : Nat} (h : l.drop a = x ++ rest) : (l.take (a + x.length)).drop a = x := by
  rw [List.drop_take, h, Nat.add_sub_cancel_left, List.take_left]
theorem get_ends {l x rest : List UInt8} {a : Nat} (h : l.drop a = x ++ rest) (j : Nat) : l[a + x.length + j]? = rest[j]? := by
  have : (l.drop a)[x.length + j]? = rest[j]? := by rw [h, List.getElem?_append_right (by omega)]; congr 1; omega
  rw [← this, List.getElem?_drop]; congr 1; omega
theorem get_at {l x : List UInt8} {a : Nat} {c : UInt8} (h : l.drop a = c :: x) : l[a]? = some c := by
  have : (l.drop a)[0]? = some c := by rw [h]; rfl
  rwa [List.getElem?_drop, Nat.add_zero] at this
theorem drop_at {l x : List UInt8} {a : Nat} {c : UInt8} (h : l.drop a = c :: x) : l.drop (a + 1) = x := by
  rw [← List.drop_drop, h]; rfl
theorem name_back {l x rest : List UInt8} {a : Nat} (h : l.drop a = x ++ rest) (hr : Ends1 rest) (hx : isNm x = true) : tokR l a = .ok 1 x 0 (a + x.length) ∧ ∃ c, l[a]? = some c ∧ (c == 32 || c == 9 || c == 10) = false ∧ (c == 35) = false := by
  obtain ⟨c, h0, h1, h2, h3⟩ := (isNm_iff x).1 hx
  have hc : l[a]? = some c := by
    cases x with
    | nil => cases h0
    | cons d x => simp at h0; subst h0; exact get_at h
  have hz : runN wordB l a = a + x.length := runN_ends (by decide) h h3 hr
  have hsk := byte_all (p := fun c => !(isLet c.toNat) || (!(c == 32 || c == 9 || c == 10) && !(c == 35))) (by decide +kernel) c
  simp only [h2, Bool.not_true, Bool.false_or, Bool.and_eq_true, Bool.not_eq_true'] at hsk
  refine ⟨?_, c, hc, hsk⟩
  have hn : (l[a + x.length]? == some 45) = false := by
    have := get_ends h 0
    rw [Nat.add_zero] at this
    rw [this]
    cases hq : rest[0]? with
    | none => rfl
    | some d => rw [hr d hq]; rfl
  have h16 : decide (16 < a + x.length - a) = false := by simp; omega
  simp only [tokR, hc, h2, Bool.cond_true, wordR, hz, h16, hn, Bool.cond_false, sub_ends h]
theorem mark_back {l rest : List UInt8} {a : Nat} {c : UInt8} (h : l.drop a = c :: rest) (hx : isMark c.toNat = true) : tokR l a = .ok 4 [c] 0 (a + 1) ∧ ∃ c, l[a]? = some c ∧ (c == 32 || c == 9 || c == 10) = false ∧ (c == 35) = false := by
  have hc := get_at h
  have hsk := byte_all (p := fun c => !(isMark c.toNat) || ((!(c == 32 || c == 9 || c == 10) && !(c == 35)) && (!(isLet c.toNat) && !(digB c || c == 45) && !(c == 34)))) (by decide +kernel) c
  simp only [hx, Bool.not_true, Bool.false_or, Bool.and_eq_true, Bool.not_eq_true'] at hsk
  obtain ⟨h1, ⟨h2, h3⟩, h4⟩ := hsk
  exact ⟨by simp only [tokR, hc, h2, h3, h4, hx, Bool.cond_true, Bool.cond_false], c, hc, h1⟩
theorem quo_esc : ∀ (x rest out : List UInt8) (i : Nat), x.all prB = true → quoL i (x.flatMap escB ++ 34 :: rest) out = (i + (x.flatMap escB).length + 1, some (out ++ x))
  | [], rest, out, i, _ => by
    rw [List.flatMap_nil, List.nil_append, quoL_cons]
    simp
  | c :: x, rest, out, i, h => by
    rw [List.all_cons, Bool.and_eq_true] at h
    obtain ⟨h1, h2⟩ := h
    have ih := fun i out => quo_esc x rest out i h2
    rw [List.flatMap_cons, List.append_assoc]
    unfold prB at h1
    have hlo : (decide (c < 32) || decide (126 < c)) = false := by
      simp only [Bool.and_eq_true, decide_eq_true_eq, UInt8.le_iff_toNat_le] at h1
      simp only [Bool.or_eq_false_iff, decide_eq_false_iff_not, UInt8.lt_iff_toNat_lt]
      exact ⟨by omega, by omega⟩
    rw [show escB c = bif c == 34 || c == 92 then [92, c] else [c] from rfl]
    cases hq : (c == 34 || c == 92) with
    | true =>
      rw [Bool.cond_true, List.cons_append, quoL_cons]
      have e1 : (decide ((92 : UInt8) < 32) || decide ((126 : UInt8) < 92)) = false := by decide
      have e2 : ((92 : UInt8) == 34) = false := by decide
      have e3 : ((92 : UInt8) == 92) = true := by decide
      rw [e1, e2, e3]
      simp only [Bool.cond_true, Bool.cond_false, List.cons_append, List.nil_append, hq]
      rw [ih]
      simp; omega
    | false =>
      simp only [Bool.or_eq_false_iff] at hq
      rw [Bool.cond_false, List.cons_append, List.nil_append, quoL_cons, hlo, hq.1, hq.2]
      simp only [Bool.cond_false]
      rw [ih]
      simp; omega
theorem text_back {l x rest : List UInt8} {a : Nat} (h : l.drop a = quoS x ++ rest) (hl : x.length ≤ 200) (hx : x.all prB = true) : tokR l a = .ok 3 x 0 (a + (quoS x).length) ∧ ∃ c, l[a]? = some c ∧ (c == 32 || c == 9 || c == 10) = false ∧ (c == 35) = false := by
  have h' : l.drop a = 34 :: (x.flatMap escB ++ 34 :: rest) := by rw [h]; simp [quoS]
  have hc := get_at h'
  refine ⟨?_, 34, hc, by decide, by decide⟩
  have e1 : isLet ((34 : UInt8).toNat : Int) = false := by decide
  have e2 : (digB 34 || (34 : UInt8) == 45) = false := by decide
  have h200 : decide (200 < x.length) = false := by simp; omega
  simp only [tokR, hc, e1, e2, Bool.cond_false, textR, drop_at h', quo_esc x rest [] (a + 1) hx, List.nil_append, h200]
  simp [quoS]
  omega
theorem digs_dig : ∀ (k m : Nat), m < 10 ^ (k + 1) → ∀ c ∈ digs m, digB c = true
  | 0, m, h => fun c hc => by
    rw [digs_lt (by omega)] at hc
    simp only [List.mem_cons, List.not_mem_nil, or_false] at hc
    subst hc
    rw [digB_iff, UInt8.toNat_ofNat']
    omega
  | k + 1, m, h => fun c hc => by
    rcases Nat.lt_or_ge m 10 with h1 | h1
    · exact digs_dig 0 m (by omega) c hc
    · rw [digs_ge h1, List.mem_append] at hc
      rcases hc with hc | hc
      · exact digs_dig k (m / 10) (by rw [Nat.pow_succ] at h; omega) c hc
      · simp only [List.mem_cons, List.not_mem_nil, or_false] at hc
        subst hc
        rw [digB_iff, UInt8.toNat_ofNat']
        omega
theorem digs_ne (m : Nat) : digs m ≠ [] := by rw [digs.eq_1]; simp
theorem digs_head : ∀ (k m : Nat), m < 10 ^ (k + 1) → 0 < m → (digs m)[0]? ≠ some 48
  | 0, m, h, h0 => by
    rw [digs_lt (by omega)]
    simp only [List.getElem?_cons_zero, ne_eq, Option.some.injEq]
    intro e
    have := congrArg UInt8.toNat e
    rw [UInt8.toNat_ofNat'] at this
    have : (48 + m) % 256 = 48 := this
    omega
  | k + 1, m, h, h0 => by
    rcases Nat.lt_or_ge m 10 with h1 | h1
    · exact digs_head 0 m (by omega) h0
    · rw [digs_ge h1, List.getElem?_append_left (List.length_pos_iff.2 (digs_ne _))]
      exact digs_head k (m / 10) (by rw [Nat.pow_succ] at h; omega) (by omega)
theorem decV_app (c : UInt8) : ∀ (l : List UInt8) (n : Nat), decV n (l ++ [c]) = 10 * decV n l + (c.toNat - 48)
  | [], n => by rw [List.nil_append, decV_cons, decV_nil, decV_nil]
  | d :: l, n => by rw [List.cons_append, decV_cons, decV_cons, decV_app c l]
theorem decV_digs : ∀ (k m : Nat), m < 10 ^ (k + 1) → decV 0 (digs m) = m
  | 0, m, h => by
    rw [digs_lt (by omega), decV_cons, decV_nil, UInt8.toNat_ofNat']
    omega
  | k + 1, m, h => by
    rcases Nat.lt_or_ge m 10 with h1 | h1
    · exact decV_digs 0 m (by omega)
    · rw [digs_ge h1, decV_app, decV_digs k (m / 10) (by rw [Nat.pow_succ] at h; omega), UInt8.toNat_ofNat']
      omega
theorem num_back {l rest : List UInt8} {a : Nat} {n : Int} (h : l.drop a = decS n ++ rest) (hr : Ends1 rest) (h1 : -9223372036854775808 ≤ n) (h2 : n ≤ 9223372036854775807) :
    tokR l a = .ok 2 [] n (a + (decS n).length) ∧ ∃ c, l[a]? = some c ∧ (c == 32 || c == 9 || c == 10) = false ∧ (c == 35) = false := by
  have hm : n.natAbs < 10 ^ (19 + 1) := by omega
  have hd := digs_dig 19 n.natAbs hm
  obtain ⟨c0, ds, hds⟩ : ∃ c ds, digs n.natAbs = c :: ds := by
    cases hq : digs n.natAbs with
    | nil => exact absurd hq (digs_ne _)
    | cons c ds => exact ⟨c, ds, rfl⟩
  have hc0 := digB_iff.1 (hd c0 (by rw [hds]; simp))
  have hlim : ∀ neg, neg = decide (n < 0) → valL (limit neg) 0 (digs n.natAbs) = some n.natAbs ∧ signed neg n.natAbs = n := fun neg hn => by
    rw [valL_dec (by cases neg <;> decide) _ _ (Nat.zero_le _) hd, decV_digs 19 _ hm]
    have : n.natAbs ≤ limit neg := by subst hn; unfold limit; cases hh : decide (n < 0) <;> simp at hh ⊢ <;> omega
    refine ⟨by simp [this], ?_⟩
    subst hn; unfold signed; cases hh : decide (n < 0) <;> simp at hh ⊢ <;> omega
  have fin : ∀ (f : Nat) (neg : Bool), neg = decide (n < 0) → l.drop f = digs n.natAbs ++ rest → (l[a]? == some 45) = neg → (bif neg then a + 1 else a) = f → numR l a = .ok 2 [] n (f + (digs n.natAbs).length) := fun f neg hn hf hng hff => by
    have hz : runN digB l f = f + (digs n.natAbs).length := runN_ends (by decide) hf hd hr
    have hw : wmAt l (f + (digs n.natAbs).length) = false := by
      have := get_ends hf 0
      rw [Nat.add_zero] at this
      unfold wmAt
      rw [this]
      cases hq : rest[0]? with
      | none => rfl
      | some d => rw [hr d hq]; decide
    have hs : ((digs n.natAbs == []) || ((digs n.natAbs)[0]? == some 48 && (decide (1 < (digs n.natAbs).length) || neg))) = false := by
      rcases Nat.lt_or_ge 0 n.natAbs with h0 | h0
      · have h3 := digs_head 19 n.natAbs hm h0
        have e1 : ((digs n.natAbs)[0]? == some 48) = false := by rw [beq_eq_false_iff_ne]; exact h3
        have e2 : (digs n.natAbs == []) = false := by rw [beq_eq_false_iff_ne]; exact digs_ne _
        rw [e1, e2]; rfl
      · obtain rfl : n = 0 := by omega
        subst hn
        rw [show (0 : Int).natAbs = 0 from rfl, digs_lt (by omega)]; decide
    simp only [numR, hng, hff, hz, sub_ends hf, hs, Bool.cond_false, (hlim neg hn).1, hw, (hlim neg hn).2]
  cases hn : decide (n < 0) with
  | true =>
    have e : decS n = 45 :: digs n.natAbs := by simp only [decS, hn, Bool.cond_true]
    rw [e] at h ⊢
    have hc := get_at h
    refine ⟨?_, 45, hc, by decide, by decide⟩
    have e1 : isLet ((45 : UInt8).toNat : Int) = false := by decide
    have e2 : (digB 45 || (45 : UInt8) == 45) = true := by decide
    simp only [tokR, hc, e1, e2, Bool.cond_false, Bool.cond_true]
    rw [fin (a + 1) true hn.symm (drop_at h) (by rw [hc]; decide) rfl]
    simp; omega
  | false =>
    have e : decS n = digs n.natAbs := by simp only [decS, hn, Bool.cond_false]
    rw [e] at h ⊢
    have hc : l[a]? = some c0 := by rw [hds] at h; exact get_at h
    have hsk := byte_all (p := fun c => !(digB c) || ((!(c == 32 || c == 9 || c == 10) && !(c == 35)) && (!(isLet c.toNat) && !(c == 45)))) (by decide +kernel) c0
    have hd0 := hd c0 (by rw [hds]; simp)
    simp only [hd0, Bool.not_true, Bool.false_or, Bool.and_eq_true, Bool.not_eq_true'] at hsk
    obtain ⟨h3, h4, h5⟩ := hsk
    refine ⟨?_, c0, hc, h3⟩
    simp only [tokR, hc, h4, hd0, Bool.true_or, Bool.cond_false, Bool.cond_true]
    exact fin a false hn.symm h (by rw [hc]; simpa using h5) rfl
/-- One token, back. -/
theorem tok_back {l rest : List UInt8} {a : Nat} {t : Tx} (hf : Fit t) (ho : okK t.k t.x t.n = true) (h : l.drop a = txtK t.k t.x t.n ++ rest) (hr : Ends1 rest) :
    tokR l a = .ok t.k t.x t.n (a + (txtK t.k t.x t.n).length) ∧ t.k ≠ 0 ∧ ∃ c, l[a]? = some c ∧ (c == 32 || c == 9 || c == 10) = false ∧ (c == 35) = false := by
  obtain ⟨k, x, n, b⟩ := t
  have hlo := hf.lo; have hhi := hf.hi
  simp only at ho h hlo hhi ⊢
  unfold okK at ho
  cases h1 : k == 1 with
  | true =>
    obtain rfl : k = 1 := by simpa using h1
    simp only [h1, Bool.cond_true, Bool.and_eq_true, beq_iff_eq] at ho
    obtain ⟨rfl, ho⟩ := ho
    have e : txtK 1 x 0 = x := rfl
    rw [e] at h ⊢
    exact ⟨(name_back h hr ho).1, by decide, (name_back h hr ho).2⟩
  | false =>
  cases h2 : k == 2 with
  | true =>
    obtain rfl : k = 2 := by simpa using h2
    simp only [h1, h2, Bool.cond_true, Bool.cond_false, beq_iff_eq] at ho
    subst ho
    have e : txtK 2 [] n = decS n := rfl
    rw [e] at h ⊢
    exact ⟨(num_back h hr hlo hhi).1, by decide, (num_back h hr hlo hhi).2⟩
  | false =>
  cases h3 : k == 3 with
  | true =>
    obtain rfl : k = 3 := by simpa using h3
    simp only [h1, h2, h3, Bool.cond_true, Bool.cond_false, Bool.and_eq_true, beq_iff_eq, decide_eq_true_eq] at ho
    obtain ⟨rfl, hl, hx⟩ := ho
    have e : txtK 3 x 0 = quoS x := rfl
    rw [e] at h ⊢
    exact ⟨(text_back h hl hx).1, by decide, (text_back h hl hx).2⟩
  | false =>
  cases h4 : k == 4 with
  | false => simp only [h1, h2, h3, h4, Bool.cond_false] at ho; cases ho
  | true =>
    obtain rfl : k = 4 := by simpa using h4
    simp only [h1, h2, h3, h4, Bool.cond_true, Bool.cond_false, Bool.and_eq_true, beq_iff_eq] at ho
    obtain ⟨rfl, ho⟩ := ho
    have e : txtK 4 x 0 = x := rfl
    rw [e] at h ⊢
    match x, ho with
    | [c], ho => exact ⟨(mark_back h ho).1, by decide, (mark_back h ho).2⟩
    | [], ho => cases ho
    | _ :: _ :: _, ho => cases ho
abbrev okT (t : Tx) : Bool := okK t.k t.x t.n
abbrev txt (t : Tx) : List UInt8 := txtK t.k t.x t.n
abbrev tri (t : Tx) : Int × List UInt8 × Int := (t.k, t.x, t.n)
abbrev trk (t : Tk) : Int × List UInt8 × Int := (t.k, t.x, t.n)
def tailS (us : List Tx) : List UInt8 := us.flatMap fun u => 32 :: txt u
theorem tailS_ends (us : List Tx) : Ends1 (tailS us) := by
  intro c hc
  cases us with
  | nil => cases hc
  | cons u us => simp [tailS] at hc; exact hc.symm
theorem scan_tail {l : List UInt8} : ∀ (us : List Tx) (f a : Nat), (∀ u ∈ us, Fit u ∧ okT u = true) → a ≤ l.length → l.length < f + a → l.drop a = tailS us →
    ∃ ms, scanN f l a = .ok ms ∧ ms.map trk = us.map tri ++ [(0, [], 0)]
  | [], f, a, _, hle, hlt, h => by
    have ha : l.length ≤ a := List.drop_eq_nil_iff.1 h
    obtain ⟨f, rfl⟩ : ∃ g, f = g + 1 := ⟨f - 1, by omega⟩
    have hn : l[a]? = none := List.getElem?_eq_none ha
    exact ⟨[⟨0, [], 0, a⟩], by rw [scanN, skip_end ha]; simp [tokR, hn], rfl⟩
  | u :: us, f, a, hu, hle, hlt, h => by
    obtain ⟨f, rfl⟩ : ∃ g, f = g + 1 := ⟨f - 1, by
      have : a < l.length := by
        rcases Nat.lt_or_ge a l.length with h' | h'
        · exact h'
        · rw [List.drop_eq_nil_iff.2 h'] at h; simp [tailS] at h
      omega⟩
    have h' : l.drop a = 32 :: (txt u ++ tailS us) := by rw [h]; simp [tailS]
    have h1 := drop_at h'
    obtain ⟨hf, ho⟩ := hu u (by simp)
    obtain ⟨ht, hk, c, hc, hb, hh⟩ := tok_back hf ho h1 (tailS_ends us)
    have hs : skipN l a = a + 1 := by rw [← skip_blank (get_at h') (by decide), skip_other hc hb hh]
    have h2 : l.drop (a + 1 + (txt u).length) = tailS us := by rw [← List.drop_drop, h1, List.drop_left]
    have hlen : a + 1 + (txt u).length ≤ l.length := by
      have := congrArg List.length h1
      have hlt : a < l.length := (List.getElem?_eq_some_iff.1 (get_at h')).1
      rw [List.length_drop, List.length_append] at this
      omega
    obtain ⟨ms, hm, hmm⟩ := scan_tail us f (a + 1 + (txt u).length) (fun v hv => hu v (by simp [hv])) hlen (by omega) h2
    have hk0 : (u.k == 0) = false := by simpa using hk
    refine ⟨⟨u.k, u.x, u.n, a + 1⟩ :: ms, ?_, by simp [hmm]⟩
    rw [scanN, hs, ht]
    simp only [hk0, Bool.cond_false, hm, SR.cons]
theorem txt_ne {t : Tx} (hf : Fit t) (ho : okT t = true) : txt t ≠ [] := by
  intro h
  obtain ⟨_, _, c, hc, _⟩ := tok_back (l := txt t) (a := 0) (rest := []) hf ho (by simp) (fun c hc => by cases hc)
  rw [h] at hc; cases hc
theorem fold_tail : ∀ (ts : List Tx) (acc : List UInt8), (∀ t ∈ ts, Fit t) → acc ≠ [] → ts.foldl prtA acc = acc ++ tailS (ts.filter okT)
  | [], acc, _, _ => by simp [tailS]
  | t :: ts, acc, hf, ha => by
    have e : (acc == []) = false := by rw [beq_eq_false_iff_ne]; exact ha
    rw [List.foldl_cons, List.filter_cons]
    cases ho : okT t with
    | false =>
      have : prtA acc t = acc := by unfold prtA; rw [show okK t.k t.x t.n = false from ho]; rfl
      rw [this, fold_tail ts acc (fun u hu => hf u (by simp [hu])) ha]; rfl
    | true =>
      have : prtA acc t = acc ++ [32] ++ txt t := by unfold prtA; rw [show okK t.k t.x t.n = true from ho, e]; rfl
      rw [this, fold_tail ts _ (fun u hu => hf u (by simp [hu])) (by simp), if_pos rfl]
      simp [tailS]
theorem print_split : ∀ (ts : List Tx), (∀ t ∈ ts, Fit t) → printS ts = match ts.filter okT with | [] => [] | u :: us => txt u ++ tailS us
  | [], _ => rfl
  | t :: ts, hf => by
    have ih := print_split ts fun u hu => hf u (by simp [hu])
    unfold printS at ih ⊢
    rw [List.foldl_cons, List.filter_cons]
    cases ho : okT t with
    | false =>
      have : prtA [] t = [] := by unfold prtA; rw [show okK t.k t.x t.n = false from ho]; rfl
      rw [this, ih]; rfl
    | true =>
      have : prtA [] t = txt t := by unfold prtA; rw [show okK t.k t.x t.n = true from ho]; rfl
      rw [this, if_pos rfl, fold_tail ts _ (fun u hu => hf u (by simp [hu])) (txt_ne (hf t (by simp)) ho)]
theorem round_trip (ts : List Tx) (hf : ∀ t ∈ ts, Fit t) (hl : (printS ts).length ≤ 4000) : ∃ ms, scanR (printS ts) = .ok ms ∧ ms.map trk = (ts.filter okT).map tri ++ [(0, [], 0)] := by
  have h := print_split ts hf
  have hu : ∀ u ∈ ts.filter okT, Fit u ∧ okT u = true := fun u hu => by rw [List.mem_filter] at hu; exact ⟨hf u hu.1, hu.2⟩
  generalize printS ts = l at h hl ⊢
  have h4 : decide (4000 < l.length) = false := by simp; omega
  simp only [scanR, h4, Bool.cond_false]
  cases hq : ts.filter okT with
  | nil =>
    rw [hq] at h
    simp only at h
    subst h
    exact scan_tail [] 1 0 (by simp) (by simp) (by simp) rfl
  | cons u us =>
    rw [hq] at h hu
    simp only at h
    have hd : l.drop 0 = txt u ++ tailS us := by rw [List.drop_zero]; exact h
    obtain ⟨hfu, ho⟩ := hu u (by simp)
    obtain ⟨ht, hk, c, hc, hb, hh⟩ := tok_back hfu ho hd (tailS_ends us)
    have hs : skipN l 0 = 0 := skip_other hc hb hh
    have h2 : l.drop (0 + (txt u).length) = tailS us := by rw [Nat.zero_add, h, List.drop_left]
    have hlen : 0 + (txt u).length ≤ l.length := by rw [h, List.length_append]; omega
    obtain ⟨ms, hm, hmm⟩ := scan_tail us l.length (0 + (txt u).length) (fun v hv => hu v (by simp [hv])) hlen (by
      have := List.length_pos_iff.2 (txt_ne hfu ho)
      omega) h2
    have hk0 : (u.k == 0) = false := by simpa using hk
    refine ⟨⟨u.k, u.x, u.n, 0⟩ :: ms, ?_, by simp [hmm]⟩
    rw [scanN, hs, ht]
    simp only [hk0, Bool.cond_false, hm, SR.cons]
end Go.Proofs.Ytgophdhegdcekaa
