/- Valid, and both Prints. -/
import Derived.Test.YtgophdhegdcekaaLexI
namespace Go.Proofs.Ytgophdhegdcekaa
open Go.W
def vldPre : List S → Prop := fun xs => match xs with
  | [.va (.gs [.vl (.int .i64 _), .vl (.string x), .vl (.int .i64 _), .vl (.int .i64 _)])] => (bl x).length ≤ 10000000
  | _ => False
theorem vldPre_open {xs : List S} (h : vldPre xs) : ∃ k x n a, xs = [.va (.gs (tkC k x n a))] ∧ (bl x).length ≤ 10000000 := by
  unfold vldPre at h
  split at h
  · exact ⟨_, _, _, _, rfl, h⟩
  · exact h.elim
def vldVal : List S → A := fun xs => match xs with
  | [.va (.gs [.vl (.int .i64 k), .vl (.string x), .vl (.int .i64 n), .vl (.int .i64 _)])] => bA (okK k (bl x) n)
  | _ => .gs []
def vldFn : Fun := ⟨vldPre, vldVal, fun xs h => by obtain ⟨_, _, _, _, rfl, _⟩ := vldPre_open h; trivial⟩
theorem vldFn_len : ∀ xs H K, vldFn.sp xs H K → xs.length = 1 := fun xs H K h => by obtain ⟨_, _, _, _, rfl, _⟩ := vldPre_open h.1.1; rfl
attribute [go_sem ↓] vldPre vldVal vldFn
theorem mValid : Meets Try.prog 26 vldFn.sp := by
  refine meets_fn Try.func26 ok26 1 (by rw [Try.ntmps26]; decide) (meetsAll_f mIsNameR (meetsAll_f mMark (meetsAll_nil _))) vldFn_len ?_
  intro xs H K h
  obtain ⟨⟨hp, rfl⟩, hK⟩ := h
  obtain ⟨k, x, n, a, rfl, hx⟩ := vldPre_open hp
  have hK' : K (bS (okK k (bl x) n)) [] := hK
  simp -dsimp only [go_sem, pc26, rs26]
  have fin : ∀ (H' : Hp) (b : Bool), b = okK k (bl x) n → W.Fin 0 K (bS b) H' := fun H' b h2 => by
    subst h2
    exact .sel [] (by simp) (by simp) rfl (.done hK')
  refine ⟨fun h1 => fin _ _ (by simp [okK, h1, Bool.and_comm]), fun h1 => ⟨fun h2 => fin _ _ (by simp [okK, h1, h2]), fun h2 => ⟨fun h3 => ?_, fun h3 => ⟨fun h4 => ?_, fun h4 => fin _ _ (by simp [okK, h1, h2, h3, h4])⟩⟩⟩⟩
  · refine vc_loop (α := Nat) (fun i => [(1, .va (.c1 (.pt 0 0))), (3, iS .i64 i)]) (fun _ => [.cells (tkC k x n a) 30]) (fun i => i ≤ (bl x).length ∧ ((bl x).take i).all prB = true) (fun i => (bl x).length - i) 0 1 ⟨by omega, rfl⟩ ?_ (by simp [go_sem]) ?_
    · simp [go_sem]
    rintro i ⟨hi, hall⟩
    simp -dsimp only [go_sem]
    have lt32 : ∀ c : UInt8, decide ((c.toNat : Int) < 32) = !decide (32 ≤ c) := fun c => by
      have : decide (32 ≤ c) = decide (32 ≤ c.toNat) := by rw [decide_eq_decide, UInt8.le_iff_toNat_le]; rfl
      rw [this, ← decide_not, decide_eq_decide]; omega
    have gt126 : ∀ c : UInt8, decide (126 < (c.toNat : Int)) = !decide (c ≤ 126) := fun c => by
      have : decide (c ≤ 126) = decide (c.toNat ≤ 126) := by rw [decide_eq_decide, UInt8.le_iff_toNat_le]; rfl
      rw [this, ← decide_not, decide_eq_decide]; omega
    have bad : ∀ c, (bl x)[i]? = some c → prB c = false → okK k (bl x) n = false := fun c hc hb => by
      have : (bl x).all prB = false := by
        rw [Bool.eq_false_iff]
        intro ha
        have := List.all_eq_true.1 ha c (List.mem_of_getElem? hc)
        rw [hb] at this; cases this
      simp [okK, h1, h2, h3, this]
    refine ⟨fun h5 => ⟨by simp at h5; omega, fun c hc => ⟨fun _ => by simp at h5; omega, fun d hd => ?_⟩⟩, fun h5 => ?_⟩
    · rw [lt32, gt126]
      rw [lt32] at hd
      have hE : (!decide (32 ≤ c) || !decide (d ≤ 126)) = !prB c := by
        unfold prB
        cases h6 : decide (32 ≤ c) with
        | false => rfl
        | true =>
          rw [h6] at hd
          obtain rfl : c = d := by have := hd rfl; rw [hc] at this; exact Option.some.inj this
          simp
      rw [hE]
      refine ⟨fun h6 => fin _ _ (bad c hc (by simpa using h6)).symm, fun h6 => ⟨by omega, loop_next (i + 1) 1 ⟨by simp at h5; omega, ?_⟩ (by simp at h5; omega) ?_ (by simp [go_sem])⟩⟩
      · rw [List.take_add_one, hc, List.all_append, hall]
        simpa using h6
      · simp [go_sem]
    · obtain rfl : i = (bl x).length := by simp at h5; omega
      rw [List.take_length] at hall
      refine fin _ _ ?_
      simp [okK, h1, h2, h3, hall]
      rw [Bool.and_comm]
      congr 1
      rw [decide_eq_decide]; omega
  · refine ⟨fun h5 => by simp at h5; omega, fun c hc => ⟨fun _ => by have := c.toNat_lt; omega, fin _ _ ?_⟩⟩
    simp only [okK, h1, h2, h3, h4, Bool.cond_true, Bool.cond_false]
    rw [Bool.and_comm]
    congr 1
    cases hb : bl x with
    | nil => rfl
    | cons d r =>
      rw [hb] at hc
      cases r with
      | nil =>
        obtain rfl : d = c := by simpa using hc
        rfl
      | cons e r =>
        have : ((((d :: e :: r).length : Nat) : Int) == 1) = false := by simp; omega
        rw [this]; rfl
/-! ### Print -/
structure Tx where
  k : Int
  x : List UInt8
  n : Int
  a : Int
abbrev txL (t : Tx) : List C := tkC t.k (mk t.x) t.n t.a
structure Fit (t : Tx) : Prop where
  lo : -9223372036854775808 ≤ t.n
  hi : t.n ≤ 9223372036854775807
  len : t.x.length ≤ 1048576
def prtA (acc : List UInt8) (t : Tx) : List UInt8 := bif okK t.k t.x t.n then acc ++ (bif (acc == []) then [] else [32]) ++ txtK t.k t.x t.n else acc
def printS (ts : List Tx) : List UInt8 := ts.foldl prtA []
def printI (ts : List Tx) (i : Nat) : List UInt8 := (ts.take i).foldl prtA []
theorem printI_step {ts : List Tx} {i : Nat} {t : Tx} (h : ts[i]? = some t) : printI ts (i + 1) = prtA (printI ts i) t := by
  unfold printI
  rw [List.take_add_one, h, List.foldl_append]; rfl
theorem printI_all (ts : List Tx) : printI ts ts.length = printS ts := by unfold printI printS; rw [List.take_length]
theorem decS_len {n : Int} (h1 : -9223372036854775808 ≤ n) (h2 : n ≤ 9223372036854775807) : (decS n).length ≤ 21 := by
  have := digs_len 19 n.natAbs (by omega)
  unfold decS
  cases decide (n < 0) <;> simp <;> omega
theorem txtK_len {t : Tx} (h : Fit t) : (txtK t.k t.x t.n).length ≤ 2097154 := by
  have h1 := decS_len h.lo h.hi
  have h2 := flat_len2 t.x
  have h3 := h.len
  unfold txtK quoS
  cases t.k == 1 <;> cases t.k == 2 <;> cases t.k == 3 <;> cases t.k == 4 <;> simp -dsimp only [Bool.cond_true, Bool.cond_false, List.length_append, List.length_cons, List.length_nil] <;> omega
theorem prtA_len {acc : List UInt8} {t : Tx} (h : Fit t) : (prtA acc t).length ≤ acc.length + 2097155 := by
  have := txtK_len h
  unfold prtA
  cases okK t.k t.x t.n <;> cases (acc == []) <;> simp <;> omega
theorem printI_len {ts : List Tx} (h : ∀ t ∈ ts, Fit t) : ∀ i, i ≤ ts.length → (printI ts i).length ≤ i * 2097155
  | 0, _ => by simp [printI]
  | i + 1, hi => by
    have h1 := printI_len h i (by omega)
    have hg : ts[i]? = some ts[i] := List.getElem?_eq_getElem (by omega)
    rw [printI_step hg]
    have := prtA_len (acc := printI ts i) (h _ (List.mem_of_getElem? hg))
    omega
def prtPre : List S → Prop := fun xs => match xs with
  | [.va (.c1 (.fz rs))] => ∃ ts : List Tx, rs = ts.map txL ∧ ts.length ≤ 60 ∧ ∀ t ∈ ts, Fit t
  | _ => False
theorem prtPre_open {xs : List S} (h : prtPre xs) : ∃ ts : List Tx, xs = [.va (.c1 (.fz (ts.map txL)))] ∧ ts.length ≤ 60 ∧ ∀ t ∈ ts, Fit t := by
  unfold prtPre at h
  split at h
  · obtain ⟨ts, rfl, h1, h2⟩ := h
    exact ⟨_, rfl, h1, h2⟩
  · exact h.elim
/-- The token of four cells. -/
def C.tk (r : List C) : Tx := match r with
  | [.vl (.int .i64 k), .vl (.string x), .vl (.int .i64 n), .vl (.int .i64 a)] => ⟨k, bl x, n, a⟩
  | _ => ⟨0, [], 0, 0⟩
theorem tx_txL (t : Tx) : C.tk (txL t) = t := rfl
def prtVal : List S → A := fun xs => match xs with
  | [.va (.c1 (.fz rs))] => tA (mk (printS (rs.map C.tk)))
  | _ => .gs []
theorem prtVal_eq (ts : List Tx) : prtVal [.va (.c1 (.fz (ts.map txL)))] = tA (mk (printS ts)) := by
  show tA (mk (printS ((ts.map txL).map C.tk))) = _
  rw [List.map_map, show (C.tk ∘ txL) = id from funext tx_txL, List.map_id]
def prtFn : Fun := ⟨prtPre, prtVal, fun xs h => by obtain ⟨ts, rfl, _⟩ := prtPre_open h; rw [prtVal_eq]; trivial⟩
theorem prtFn_len : ∀ xs H K, prtFn.sp xs H K → xs.length = 1 := fun xs H K h => by obtain ⟨ts, rfl, _⟩ := prtPre_open h.1.1; rfl
theorem mPrintR : Meets Try.prog 25 prtFn.sp := by
  refine meets_fn Try.func25 ok25 1 (by rw [Try.ntmps25]; decide) (meetsAll_f mValid (meetsAll_f mDecimalR (meetsAll_f mQuotedR (meetsAll_nil _)))) prtFn_len ?_
  intro xs H K h
  obtain ⟨⟨hp, rfl⟩, hK⟩ := h
  obtain ⟨ts, rfl, h60, hf⟩ := prtPre_open hp
  have hK' : K (tS (mk (printS ts))) [] := by have := hK; rw [show prtFn.val = prtVal from rfl, prtVal_eq] at this; exact this
  simp -dsimp only [go_sem, pc25, rs25]
  refine vc_loop (α := Nat) (fun i => [(0, .va (.c1 (.fz (ts.map txL)))), (3, tS (mk (printI ts i))), (4, iS .i64 i)]) (fun _ => []) (fun i => i ≤ ts.length) (fun i => ts.length - i) 0 0 (by omega) ?_ (by simp [go_sem]) ?_
  · simp [go_sem, printI]
  intro i hi
  have hl := printI_len hf i hi
  simp -dsimp only [go_sem, all_map]
  refine ⟨fun h1 => ⟨by simp at h1; omega, fun t ht => ⟨by have := (hf t (List.mem_of_getElem? ht)).len; omega, fun h2 => ⟨by omega, ?_⟩, fun h2 => ?_⟩⟩, fun h1 => ?_⟩
  · refine loop_next (i + 1) 0 (by simp at h1; omega) (by simp at h1; omega) ?_ rfl
    have : printI ts (i + 1) = printI ts i := by rw [printI_step ht]; simp [prtA, h2]
    simp [go_sem, this]
  · have h2' : okK t.k t.x t.n = true := by simpa using h2
    have hst := printI_step ht
    have hft := hf t (List.mem_of_getElem? ht)
    have hxl := txtK_len hft
    have hdl := decS_len hft.lo hft.hi
    have hlt : i < ts.length := by simp at h1; omega
    simp only [prtA, h2', Bool.cond_true] at hst
    have q2 : (t.k == 2) = true → txtK t.k t.x t.n = decS t.n := fun h => by
      have : t.k = 2 := by simpa using h
      simp [txtK, this]
    have q3 : (t.k == 3) = true → txtK t.k t.x t.n = quoS t.x := fun h => by
      have : t.k = 3 := by simpa using h
      simp [txtK, this]
    have q4 : (t.k == 2) = false → (t.k == 3) = false → txtK t.k t.x t.n = t.x := fun h k => by
      unfold okK at h2'
      unfold txtK
      rw [h, k] at h2' ⊢
      cases h1 : t.k == 1 <;> cases h4 : t.k == 4 <;> simp [h1, h4] at h2' ⊢
    have hlx := hft.len
    refine ⟨fun h3 => ?_, fun h3 => ?_⟩
    · have h3' : (printI ts i == []) = false := h3
      rw [h3', Bool.cond_false] at hst
      refine ⟨by omega, by omega, fun u hu => ?_⟩
      rw [ht] at hu
      obtain rfl := Option.some.inj hu
      refine ⟨fun h4 => ⟨by omega, fun u hu => ?_⟩, fun h4 => ⟨fun h5 => ⟨by omega, fun u hu => ?_⟩, fun h5 => ⟨by omega, fun u hu => ?_⟩⟩⟩
      all_goals
        rw [ht] at hu
        obtain rfl := Option.some.inj hu
      · rw [q2 h4] at hst hxl
        refine ⟨⟨hft.lo, hft.hi⟩, by omega, by omega, loop_next (i + 1) 0 hlt (by omega) ?_ rfl⟩
        simp [go_sem, hst]
      · rw [q3 h5] at hst hxl
        refine ⟨by omega, by omega, by omega, loop_next (i + 1) 0 hlt (by omega) ?_ rfl⟩
        simp [go_sem, hst]
      · rw [q4 h4 h5] at hst hxl
        refine ⟨by omega, by omega, loop_next (i + 1) 0 hlt (by omega) ?_ rfl⟩
        simp [go_sem, hst]
    · have h3' : (printI ts i == []) = true := by simpa using h3
      rw [h3', Bool.cond_true, List.append_nil] at hst
      refine ⟨by omega, fun u hu => ?_⟩
      rw [ht] at hu
      obtain rfl := Option.some.inj hu
      refine ⟨fun h4 => ⟨by omega, fun u hu => ?_⟩, fun h4 => ⟨fun h5 => ⟨by omega, fun u hu => ?_⟩, fun h5 => ⟨by omega, fun u hu => ?_⟩⟩⟩
      all_goals
        rw [ht] at hu
        obtain rfl := Option.some.inj hu
      · rw [q2 h4] at hst hxl
        refine ⟨⟨hft.lo, hft.hi⟩, by omega, by omega, loop_next (i + 1) 0 hlt (by omega) ?_ rfl⟩
        simp [go_sem, hst]
      · rw [q3 h5] at hst hxl
        refine ⟨by omega, by omega, by omega, loop_next (i + 1) 0 hlt (by omega) ?_ rfl⟩
        simp [go_sem, hst]
      · rw [q4 h4 h5] at hst hxl
        refine ⟨by omega, by omega, loop_next (i + 1) 0 hlt (by omega) ?_ rfl⟩
        simp [go_sem, hst]
  · obtain rfl : i = ts.length := by simp at h1; omega
    rw [printI_all]
    exact .done hK'
theorem mPrint : Meets Try.prog 24 prtFn.sp := by
  refine meets_fn Try.func24 Pr.ok24 1 (by rw [Try.ntmps24]; decide) (meetsAll_s mPrinted (meetsAll_s mLen (meetsAll_s mWriteByte (meetsAll_s mWriteString (meetsAll_s mString (meetsAll_nil _)))))) prtFn_len ?_
  intro xs H K h
  obtain ⟨⟨hp, rfl⟩, hK⟩ := h
  obtain ⟨ts, rfl, h60, hf⟩ := prtPre_open hp
  have hK' : K (tS (mk (printS ts))) [] := by have := hK; rw [show prtFn.val = prtVal from rfl, prtVal_eq] at this; exact this
  simp -dsimp only [go_sem, Pr.pc24, Pr.rs24]
  refine vc_loop_gh (α := C × Nat) (fun z => [(3, .va (.c1 (.pt 0 0))), (8, .va (.c1 (.fz (ts.map txL)))), (9, iS .i64 ts.length), (10, iS .i64 z.2)])
    (fun z => [.cells [z.1, .sl 1 (printI ts z.2).length] 62, .row ((printI ts z.2).map u8C) 5 1])
    (fun z => (z.1 = .vl (.pointer none) ∨ z.1 = .pt 0 0) ∧ z.2 ≤ ts.length) (fun z => ts.length - z.2)
    (.nilc 0 1 5 1 _ _ rfl rfl (gh_at (.vl (.pointer none), 0) 2 ⟨.inl rfl, by simp only; omega⟩ ?_ ?_)) ?_
  · simp [go_sem]
  · simp -dsimp only [go_sem]; simp [printI]
  rintro ⟨p, i⟩ ⟨hp, hi⟩
  simp only at hp hi
  have hl := printI_len hf i hi
  have hby : ∀ (l : List UInt8), ∀ r ∈ l.map u8C, ∃ c : UInt8, r = u8C c := fun l r hr => by obtain ⟨c, _, rfl⟩ := List.mem_map.1 hr; exact ⟨c, rfl⟩
  have hI : ∀ (p : C) (l : List UInt8), (p = .vl (.pointer none) ∨ p = .pt 0 0) → l.length ≤ 1000000000 → isBld p l.length (l.map u8C) := fun p l h1 h2 => ⟨h1, by simp, hby l, by simpa using h2⟩
  have hap : ∀ (l : List UInt8), l.map u8C ++ [[C.vl (.int .u8 32)]] = (l ++ [32]).map u8C := fun l => by rw [List.map_append]; rfl
  rcases hp with rfl | rfl
  all_goals
    simp -dsimp only [go_sem, all_map]
    refine ⟨fun h1 => ⟨by simp at h1; omega, fun t ht => ?_⟩, fun h1 => ?_⟩
    · have hft := hf t (List.mem_of_getElem? ht)
      have hlx := hft.len
      have hxl := txtK_len hft
      have hst := printI_step ht
      have hlt : i < ts.length := by simp at h1; omega
      refine ⟨⟨⟨hft.lo, hft.hi⟩, by omega⟩, fun h2 => ⟨by omega, ?_⟩, fun h2 => ?_⟩
      · simp only [prtA, h2, Bool.cond_false] at hst
        first
          | (refine loop_next (C.vl (.pointer none), i + 1) 2 ⟨.inl rfl, hlt⟩ (by simp only; omega) (by simp [go_sem]) ?_; simp -dsimp only [go_sem, hst]; done)
          | (refine loop_next (C.pt 0 0, i + 1) 2 ⟨.inr rfl, hlt⟩ (by simp only; omega) (by simp [go_sem]) ?_; simp -dsimp only [go_sem, hst]; done)
      · have h2' : okK t.k t.x t.n = true := by simpa using h2
        simp only [prtA, h2', Bool.cond_true] at hst
        refine ⟨hI _ _ (by simp) (by omega), fun h3 => ?_, fun h3 => ?_⟩
        · have hne : (printI ts i == []) = false := by
            cases hq : printI ts i with
            | nil => rw [hq] at h3; simp at h3
            | cons c l => rfl
          rw [hne, Bool.cond_false] at hst
          have hB : isBld (C.pt 0 0) ((printI ts i).length + 1) ((printI ts i).map u8C ++ [[C.vl (.int .u8 32)]]) := by
            rw [hap]
            have := hI (.pt 0 0) (printI ts i ++ [32]) (.inr rfl) (by simp; omega)
            simpa only [List.length_append, List.length_cons, List.length_nil] using this
          refine ⟨⟨hI _ _ (by simp) (by omega), by omega⟩, ⟨hB, by omega⟩, by omega, loop_next (C.pt 0 0, i + 1) 2 ⟨.inr rfl, hlt⟩ (by simp only; omega) (by simp [go_sem]) ?_⟩
          simp -dsimp only [go_sem, hst, List.map_cons, List.map_nil]
          rfl
        · have hne : (printI ts i == []) = true := by
            cases hq : printI ts i with
            | nil => rfl
            | cons c l => rw [hq] at h3; simp at h3
          rw [hne, Bool.cond_true, List.append_nil] at hst
          refine ⟨⟨hI _ _ (by simp) (by omega), by omega⟩, by omega, loop_next (C.pt 0 0, i + 1) 2 ⟨.inr rfl, hlt⟩ (by simp only; omega) (by simp [go_sem]) ?_⟩
          simp -dsimp only [go_sem, hst]
    · obtain rfl : i = ts.length := by simp at h1; omega
      rw [rowB_map, printI_all]
      exact ⟨hI _ _ (by simp) (by rw [printI_all] at hl; omega), .sel [] (by simp) (by simp) rfl (.done hK')⟩
end Go.Proofs.Ytgophdhegdcekaa
