/- The specification's Scan gives the same tokens; the same lists are the same. -/
import Derived.Test.YtgophdhegdcekaaLexS
import Derived.Test.YtgophdhegdcekaaLexN
namespace Go.Proofs.Ytgophdhegdcekaa
open Go.W
theorem numR_x {l : List UInt8} {a : Nat} {k : Int} {x : List UInt8} {n : Int} {z : Nat} (h : numR l a = .ok k x n z) : x = [] := by
  unfold numR at h
  simp only at h
  revert h
  generalize (List.drop (bif l[a]? == some 45 then a + 1 else a) (List.take (runN digB l (bif l[a]? == some 45 then a + 1 else a)) l)) = q
  cases (q == [] || (q[0]? == some 48 && (decide (1 < q.length) || l[a]? == some 45))) with
  | true => intro h; cases h
  | false =>
    simp only [Bool.cond_false]
    split
    · intro h; cases h
    · cases wmAt l (runN digB l (bif l[a]? == some 45 then a + 1 else a)) <;> intro h <;> cases h
      rfl
theorem textR_n {l : List UInt8} {a : Nat} {k : Int} {x : List UInt8} {n : Int} {z : Nat} (h : textR l a = .ok k x n z) : n = 0 := by
  unfold textR at h
  split at h
  · cases h
  · revert h
    rename_i o _
    cases decide (200 < o.length) <;> intro h <;> cases h
    rfl
set_option maxRecDepth 100000 in
theorem mScanR : Meets Try.prog 9 scanSp := by
  refine meets_fn Try.func9 ok9 1 (by rw [Try.ntmps9]; decide)
    (meetsAll_f mSkipR (meetsAll_f mLetter (meetsAll_s mNameR (meetsAll_f mDigit (meetsAll_s mNumR (meetsAll_s mQuoR (meetsAll_f mMark (meetsAll_nil _)))))))) (fun xs H K h => by obtain ⟨s, rfl, _⟩ := scanSp_open h; rfl) ?_
  intro xs H K h
  obtain ⟨s, rfl, rfl, hK⟩ := scanSp_open h
  have h34 : ∀ c : UInt8, ((c.toNat : Int) == 34) = (c == 34) := fun c => u8_beq 34
  have h45 : ∀ c : UInt8, ((c.toNat : Int) == 45) = (c == 45) := fun c => u8_beq 45
  simp -dsimp only [go_sem, pc9, rs9, h34, h45]
  refine ⟨fun h1 => ?_, fun h1 => ?_⟩
  · have h2 : decide (4000 < (bl s).length) = true := by simp at h1 ⊢; omega
    simp only [scanR, h2, Bool.cond_true, SR.toks, SR.err, SR.off] at hK
    exact .done hK
  have h2 : decide (4000 < (bl s).length) = false := by simp at h1 ⊢; omega
  have hlen : (bl s).length ≤ 4000 := by simpa using h2
  refine ⟨⟨by omega, by omega, hlen⟩, vc_loop_gh (α := Nat × Nat × List Tk) (fun z => [(0, tS s), (5, .va (.c1 (.sl 0 z.2.2.length))), (6, iS .i64 (skipN (bl s) z.2.1))]) (fun z => [.row (z.2.2.map tkL) 30 4])
    (fun z => (bl s).length < z.1 + z.2.1 ∧ z.2.1 ≤ (bl s).length ∧ z.2.2.length ≤ z.2.1 ∧ SR.app z.2.2 (scanN z.1 (bl s) z.2.1) = scanR (bl s)) (fun z => z.1)
    (.nil 5 30 4 ?_ (gh_at ((bl s).length + 1, 0, []) 1 ⟨by simp only; omega, by simp, by simp, ?_⟩ ?_ ?_)) ?_⟩
  · simp -dsimp only [go_sem]; rfl
  · simp only [scanR, h2, Bool.cond_false]
    cases scanN ((bl s).length + 1) (bl s) 0 <;> rfl
  · simp -dsimp only [go_sem]
  · simp -dsimp only [go_sem]
  rintro ⟨f, a, acc⟩ ⟨hf, ha, hac, hr⟩
  simp only at hf ha hac hr
  have hpl : skipN (bl s) a ≤ (bl s).length := skipN_le ha
  have hpa : a ≤ skipN (bl s) a := skipN_ge
  obtain ⟨hb, ho⟩ := tokR_told hpl
  obtain ⟨f, rfl⟩ : ∃ g, f = g + 1 := ⟨f - 1, by omega⟩
  rw [scanN] at hr
  simp -dsimp only [go_sem, h34, h45]
  generalize hp : skipN (bl s) a = p at hb ho hr hpl hpa ⊢
  have hbad : ∀ {e t : Int} {H2 : Hp}, tokR (bl s) p = .bad e t → W.Fin 0 K (.tu [.c1 (.fz []), iA .i64 e, iA .i64 t]) H2 := by
    intro e t H2 h
    rw [h] at hr; simp only [SR.app] at hr; rw [← hr] at hK; simp only [SR.toks, SR.err, SR.off] at hK
    exact .sel [] (by simp) (by simp) rfl (.done (by simpa [go_sem] using hK))
  have hinv : ∀ {k : Int} {x : List UInt8} {n : Int} {z : Nat}, tokR (bl s) p = .ok k x n z → k ≠ 0 → (bl s).length < f + z ∧ z ≤ (bl s).length ∧ (acc ++ [Tk.mk k x n p]).length ≤ z ∧ SR.app (acc ++ [Tk.mk k x n p]) (scanN f (bl s) z) = scanR (bl s) := by
    intro k x n z h hk
    obtain ⟨c, _, g1, g2, _⟩ := (ho h).one hk
    rw [h] at hr
    have hk2 : (k == 0) = false := by simpa using hk
    simp only [hk2, Bool.cond_false, SR.app_cons] at hr
    exact ⟨by omega, g2, by simp; omega, hr⟩
  refine ⟨fun hlt => ⟨by omega, ⟨by omega, by simpa using hlt⟩, fun c hc => ⟨by have := c.toNat_lt; omega, fun q1 => ?_, fun q1 => ?_⟩⟩, fun hge => ?_⟩
  · have htok : tokR (bl s) p = wordR (bl s) p := by rw [tokR, hc]; simp only [q1, Bool.cond_true]
    refine ⟨by omega, fun x n z e t ht hz => ⟨by rw [hz]; have := runN_ge (p := wordB) (l := bl s) (a := p); have := runN_le (p := wordB) hpl; omega, ?_⟩⟩
    cases hR : wordR (bl s) p with
    | bad e' t' =>
      rw [hR] at ht
      obtain ⟨rfl, rfl⟩ := ht
      exact ⟨fun _ => hbad (htok.trans hR), fun h => absurd h (by simpa using (hb (htok.trans hR)).1)⟩
    | ok k x' n' z' =>
      rw [hR] at ht
      obtain ⟨rfl, rfl, rfl, rfl, rfl⟩ := ht
      obtain ⟨rfl, rfl, -, -, hx, -⟩ := wordR_ok hR
      have hi := hinv (htok.trans hR) (by decide)
      refine ⟨fun h => absurd h (by simp), fun _ => ⟨by omega, by omega, loop_next (f, z', acc ++ [⟨1, x', 0, p⟩]) 1 hi (by simp only; omega) ?_ ?_⟩⟩
      · simp -dsimp only [go_sem] <;> simp
      · simp -dsimp only [go_sem] <;> simp [go_sem, hx]
  refine ⟨by have := c.toNat_lt; omega, fun q2 => ?_, fun q2 => ⟨fun q3 => ?_, fun q3 => ⟨by have := c.toNat_lt; omega, fun q4 => ?_, fun q4 => ?_⟩⟩⟩
  · have htok : tokR (bl s) p = numR (bl s) p := by rw [tokR, hc]; simp only [q1, Bool.cond_false]; rw [show (digB c || c == 45) = true from q2]; rfl
    refine ⟨⟨by omega, by omega, hlen, c, hc⟩, fun x n z e t ht => ?_⟩
    cases hR : numR (bl s) p with
    | bad e' t' =>
      rw [hR] at ht
      obtain ⟨rfl, rfl⟩ := ht
      exact ⟨fun _ => hbad (htok.trans hR), fun h => absurd h (by simpa using (hb (htok.trans hR)).1)⟩
    | ok k x' n' z' =>
      rw [hR] at ht
      obtain ⟨rfl, rfl, rfl, rfl, rfl⟩ := ht
      obtain rfl := (numR_told hc).2 hR
      obtain rfl := numR_x hR
      have hi := hinv (htok.trans hR) (by decide)
      refine ⟨fun h => absurd h (by simp), fun _ => ⟨by omega, by omega, loop_next (f, z', acc ++ [⟨2, [], n, p⟩]) 1 hi (by simp only; omega) ?_ ?_⟩⟩
      · simp -dsimp only [go_sem] <;> simp
      · simp -dsimp only [go_sem] <;> simp [go_sem]
  · have hc3 : c = 34 := by simpa using q3
    have hlt2 : p < (bl s).length := (List.getElem?_eq_some_iff.1 hc).1
    have htok : tokR (bl s) p = textR (bl s) p := by rw [tokR, hc]; simp only [q1, Bool.cond_false]; rw [show (digB c || c == 45) = false from q2]; simp only [q3, Bool.cond_false, Bool.cond_true]
    refine ⟨⟨by omega, by omega, hlen, by rw [hc, hc3]⟩, fun x n z e t ht => ?_⟩
    cases hR : textR (bl s) p with
    | bad e' t' =>
      rw [hR] at ht
      obtain ⟨rfl, rfl⟩ := ht
      exact ⟨fun _ => hbad (htok.trans hR), fun h => absurd h (by simpa using (hb (htok.trans hR)).1)⟩
    | ok k x' n' z' =>
      rw [hR] at ht
      obtain ⟨rfl, rfl, rfl, rfl, rfl⟩ := ht
      obtain rfl := (textR_told hlt2).2 hR
      obtain rfl := textR_n hR
      have hi := hinv (htok.trans hR) (by decide)
      refine ⟨fun h => absurd h (by simp), fun _ => ⟨by omega, by omega, loop_next (f, z', acc ++ [⟨3, x', 0, p⟩]) 1 hi (by simp only; omega) ?_ ?_⟩⟩
      · simp -dsimp only [go_sem] <;> simp
      · simp -dsimp only [go_sem] <;> simp [go_sem]
  · have hlt2 : p < (bl s).length := (List.getElem?_eq_some_iff.1 hc).1
    have hR : tokR (bl s) p = .ok 4 [c] 0 (p + 1) := by rw [tokR, hc]; simp only [q1, Bool.cond_false]; rw [show (digB c || c == 45) = false from q2]; simp only [q3, q4, Bool.cond_false, Bool.cond_true]
    have hi := hinv hR (by decide)
    have hi1 : ((p : Int) + 1).toNat = p + 1 := by omega
    have hsub : List.drop p (List.take (p + 1) (bl s)) = [c] := by rw [List.drop_take, drop_get hc]; simp
    refine ⟨by omega, fun h => absurd h (by decide), fun _ => ⟨by omega, by omega, ?_⟩⟩
    refine loop_next (f, p + 1, acc ++ [⟨4, [c], 0, p⟩]) 1 hi (by simp only; omega) ?_ ?_
    · simp -dsimp only [go_sem] <;> simp [hi1]
    · simp -dsimp only [go_sem] <;> simp [go_sem, hi1, hsub]
  · have hR : tokR (bl s) p = .bad 2 p := by rw [tokR, hc]; simp only [q1, Bool.cond_false]; rw [show (digB c || c == 45) = false from q2]; simp only [q3, q4, Bool.cond_false]
    exact hbad hR
  · have hpe : p = (bl s).length := by simp at hge; omega
    have hR : tokR (bl s) p = .ok 0 [] 0 p := by rw [tokR, List.getElem?_eq_none (by omega)]
    rw [hR] at hr
    simp only [beq_self_eq_true, Bool.cond_true, SR.app] at hr
    rw [← hr] at hK
    simp only [SR.toks, SR.err, SR.off, List.map_append, List.map_cons, List.map_nil] at hK
    refine ⟨by omega, .pub 0 _ _ _ rfl (.sel [] (by simp) (by simp [pubH]) rfl (.done ?_))⟩
    rw [hpe] at hK
    simpa [go_sem] using hK
def samePre : List S → Prop := fun xs => match xs with
  | [.va (.c1 (.fz x)), .va (.c1 (.fz y))] => x = y ∧ ∃ ts : List Tk, x = ts.map tkL ∧ ts.length ≤ 1000000
  | _ => False
theorem samePre_open {xs : List S} (h : samePre xs) : ∃ ts : List Tk, xs = [.va (.c1 (.fz (ts.map tkL))), .va (.c1 (.fz (ts.map tkL)))] ∧ ts.length ≤ 1000000 := by
  unfold samePre at h
  split at h
  · obtain ⟨rfl, ts, rfl, h⟩ := h; exact ⟨ts, rfl, h⟩
  · exact h.elim
def sameFn : Fun := ⟨samePre, fun _ => bA true, fun xs h => by obtain ⟨ts, rfl, _⟩ := samePre_open h; trivial⟩
theorem sameFn_len : ∀ xs H K, sameFn.sp xs H K → xs.length = 2 := fun xs H K h => by obtain ⟨ts, rfl, _⟩ := samePre_open h.1.1; rfl
attribute [go_sem] sameFn samePre
set_option maxRecDepth 100000 in
theorem mSame : Meets Try.prog 10 sameFn.sp := by
  refine meets_fn Try.func10 ok10 2 (by rw [Try.ntmps10]; decide) (meetsAll_nil _) sameFn_len ?_
  rintro xs H K ⟨⟨h, rfl⟩, hK⟩
  obtain ⟨ts, rfl, hl⟩ := samePre_open h
  simp -dsimp only [go_sem, pc10, rs10] at hK ⊢
  refine ⟨fun h => by simp at h, fun _ => ?_⟩
  refine vc_loop (α := Nat) (fun i => [(0, .va (.c1 (.fz (ts.map tkL)))), (1, .va (.c1 (.fz (ts.map tkL)))), (5, iS .i64 i)]) (fun i => []) (fun i => i ≤ ts.length) (fun i => ts.length - i) 0 0 (by omega) ?_ ?_ ?_
  · simp -dsimp only [go_sem]; simp
  · simp [go_sem]
  rintro i hi
  simp -dsimp only [go_sem]
  refine ⟨fun hlt => ⟨⟨by omega, by simpa using hlt⟩, fun x hx => ⟨⟨by omega, by simpa using hlt⟩, fun y hy => ?_⟩⟩, fun _ => .done hK⟩
  rw [hx] at hy
  obtain rfl := Option.some.inj hy
  have hlt : i < ts.length := (List.getElem?_eq_some_iff.1 hx).1
  simp only [beq_self_eq_true, Bool.and_self, Bool.not_true, Bool.true_eq_false, false_implies, true_implies, true_and]
  refine ⟨by omega, loop_next (i + 1) 0 (by omega) (by omega) ?_ ?_⟩
  · simp -dsimp only [go_sem]; simp
  · simp [go_sem]
set_option maxRecDepth 100000 in
theorem mScans : Meets Try.prog 3 (strFn fun _ => .bool true).sp := by
  refine meets_fn Try.func3 ok3 1 (by rw [Try.ntmps3]; decide) (meetsAll_s mScan (meetsAll_s mScanR (meetsAll_f mSame (meetsAll_f mAwake (meetsAll_nil _))))) strFn_len ?_
  rintro xs H K ⟨⟨h, rfl⟩, hK⟩
  obtain ⟨s, rfl⟩ := strPre_open h
  simp -dsimp only [go_sem, pc3, rs3] at hK ⊢
  refine ⟨⟨_, rfl, ?_⟩, .done hK⟩
  rcases scanR_told (bl s) with ⟨_, h2, _⟩ | ⟨_, _, h3, h4⟩
  · rw [h2]; simp
  · have := offs_len h4; omega
end Go.Proofs.Ytgophdhegdcekaa
