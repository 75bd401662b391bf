/- The specification's number and quoted text. -/
import Derived.Test.YtgophdhegdcekaaLexR
namespace Go.Proofs.Ytgophdhegdcekaa
open Go.W
def numRSp : W.Spec := atSp (fun l a => ∃ c, l[a]? = some c) fun s a K => ∀ x n z e t, Got (numR (bl s) a.toNat) x n z e t → K (.tu [iA .i64 z, iA .i64 n, iA .i64 e, iA .i64 t]) []
def quoSp : W.Spec := atSp (fun l a => l[a]? = some 34) fun s a K => ∀ x n z e t, Got (textR (bl s) a.toNat) x n z e t → K (.tu [iA .i64 z, tA x, iA .i64 e, iA .i64 t]) []
attribute [go_sem ↓] numRSp quoSp
theorem Got.bad {r : R} {e t : Int} (h : r = .bad e t) {x : ByteArray} {n z : Int} : Got r x n z e t := by subst h; exact ⟨rfl, rfl⟩
theorem Got.ok {r : R} {k : Int} {x : List UInt8} {n : Int} {z : Nat} (h : r = .ok k x n z) : Got r (mk x) n z 0 0 := by subst h; exact ⟨rfl, rfl, rfl, rfl, rfl⟩
theorem while_stop (p : UInt8 → Bool) : ∀ (l : List UInt8) (c : UInt8), l[(l.takeWhile p).length]? = some c → p c = false
  | [], c, h => by simp at h
  | d :: l, c, h => by
    cases hp : p d with
    | true => rw [List.takeWhile_cons, if_pos hp] at h; simp at h; exact while_stop p l c h
    | false => rw [List.takeWhile_cons, hp] at h; simp at h; subst h; exact hp
theorem runN_at {p : UInt8 → Bool} {l : List UInt8} {a : Nat} {c : UInt8} (h : l[runN p l a]? = some c) : p c = false := by
  refine while_stop p (l.drop a) c ?_
  rw [List.getElem?_drop]; exact h
set_option maxRecDepth 100000 in
theorem mQuoR : Meets Try.prog 33 quoSp := by
  refine meets_fn Try.func33 ok33 2 (by rw [Try.ntmps33]; decide) (meetsAll_nil _) atSp_len ?_
  intro xs H K h
  obtain ⟨s, a, rfl, rfl, h0, h1, h2, hc0, hK⟩ := atSp_open h
  have h34 : ∀ c : UInt8, ((c.toNat : Int) == 34) = (c == 34) := fun c => u8_beq 34
  have h92 : ∀ c : UInt8, ((c.toNat : Int) == 92) = (c == 92) := fun c => u8_beq 92
  have hlt : a.toNat < (bl s).length := (List.getElem?_eq_some_iff.1 hc0).1
  simp -dsimp only [go_sem, pc33, rs33]
  refine ⟨by omega, ?_⟩
  refine vc_loop (α := List UInt8 × Nat) (fun z => [(0, tS s), (1, iS .i64 a), (8, tS (mk z.1)), (9, iS .i64 z.2)]) (fun z => []) (fun z => z.2 ≤ (bl s).length ∧ z.1.length ≤ z.2 ∧ quoL z.2 ((bl s).drop z.2) z.1 = quoL (a.toNat + 1) ((bl s).drop (a.toNat + 1)) []) (fun z => (bl s).length - z.2) ([], a.toNat + 1) 0 ⟨by simp only; omega, by simp, rfl⟩ ?_ ?_ ?_
  · simp -dsimp only [go_sem]; simp [Int.toNat_of_nonneg h0]
  · simp [go_sem]
  rintro ⟨out, i⟩ ⟨hi, ho, hr⟩
  simp only at hi ho hr
  simp -dsimp only [go_sem, bne, h34, h92, bl_mk]
  have ha : ((a.toNat : Nat) : Int) = a := Int.toNat_of_nonneg h0
  have hT : textR (bl s) a.toNat = match quoL i (List.drop i (bl s)) out with
      | (i, none) => .bad 2 i
      | (z, some out) => bif decide (200 < out.length) then .bad 3 a.toNat else .ok 3 out 0 z := by rw [hr]; rfl
  refine ⟨fun hge => ?_, fun hlt => ⟨⟨by omega, by simpa using hlt⟩, fun c hc => ⟨fun h3 => ?_, fun h3 => ⟨fun _ => by omega, fun _ => by omega, fun h4 => ⟨by omega, by simp at h4; omega⟩, fun d hd => ⟨fun _ => by omega, fun h => ⟨by omega, by simp at h; omega⟩, fun e he => ⟨fun h1 h2 => by rw [h1, h2]; rfl, fun h1 h2 => by rw [h1, h2]; rfl, fun h1 h2 => by rw [h1, h2]; rfl, ?_⟩⟩⟩⟩⟩⟩
  · have : i = (bl s).length := by simp at hge; omega
    subst this
    rw [List.drop_length, quoL_nil] at hT
    exact .done (hK (mk []) 0 _ _ _ (Got.bad hT))
  · have : c = 34 := by simpa using h3
    subst this
    rw [drop_get hc, quoL_cons] at hT
    simp at hT
    refine ⟨fun h4 => .done (hK (mk []) 0 _ _ _ (Got.bad (t := a) (e := 3) ?_)), fun h4 => ⟨by omega, .done (hK (mk out) 0 _ _ _ ?_)⟩⟩
    · have : decide (200 < out.length) = true := by simp at h4 ⊢; omega
      rw [hT, this, Bool.cond_true, Int.max_eq_left h0]
    · have : decide (200 < out.length) = false := by simp at h4 ⊢; omega
      rw [this] at hT
      exact Got.ok hT
  have hlt2 : i < (bl s).length := (List.getElem?_eq_some_iff.1 hc).1
  have hw : (decide ((c.toNat : Int) < 32) || decide (126 < (c.toNat : Int))) = (decide (c < 32) || decide (126 < c)) := by
    have e1 : decide ((c.toNat : Int) < 32) = decide (c < 32) := by rw [decide_eq_decide, UInt8.lt_iff_toNat_lt]; show _ ↔ c.toNat < 32; omega
    have e2 : decide (126 < (c.toNat : Int)) = decide (126 < c) := by rw [decide_eq_decide, UInt8.lt_iff_toNat_lt]; show _ ↔ 126 < c.toNat; omega
    rw [e1, e2]
  rw [hw] at hd he ⊢
  rw [drop_get hc, quoL_cons] at hT hr
  generalize (decide (c < 32) || decide (126 < c)) = w at hd he hT hr ⊢
  rw [h3] at hT hr
  cases w with
  | true =>
    simp only [Bool.cond_true] at hT
    exact ⟨fun _ => .done (hK (mk []) 0 _ _ _ (Got.bad hT)), fun h => by simp at h⟩
  | false =>
    simp only [Bool.cond_false] at hT hr
    cases h9 : c == 92 with
    | false =>
      rw [h9] at hr
      simp only [Bool.cond_false] at hr
      have hsub : List.drop i (List.take (i + 1) (bl s)) = [c] := by rw [List.drop_take, drop_get hc]; simp
      refine ⟨fun h => by simp at h, fun _ => ⟨fun h => by simp at h, fun _ => ?_⟩⟩
      and_intros
      all_goals first
        | omega
        | (simp; omega)
        | skip
      refine loop_next (out ++ [c], i + 1) 0 ⟨by simp only; omega, by simp; omega, hr⟩ (by simp only; omega) ?_ ?_
      · simp -dsimp only [go_sem]; simp [show ((i : Int) + 1).toNat = i + 1 by omega, hsub]
      · simp [go_sem]
    | true =>
      rw [h9] at hr hT hd he
      simp only [Bool.cond_true, Bool.not_false, Bool.true_and] at hr hT hd he
      cases hrest : List.drop (i + 1) (bl s) with
      | nil =>
        have : (bl s).length ≤ i + 1 := List.drop_eq_nil_iff.1 hrest
        have h8 : decide (((bl s).length : Int) ≤ i + 1) = true := by simp; omega
        rw [hrest] at hT
        rw [h8]
        exact ⟨fun _ => .done (hK (mk []) 0 _ _ _ (Got.bad hT)), fun h => by simp at h⟩
      | cons x r =>
        have hx : (bl s)[i + 1]? = some x := by
          have : (List.drop (i + 1) (bl s))[0]? = some x := by rw [hrest]; rfl
          simpa using this
        have hltx : i + 1 < (bl s).length := (List.getElem?_eq_some_iff.1 hx).1
        have hrx : r = List.drop (i + 2) (bl s) := by
          have := drop_get hx
          rw [hrest] at this; simpa using this
        have h8 : decide (((bl s).length : Int) ≤ i + 1) = false := by simp; omega
        rw [hrest] at hT hr
        have hi1 : ((i : Int) + 1).toNat = i + 1 := by omega
        have hi2 : ((i : Int) + 1 + 1).toNat = i + 2 := by omega
        rw [h8, hi1, hx] at hd he
        simp only [Bool.not_false, Bool.true_and, true_implies, Option.some.injEq] at hd he
        obtain rfl := hd
        have hE : (x == 34 || x == 92) = !(!x == 34 && !e == 92) := by
          cases h7 : x == 34 with
          | true => rfl
          | false => rw [h7] at he; obtain rfl := he rfl; simp
        rw [h8]
        simp only [hE] at hT hr
        generalize (!x == 34 && !e == 92) = b at hT hr ⊢
        cases b with
        | true => exact ⟨fun _ => .done (hK (mk []) 0 _ _ _ (Got.bad hT)), fun h => by simp at h⟩
        | false =>
          simp only [Bool.not_false, Bool.cond_true] at hr
          have hsub : List.drop (i + 1) (List.take (i + 2) (bl s)) = [x] := by rw [List.drop_take, drop_get hx]; simp
          refine ⟨fun h => by simp at h, fun _ => ⟨fun _ => ?_, fun h => by simp at h⟩⟩
          and_intros
          all_goals first
            | omega
            | (simp; omega)
            | skip
          refine loop_next (out ++ [x], i + 2) 0 ⟨by simp only; omega, by simp; omega, by rw [← hr, hrx]⟩ (by simp only; omega) ?_ ?_
          · simp -dsimp only [go_sem]; simp [hi1, hi2, hsub]; omega
          · simp [go_sem]
set_option maxRecDepth 100000 in
theorem mNumR : Meets Try.prog 32 numRSp := by
  refine meets_fn Try.func32 ok32 2 (by rw [Try.ntmps32]; decide) (meetsAll_f mDigit (meetsAll_s mNumV (meetsAll_f mWordB (meetsAll_nil _)))) atSp_len ?_
  intro xs H K h
  obtain ⟨s, a, rfl, rfl, h0, h1, h2, ⟨c0, hc0⟩, hK⟩ := atSp_open h
  have h45 : ∀ c : UInt8, ((c.toNat : Int) == 45) = (c == 45) := fun c => u8_beq 45
  have hlt : a.toNat < (bl s).length := (List.getElem?_eq_some_iff.1 hc0).1
  generalize hneg : ((bl s)[a.toNat]? == some 45) = neg at hK
  generalize hfe : (bif neg then a.toNat + 1 else a.toNat) = f
  have hf1 : a.toNat ≤ f ∧ f ≤ (bl s).length := by subst hfe; cases neg <;> simp <;> omega
  generalize hz : runN digB (bl s) f = z
  have rest : vc [(31, .f (byteFn fun c => .bool (isDig c))), (51, .s numVSp), (36, .f (byteFn fun c => .bool (isWord c)))] 0 pc32_6.ungh (puts [(0, tS s), (1, iS .i64 a), (8, iS .i64 z)]) [] (retK 0 rs32 K) := by
    simp -dsimp only [go_sem, pc32_6, rs32, h45, bl_mk]
    have hz1 : f ≤ z := by rw [← hz]; exact runN_ge
    have hz2 : z ≤ (bl s).length := by rw [← hz]; exact runN_le hf1.2
    generalize hq : List.drop a.toNat (List.take z (bl s)) = q
    have hq0 : (q[0]? == some 45) = neg := by
      have e : q[0]? = (List.take z (bl s))[a.toNat]? := by rw [← hq, List.getElem?_drop]; rfl
      rw [e, List.getElem?_take]
      split
      · exact hneg
      · cases neg with
        | false => rfl
        | true => simp at hfe; omega
    have hqs : List.drop (bif neg then 1 else 0) q = List.drop f (List.take z (bl s)) := by
      rw [← hq, List.drop_drop, ← hfe]; cases neg <;> rfl
    have hdig : ∀ c ∈ List.drop f (List.take z (bl s)), digB c = true := fun c hc => by rw [← hz] at hc; exact runN_all c hc
    have hV : ((numV q).2 = 2 → numR (bl s) a.toNat = .bad 2 a.toNat) ∧ ((numV q).2 = 1 → numR (bl s) a.toNat = .bad 4 a.toNat) ∧
        ((numV q).2 ≠ 2 → (numV q).2 ≠ 1 → numR (bl s) a.toNat = bif wmAt (bl s) z then .bad 2 z else .ok 2 [] (numV q).1 z) := by
      simp only [numV, hq0, hqs, numR, hneg, hfe, hz]
      generalize List.drop f (List.take z (bl s)) = r
      cases (r == [] || (r[0]? == some 48 && (decide (1 < r.length) || neg))) with
      | true => simp
      | false =>
        simp only [Bool.cond_false]
        cases valL (limit neg) 0 r with
        | none => simp
        | some n => simp
    have hwm : ∀ c e : UInt8, (decide ((z : Int) < (bl s).length) = true → (bl s)[z]? = some c) → ((decide ((z : Int) < (bl s).length) && !isWord c.toNat) = true → (bl s)[z]? = some e) →
        (decide ((z : Int) < (bl s).length) && (isWord c.toNat || e == 45)) = wmAt (bl s) z := by
      intro c e hc he
      unfold wmAt
      cases hd : (bl s)[z]? with
      | none =>
        have : decide ((z : Int) < (bl s).length) = false := by have := List.getElem?_eq_none_iff.1 hd; simp; omega
        rw [this]; rfl
      | some d =>
        have hlt : z < (bl s).length := (List.getElem?_eq_some_iff.1 hd).1
        have : decide ((z : Int) < (bl s).length) = true := by simp; omega
        rw [this, hd] at hc he
        rw [this]
        obtain rfl := Option.some.inj (hc rfl)
        have hnd : digB d = false := by rw [← hz] at hd; exact runN_at hd
        simp only [Bool.true_and, hnd, Bool.not_false, Bool.and_true, wordB] at he ⊢
        cases hw : isWord d.toNat with
        | true => rfl
        | false => rw [hw] at he; obtain rfl := Option.some.inj (he rfl); rfl
    obtain ⟨v1, v2, v3⟩ := hV
    have ha : ((a.toNat : Nat) : Int) = a := Int.toNat_of_nonneg h0
    refine ⟨by omega, ⟨by rw [← hq]; simp; omega, by rw [hq0, hqs]; exact hdig⟩, fun h => .done (hK (mk []) _ _ _ _ (by rw [v1 (by simpa using h), ha]; exact ⟨rfl, rfl⟩)), fun h => ⟨fun h5 => .done (hK (mk []) _ _ _ _ (by rw [v2 (by simpa using h5), ha]; exact ⟨rfl, rfl⟩)), fun h5 => ⟨fun h6 => ⟨by omega, by simpa using h6⟩, fun c hc => ⟨fun _ => by have := c.toNat_lt; omega, fun h6 => ⟨by omega, by simp at h6; omega⟩, fun e he => ⟨fun h6 h7 => by rw [h6, h7]; rfl, ?_⟩⟩⟩⟩⟩
    rw [hwm c e hc he]
    have v3 := v3 (by simpa using h) (by simpa using h5)
    refine ⟨fun h6 => .done (hK (mk []) _ _ _ _ ?_), fun h6 => .done (hK (mk []) _ _ _ _ ?_)⟩
    · rw [v3, h6]; exact ⟨rfl, rfl⟩
    · rw [v3, h6]; exact ⟨rfl, rfl, rfl, rfl, rfl⟩
  simp -dsimp only [go_sem, pc32, rs32, h45]
  refine ⟨⟨by omega, by omega⟩, fun c hc => ?_⟩
  have hcn : (c == 45) = neg := by rw [← hneg, hc]; rfl
  rw [hcn]
  refine ⟨fun h => ⟨by omega, ?_⟩, fun h => ?_⟩
  · have hfi : (f : Int) = a + 1 := by subst h; simp at hfe; omega
    refine vc_loop (α := Nat) (fun i => [(0, tS s), (1, iS .i64 a), (8, iS .i64 i)]) (fun i => []) (fun i => f ≤ i ∧ i ≤ (bl s).length ∧ runN digB (bl s) i = z) (fun i => (bl s).length - i) f 0 ⟨by omega, by omega, hz⟩ ?_ ?_ ?_
    · simp -dsimp only [go_sem]; simp [hfi]
    · simp [go_sem]
    rintro i ⟨hai, hi, hr⟩
    simp -dsimp only [go_sem]
    refine ⟨fun hlt => ⟨by omega, by simpa using hlt⟩, fun d hd => ⟨fun _ => by have := d.toNat_lt; omega, fun h3 => ?_, fun h3 => ?_⟩⟩
    · simp only [Bool.and_eq_true, decide_eq_true_eq] at h3
      have hd := hd (by simpa using h3.1)
      have hlt : i < (bl s).length := (List.getElem?_eq_some_iff.1 hd).1
      refine ⟨by omega, loop_next (i + 1) 0 ⟨by omega, hlt, by rw [runN_step hd h3.2, hr]⟩ (by omega) ?_ ?_⟩
      · simp -dsimp only [go_sem]; simp
      · simp [go_sem]
    · have hiz : i = z := by
        rw [← hr]
        refine (runN_stop fun e he => ?_).symm
        have hlt : i < (bl s).length := (List.getElem?_eq_some_iff.1 he).1
        have hd2 := hd (by simp; omega)
        rw [he] at hd2; obtain rfl := Option.some.inj hd2
        have hlt2 : decide ((i : Int) < (bl s).length) = true := by simp; omega
        rw [hlt2, Bool.true_and] at h3
        exact h3
      subst hiz
      refine vc_tail 0 rest ?_ ?_
      · simp -dsimp only [go_sem]
      · simp [go_sem]
  · have hfi : (f : Int) = a := by subst h; simp at hfe; omega
    refine vc_loop (α := Nat) (fun i => [(0, tS s), (1, iS .i64 a), (8, iS .i64 i)]) (fun i => []) (fun i => f ≤ i ∧ i ≤ (bl s).length ∧ runN digB (bl s) i = z) (fun i => (bl s).length - i) f 0 ⟨by omega, by omega, hz⟩ ?_ ?_ ?_
    · simp -dsimp only [go_sem]; simp [hfi]
    · simp [go_sem]
    rintro i ⟨hai, hi, hr⟩
    simp -dsimp only [go_sem]
    refine ⟨fun hlt => ⟨by omega, by simpa using hlt⟩, fun d hd => ⟨fun _ => by have := d.toNat_lt; omega, fun h3 => ?_, fun h3 => ?_⟩⟩
    · simp only [Bool.and_eq_true, decide_eq_true_eq] at h3
      have hd := hd (by simpa using h3.1)
      have hlt : i < (bl s).length := (List.getElem?_eq_some_iff.1 hd).1
      refine ⟨by omega, loop_next (i + 1) 0 ⟨by omega, hlt, by rw [runN_step hd h3.2, hr]⟩ (by omega) ?_ ?_⟩
      · simp -dsimp only [go_sem]; simp
      · simp [go_sem]
    · have hiz : i = z := by
        rw [← hr]
        refine (runN_stop fun e he => ?_).symm
        have hlt : i < (bl s).length := (List.getElem?_eq_some_iff.1 he).1
        have hd2 := hd (by simp; omega)
        rw [he] at hd2; obtain rfl := Option.some.inj hd2
        have hlt2 : decide ((i : Int) < (bl s).length) = true := by simp; omega
        rw [hlt2, Bool.true_and] at h3
        exact h3
      subst hiz
      refine vc_tail 0 rest ?_ ?_
      · simp -dsimp only [go_sem]
      · simp [go_sem]
end Go.Proofs.Ytgophdhegdcekaa
