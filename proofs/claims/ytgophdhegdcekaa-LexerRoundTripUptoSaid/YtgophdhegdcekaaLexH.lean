/- Numbers and texts, printed. -/
import Derived.Test.YtgophdhegdcekaaLexE
import Derived.Test.YtgophdhegdcekaaPf
import Derived.Test.YtgophdhegdcekaaPh
namespace Go.Proofs.Ytgophdhegdcekaa
open Go.W
/-- A number's digits. -/
def digs (n : Nat) : List UInt8 := (if h : n < 10 then [] else digs (n / 10)) ++ [(48 + n % 10).toUInt8]
  termination_by n
  decreasing_by omega
theorem digs_lt {n : Nat} (h : n < 10) : digs n = [(48 + n).toUInt8] := by
  rw [digs.eq_1, dif_pos h, Nat.mod_eq_of_lt h]; rfl
theorem digs_ge {n : Nat} (h : 10 ≤ n) : digs n = digs (n / 10) ++ [(48 + n % 10).toUInt8] := by
  rw [digs.eq_1, dif_neg (by omega)]
theorem digs_len : ∀ (k n : Nat), n < 10 ^ (k + 1) → (digs n).length ≤ k + 1
  | 0, n, h => by rw [digs_lt (by omega)]; simp
  | k + 1, n, h => by
    rcases Nat.lt_or_ge n 10 with h1 | h1
    · rw [digs_lt h1]; simp
    · rw [digs_ge h1, List.length_append]
      have := digs_len k (n / 10) (by rw [Nat.pow_succ] at h; omega)
      simp; omega
def decS (n : Int) : List UInt8 := bif decide (n < 0) then 45 :: digs n.natAbs else digs n.natAbs
def restD (f : Bool) (u : Nat) : List UInt8 := bif f || decide (0 < u) then digs u else []
theorem restD_step {f : Bool} {u : Nat} (h : (f || decide (0 < u)) = true) : restD f u = restD false (u / 10) ++ [(48 + u % 10).toUInt8] := by
  unfold restD
  rw [h, Bool.cond_true, Bool.false_or]
  rcases Nat.lt_or_ge u 10 with h1 | h1
  · rw [digs_lt h1, Nat.mod_eq_of_lt h1, show decide (0 < u / 10) = false by simp; omega]; rfl
  · rw [digs_ge h1, show decide (0 < u / 10) = true by simp; omega]; rfl
def decPre : List S → Prop := fun xs => match xs with
  | [.va (.c1 (.vl (.int .i64 n)))] => -9223372036854775808 ≤ n ∧ n ≤ 9223372036854775807
  | _ => False
theorem decPre_open {xs : List S} (h : decPre xs) : ∃ n : Int, xs = [iS .i64 n] ∧ -9223372036854775808 ≤ n ∧ n ≤ 9223372036854775807 := by
  unfold decPre at h
  split at h
  · exact ⟨_, rfl, h⟩
  · exact h.elim
def decVal : List S → A := fun xs => match xs with
  | [.va (.c1 (.vl (.int .i64 n)))] => tA (mk (decS n))
  | _ => .gs []
def decFn : Fun := ⟨decPre, decVal, fun xs h => by obtain ⟨n, rfl, _⟩ := decPre_open h; trivial⟩
theorem decFn_len : ∀ xs H K, decFn.sp xs H K → xs.length = 1 := fun xs H K h => by obtain ⟨n, rfl, _⟩ := decPre_open h.1.1; rfl
attribute [go_sem ↓] decPre decVal decFn
theorem mDecimal : Meets Try.prog 53 decFn.sp := by
  refine meets_fn Try.func53 Pr.ok53 1 (by rw [Try.ntmps53]; decide) (meetsAll_nil _) decFn_len ?_
  intro xs H K h
  obtain ⟨⟨hp, rfl⟩, hK⟩ := h
  obtain ⟨n, rfl, hn1, hn2⟩ := decPre_open hp
  have hK' : K (tS (mk (decS n))) [] := hK
  have rest : vc [] 0 Pr.pc53_4.ungh (puts [(0, iS .i64 n), (3, iS .u64 n.natAbs)]) [] (retK 0 Pr.rs53 K) := by
    simp -dsimp only [go_sem, Pr.pc53_4, Pr.rs53]
    refine vc_loop (α := Bool × Nat × List UInt8) (fun z => [(0, iS .i64 n), (3, iS .u64 z.2.1), (4, tS (mk z.2.2)), (5, bS z.1)]) (fun _ => []) (fun z => z.2.1 ≤ 9223372036854775808 ∧ restD z.1 z.2.1 ++ z.2.2 = digs n.natAbs) (fun z => 2 * z.2.1 + (bif z.1 then 1 else 0)) (true, n.natAbs, []) 0 ⟨by simp only; omega, by simp [restD]⟩ ?_ rfl ?_
    · simp [go_sem]
    rintro ⟨f, u, acc⟩ ⟨hu, hr⟩
    simp only at hu hr
    have hl := digs_len 19 n.natAbs (by omega)
    rw [← hr, List.length_append] at hl
    simp -dsimp only [go_sem]
    have hu0 : decide (0 < (u : Int)) = decide (0 < u) := by rw [decide_eq_decide]; omega
    have ht : (u : Int).tmod 10 = (u % 10 : Nat) := by rw [Int.tmod_eq_emod_of_nonneg (by omega)]; omega
    have hd : (u : Int).tdiv 10 = (u / 10 : Nat) := by rw [Int.tdiv_eq_ediv_of_nonneg (by omega)]; omega
    have hm := Nat.mod_lt u (show 0 < 10 by decide)
    have hw : IntKind.u8.wrap (48 + ((u % 10 : Nat) : Int)) = 48 + ((u % 10 : Nat) : Int) := wrap_inr (by simp [inr, IntKind.min, IntKind.max, IntKind.signed, IntKind.bits]; omega)
    rw [hu0, ht, hd, hw]
    have hb : rowB [[C.vl (Value.int IntKind.u8 (48 + ((u % 10 : Nat) : Int)))]] = [(48 + u % 10).toUInt8] := by
      show [UInt8.ofNat (48 + ((u % 10 : Nat) : Int)).toNat] = _
      rw [show (48 + ((u % 10 : Nat) : Int)).toNat = 48 + u % 10 by omega]
    rw [hb]
    refine ⟨fun hf => ⟨by decide, by omega, rfl, by simp; omega, ⟨by decide, by omega⟩, ?_⟩, fun hf => ⟨fun h0 => ⟨by omega, ?_⟩, fun h0 => ?_⟩⟩
    · rw [restD_step hf, List.append_assoc] at hr
      refine loop_next (false, u / 10, [(48 + u % 10).toUInt8] ++ acc) 0 ⟨by simp only; omega, hr⟩ ?_ ?_ rfl
      · cases f with
        | true => simp only [Bool.cond_true, Bool.cond_false]; omega
        | false => simp at hf; simp only [Bool.cond_false]; omega
      · simp [go_sem]
    · have : acc = digs n.natAbs := by rw [← hr]; simp [restD, hf]
      refine .done ?_
      rw [this]
      simpa [decS, h0] using hK'
    · have : acc = digs n.natAbs := by rw [← hr]; simp [restD, hf]
      refine .done ?_
      rw [this]
      simpa [decS, h0] using hK'
  simp -dsimp only [go_sem, Pr.pc53, Pr.rs53]
  have w : ∀ m : Int, IntKind.u64.wrap m = m % 18446744073709551616 := fun m => by simp [IntKind.wrap, IntKind.signed, IntKind.bits]
  refine ⟨fun h0 => vc_tail 0 rest ?_ rfl, fun h0 => vc_tail 0 rest ?_ rfl⟩
  · simp at h0
    simp [go_sem, w]
    omega
  · simp at h0
    simp [go_sem, w]
    omega
theorem digit_text : ∀ d, d < 10 → (([48, 49, 50, 51, 52, 53, 54, 55, 56, 57] : List UInt8).take (d + 1)).drop d = [(48 + d).toUInt8] := by decide
theorem mDecimalR : Meets Try.prog 43 decFn.sp := by
  refine meets_fn Try.func43 ok43 1 (by rw [Try.ntmps43]; decide) (meetsAll_nil _) decFn_len ?_
  intro xs H K h
  obtain ⟨⟨hp, rfl⟩, hK⟩ := h
  obtain ⟨n, rfl, hn1, hn2⟩ := decPre_open hp
  have hK' : K (tS (mk (decS n))) [] := hK
  simp -dsimp only [go_sem, pc43, rs43]
  refine vc_loop (α := Int × List UInt8) (fun z => [(0, iS .i64 z.1), (3, tS (mk z.2)), (4, bS (decide (n < 0)))]) (fun _ => []) (fun z => z.1.natAbs ≤ 9223372036854775808 ∧ digs z.1.natAbs ++ z.2 = digs n.natAbs) (fun z => z.1.natAbs) (n, []) 0 ⟨by simp only; omega, by simp⟩ ?_ rfl ?_
  · simp [go_sem]
  rintro ⟨m, acc⟩ ⟨hu, hr⟩
  simp only at hu hr
  have hl := digs_len 19 n.natAbs (by omega)
  rw [← hr, List.length_append] at hl
  simp -dsimp only [go_sem]
  have ht : (m.tmod 10).natAbs = m.natAbs % 10 := Int.natAbs_tmod m 10
  have hq : (m.tdiv 10).natAbs = m.natAbs / 10 := Int.natAbs_tdiv m 10
  have hm := Nat.mod_lt m.natAbs (show 0 < 10 by decide)
  have hn : decide (m.tmod 10 < 0) = true → 0 - m.tmod 10 = ((m.natAbs % 10 : Nat) : Int) := fun h => by simp at h; omega
  have hp : decide (m.tmod 10 < 0) = false → m.tmod 10 = ((m.natAbs % 10 : Nat) : Int) := fun h => by simp at h; omega
  have hz : (m.tdiv 10 == 0) = decide (m.natAbs < 10) := by rw [Bool.eq_iff_iff]; simp; omega
  obtain ⟨d, hdd⟩ : ∃ d, d = m.natAbs % 10 := ⟨_, rfl⟩
  rw [← hdd] at ht hm hn hp
  have hd : ∀ k : Int, k = (d : Int) → (([48, 49, 50, 51, 52, 53, 54, 55, 56, 57] : List UInt8).take (k + 1).toNat).drop k.toNat = [(48 + d).toUInt8] := fun k hk => by
    subst hk
    rw [show ((d : Int) + 1).toNat = d + 1 by omega, show (d : Int).toNat = d by omega]
    exact digit_text d hm
  have hlast : decide (m.natAbs < 10) = true → [(48 + d).toUInt8] ++ acc = digs n.natAbs := fun h => by
    simp at h
    rw [digs_lt h] at hr
    rw [← hr, show m.natAbs = d by omega]
  have hnext : decide (m.natAbs < 10) = false → digs (m.tdiv 10).natAbs ++ ([(48 + d).toUInt8] ++ acc) = digs n.natAbs := fun h => by
    simp at h
    rw [digs_ge h, List.append_assoc] at hr
    rw [hq, ← hr, show d = m.natAbs % 10 by omega]
  rw [hz]
  refine ⟨by decide, fun h => ?_, fun h => ?_⟩
  · have e := hn h
    rw [hd _ e]
    refine ⟨by omega, by omega, by simp; omega, by simp; omega, ⟨by decide, by omega⟩, fun h1 => ⟨fun h0 => ⟨by simp; omega, ?_⟩, fun h0 => ?_⟩, fun h1 => ?_⟩
    · exact .done (by rw [hlast h1]; simpa [decS, h0] using hK')
    · exact .done (by rw [hlast h1]; simpa [decS, h0] using hK')
    · refine loop_next (m.tdiv 10, [(48 + d).toUInt8] ++ acc) 0 ⟨by simp only; omega, hnext h1⟩ (by simp at h1; simp only; omega) ?_ rfl
      simp [go_sem, ← e, hd _ e]
  · have e := hp h
    rw [hd _ e]
    refine ⟨by omega, by simp; omega, by simp; omega, ⟨by decide, by omega⟩, fun h1 => ⟨fun h0 => ⟨by simp; omega, ?_⟩, fun h0 => ?_⟩, fun h1 => ?_⟩
    · exact .done (by rw [hlast h1]; simpa [decS, h0] using hK')
    · exact .done (by rw [hlast h1]; simpa [decS, h0] using hK')
    · refine loop_next (m.tdiv 10, [(48 + d).toUInt8] ++ acc) 0 ⟨by simp only; omega, hnext h1⟩ (by simp at h1; simp only; omega) ?_ rfl
      simp [go_sem, hd _ e]
/-- A text between quotation marks. -/
def escB (c : UInt8) : List UInt8 := bif c == 34 || c == 92 then [92, c] else [c]
def quoI (l : List UInt8) (i : Nat) : List UInt8 := 34 :: (l.take i).flatMap escB
def quoS (l : List UInt8) : List UInt8 := 34 :: l.flatMap escB ++ [34]
theorem quoI_step {l : List UInt8} {i : Nat} {c : UInt8} (h : l[i]? = some c) : quoI l (i + 1) = quoI l i ++ escB c := by
  unfold quoI
  rw [List.take_add_one, h]
  simp
theorem escB_len (c : UInt8) : (escB c).length ≤ 2 := by unfold escB; cases c == 34 || c == 92 <;> simp
theorem flat_len2 (l : List UInt8) : (l.flatMap escB).length ≤ 2 * l.length := by
  induction l with
  | nil => simp
  | cons c l ih => have := escB_len c; simp only [List.flatMap_cons, List.length_append, List.length_cons]; omega
theorem quoI_len (l : List UInt8) (i : Nat) : (quoI l i).length ≤ 1 + 2 * l.length := by
  have := flat_len2 (l.take i)
  simp only [quoI, List.length_cons]
  simp only [List.length_take] at this
  omega
theorem quoI_all (l : List UInt8) : quoI l l.length ++ [34] = quoS l := by unfold quoI quoS; rw [List.take_length]
def quoPre : List S → Prop := fun xs => match xs with
  | [.va (.c1 (.vl (.string s)))] => (bl s).length ≤ 10000000
  | _ => False
theorem quoPre_open {xs : List S} (h : quoPre xs) : ∃ s, xs = [tS s] ∧ (bl s).length ≤ 10000000 := by
  unfold quoPre at h
  split at h
  · exact ⟨_, rfl, h⟩
  · exact h.elim
def quoVal : List S → A := fun xs => match xs with
  | [.va (.c1 (.vl (.string s)))] => tA (mk (quoS (bl s)))
  | _ => .gs []
def quoFn : Fun := ⟨quoPre, quoVal, fun xs h => by obtain ⟨s, rfl, _⟩ := quoPre_open h; trivial⟩
theorem quoFn_len : ∀ xs H K, quoFn.sp xs H K → xs.length = 1 := fun xs H K h => by obtain ⟨s, rfl, _⟩ := quoPre_open h.1.1; rfl
attribute [go_sem ↓] quoPre quoVal quoFn
theorem mQuotedR : Meets Try.prog 44 quoFn.sp := by
  refine meets_fn Try.func44 ok44 1 (by rw [Try.ntmps44]; decide) (meetsAll_nil _) quoFn_len ?_
  intro xs H K h
  obtain ⟨⟨hp, rfl⟩, hK⟩ := h
  obtain ⟨s, rfl, hs⟩ := quoPre_open hp
  have hK' : K (tS (mk (quoS (bl s)))) [] := hK
  have h34 : ∀ c : UInt8, ((c.toNat : Int) == 34) = (c == 34) := fun c => u8_beq 34
  have h92 : ∀ c : UInt8, ((c.toNat : Int) == 92) = (c == 92) := fun c => u8_beq 92
  simp -dsimp only [go_sem, pc44, rs44]
  refine vc_loop (α := Nat) (fun i => [(0, tS s), (3, tS (mk (quoI (bl s) i))), (4, iS .i64 i)]) (fun _ => []) (fun i => i ≤ (bl s).length) (fun i => (bl s).length - i) 0 0 (by omega) ?_ rfl ?_
  · simp [go_sem, quoI]
  intro i hi
  have hl := quoI_len (bl s) i
  simp -dsimp only [go_sem, h34, h92]
  have hi1 : ((i : Int) + 1).toNat = i + 1 := by omega
  have hsub : ∀ c, (bl s)[i]? = some c → List.drop i (List.take ((i : Int) + 1).toNat (bl s)) = [c] := fun c hc => by rw [hi1, List.drop_take, drop_get hc]; simp
  refine ⟨fun h1 => ?_, fun h1 => ?_⟩
  · simp at h1
    refine ⟨by omega, fun c hc => ⟨fun _ => by omega, fun d hd => ?_⟩⟩
    have hE : (c == 34 || d == 92) = (c == 34 || c == 92) := by
      cases h7 : c == 34 with
      | true => rfl
      | false =>
        have := hd h7
        rw [hc] at this
        obtain rfl := Option.some.inj this
        rfl
    have hst := quoI_step hc
    rw [hE, hsub c hc]
    unfold escB at hst
    refine ⟨fun h2 => ⟨by omega, by omega, by omega, by simp; omega, by omega, ?_⟩, fun h2 => ⟨by omega, by omega, by simp; omega, by omega, ?_⟩⟩
    · rw [h2, Bool.cond_true] at hst
      refine loop_next (i + 1) 0 (by omega) (by omega) ?_ rfl
      simp -dsimp only [go_sem, hsub c hc]
      simp [hst]
    · rw [h2, Bool.cond_false] at hst
      refine loop_next (i + 1) 0 (by omega) (by omega) ?_ rfl
      simp -dsimp only [go_sem, hsub c hc]
      simp [hst]
  · simp at h1
    obtain rfl : i = (bl s).length := by omega
    refine ⟨by omega, .done ?_⟩
    rw [quoI_all]
    exact hK'
theorem rowB_map (l : List UInt8) : rowB (l.map u8C) = l := by
  simp only [rowB, List.map_map]
  conv => rhs; rw [← List.map_id l]
  apply List.map_congr_left
  intro c _
  simp [C.gi, u8C]
theorem mQuoted : Meets Try.prog 54 quoFn.sp := by
  refine meets_fn Try.func54 ok54 1 (by rw [Try.ntmps54]; decide) (meetsAll_nil _) quoFn_len ?_
  intro xs H K h
  obtain ⟨⟨hp, rfl⟩, hK⟩ := h
  obtain ⟨s, rfl, hs⟩ := quoPre_open hp
  have hK' : K (tS (mk (quoS (bl s)))) [] := hK
  have h34 : ∀ c : UInt8, ((c.toNat : Int) == 34) = (c == 34) := fun c => u8_beq 34
  have h92 : ∀ c : UInt8, ((c.toNat : Int) == 92) = (c == 92) := fun c => u8_beq 92
  simp -dsimp only [go_sem, pc54, rs54]
  refine vc_loop (α := Nat) (fun i => [(0, tS s), (3, .va (.c1 (.sl 0 (quoI (bl s) i).length))), (7, iS .i64 (bl s).length), (8, iS .i64 i)]) (fun i => [.row ((quoI (bl s) i).map u8C) 5 1]) (fun i => i ≤ (bl s).length) (fun i => (bl s).length - i) 0 1 (by omega) ?_ (by simp [go_sem, quoI]) ?_
  · simp [go_sem, quoI]
  intro i hi
  have hl := quoI_len (bl s) i
  simp -dsimp only [go_sem, h34, h92]
  have hap : ∀ (l : List UInt8) (c : UInt8), l.map u8C ++ [[C.vl (.int .u8 c.toNat)]] = (l ++ [c]).map u8C := fun l c => by rw [List.map_append]; rfl
  have hap34 : (quoI (bl s) i).map u8C ++ [[C.vl (.int .u8 34)]] = (quoI (bl s) i ++ [34]).map u8C := hap _ 34
  have hap92 : (quoI (bl s) i).map u8C ++ [[C.vl (.int .u8 92)]] = (quoI (bl s) i ++ [92]).map u8C := hap _ 92
  refine ⟨fun h1 => ?_, fun h1 => ?_⟩
  · simp at h1
    refine ⟨by omega, fun c hc => ⟨fun _ => by omega, fun d hd => ?_⟩⟩
    have hE : (c == 34 || d == 92) = (c == 34 || c == 92) := by
      cases h7 : c == 34 with
      | true => rfl
      | false =>
        have := hd h7
        rw [hc] at this
        obtain rfl := Option.some.inj this
        rfl
    have hst := quoI_step hc
    rw [hE]
    unfold escB at hst
    refine ⟨fun h2 => ⟨by omega, by omega, fun e he => ?_⟩, fun h2 => ⟨by omega, fun e he => ?_⟩⟩
    · rw [hc] at he
      obtain rfl := Option.some.inj he
      rw [h2, Bool.cond_true] at hst
      have hst' : quoI (bl s) (i + 1) = quoI (bl s) i ++ [92] ++ [c] := by rw [hst, List.append_assoc]; rfl
      refine ⟨by omega, by omega, ?_⟩
      refine loop_next (i + 1) 1 (by omega) (by omega) ?_ ?_
      · simp -dsimp only [go_sem, hst']
        simp
      · simp -dsimp only [go_sem, hst', List.map_cons, List.map_nil]
        rfl
    · rw [hc] at he
      obtain rfl := Option.some.inj he
      rw [h2, Bool.cond_false] at hst
      refine ⟨by omega, by omega, ?_⟩
      refine loop_next (i + 1) 1 (by omega) (by omega) ?_ ?_
      · simp -dsimp only [go_sem, hst]
        simp
      · simp -dsimp only [go_sem, hst, List.map_cons, List.map_nil]
  · simp at h1
    obtain rfl : i = (bl s).length := by omega
    rw [hap34, rowB_map, quoI_all]
    refine ⟨by omega, fun r hr => ?_, .sel [] (by simp) (by simp) rfl (.done hK')⟩
    obtain ⟨c, _, rfl⟩ := List.mem_map.1 hr
    rfl
end Go.Proofs.Ytgophdhegdcekaa
