/- strings.Builder, and the scanner's strings. -/
import Derived.Test.YtgophdhegdcekaaLexB
namespace Go.Proofs.Ytgophdhegdcekaa
open Go.W
/-! ### Builder -/
abbrev u8C (c : UInt8) : List C := [.vl (.int .u8 c.toNat)]
abbrev bldH (p : C) (l : List UInt8) : Hp := [.cells [p, .sl 1 l.length] 62, .row (l.map u8C) 5 1]
def isBld (p : C) (n : Nat) (xs : List (List C)) : Prop := (p = .vl (.pointer none) ∨ p = .pt 0 0) ∧ n = xs.length ∧ (∀ r ∈ xs, ∃ c : UInt8, r = u8C c) ∧ xs.length ≤ 1000000000
def ccSp : W.Spec := fun av H K =>
  match av, H with
  | [.va (.c1 (.pt 0 0))], [.cells [p, .sl 1 n] 62, .row xs 5 1] => isBld p n xs ∧ K (.tu []) [.cells [.pt 0 0, .sl 1 n] 62, .row xs 5 1]
  | _, _ => False
theorem ccSp_open {av : List S} {H : Hp} {K : S → Hp → Prop} (h : ccSp av H K) : ∃ p n xs, av = [.va (.c1 (.pt 0 0))] ∧ H = [.cells [p, .sl 1 n] 62, .row xs 5 1] ∧ isBld p n xs ∧
    K (.tu []) [.cells [.pt 0 0, .sl 1 n] 62, .row xs 5 1] := by
  unfold ccSp at h
  split at h
  · exact ⟨_, _, _, rfl, rfl, h⟩
  · exact h.elim
attribute [go_sem ↓] ccSp
theorem mCopyCheck : Meets Try.prog 55 ccSp := by
  refine meets_fn Try.func55 ok55 1 (by rw [Try.ntmps55]; decide) (meetsAll_nil _) (fun av H K h => by obtain ⟨_, _, _, rfl, _⟩ := ccSp_open h; rfl) ?_
  intro av H K h
  obtain ⟨p, n, xs, rfl, rfl, hp, hK⟩ := ccSp_open h
  rcases hp.1 with rfl | rfl
  · simp -dsimp only [go_sem, pc55, rs55] at hK ⊢
    simp only [Option.isNone, Bool.true_eq_false, false_implies, and_true, true_implies]
    exact .done hK
  · simp -dsimp only [go_sem, pc55, rs55] at hK ⊢
    exact .done hK
def wbSp : W.Spec := fun av H K =>
  match av, H with
  | [.va (.c1 (.pt 0 0)), .va (.c1 (.vl (.int .u8 c)))], [.cells [p, .sl 1 n] 62, .row xs 5 1] => (isBld p n xs ∧ 0 ≤ c ∧ c ≤ 255) ∧
      K (.va (.c1 (.vl .nilIface))) [.cells [.pt 0 0, .sl 1 (n + 1)] 62, .row (xs ++ [[.vl (.int .u8 c)]]) 5 1]
  | _, _ => False
theorem wbSp_open {av : List S} {H : Hp} {K : S → Hp → Prop} (h : wbSp av H K) : ∃ p n xs c, av = [.va (.c1 (.pt 0 0)), iS .u8 c] ∧ H = [.cells [p, .sl 1 n] 62, .row xs 5 1] ∧ isBld p n xs ∧ (0 ≤ c ∧ c ≤ 255) ∧
    K (.va (.c1 (.vl .nilIface))) [.cells [.pt 0 0, .sl 1 (n + 1)] 62, .row (xs ++ [[.vl (.int .u8 c)]]) 5 1] := by
  unfold wbSp at h
  split at h
  · exact ⟨_, _, _, _, rfl, rfl, h.1.1, h.1.2, h.2⟩
  · exact h.elim
attribute [go_sem ↓] wbSp
theorem mWriteByte : Meets Try.prog 40 wbSp := by
  refine meets_fn Try.func40 ok40 2 (by rw [Try.ntmps40]; decide) (meetsAll_s mCopyCheck (meetsAll_nil _)) (fun av H K h => by obtain ⟨_, _, _, _, rfl, _⟩ := wbSp_open h; rfl) ?_
  intro av H K h
  obtain ⟨p, n, xs, c, rfl, rfl, hp, hc, hK⟩ := wbSp_open h
  obtain ⟨hp1, rfl, hp2, hp3⟩ := hp
  rcases hp1 with rfl | rfl
  all_goals
    simp -dsimp only [go_sem, pc40, rs40] at hK ⊢
    refine ⟨⟨by simp, rfl, hp2, hp3⟩, by omega, .sel [0, 1] (by simp) (by simp) rfl (.done ?_)⟩
    simpa [go_sem] using hK
def lenSp : W.Spec := fun av H K =>
  match av, H with
  | [.va (.c1 (.pt 0 0))], [.cells [p, .sl 1 n] 62, .row xs 5 1] => isBld p n xs ∧ K (iS .i64 n) [.cells [p, .sl 1 n] 62, .row xs 5 1]
  | _, _ => False
theorem lenSp_open {av : List S} {H : Hp} {K : S → Hp → Prop} (h : lenSp av H K) : ∃ p n xs, av = [.va (.c1 (.pt 0 0))] ∧ H = [.cells [p, .sl 1 n] 62, .row xs 5 1] ∧ isBld p n xs ∧
    K (iS .i64 n) [.cells [p, .sl 1 n] 62, .row xs 5 1] := by
  unfold lenSp at h
  split at h
  · exact ⟨_, _, _, rfl, rfl, h⟩
  · exact h.elim
attribute [go_sem ↓] lenSp
theorem mLen : Meets Try.prog 39 lenSp := by
  refine meets_fn Try.func39 ok39 1 (by rw [Try.ntmps39]; decide) (meetsAll_nil _) (fun av H K h => by obtain ⟨_, _, _, rfl, _⟩ := lenSp_open h; rfl) ?_
  intro av H K h
  obtain ⟨p, n, xs, rfl, rfl, ⟨hp1, rfl, hp2, hp3⟩, hK⟩ := lenSp_open h
  simp -dsimp only [go_sem, pc39, rs39] at hK ⊢
  exact .done hK
def strSp : W.Spec := fun av H K =>
  match av, H with
  | [.va (.c1 (.pt 0 0))], [.cells [p, .sl 1 n] 62, .row xs 5 1] => isBld p n xs ∧ K (tS (mk (rowB xs))) [.cells [p, .sl 1 n] 62, .dead]
  | _, _ => False
theorem strSp_open {av : List S} {H : Hp} {K : S → Hp → Prop} (h : strSp av H K) : ∃ p n xs, av = [.va (.c1 (.pt 0 0))] ∧ H = [.cells [p, .sl 1 n] 62, .row xs 5 1] ∧ isBld p n xs ∧
    K (tS (mk (rowB xs))) [.cells [p, .sl 1 n] 62, .dead] := by
  unfold strSp at h
  split at h
  · exact ⟨_, _, _, rfl, rfl, h⟩
  · exact h.elim
attribute [go_sem ↓] strSp
theorem mString : Meets Try.prog 42 strSp := by
  refine meets_fn Try.func42 ok42 1 (by rw [Try.ntmps42]; decide) (meetsAll_nil _) (fun av H K h => by obtain ⟨_, _, _, rfl, _⟩ := strSp_open h; rfl) ?_
  intro av H K h
  obtain ⟨p, n, xs, rfl, rfl, ⟨hp1, rfl, hp2, hp3⟩, hK⟩ := strSp_open h
  simp -dsimp only [go_sem, pc42, rs42] at hK ⊢
  exact ⟨⟨hp2, by omega⟩, .done hK⟩
/-! ### text -/
def quoL : Nat → List UInt8 → List UInt8 → Nat × Option (List UInt8)
  | i, [], _ => (i, none)
  | i, c :: r, out =>
    bif decide (c < 32) || decide (126 < c) then (i, none)
    else bif c == 34 then (i + 1, some out)
    else bif c == 92 then match r with
      | d :: r' => bif d == 34 || d == 92 then quoL (i + 2) r' (out ++ [d]) else (i, none)
      | [] => (i, none)
    else quoL (i + 1) r (out ++ [c])
theorem quoL_nil (i : Nat) (out : List UInt8) : quoL i [] out = (i, none) := by rw [quoL.eq_def]
theorem quoL_cons (i : Nat) (c : UInt8) (r out : List UInt8) : quoL i (c :: r) out = bif decide (c < 32) || decide (126 < c) then (i, none)
    else bif c == 34 then (i + 1, some out)
    else bif c == 92 then match r with
      | d :: r' => bif d == 34 || d == 92 then quoL (i + 2) r' (out ++ [d]) else (i, none)
      | [] => (i, none)
    else quoL (i + 1) r (out ++ [c]) := by rw [quoL.eq_def]
def textR (l : List UInt8) (a : Nat) : R := match quoL (a + 1) (l.drop (a + 1)) [] with
  | (i, none) => .bad 2 i
  | (z, some out) => bif decide (200 < out.length) then .bad 3 a else .ok 3 out 0 z
def textSp : W.Spec := tokSp (fun l a => l[a]? = some 34) textR
attribute [go_sem ↓] textSp
set_option maxRecDepth 100000 in
theorem mText : Meets Try.prog 49 textSp := by
  refine meets_fn Try.func49 ok49 1 (by rw [Try.ntmps49]; decide) (meetsAll_s mFail (meetsAll_s mWriteByte (meetsAll_s mLen (meetsAll_s mString (meetsAll_nil _))))) tokSp_len ?_
  intro xs H K h
  obtain ⟨s, a, rfl, rfl, h0, h1, h2, hc0, hK⟩ := tokSp_open h
  have hlt : a.toNat < (bl s).length := (List.getElem?_eq_some_iff.1 hc0).1
  simp -dsimp only [go_sem, pc49, rs49] at hK ⊢
  refine ⟨by omega, vc_loop_gh (α := C × Nat × List UInt8) (fun z => [(0, .va (.c1 (.pt 0 0))), (2, .va (.c1 (.pt 1 0))), (3, iS .i64 a), (4, .va (.c1 (.pt 2 0)))])
    (fun z => [scB s z.2.1 0 0, .cells (tkC 0 (mk []) 0 0) 30, .cells [z.1, .sl 3 z.2.2.length] 62, .row (z.2.2.map u8C) 5 1])
    (fun z => (z.1 = .vl (.pointer none) ∨ z.1 = .pt 2 0) ∧ z.2.1 ≤ (bl s).length ∧ z.2.2.length ≤ z.2.1 ∧ quoL z.2.1 ((bl s).drop z.2.1) z.2.2 = quoL (a.toNat + 1) ((bl s).drop (a.toNat + 1)) []) (fun z => (bl s).length - z.2.1)
    (.nilc 2 1 5 1 _ _ rfl rfl (gh_at (.vl (.pointer none), a.toNat + 1, []) 4 ⟨.inl rfl, by simp only; omega, by simp, rfl⟩ ?_ ?_)) ?_⟩
  · simp -dsimp only [go_sem]
  · simp -dsimp only [go_sem]; simp; omega
  rintro ⟨p, i, out⟩ ⟨hp, hi, ho, hq⟩
  simp only at hp hi ho hq
  have hby : ∀ r ∈ out.map u8C, ∃ c : UInt8, r = u8C c := fun r hr => by obtain ⟨c, _, rfl⟩ := List.mem_map.1 hr; exact ⟨c, rfl⟩
  have hbl : (out.map u8C).length ≤ 1000000000 := by simp; omega
  have hrb : rowB (out.map u8C) = out := by
    simp only [rowB, List.map_map]
    conv => rhs; rw [← List.map_id out]
    apply List.map_congr_left
    intro c _
    simp [C.gi, u8C]
  have hn : (bl s).length ≤ i → quoL i ((bl s).drop i) out = (i, none) := fun h => by rw [List.drop_eq_nil_iff.2 h, quoL_nil]
  have hcs : ∀ c : UInt8, (bl s)[i]? = some c → (bl s).drop i = c :: (bl s).drop (i + 1) := fun c hc => drop_get hc
  have lt32 : ∀ c : UInt8, decide ((c.toNat : Int) < 32) = decide (c < 32) := fun c => by rw [decide_eq_decide, UInt8.lt_iff_toNat_lt]; show (c.toNat : Int) < 32 ↔ c.toNat < 32; omega
  have gt126 : ∀ c : UInt8, decide (126 < (c.toNat : Int)) = decide (126 < c) := fun c => by rw [decide_eq_decide, UInt8.lt_iff_toNat_lt]; show 126 < (c.toNat : Int) ↔ 126 < c.toNat; omega
  have e34 : ∀ c : UInt8, ((c.toNat : Int) == 34) = (c == 34) := fun c => u8_beq 34
  have e92 : ∀ c : UInt8, ((c.toNat : Int) == 92) = (c == 92) := fun c => u8_beq 92
  have n34 : ∀ c : UInt8, ((c.toNat : Int) != 34) = !(c == 34) := fun c => by rw [bne, e34]
  have n92 : ∀ c : UInt8, ((c.toNat : Int) != 92) = !(c == 92) := fun c => by rw [bne, e92]
  have bad : quoL (a.toNat + 1) ((bl s).drop (a.toNat + 1)) [] = (i, none) → ∀ k x n y, K (.va (.gs (tkC k x n y))) [scB s i 2 i] := fun h => by
    simp only [textR, h, tokP] at hK
    exact fun k x n y => hK k x n y i
  rcases hp with rfl | rfl
  all_goals
    simp -dsimp only [go_sem, lt32, gt126, e34, e92, n34, n92, hrb]
    refine ⟨fun h3 => by simp at h3; omega, fun c hc => ⟨fun h3 => by simp at h3; omega, fun c1 hc1 => ⟨fun h3 => ?_, fun h3 => ?_⟩⟩⟩
    · refine .sel [0] (by simp) (by simp) rfl (.done (bad ?_ _ _ _ _))
      rw [← hq]
      by_cases h4 : (bl s).length ≤ i
      · exact hn h4
      · have h5 : decide (((bl s).length : Int) ≤ i) = false := by simp; omega
        have h6 := hc h5
        rw [hcs c h6, quoL_cons]
        by_cases h7 : c < 32
        · simp [h7]
        · have h8 := hc1 (by rw [h5]; simp [h7])
          rw [h6] at h8
          simp only [Option.some.injEq] at h8
          subst h8
          simp only [h5, h7, decide_false, Bool.false_or] at h3
          simp [h3]
    · simp only [Bool.or_eq_false_iff] at h3
      obtain ⟨⟨h4, h5⟩, h6⟩ := h3
      have hc' := hc h4
      have hc1' := hc1 (by rw [h4, h5]; rfl)
      rw [hc'] at hc1'
      simp only [Option.some.injEq] at hc1'
      subst hc1'
      simp at h4
      refine ⟨by omega, fun c2 hc2 => ?_⟩
      rw [hc'] at hc2
      simp only [Option.some.injEq] at hc2
      subst hc2
      rw [hcs c hc', quoL_cons] at hq
      simp only [h5, h6, Bool.false_or, Bool.cond_false] at hq
      refine ⟨fun h7 => ?_, fun h7 => ?_⟩
      · simp only [h7, Bool.cond_true] at hq
        simp only [textR, ← hq] at hK
        refine ⟨by omega, ⟨by simp, by simp, hby, hbl⟩, fun h8 => ⟨⟨by simp, by simp, hby, hbl⟩, .sel [0] (by simp) (by simp) rfl (.done ?_)⟩, fun h8 => ⟨⟨by simp, by simp, hby, hbl⟩, .sel [0] (by simp) (by simp) rfl (.done ?_)⟩⟩
        · have h9 : decide (200 < out.length) = true := by simp at h8 ⊢; omega
          simp only [h9, Bool.cond_true, tokP] at hK
          have := hK 3 (mk out) 0 a (i + 1)
          rw [Int.toNat_of_nonneg h0] at this
          exact this
        · have h9 : decide (200 < out.length) = false := by simp at h8 ⊢; omega
          simp only [h9, Bool.cond_false, tokP] at hK
          exact hK
      · simp only [h7, Bool.cond_false] at hq
        have hi1 : ((i : Int) + 1).toNat = i + 1 := by omega
        rw [hi1]
        refine ⟨fun h8 => ⟨by omega, fun _ => by omega, fun h9 => by simp at h9; omega, fun c1 hc1' => ⟨fun _ => by omega, fun h9 => by simp at h9; omega, fun c2 hc2 => ⟨fun h9 h10 => by rw [h9, h10]; rfl, fun h9 => ?_, fun h9 => ?_⟩⟩⟩, fun h8 => ?_⟩
        · refine .sel [0] (by simp) (by simp) rfl (.done (bad ?_ _ _ _ _))
          simp only [h8, Bool.cond_true] at hq
          rw [← hq]
          by_cases h10 : (bl s).length ≤ i + 1
          · rw [List.drop_eq_nil_iff.2 h10]
          · have h11 : decide (((bl s).length : Int) ≤ i + 1) = false := by simp; omega
            have h12 := hc1' h11
            rw [drop_get h12]
            simp only [h11, Bool.false_or, Bool.and_eq_true, Bool.not_eq_true'] at h9
            have h13 := hc2 (by rw [h11, h9.1]; rfl)
            rw [h12] at h13
            simp only [Option.some.injEq] at h13
            subst h13
            simp only [h9.1, h9.2, Bool.or_self, Bool.cond_false]
        · simp only [Bool.or_eq_false_iff] at h9
          have h12 := hc1' h9.1
          have hlt1 := (List.getElem?_eq_some_iff.1 h12).1
          refine ⟨by omega, by omega, fun c3 hc3 => ?_⟩
          rw [h12] at hc3
          simp only [Option.some.injEq] at hc3
          subst hc3
          have h14 : (c1 == 34 || c1 == 92) = true := by
            cases h15 : (c1 == 34) with
            | true => rfl
            | false =>
              have h13 := hc2 (by rw [h9.1, h15]; rfl)
              rw [h12] at h13
              simp only [Option.some.injEq] at h13
              subst h13
              rw [h15] at h9
              simpa using h9.2
          simp only [h8, Bool.cond_true, drop_get h12, h14] at hq
          refine ⟨⟨⟨by simp, by simp, hby, hbl⟩, by omega, by have := c1.toNat_lt; omega⟩, by omega, loop_next (.pt 2 0, i + 2, out ++ [c1]) 4 ⟨.inr rfl, by simp only; omega, by simp; omega, hq⟩ (by simp only; omega) ?_ ?_⟩
          · simp -dsimp only [go_sem]
          · simp -dsimp only [go_sem]; simp; omega
        · simp only [h8, Bool.cond_false] at hq
          refine ⟨⟨⟨by simp, by simp, hby, hbl⟩, by omega, by have := c.toNat_lt; omega⟩, by omega, loop_next (.pt 2 0, i + 1, out ++ [c]) 4 ⟨.inr rfl, by simp only; omega, by simp; omega, hq⟩ (by simp only; omega) ?_ ?_⟩
          · simp -dsimp only [go_sem]
          · simp -dsimp only [go_sem]; simp
end Go.Proofs.Ytgophdhegdcekaa
