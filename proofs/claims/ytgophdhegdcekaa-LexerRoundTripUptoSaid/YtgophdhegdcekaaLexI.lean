/- Builder.WriteString; which tokens are printed, and how. -/
import Derived.Test.YtgophdhegdcekaaLexH
namespace Go.Proofs.Ytgophdhegdcekaa
open Go.W
def wsSp : W.Spec := fun av H K =>
  match av, H with
  | [.va (.c1 (.pt 0 0)), .va (.c1 (.vl (.string s)))], [.cells [p, .sl 1 n] 62, .row xs 5 1] => (isBld p n xs ∧ (bl s).length ≤ 1000000000) ∧
      K (.tu [iA .i64 (bl s).length, .c1 (.vl .nilIface)]) [.cells [.pt 0 0, .sl 1 (n + (bl s).length)] 62, .row (xs ++ (bl s).map u8C) 5 1]
  | _, _ => False
theorem wsSp_open {av : List S} {H : Hp} {K : S → Hp → Prop} (h : wsSp av H K) : ∃ p n xs s, av = [.va (.c1 (.pt 0 0)), tS s] ∧ H = [.cells [p, .sl 1 n] 62, .row xs 5 1] ∧ isBld p n xs ∧ (bl s).length ≤ 1000000000 ∧
    K (.tu [iA .i64 (bl s).length, .c1 (.vl .nilIface)]) [.cells [.pt 0 0, .sl 1 (n + (bl s).length)] 62, .row (xs ++ (bl s).map u8C) 5 1] := by
  unfold wsSp at h
  split at h
  · exact ⟨_, _, _, _, rfl, rfl, h.1.1, h.1.2, h.2⟩
  · exact h.elim
attribute [go_sem ↓] wsSp
theorem mWriteString : Meets Try.prog 41 wsSp := by
  refine meets_fn Try.func41 Pr.ok41 2 (by rw [Try.ntmps41]; decide) (meetsAll_s mCopyCheck (meetsAll_nil _)) (fun av H K h => by obtain ⟨_, _, _, _, rfl, _⟩ := wsSp_open h; rfl) ?_
  intro av H K h
  obtain ⟨p, n, xs, s, rfl, rfl, hp, hs, hK⟩ := wsSp_open h
  obtain ⟨hp1, rfl, hp2, hp3⟩ := hp
  rcases hp1 with rfl | rfl
  all_goals
    simp -dsimp only [go_sem, Pr.pc41, Pr.rs41] at hK ⊢
    exact ⟨⟨by simp, rfl, hp2, hp3⟩, by omega, .done hK⟩
/-- A token's text, and whether it is printed. -/
def prB (c : UInt8) : Bool := decide (32 ≤ c) && decide (c ≤ 126)
def txtK (k : Int) (x : List UInt8) (n : Int) : List UInt8 := bif k == 1 then x else bif k == 2 then decS n else bif k == 3 then quoS x else bif k == 4 then x else []
def okK (k : Int) (x : List UInt8) (n : Int) : Bool :=
  bif k == 1 then n == 0 && isNm x else bif k == 2 then x == [] else bif k == 3 then n == 0 && (decide (x.length ≤ 200) && x.all prB) else bif k == 4 then n == 0 && (match x with | [c] => isMark c.toNat | _ => false) else false
def prnSp : W.Spec := fun xs H K =>
  match xs with
  | [.va (.gs [.vl (.int .i64 k), .vl (.string x), .vl (.int .i64 n), .vl (.int .i64 _)])] => (H = [] ∧ (-9223372036854775808 ≤ n ∧ n ≤ 9223372036854775807) ∧ (bl x).length ≤ 10000000) ∧ K (.tu [tA (mk (txtK k (bl x) n)), bA (okK k (bl x) n)]) []
  | _ => False
theorem prnSp_open {xs : List S} {H : Hp} {K : S → Hp → Prop} (h : prnSp xs H K) : ∃ k x n a, xs = [.va (.gs (tkC k x n a))] ∧ H = [] ∧ (-9223372036854775808 ≤ n ∧ n ≤ 9223372036854775807) ∧ (bl x).length ≤ 10000000 ∧ K (.tu [tA (mk (txtK k (bl x) n)), bA (okK k (bl x) n)]) [] := by
  unfold prnSp at h
  split at h
  · exact ⟨_, _, _, _, rfl, h.1.1, h.1.2.1, h.1.2.2, h.2⟩
  · exact h.elim
theorem prnSp_len : ∀ xs H K, prnSp xs H K → xs.length = 1 := fun xs H K h => by obtain ⟨_, _, _, _, rfl, _⟩ := prnSp_open h; rfl
attribute [go_sem ↓] prnSp
theorem mPrinted : Meets Try.prog 38 prnSp := by
  refine meets_fn Try.func38 ok38 1 (by rw [Try.ntmps38]; decide) (meetsAll_f mIsName (meetsAll_f mDecimal (meetsAll_f mQuoted (meetsAll_f mClass (meetsAll_nil _))))) prnSp_len ?_
  intro xs H K h
  obtain ⟨k, x, n, a, rfl, rfl, hn, hx, hK⟩ := prnSp_open h
  simp -dsimp only [go_sem, pc38, rs38]
  have fin : ∀ (H' : Hp) (y : ByteArray) (b : Bool), y = mk (txtK k (bl x) n) → b = okK k (bl x) n → W.Fin 0 K (.tu [tA y, bA b]) H' := fun H' y b h1 h2 => by
    subst h1; subst h2
    exact .sel [] (by simp) (by simp) rfl (.done hK)
  refine ⟨fun h1 => fin _ _ _ (by simp [txtK, h1]) (by simp [okK, h1]), fun h1 => ⟨fun h2 => ⟨hn, fin _ _ _ (by simp [txtK, h1, h2]) (by simp [okK, h1, h2])⟩, fun h2 => ⟨fun h3 => ?_, fun h3 => ⟨fun h4 => ?_, fun h4 => fin _ _ _ (by simp [txtK, h1, h2, h3, h4]) (by simp [okK, h1, h2, h3, h4])⟩⟩⟩⟩
  · refine vc_loop (α := Nat) (fun i => [(1, .va (.c1 (.pt 0 0))), (4, bS (n == 0 && (decide ((bl x).length ≤ 200) && ((bl x).take i).all prB))), (41, iS .i64 (bl x).length), (42, iS .i64 i)]) (fun _ => [.cells (tkC k x n a) 30]) (fun i => i ≤ (bl x).length) (fun i => (bl x).length - i) 0 1 (by omega) ?_ (by simp [go_sem]) ?_
    · simp [go_sem]
      congr 1
      rw [decide_eq_decide]; omega
    intro i hi
    simp -dsimp only [go_sem]
    refine ⟨fun h5 => ⟨fun _ => by simp at h5; omega, fun c hc => ⟨fun _ => by simp at h5; omega, fun d hd => ⟨by omega, loop_next (i + 1) 1 (by simp at h5; omega) (by simp at h5; omega) ?_ (by simp [go_sem])⟩⟩⟩, fun h5 => ?_⟩
    · have hE : (n == 0 && (decide ((bl x).length ≤ 200) && (List.take i (bl x)).all prB) && decide (32 ≤ (c.toNat : Int)) && decide ((d.toNat : Int) ≤ 126)) = (n == 0 && (decide ((bl x).length ≤ 200) && (List.take (i + 1) (bl x)).all prB)) := by
        have hlt : i < (bl x).length := by simp at h5; omega
        have hg := List.getElem?_eq_getElem hlt
        rw [List.take_add_one, hg, List.all_append]
        generalize (bl x)[i] = e at hg
        simp only [Option.toList_some, List.all_cons, List.all_nil, Bool.and_true]
        have hb : ∀ p q r s : Bool, (p && (q && (r && s))) = (p && (q && r) && s) := by decide
        rw [hb]
        generalize (n == 0 && (decide ((bl x).length ≤ 200) && (List.take i (bl x)).all prB)) = g at hc hd ⊢
        cases g with
        | false => rfl
        | true =>
          obtain rfl : e = c := by have := hc rfl; rw [hg] at this; exact Option.some.inj this
          have e32 : decide (32 ≤ (e.toNat : Int)) = decide (32 ≤ e) := by rw [decide_eq_decide, UInt8.le_iff_toNat_le]; show _ ↔ 32 ≤ e.toNat; omega
          have e126 : ∀ d : UInt8, decide ((d.toNat : Int) ≤ 126) = decide (d ≤ 126) := fun d => by rw [decide_eq_decide, UInt8.le_iff_toNat_le]; show _ ↔ d.toNat ≤ 126; omega
          rw [e32] at hd ⊢
          rw [e126]
          unfold prB
          cases h6 : decide (32 ≤ e) with
          | false => rfl
          | true =>
            rw [h6] at hd
            obtain rfl : e = d := by have := hd rfl; rw [hg] at this; exact Option.some.inj this
            rfl
      rw [← hE]
      simp [go_sem]
    · obtain rfl : i = (bl x).length := by simp at h5; omega
      rw [List.take_length]
      exact ⟨hx, fin _ _ _ (by simp [txtK, h1, h2, h3]) (by simp [okK, h1, h2, h3])⟩
  · refine ⟨fun h5 => by simp at h5; omega, fun c hc => ⟨fun _ => by have := c.toNat_lt; omega, fin _ _ _ (by simp [txtK, h1, h2, h3, h4]) ?_⟩⟩
    rw [cls8]
    simp only [okK, h1, h2, h3, h4, Bool.cond_true, Bool.cond_false]
    cases h6 : n == 0 with
    | false => rfl
    | true =>
      rw [h6] at hc
      cases hb : bl x with
      | nil => rfl
      | cons d r =>
        rw [hb] at hc
        cases r with
        | nil =>
          obtain rfl : d = c := by simpa using hc
          rfl
        | cons e r =>
          have : ((((d :: e :: r).length : Nat) : Int) == 1) = false := by simp; omega
          rw [this]; rfl
end Go.Proofs.Ytgophdhegdcekaa
