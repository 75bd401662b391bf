/- Lemmas and walks for the proof. -/
import Derived.Test.YtdnohfhpbhlpaaaKac
import Derived.Test.YtdnohfhpbhlpaaaProg
/- Points: Dot, Sub, squares. -/
namespace Go.Proofs.Ytdnohfhpbhlpaaa
open Go.W
abbrev ptC (x y : Int) : List C := [.vl (.int .i64 x), .vl (.int .i64 y)]
/-- Points whose parts are at most 2^30. -/
def isPt (c : List C) : Prop := ∃ x y : Int, c = ptC x y ∧ -1073741824 ≤ x ∧ x ≤ 1073741824 ∧ -1073741824 ≤ y ∧ y ≤ 1073741824
theorem isPt_mk {x y : Int} (h1 : -1073741824 ≤ x) (h2 : x ≤ 1073741824) (h3 : -1073741824 ≤ y) (h4 : y ≤ 1073741824) : isPt (ptC x y) := ⟨x, y, rfl, h1, h2, h3, h4⟩
theorem prod_rng {a b : Int} (h1 : -1073741824 ≤ a) (h2 : a ≤ 1073741824) (h3 : -1073741824 ≤ b) (h4 : b ≤ 1073741824) : -1152921504606846976 ≤ a * b ∧ a * b ≤ 1152921504606846976 := by
  have h : (a * b).natAbs ≤ 1073741824 * 1073741824 := by
    rw [Int.natAbs_mul]
    exact Nat.mul_le_mul (by omega) (by omega)
  omega
def p2Pre : List S → Prop := fun xs => match xs with
  | [.va (.gs a), .va (.gs b)] => isPt a ∧ isPt b
  | _ => False
theorem p2Pre_open {xs : List S} (h : p2Pre xs) : ∃ a b c d : Int, xs = [.va (.gs (ptC a b)), .va (.gs (ptC c d))] ∧ (-1073741824 ≤ a ∧ a ≤ 1073741824 ∧ -1073741824 ≤ b ∧ b ≤ 1073741824) ∧ -1073741824 ≤ c ∧ c ≤ 1073741824 ∧ -1073741824 ≤ d ∧ d ≤ 1073741824 := by
  unfold p2Pre at h
  split at h
  · obtain ⟨⟨a, b, rfl, h1⟩, c, d, rfl, h2⟩ := h
    exact ⟨a, b, c, d, rfl, h1, h2⟩
  · exact h.elim
def doVal : List S → A := fun xs => match xs with
  | [.va (.gs a), .va (.gs b)] => .c1 (.vl (.int .i64 (C.gi a[0]? * C.gi b[0]? + C.gi a[1]? * C.gi b[1]?)))
  | _ => .gs []
def doFn : Fun := ⟨p2Pre, doVal, fun xs h => by obtain ⟨a, b, c, d, rfl, _⟩ := p2Pre_open h; trivial⟩
theorem doFn_len : ∀ xs H K, doFn.sp xs H K → xs.length = 2 := fun xs H K h => by obtain ⟨a, b, c, d, rfl, _⟩ := p2Pre_open h.1.1; rfl
theorem mDot : Meets Try.prog 52 doFn.sp := by
  refine meets_fn Try.func52 ok52 2 (by rw [Try.ntmps52]; decide) (meetsAll_nil _) doFn_len ?_
  rintro xs H K ⟨⟨h, rfl⟩, hK⟩
  obtain ⟨a, b, c, d, rfl, ⟨h1, h2, h3, h4⟩, h5, h6, h7, h8⟩ := p2Pre_open h
  have hK' : K (iS .i64 (a * c + b * d)) [] := hK
  have r1 := prod_rng h1 h2 h5 h6
  have r2 := prod_rng h3 h4 h7 h8
  simp -dsimp only [go_sem, pc52, rs52]
  exact ⟨by omega, by omega, by omega, .sel [] (by simp) (by simp) rfl (.done hK')⟩
def sqVal : List S → A := fun xs => match xs with
  | [.va (.gs a)] => .c1 (.vl (.int .i64 (C.gi a[0]? * C.gi a[0]? + C.gi a[1]? * C.gi a[1]?)))
  | _ => .gs []
def p1Pre : List S → Prop := fun xs => match xs with
  | [.va (.gs a)] => isPt a
  | _ => False
theorem p1Pre_open {xs : List S} (h : p1Pre xs) : ∃ a b : Int, xs = [.va (.gs (ptC a b))] ∧ -1073741824 ≤ a ∧ a ≤ 1073741824 ∧ -1073741824 ≤ b ∧ b ≤ 1073741824 := by
  unfold p1Pre at h
  split at h
  · obtain ⟨a, b, rfl, h1⟩ := h
    exact ⟨a, b, rfl, h1⟩
  · exact h.elim
def sqFn : Fun := ⟨p1Pre, sqVal, fun xs h => by obtain ⟨a, b, rfl, _⟩ := p1Pre_open h; trivial⟩
theorem sqFn_len : ∀ xs H K, sqFn.sp xs H K → xs.length = 1 := fun xs H K h => by obtain ⟨a, b, rfl, _⟩ := p1Pre_open h.1.1; rfl
theorem mFSquare : Meets Try.prog 54 sqFn.sp := by
  refine meets_fn Try.func54 ok54 1 (by rw [Try.ntmps54]; decide) (meetsAll_nil _) sqFn_len ?_
  rintro xs H K ⟨⟨h, rfl⟩, hK⟩
  obtain ⟨a, b, rfl, h1, h2, h3, h4⟩ := p1Pre_open h
  have hK' : K (iS .i64 (a * a + b * b)) [] := hK
  have r1 := prod_rng h1 h2 h1 h2
  have r2 := prod_rng h3 h4 h3 h4
  simp -dsimp only [go_sem, pc54, rs54]
  exact ⟨by omega, by omega, by omega, .sel [] (by simp) (by simp) rfl (.done hK')⟩
theorem mSquare : Meets Try.prog 32 sqFn.sp := by
  refine meets_fn Try.func32 ok32 1 (by rw [Try.ntmps32]; decide) (meetsAll_f mDot (meetsAll_nil _)) sqFn_len ?_
  rintro xs H K ⟨⟨h, rfl⟩, hK⟩
  obtain ⟨a, b, rfl, h1, h2, h3, h4⟩ := p1Pre_open h
  have hK' : K (iS .i64 (a * a + b * b)) [] := hK
  have g := isPt_mk h1 h2 h3 h4
  simp -dsimp only [go_sem, pc32, rs32, doFn, p2Pre, g]
  exact .sel [] (by simp) (by simp) rfl (.done hK')
end Go.Proofs.Ytdnohfhpbhlpaaa
/- Root: bit by bit. (in work) -/
namespace Go.Proofs.Ytdnohfhpbhlpaaa
open Go.W
def rtGo (n : Int) : Nat → Nat → Nat
  | 0, r => r
  | k + 1, r => bif decide (((r ||| 2 ^ k : Nat) : Int) * ((r ||| 2 ^ k : Nat) : Int) ≤ n) then rtGo n k (r ||| 2 ^ k) else rtGo n k r
def rtF (n : Int) : Int := bif decide (n ≤ 0) then 0 else (rtGo n 32 0 : Nat)
theorem u64_wrap {m : Int} (h0 : 0 ≤ m) (h1 : m < 18446744073709551616) : IntKind.u64.wrap m = m := by
  have hb : (2 : Int) ^ IntKind.u64.bits = 18446744073709551616 := by rfl
  have hs : IntKind.u64.signed = false := rfl
  unfold IntKind.wrap
  rw [hb, hs, Int.emod_eq_of_lt h0 h1]; simp
theorem i64_wrap {m : Int} (h0 : 0 ≤ m) (h1 : m < 9223372036854775808) : IntKind.i64.wrap m = m := by
  have hb : (2 : Int) ^ IntKind.i64.bits = 18446744073709551616 := by rfl
  have hc : (2 : Int) ^ (IntKind.i64.bits - 1) = 9223372036854775808 := by rfl
  unfold IntKind.wrap
  rw [hb, hc, Int.emod_eq_of_lt h0 (by omega)]
  simp; omega
theorem or_wrap {r k : Nat} (hr : r < 4294967296) (hk : k < 32) : IntKind.u64.wrap ((BitVec.ofInt IntKind.u64.bits (r : Int) ||| BitVec.ofInt IntKind.u64.bits ((2 ^ (k + 1) / 2 : Nat) : Int)).toNat : Int) = ((r ||| 2 ^ k : Nat) : Int) := by
  have h2 : 2 ^ (k + 1) / 2 = 2 ^ k := by rw [Nat.pow_succ]; omega
  have h3 : 2 ^ k ≤ 2 ^ 31 := Nat.pow_le_pow_right (by decide) (by omega)
  have h4 : r ||| 2 ^ k < 2 ^ 32 := Nat.or_lt_two_pow (by omega) (by omega)
  have hb : IntKind.u64.bits = 64 := rfl
  rw [h2, hb, BitVec.toNat_or, BitVec.ofInt_natCast, BitVec.ofInt_natCast, BitVec.toNat_ofNat, BitVec.toNat_ofNat, Nat.mod_eq_of_lt (by omega), Nat.mod_eq_of_lt (by omega)]
  exact u64_wrap (by omega) (by omega)
def rtPre : List S → Prop := fun xs => match xs with
  | [.va (.c1 (.vl (.int .i64 n)))] => n ≤ 9223372036854775807
  | _ => False
theorem rtPre_open {xs : List S} (h : rtPre xs) : ∃ n : Int, xs = [iS .i64 n] ∧ n ≤ 9223372036854775807 := by
  unfold rtPre at h
  split at h
  · exact ⟨_, rfl, h⟩
  · exact h.elim
def rtFn : Fun := ⟨rtPre, i1Val fun n => .int .i64 (rtF n), fun xs h => by obtain ⟨n, rfl, _⟩ := rtPre_open h; trivial⟩
theorem rtFn_len : ∀ xs H K, rtFn.sp xs H K → xs.length = 1 := fun xs H K h => by obtain ⟨n, rfl, _⟩ := rtPre_open h.1.1; rfl
set_option maxHeartbeats 1000000 in
theorem mRoot : Meets Try.prog 53 rtFn.sp := by
  refine meets_fn Try.func53 ok53 1 (by rw [Try.ntmps53]; decide) (meetsAll_nil _) rtFn_len ?_
  rintro xs H K ⟨⟨h, rfl⟩, hK⟩
  obtain ⟨n, rfl, hn⟩ := rtPre_open h
  have hK' : K (iS .i64 (rtF n)) [] := hK
  clear hK h
  unfold rtF at hK'
  cases g1 : decide (n ≤ 0) with
  | true =>
    rw [g1] at hK'
    simp -dsimp only [go_sem, pc53, rs53, g1]
    exact .done hK'
  | false =>
    rw [g1, Bool.cond_false] at hK'
    have hn0 : 0 < n := by simpa using g1
    have wn : IntKind.u64.wrap n = n := u64_wrap (by omega) (by omega)
    simp -dsimp only [go_sem, pc53, rs53, g1]
    generalize hR : rtGo n 32 0 = R at hK'
    refine vc_loop (α := Nat × Nat) (fun z => [(0, iS .i64 n), (3, iS .u64 z.2), (4, iS .u64 ((2 ^ z.1 / 2 : Nat) : Int))]) (fun _ => [])
      (fun z => (z.1 ≤ 32 ∧ z.2 < 4294967296) ∧ rtGo n z.1 z.2 = R) (fun z => z.1) (32, 0) 0 ⟨⟨Nat.le_refl _, by decide⟩, hR⟩ ?_ ?_ ?_
    · simp [go_sem]
    · simp [go_sem]
    rintro ⟨k, r⟩ ⟨⟨hk, hr⟩, hgo⟩
    simp only at hk hr hgo
    cases k with
    | zero =>
      simp only [rtGo] at hgo
      have wr : IntKind.i64.wrap (r : Int) = r := i64_wrap (by omega) (by omega)
      have g0 : decide (0 < ((2 ^ 0 / 2 : Nat) : Int)) = false := rfl
      subst hgo
      simp -dsimp only [go_sem, g0, wr]
      exact .done hK'
    | succ k =>
      simp only [rtGo] at hgo
      have ho := or_wrap hr (by omega : k < 32)
      have hp : 0 < 2 ^ k := Nat.pow_pos (by decide)
      have h2 : 2 ^ (k + 1) / 2 = 2 ^ k := by rw [Nat.pow_succ]; omega
      have h3 : 2 ^ k ≤ 2 ^ 31 := Nat.pow_le_pow_right (by decide) (by omega)
      have h4 : r ||| 2 ^ k < 2 ^ 32 := Nat.or_lt_two_pow (by omega) (by omega)
      have g0 : decide (0 < ((2 ^ (k + 1) / 2 : Nat) : Int)) = true := decide_eq_true (by rw [h2]; exact Int.natCast_pos.2 hp)
      have hm : ((r ||| 2 ^ k : Nat) : Int) * ((r ||| 2 ^ k : Nat) : Int) ≤ 4294967295 * 4294967295 := Int.mul_le_mul (by omega) (by omega) (by omega) (by omega)
      have hm0 : 0 ≤ ((r ||| 2 ^ k : Nat) : Int) * ((r ||| 2 ^ k : Nat) : Int) := Int.mul_nonneg (by omega) (by omega)
      have hsh : ((2 ^ (k + 1) / 2 : Nat) : Int).fdiv (2 ^ 1) = ((2 ^ k / 2 : Nat) : Int) := by rw [h2, Int.fdiv_eq_ediv_of_nonneg _ (by omega)]; omega
      clear h3
      generalize r ||| 2 ^ k = m at *
      cases hc : decide ((m : Int) * (m : Int) ≤ n) with
      | true =>
        rw [hc] at hgo
        simp -dsimp only [go_sem, g0, ho, wn, hc]
        rw [Bool.cond_true] at hgo
        refine ⟨by omega, by decide, loop_next (k, m) 0 ⟨⟨by simp only; omega, by simp only; omega⟩, hgo⟩ (by simp only; omega) ?_ ?_⟩
        · simp [go_sem]; simpa using hsh
        · simp [go_sem]
      | false =>
        rw [hc] at hgo
        simp -dsimp only [go_sem, g0, ho, wn, hc]
        rw [Bool.cond_false] at hgo
        refine ⟨by omega, by decide, loop_next (k, r) 0 ⟨⟨by simp only; omega, by simp only; omega⟩, hgo⟩ (by simp only; omega) ?_ ?_⟩
        · simp [go_sem]; simpa using hsh
        · simp [go_sem]
end Go.Proofs.Ytdnohfhpbhlpaaa
/- Length, Sub, Terminal. -/
namespace Go.Proofs.Ytdnohfhpbhlpaaa
open Go.W
def lnF (a b : Int) : Int := rtF (a * a + b * b)
def lnVal : List S → A := fun xs => match xs with
  | [.va (.gs a)] => .c1 (.vl (.int .i64 (lnF (C.gi a[0]?) (C.gi a[1]?))))
  | _ => .gs []
def lnFn : Fun := ⟨p1Pre, lnVal, fun xs h => by obtain ⟨a, b, rfl, _⟩ := p1Pre_open h; trivial⟩
theorem lnFn_len : ∀ xs H K, lnFn.sp xs H K → xs.length = 1 := fun xs H K h => by obtain ⟨a, b, rfl, _⟩ := p1Pre_open h.1.1; rfl
attribute [go_sem ↓] rtPre
theorem mLength : Meets Try.prog 33 lnFn.sp := by
  refine meets_fn Try.func33 ok33 1 (by rw [Try.ntmps33]; decide) (meetsAll_f mRoot (meetsAll_f mFSquare (meetsAll_nil _))) lnFn_len ?_
  rintro xs H K ⟨⟨h, rfl⟩, hK⟩
  obtain ⟨a, b, rfl, h1, h2, h3, h4⟩ := p1Pre_open h
  have hK' : K (iS .i64 (lnF a b)) [] := hK
  have g := isPt_mk h1 h2 h3 h4
  have r1 := prod_rng h1 h2 h1 h2
  have r2 := prod_rng h3 h4 h3 h4
  have hv : sqVal [.va (.gs (ptC a b))] = .c1 (.vl (.int .i64 (a * a + b * b))) := rfl
  simp -dsimp only [go_sem, pc33, rs33, rtFn, sqFn, p1Pre, g, hv]
  refine ⟨by omega, .sel [] (by simp) (by simp) rfl (.done hK')⟩
def suVal : List S → A := fun xs => match xs with
  | [.va (.gs a), .va (.gs b)] => .gs (ptC (C.gi a[0]? - C.gi b[0]?) (C.gi a[1]? - C.gi b[1]?))
  | _ => .gs []
theorem suVal_eq (a b c d : Int) : suVal [.va (.gs (ptC a b)), .va (.gs (ptC c d))] = .gs (ptC (a - c) (b - d)) := rfl
def suFn : Fun := ⟨p2Pre, suVal, fun xs h => by
  obtain ⟨a, b, c, d, rfl, _⟩ := p2Pre_open h
  rw [suVal_eq]
  intro c hc
  simp only [List.mem_cons, List.not_mem_nil, or_false] at hc
  rcases hc with rfl | rfl <;> exact ⟨_, rfl⟩⟩
theorem suFn_len : ∀ xs H K, suFn.sp xs H K → xs.length = 2 := fun xs H K h => by obtain ⟨a, b, c, d, rfl, _⟩ := p2Pre_open h.1.1; rfl
theorem mSub : Meets Try.prog 34 suFn.sp := by
  refine meets_fn Try.func34 ok34 2 (by rw [Try.ntmps34]; decide) (meetsAll_nil _) suFn_len ?_
  rintro xs H K ⟨⟨h, rfl⟩, hK⟩
  obtain ⟨a, b, c, d, rfl, ⟨h1, h2, h3, h4⟩, h5, h6, h7, h8⟩ := p2Pre_open h
  have hK' : K (.va (.gs (ptC (a - c) (b - d)))) [] := hK
  simp -dsimp only [go_sem, pc34, rs34]
  exact ⟨by omega, by omega, .sel [] (by simp) (by simp) rfl (.done hK')⟩
def teF (n : Int) : Bool := decide (4 ≤ n) && decide (n ≤ 7)
theorem mTerminal : Meets Try.prog 37 (i1Fn fun n => .bool (teF n)).sp := by
  refine meets_fn Try.func37 ok37 1 (by rw [Try.ntmps37]; decide) (meetsAll_nil _) i1Fn_len ?_
  rintro xs H K ⟨⟨h, rfl⟩, hK⟩
  obtain ⟨n, rfl⟩ := i1Pre_open h
  have hK' : K (.va (.c1 (.vl (.bool (teF n))))) [] := hK
  unfold teF at hK'
  simp -dsimp only [go_sem, pc37, rs37]
  exact .done hK'
end Go.Proofs.Ytdnohfhpbhlpaaa
/- Speeds: the plain function (the walk is still to be written). -/
namespace Go.Proofs.Ytdnohfhpbhlpaaa
open Go.W
theorem rtGo_sq (n : Int) : ∀ k r : Nat, (r : Int) * r ≤ n → ((rtGo n k r : Nat) : Int) * (rtGo n k r : Nat) ≤ n
  | 0, _, h => h
  | k + 1, r, h => by
    simp only [rtGo]
    by_cases hc : (((r ||| 2 ^ k : Nat) : Int) * ((r ||| 2 ^ k : Nat) : Int) ≤ n)
    · rw [decide_eq_true hc, Bool.cond_true]; exact rtGo_sq n k _ hc
    · rw [decide_eq_false hc, Bool.cond_false]; exact rtGo_sq n k r h
theorem rtF_rng {n : Int} (h : n ≤ 70368744177664) : 0 ≤ rtF n ∧ rtF n ≤ 8388608 := by
  unfold rtF
  cases hn : decide (n ≤ 0) with
  | true => simp
  | false =>
    have hn' : 0 < n := by simpa using hn
    rw [Bool.cond_false]
    have := rtGo_sq n 32 0 (by simp; omega)
    generalize rtGo n 32 0 = r at *
    refine ⟨by omega, ?_⟩
    rcases Nat.lt_or_ge 8388608 r with hr | hr
    · have h2 : (8388609 : Int) * 8388609 ≤ r * r := Int.mul_le_mul (by omega) (by omega) (by omega) (by omega)
      omega
    · omega
structure Mo where
  px : Int
  py : Int
  vx : Int
  vy : Int
abbrev moC (m : Mo) : List C := [.vl (.int .i64 m.px), .vl (.int .i64 m.py), .vl (.int .i64 m.vx), .vl (.int .i64 m.vy)]
def Mo.ok (m : Mo) : Prop := -1048576 ≤ m.vx ∧ m.vx ≤ 1048576 ∧ -1048576 ≤ m.vy ∧ m.vy ≤ 1048576
structure Lim where
  sp : Int
  ac : Int
  br : Int
  hu : Int
  ma : Int
abbrev liC (l : Lim) : List C := [.vl (.int .i64 l.sp), .vl (.int .i64 l.ac), .vl (.int .i64 l.br), .vl (.int .i64 l.hu), .vl (.int .i64 l.ma)]
def Lim.ok (l : Lim) : Prop := (-1048576 ≤ l.sp ∧ l.sp ≤ 1048576) ∧ (-1048576 ≤ l.ac ∧ l.ac ≤ 1048576) ∧ -1048576 ≤ l.br ∧ l.br ≤ 1048576
def spA (l : Lim) (k : Nat) (x : Mo) : List Fnd := bif decide (l.sp * l.sp < x.vx * x.vx + x.vy * x.vy) then [⟨0, 7, k, k, 0⟩] else []
def spW (l : Lim) (p : Mo) : Int := max 0 (lnF p.vx p.vy - l.br)
def spB (l : Lim) (k : Nat) (p x : Mo) : List Fnd :=
  bif decide (l.ac * l.ac < (x.vx - p.vx) * (x.vx - p.vx) + (x.vy - p.vy) * (x.vy - p.vy)) && decide (spW l p * spW l p < x.vx * x.vx + x.vy * x.vy) then [⟨0, 8, k, k, 0⟩] else []
def spS (l : Lim) (ms : List Mo) (k : Nat) (x : Mo) (out : List Fnd) : List Fnd :=
  bif k == 0 then out ++ spA l k x else match ms[k - 1]? with
    | some p => (out ++ spA l k x) ++ spB l k p x
    | none => out ++ spA l k x
def spGo (l : Lim) (ms : List Mo) : Nat → Nat → List Fnd → List Fnd
  | 0, _, out => out
  | n + 1, k, out => match ms[k]? with
    | some x => spGo l ms n (k + 1) (spS l ms k x out)
    | none => out
def speedF (l : Lim) (ms : List Mo) : List Fnd := spGo l ms ms.length 0 []
end Go.Proofs.Ytdnohfhpbhlpaaa
/- Speeds: the walk. (in work) -/
namespace Go.Proofs.Ytdnohfhpbhlpaaa
open Go.W
def C.mo (r : List C) : Mo := ⟨C.gi r[0]?, C.gi r[1]?, C.gi r[2]?, C.gi r[3]?⟩
def C.li (r : List C) : Lim := ⟨C.gi r[0]?, C.gi r[1]?, C.gi r[2]?, C.gi r[3]?, C.gi r[4]?⟩
@[go_sem] theorem mo_map (l : List Mo) : (l.map moC).map C.mo = l := by
  rw [List.map_map, show (C.mo ∘ moC) = id from funext fun e => rfl, List.map_id]
def isMos (rs : List (List C)) : Prop := ∃ ms : List Mo, rs = ms.map moC ∧ ms.length ≤ 60 ∧ ∀ m ∈ ms, m.ok
def isLim (c : List C) : Prop := ∃ l : Lim, c = liC l ∧ l.ok
def spdSp : W.Spec := fun av H K =>
  match av, H with
  | [.va (.c1 (.fz rs)), .va (.gs lc)], [] => (isMos rs ∧ isLim lc) ∧ K (.va (.c1 (.fz ((speedF (C.li lc) (rs.map C.mo)).map fdC)))) []
  | _, _ => False
theorem spdSp_open {av : List S} {H : Hp} {K : S → Hp → Prop} (h : spdSp av H K) : ∃ (ms : List Mo) (l : Lim), av = [.va (.c1 (.fz (ms.map moC))), .va (.gs (liC l))] ∧ H = [] ∧ ms.length ≤ 60 ∧ (∀ m ∈ ms, m.ok) ∧ l.ok ∧ K (.va (.c1 (.fz ((speedF l ms).map fdC)))) [] := by
  unfold spdSp at h
  split at h
  · obtain ⟨⟨⟨ms, rfl, h1, h2⟩, l, rfl, h3⟩, hK⟩ := h
    rw [mo_map] at hK
    exact ⟨ms, l, rfl, rfl, h1, h2, h3, hK⟩
  · exact h.elim
attribute [go_sem ↓] spdSp
theorem spS_len (l : Lim) (ms : List Mo) (k : Nat) (x : Mo) (out : List Fnd) : (spS l ms k x out).length ≤ out.length + 2 := by
  have h1 : (spA l k x).length ≤ 1 := by unfold spA; cases decide (l.sp * l.sp < x.vx * x.vx + x.vy * x.vy) <;> simp
  have h2 : ∀ p, (spB l k p x).length ≤ 1 := fun p => by
    unfold spB
    cases decide (l.ac * l.ac < (x.vx - p.vx) * (x.vx - p.vx) + (x.vy - p.vy) * (x.vy - p.vy)) && decide (spW l p * spW l p < x.vx * x.vx + x.vy * x.vy) <;> simp
  unfold spS
  cases k == 0 with
  | true => simp only [Bool.cond_true, List.length_append]; omega
  | false =>
    rw [Bool.cond_false]
    split
    · rename_i p _
      have := h2 p
      simp only [List.length_append]; omega
    · simp only [List.length_append]; omega
end Go.Proofs.Ytdnohfhpbhlpaaa
/- Speeds: the walk itself. -/
namespace Go.Proofs.Ytdnohfhpbhlpaaa
open Go.W
set_option maxHeartbeats 4000000 in
set_option maxRecDepth 100000 in
theorem mSpeeds : Meets Try.prog 16 spdSp := by
  refine meets_fn Try.func16 ok16 2 (by rw [Try.ntmps16]; decide) (meetsAll_f mSquare (meetsAll_f mLength (meetsAll_f mSub (meetsAll_nil _)))) (fun av H K h => by obtain ⟨_, _, rfl, _⟩ := spdSp_open h; rfl) ?_
  intro av H K h
  obtain ⟨ms, l, rfl, rfl, hml, hmo, ⟨⟨l1, l2⟩, ⟨l3, l4⟩, l5, l6⟩, hK⟩ := spdSp_open h
  clear h
  simp -dsimp only [go_sem, pc16, rs16]
  refine vc_loop_gh (α := Nat × List Fnd) (fun z => [(0, .va (.c1 (.fz (ms.map moC)))), (3, .va (.c1 (.pt 0 0))), (5, .va (.c1 (.sl 1 z.2.length))), (9, .va (.c1 (.fz (ms.map moC)))), (10, iS .i64 ms.length), (11, iS .i64 z.1)])
    (fun z => [.cells (liC l) 45, .row (z.2.map fdC) 41 4])
    (fun z => (z.1 ≤ ms.length ∧ z.2.length ≤ z.1 * 2) ∧ spGo l ms (ms.length - z.1) z.1 z.2 = speedF l ms) (fun z => ms.length - z.1)
    (.nil 5 41 4 rfl (gh_at (0, []) 2 ⟨⟨Nat.zero_le _, Nat.zero_le _⟩, rfl⟩ ?_ ?_)) ?_
  · simp [go_sem]
  · simp [go_sem]
  rintro ⟨k, out⟩ ⟨⟨hk, hol⟩, hgo⟩
  simp only at hk hol hgo
  rcases Nat.lt_or_ge k ms.length with hlt | hge
  · obtain ⟨x, hx⟩ : ∃ x, ms[k]? = some x := ⟨_, List.getElem?_eq_getElem hlt⟩
    obtain ⟨x1, x2, x3, x4⟩ := hmo x (List.mem_of_getElem? hx)
    have q1 := row_rg (row := moC) hx
    have q2 := row_rg' (row := moC) hx
    have hg : decide ((k : Int) < (ms.length : Int)) = true := by simp; omega
    have gx : isPt (ptC x.vx x.vy) := isPt_mk (by omega) (by omega) (by omega) (by omega)
    have hv1 : sqVal [.va (.gs (ptC x.vx x.vy))] = .c1 (.vl (.int .i64 (x.vx * x.vx + x.vy * x.vy))) := rfl
    have pr1 := prod_rng (a := l.sp) (b := l.sp) (by omega) (by omega) (by omega) (by omega)
    have pr2 := prod_rng (a := l.ac) (b := l.ac) (by omega) (by omega) (by omega) (by omega)
    have hs1 : ms.length - k = (ms.length - (k + 1)) + 1 := by omega
    rw [hs1] at hgo
    simp only [spGo, hx] at hgo
    have hsl := spS_len l ms k x out
    cases hkz : (k : Int) == 0 with
    | true =>
      have hk0 : (k == 0) = true := by simp at hkz ⊢; omega
      cases hA : decide (l.sp * l.sp < x.vx * x.vx + x.vy * x.vy) with
      | true =>
        have hst : spS l ms k x out = out ++ [⟨0, 7, k, k, 0⟩] := by unfold spS spA; rw [hk0, hA]; simp
        simp -dsimp only [go_sem, hg, ↓q2, sqFn, p1Pre, gx, hv1, hA, hkz]
        and_intros
        all_goals first
          | omega
          | (simp only [List.length_cons, List.length_nil]; omega)
          | skip
        refine loop_next (k + 1, spS l ms k x out) 2 ⟨⟨by simp only; omega, by simp only; omega⟩, hgo⟩ (by simp only; omega) ?_ ?_
        · simp [go_sem, hst]
        · simp [go_sem, hst]
      | false =>
        have hst : spS l ms k x out = out := by unfold spS spA; rw [hk0, hA]; simp
        simp -dsimp only [go_sem, hg, ↓q2, sqFn, p1Pre, gx, hv1, hA, hkz]
        and_intros
        all_goals first
          | omega
          | (simp only [List.length_cons, List.length_nil]; omega)
          | skip
        refine loop_next (k + 1, spS l ms k x out) 2 ⟨⟨by simp only; omega, by simp only; omega⟩, hgo⟩ (by simp only; omega) ?_ ?_
        · simp [go_sem, hst]
        · simp [go_sem, hst]
    | false =>
      have hk0 : (k == 0) = false := by simp at hkz ⊢; omega
      have hkp : 0 < k := by simp at hkz; omega
      obtain ⟨p, hp⟩ : ∃ p, ms[k - 1]? = some p := ⟨_, List.getElem?_eq_getElem (by omega)⟩
      obtain ⟨y1, y2, y3, y4⟩ := hmo p (List.mem_of_getElem? hp)
      have q3 := row_rg (row := moC) hp
      have q4 : ∀ f : List C → Prop, (∀ r, (ms.map moC)[((k : Int) - 1).toNat]? = some r → f r) = f (moC p) := by
        rw [show ((k : Int) - 1).toNat = k - 1 by omega]; exact q3
      have gp : isPt (ptC p.vx p.vy) := isPt_mk (by omega) (by omega) (by omega) (by omega)
      have gd : isPt (ptC (x.vx - p.vx) (x.vy - p.vy)) := isPt_mk (by omega) (by omega) (by omega) (by omega)
      have hv2 : lnVal [.va (.gs (ptC p.vx p.vy))] = .c1 (.vl (.int .i64 (lnF p.vx p.vy))) := rfl
      have hv3 : suVal [.va (.gs (ptC x.vx x.vy)), .va (.gs (ptC p.vx p.vy))] = .gs (ptC (x.vx - p.vx) (x.vy - p.vy)) := rfl
      have hv4 : sqVal [.va (.gs (ptC (x.vx - p.vx) (x.vy - p.vy)))] = .c1 (.vl (.int .i64 ((x.vx - p.vx) * (x.vx - p.vx) + (x.vy - p.vy) * (x.vy - p.vy)))) := rfl
      have hln : 0 ≤ lnF p.vx p.vy ∧ lnF p.vx p.vy ≤ 8388608 := rtF_rng (by
        have h1 : (p.vx * p.vx).natAbs ≤ 1048576 * 1048576 := by rw [Int.natAbs_mul]; exact Nat.mul_le_mul (by omega) (by omega)
        have h2 : (p.vy * p.vy).natAbs ≤ 1048576 * 1048576 := by rw [Int.natAbs_mul]; exact Nat.mul_le_mul (by omega) (by omega)
        omega)
      generalize hL : lnF p.vx p.vy = L at hln hv2
      have hwd : spW l p = max 0 (L - l.br) := by unfold spW; rw [hL]
      generalize hW : max 0 (L - l.br) = W at hwd
      have hWr : 0 ≤ W ∧ W ≤ 16777216 := by omega
      have pr3 := prod_rng (a := W) (b := W) (by omega) (by omega) (by omega) (by omega)
      have hspB : spB l k p x = bif decide (l.ac * l.ac < (x.vx - p.vx) * (x.vx - p.vx) + (x.vy - p.vy) * (x.vy - p.vy)) && decide (W * W < x.vx * x.vx + x.vy * x.vy) then [⟨0, 8, k, k, 0⟩] else [] := by unfold spB; rw [hwd]
      cases hA : decide (l.sp * l.sp < x.vx * x.vx + x.vy * x.vy) with
      | true =>
        cases hB : decide (l.ac * l.ac < (x.vx - p.vx) * (x.vx - p.vx) + (x.vy - p.vy) * (x.vy - p.vy)) with
        | true =>
          cases hC : decide (W * W < x.vx * x.vx + x.vy * x.vy) with
          | true =>
            have hst : spS l ms k x out = out ++ [⟨0, 7, k, k, 0⟩] ++ [⟨0, 8, k, k, 0⟩] := by unfold spS spA; rw [hk0, hp]; simp only [hspB, hA, hB, hC]; simp
            simp -dsimp only [go_sem, hg, ↓q2, sqFn, p1Pre, gx, hv1, ↓q4, lnFn, suFn, p2Pre, gp, gd, hv2, hv3, hv4, hW, hkz, hA, hB, hC]
            and_intros
            all_goals first
              | omega
              | (simp only [List.length_cons, List.length_nil]; omega)
              | skip
            refine loop_next (k + 1, spS l ms k x out) 2 ⟨⟨by simp only; omega, by simp only; omega⟩, hgo⟩ (by simp only; omega) ?_ ?_
            · simp [go_sem, hst, Nat.add_assoc]
            · simp [go_sem, hst]
          | false =>
            have hst : spS l ms k x out = out ++ [⟨0, 7, k, k, 0⟩] := by unfold spS spA; rw [hk0, hp]; simp only [hspB, hA, hB, hC]; simp
            simp -dsimp only [go_sem, hg, ↓q2, sqFn, p1Pre, gx, hv1, ↓q4, lnFn, suFn, p2Pre, gp, gd, hv2, hv3, hv4, hW, hkz, hA, hB, hC]
            and_intros
            all_goals first
              | omega
              | (simp only [List.length_cons, List.length_nil]; omega)
              | skip
            refine loop_next (k + 1, spS l ms k x out) 2 ⟨⟨by simp only; omega, by simp only; omega⟩, hgo⟩ (by simp only; omega) ?_ ?_
            · simp [go_sem, hst]
            · simp [go_sem, hst]
        | false =>
          have hst : spS l ms k x out = out ++ [⟨0, 7, k, k, 0⟩] := by unfold spS spA; rw [hk0, hp]; simp only [hspB, hA, hB]; simp
          simp -dsimp only [go_sem, hg, ↓q2, sqFn, p1Pre, gx, hv1, ↓q4, lnFn, suFn, p2Pre, gp, gd, hv2, hv3, hv4, hW, hkz, hA, hB]
          and_intros
          all_goals first
            | omega
            | (simp only [List.length_cons, List.length_nil]; omega)
            | skip
          refine loop_next (k + 1, spS l ms k x out) 2 ⟨⟨by simp only; omega, by simp only; omega⟩, hgo⟩ (by simp only; omega) ?_ ?_
          · simp [go_sem, hst]
          · simp [go_sem, hst]
      | false =>
        cases hB : decide (l.ac * l.ac < (x.vx - p.vx) * (x.vx - p.vx) + (x.vy - p.vy) * (x.vy - p.vy)) with
        | true =>
          cases hC : decide (W * W < x.vx * x.vx + x.vy * x.vy) with
          | true =>
            have hst : spS l ms k x out = out ++ [⟨0, 8, k, k, 0⟩] := by unfold spS spA; rw [hk0, hp]; simp only [hspB, hA, hB, hC]; simp
            simp -dsimp only [go_sem, hg, ↓q2, sqFn, p1Pre, gx, hv1, ↓q4, lnFn, suFn, p2Pre, gp, gd, hv2, hv3, hv4, hW, hkz, hA, hB, hC]
            and_intros
            all_goals first
              | omega
              | (simp only [List.length_cons, List.length_nil]; omega)
              | skip
            refine loop_next (k + 1, spS l ms k x out) 2 ⟨⟨by simp only; omega, by simp only; omega⟩, hgo⟩ (by simp only; omega) ?_ ?_
            · simp [go_sem, hst]
            · simp [go_sem, hst]
          | false =>
            have hst : spS l ms k x out = out := by unfold spS spA; rw [hk0, hp]; simp only [hspB, hA, hB, hC]; simp
            simp -dsimp only [go_sem, hg, ↓q2, sqFn, p1Pre, gx, hv1, ↓q4, lnFn, suFn, p2Pre, gp, gd, hv2, hv3, hv4, hW, hkz, hA, hB, hC]
            and_intros
            all_goals first
              | omega
              | (simp only [List.length_cons, List.length_nil]; omega)
              | skip
            refine loop_next (k + 1, spS l ms k x out) 2 ⟨⟨by simp only; omega, by simp only; omega⟩, hgo⟩ (by simp only; omega) ?_ ?_
            · simp [go_sem, hst]
            · simp [go_sem, hst]
        | false =>
          have hst : spS l ms k x out = out := by unfold spS spA; rw [hk0, hp]; simp only [hspB, hA, hB]; simp
          simp -dsimp only [go_sem, hg, ↓q2, sqFn, p1Pre, gx, hv1, ↓q4, lnFn, suFn, p2Pre, gp, gd, hv2, hv3, hv4, hW, hkz, hA, hB]
          and_intros
          all_goals first
            | omega
            | (simp only [List.length_cons, List.length_nil]; omega)
            | skip
          refine loop_next (k + 1, spS l ms k x out) 2 ⟨⟨by simp only; omega, by simp only; omega⟩, hgo⟩ (by simp only; omega) ?_ ?_
          · simp [go_sem, hst]
          · simp [go_sem, hst]
  · have hg : decide ((k : Int) < (ms.length : Int)) = false := by simp; omega
    have hz : ms.length - k = 0 := by omega
    rw [hz] at hgo
    simp only [spGo] at hgo
    subst hgo
    simp -dsimp only [go_sem, hg]
    refine .pub 1 _ _ _ rfl (.sel [] (by simp) (by simp [pubH]) rfl (.done ?_))
    simpa [go_sem, pubH] using hK
end Go.Proofs.Ytdnohfhpbhlpaaa
/- Goals: the search among goals. -/
namespace Go.Proofs.Ytdnohfhpbhlpaaa
open Go.W
structure Gl where
  c : Int
  n : Int
  st : Int
  at' : Int
  en : Int
  rq : ByteArray
  rs : ByteArray
abbrev glC (g : Gl) : List C := [.vl (.int .i64 g.c), .vl (.int .i64 g.n), .vl (.int .i64 g.st), .vl (.int .i64 g.at'), .vl (.int .i64 g.en), .vl (.string g.rq), .vl (.string g.rs)]
def C.gl (r : List C) : Gl := ⟨C.gi r[0]?, C.gi r[1]?, C.gi r[2]?, C.gi r[3]?, C.gi r[4]?, C.gs' r[5]?, C.gs' r[6]?⟩
@[go_sem] theorem gl_map (l : List Gl) : (l.map glC).map C.gl = l := by
  rw [List.map_map, show (C.gl ∘ glC) = id from funext fun e => rfl, List.map_id]
abbrev cgV : S := .va (.c1 (.fn 39 [(false, [.pt 0 0])]))
def eqG (x y : Gl) : Bool := x.c == y.c && x.n == y.n
def hasG (l : List Gl) (x : Gl) : Bool := l.any fun y => eqG y x
def gaSp : W.Spec := fun av H K =>
  match av, H with
  | [.va (.gs yc), .va (.c1 (.pt 0 0))], [.cells xc 90] => ((∃ y, yc = glC y) ∧ ∃ x, xc = glC x) ∧ K (bS (eqG (C.gl yc) (C.gl xc))) [.cells xc 90]
  | _, _ => False
theorem gaSp_open {av : List S} {H : Hp} {K : S → Hp → Prop} (h : gaSp av H K) : ∃ y x : Gl, av = [.va (.gs (glC y)), .va (.c1 (.pt 0 0))] ∧ H = [.cells (glC x) 90] ∧ K (bS (eqG y x)) [.cells (glC x) 90] := by
  unfold gaSp at h
  split at h
  · obtain ⟨⟨⟨y, rfl⟩, x, rfl⟩, hK⟩ := h
    exact ⟨y, x, rfl, rfl, hK⟩
  · exact h.elim
attribute [go_sem ↓] gaSp
theorem gl_dec (x : Gl) : C.gl (glC x) = x := rfl
theorem mGoals1 : Meets Try.prog 39 gaSp := by
  refine meets_fn Try.func39 ok39 2 (by rw [Try.ntmps39]; decide) (meetsAll_nil _) (fun av H K h => by obtain ⟨_, _, rfl, _⟩ := gaSp_open h; rfl) ?_
  intro av H K h
  obtain ⟨y, x, rfl, rfl, hK⟩ := gaSp_open h
  simp -dsimp only [go_sem, pc39, rs39]
  exact .sel [0] (by simp) (by simp) rfl (.done (by simpa [go_sem, eqG] using hK))
def fixG : List Gl → Gl → Nat → Int
  | [], _, _ => -1
  | y :: l, x, i => bif eqG y x then (i : Int) else fixG l x (i + 1)
theorem fixG_has : ∀ (l : List Gl) (x : Gl) (i : Nat), decide (0 ≤ fixG l x i) = hasG l x
  | [], _, _ => rfl
  | y :: l, x, i => by
    rw [show hasG (y :: l) x = (eqG y x || hasG l x) from rfl]
    simp only [fixG]
    by_cases h : eqG y x = true
    · simp [h]
    · rw [Bool.not_eq_true] at h
      have := fixG_has l x (i + 1)
      simp only [h, Bool.cond_false, Bool.false_or]
      exact this
abbrev glH (x : Gl) : Hp := [.cells (glC x) 90]
def igSp : W.Spec := fun av H K => ∃ (l : List Gl) (x : Gl), av = [.va (.c1 (.fz (l.map glC))), cgV] ∧ H = glH x ∧ l.length ≤ 1000 ∧ K (iS .i64 (fixG l x 0)) (glH x)
theorem ig_use {l : List Gl} {x : Gl} {K : S → Hp → Prop} (h : l.length ≤ 1000) (hK : K (iS .i64 (fixG l x 0)) (glH x)) : igSp [.va (.c1 (.fz (l.map glC))), cgV] (glH x) K := ⟨l, x, rfl, rfl, h, hK⟩
set_option maxHeartbeats 1000000 in
theorem mIndexG : Meets Try.prog 55 igSp := by
  refine meets_fn Try.func55 ok55 2 (by rw [Try.ntmps55]; decide) (meetsAll_s mGoals1 (meetsAll_nil _)) (fun av H K h => by obtain ⟨_, _, rfl, _⟩ := h; rfl) ?_
  rintro av H K ⟨l, x, rfl, rfl, hl, hK⟩
  simp -dsimp only [go_sem, pc55, rs55]
  refine vc_loop (α := Nat) (fun i => [(0, .va (.c1 (.fz (l.map glC)))), (1, cgV), (7, iS .i64 l.length), (8, iS .i64 i)]) (fun _ => glH x)
    (fun i => i ≤ l.length ∧ fixG (l.drop i) x i = fixG l x 0) (fun i => l.length - i) 0 1 ⟨Nat.zero_le _, rfl⟩ ?_ ?_ ?_
  · simp [go_sem]
  · simp [go_sem]
  rintro i ⟨hi, ho⟩
  rcases Nat.lt_or_ge i l.length with hlt | hge
  · have hg : decide ((i : Int) < (l.length : Int)) = true := by simp; omega
    have hx : l[i]? = some l[i] := List.getElem?_eq_getElem hlt
    have q1 := row_rg (row := glC) hx
    have q2 := row_rg' (row := glC) hx
    rw [List.drop_eq_getElem_cons hlt] at ho
    simp only [fixG] at ho
    generalize l[i] = y at *
    have gy : ∃ z, glC y = glC z := ⟨y, rfl⟩
    have gx : ∃ z, glC x = glC z := ⟨x, rfl⟩
    have d1 := gl_dec y
    have d2 := gl_dec x
    cases hc : eqG y x with
    | true =>
      rw [hc, Bool.cond_true] at ho
      simp -dsimp only [go_sem, hg, ↓q2, d1, d2, hc, gy, gx]
      exact ⟨by omega, .done (by rw [ho]; exact hK)⟩
    | false =>
      rw [hc, Bool.cond_false] at ho
      simp -dsimp only [go_sem, hg, ↓q2, d1, d2, hc, gy, gx]
      refine ⟨by omega, by omega, loop_next (i + 1) 1 ⟨by omega, ho⟩ (by omega) ?_ ?_⟩
      · simp [go_sem]
      · simp [go_sem]
  · have hg : decide ((i : Int) < (l.length : Int)) = false := by simp; omega
    have : l.drop i = [] := List.drop_eq_nil_iff.2 (by omega)
    rw [this] at ho
    simp -dsimp only [go_sem, hg]
    exact .done (by rw [show (-1 : Int) = fixG l x 0 from ho]; exact hK)
def cgSp : W.Spec := fun av H K =>
  match av, H with
  | [.va (.c1 (.fz rs)), .va (.c1 (.fn 39 [(false, [.pt 0 0])]))], [.cells xc 90] => ((∃ l : List Gl, rs = l.map glC ∧ l.length ≤ 1000) ∧ ∃ x, xc = glC x) ∧ K (bS (hasG (rs.map C.gl) (C.gl xc))) [.cells xc 90]
  | _, _ => False
theorem cgSp_open {av : List S} {H : Hp} {K : S → Hp → Prop} (h : cgSp av H K) : ∃ (l : List Gl) (x : Gl), av = [.va (.c1 (.fz (l.map glC))), cgV] ∧ H = glH x ∧ l.length ≤ 1000 ∧ K (bS (hasG l x)) (glH x) := by
  unfold cgSp at h
  split at h
  · obtain ⟨⟨⟨l, rfl, h1⟩, x, rfl⟩, hK⟩ := h
    rw [gl_map] at hK
    exact ⟨l, x, rfl, rfl, h1, hK⟩
  · exact h.elim
attribute [go_sem ↓] cgSp
theorem mContainsG : Meets Try.prog 38 cgSp := by
  refine meets_fn Try.func38 ok38 2 (by rw [Try.ntmps38]; decide) (meetsAll_s mIndexG (meetsAll_nil _)) (fun av H K h => by obtain ⟨_, _, rfl, _⟩ := cgSp_open h; rfl) ?_
  intro av H K h
  obtain ⟨l, x, rfl, rfl, hl, hK⟩ := cgSp_open h
  simp -dsimp only [go_sem, pc38, rs38]
  refine ig_use hl ?_
  simp -dsimp only [go_sem, fixG_has]
  exact .done hK
/-- Goals: the plain function. -/
def glA (g : Gl) : List Fnd := bif teF g.st then [] else [⟨0, 5, g.at', g.c, g.n⟩]
def glB (pre : List Gl) (g : Gl) : List Fnd := bif hasG pre g then [⟨0, 6, g.at', g.c, g.n⟩] else []
def glGo (l : List Gl) : Nat → Nat → List Fnd → List Fnd
  | 0, _, out => out
  | n + 1, i, out => match l[i]? with
    | some g => glGo l n (i + 1) ((out ++ glA g) ++ glB (l.take i) g)
    | none => out
def goalF (l : List Gl) : List Fnd := glGo l l.length 0 []
def isGls (rs : List (List C)) : Prop := ∃ l : List Gl, rs = l.map glC ∧ l.length ≤ 60
def golSp : W.Spec := fun av H K =>
  match av, H with
  | [.va (.c1 (.fz rs))], [] => isGls rs ∧ K (.va (.c1 (.fz ((goalF (rs.map C.gl)).map fdC)))) []
  | _, _ => False
theorem golSp_open {av : List S} {H : Hp} {K : S → Hp → Prop} (h : golSp av H K) : ∃ l : List Gl, av = [.va (.c1 (.fz (l.map glC)))] ∧ H = [] ∧ l.length ≤ 60 ∧ K (.va (.c1 (.fz ((goalF l).map fdC)))) [] := by
  unfold golSp at h
  split at h
  · obtain ⟨⟨l, rfl, h1⟩, hK⟩ := h
    rw [gl_map] at hK
    exact ⟨l, rfl, rfl, h1, hK⟩
  · exact h.elim
attribute [go_sem ↓] golSp
set_option maxHeartbeats 4000000 in
set_option maxRecDepth 100000 in
theorem mGoals : Meets Try.prog 20 golSp := by
  refine meets_fn Try.func20 ok20 1 (by rw [Try.ntmps20]; decide) (meetsAll_f mTerminal (meetsAll_s mContainsG (meetsAll_nil _))) (fun av H K h => by obtain ⟨_, rfl, _⟩ := golSp_open h; rfl) ?_
  intro av H K h
  obtain ⟨l, rfl, rfl, hll, hK⟩ := golSp_open h
  clear h
  simp -dsimp only [go_sem, pc20, rs20]
  refine vc_loop_gh (α := Nat × List Fnd) (fun z => [(0, .va (.c1 (.fz (l.map glC)))), (3, .va (.c1 (.sl 0 z.2.length))), (6, .va (.c1 (.fz (l.map glC)))), (7, iS .i64 l.length), (8, iS .i64 z.1)])
    (fun z => [.row (z.2.map fdC) 41 4])
    (fun z => (z.1 ≤ l.length ∧ z.2.length ≤ z.1 * 2) ∧ glGo l (l.length - z.1) z.1 z.2 = goalF l) (fun z => l.length - z.1)
    (.nil 3 41 4 rfl (gh_at (0, []) 1 ⟨⟨Nat.zero_le _, Nat.zero_le _⟩, rfl⟩ ?_ ?_)) ?_
  · simp [go_sem]
  · simp [go_sem]
  rintro ⟨k, out⟩ ⟨⟨hk, hol⟩, hgo⟩
  simp only at hk hol hgo
  rcases Nat.lt_or_ge k l.length with hlt | hge
  · obtain ⟨g, hx⟩ : ∃ x, l[k]? = some x := ⟨_, List.getElem?_eq_getElem hlt⟩
    have q1 := row_rg (row := glC) hx
    have q2 := row_rg' (row := glC) hx
    have hg : decide ((k : Int) < (l.length : Int)) = true := by simp; omega
    have hT : List.take k (l.map glC) = (l.take k).map glC := List.map_take.symm
    have g7 : (∀ r : List C, r ∈ l.map glC → r.length = 7) = True := eq_true fun r hr => by obtain ⟨x, _, rfl⟩ := List.mem_map.1 hr; rfl
    have hs1 : l.length - k = (l.length - (k + 1)) + 1 := by omega
    rw [hs1] at hgo
    simp only [glGo, hx] at hgo
    have gt : ∃ l' : List Gl, (l.take k).map glC = l'.map glC ∧ l'.length ≤ 1000 := ⟨l.take k, rfl, by rw [List.length_take]; omega⟩
    have gx : ∃ z, glC g = glC z := ⟨g, rfl⟩
    have gd := gl_dec g
    cases hA : teF g.st with
    | true =>
      cases hB : hasG (l.take k) g with
      | true =>
        have hst : (out ++ glA g) ++ glB (l.take k) g = out ++ [⟨0, 6, g.at', g.c, g.n⟩] := by unfold glA glB; rw [hA, hB]; simp
        rw [hst] at hgo
        simp -dsimp only [go_sem, hg, ↓q2, hT, hA, hB, gt, g7, gx, gd]
        and_intros
        all_goals first
          | omega
          | (simp only [List.length_cons, List.length_nil]; omega)
          | skip
        refine loop_next (k + 1, out ++ [⟨0, 6, g.at', g.c, g.n⟩]) 1 ⟨⟨by simp only; omega, by simp only [List.length_append, List.length_cons, List.length_nil]; omega⟩, hgo⟩ (by simp only; omega) ?_ ?_
        · simp [go_sem]
        · simp [go_sem]
      | false =>
        have hst : (out ++ glA g) ++ glB (l.take k) g = out := by unfold glA glB; rw [hA, hB]; simp
        rw [hst] at hgo
        simp -dsimp only [go_sem, hg, ↓q2, hT, hA, hB, gt, g7, gx, gd]
        and_intros
        all_goals first
          | omega
          | (simp only [List.length_cons, List.length_nil]; omega)
          | skip
        refine loop_next (k + 1, out) 1 ⟨⟨by simp only; omega, by simp only; omega⟩, hgo⟩ (by simp only; omega) ?_ ?_
        · simp [go_sem]
        · simp [go_sem]
    | false =>
      cases hB : hasG (l.take k) g with
      | true =>
        have hst : (out ++ glA g) ++ glB (l.take k) g = out ++ [⟨0, 5, g.at', g.c, g.n⟩] ++ [⟨0, 6, g.at', g.c, g.n⟩] := by unfold glA glB; rw [hA, hB]; simp
        rw [hst] at hgo
        simp -dsimp only [go_sem, hg, ↓q2, hT, hA, hB, gt, g7, gx, gd]
        and_intros
        all_goals first
          | omega
          | (simp only [List.length_cons, List.length_nil]; omega)
          | skip
        refine loop_next (k + 1, out ++ [⟨0, 5, g.at', g.c, g.n⟩] ++ [⟨0, 6, g.at', g.c, g.n⟩]) 1 ⟨⟨by simp only; omega, by simp only [List.length_append, List.length_cons, List.length_nil]; omega⟩, hgo⟩ (by simp only; omega) ?_ ?_
        · simp [go_sem, Nat.add_assoc]
        · simp [go_sem]
      | false =>
        have hst : (out ++ glA g) ++ glB (l.take k) g = out ++ [⟨0, 5, g.at', g.c, g.n⟩] := by unfold glA glB; rw [hA, hB]; simp
        rw [hst] at hgo
        simp -dsimp only [go_sem, hg, ↓q2, hT, hA, hB, gt, g7, gx, gd]
        and_intros
        all_goals first
          | omega
          | (simp only [List.length_cons, List.length_nil]; omega)
          | skip
        refine loop_next (k + 1, out ++ [⟨0, 5, g.at', g.c, g.n⟩]) 1 ⟨⟨by simp only; omega, by simp only [List.length_append, List.length_cons, List.length_nil]; omega⟩, hgo⟩ (by simp only; omega) ?_ ?_
        · simp [go_sem]
        · simp [go_sem]
  · have hg : decide ((k : Int) < (l.length : Int)) = false := by simp; omega
    have hz : l.length - k = 0 := by omega
    rw [hz] at hgo
    simp only [glGo] at hgo
    subst hgo
    simp -dsimp only [go_sem, hg]
    refine .pub 0 _ _ _ rfl (.sel [] (by simp) (by simp [pubH]) rfl (.done ?_))
    simpa [go_sem, pubH] using hK
end Go.Proofs.Ytdnohfhpbhlpaaa
namespace Go.Proofs.Ytdnohfhpbhlpaaa
open Go.W
/-- robotics/roboticsref53.Same -/
def pc10 : PC :=
  .seq (.reg /- 0 -/ [⟨(some 4), none, .q (.mv (.k (.bool false)))⟩])
  (.seq (.seq (.reg /- 1 -/ [⟨(some 6), none, .q (.mv (.t 0))⟩,
      ⟨(some 7), none, .q (.lnL (.t 6))⟩,
      ⟨(some 8), none, .q (.mv (.t 1))⟩,
      ⟨(some 9), none, .q (.lnL (.t 8))⟩,
      ⟨(some 10), none, .q (.bin .neq true (.t 7) (.t 9))⟩])
    (.cond (.t 10)
      (.seq (.reg /- 2 -/ [⟨(some 4), none, .q (.mv (.k (.bool false)))⟩])
        (.ret))
      (.skip)))
    (.seq (.seq (.reg /- 3 -/ [⟨(some 5), none, .q (.mv (.k (.int .i64 0)))⟩])
      (.block 0 (.loop (.seq (.seq (.reg /- 4 -/ [⟨(some 11), none, .q (.mv (.t 5))⟩,
      ⟨(some 12), none, .q (.mv (.t 0))⟩,
      ⟨(some 13), none, .q (.lnL (.t 12))⟩,
      ⟨(some 14), none, .q (.bin .lss true (.t 11) (.t 13))⟩])
            (.cond (.t 14)
              (.skip)
              (.exit 0)))
            (.seq (.block 1 (.seq (.reg /- 6 -/ [⟨(some 17), none, .q (.mv (.t 0))⟩,
      ⟨(some 18), none, .q (.mv (.t 5))⟩,
      ⟨(some 19), none, .l (.ia 4 (.t 17) (.t 18))⟩,
      ⟨(some 20), none, .l (.ldn 4 (.t 19))⟩,
      ⟨(some 21), none, .q (.mv (.t 1))⟩,
      ⟨(some 22), none, .q (.mv (.t 5))⟩,
      ⟨(some 23), none, .l (.ia 4 (.t 21) (.t 22))⟩,
      ⟨(some 24), none, .l (.ldn 4 (.t 23))⟩,
      ⟨(some 25), none, .q (.eqT true [(0, .int .i64), (1, .int .i64), (2, .int .i64), (3, .int .i64)] (.t 20) (.t 24))⟩])
                (.cond (.t 25)
                  (.seq (.reg /- 7 -/ [⟨(some 4), none, .q (.mv (.k (.bool false)))⟩])
                    (.ret))
                  (.skip))))
              (.reg /- 5 -/ [⟨(some 15), none, .q (.mv (.t 5))⟩,
      ⟨(some 16), none, .q (.bin .add true (.t 15) (.k (.int .i64 1)))⟩,
      ⟨(some 5), none, .q (.mv (.t 16))⟩]))))))
      (.seq (.reg /- 8 -/ [⟨(some 4), none, .q (.mv (.k (.bool true)))⟩])
        (.ret))))
def rs10 : List RV := [.mv (.t 4)]
theorem ok10 : trFn Try.prog true ⟨fun _ _ => .own [], fun _ => false⟩ Try.f10 = some (pc10, rs10) := by kernel_rfl
/-- robotics/roboticsref53.Contracts -/
def pc13 : PC :=
  .seq (.reg /- 0 -/ [⟨(some 4), none, .q (.mv (.k (.slice none 0 0)))⟩])
  (.seq (.reg /- 1 -/ [⟨(some 5), none, .q (.mv (.k (.slice none 0 0)))⟩])
    (.seq (.reg /- 2 -/ [⟨(some 13), none, .q (.mv (.t 1))⟩,
      ⟨(some 14), none, .cl 28 [(.t 13)] []⟩,
      ⟨(some 6), none, .q (.mv (.t 14))⟩])
      (.seq (.seq (.reg /- 3 -/ [⟨(some 7), none, .q (.mv (.k (.int .i64 0)))⟩])
        (.block 0 (.loop (.seq (.seq (.reg /- 4 -/ [⟨(some 15), none, .q (.mv (.t 7))⟩,
      ⟨(some 16), none, .q (.mv (.t 6))⟩,
      ⟨(some 17), none, .q (.lnL (.t 16))⟩,
      ⟨(some 18), none, .q (.bin .lss true (.t 15) (.t 17))⟩])
              (.cond (.t 18)
                (.skip)
                (.exit 0)))
              (.seq (.block 1 (.seq (.reg /- 6 -/ [⟨(some 8), none, .q (.mv (.k (.int .i64 0)))⟩])
                  (.block 2 (.loop (.seq (.seq (.reg /- 7 -/ [⟨(some 21), none, .q (.mv (.t 8))⟩,
      ⟨(some 22), none, .q (.mv (.t 0))⟩,
      ⟨(some 23), none, .q (.lnL (.t 22))⟩,
      ⟨(some 24), none, .q (.bin .lss true (.t 21) (.t 23))⟩])
                        (.cond (.t 24)
                          (.skip)
                          (.exit 2)))
                        (.seq (.block 3 (.seq (.reg /- 9 -/ [⟨(some 27), none, .q (.mv (.t 0))⟩,
      ⟨(some 28), none, .q (.mv (.t 8))⟩,
      ⟨(some 29), none, .l (.ia 6 (.t 27) (.t 28))⟩,
      ⟨(some 30), none, .l (.ldn 6 (.t 29))⟩,
      ⟨(some 31), none, .q (.mv (.t 6))⟩,
      ⟨(some 32), none, .q (.mv (.t 7))⟩,
      ⟨(some 33), none, .l (.ia 24 (.t 31) (.t 32))⟩,
      ⟨(some 34), none, .l (.ldn 24 (.t 33))⟩,
      ⟨(some 35), none, .cq 29 [(.t 30), (.t 34), (.k (.int .i64 1))]⟩])
                            (.cond (.t 35)
                              (.reg /- 10 -/ [⟨(some 36), none, .q (.mv (.t 5))⟩,
      ⟨(some 37), none, .q (.mv (.t 0))⟩,
      ⟨(some 38), none, .q (.mv (.t 6))⟩,
      ⟨(some 39), none, .q (.mv (.t 7))⟩,
      ⟨(some 40), none, .l (.ia 24 (.t 38) (.t 39))⟩,
      ⟨(some 41), none, .l (.ldn 24 (.t 40))⟩,
      ⟨(some 42), none, .q (.mv (.t 8))⟩,
      ⟨(some 43), none, .cl 30 [(.t 37), (.t 41), (.t 42)] []⟩,
      ⟨(some 44), none, .e (.ap 81 5 40 (.t 36) (.t 43))⟩,
      ⟨(some 5), none, .q (.mv (.t 44))⟩])
                              (.skip))))
                          (.reg /- 8 -/ [⟨(some 25), none, .q (.mv (.t 8))⟩,
      ⟨(some 26), none, .q (.bin .add true (.t 25) (.k (.int .i64 1)))⟩,
      ⟨(some 8), none, .q (.mv (.t 26))⟩])))))))
                (.reg /- 5 -/ [⟨(some 19), none, .q (.mv (.t 7))⟩,
      ⟨(some 20), none, .q (.bin .add true (.t 19) (.k (.int .i64 1)))⟩,
      ⟨(some 7), none, .q (.mv (.t 20))⟩]))))))
        (.seq (.reg /- 11 -/ [⟨(some 9), none, .q (.mv (.k (.slice none 0 0)))⟩])
          (.seq (.block 4 (.loop (.seq (.seq (.reg /- 12 -/ [⟨(some 45), none, .q (.mv (.t 5))⟩,
      ⟨(some 46), none, .q (.lnL (.t 45))⟩,
      ⟨(some 47), none, .q (.bin .gtr true (.t 46) (.k (.int .i64 0)))⟩])
                (.cond (.t 47)
                  (.skip)
                  (.exit 4)))
                (.block 5 (.seq (.reg /- 13 -/ [⟨(some 10), none, .q (.mv (.k (.int .i64 0)))⟩])
                    (.seq (.seq (.reg /- 14 -/ [⟨(some 11), none, .q (.mv (.k (.int .i64 1)))⟩])
                      (.block 6 (.loop (.seq (.seq (.reg /- 15 -/ [⟨(some 48), none, .q (.mv (.t 11))⟩,
      ⟨(some 49), none, .q (.mv (.t 5))⟩,
      ⟨(some 50), none, .q (.lnL (.t 49))⟩,
      ⟨(some 51), none, .q (.bin .lss true (.t 48) (.t 50))⟩])
                            (.cond (.t 51)
                              (.skip)
                              (.exit 6)))
                            (.seq (.block 7 (.seq (.reg /- 17 -/ [⟨(some 54), none, .q (.mv (.t 5))⟩,
      ⟨(some 55), none, .q (.mv (.t 11))⟩,
      ⟨(some 56), none, .l (.ia 5 (.t 54) (.t 55))⟩,
      ⟨(some 57), none, .l (.ldn 5 (.t 56))⟩,
      ⟨(some 58), none, .q (.mv (.t 5))⟩,
      ⟨(some 59), none, .q (.mv (.t 10))⟩,
      ⟨(some 60), none, .l (.ia 5 (.t 58) (.t 59))⟩,
      ⟨(some 61), none, .l (.ldn 5 (.t 60))⟩,
      ⟨(some 62), none, .cq 31 [(.t 57), (.t 61)]⟩])
                                (.cond (.t 62)
                                  (.reg /- 18 -/ [⟨(some 63), none, .q (.mv (.t 11))⟩,
      ⟨(some 10), none, .q (.mv (.t 63))⟩])
                                  (.skip))))
                              (.reg /- 16 -/ [⟨(some 52), none, .q (.mv (.t 11))⟩,
      ⟨(some 53), none, .q (.bin .add true (.t 52) (.k (.int .i64 1)))⟩,
      ⟨(some 11), none, .q (.mv (.t 53))⟩]))))))
                      (.seq (.reg /- 19 -/ [⟨(some 64), none, .q (.mv (.t 9))⟩,
      ⟨(some 65), none, .q (.mv (.t 5))⟩,
      ⟨(some 66), none, .q (.mv (.t 10))⟩,
      ⟨(some 67), none, .l (.ia 5 (.t 65) (.t 66))⟩,
      ⟨(some 68), none, .q (.fa 1 (.t 67))⟩,
      ⟨(some 69), none, .l (.ldn 4 (.t 68))⟩,
      ⟨(some 70), none, .e (.bsl 59 4 [(.t 69)])⟩,
      ⟨(some 71), none, .e (.ap 59 4 32 (.t 64) (.t 70))⟩,
      ⟨(some 9), none, .q (.mv (.t 71))⟩])
                        (.seq (.reg /- 20 -/ [⟨(some 12), none, .q (.mv (.k (.slice none 0 0)))⟩])
                          (.seq (.gh (.reg /- 21 -/ [⟨(some 72), none, .q (.mv (.t 12))⟩,
      ⟨(some 73), none, .q (.mv (.t 5))⟩,
      ⟨(some 74), none, .q (.mv (.t 10))⟩,
      ⟨(some 75), none, .q (.sf 5 (.t 73) none (some (.t 74)))⟩,
      ⟨(some 76), none, .e (.ap 81 5 40 (.t 72) (.t 75))⟩,
      ⟨(some 12), none, .q (.mv (.t 76))⟩]))
                            (.reg /- 22 -/ [⟨(some 77), none, .q (.mv (.t 12))⟩,
      ⟨(some 78), none, .q (.mv (.t 5))⟩,
      ⟨(some 79), none, .q (.mv (.t 10))⟩,
      ⟨(some 80), none, .q (.bin .add true (.t 79) (.k (.int .i64 1)))⟩,
      ⟨(some 81), none, .q (.sf 5 (.t 78) (some (.t 80)) none)⟩,
      ⟨(some 82), none, .e (.ap 81 5 40 (.t 77) (.t 81))⟩,
      ⟨(some 5), none, .q (.mv (.t 82))⟩]))))))))))
            (.seq (.reg /- 23 -/ [⟨(some 83), none, .q (.mv (.t 9))⟩,
      ⟨(some 4), none, .q (.mv (.t 83))⟩])
              (.ret)))))))
def rs13 : List RV := [.mv (.t 4)]
theorem ok13 : trFn Try.prog true ⟨fun r k => if r = 9 ∧ k = 8 then .q else if r = 17 ∧ k = 8 then .q else .own [], fun r => [21].contains r⟩ Try.f13 = some (pc13, rs13) := by kernel_rfl
/-- robotics/roboticsref53.Speeds -/
def pc17 : PC :=
  .seq (.reg /- 0 -/ [⟨(some 3), none, .e (.bx 45 (.t 1))⟩,
      ⟨(some 4), none, .q (.mv (.k (.slice none 0 0)))⟩])
  (.seq (.reg /- 1 -/ [⟨(some 5), none, .q (.mv (.k (.slice none 0 0)))⟩])
    (.seq (.seq (.reg /- 2 -/ [⟨(some 6), none, .q (.mv (.k (.int .i64 0)))⟩])
      (.block 0 (.loop (.seq (.seq (.reg /- 3 -/ [⟨(some 10), none, .q (.mv (.t 6))⟩,
      ⟨(some 11), none, .q (.mv (.t 0))⟩,
      ⟨(some 12), none, .q (.lnL (.t 11))⟩,
      ⟨(some 13), none, .q (.bin .lss true (.t 10) (.t 12))⟩])
            (.cond (.t 13)
              (.skip)
              (.exit 0)))
            (.seq (.block 1 (.seq (.reg /- 5 -/ [⟨(some 16), none, .q (.mv (.t 0))⟩,
      ⟨(some 17), none, .q (.mv (.t 6))⟩,
      ⟨(some 18), none, .l (.ia 4 (.t 16) (.t 17))⟩,
      ⟨(some 19), none, .q (.fa 2 (.t 18))⟩,
      ⟨(some 20), none, .l (.ldn 2 (.t 19))⟩,
      ⟨(some 7), none, .e (.al (.agg #[(.int .i64 0), (.int .i64 0)]) 48)⟩,
      ⟨none, none, .e (.st 2 (.t 7) (.t 20))⟩])
                (.seq (.seq (.reg /- 6 -/ [⟨(some 21), none, .l (.ldn 2 (.t 7))⟩,
      ⟨(some 22), none, .cq 35 [(.t 21)]⟩,
      ⟨(some 23), none, .q (.fa 0 (.t 3))⟩,
      ⟨(some 24), none, .l (.ld1 (.t 23))⟩,
      ⟨(some 25), none, .q (.fa 0 (.t 3))⟩,
      ⟨(some 26), none, .l (.ld1 (.t 25))⟩,
      ⟨(some 27), none, .q (.bin .mul true (.t 24) (.t 26))⟩,
      ⟨(some 28), none, .q (.bin .gtr true (.t 22) (.t 27))⟩])
                  (.cond (.t 28)
                    (.reg /- 7 -/ [⟨(some 29), none, .q (.mv (.t 5))⟩,
      ⟨(some 30), none, .q (.mv (.t 6))⟩,
      ⟨(some 31), none, .q (.mv (.t 6))⟩,
      ⟨(some 32), none, .q (.bd [(.int .i64 0), (.int .i64 0), (.int .i64 0), (.int .i64 0)] [(0, 1, (.k (.int .i64 7))), (1, 1, (.t 30)), (2, 1, (.t 31)), (3, 1, (.k (.int .i64 0)))])⟩,
      ⟨(some 33), none, .e (.bsl 59 4 [(.t 32)])⟩,
      ⟨(some 34), none, .e (.ap 59 4 32 (.t 29) (.t 33))⟩,
      ⟨(some 5), none, .q (.mv (.t 34))⟩])
                    (.skip)))
                  (.seq (.seq (.reg /- 8 -/ [⟨(some 35), none, .q (.mv (.t 6))⟩,
      ⟨(some 36), none, .q (.bin .eql true (.t 35) (.k (.int .i64 0)))⟩])
                    (.cond (.t 36)
                      (.exit 1)
                      (.skip)))
                    (.seq (.reg /- 9 -/ [⟨(some 37), none, .q (.mv (.t 0))⟩,
      ⟨(some 38), none, .q (.mv (.t 6))⟩,
      ⟨(some 39), none, .q (.bin .sub true (.t 38) (.k (.int .i64 1)))⟩,
      ⟨(some 40), none, .l (.ia 4 (.t 37) (.t 39))⟩,
      ⟨(some 41), none, .q (.fa 2 (.t 40))⟩,
      ⟨(some 42), none, .l (.ldn 2 (.t 41))⟩,
      ⟨(some 8), none, .e (.al (.agg #[(.int .i64 0), (.int .i64 0)]) 48)⟩,
      ⟨none, none, .e (.st 2 (.t 8) (.t 42))⟩])
                      (.seq (.reg /- 10 -/ [⟨(some 43), none, .l (.ldn 2 (.t 8))⟩,
      ⟨(some 44), none, .cq 35 [(.t 43)]⟩,
      ⟨(some 45), none, .cq 36 [(.t 44)]⟩,
      ⟨(some 46), none, .q (.fa 2 (.t 3))⟩,
      ⟨(some 47), none, .l (.ld1 (.t 46))⟩,
      ⟨(some 48), none, .q (.bin .sub true (.t 45) (.t 47))⟩,
      ⟨(some 9), none, .q (.mv (.t 48))⟩])
                        (.seq (.seq (.reg /- 11 -/ [⟨(some 49), none, .q (.mv (.t 9))⟩,
      ⟨(some 50), none, .q (.bin .lss true (.t 49) (.k (.int .i64 0)))⟩])
                          (.cond (.t 50)
                            (.reg /- 12 -/ [⟨(some 9), none, .q (.mv (.k (.int .i64 0)))⟩])
                            (.skip)))
                          (.seq (.reg /- 13 -/ [⟨(some 51), none, .q (.fa 0 (.t 7))⟩,
      ⟨(some 52), none, .l (.ld1 (.t 51))⟩,
      ⟨(some 53), none, .q (.fa 0 (.t 8))⟩,
      ⟨(some 54), none, .l (.ld1 (.t 53))⟩,
      ⟨(some 55), none, .q (.bin .sub true (.t 52) (.t 54))⟩,
      ⟨(some 56), none, .q (.fa 1 (.t 7))⟩,
      ⟨(some 57), none, .l (.ld1 (.t 56))⟩,
      ⟨(some 58), none, .q (.fa 1 (.t 8))⟩,
      ⟨(some 59), none, .l (.ld1 (.t 58))⟩,
      ⟨(some 60), none, .q (.bin .sub true (.t 57) (.t 59))⟩,
      ⟨(some 61), none, .q (.bd [(.int .i64 0), (.int .i64 0)] [(0, 1, (.t 55)), (1, 1, (.t 60))])⟩,
      ⟨(some 62), none, .cq 35 [(.t 61)]⟩,
      ⟨(some 63), none, .q (.fa 1 (.t 3))⟩,
      ⟨(some 64), none, .l (.ld1 (.t 63))⟩,
      ⟨(some 65), none, .q (.fa 1 (.t 3))⟩,
      ⟨(some 66), none, .l (.ld1 (.t 65))⟩,
      ⟨(some 67), none, .q (.bin .mul true (.t 64) (.t 66))⟩,
      ⟨(some 68), none, .q (.bin .gtr true (.t 62) (.t 67))⟩,
      ⟨(some 69), none, .q (.mv (.t 68))⟩,
      ⟨(some 70), (some (69, true)), .l (.ldn 2 (.t 7))⟩,
      ⟨(some 71), (some (69, true)), .cq 35 [(.t 70)]⟩,
      ⟨(some 72), (some (69, true)), .q (.mv (.t 9))⟩,
      ⟨(some 73), (some (69, true)), .q (.mv (.t 9))⟩,
      ⟨(some 74), (some (69, true)), .q (.bin .mul true (.t 72) (.t 73))⟩,
      ⟨(some 75), (some (69, true)), .q (.bin .gtr true (.t 71) (.t 74))⟩,
      ⟨(some 76), none, .pick (.t 69) (.t 75) (.k (.bool false))⟩])
                            (.cond (.t 76)
                              (.reg /- 14 -/ [⟨(some 77), none, .q (.mv (.t 5))⟩,
      ⟨(some 78), none, .q (.mv (.t 6))⟩,
      ⟨(some 79), none, .q (.mv (.t 6))⟩,
      ⟨(some 80), none, .q (.bd [(.int .i64 0), (.int .i64 0), (.int .i64 0), (.int .i64 0)] [(0, 1, (.k (.int .i64 8))), (1, 1, (.t 78)), (2, 1, (.t 79)), (3, 1, (.k (.int .i64 0)))])⟩,
      ⟨(some 81), none, .e (.bsl 59 4 [(.t 80)])⟩,
      ⟨(some 82), none, .e (.ap 59 4 32 (.t 77) (.t 81))⟩,
      ⟨(some 5), none, .q (.mv (.t 82))⟩])
                              (.skip))))))))))
              (.reg /- 4 -/ [⟨(some 14), none, .q (.mv (.t 6))⟩,
      ⟨(some 15), none, .q (.bin .add true (.t 14) (.k (.int .i64 1)))⟩,
      ⟨(some 6), none, .q (.mv (.t 15))⟩]))))))
      (.seq (.reg /- 15 -/ [⟨(some 83), none, .q (.mv (.t 5))⟩,
      ⟨(some 4), none, .q (.mv (.t 83))⟩])
        (.ret))))
def rs17 : List RV := [.mv (.t 4)]
theorem ok17 : trFn Try.prog true ⟨fun r k => if r = 6 ∧ k = 1 then .q else if r = 10 ∧ k = 1 then .q else if r = 10 ∧ k = 2 then .q else if r = 13 ∧ k = 11 then .q else if r = 13 ∧ k = 20 then .q else .own [], fun _ => false⟩ Try.f17 = some (pc17, rs17) := by kernel_rfl
/-- robotics/roboticsref53.Name -/
def pc19 : PC :=
  .seq (.reg /- 0 -/ [⟨(some 2), none, .q (.mv (.k (.string (mk []))))⟩])
  (.seq (.reg /- 1 -/ [⟨(some 4), none, .e (.bsl 9 1 [(.k (.string (mk []))), (.k (.string (mk [108, 111, 115, 116]))), (.k (.string (mk [100, 117, 112, 108, 105, 99, 97, 116, 101]))), (.k (.string (mk [111, 114, 100, 101, 114]))), (.k (.string (mk [100, 101, 97, 100, 108, 105, 110, 101]))), (.k (.string (mk [111, 112, 101, 110]))), (.k (.string (mk [116, 119, 105, 99, 101]))), (.k (.string (mk [115, 112, 101, 101, 100]))), (.k (.string (mk [97, 99, 99, 101, 108, 101, 114, 97, 116, 105, 111, 110]))), (.k (.string (mk []))), (.k (.string (mk [114, 101, 112, 108, 97, 121])))])⟩,
      ⟨(some 3), none, .q (.mv (.t 4))⟩])
    (.seq (.seq (.reg /- 2 -/ [⟨(some 5), none, .q (.mv (.t 0))⟩,
      ⟨(some 6), none, .q (.bin .lss true (.t 5) (.k (.int .i64 0)))⟩,
      ⟨(some 7), none, .q (.mv (.t 6))⟩,
      ⟨(some 8), (some (7, false)), .q (.mv (.t 0))⟩,
      ⟨(some 9), (some (7, false)), .q (.bin .gtr true (.t 8) (.k (.int .i64 10)))⟩,
      ⟨(some 10), none, .pick (.t 7) (.k (.bool true)) (.t 9)⟩])
      (.cond (.t 10)
        (.seq (.reg /- 3 -/ [⟨(some 2), none, .q (.mv (.k (.string (mk []))))⟩])
          (.ret))
        (.skip)))
      (.seq (.reg /- 4 -/ [⟨(some 11), none, .q (.mv (.t 3))⟩,
      ⟨(some 12), none, .q (.mv (.t 0))⟩,
      ⟨(some 13), none, .l (.ia 1 (.t 11) (.t 12))⟩,
      ⟨(some 14), none, .l (.ld1 (.t 13))⟩,
      ⟨(some 2), none, .q (.mv (.t 14))⟩])
        (.ret))))
def rs19 : List RV := [.mv (.t 2)]
theorem ok19 : trFn Try.prog true ⟨fun _ _ => .own [], fun _ => false⟩ Try.f19 = some (pc19, rs19) := by kernel_rfl
/-- robotics/roboticsref53.Goals -/
def pc21 : PC :=
  .seq (.reg /- 0 -/ [⟨(some 2), none, .q (.mv (.k (.slice none 0 0)))⟩])
  (.seq (.reg /- 1 -/ [⟨(some 3), none, .q (.mv (.k (.slice none 0 0)))⟩])
    (.seq (.seq (.reg /- 2 -/ [⟨(some 4), none, .q (.mv (.k (.int .i64 0)))⟩])
      (.block 0 (.loop (.seq (.seq (.reg /- 3 -/ [⟨(some 6), none, .q (.mv (.t 4))⟩,
      ⟨(some 7), none, .q (.mv (.t 0))⟩,
      ⟨(some 8), none, .q (.lnL (.t 7))⟩,
      ⟨(some 9), none, .q (.bin .lss true (.t 6) (.t 8))⟩])
            (.cond (.t 9)
              (.skip)
              (.exit 0)))
            (.seq (.block 1 (.seq (.seq (.reg /- 5 -/ [⟨(some 12), none, .q (.mv (.t 0))⟩,
      ⟨(some 13), none, .q (.mv (.t 4))⟩,
      ⟨(some 14), none, .l (.ia 7 (.t 12) (.t 13))⟩,
      ⟨(some 15), none, .q (.fa 2 (.t 14))⟩,
      ⟨(some 16), none, .l (.ld1 (.t 15))⟩,
      ⟨(some 17), none, .cq 40 [(.t 16)]⟩,
      ⟨(some 18), none, .q (.not (.t 17))⟩])
                (.cond (.t 18)
                  (.reg /- 6 -/ [⟨(some 19), none, .q (.mv (.t 3))⟩,
      ⟨(some 20), none, .q (.mv (.t 0))⟩,
      ⟨(some 21), none, .q (.mv (.t 4))⟩,
      ⟨(some 22), none, .l (.ia 7 (.t 20) (.t 21))⟩,
      ⟨(some 23), none, .q (.fa 3 (.t 22))⟩,
      ⟨(some 24), none, .l (.ld1 (.t 23))⟩,
      ⟨(some 25), none, .q (.mv (.t 0))⟩,
      ⟨(some 26), none, .q (.mv (.t 4))⟩,
      ⟨(some 27), none, .l (.ia 7 (.t 25) (.t 26))⟩,
      ⟨(some 28), none, .q (.fa 0 (.t 27))⟩,
      ⟨(some 29), none, .q (.fa 0 (.t 28))⟩,
      ⟨(some 30), none, .l (.ld1 (.t 29))⟩,
      ⟨(some 31), none, .q (.mv (.t 0))⟩,
      ⟨(some 32), none, .q (.mv (.t 4))⟩,
      ⟨(some 33), none, .l (.ia 7 (.t 31) (.t 32))⟩,
      ⟨(some 34), none, .q (.fa 0 (.t 33))⟩,
      ⟨(some 35), none, .q (.fa 1 (.t 34))⟩,
      ⟨(some 36), none, .l (.ld1 (.t 35))⟩,
      ⟨(some 37), none, .q (.bd [(.int .i64 0), (.int .i64 0), (.int .i64 0), (.int .i64 0)] [(0, 1, (.k (.int .i64 5))), (1, 1, (.t 24)), (2, 1, (.t 30)), (3, 1, (.t 36))])⟩,
      ⟨(some 38), none, .e (.bsl 59 4 [(.t 37)])⟩,
      ⟨(some 39), none, .e (.ap 59 4 32 (.t 19) (.t 38))⟩,
      ⟨(some 3), none, .q (.mv (.t 39))⟩])
                  (.skip)))
                (.seq (.reg /- 7 -/ [⟨(some 5), none, .q (.mv (.k (.int .i64 0)))⟩])
                  (.block 2 (.loop (.seq (.seq (.reg /- 8 -/ [⟨(some 40), none, .q (.mv (.t 5))⟩,
      ⟨(some 41), none, .q (.mv (.t 4))⟩,
      ⟨(some 42), none, .q (.bin .lss true (.t 40) (.t 41))⟩])
                        (.cond (.t 42)
                          (.skip)
                          (.exit 2)))
                        (.seq (.block 3 (.seq (.reg /- 10 -/ [⟨(some 45), none, .q (.mv (.t 0))⟩,
      ⟨(some 46), none, .q (.mv (.t 5))⟩,
      ⟨(some 47), none, .l (.ia 7 (.t 45) (.t 46))⟩,
      ⟨(some 48), none, .q (.fa 0 (.t 47))⟩,
      ⟨(some 49), none, .l (.ldn 2 (.t 48))⟩,
      ⟨(some 50), none, .q (.mv (.t 0))⟩,
      ⟨(some 51), none, .q (.mv (.t 4))⟩,
      ⟨(some 52), none, .l (.ia 7 (.t 50) (.t 51))⟩,
      ⟨(some 53), none, .q (.fa 0 (.t 52))⟩,
      ⟨(some 54), none, .l (.ldn 2 (.t 53))⟩,
      ⟨(some 55), none, .q (.eqT false [(0, .int .i64), (1, .int .i64)] (.t 49) (.t 54))⟩])
                            (.cond (.t 55)
                              (.seq (.reg /- 11 -/ [⟨(some 56), none, .q (.mv (.t 3))⟩,
      ⟨(some 57), none, .q (.mv (.t 0))⟩,
      ⟨(some 58), none, .q (.mv (.t 4))⟩,
      ⟨(some 59), none, .l (.ia 7 (.t 57) (.t 58))⟩,
      ⟨(some 60), none, .q (.fa 3 (.t 59))⟩,
      ⟨(some 61), none, .l (.ld1 (.t 60))⟩,
      ⟨(some 62), none, .q (.mv (.t 0))⟩,
      ⟨(some 63), none, .q (.mv (.t 4))⟩,
      ⟨(some 64), none, .l (.ia 7 (.t 62) (.t 63))⟩,
      ⟨(some 65), none, .q (.fa 0 (.t 64))⟩,
      ⟨(some 66), none, .q (.fa 0 (.t 65))⟩,
      ⟨(some 67), none, .l (.ld1 (.t 66))⟩,
      ⟨(some 68), none, .q (.mv (.t 0))⟩,
      ⟨(some 69), none, .q (.mv (.t 4))⟩,
      ⟨(some 70), none, .l (.ia 7 (.t 68) (.t 69))⟩,
      ⟨(some 71), none, .q (.fa 0 (.t 70))⟩,
      ⟨(some 72), none, .q (.fa 1 (.t 71))⟩,
      ⟨(some 73), none, .l (.ld1 (.t 72))⟩,
      ⟨(some 74), none, .q (.bd [(.int .i64 0), (.int .i64 0), (.int .i64 0), (.int .i64 0)] [(0, 1, (.k (.int .i64 6))), (1, 1, (.t 61)), (2, 1, (.t 67)), (3, 1, (.t 73))])⟩,
      ⟨(some 75), none, .e (.bsl 59 4 [(.t 74)])⟩,
      ⟨(some 76), none, .e (.ap 59 4 32 (.t 56) (.t 75))⟩,
      ⟨(some 3), none, .q (.mv (.t 76))⟩])
                                (.exit 2))
                              (.skip))))
                          (.reg /- 9 -/ [⟨(some 43), none, .q (.mv (.t 5))⟩,
      ⟨(some 44), none, .q (.bin .add true (.t 43) (.k (.int .i64 1)))⟩,
      ⟨(some 5), none, .q (.mv (.t 44))⟩]))))))))
              (.reg /- 4 -/ [⟨(some 10), none, .q (.mv (.t 4))⟩,
      ⟨(some 11), none, .q (.bin .add true (.t 10) (.k (.int .i64 1)))⟩,
      ⟨(some 4), none, .q (.mv (.t 11))⟩]))))))
      (.seq (.reg /- 12 -/ [⟨(some 77), none, .q (.mv (.t 3))⟩,
      ⟨(some 2), none, .q (.mv (.t 77))⟩])
        (.ret))))
def rs21 : List RV := [.mv (.t 2)]
theorem ok21 : trFn Try.prog true ⟨fun r k => if r = 5 ∧ k = 5 then .q else .own [], fun _ => false⟩ Try.f21 = some (pc21, rs21) := by kernel_rfl
/-- robotics/roboticsref53.pairs -/
def pc28 : PC :=
  .seq (.reg /- 0 -/ [⟨(some 2), none, .q (.mv (.k (.slice none 0 0)))⟩])
  (.seq (.reg /- 1 -/ [⟨(some 3), none, .q (.mv (.k (.slice none 0 0)))⟩])
    (.seq (.seq (.reg /- 2 -/ [⟨(some 4), none, .q (.mv (.k (.int .i64 0)))⟩])
      (.block 0 (.loop (.seq (.seq (.reg /- 3 -/ [⟨(some 10), none, .q (.mv (.t 4))⟩,
      ⟨(some 11), none, .q (.mv (.t 0))⟩,
      ⟨(some 12), none, .q (.lnL (.t 11))⟩,
      ⟨(some 13), none, .q (.bin .lss true (.t 10) (.t 12))⟩])
            (.cond (.t 13)
              (.skip)
              (.exit 0)))
            (.seq (.block 1 (.seq (.reg /- 5 -/ [⟨(some 5), none, .q (.mv (.k (.bool false)))⟩])
                (.seq (.seq (.reg /- 6 -/ [⟨(some 6), none, .q (.mv (.k (.int .i64 0)))⟩])
                  (.block 2 (.loop (.seq (.seq (.reg /- 7 -/ [⟨(some 16), none, .q (.mv (.t 6))⟩,
      ⟨(some 17), none, .q (.mv (.t 3))⟩,
      ⟨(some 18), none, .q (.lnL (.t 17))⟩,
      ⟨(some 19), none, .q (.bin .lss true (.t 16) (.t 18))⟩])
                        (.cond (.t 19)
                          (.skip)
                          (.exit 2)))
                        (.seq (.block 3 (.reg /- 9 -/ [⟨(some 22), none, .q (.mv (.t 5))⟩,
      ⟨(some 23), none, .q (.mv (.t 22))⟩,
      ⟨(some 24), (some (23, false)), .q (.mv (.t 3))⟩,
      ⟨(some 25), (some (23, false)), .q (.mv (.t 6))⟩,
      ⟨(some 26), (some (23, false)), .l (.ia 12 (.t 24) (.t 25))⟩,
      ⟨(some 27), (some (23, false)), .q (.fa 0 (.t 26))⟩,
      ⟨(some 28), (some (23, false)), .l (.ld1 (.t 27))⟩,
      ⟨(some 29), (some (23, false)), .q (.mv (.t 0))⟩,
      ⟨(some 30), (some (23, false)), .q (.mv (.t 4))⟩,
      ⟨(some 31), (some (23, false)), .l (.ia 12 (.t 29) (.t 30))⟩,
      ⟨(some 32), (some (23, false)), .q (.fa 0 (.t 31))⟩,
      ⟨(some 33), (some (23, false)), .l (.ld1 (.t 32))⟩,
      ⟨(some 34), (some (23, false)), .q (.bin .eql true (.t 28) (.t 33))⟩,
      ⟨(some 35), none, .pick (.t 23) (.k (.bool true)) (.t 34)⟩,
      ⟨(some 5), none, .q (.mv (.t 35))⟩]))
                          (.reg /- 8 -/ [⟨(some 20), none, .q (.mv (.t 6))⟩,
      ⟨(some 21), none, .q (.bin .add true (.t 20) (.k (.int .i64 1)))⟩,
      ⟨(some 6), none, .q (.mv (.t 21))⟩]))))))
                  (.seq (.reg /- 10 -/ [⟨(some 36), none, .q (.mv (.t 5))⟩,
      ⟨(some 37), none, .q (.not (.t 36))⟩])
                    (.cond (.t 37)
                      (.reg /- 11 -/ [⟨(some 38), none, .q (.mv (.t 3))⟩,
      ⟨(some 39), none, .q (.mv (.t 0))⟩,
      ⟨(some 40), none, .q (.mv (.t 4))⟩,
      ⟨(some 41), none, .l (.ia 12 (.t 39) (.t 40))⟩,
      ⟨(some 42), none, .l (.ldn 12 (.t 41))⟩,
      ⟨(some 43), none, .e (.bsl 31 12 [(.t 42)])⟩,
      ⟨(some 44), none, .e (.ap 31 12 96 (.t 38) (.t 43))⟩,
      ⟨(some 3), none, .q (.mv (.t 44))⟩])
                      (.skip))))))
              (.reg /- 4 -/ [⟨(some 14), none, .q (.mv (.t 4))⟩,
      ⟨(some 15), none, .q (.bin .add true (.t 14) (.k (.int .i64 1)))⟩,
      ⟨(some 4), none, .q (.mv (.t 15))⟩]))))))
      (.seq (.reg /- 12 -/ [⟨(some 7), none, .q (.mv (.k (.slice none 0 0)))⟩])
        (.seq (.seq (.reg /- 13 -/ [⟨(some 8), none, .q (.mv (.k (.int .i64 0)))⟩])
          (.block 4 (.loop (.seq (.seq (.reg /- 14 -/ [⟨(some 45), none, .q (.mv (.t 8))⟩,
      ⟨(some 46), none, .q (.mv (.t 3))⟩,
      ⟨(some 47), none, .q (.lnL (.t 46))⟩,
      ⟨(some 48), none, .q (.bin .lss true (.t 45) (.t 47))⟩])
                (.cond (.t 48)
                  (.skip)
                  (.exit 4)))
                (.seq (.block 5 (.seq (.reg /- 16 -/ [⟨(some 9), none, .q (.mv (.k (.int .i64 0)))⟩])
                    (.block 6 (.loop (.seq (.seq (.reg /- 17 -/ [⟨(some 51), none, .q (.mv (.t 9))⟩,
      ⟨(some 52), none, .q (.mv (.t 3))⟩,
      ⟨(some 53), none, .q (.lnL (.t 52))⟩,
      ⟨(some 54), none, .q (.bin .lss true (.t 51) (.t 53))⟩])
                          (.cond (.t 54)
                            (.skip)
                            (.exit 6)))
                          (.seq (.block 7 (.seq (.reg /- 19 -/ [⟨(some 57), none, .q (.mv (.t 3))⟩,
      ⟨(some 58), none, .q (.mv (.t 8))⟩,
      ⟨(some 59), none, .l (.ia 12 (.t 57) (.t 58))⟩,
      ⟨(some 60), none, .q (.fa 4 (.t 59))⟩,
      ⟨(some 61), none, .l (.ld1 (.t 60))⟩,
      ⟨(some 62), none, .q (.not (.t 61))⟩,
      ⟨(some 63), none, .q (.mv (.t 62))⟩,
      ⟨(some 64), (some (63, true)), .q (.mv (.t 3))⟩,
      ⟨(some 65), (some (63, true)), .q (.mv (.t 9))⟩,
      ⟨(some 66), (some (63, true)), .l (.ia 12 (.t 64) (.t 65))⟩,
      ⟨(some 67), (some (63, true)), .q (.fa 4 (.t 66))⟩,
      ⟨(some 68), (some (63, true)), .l (.ld1 (.t 67))⟩,
      ⟨(some 69), none, .pick (.t 63) (.t 68) (.k (.bool false))⟩])
                              (.cond (.t 69)
                                (.reg /- 20 -/ [⟨(some 70), none, .q (.mv (.t 7))⟩,
      ⟨(some 71), none, .q (.mv (.t 3))⟩,
      ⟨(some 72), none, .q (.mv (.t 8))⟩,
      ⟨(some 73), none, .l (.ia 12 (.t 71) (.t 72))⟩,
      ⟨(some 74), none, .l (.ldn 12 (.t 73))⟩,
      ⟨(some 75), none, .q (.mv (.t 3))⟩,
      ⟨(some 76), none, .q (.mv (.t 9))⟩,
      ⟨(some 77), none, .l (.ia 12 (.t 75) (.t 76))⟩,
      ⟨(some 78), none, .l (.ldn 12 (.t 77))⟩,
      ⟨(some 79), none, .q (.bd [(.int .i64 0), (.int .i64 0), (.string (mk [])), (.string (mk [])), (.bool false), (.bool false), (.bool false), (.bool false), (.int .i64 0), (.int .i64 0), (.int .i64 0), (.int .i64 0), (.int .i64 0), (.int .i64 0), (.string (mk [])), (.string (mk [])), (.bool false), (.bool false), (.bool false), (.bool false), (.int .i64 0), (.int .i64 0), (.int .i64 0), (.int .i64 0)] [(0, 12, (.t 74)), (12, 12, (.t 78))])⟩,
      ⟨(some 80), none, .e (.bsl 77 24 [(.t 79)])⟩,
      ⟨(some 81), none, .e (.ap 77 24 192 (.t 70) (.t 80))⟩,
      ⟨(some 7), none, .q (.mv (.t 81))⟩])
                                (.skip))))
                            (.reg /- 18 -/ [⟨(some 55), none, .q (.mv (.t 9))⟩,
      ⟨(some 56), none, .q (.bin .add true (.t 55) (.k (.int .i64 1)))⟩,
      ⟨(some 9), none, .q (.mv (.t 56))⟩])))))))
                  (.reg /- 15 -/ [⟨(some 49), none, .q (.mv (.t 8))⟩,
      ⟨(some 50), none, .q (.bin .add true (.t 49) (.k (.int .i64 1)))⟩,
      ⟨(some 8), none, .q (.mv (.t 50))⟩]))))))
          (.seq (.reg /- 21 -/ [⟨(some 82), none, .q (.mv (.t 7))⟩,
      ⟨(some 2), none, .q (.mv (.t 82))⟩])
            (.ret))))))
def rs28 : List RV := [.mv (.t 2)]
theorem ok28 : trFn Try.prog true ⟨fun _ _ => .own [], fun _ => false⟩ Try.f28 = some (pc28, rs28) := by kernel_rfl
/-- robotics/roboticsref53.of -/
def pc29 : PC :=
  .seq (.reg /- 0 -/ [⟨(some 3), none, .e (.bx 27 (.t 0))⟩,
      ⟨(some 4), none, .e (.bx 77 (.t 1))⟩,
      ⟨(some 6), none, .q (.mv (.k (.bool false)))⟩])
  (.seq (.reg /- 1 -/ [⟨(some 7), none, .q (.fa 0 (.t 3))⟩,
      ⟨(some 8), none, .l (.ld1 (.t 7))⟩,
      ⟨(some 9), none, .q (.mv (.t 2))⟩,
      ⟨(some 10), none, .q (.bin .eql true (.t 8) (.t 9))⟩,
      ⟨(some 11), none, .q (.mv (.t 10))⟩,
      ⟨(some 12), (some (11, true)), .q (.fa 3 (.t 3))⟩,
      ⟨(some 13), (some (11, true)), .l (.ld1 (.t 12))⟩,
      ⟨(some 14), (some (11, true)), .q (.fa 0 (.t 4))⟩,
      ⟨(some 15), (some (11, true)), .q (.fa 0 (.t 14))⟩,
      ⟨(some 16), (some (11, true)), .l (.ld1 (.t 15))⟩,
      ⟨(some 17), (some (11, true)), .q (.bin .eql true (.t 13) (.t 16))⟩,
      ⟨(some 18), none, .pick (.t 11) (.t 17) (.k (.bool false))⟩,
      ⟨(some 19), none, .q (.mv (.t 18))⟩,
      ⟨(some 20), (some (19, true)), .q (.fa 4 (.t 3))⟩,
      ⟨(some 21), (some (19, true)), .l (.ld1 (.t 20))⟩,
      ⟨(some 22), (some (19, true)), .q (.fa 12 (.t 4))⟩,
      ⟨(some 23), (some (19, true)), .q (.fa 0 (.t 22))⟩,
      ⟨(some 24), (some (19, true)), .l (.ld1 (.t 23))⟩,
      ⟨(some 25), (some (19, true)), .q (.bin .eql true (.t 21) (.t 24))⟩,
      ⟨(some 26), none, .pick (.t 19) (.t 25) (.k (.bool false))⟩,
      ⟨(some 6), none, .q (.mv (.t 26))⟩])
    (.ret))
def rs29 : List RV := [.mv (.t 6)]
theorem ok29 : trFn Try.prog true ⟨fun _ _ => .own [], fun _ => false⟩ Try.f29 = some (pc29, rs29) := by kernel_rfl
/- robotics/roboticsref53.session -/
def pc30_7 : PC :=
  .seq (.seq (.gh (.reg /- 7 -/ [⟨(some 46), none, .q (.fa 0 (.t 4))⟩,
      ⟨(some 47), none, .q (.fa 5 (.t 46))⟩,
      ⟨(some 48), none, .q (.fa 4 (.t 47))⟩,
      ⟨(some 49), none, .l (.ld1 (.t 48))⟩,
      ⟨(some 50), none, .q (.bin .lss true (.t 49) (.k (.int .i64 1)))⟩]))
  (.cond (.t 50)
    (.seq (.reg /- 8 -/ [⟨(some 51), none, .q (.mv (.t 8))⟩,
      ⟨(some 6), none, .q (.mv (.t 51))⟩])
      (.ret))
    (.skip)))
  (.seq (.reg /- 9 -/ [⟨(some 52), none, .q (.mv (.t 0))⟩,
      ⟨(some 53), none, .q (.mv (.t 2))⟩,
      ⟨(some 54), none, .l (.ia 6 (.t 52) (.t 53))⟩,
      ⟨(some 55), none, .q (.fa 1 (.t 54))⟩,
      ⟨(some 56), none, .l (.ld1 (.t 55))⟩,
      ⟨(some 9), none, .q (.mv (.t 56))⟩])
    (.seq (.seq (.reg /- 10 -/ [⟨(some 57), none, .q (.mv (.t 2))⟩,
      ⟨(some 58), none, .q (.bin .add true (.t 57) (.k (.int .i64 1)))⟩,
      ⟨(some 10), none, .q (.mv (.t 58))⟩])
      (.block 2 (.loop (.seq (.seq (.reg /- 11 -/ [⟨(some 59), none, .q (.mv (.t 10))⟩,
      ⟨(some 60), none, .q (.mv (.t 7))⟩,
      ⟨(some 61), none, .q (.bin .lss true (.t 59) (.t 60))⟩])
            (.cond (.t 61)
              (.skip)
              (.exit 2)))
            (.seq (.block 3 (.seq (.reg /- 13 -/ [⟨(some 64), none, .q (.mv (.t 0))⟩,
      ⟨(some 65), none, .q (.mv (.t 10))⟩,
      ⟨(some 66), none, .l (.ia 6 (.t 64) (.t 65))⟩,
      ⟨(some 67), none, .l (.ldn 6 (.t 66))⟩,
      ⟨(some 68), none, .l (.ldn 24 (.t 4))⟩,
      ⟨(some 69), none, .cq 29 [(.t 67), (.t 68), (.k (.int .i64 4))]⟩])
                (.cond (.t 69)
                  (.seq (.reg /- 14 -/ [⟨(some 70), none, .q (.mv (.t 8))⟩,
      ⟨(some 71), none, .q (.mv (.t 0))⟩,
      ⟨(some 72), none, .l (.ldn 24 (.t 4))⟩,
      ⟨(some 73), none, .q (.mv (.t 2))⟩,
      ⟨(some 74), none, .q (.mv (.t 7))⟩,
      ⟨(some 75), none, .q (.mv (.t 9))⟩,
      ⟨(some 76), none, .q (.mv (.t 0))⟩,
      ⟨(some 77), none, .q (.mv (.t 10))⟩,
      ⟨(some 78), none, .l (.ia 6 (.t 76) (.t 77))⟩,
      ⟨(some 79), none, .q (.fa 1 (.t 78))⟩,
      ⟨(some 80), none, .l (.ld1 (.t 79))⟩,
      ⟨(some 81), none, .q (.mv (.t 10))⟩,
      ⟨(some 82), none, .cl 51 [(.t 71), (.t 72), (.t 73), (.t 74), (.t 75), (.t 80), (.t 81)] []⟩,
      ⟨(some 83), none, .e (.ap 81 5 40 (.t 70) (.t 82))⟩,
      ⟨(some 8), none, .q (.mv (.t 83))⟩])
                    (.reg /- 15 -/ [⟨(some 84), none, .q (.mv (.t 0))⟩,
      ⟨(some 85), none, .q (.mv (.t 10))⟩,
      ⟨(some 86), none, .l (.ia 6 (.t 84) (.t 85))⟩,
      ⟨(some 87), none, .q (.fa 1 (.t 86))⟩,
      ⟨(some 88), none, .l (.ld1 (.t 87))⟩,
      ⟨(some 9), none, .q (.mv (.t 88))⟩]))
                  (.skip))))
              (.reg /- 12 -/ [⟨(some 62), none, .q (.mv (.t 10))⟩,
      ⟨(some 63), none, .q (.bin .add true (.t 62) (.k (.int .i64 1)))⟩,
      ⟨(some 10), none, .q (.mv (.t 63))⟩]))))))
      (.seq (.reg /- 16 -/ [⟨(some 89), none, .q (.mv (.t 7))⟩,
      ⟨(some 11), none, .q (.mv (.t 89))⟩])
        (.seq (.seq (.reg /- 17 -/ [⟨(some 90), none, .q (.mv (.t 11))⟩,
      ⟨(some 91), none, .q (.mv (.t 0))⟩,
      ⟨(some 92), none, .q (.lnL (.t 91))⟩,
      ⟨(some 93), none, .q (.bin .eql true (.t 90) (.t 92))⟩])
          (.cond (.t 93)
            (.reg /- 18 -/ [⟨(some 94), none, .q (.mv (.t 0))⟩,
      ⟨(some 95), none, .q (.lnL (.t 94))⟩,
      ⟨(some 96), none, .q (.bin .sub true (.t 95) (.k (.int .i64 1)))⟩,
      ⟨(some 11), none, .q (.mv (.t 96))⟩])
            (.skip)))
          (.seq (.reg /- 19 -/ [⟨(some 97), none, .q (.mv (.t 8))⟩,
      ⟨(some 98), none, .q (.mv (.t 0))⟩,
      ⟨(some 99), none, .l (.ldn 24 (.t 4))⟩,
      ⟨(some 100), none, .q (.mv (.t 2))⟩,
      ⟨(some 101), none, .q (.mv (.t 7))⟩,
      ⟨(some 102), none, .q (.mv (.t 9))⟩,
      ⟨(some 103), none, .q (.mv (.t 0))⟩,
      ⟨(some 104), none, .q (.mv (.t 11))⟩,
      ⟨(some 105), none, .l (.ia 6 (.t 103) (.t 104))⟩,
      ⟨(some 106), none, .q (.fa 1 (.t 105))⟩,
      ⟨(some 107), none, .l (.ld1 (.t 106))⟩,
      ⟨(some 108), none, .q (.mv (.t 11))⟩,
      ⟨(some 109), none, .cl 51 [(.t 98), (.t 99), (.t 100), (.t 101), (.t 102), (.t 107), (.t 108)] []⟩,
      ⟨(some 110), none, .e (.ap 81 5 40 (.t 97) (.t 109))⟩,
      ⟨(some 6), none, .q (.mv (.t 110))⟩])
            (.ret))))))
@[go_sem ↓] theorem fold30_7 (Γ : Env) (k0 : Nat) (fr : Fr) (H : Hp) (K : Ex → Fr → Hp → Prop) : vc Γ k0 pc30_7 fr H K = vcn Γ k0 pc30_7 fr H K ⟨⟩ := rfl
def pc30_4 : PC :=
  .seq (.gh (.reg /- 4 -/ [⟨(some 8), none, .q (.mv (.k (.slice none 0 0)))⟩]))
  (.seq (.seq (.gh (.reg /- 5 -/ [⟨(some 29), none, .q (.fa 0 (.t 4))⟩,
      ⟨(some 30), none, .q (.fa 5 (.t 29))⟩,
      ⟨(some 31), none, .q (.fa 0 (.t 30))⟩,
      ⟨(some 32), none, .l (.ld1 (.t 31))⟩,
      ⟨(some 33), none, .q (.mv (.t 32))⟩,
      ⟨(some 34), (some (33, true)), .q (.fa 12 (.t 4))⟩,
      ⟨(some 35), (some (33, true)), .q (.fa 5 (.t 34))⟩,
      ⟨(some 36), (some (33, true)), .q (.fa 0 (.t 35))⟩,
      ⟨(some 37), (some (33, true)), .l (.ld1 (.t 36))⟩,
      ⟨(some 38), none, .pick (.t 33) (.t 37) (.k (.bool false))⟩]))
    (.cond (.t 38)
      (.reg /- 6 -/ [⟨(some 39), none, .q (.mv (.t 8))⟩,
      ⟨(some 40), none, .q (.mv (.t 0))⟩,
      ⟨(some 41), none, .l (.ldn 24 (.t 4))⟩,
      ⟨(some 42), none, .q (.mv (.t 2))⟩,
      ⟨(some 43), none, .q (.mv (.t 7))⟩,
      ⟨(some 44), none, .cl 50 [(.t 40), (.t 41), (.t 42), (.t 43)] []⟩,
      ⟨(some 45), none, .e (.ap 81 5 40 (.t 39) (.t 44))⟩,
      ⟨(some 8), none, .q (.mv (.t 45))⟩])
      (.skip)))
    (pc30_7))
@[go_sem ↓] theorem fold30_4 (Γ : Env) (k0 : Nat) (fr : Fr) (H : Hp) (K : Ex → Fr → Hp → Prop) : vc Γ k0 pc30_4 fr H K = vcn Γ k0 pc30_4 fr H K ⟨⟩ := rfl
def pc30 : PC :=
  .seq (.reg /- 0 -/ [⟨(some 4), none, .e (.bx 77 (.t 1))⟩,
      ⟨(some 6), none, .q (.mv (.k (.slice none 0 0)))⟩])
  (.seq (.reg /- 1 -/ [⟨(some 12), none, .q (.mv (.t 2))⟩,
      ⟨(some 13), none, .q (.bin .add true (.t 12) (.k (.int .i64 1)))⟩,
      ⟨(some 7), none, .q (.mv (.t 13))⟩])
    (.seq (.block 0 (.loop (.seq (.seq (.reg /- 2 -/ [⟨(some 14), none, .q (.mv (.t 7))⟩,
      ⟨(some 15), none, .q (.mv (.t 0))⟩,
      ⟨(some 16), none, .q (.lnL (.t 15))⟩,
      ⟨(some 17), none, .q (.bin .lss true (.t 14) (.t 16))⟩,
      ⟨(some 18), none, .q (.mv (.t 17))⟩,
      ⟨(some 19), (some (18, true)), .q (.mv (.t 0))⟩,
      ⟨(some 20), (some (18, true)), .q (.mv (.t 7))⟩,
      ⟨(some 21), (some (18, true)), .l (.ia 6 (.t 19) (.t 20))⟩,
      ⟨(some 22), (some (18, true)), .l (.ldn 6 (.t 21))⟩,
      ⟨(some 23), (some (18, true)), .l (.ldn 24 (.t 4))⟩,
      ⟨(some 24), (some (18, true)), .cq 49 [(.t 22), (.t 23)]⟩,
      ⟨(some 25), (some (18, true)), .q (.not (.t 24))⟩,
      ⟨(some 26), none, .pick (.t 18) (.t 25) (.k (.bool false))⟩])
          (.cond (.t 26)
            (.skip)
            (.exit 0)))
          (.block 1 (.reg /- 3 -/ [⟨(some 27), none, .q (.mv (.t 7))⟩,
      ⟨(some 28), none, .q (.bin .add true (.t 27) (.k (.int .i64 1)))⟩,
      ⟨(some 7), none, .q (.mv (.t 28))⟩])))))
      (pc30_4)))
def rs30 : List RV := [.mv (.t 6)]
theorem ok30 : trFn Try.prog true ⟨fun r k => if r = 2 ∧ k = 10 then .q else if r = 13 ∧ k = 5 then .q else .own [], fun r => [5, 4, 7].contains r⟩ Try.f30 = some (pc30, rs30) := by kernel_rfl
/-- robotics/roboticsref53.before -/
def pc31 : PC :=
  .seq (.reg /- 0 -/ [⟨(some 2), none, .e (.bx 81 (.t 0))⟩,
      ⟨(some 3), none, .e (.bx 81 (.t 1))⟩,
      ⟨(some 4), none, .q (.mv (.k (.bool false)))⟩])
  (.seq (.seq (.reg /- 1 -/ [⟨(some 5), none, .q (.fa 0 (.t 2))⟩,
      ⟨(some 6), none, .l (.ld1 (.t 5))⟩,
      ⟨(some 7), none, .q (.fa 0 (.t 3))⟩,
      ⟨(some 8), none, .l (.ld1 (.t 7))⟩,
      ⟨(some 9), none, .q (.bin .neq true (.t 6) (.t 8))⟩])
    (.cond (.t 9)
      (.seq (.reg /- 2 -/ [⟨(some 10), none, .q (.fa 0 (.t 2))⟩,
      ⟨(some 11), none, .l (.ld1 (.t 10))⟩,
      ⟨(some 12), none, .q (.fa 0 (.t 3))⟩,
      ⟨(some 13), none, .l (.ld1 (.t 12))⟩,
      ⟨(some 14), none, .q (.bin .lss true (.t 11) (.t 13))⟩,
      ⟨(some 4), none, .q (.mv (.t 14))⟩])
        (.ret))
      (.skip)))
    (.seq (.seq (.reg /- 3 -/ [⟨(some 15), none, .q (.fa 1 (.t 2))⟩,
      ⟨(some 16), none, .q (.fa 2 (.t 15))⟩,
      ⟨(some 17), none, .l (.ld1 (.t 16))⟩,
      ⟨(some 18), none, .q (.fa 1 (.t 3))⟩,
      ⟨(some 19), none, .q (.fa 2 (.t 18))⟩,
      ⟨(some 20), none, .l (.ld1 (.t 19))⟩,
      ⟨(some 21), none, .q (.bin .neq true (.t 17) (.t 20))⟩])
      (.cond (.t 21)
        (.seq (.reg /- 4 -/ [⟨(some 22), none, .q (.fa 1 (.t 2))⟩,
      ⟨(some 23), none, .q (.fa 2 (.t 22))⟩,
      ⟨(some 24), none, .l (.ld1 (.t 23))⟩,
      ⟨(some 25), none, .q (.fa 1 (.t 3))⟩,
      ⟨(some 26), none, .q (.fa 2 (.t 25))⟩,
      ⟨(some 27), none, .l (.ld1 (.t 26))⟩,
      ⟨(some 28), none, .q (.bin .lss true (.t 24) (.t 27))⟩,
      ⟨(some 4), none, .q (.mv (.t 28))⟩])
          (.ret))
        (.skip)))
      (.seq (.seq (.reg /- 5 -/ [⟨(some 29), none, .q (.fa 1 (.t 2))⟩,
      ⟨(some 30), none, .q (.fa 3 (.t 29))⟩,
      ⟨(some 31), none, .l (.ld1 (.t 30))⟩,
      ⟨(some 32), none, .q (.fa 1 (.t 3))⟩,
      ⟨(some 33), none, .q (.fa 3 (.t 32))⟩,
      ⟨(some 34), none, .l (.ld1 (.t 33))⟩,
      ⟨(some 35), none, .q (.bin .neq true (.t 31) (.t 34))⟩])
        (.cond (.t 35)
          (.seq (.reg /- 6 -/ [⟨(some 36), none, .q (.fa 1 (.t 2))⟩,
      ⟨(some 37), none, .q (.fa 3 (.t 36))⟩,
      ⟨(some 38), none, .l (.ld1 (.t 37))⟩,
      ⟨(some 39), none, .q (.fa 1 (.t 3))⟩,
      ⟨(some 40), none, .q (.fa 3 (.t 39))⟩,
      ⟨(some 41), none, .l (.ld1 (.t 40))⟩,
      ⟨(some 42), none, .q (.bin .lss true (.t 38) (.t 41))⟩,
      ⟨(some 4), none, .q (.mv (.t 42))⟩])
            (.ret))
          (.skip)))
        (.seq (.seq (.reg /- 7 -/ [⟨(some 43), none, .q (.fa 1 (.t 2))⟩,
      ⟨(some 44), none, .q (.fa 0 (.t 43))⟩,
      ⟨(some 45), none, .l (.ld1 (.t 44))⟩,
      ⟨(some 46), none, .q (.fa 1 (.t 3))⟩,
      ⟨(some 47), none, .q (.fa 0 (.t 46))⟩,
      ⟨(some 48), none, .l (.ld1 (.t 47))⟩,
      ⟨(some 49), none, .q (.bin .neq true (.t 45) (.t 48))⟩])
          (.cond (.t 49)
            (.seq (.reg /- 8 -/ [⟨(some 50), none, .q (.fa 1 (.t 2))⟩,
      ⟨(some 51), none, .q (.fa 0 (.t 50))⟩,
      ⟨(some 52), none, .l (.ld1 (.t 51))⟩,
      ⟨(some 53), none, .q (.fa 1 (.t 3))⟩,
      ⟨(some 54), none, .q (.fa 0 (.t 53))⟩,
      ⟨(some 55), none, .l (.ld1 (.t 54))⟩,
      ⟨(some 56), none, .q (.bin .lss true (.t 52) (.t 55))⟩,
      ⟨(some 4), none, .q (.mv (.t 56))⟩])
              (.ret))
            (.skip)))
          (.seq (.reg /- 9 -/ [⟨(some 57), none, .q (.fa 1 (.t 2))⟩,
      ⟨(some 58), none, .q (.fa 1 (.t 57))⟩,
      ⟨(some 59), none, .l (.ld1 (.t 58))⟩,
      ⟨(some 60), none, .q (.fa 1 (.t 3))⟩,
      ⟨(some 61), none, .q (.fa 1 (.t 60))⟩,
      ⟨(some 62), none, .l (.ld1 (.t 61))⟩,
      ⟨(some 63), none, .q (.bin .lss true (.t 59) (.t 62))⟩,
      ⟨(some 4), none, .q (.mv (.t 63))⟩])
            (.ret))))))
def rs31 : List RV := [.mv (.t 4)]
theorem ok31 : trFn Try.prog true ⟨fun _ _ => .own [], fun _ => false⟩ Try.f31 = some (pc31, rs31) := by kernel_rfl
/-- robotics/roboticsref53.square -/
def pc35 : PC :=
  .seq (.reg /- 0 -/ [⟨(some 1), none, .e (.bx 48 (.t 0))⟩,
      ⟨(some 2), none, .q (.mv (.k (.int .i64 0)))⟩])
  (.seq (.reg /- 1 -/ [⟨(some 3), none, .q (.fa 0 (.t 1))⟩,
      ⟨(some 4), none, .l (.ld1 (.t 3))⟩,
      ⟨(some 5), none, .q (.fa 0 (.t 1))⟩,
      ⟨(some 6), none, .l (.ld1 (.t 5))⟩,
      ⟨(some 7), none, .q (.bin .mul true (.t 4) (.t 6))⟩,
      ⟨(some 8), none, .q (.fa 1 (.t 1))⟩,
      ⟨(some 9), none, .l (.ld1 (.t 8))⟩,
      ⟨(some 10), none, .q (.fa 1 (.t 1))⟩,
      ⟨(some 11), none, .l (.ld1 (.t 10))⟩,
      ⟨(some 12), none, .q (.bin .mul true (.t 9) (.t 11))⟩,
      ⟨(some 13), none, .q (.bin .add true (.t 7) (.t 12))⟩,
      ⟨(some 2), none, .q (.mv (.t 13))⟩])
    (.ret))
def rs35 : List RV := [.mv (.t 2)]
theorem ok35 : trFn Try.prog true ⟨fun _ _ => .own [], fun _ => false⟩ Try.f35 = some (pc35, rs35) := by kernel_rfl
/-- robotics/roboticsref53.floor -/
def pc36 : PC :=
  .seq (.reg /- 0 -/ [⟨(some 2), none, .q (.mv (.k (.int .i64 0)))⟩])
  (.seq (.reg /- 1 -/ [⟨(some 3), none, .q (.mv (.k (.int .i64 0)))⟩])
    (.seq (.seq (.reg /- 2 -/ [⟨(some 4), none, .q (.mv (.k (.int .i64 1073741824)))⟩])
      (.block 0 (.loop (.seq (.seq (.reg /- 3 -/ [⟨(some 5), none, .q (.mv (.t 4))⟩,
      ⟨(some 6), none, .q (.bin .gtr true (.t 5) (.k (.int .i64 0)))⟩])
            (.cond (.t 6)
              (.skip)
              (.exit 0)))
            (.seq (.block 1 (.seq (.reg /- 5 -/ [⟨(some 9), none, .q (.mv (.t 3))⟩,
      ⟨(some 10), none, .q (.mv (.t 4))⟩,
      ⟨(some 11), none, .q (.bin .add true (.t 9) (.t 10))⟩,
      ⟨(some 12), none, .q (.mv (.t 3))⟩,
      ⟨(some 13), none, .q (.mv (.t 4))⟩,
      ⟨(some 14), none, .q (.bin .add true (.t 12) (.t 13))⟩,
      ⟨(some 15), none, .q (.bin .mul true (.t 11) (.t 14))⟩,
      ⟨(some 16), none, .q (.mv (.t 0))⟩,
      ⟨(some 17), none, .q (.bin .leq true (.t 15) (.t 16))⟩])
                (.cond (.t 17)
                  (.reg /- 6 -/ [⟨(some 18), none, .q (.mv (.t 3))⟩,
      ⟨(some 19), none, .q (.mv (.t 4))⟩,
      ⟨(some 20), none, .q (.bin .add true (.t 18) (.t 19))⟩,
      ⟨(some 3), none, .q (.mv (.t 20))⟩])
                  (.skip))))
              (.reg /- 4 -/ [⟨(some 7), none, .q (.mv (.t 4))⟩,
      ⟨(some 8), none, .q (.bin .quo true (.t 7) (.k (.int .i64 2)))⟩,
      ⟨(some 4), none, .q (.mv (.t 8))⟩]))))))
      (.seq (.reg /- 7 -/ [⟨(some 21), none, .q (.mv (.t 3))⟩,
      ⟨(some 2), none, .q (.mv (.t 21))⟩])
        (.ret))))
def rs36 : List RV := [.mv (.t 2)]
theorem ok36 : trFn Try.prog true ⟨fun _ _ => .own [], fun _ => false⟩ Try.f36 = some (pc36, rs36) := by kernel_rfl
/-- robotics/roboticsref33.Terminal -/
def pc40 : PC :=
  .seq (.reg /- 0 -/ [⟨(some 2), none, .q (.mv (.k (.bool false)))⟩])
  (.seq (.reg /- 1 -/ [⟨(some 3), none, .q (.mv (.t 0))⟩,
      ⟨(some 4), none, .q (.bin .geq true (.t 3) (.k (.int .i64 4)))⟩,
      ⟨(some 5), none, .q (.mv (.t 4))⟩,
      ⟨(some 6), (some (5, true)), .q (.mv (.t 0))⟩,
      ⟨(some 7), (some (5, true)), .q (.bin .leq true (.t 6) (.k (.int .i64 7)))⟩,
      ⟨(some 8), none, .pick (.t 5) (.t 7) (.k (.bool false))⟩,
      ⟨(some 2), none, .q (.mv (.t 8))⟩])
    (.ret))
def rs40 : List RV := [.mv (.t 2)]
theorem ok40 : trFn Try.prog true ⟨fun _ _ => .own [], fun _ => false⟩ Try.f40 = some (pc40, rs40) := by kernel_rfl
/-- robotics/roboticsref53.ends -/
def pc49 : PC :=
  .seq (.reg /- 0 -/ [⟨(some 2), none, .e (.bx 27 (.t 0))⟩,
      ⟨(some 3), none, .e (.bx 77 (.t 1))⟩,
      ⟨(some 4), none, .q (.mv (.k (.bool false)))⟩])
  (.seq (.reg /- 1 -/ [⟨(some 5), none, .l (.ldn 6 (.t 2))⟩,
      ⟨(some 6), none, .l (.ldn 24 (.t 3))⟩,
      ⟨(some 7), none, .cq 29 [(.t 5), (.t 6), (.k (.int .i64 1))]⟩,
      ⟨(some 8), none, .q (.mv (.t 7))⟩,
      ⟨(some 9), (some (8, false)), .l (.ldn 6 (.t 2))⟩,
      ⟨(some 10), (some (8, false)), .l (.ldn 24 (.t 3))⟩,
      ⟨(some 11), (some (8, false)), .cq 29 [(.t 9), (.t 10), (.k (.int .i64 3))]⟩,
      ⟨(some 12), none, .pick (.t 8) (.k (.bool true)) (.t 11)⟩,
      ⟨(some 13), none, .q (.mv (.t 12))⟩,
      ⟨(some 14), (some (13, false)), .q (.fa 0 (.t 2))⟩,
      ⟨(some 15), (some (13, false)), .l (.ld1 (.t 14))⟩,
      ⟨(some 16), (some (13, false)), .q (.bin .eql true (.t 15) (.k (.int .i64 10)))⟩,
      ⟨(some 17), (some (13, false)), .q (.mv (.t 16))⟩,
      ⟨(some 18), (some (17, true)), .q (.fa 2 (.t 2))⟩,
      ⟨(some 19), (some (17, true)), .l (.ld1 (.t 18))⟩,
      ⟨(some 20), (some (17, true)), .q (.fa 0 (.t 3))⟩,
      ⟨(some 21), (some (17, true)), .q (.fa 1 (.t 20))⟩,
      ⟨(some 22), (some (17, true)), .l (.ld1 (.t 21))⟩,
      ⟨(some 23), (some (17, true)), .q (.bin .eql true (.t 19) (.t 22))⟩,
      ⟨(some 24), (some (13, false)), .pick (.t 17) (.t 23) (.k (.bool false))⟩,
      ⟨(some 25), none, .pick (.t 13) (.k (.bool true)) (.t 24)⟩,
      ⟨(some 4), none, .q (.mv (.t 25))⟩])
    (.ret))
def rs49 : List RV := [.mv (.t 4)]
theorem ok49 : trFn Try.prog true ⟨fun r k => if r = 1 ∧ k = 2 then .q else if r = 1 ∧ k = 6 then .q else .own [], fun _ => false⟩ Try.f49 = some (pc49, rs49) := by kernel_rfl
/-- robotics/roboticsref53.reliable -/
def pc50 : PC :=
  .seq (.reg /- 0 -/ [⟨(some 5), none, .e (.bx 77 (.t 1))⟩,
      ⟨(some 8), none, .q (.mv (.k (.slice none 0 0)))⟩])
  (.seq (.reg /- 1 -/ [⟨(some 9), none, .q (.mv (.k (.slice none 0 0)))⟩])
    (.seq (.reg /- 2 -/ [⟨(some 10), none, .q (.mv (.k (.slice none 0 0)))⟩])
      (.seq (.reg /- 3 -/ [⟨(some 11), none, .q (.mv (.k (.int .i64 0)))⟩])
        (.seq (.seq (.reg /- 4 -/ [⟨(some 16), none, .q (.mv (.t 2))⟩,
      ⟨(some 17), none, .q (.bin .add true (.t 16) (.k (.int .i64 1)))⟩,
      ⟨(some 12), none, .q (.mv (.t 17))⟩])
          (.block 0 (.loop (.seq (.seq (.reg /- 5 -/ [⟨(some 18), none, .q (.mv (.t 12))⟩,
      ⟨(some 19), none, .q (.mv (.t 3))⟩,
      ⟨(some 20), none, .q (.bin .lss true (.t 18) (.t 19))⟩])
                (.cond (.t 20)
                  (.skip)
                  (.exit 0)))
                (.seq (.block 1 (.seq (.seq (.reg /- 7 -/ [⟨(some 23), none, .q (.mv (.t 0))⟩,
      ⟨(some 24), none, .q (.mv (.t 12))⟩,
      ⟨(some 25), none, .l (.ia 6 (.t 23) (.t 24))⟩,
      ⟨(some 26), none, .l (.ldn 6 (.t 25))⟩,
      ⟨(some 27), none, .l (.ldn 24 (.t 5))⟩,
      ⟨(some 28), none, .cq 29 [(.t 26), (.t 27), (.k (.int .i64 4))]⟩,
      ⟨(some 29), none, .q (.not (.t 28))⟩,
      ⟨(some 30), none, .q (.mv (.t 29))⟩,
      ⟨(some 31), (some (30, true)), .q (.mv (.t 0))⟩,
      ⟨(some 32), (some (30, true)), .q (.mv (.t 12))⟩,
      ⟨(some 33), (some (30, true)), .l (.ia 6 (.t 31) (.t 32))⟩,
      ⟨(some 34), (some (30, true)), .l (.ldn 6 (.t 33))⟩,
      ⟨(some 35), (some (30, true)), .l (.ldn 24 (.t 5))⟩,
      ⟨(some 36), (some (30, true)), .cq 29 [(.t 34), (.t 35), (.k (.int .i64 5))]⟩,
      ⟨(some 37), (some (30, true)), .q (.not (.t 36))⟩,
      ⟨(some 38), none, .pick (.t 30) (.t 37) (.k (.bool false))⟩])
                    (.cond (.t 38)
                      (.exit 1)
                      (.skip)))
                    (.seq (.reg /- 8 -/ [⟨(some 39), none, .q (.mv (.t 0))⟩,
      ⟨(some 40), none, .q (.mv (.t 12))⟩,
      ⟨(some 41), none, .l (.ia 6 (.t 39) (.t 40))⟩,
      ⟨(some 42), none, .q (.fa 5 (.t 41))⟩,
      ⟨(some 43), none, .l (.ld1 (.t 42))⟩,
      ⟨(some 13), none, .q (.mv (.t 43))⟩])
                      (.seq (.reg /- 9 -/ [⟨(some 14), none, .q (.mv (.k (.int .i64 0)))⟩])
                        (.seq (.seq (.reg /- 10 -/ [⟨(some 44), none, .q (.mv (.t 10))⟩,
      ⟨(some 45), none, .q (.lnL (.t 44))⟩,
      ⟨(some 46), none, .q (.bin .gtr true (.t 45) (.k (.int .i64 0)))⟩,
      ⟨(some 47), none, .q (.mv (.t 46))⟩,
      ⟨(some 48), (some (47, true)), .q (.mv (.t 13))⟩,
      ⟨(some 49), (some (47, true)), .q (.mv (.t 11))⟩,
      ⟨(some 50), (some (47, true)), .q (.bin .leq true (.t 48) (.t 49))⟩,
      ⟨(some 51), none, .pick (.t 47) (.t 50) (.k (.bool false))⟩])
                          (.cond (.t 51)
                            (.seq (.reg /- 11 -/ [⟨(some 14), none, .q (.mv (.k (.int .i64 3)))⟩])
                              (.seq (.reg /- 12 -/ [⟨(some 15), none, .q (.mv (.k (.int .i64 0)))⟩])
                                (.block 2 (.loop (.seq (.seq (.reg /- 13 -/ [⟨(some 52), none, .q (.mv (.t 15))⟩,
      ⟨(some 53), none, .q (.mv (.t 10))⟩,
      ⟨(some 54), none, .q (.lnL (.t 53))⟩,
      ⟨(some 55), none, .q (.bin .lss true (.t 52) (.t 54))⟩])
                                      (.cond (.t 55)
                                        (.skip)
                                        (.exit 2)))
                                      (.seq (.block 3 (.seq (.reg /- 15 -/ [⟨(some 58), none, .q (.mv (.t 10))⟩,
      ⟨(some 59), none, .q (.mv (.t 15))⟩,
      ⟨(some 60), none, .l (.ia 6 (.t 58) (.t 59))⟩,
      ⟨(some 61), none, .q (.fa 5 (.t 60))⟩,
      ⟨(some 62), none, .l (.ld1 (.t 61))⟩,
      ⟨(some 63), none, .q (.mv (.t 13))⟩,
      ⟨(some 64), none, .q (.bin .eql true (.t 62) (.t 63))⟩])
                                          (.cond (.t 64)
                                            (.reg /- 16 -/ [⟨(some 14), none, .q (.mv (.k (.int .i64 2)))⟩])
                                            (.skip))))
                                        (.reg /- 14 -/ [⟨(some 56), none, .q (.mv (.t 15))⟩,
      ⟨(some 57), none, .q (.bin .add true (.t 56) (.k (.int .i64 1)))⟩,
      ⟨(some 15), none, .q (.mv (.t 57))⟩])))))))
                            (.seq (.reg /- 17 -/ [⟨(some 65), none, .q (.mv (.t 10))⟩,
      ⟨(some 66), none, .q (.lnL (.t 65))⟩,
      ⟨(some 67), none, .q (.bin .gtr true (.t 66) (.k (.int .i64 0)))⟩,
      ⟨(some 68), none, .q (.mv (.t 67))⟩,
      ⟨(some 69), (some (68, true)), .q (.mv (.t 13))⟩,
      ⟨(some 70), (some (68, true)), .q (.bin .sub true (.t 69) (.k (.int .i64 1)))⟩,
      ⟨(some 71), (some (68, true)), .q (.mv (.t 11))⟩,
      ⟨(some 72), (some (68, true)), .q (.bin .gtr true (.t 70) (.t 71))⟩,
      ⟨(some 73), none, .pick (.t 68) (.t 72) (.k (.bool false))⟩])
                              (.cond (.t 73)
                                (.reg /- 18 -/ [⟨(some 14), none, .q (.mv (.k (.int .i64 1)))⟩])
                                (.skip)))))
                          (.seq (.seq (.reg /- 19 -/ [⟨(some 74), none, .q (.mv (.t 14))⟩,
      ⟨(some 75), none, .q (.bin .gtr true (.t 74) (.k (.int .i64 0)))⟩])
                            (.cond (.t 75)
                              (.reg /- 20 -/ [⟨(some 76), none, .q (.mv (.t 9))⟩,
      ⟨(some 77), none, .q (.mv (.t 12))⟩,
      ⟨(some 78), none, .q (.mv (.t 14))⟩,
      ⟨(some 79), none, .q (.mv (.t 0))⟩,
      ⟨(some 80), none, .q (.mv (.t 12))⟩,
      ⟨(some 81), none, .l (.ia 6 (.t 79) (.t 80))⟩,
      ⟨(some 82), none, .q (.fa 1 (.t 81))⟩,
      ⟨(some 83), none, .l (.ld1 (.t 82))⟩,
      ⟨(some 84), none, .q (.fa 0 (.t 5))⟩,
      ⟨(some 85), none, .q (.fa 0 (.t 84))⟩,
      ⟨(some 86), none, .l (.ld1 (.t 85))⟩,
      ⟨(some 87), none, .q (.fa 12 (.t 5))⟩,
      ⟨(some 88), none, .q (.fa 0 (.t 87))⟩,
      ⟨(some 89), none, .l (.ld1 (.t 88))⟩,
      ⟨(some 90), none, .q (.bd [(.int .i64 0), (.int .i64 0), (.int .i64 0), (.int .i64 0)] [(0, 1, (.t 78)), (1, 1, (.t 83)), (2, 1, (.t 86)), (3, 1, (.t 89))])⟩,
      ⟨(some 91), none, .q (.bd [(.int .i64 0), (.int .i64 0), (.int .i64 0), (.int .i64 0), (.int .i64 0)] [(0, 1, (.t 77)), (1, 4, (.t 90))])⟩,
      ⟨(some 92), none, .e (.bsl 81 5 [(.t 91)])⟩,
      ⟨(some 93), none, .e (.ap 81 5 40 (.t 76) (.t 92))⟩,
      ⟨(some 9), none, .q (.mv (.t 93))⟩])
                              (.skip)))
                            (.seq (.seq (.reg /- 21 -/ [⟨(some 94), none, .q (.mv (.t 10))⟩,
      ⟨(some 95), none, .q (.lnL (.t 94))⟩,
      ⟨(some 96), none, .q (.bin .eql true (.t 95) (.k (.int .i64 0)))⟩,
      ⟨(some 97), none, .q (.mv (.t 96))⟩,
      ⟨(some 98), (some (97, false)), .q (.mv (.t 13))⟩,
      ⟨(some 99), (some (97, false)), .q (.mv (.t 11))⟩,
      ⟨(some 100), (some (97, false)), .q (.bin .gtr true (.t 98) (.t 99))⟩,
      ⟨(some 101), none, .pick (.t 97) (.k (.bool true)) (.t 100)⟩])
                              (.cond (.t 101)
                                (.reg /- 22 -/ [⟨(some 102), none, .q (.mv (.t 13))⟩,
      ⟨(some 11), none, .q (.mv (.t 102))⟩])
                                (.skip)))
                              (.reg /- 23 -/ [⟨(some 103), none, .q (.mv (.t 10))⟩,
      ⟨(some 104), none, .q (.mv (.t 0))⟩,
      ⟨(some 105), none, .q (.mv (.t 12))⟩,
      ⟨(some 106), none, .l (.ia 6 (.t 104) (.t 105))⟩,
      ⟨(some 107), none, .l (.ldn 6 (.t 106))⟩,
      ⟨(some 108), none, .e (.bsl 27 6 [(.t 107)])⟩,
      ⟨(some 109), none, .e (.ap 27 6 48 (.t 103) (.t 108))⟩,
      ⟨(some 10), none, .q (.mv (.t 109))⟩]))))))))
                  (.reg /- 6 -/ [⟨(some 21), none, .q (.mv (.t 12))⟩,
      ⟨(some 22), none, .q (.bin .add true (.t 21) (.k (.int .i64 1)))⟩,
      ⟨(some 12), none, .q (.mv (.t 22))⟩]))))))
          (.seq (.reg /- 24 -/ [⟨(some 110), none, .q (.mv (.t 9))⟩,
      ⟨(some 8), none, .q (.mv (.t 110))⟩])
            (.ret))))))
def rs50 : List RV := [.mv (.t 8)]
theorem ok50 : trFn Try.prog true ⟨fun r k => if r = 7 ∧ k = 5 then .q else if r = 7 ∧ k = 13 then .q else .own [], fun _ => false⟩ Try.f50 = some (pc50, rs50) := by kernel_rfl
/-- robotics/roboticsref53.missing -/
def pc51 : PC :=
  .seq (.reg /- 0 -/ [⟨(some 8), none, .e (.bx 77 (.t 1))⟩,
      ⟨(some 14), none, .q (.mv (.k (.slice none 0 0)))⟩])
  (.seq (.reg /- 1 -/ [⟨(some 15), none, .q (.mv (.k (.slice none 0 0)))⟩])
    (.seq (.seq (.reg /- 2 -/ [⟨(some 16), none, .q (.mv (.k (.int .i64 1)))⟩])
      (.block 0 (.loop (.seq (.seq (.reg /- 3 -/ [⟨(some 20), none, .q (.mv (.t 16))⟩,
      ⟨(some 21), none, .q (.bin .leq true (.t 20) (.k (.int .i64 1000)))⟩,
      ⟨(some 22), none, .q (.mv (.t 21))⟩,
      ⟨(some 23), (some (22, true)), .q (.mv (.t 4))⟩,
      ⟨(some 24), (some (22, true)), .q (.mv (.t 16))⟩,
      ⟨(some 25), (some (22, true)), .q (.fa 0 (.t 8))⟩,
      ⟨(some 26), (some (22, true)), .q (.fa 5 (.t 25))⟩,
      ⟨(some 27), (some (22, true)), .q (.fa 4 (.t 26))⟩,
      ⟨(some 28), (some (22, true)), .l (.ld1 (.t 27))⟩,
      ⟨(some 29), (some (22, true)), .q (.bin .mul true (.t 24) (.t 28))⟩,
      ⟨(some 30), (some (22, true)), .q (.bin .add true (.t 23) (.t 29))⟩,
      ⟨(some 31), (some (22, true)), .q (.mv (.t 5))⟩,
      ⟨(some 32), (some (22, true)), .q (.bin .lss true (.t 30) (.t 31))⟩,
      ⟨(some 33), none, .pick (.t 22) (.t 32) (.k (.bool false))⟩])
            (.cond (.t 33)
              (.skip)
              (.exit 0)))
            (.seq (.block 1 (.seq (.reg /- 5 -/ [⟨(some 36), none, .q (.mv (.t 4))⟩,
      ⟨(some 37), none, .q (.mv (.t 16))⟩,
      ⟨(some 38), none, .q (.fa 0 (.t 8))⟩,
      ⟨(some 39), none, .q (.fa 5 (.t 38))⟩,
      ⟨(some 40), none, .q (.fa 4 (.t 39))⟩,
      ⟨(some 41), none, .l (.ld1 (.t 40))⟩,
      ⟨(some 42), none, .q (.bin .mul true (.t 37) (.t 41))⟩,
      ⟨(some 43), none, .q (.bin .add true (.t 36) (.t 42))⟩,
      ⟨(some 17), none, .q (.mv (.t 43))⟩])
                (.seq (.reg /- 6 -/ [⟨(some 18), none, .q (.mv (.k (.bool false)))⟩])
                  (.seq (.seq (.reg /- 7 -/ [⟨(some 44), none, .q (.mv (.t 2))⟩,
      ⟨(some 45), none, .q (.bin .add true (.t 44) (.k (.int .i64 1)))⟩,
      ⟨(some 19), none, .q (.mv (.t 45))⟩])
                    (.block 2 (.loop (.seq (.seq (.reg /- 8 -/ [⟨(some 46), none, .q (.mv (.t 19))⟩,
      ⟨(some 47), none, .q (.mv (.t 3))⟩,
      ⟨(some 48), none, .q (.bin .lss true (.t 46) (.t 47))⟩])
                          (.cond (.t 48)
                            (.skip)
                            (.exit 2)))
                          (.seq (.block 3 (.reg /- 10 -/ [⟨(some 51), none, .q (.mv (.t 18))⟩,
      ⟨(some 52), none, .q (.mv (.t 51))⟩,
      ⟨(some 53), (some (52, false)), .q (.mv (.t 0))⟩,
      ⟨(some 54), (some (52, false)), .q (.mv (.t 19))⟩,
      ⟨(some 55), (some (52, false)), .l (.ia 6 (.t 53) (.t 54))⟩,
      ⟨(some 56), (some (52, false)), .l (.ldn 6 (.t 55))⟩,
      ⟨(some 57), (some (52, false)), .l (.ldn 24 (.t 8))⟩,
      ⟨(some 58), (some (52, false)), .cq 29 [(.t 56), (.t 57), (.k (.int .i64 7))]⟩,
      ⟨(some 59), (some (52, false)), .q (.mv (.t 58))⟩,
      ⟨(some 60), (some (59, true)), .q (.mv (.t 0))⟩,
      ⟨(some 61), (some (59, true)), .q (.mv (.t 19))⟩,
      ⟨(some 62), (some (59, true)), .l (.ia 6 (.t 60) (.t 61))⟩,
      ⟨(some 63), (some (59, true)), .q (.fa 1 (.t 62))⟩,
      ⟨(some 64), (some (59, true)), .l (.ld1 (.t 63))⟩,
      ⟨(some 65), (some (59, true)), .q (.mv (.t 17))⟩,
      ⟨(some 66), (some (59, true)), .q (.bin .eql true (.t 64) (.t 65))⟩,
      ⟨(some 67), (some (52, false)), .pick (.t 59) (.t 66) (.k (.bool false))⟩,
      ⟨(some 68), none, .pick (.t 52) (.k (.bool true)) (.t 67)⟩,
      ⟨(some 18), none, .q (.mv (.t 68))⟩]))
                            (.reg /- 9 -/ [⟨(some 49), none, .q (.mv (.t 19))⟩,
      ⟨(some 50), none, .q (.bin .add true (.t 49) (.k (.int .i64 1)))⟩,
      ⟨(some 19), none, .q (.mv (.t 50))⟩]))))))
                    (.seq (.reg /- 11 -/ [⟨(some 69), none, .q (.mv (.t 18))⟩,
      ⟨(some 70), none, .q (.not (.t 69))⟩])
                      (.cond (.t 70)
                        (.reg /- 12 -/ [⟨(some 71), none, .q (.mv (.t 15))⟩,
      ⟨(some 72), none, .q (.mv (.t 6))⟩,
      ⟨(some 73), none, .q (.mv (.t 17))⟩,
      ⟨(some 74), none, .q (.fa 0 (.t 8))⟩,
      ⟨(some 75), none, .q (.fa 0 (.t 74))⟩,
      ⟨(some 76), none, .l (.ld1 (.t 75))⟩,
      ⟨(some 77), none, .q (.fa 12 (.t 8))⟩,
      ⟨(some 78), none, .q (.fa 0 (.t 77))⟩,
      ⟨(some 79), none, .l (.ld1 (.t 78))⟩,
      ⟨(some 80), none, .q (.bd [(.int .i64 0), (.int .i64 0), (.int .i64 0), (.int .i64 0)] [(0, 1, (.k (.int .i64 4))), (1, 1, (.t 73)), (2, 1, (.t 76)), (3, 1, (.t 79))])⟩,
      ⟨(some 81), none, .q (.bd [(.int .i64 0), (.int .i64 0), (.int .i64 0), (.int .i64 0), (.int .i64 0)] [(0, 1, (.t 72)), (1, 4, (.t 80))])⟩,
      ⟨(some 82), none, .e (.bsl 81 5 [(.t 81)])⟩,
      ⟨(some 83), none, .e (.ap 81 5 40 (.t 71) (.t 82))⟩,
      ⟨(some 15), none, .q (.mv (.t 83))⟩])
                        (.skip)))))))
              (.reg /- 4 -/ [⟨(some 34), none, .q (.mv (.t 16))⟩,
      ⟨(some 35), none, .q (.bin .add true (.t 34) (.k (.int .i64 1)))⟩,
      ⟨(some 16), none, .q (.mv (.t 35))⟩]))))))
      (.seq (.reg /- 13 -/ [⟨(some 84), none, .q (.mv (.t 15))⟩,
      ⟨(some 14), none, .q (.mv (.t 84))⟩])
        (.ret))))
def rs51 : List RV := [.mv (.t 14)]
theorem ok51 : trFn Try.prog true ⟨fun r k => if r = 10 ∧ k = 7 then .q else .own [], fun _ => false⟩ Try.f51 = some (pc51, rs51) := by kernel_rfl
end Go.Proofs.Ytdnohfhpbhlpaaa
/- The reference's Name. -/
namespace Go.Proofs.Ytdnohfhpbhlpaaa
open Go.W
set_option maxHeartbeats 1000000 in
theorem mRName : Meets Try.prog 19 (i1Fn fun n => .string (nmF n)).sp := by
  refine meets_fn Try.func19 ok19 1 (by rw [Try.ntmps19]; decide) (meetsAll_nil _) i1Fn_len ?_
  rintro xs H K ⟨⟨h, rfl⟩, hK⟩
  obtain ⟨n, rfl⟩ := i1Pre_open h
  have hK' : K (.va (.c1 (.vl (.string (nmF n))))) [] := hK
  clear hK h
  by_cases h1 : n < 0
  · have g1 : decide (n < 0) = true := by simpa using h1
    have g2 : decide (n < 1) = true := by simp; omega
    have : nmF n = mk [] := by unfold nmF; rw [g2]; rfl
    rw [this] at hK'
    simp -dsimp only [go_sem, pc19, rs19, g1]
    exact .sel [] (by simp) (by simp) rfl (.done hK')
  have g1 : decide (n < 0) = false := by simpa using h1
  by_cases h2 : 10 < n
  · have g2 : decide (10 < n) = true := by simpa using h2
    have g3 : decide (n < 1) = false := by simp; omega
    have : nmF n = mk [] := by unfold nmF; rw [g3, g2]; rfl
    rw [this] at hK'
    simp -dsimp only [go_sem, pc19, rs19, g1, g2]
    exact .sel [] (by simp) (by simp) rfl (.done hK')
  have : n = 0 ∨ n = 1 ∨ n = 2 ∨ n = 3 ∨ n = 4 ∨ n = 5 ∨ n = 6 ∨ n = 7 ∨ n = 8 ∨ n = 9 ∨ n = 10 := by omega
  clear g1 h1 h2
  rcases this with rfl | rfl | rfl | rfl | rfl | rfl | rfl | rfl | rfl | rfl | rfl <;>
  · simp -dsimp only [go_sem, pc19, rs19]
    refine ⟨fun h => absurd h (by decide), fun _ => ⟨by decide, ?_⟩⟩
    rintro r rfl
    exact .sel [] (by simp) (by simp) rfl (.done hK')
end Go.Proofs.Ytdnohfhpbhlpaaa
namespace Go.Proofs.Ytdnohfhpbhlpaaa
open Go.W
/-- robotics/roboticslaw53.AuditContracts -/
def pc3 : PC :=
  .seq (.reg /- 0 -/ [⟨(some 4), none, .q (.mv (.k (.bool false)))⟩])
  (.seq (.seq (.reg /- 1 -/ [⟨(some 8), none, .q (.mv (.t 0))⟩,
      ⟨(some 9), none, .q (.mv (.t 1))⟩,
      ⟨(some 10), none, .cq 8 [(.t 8), (.t 9)]⟩,
      ⟨(some 11), none, .q (.not (.t 10))⟩])
    (.cond (.t 11)
      (.seq (.reg /- 2 -/ [⟨(some 12), none, .cq 9 []⟩,
      ⟨(some 4), none, .q (.mv (.t 12))⟩])
        (.ret))
      (.skip)))
    (.seq (.seq (.reg /- 3 -/ [⟨(some 5), none, .q (.mv (.k (.int .i64 0)))⟩])
      (.block 0 (.loop (.seq (.seq (.reg /- 4 -/ [⟨(some 13), none, .q (.mv (.t 5))⟩,
      ⟨(some 14), none, .q (.mv (.t 0))⟩,
      ⟨(some 15), none, .q (.lnL (.t 14))⟩,
      ⟨(some 16), none, .q (.bin .lss true (.t 13) (.t 15))⟩])
            (.cond (.t 16)
              (.skip)
              (.exit 0)))
            (.seq (.block 1 (.seq (.reg /- 6 -/ [⟨(some 19), none, .q (.mv (.t 0))⟩,
      ⟨(some 20), none, .q (.mv (.t 5))⟩,
      ⟨(some 21), none, .l (.ia 6 (.t 19) (.t 20))⟩,
      ⟨(some 22), none, .q (.fa 5 (.t 21))⟩,
      ⟨(some 23), none, .l (.ld1 (.t 22))⟩,
      ⟨(some 24), none, .q (.bin .lss true (.t 23) (.k (.int .i64 (-1000000000000))))⟩,
      ⟨(some 25), none, .q (.mv (.t 24))⟩,
      ⟨(some 26), (some (25, false)), .q (.mv (.t 0))⟩,
      ⟨(some 27), (some (25, false)), .q (.mv (.t 5))⟩,
      ⟨(some 28), (some (25, false)), .l (.ia 6 (.t 26) (.t 27))⟩,
      ⟨(some 29), (some (25, false)), .q (.fa 5 (.t 28))⟩,
      ⟨(some 30), (some (25, false)), .l (.ld1 (.t 29))⟩,
      ⟨(some 31), (some (25, false)), .q (.bin .gtr true (.t 30) (.k (.int .i64 1000000000000)))⟩,
      ⟨(some 32), none, .pick (.t 25) (.k (.bool true)) (.t 31)⟩])
                (.cond (.t 32)
                  (.seq (.reg /- 7 -/ [⟨(some 33), none, .cq 9 []⟩,
      ⟨(some 4), none, .q (.mv (.t 33))⟩])
                    (.ret))
                  (.skip))))
              (.reg /- 5 -/ [⟨(some 17), none, .q (.mv (.t 5))⟩,
      ⟨(some 18), none, .q (.bin .add true (.t 17) (.k (.int .i64 1)))⟩,
      ⟨(some 5), none, .q (.mv (.t 18))⟩]))))))
      (.seq (.seq (.reg /- 8 -/ [⟨(some 6), none, .q (.mv (.k (.int .i64 0)))⟩])
        (.block 2 (.loop (.seq (.seq (.reg /- 9 -/ [⟨(some 34), none, .q (.mv (.t 6))⟩,
      ⟨(some 35), none, .q (.mv (.t 1))⟩,
      ⟨(some 36), none, .q (.lnL (.t 35))⟩,
      ⟨(some 37), none, .q (.bin .lss true (.t 34) (.t 36))⟩,
      ⟨(some 38), none, .q (.mv (.t 37))⟩,
      ⟨(some 39), (some (38, true)), .q (.mv (.t 0))⟩,
      ⟨(some 40), (some (38, true)), .q (.lnL (.t 39))⟩,
      ⟨(some 41), (some (38, true)), .q (.bin .gtr true (.t 40) (.k (.int .i64 0)))⟩,
      ⟨(some 42), none, .pick (.t 38) (.t 41) (.k (.bool false))⟩])
              (.cond (.t 42)
                (.skip)
                (.exit 2)))
              (.seq (.block 3 (.seq (.reg /- 11 -/ [⟨(some 45), none, .q (.mv (.t 1))⟩,
      ⟨(some 46), none, .q (.mv (.t 6))⟩,
      ⟨(some 47), none, .l (.ia 12 (.t 45) (.t 46))⟩,
      ⟨(some 48), none, .q (.fa 5 (.t 47))⟩,
      ⟨(some 49), none, .q (.fa 4 (.t 48))⟩,
      ⟨(some 50), none, .l (.ld1 (.t 49))⟩,
      ⟨(some 7), none, .q (.mv (.t 50))⟩])
                  (.seq (.reg /- 12 -/ [⟨(some 51), none, .q (.mv (.t 7))⟩,
      ⟨(some 52), none, .q (.bin .gtr true (.t 51) (.k (.int .i64 0)))⟩,
      ⟨(some 53), none, .q (.mv (.t 52))⟩,
      ⟨(some 54), (some (53, true)), .q (.mv (.t 0))⟩,
      ⟨(some 55), (some (53, true)), .q (.mv (.t 0))⟩,
      ⟨(some 56), (some (53, true)), .q (.lnL (.t 55))⟩,
      ⟨(some 57), (some (53, true)), .q (.bin .sub true (.t 56) (.k (.int .i64 1)))⟩,
      ⟨(some 58), (some (53, true)), .l (.ia 6 (.t 54) (.t 57))⟩,
      ⟨(some 59), (some (53, true)), .q (.fa 1 (.t 58))⟩,
      ⟨(some 60), (some (53, true)), .l (.ld1 (.t 59))⟩,
      ⟨(some 61), (some (53, true)), .q (.mv (.t 0))⟩,
      ⟨(some 62), (some (53, true)), .l (.ia 6 (.t 61) (.k (.int .i64 0)))⟩,
      ⟨(some 63), (some (53, true)), .q (.fa 1 (.t 62))⟩,
      ⟨(some 64), (some (53, true)), .l (.ld1 (.t 63))⟩,
      ⟨(some 65), (some (53, true)), .q (.bin .sub true (.t 60) (.t 64))⟩,
      ⟨(some 66), (some (53, true)), .q (.mv (.t 7))⟩,
      ⟨(some 67), (some (53, true)), .q (.bin .quo true (.t 65) (.t 66))⟩,
      ⟨(some 68), (some (53, true)), .q (.bin .gtr true (.t 67) (.k (.int .i64 300)))⟩,
      ⟨(some 69), none, .pick (.t 53) (.t 68) (.k (.bool false))⟩])
                    (.cond (.t 69)
                      (.seq (.reg /- 13 -/ [⟨(some 70), none, .cq 9 []⟩,
      ⟨(some 4), none, .q (.mv (.t 70))⟩])
                        (.ret))
                      (.skip)))))
                (.reg /- 10 -/ [⟨(some 43), none, .q (.mv (.t 6))⟩,
      ⟨(some 44), none, .q (.bin .add true (.t 43) (.k (.int .i64 1)))⟩,
      ⟨(some 6), none, .q (.mv (.t 44))⟩]))))))
        (.seq (.reg /- 14 -/ [⟨(some 71), none, .q (.mv (.t 0))⟩,
      ⟨(some 72), none, .q (.mv (.t 1))⟩,
      ⟨(some 73), none, .cl 12 [(.t 71), (.t 72)] []⟩,
      ⟨(some 74), none, .cl 11 [(.t 73)] []⟩,
      ⟨(some 75), none, .q (.mv (.t 0))⟩,
      ⟨(some 76), none, .q (.mv (.t 1))⟩,
      ⟨(some 77), none, .cl 13 [(.t 75), (.t 76)] []⟩,
      ⟨(some 78), none, .cq 10 [(.t 74), (.t 77)]⟩,
      ⟨(some 79), none, .q (.mv (.t 78))⟩,
      ⟨(some 80), (some (79, true)), .cq 9 []⟩,
      ⟨(some 81), none, .pick (.t 79) (.t 80) (.k (.bool false))⟩,
      ⟨(some 4), none, .q (.mv (.t 81))⟩])
          (.ret)))))
def rs3 : List RV := [.mv (.t 4)]
theorem ok3 : trFn Try.prog true ⟨fun r k => if r = 1 ∧ k = 2 then .q else if r = 2 ∧ k = 0 then .q else if r = 7 ∧ k = 0 then .q else if r = 13 ∧ k = 0 then .q else if r = 14 ∧ k = 7 then .q else if r = 14 ∧ k = 9 then .q else .own [], fun _ => false⟩ Try.f3 = some (pc3, rs3) := by kernel_rfl
/-- robotics/roboticslaw53.AuditCatches -/
def pc4 : PC :=
  .seq (.reg /- 0 -/ [⟨(some 6), none, .q (.mv (.k (.bool false)))⟩])
  (.seq (.reg /- 1 -/ [⟨(some 14), none, .q (.mv (.t 0))⟩,
      ⟨(some 15), none, .q (.cvt .i64 (.t 14))⟩,
      ⟨(some 16), none, .q (.bin .rem true (.t 15) (.k (.int .i64 40)))⟩,
      ⟨(some 17), none, .q (.bin .add true (.k (.int .i64 3)) (.t 16))⟩,
      ⟨(some 7), none, .q (.mv (.t 17))⟩])
    (.seq (.reg /- 2 -/ [⟨(some 18), none, .q (.mv (.t 1))⟩,
      ⟨(some 19), none, .q (.cvt .i64 (.t 18))⟩,
      ⟨(some 20), none, .q (.mv (.t 7))⟩,
      ⟨(some 21), none, .q (.bin .sub true (.t 20) (.k (.int .i64 2)))⟩,
      ⟨(some 22), none, .q (.bin .rem true (.t 19) (.t 21))⟩,
      ⟨(some 23), none, .q (.bin .add true (.k (.int .i64 2)) (.t 22))⟩,
      ⟨(some 8), none, .q (.mv (.t 23))⟩])
      (.seq (.reg /- 3 -/ [⟨(some 24), none, .q (.mv (.t 2))⟩,
      ⟨(some 25), none, .q (.cvt .i64 (.t 24))⟩,
      ⟨(some 26), none, .q (.bd [(.int .i64 0), (.int .i64 0), (.int .i64 0), (.int .i64 0), (.int .i64 0), (.int .i64 0)] [(0, 1, (.k (.int .i64 1))), (1, 1, (.t 25)), (3, 1, (.k (.int .i64 2))), (4, 1, (.k (.int .i64 1)))])⟩,
      ⟨(some 27), none, .e (.bsl 27 6 [(.t 26)])⟩,
      ⟨(some 9), none, .q (.mv (.t 27))⟩])
        (.seq (.reg /- 4 -/ [⟨(some 28), none, .q (.mv (.t 9))⟩,
      ⟨(some 29), none, .l (.ia 6 (.t 28) (.k (.int .i64 0)))⟩,
      ⟨(some 30), none, .l (.ldn 6 (.t 29))⟩,
      ⟨(some 31), none, .e (.bsl 27 6 [(.t 30)])⟩,
      ⟨(some 10), none, .q (.mv (.t 31))⟩])
          (.seq (.seq (.reg /- 5 -/ [⟨(some 11), none, .q (.mv (.k (.int .i64 1)))⟩])
            (.block 0 (.loop (.seq (.seq (.reg /- 6 -/ [⟨(some 32), none, .q (.mv (.t 11))⟩,
      ⟨(some 33), none, .q (.mv (.t 7))⟩,
      ⟨(some 34), none, .q (.bin .leq true (.t 32) (.t 33))⟩])
                  (.cond (.t 34)
                    (.skip)
                    (.exit 0)))
                  (.seq (.block 1 (.seq (.reg /- 8 -/ [⟨(some 37), none, .q (.mv (.t 2))⟩,
      ⟨(some 38), none, .q (.cvt .i64 (.t 37))⟩,
      ⟨(some 39), none, .q (.mv (.t 11))⟩,
      ⟨(some 40), none, .q (.bin .add true (.t 38) (.t 39))⟩,
      ⟨(some 41), none, .q (.mv (.t 11))⟩,
      ⟨(some 42), none, .q (.bd [(.int .i64 0), (.int .i64 0), (.int .i64 0), (.int .i64 0), (.int .i64 0), (.int .i64 0)] [(0, 1, (.k (.int .i64 4))), (1, 1, (.t 40)), (3, 1, (.k (.int .i64 2))), (4, 1, (.k (.int .i64 1))), (5, 1, (.t 41))])⟩,
      ⟨(some 12), none, .e (.al (.agg #[(.int .i64 0), (.int .i64 0), (.int .i64 0), (.int .i64 0), (.int .i64 0), (.int .i64 0)]) 27)⟩,
      ⟨none, none, .e (.st 6 (.t 12) (.t 42))⟩])
                      (.seq (.seq (.reg /- 9 -/ [⟨(some 43), none, .q (.mv (.t 11))⟩,
      ⟨(some 44), none, .q (.bin .rem true (.t 43) (.k (.int .i64 5)))⟩,
      ⟨(some 45), none, .q (.bin .eql true (.t 44) (.k (.int .i64 0)))⟩])
                        (.cond (.t 45)
                          (.reg /- 10 -/ [⟨(some 46), none, .q (.fa 0 (.t 12))⟩,
      ⟨none, none, .e (.st 1 (.t 46) (.k (.int .i64 5)))⟩])
                          (.skip)))
                        (.seq (.reg /- 11 -/ [⟨(some 47), none, .q (.mv (.t 10))⟩,
      ⟨(some 48), none, .l (.ldn 6 (.t 12))⟩,
      ⟨(some 49), none, .e (.bsl 27 6 [(.t 48)])⟩,
      ⟨(some 50), none, .e (.ap 27 6 48 (.t 47) (.t 49))⟩,
      ⟨(some 10), none, .q (.mv (.t 50))⟩])
                          (.seq (.reg /- 12 -/ [⟨(some 51), none, .q (.mv (.t 11))⟩,
      ⟨(some 52), none, .q (.mv (.t 8))⟩,
      ⟨(some 53), none, .q (.bin .neq true (.t 51) (.t 52))⟩])
                            (.cond (.t 53)
                              (.reg /- 13 -/ [⟨(some 54), none, .q (.mv (.t 9))⟩,
      ⟨(some 55), none, .l (.ldn 6 (.t 12))⟩,
      ⟨(some 56), none, .e (.bsl 27 6 [(.t 55)])⟩,
      ⟨(some 57), none, .e (.ap 27 6 48 (.t 54) (.t 56))⟩,
      ⟨(some 9), none, .q (.mv (.t 57))⟩])
                              (.skip)))))))
                    (.reg /- 7 -/ [⟨(some 35), none, .q (.mv (.t 11))⟩,
      ⟨(some 36), none, .q (.bin .add true (.t 35) (.k (.int .i64 1)))⟩,
      ⟨(some 11), none, .q (.mv (.t 36))⟩]))))))
            (.seq (.reg /- 14 -/ [⟨(some 58), none, .q (.mv (.t 9))⟩,
      ⟨(some 59), none, .cl 14 [] []⟩,
      ⟨(some 60), none, .cl 12 [(.t 58), (.t 59)] [0]⟩,
      ⟨(some 13), none, .q (.mv (.t 60))⟩])
              (.seq (.reg /- 15 -/ [⟨(some 61), none, .q (.mv (.t 10))⟩,
      ⟨(some 62), none, .cl 14 [] []⟩,
      ⟨(some 63), none, .cl 12 [(.t 61), (.t 62)] [1]⟩,
      ⟨(some 64), none, .q (.lnL (.t 63))⟩,
      ⟨(some 65), none, .q (.bin .eql true (.t 64) (.k (.int .i64 0)))⟩,
      ⟨(some 66), none, .q (.mv (.t 65))⟩,
      ⟨(some 67), (some (66, true)), .q (.mv (.t 13))⟩,
      ⟨(some 68), (some (66, true)), .q (.lnL (.t 67))⟩,
      ⟨(some 69), (some (66, true)), .q (.bin .eql true (.t 68) (.k (.int .i64 1)))⟩,
      ⟨(some 70), none, .pick (.t 66) (.t 69) (.k (.bool false))⟩,
      ⟨(some 71), none, .q (.mv (.t 70))⟩,
      ⟨(some 72), (some (71, true)), .q (.mv (.t 13))⟩,
      ⟨(some 73), (some (71, true)), .l (.ia 4 (.t 72) (.k (.int .i64 0)))⟩,
      ⟨(some 74), (some (71, true)), .l (.ldn 4 (.t 73))⟩,
      ⟨(some 75), (some (71, true)), .q (.mv (.t 2))⟩,
      ⟨(some 76), (some (71, true)), .q (.cvt .i64 (.t 75))⟩,
      ⟨(some 77), (some (71, true)), .q (.mv (.t 8))⟩,
      ⟨(some 78), (some (71, true)), .q (.bin .add true (.t 76) (.t 77))⟩,
      ⟨(some 79), (some (71, true)), .q (.bin .add true (.t 78) (.k (.int .i64 1)))⟩,
      ⟨(some 80), (some (71, true)), .q (.bd [(.int .i64 0), (.int .i64 0), (.int .i64 0), (.int .i64 0)] [(0, 1, (.k (.int .i64 1))), (1, 1, (.t 79)), (2, 1, (.k (.int .i64 2))), (3, 1, (.k (.int .i64 1)))])⟩,
      ⟨(some 81), (some (71, true)), .q (.eqT false [(0, .int .i64), (1, .int .i64), (2, .int .i64), (3, .int .i64)] (.t 74) (.t 80))⟩,
      ⟨(some 82), none, .pick (.t 71) (.t 81) (.k (.bool false))⟩,
      ⟨(some 83), none, .q (.mv (.t 82))⟩,
      ⟨(some 84), (some (83, true)), .cq 9 []⟩,
      ⟨(some 85), none, .pick (.t 83) (.t 84) (.k (.bool false))⟩,
      ⟨(some 6), none, .q (.mv (.t 85))⟩])
                (.ret))))))))
def rs4 : List RV := [.mv (.t 6)]
theorem ok4 : trFn Try.prog true ⟨fun r k => if r = 14 ∧ k = 2 then .own [0] else if r = 15 ∧ k = 2 then .own [1] else if r = 15 ∧ k = 23 then .q else .own [], fun _ => false⟩ Try.f4 = some (pc4, rs4) := by kernel_rfl
/-- robotics/roboticslaw53.AuditSpeeds -/
def pc5 : PC :=
  .seq (.reg /- 0 -/ [⟨(some 3), none, .e (.bx 45 (.t 1))⟩,
      ⟨(some 4), none, .q (.mv (.k (.bool false)))⟩])
  (.seq (.seq (.reg /- 1 -/ [⟨(some 6), none, .q (.mv (.t 0))⟩,
      ⟨(some 7), none, .q (.lnL (.t 6))⟩,
      ⟨(some 8), none, .q (.bin .gtr true (.t 7) (.k (.int .i64 60)))⟩,
      ⟨(some 9), none, .q (.mv (.t 8))⟩,
      ⟨(some 10), (some (9, false)), .q (.fa 0 (.t 3))⟩,
      ⟨(some 11), (some (9, false)), .l (.ld1 (.t 10))⟩,
      ⟨(some 12), (some (9, false)), .cq 15 [(.t 11)]⟩,
      ⟨(some 13), (some (9, false)), .q (.not (.t 12))⟩,
      ⟨(some 14), none, .pick (.t 9) (.k (.bool true)) (.t 13)⟩,
      ⟨(some 15), none, .q (.mv (.t 14))⟩,
      ⟨(some 16), (some (15, false)), .q (.fa 1 (.t 3))⟩,
      ⟨(some 17), (some (15, false)), .l (.ld1 (.t 16))⟩,
      ⟨(some 18), (some (15, false)), .cq 15 [(.t 17)]⟩,
      ⟨(some 19), (some (15, false)), .q (.not (.t 18))⟩,
      ⟨(some 20), none, .pick (.t 15) (.k (.bool true)) (.t 19)⟩,
      ⟨(some 21), none, .q (.mv (.t 20))⟩,
      ⟨(some 22), (some (21, false)), .q (.fa 2 (.t 3))⟩,
      ⟨(some 23), (some (21, false)), .l (.ld1 (.t 22))⟩,
      ⟨(some 24), (some (21, false)), .cq 15 [(.t 23)]⟩,
      ⟨(some 25), (some (21, false)), .q (.not (.t 24))⟩,
      ⟨(some 26), none, .pick (.t 21) (.k (.bool true)) (.t 25)⟩])
    (.cond (.t 26)
      (.seq (.reg /- 2 -/ [⟨(some 27), none, .cq 9 []⟩,
      ⟨(some 4), none, .q (.mv (.t 27))⟩])
        (.ret))
      (.skip)))
    (.seq (.seq (.reg /- 3 -/ [⟨(some 5), none, .q (.mv (.k (.int .i64 0)))⟩])
      (.block 0 (.loop (.seq (.seq (.reg /- 4 -/ [⟨(some 28), none, .q (.mv (.t 5))⟩,
      ⟨(some 29), none, .q (.mv (.t 0))⟩,
      ⟨(some 30), none, .q (.lnL (.t 29))⟩,
      ⟨(some 31), none, .q (.bin .lss true (.t 28) (.t 30))⟩])
            (.cond (.t 31)
              (.skip)
              (.exit 0)))
            (.seq (.block 1 (.seq (.reg /- 6 -/ [⟨(some 34), none, .q (.mv (.t 0))⟩,
      ⟨(some 35), none, .q (.mv (.t 5))⟩,
      ⟨(some 36), none, .l (.ia 4 (.t 34) (.t 35))⟩,
      ⟨(some 37), none, .q (.fa 2 (.t 36))⟩,
      ⟨(some 38), none, .q (.fa 0 (.t 37))⟩,
      ⟨(some 39), none, .l (.ld1 (.t 38))⟩,
      ⟨(some 40), none, .cq 15 [(.t 39)]⟩,
      ⟨(some 41), none, .q (.not (.t 40))⟩,
      ⟨(some 42), none, .q (.mv (.t 41))⟩,
      ⟨(some 43), (some (42, false)), .q (.mv (.t 0))⟩,
      ⟨(some 44), (some (42, false)), .q (.mv (.t 5))⟩,
      ⟨(some 45), (some (42, false)), .l (.ia 4 (.t 43) (.t 44))⟩,
      ⟨(some 46), (some (42, false)), .q (.fa 2 (.t 45))⟩,
      ⟨(some 47), (some (42, false)), .q (.fa 1 (.t 46))⟩,
      ⟨(some 48), (some (42, false)), .l (.ld1 (.t 47))⟩,
      ⟨(some 49), (some (42, false)), .cq 15 [(.t 48)]⟩,
      ⟨(some 50), (some (42, false)), .q (.not (.t 49))⟩,
      ⟨(some 51), none, .pick (.t 42) (.k (.bool true)) (.t 50)⟩])
                (.cond (.t 51)
                  (.seq (.reg /- 7 -/ [⟨(some 52), none, .cq 9 []⟩,
      ⟨(some 4), none, .q (.mv (.t 52))⟩])
                    (.ret))
                  (.skip))))
              (.reg /- 5 -/ [⟨(some 32), none, .q (.mv (.t 5))⟩,
      ⟨(some 33), none, .q (.bin .add true (.t 32) (.k (.int .i64 1)))⟩,
      ⟨(some 5), none, .q (.mv (.t 33))⟩]))))))
      (.seq (.ord /- 8 -/ [.q ⟨(some 53), none, .q (.mv (.t 0))⟩,
      .q ⟨(some 54), none, .l (.ldn 5 (.t 3))⟩,
      .q ⟨(some 57), none, .q (.mv (.t 0))⟩,
      .q ⟨(some 58), none, .l (.ldn 5 (.t 3))⟩,
      .m ⟨(some 55), none, .cl 16 [(.t 53), (.t 54)] []⟩,
      .rc ⟨(some 57), none, .q (.mv (.t 0))⟩,
      .rc ⟨(some 58), none, .l (.ldn 5 (.t 3))⟩,
      .m ⟨(some 56), none, .cl 11 [(.t 55)] []⟩,
      .rc ⟨(some 57), none, .q (.mv (.t 0))⟩,
      .rc ⟨(some 58), none, .l (.ldn 5 (.t 3))⟩,
      .m ⟨(some 59), none, .cl 17 [(.t 57), (.t 58)] []⟩,
      .m ⟨(some 60), none, .cq 10 [(.t 56), (.t 59)]⟩,
      .q ⟨(some 61), none, .q (.mv (.t 60))⟩,
      .m ⟨(some 62), (some (61, true)), .cq 9 []⟩,
      .q ⟨(some 63), none, .pick (.t 61) (.t 62) (.k (.bool false))⟩,
      .m ⟨(some 4), none, .q (.mv (.t 63))⟩])
        (.ret))))
def rs5 : List RV := [.mv (.t 4)]
theorem ok5 : trFn Try.prog true ⟨fun r k => if r = 1 ∧ k = 6 then .q else if r = 1 ∧ k = 12 then .q else if r = 1 ∧ k = 18 then .q else if r = 2 ∧ k = 0 then .q else if r = 6 ∧ k = 6 then .q else if r = 6 ∧ k = 15 then .q else if r = 7 ∧ k = 0 then .q else if r = 8 ∧ k = 7 then .q else if r = 8 ∧ k = 9 then .q else .own [], fun _ => false⟩ Try.f5 = some (pc5, rs5) := by kernel_rfl
/-- robotics/roboticslaw53.AuditNames -/
def pc6 : PC :=
  .seq (.reg /- 0 -/ [⟨(some 2), none, .q (.mv (.k (.bool false)))⟩])
  (.seq (.reg /- 1 -/ [⟨(some 3), none, .q (.mv (.t 0))⟩,
      ⟨(some 4), none, .cq 18 [(.t 3)]⟩,
      ⟨(some 5), none, .q (.mv (.t 0))⟩,
      ⟨(some 6), none, .cq 19 [(.t 5)]⟩,
      ⟨(some 7), none, .q (.bin .eql true (.t 4) (.t 6))⟩,
      ⟨(some 8), none, .q (.mv (.t 7))⟩,
      ⟨(some 9), (some (8, true)), .cq 9 []⟩,
      ⟨(some 10), none, .pick (.t 8) (.t 9) (.k (.bool false))⟩,
      ⟨(some 2), none, .q (.mv (.t 10))⟩])
    (.ret))
def rs6 : List RV := [.mv (.t 2)]
theorem ok6 : trFn Try.prog true ⟨fun r k => if r = 1 ∧ k = 1 then .q else if r = 1 ∧ k = 3 then .q else if r = 1 ∧ k = 6 then .q else .own [], fun _ => false⟩ Try.f6 = some (pc6, rs6) := by kernel_rfl
/-- robotics/roboticslaw53.AuditGoals -/
def pc7 : PC :=
  .seq (.reg /- 0 -/ [⟨(some 2), none, .q (.mv (.k (.bool false)))⟩])
  (.seq (.seq (.reg /- 1 -/ [⟨(some 3), none, .q (.mv (.t 0))⟩,
      ⟨(some 4), none, .q (.lnL (.t 3))⟩,
      ⟨(some 5), none, .q (.bin .gtr true (.t 4) (.k (.int .i64 60)))⟩])
    (.cond (.t 5)
      (.seq (.reg /- 2 -/ [⟨(some 6), none, .cq 9 []⟩,
      ⟨(some 2), none, .q (.mv (.t 6))⟩])
        (.ret))
      (.skip)))
    (.seq (.reg /- 3 -/ [⟨(some 7), none, .q (.mv (.t 0))⟩,
      ⟨(some 8), none, .cl 20 [(.t 7)] []⟩,
      ⟨(some 9), none, .cl 11 [(.t 8)] []⟩,
      ⟨(some 10), none, .q (.mv (.t 0))⟩,
      ⟨(some 11), none, .cl 21 [(.t 10)] []⟩,
      ⟨(some 12), none, .cq 10 [(.t 9), (.t 11)]⟩,
      ⟨(some 13), none, .q (.mv (.t 12))⟩,
      ⟨(some 14), (some (13, true)), .cq 9 []⟩,
      ⟨(some 15), none, .pick (.t 13) (.t 14) (.k (.bool false))⟩,
      ⟨(some 2), none, .q (.mv (.t 15))⟩])
      (.ret)))
def rs7 : List RV := [.mv (.t 2)]
theorem ok7 : trFn Try.prog true ⟨fun r k => if r = 2 ∧ k = 0 then .q else if r = 3 ∧ k = 5 then .q else if r = 3 ∧ k = 7 then .q else .own [], fun _ => false⟩ Try.f7 = some (pc7, rs7) := by kernel_rfl
/-- robotics/roboticslaw53.sound -/
def pc8 : PC :=
  .seq (.reg /- 0 -/ [⟨(some 4), none, .q (.mv (.k (.bool false)))⟩])
  (.seq (.seq (.reg /- 1 -/ [⟨(some 7), none, .q (.mv (.t 0))⟩,
      ⟨(some 8), none, .q (.lnL (.t 7))⟩,
      ⟨(some 9), none, .q (.bin .gtr true (.t 8) (.k (.int .i64 60)))⟩,
      ⟨(some 10), none, .q (.mv (.t 9))⟩,
      ⟨(some 11), (some (10, false)), .q (.mv (.t 1))⟩,
      ⟨(some 12), (some (10, false)), .q (.lnL (.t 11))⟩,
      ⟨(some 13), (some (10, false)), .q (.bin .gtr true (.t 12) (.k (.int .i64 6)))⟩,
      ⟨(some 14), none, .pick (.t 10) (.k (.bool true)) (.t 13)⟩])
    (.cond (.t 14)
      (.seq (.reg /- 2 -/ [⟨(some 4), none, .q (.mv (.k (.bool false)))⟩])
        (.ret))
      (.skip)))
    (.seq (.seq (.reg /- 3 -/ [⟨(some 5), none, .q (.mv (.k (.int .i64 0)))⟩])
      (.block 0 (.loop (.seq (.seq (.reg /- 4 -/ [⟨(some 15), none, .q (.mv (.t 5))⟩,
      ⟨(some 16), none, .q (.mv (.t 0))⟩,
      ⟨(some 17), none, .q (.lnL (.t 16))⟩,
      ⟨(some 18), none, .q (.bin .lss true (.t 15) (.t 17))⟩])
            (.cond (.t 18)
              (.skip)
              (.exit 0)))
            (.seq (.block 1 (.seq (.reg /- 6 -/ [⟨(some 21), none, .q (.mv (.t 0))⟩,
      ⟨(some 22), none, .q (.mv (.t 5))⟩,
      ⟨(some 23), none, .l (.ia 6 (.t 21) (.t 22))⟩,
      ⟨(some 24), none, .q (.fa 1 (.t 23))⟩,
      ⟨(some 25), none, .l (.ld1 (.t 24))⟩,
      ⟨(some 26), none, .q (.bin .lss true (.t 25) (.k (.int .i64 0)))⟩,
      ⟨(some 27), none, .q (.mv (.t 26))⟩,
      ⟨(some 28), (some (27, false)), .q (.mv (.t 0))⟩,
      ⟨(some 29), (some (27, false)), .q (.mv (.t 5))⟩,
      ⟨(some 30), (some (27, false)), .l (.ia 6 (.t 28) (.t 29))⟩,
      ⟨(some 31), (some (27, false)), .q (.fa 1 (.t 30))⟩,
      ⟨(some 32), (some (27, false)), .l (.ld1 (.t 31))⟩,
      ⟨(some 33), (some (27, false)), .q (.bin .gtr true (.t 32) (.k (.int .i64 1099511627776)))⟩,
      ⟨(some 34), none, .pick (.t 27) (.k (.bool true)) (.t 33)⟩,
      ⟨(some 35), none, .q (.mv (.t 34))⟩,
      ⟨(some 36), (some (35, false)), .q (.mv (.t 5))⟩,
      ⟨(some 37), (some (35, false)), .q (.bin .gtr true (.t 36) (.k (.int .i64 0)))⟩,
      ⟨(some 38), (some (35, false)), .q (.mv (.t 37))⟩,
      ⟨(some 39), (some (38, true)), .q (.mv (.t 0))⟩,
      ⟨(some 40), (some (38, true)), .q (.mv (.t 5))⟩,
      ⟨(some 41), (some (38, true)), .l (.ia 6 (.t 39) (.t 40))⟩,
      ⟨(some 42), (some (38, true)), .q (.fa 1 (.t 41))⟩,
      ⟨(some 43), (some (38, true)), .l (.ld1 (.t 42))⟩,
      ⟨(some 44), (some (38, true)), .q (.mv (.t 0))⟩,
      ⟨(some 45), (some (38, true)), .q (.mv (.t 5))⟩,
      ⟨(some 46), (some (38, true)), .q (.bin .sub true (.t 45) (.k (.int .i64 1)))⟩,
      ⟨(some 47), (some (38, true)), .l (.ia 6 (.t 44) (.t 46))⟩,
      ⟨(some 48), (some (38, true)), .q (.fa 1 (.t 47))⟩,
      ⟨(some 49), (some (38, true)), .l (.ld1 (.t 48))⟩,
      ⟨(some 50), (some (38, true)), .q (.bin .lss true (.t 43) (.t 49))⟩,
      ⟨(some 51), (some (35, false)), .pick (.t 38) (.t 50) (.k (.bool false))⟩,
      ⟨(some 52), none, .pick (.t 35) (.k (.bool true)) (.t 51)⟩])
                (.cond (.t 52)
                  (.seq (.reg /- 7 -/ [⟨(some 4), none, .q (.mv (.k (.bool false)))⟩])
                    (.ret))
                  (.skip))))
              (.reg /- 5 -/ [⟨(some 19), none, .q (.mv (.t 5))⟩,
      ⟨(some 20), none, .q (.bin .add true (.t 19) (.k (.int .i64 1)))⟩,
      ⟨(some 5), none, .q (.mv (.t 20))⟩]))))))
      (.seq (.seq (.reg /- 8 -/ [⟨(some 6), none, .q (.mv (.k (.int .i64 0)))⟩])
        (.block 2 (.loop (.seq (.seq (.reg /- 9 -/ [⟨(some 53), none, .q (.mv (.t 6))⟩,
      ⟨(some 54), none, .q (.mv (.t 1))⟩,
      ⟨(some 55), none, .q (.lnL (.t 54))⟩,
      ⟨(some 56), none, .q (.bin .lss true (.t 53) (.t 55))⟩])
              (.cond (.t 56)
                (.skip)
                (.exit 2)))
              (.seq (.block 3 (.seq (.reg /- 11 -/ [⟨(some 59), none, .q (.mv (.t 1))⟩,
      ⟨(some 60), none, .q (.mv (.t 6))⟩,
      ⟨(some 61), none, .l (.ia 12 (.t 59) (.t 60))⟩,
      ⟨(some 62), none, .q (.fa 5 (.t 61))⟩,
      ⟨(some 63), none, .q (.fa 4 (.t 62))⟩,
      ⟨(some 64), none, .l (.ld1 (.t 63))⟩,
      ⟨(some 65), none, .q (.bin .lss true (.t 64) (.k (.int .i64 0)))⟩,
      ⟨(some 66), none, .q (.mv (.t 65))⟩,
      ⟨(some 67), (some (66, false)), .q (.mv (.t 1))⟩,
      ⟨(some 68), (some (66, false)), .q (.mv (.t 6))⟩,
      ⟨(some 69), (some (66, false)), .l (.ia 12 (.t 67) (.t 68))⟩,
      ⟨(some 70), (some (66, false)), .q (.fa 5 (.t 69))⟩,
      ⟨(some 71), (some (66, false)), .q (.fa 4 (.t 70))⟩,
      ⟨(some 72), (some (66, false)), .l (.ld1 (.t 71))⟩,
      ⟨(some 73), (some (66, false)), .q (.bin .gtr true (.t 72) (.k (.int .i64 1099511627776)))⟩,
      ⟨(some 74), none, .pick (.t 66) (.k (.bool true)) (.t 73)⟩])
                  (.cond (.t 74)
                    (.seq (.reg /- 12 -/ [⟨(some 4), none, .q (.mv (.k (.bool false)))⟩])
                      (.ret))
                    (.skip))))
                (.reg /- 10 -/ [⟨(some 57), none, .q (.mv (.t 6))⟩,
      ⟨(some 58), none, .q (.bin .add true (.t 57) (.k (.int .i64 1)))⟩,
      ⟨(some 6), none, .q (.mv (.t 58))⟩]))))))
        (.seq (.reg /- 13 -/ [⟨(some 4), none, .q (.mv (.k (.bool true)))⟩])
          (.ret)))))
def rs8 : List RV := [.mv (.t 4)]
theorem ok8 : trFn Try.prog true ⟨fun _ _ => .own [], fun _ => false⟩ Try.f8 = some (pc8, rs8) := by kernel_rfl
/-- robotics/roboticslaw53.awake -/
def pc9 : PC :=
  .seq (.reg /- 0 -/ [⟨(some 0), none, .q (.mv (.k (.bool false)))⟩])
  (.seq (.reg /- 1 -/ [⟨(some 4), none, .q (.bd [(.int .i64 0), (.int .i64 0), (.int .i64 0), (.int .i64 0), (.int .i64 0), (.int .i64 0)] [(0, 1, (.k (.int .i64 1))), (3, 1, (.k (.int .i64 2))), (4, 1, (.k (.int .i64 1)))])⟩,
      ⟨(some 5), none, .q (.bd [(.int .i64 0), (.int .i64 0), (.int .i64 0), (.int .i64 0), (.int .i64 0), (.int .i64 0)] [(0, 1, (.k (.int .i64 4))), (3, 1, (.k (.int .i64 2))), (4, 1, (.k (.int .i64 1))), (5, 1, (.k (.int .i64 1)))])⟩,
      ⟨(some 6), none, .q (.bd [(.int .i64 0), (.int .i64 0), (.int .i64 0), (.int .i64 0), (.int .i64 0), (.int .i64 0)] [(0, 1, (.k (.int .i64 4))), (3, 1, (.k (.int .i64 2))), (4, 1, (.k (.int .i64 1))), (5, 1, (.k (.int .i64 3)))])⟩,
      ⟨(some 7), none, .e (.bsl 27 6 [(.t 4), (.t 5), (.t 6)])⟩,
      ⟨(some 1), none, .q (.mv (.t 7))⟩])
    (.seq (.reg /- 2 -/ [⟨(some 8), none, .q (.mv (.t 1))⟩,
      ⟨(some 9), none, .cl 14 [] []⟩,
      ⟨(some 10), none, .cl 12 [(.t 8), (.t 9)] [0]⟩,
      ⟨(some 2), none, .q (.mv (.t 10))⟩])
      (.seq (.reg /- 3 -/ [⟨(some 11), none, .q (.bd [(.int .i64 0), (.int .i64 0), (.int .i64 0), (.int .i64 0)] [])⟩,
      ⟨(some 12), none, .q (.bd [(.int .i64 0), (.int .i64 0)] [(0, 1, (.k (.int .i64 90)))])⟩,
      ⟨(some 13), none, .q (.bd [(.int .i64 0), (.int .i64 0), (.int .i64 0), (.int .i64 0)] [(2, 2, (.t 12))])⟩,
      ⟨(some 14), none, .e (.bsl 50 4 [(.t 11), (.t 13)])⟩,
      ⟨(some 15), none, .q (.bd [(.int .i64 0), (.int .i64 0), (.int .i64 0), (.int .i64 0), (.int .i64 0)] [(0, 1, (.k (.int .i64 100))), (1, 1, (.k (.int .i64 50))), (2, 1, (.k (.int .i64 20))), (3, 1, (.k (.int .i64 10))), (4, 1, (.k (.int .i64 500)))])⟩,
      ⟨(some 16), none, .cl 16 [(.t 14), (.t 15)] [1]⟩,
      ⟨(some 3), none, .q (.mv (.t 16))⟩])
        (.seq (.reg /- 4 -/ [⟨(some 17), none, .q (.mv (.t 2))⟩,
      ⟨(some 18), none, .q (.lnL (.t 17))⟩,
      ⟨(some 19), none, .q (.bin .eql true (.t 18) (.k (.int .i64 1)))⟩,
      ⟨(some 20), none, .q (.mv (.t 19))⟩,
      ⟨(some 21), (some (20, true)), .q (.mv (.t 2))⟩,
      ⟨(some 22), (some (20, true)), .l (.ia 4 (.t 21) (.k (.int .i64 0)))⟩,
      ⟨(some 23), (some (20, true)), .l (.ldn 4 (.t 22))⟩,
      ⟨(some 24), (some (20, true)), .q (.bd [(.int .i64 0), (.int .i64 0), (.int .i64 0), (.int .i64 0)] [(0, 1, (.k (.int .i64 1))), (2, 1, (.k (.int .i64 2))), (3, 1, (.k (.int .i64 1)))])⟩,
      ⟨(some 25), (some (20, true)), .q (.eqT false [(0, .int .i64), (1, .int .i64), (2, .int .i64), (3, .int .i64)] (.t 23) (.t 24))⟩,
      ⟨(some 26), none, .pick (.t 20) (.t 25) (.k (.bool false))⟩,
      ⟨(some 27), none, .q (.mv (.t 26))⟩,
      ⟨(some 28), (some (27, true)), .q (.mv (.t 3))⟩,
      ⟨(some 29), (some (27, true)), .q (.lnL (.t 28))⟩,
      ⟨(some 30), (some (27, true)), .q (.bin .eql true (.t 29) (.k (.int .i64 1)))⟩,
      ⟨(some 31), none, .pick (.t 27) (.t 30) (.k (.bool false))⟩,
      ⟨(some 32), none, .q (.mv (.t 31))⟩,
      ⟨(some 33), (some (32, true)), .q (.mv (.t 3))⟩,
      ⟨(some 34), (some (32, true)), .l (.ia 4 (.t 33) (.k (.int .i64 0)))⟩,
      ⟨(some 35), (some (32, true)), .l (.ldn 4 (.t 34))⟩,
      ⟨(some 36), (some (32, true)), .q (.bd [(.int .i64 0), (.int .i64 0), (.int .i64 0), (.int .i64 0)] [(0, 1, (.k (.int .i64 8))), (1, 1, (.k (.int .i64 1))), (2, 1, (.k (.int .i64 1)))])⟩,
      ⟨(some 37), (some (32, true)), .q (.eqT false [(0, .int .i64), (1, .int .i64), (2, .int .i64), (3, .int .i64)] (.t 35) (.t 36))⟩,
      ⟨(some 38), none, .pick (.t 32) (.t 37) (.k (.bool false))⟩,
      ⟨(some 39), none, .q (.mv (.t 38))⟩,
      ⟨(some 40), (some (39, true)), .cq 18 [(.k (.int .i64 2))]⟩,
      ⟨(some 41), (some (39, true)), .q (.bin .eql true (.t 40) (.k (.string (mk [100, 117, 112, 108, 105, 99, 97, 116, 101]))))⟩,
      ⟨(some 42), none, .pick (.t 39) (.t 41) (.k (.bool false))⟩,
      ⟨(some 0), none, .q (.mv (.t 42))⟩])
          (.ret)))))
def rs9 : List RV := [.mv (.t 0)]
theorem ok9 : trFn Try.prog true ⟨fun r k => if r = 2 ∧ k = 2 then .own [0] else if r = 3 ∧ k = 5 then .own [1] else if r = 4 ∧ k = 23 then .q else .own [], fun _ => false⟩ Try.f9 = some (pc9, rs9) := by kernel_rfl
/-- robotics/roboticslaw53.ref -/
def pc11 : PC :=
  .seq (.reg /- 0 -/ [⟨(some 2), none, .q (.mv (.k (.slice none 0 0)))⟩])
  (.seq (.reg /- 1 -/ [⟨(some 3), none, .q (.mv (.k (.slice none 0 0)))⟩])
    (.seq (.seq (.reg /- 2 -/ [⟨(some 4), none, .q (.mv (.k (.int .i64 0)))⟩])
      (.block 0 (.loop (.seq (.seq (.reg /- 3 -/ [⟨(some 5), none, .q (.mv (.t 4))⟩,
      ⟨(some 6), none, .q (.mv (.t 0))⟩,
      ⟨(some 7), none, .q (.lnL (.t 6))⟩,
      ⟨(some 8), none, .q (.bin .lss true (.t 5) (.t 7))⟩])
            (.cond (.t 8)
              (.skip)
              (.exit 0)))
            (.seq (.block 1 (.reg /- 5 -/ [⟨(some 11), none, .q (.mv (.t 3))⟩,
      ⟨(some 12), none, .q (.mv (.t 0))⟩,
      ⟨(some 13), none, .q (.mv (.t 4))⟩,
      ⟨(some 14), none, .l (.ia 4 (.t 12) (.t 13))⟩,
      ⟨(some 15), none, .l (.ldn 4 (.t 14))⟩,
      ⟨(some 16), none, .e (.bsl 59 4 [(.t 15)])⟩,
      ⟨(some 17), none, .e (.ap 59 4 32 (.t 11) (.t 16))⟩,
      ⟨(some 3), none, .q (.mv (.t 17))⟩]))
              (.reg /- 4 -/ [⟨(some 9), none, .q (.mv (.t 4))⟩,
      ⟨(some 10), none, .q (.bin .add true (.t 9) (.k (.int .i64 1)))⟩,
      ⟨(some 4), none, .q (.mv (.t 10))⟩]))))))
      (.seq (.reg /- 6 -/ [⟨(some 18), none, .q (.mv (.t 3))⟩,
      ⟨(some 2), none, .q (.mv (.t 18))⟩])
        (.ret))))
def rs11 : List RV := [.mv (.t 2)]
theorem ok11 : trFn Try.prog true ⟨fun _ _ => .own [], fun _ => false⟩ Try.f11 = some (pc11, rs11) := by kernel_rfl
/-- robotics/roboticslaw53.two -/
def pc14 : PC :=
  .seq (.reg /- 0 -/ [⟨(some 0), none, .q (.mv (.k (.slice none 0 0)))⟩])
  (.seq (.reg /- 1 -/ [⟨(some 2), none, .q (.bd [(.bool false), (.bool false), (.bool false), (.int .i64 0), (.int .i64 0), (.int .i64 0), (.int .i64 0)] [(0, 1, (.k (.bool true))), (2, 1, (.k (.bool true)))])⟩,
      ⟨(some 1), none, .e (.al (.agg #[(.bool false), (.bool false), (.bool false), (.int .i64 0), (.int .i64 0), (.int .i64 0), (.int .i64 0)]) 29)⟩,
      ⟨none, none, .e (.st 7 (.t 1) (.t 2))⟩])
    (.seq (.reg /- 2 -/ [⟨(some 3), none, .l (.ldn 7 (.t 1))⟩,
      ⟨(some 4), none, .q (.bd [(.int .i64 0), (.int .i64 0), (.string (mk [])), (.string (mk [])), (.bool false), (.bool false), (.bool false), (.bool false), (.int .i64 0), (.int .i64 0), (.int .i64 0), (.int .i64 0)] [(0, 1, (.k (.int .i64 1))), (4, 1, (.k (.bool true))), (5, 7, (.t 3))])⟩,
      ⟨(some 5), none, .l (.ldn 7 (.t 1))⟩,
      ⟨(some 6), none, .q (.bd [(.int .i64 0), (.int .i64 0), (.string (mk [])), (.string (mk [])), (.bool false), (.bool false), (.bool false), (.bool false), (.int .i64 0), (.int .i64 0), (.int .i64 0), (.int .i64 0)] [(0, 1, (.k (.int .i64 2))), (1, 1, (.k (.int .i64 1))), (5, 7, (.t 5))])⟩,
      ⟨(some 7), none, .e (.bsl 31 12 [(.t 4), (.t 6)])⟩,
      ⟨(some 0), none, .q (.mv (.t 7))⟩])
      (.ret)))
def rs14 : List RV := [.mv (.t 0)]
theorem ok14 : trFn Try.prog true ⟨fun _ _ => .own [], fun _ => false⟩ Try.f14 = some (pc14, rs14) := by kernel_rfl
/-- robotics/roboticslaw53.reach -/
def pc15 : PC :=
  .seq (.reg /- 0 -/ [⟨(some 2), none, .q (.mv (.k (.bool false)))⟩])
  (.seq (.reg /- 1 -/ [⟨(some 3), none, .q (.mv (.t 0))⟩,
      ⟨(some 4), none, .q (.bin .geq true (.t 3) (.k (.int .i64 (-1048576))))⟩,
      ⟨(some 5), none, .q (.mv (.t 4))⟩,
      ⟨(some 6), (some (5, true)), .q (.mv (.t 0))⟩,
      ⟨(some 7), (some (5, true)), .q (.bin .leq true (.t 6) (.k (.int .i64 1048576)))⟩,
      ⟨(some 8), none, .pick (.t 5) (.t 7) (.k (.bool false))⟩,
      ⟨(some 2), none, .q (.mv (.t 8))⟩])
    (.ret))
def rs15 : List RV := [.mv (.t 2)]
theorem ok15 : trFn Try.prog true ⟨fun _ _ => .own [], fun _ => false⟩ Try.f15 = some (pc15, rs15) := by kernel_rfl
end Go.Proofs.Ytdnohfhpbhlpaaa
/- The W library, part 25: a row of the caller's own, lent to a function that takes frozen memory. -/
namespace Go.W
section
variable {P : Program} {f : FuncId} {s : Spec}
/-- Row n is published first. -/
def pubB (n : Nat) (s : Spec) : Spec := fun ar H K => match H[n]? with
  | some (.row xs _ _) => s (ar.map (S.pub n xs)) (pubH n xs H) K
  | _ => False
/-- No block is handed over. -/
def dropB (s : Spec) : Spec := fun ar H K => s (ar.map fun a => a.nf.ren (loc [])) [] fun r H' => K (r.ren (back [] H.length)) (mergeH [] H (H'.map (B.ren (back [] H.length))))
theorem Rel.rebase {X : Ctx} {E : Es} {ro : RO} {w : World} (h : Rel X E ro w) : Rel ⟨w, blks E, ro, gm E⟩ E ro w :=
  ⟨h.own, h.inj, h.apart, h.rd, Ext.refl _, fun _ _ _ h => .inl h, fun n b g blk hn en hl => .inr (mem_blks.2 ⟨n, g, blk, hn, en, hl⟩), .refl _, Nat.le_refl _, fun _ _ _ => rfl, rfl, rfl, rfl⟩
theorem Rel.over {X : Ctx} {E E' : Es} {ro ro' : RO} {w w' : World} (h : Rel X E ro w) (k : Rel ⟨w, blks E, ro, gm E⟩ E' ro' w') : Rel X E' ro' w' where
  own := k.own
  inj := k.inj
  apart := k.apart
  rd := k.rd
  ro0 := h.ro0.trans k.ro0
  rob := fun b off v hc => by
    rcases k.rob b off v hc with q | q | q
    · exact h.rob b off v q
    · simp only at q; have := h.sz; exact .inr (.inl (by omega))
    · obtain ⟨n, g, blk, hE, hgb, hl⟩ := mem_blks.1 q
      exact .inr (h.par n b g blk hE hgb hl)
  par := fun n b g blk hn en hl => by
    rcases k.par n b g blk hn en hl with q | q
    · simp only at q; have := h.sz; exact .inl (by omega)
    · obtain ⟨n', g', blk', hE, hgb, hl'⟩ := mem_blks.1 q
      exact h.par n' b g' blk' hE hgb hl'
  gx := h.gx.trans k.gx
  sz := Nat.le_trans h.sz k.sz
  keep := fun b hb hp => by
    rw [k.keep b (by have := h.sz; simp only; omega) (fun hb' => ?_)]
    · exact h.keep b hb hp
    · obtain ⟨n, g, blk, hE, hgb, hl⟩ := mem_blks.1 hb'
      rcases h.par n b g blk hE hgb hl with q | q
      · omega
      · exact hp q
  os := k.os.trans h.os
  tape := k.tape.trans h.tape
  output := k.output.trans h.output
theorem Meets.pubB (h : Meets P f s) (n : Nat) : Meets P f (pubB n s) := by
  refine ⟨h.1, fun ar vs E ro w K hl hrel hr hs => ?_⟩
  unfold W.pubB at hs
  split at hs
  · rename_i xs T sz hn
    obtain ⟨g, hE⟩ : ∃ g, E[n]? = some (g, .row xs T sz) := by
      simp only [hp, List.getElem?_map] at hn
      cases hE : E[n]? with
      | none => rw [hE] at hn; cases hn
      | some y => rw [hE] at hn; simp at hn; exact ⟨y.1, by rw [← hn]⟩
    obtain ⟨ro', hext, hfz, hglen, hr'⟩ := hr.pubR hE
    have hcall := h.2 (ar.map (S.pub n xs)) vs (mapB (B.pub n xs) (E.set n (g, .dead))) ro' w K (by simpa using hl) (fun i x v hx hv => by
      rw [List.getElem?_map] at hx
      cases hi : ar[i]? with
      | none => rw [hi] at hx; cases hx
      | some y =>
        rw [hi] at hx
        simp only [Option.map_some, Option.some.injEq] at hx
        subst hx
        rw [gm_mapB, gm_kill hE]
        exact S.rel_pub hext (gm_get hE) hglen hfz (hrel i y v hi hv)) hr'.rebase (by rw [hp_mapB, hp_kill]; exact hs)
    refine hcall.mono ?_
    rintro e w' ⟨r, v, E', ro2, rfl, hrv, hR, hrel'⟩
    exact ⟨r, v, E', ro2, rfl, hrv, hR, hr'.over hrel'⟩
  · exact hs.elim
theorem Meets.dropB (h : Meets P f s) : Meets P f (dropB s) := by
  refine ⟨h.1, fun ar vs E ro w K hl hrel hr hs => ?_⟩
  unfold W.dropB at hs
  have hnd : ([] : List Nat).Nodup := .nil
  have hlt : ∀ n ∈ ([] : List Nat), n < E.length := fun n hn => by cases hn
  have gxl : ∀ (n m : Nat) (g : Gb), loc [] n = some m → (gm E)[n]? = some g → (gm (mapB (B.ren (loc [])) (pickE E [])))[m]? = some g := fun n m g h1 h2 => by rw [gm_mapB]; exact loc_gm n m g h1 h2
  have hloc : Rel ⟨w, blks (mapB (B.ren (loc [])) (pickE E [])), ro, gm (mapB (B.ren (loc [])) (pickE E []))⟩ (mapB (B.ren (loc [])) (pickE E [])) ro w := by
    have h0 : Rel ⟨w, blks E, ro, []⟩ E ro w := ⟨hr.own, hr.inj, hr.apart, hr.rd, Ext.refl _, fun _ _ _ h => .inl h, fun n b g blk hn en hl => .inr (mem_blks.2 ⟨n, g, blk, hn, en, hl⟩), fun n g hn => by simp at hn, Nat.le_refl _, fun _ _ _ => rfl, rfl, rfl, rfl⟩
    exact (h0.sel hnd hlt (fun n g hn => by simp at hn)).here
  have hcall := h.2 (ar.map fun s => s.nf.ren (loc [])) vs (mapB (B.ren (loc [])) (pickE E [])) ro w _ (by simpa using hl) (fun i x v hx hv => by
    rw [List.getElem?_map] at hx
    cases hi : ar[i]? with
    | none => rw [hi] at hx; cases hx
    | some y =>
      rw [hi] at hx
      simp only [Option.map_some, Option.some.injEq] at hx
      subst hx
      exact S.rel_ren gxl (S.rel_nf (hrel i y v hi hv))) hloc (by rw [hp_mapB, hp_pick]; exact hs)
  refine hcall.mono ?_
  rintro e w' ⟨r, v, E', ro', rfl, hrv, hR, hrel'⟩
  obtain ⟨q1, q2, q3⟩ := hr.back hnd hlt rfl hrel'
  refine ⟨_, v, _, ro', rfl, S.rel_ren q3 hrv, ?_, q1⟩
  rw [hp_merge, hp_mapB]
  rw [hp_len] at hR
  exact hR
/-- One row is lent. -/
def lend1 (s : Spec) : Spec := pubB 0 (dropB s)
theorem Meets.lend1 (h : Meets P f s) : Meets P f (lend1 s) := h.dropB.pubB 0
/-- Two rows are lent. -/
def lend2 (s : Spec) : Spec := pubB 0 (pubB 1 (dropB s))
theorem Meets.lend2 (h : Meets P f s) : Meets P f (lend2 s) := (h.dropB.pubB 1).pubB 0
/-- On to the next round, with a row published ahead of it. -/
theorem loop_pub {α : Type} {k0 : Nat} {up : α → List (Nat × S)} {Hs : α → Hp} {Inv : α → Prop} {μ : α → Nat} {z : α} {fr : Fr} {H : Hp} (n : Nat) (xs : List (List C)) (T : TypeId) (sz : Nat) (h : H[n]? = some (.row xs T sz))
    (hn : NextR k0 up Hs Inv μ z (fun i => (fr i).pub n xs) (pubH n xs H) ⟨⟩) : NextR k0 up Hs Inv μ z fr H ⟨⟩ := Gh.pub n xs T sz h hn
attribute [go_sem ↓] pubB dropB lend1 lend2
end
end Go.W
/- The examples of the chapter: two, awake; AuditNames. -/
namespace Go.Proofs.Ytdnohfhpbhlpaaa
open Go.W
deriving instance DecidableEq for Fnd
def nilFn (v : A) (h : v.flat) : Fun := ⟨fun av => av = [], fun _ => v, fun _ _ => h⟩
attribute [go_sem] nilFn
def twoE : List Ep := [⟨1, 0, mk [], mk [], true, true, false, true, 0, 0, 0, 0⟩, ⟨2, 1, mk [], mk [], false, true, false, true, 0, 0, 0, 0⟩]
def twoSp : W.Spec := fun av H K =>
  match av, H with
  | [], [] => K (.va (.c1 (.fz (twoE.map epC)))) []
  | _, _ => False
theorem twoSp_open {av : List S} {H : Hp} {K : S → Hp → Prop} (h : twoSp av H K) : av = [] ∧ H = [] ∧ K (.va (.c1 (.fz (twoE.map epC)))) [] := by
  unfold twoSp at h
  split at h
  · exact ⟨rfl, rfl, h⟩
  · exact h.elim
attribute [go_sem ↓] twoSp
theorem mTwo : Meets Try.prog 14 twoSp := by
  refine meets_fn Try.func14 ok14 0 (by rw [Try.ntmps14]; decide) (meetsAll_nil _) (fun av H K h => by obtain ⟨rfl, _⟩ := twoSp_open h; rfl) ?_
  intro av H K h
  obtain ⟨rfl, rfl, hK⟩ := twoSp_open h
  simp -dsimp only [go_sem, pc14, rs14]
  refine .pub 1 _ _ _ rfl (.sel [] (by simp) (by simp [pubH]) rfl (.done ?_))
  simpa [go_sem, pubH, twoE] using hK
abbrev exL : List Ev := [⟨1, 0, 0, 2, 1, 0⟩, ⟨4, 0, 0, 2, 1, 1⟩, ⟨4, 0, 0, 2, 1, 3⟩]
theorem ex_cont : contF exL twoE = [⟨2, 1, 0, 2, 1⟩] := by decide +kernel
abbrev exM : List Mo := [⟨0, 0, 0, 0⟩, ⟨0, 0, 90, 0⟩]
theorem ex_spd : speedF ⟨100, 50, 20, 10, 500⟩ exM = [⟨0, 8, 1, 1, 0⟩] := by decide +kernel
theorem ex_nm : nmF 2 = mk [100, 117, 112, 108, 105, 99, 97, 116, 101] := rfl
theorem ex_log : isLog [evC ⟨1, 0, 0, 2, 1, 0⟩, evC ⟨4, 0, 0, 2, 1, 1⟩, evC ⟨4, 0, 0, 2, 1, 3⟩] := isLog_mk (l := exL) (by decide) (by
  intro e he
  simp only [List.mem_cons, List.not_mem_nil, or_false] at he
  rcases he with rfl | rfl | rfl <;> exact ⟨by decide, by decide, by decide, by decide⟩)
theorem ex_eps : isEps (twoE.map epC) := ⟨twoE, rfl, by decide⟩
theorem ex_mos : isMos [moC ⟨0, 0, 0, 0⟩, moC ⟨0, 0, 90, 0⟩] := ⟨exM, rfl, by decide, by
  intro e he
  simp only [List.mem_cons, List.not_mem_nil, or_false] at he
  rcases he with rfl | rfl <;> exact ⟨by decide, by decide, by decide, by decide⟩⟩
theorem ex_lim : isLim (liC ⟨100, 50, 20, 10, 500⟩) := ⟨⟨100, 50, 20, 10, 500⟩, rfl, ⟨by decide, by decide⟩, ⟨by decide, by decide⟩, by decide, by decide⟩
theorem ex_c2 : contF [C.ev (evC ⟨1, 0, 0, 2, 1, 0⟩), C.ev (evC ⟨4, 0, 0, 2, 1, 1⟩), C.ev (evC ⟨4, 0, 0, 2, 1, 3⟩)] twoE = [⟨2, 1, 0, 2, 1⟩] := ex_cont
theorem ex_s2 : speedF (C.li (liC ⟨100, 50, 20, 10, 500⟩)) [C.mo (moC ⟨0, 0, 0, 0⟩), C.mo (moC ⟨0, 0, 90, 0⟩)] = [⟨0, 8, 1, 1, 0⟩] := ex_spd
set_option maxRecDepth 100000 in
set_option maxHeartbeats 1000000 in
theorem mAwake : Meets Try.prog 9 (nilFn (bA true) trivial).sp := by
  refine meets_fn Try.func9 ok9 0 (by rw [Try.ntmps9]; decide) (meetsAll_s mTwo (meetsAll_s mContracts.lend1 (meetsAll_s mSpeeds.lend1 (meetsAll_f mName (meetsAll_nil _))))) (fun av H K h => by rw [h.1.1]; rfl) ?_
  rintro av H K ⟨⟨rfl, rfl⟩, hK⟩
  have hK' : K (.va (bA true)) [] := hK
  clear hK
  have h1 := ex_log
  have h2 := ex_eps
  have h3 := ex_mos
  have h4 := ex_lim
  have c1 := ex_c2
  have c2 := ex_s2
  have c3 := ex_nm
  have h5 : ∀ e ∈ twoE, e.dl ≤ 1099511627776 := by
    intro e he
    simp only [twoE, List.mem_cons, List.not_mem_nil, or_false] at he
    rcases he with rfl | rfl <;> decide
  have z1 : (((1 : Nat) : Int) == 1) = true := rfl
  have qe : ∀ (c : List C) (p : List C → Prop), (∀ r, c = r → p r) = p c := fun c p => by simp
  simp -dsimp only [go_sem, pc9, rs9, h1, h2, h3, h4, c1, c2, c3, z1, ↓qe]
  exact ⟨h5, by omega, by omega, .sel [] (by simp) (by simp) rfl (.done hK')⟩
def i1pFn : Fun := i1Fn fun _ => .bool true
set_option maxRecDepth 100000 in
theorem mNames : Meets Try.prog 6 (i1Fn fun _ => .bool true).sp := by
  refine meets_fn Try.func6 ok6 1 (by rw [Try.ntmps6]; decide) (meetsAll_f mName (meetsAll_f mRName (meetsAll_f mAwake (meetsAll_nil _)))) i1Fn_len ?_
  rintro xs H K ⟨⟨h, rfl⟩, hK⟩
  obtain ⟨n, rfl⟩ := i1Pre_open h
  have hK' : K (.va (.c1 (.vl (.bool true)))) [] := hK
  clear hK h
  generalize hN : nmF n = m
  simp -dsimp only [go_sem, pc6, rs6, hN]
  exact .done hK'
end Go.Proofs.Ytdnohfhpbhlpaaa
/- ref and Same. -/
namespace Go.Proofs.Ytdnohfhpbhlpaaa
open Go.W
def isFd (rs : List (List C)) : Prop := ∃ l : List Fnd, rs = l.map fdC ∧ l.length ≤ 1000000000
theorem isFd_mk {l : List Fnd} (h : l.length ≤ 1000000000) : isFd (l.map fdC) := ⟨l, rfl, h⟩
def plnSp : W.Spec := fun av H K =>
  match av, H with
  | [.va (.c1 (.fz rs))], [] => isFd rs ∧ K (.va (.c1 (.fz rs))) []
  | _, _ => False
theorem plnSp_open {av : List S} {H : Hp} {K : S → Hp → Prop} (h : plnSp av H K) : ∃ l : List Fnd, av = [.va (.c1 (.fz (l.map fdC)))] ∧ H = [] ∧ l.length ≤ 1000000000 ∧ K (.va (.c1 (.fz (l.map fdC)))) [] := by
  unfold plnSp at h
  split at h
  · obtain ⟨⟨l, rfl, h1⟩, hK⟩ := h
    exact ⟨l, rfl, rfl, h1, hK⟩
  · exact h.elim
attribute [go_sem ↓] plnSp
set_option maxRecDepth 100000 in
theorem mRef : Meets Try.prog 11 plnSp := by
  refine meets_fn Try.func11 ok11 1 (by rw [Try.ntmps11]; decide) (meetsAll_nil _) (fun av H K h => by obtain ⟨_, rfl, _⟩ := plnSp_open h; rfl) ?_
  intro av H K h
  obtain ⟨l, rfl, rfl, hl, hK⟩ := plnSp_open h
  simp -dsimp only [go_sem, pc11, rs11]
  refine vc_loop_gh (α := Nat) (fun i => [(0, .va (.c1 (.fz (l.map fdC)))), (3, .va (.c1 (.sl 0 i))), (4, iS .i64 i)]) (fun i => [.row ((l.take i).map fdC) 59 4]) (fun i => i ≤ l.length) (fun i => l.length - i) (.nil 3 59 4 rfl (gh_at 0 1 (by omega) ?_ ?_)) ?_
  · simp [go_sem]
  · simp [go_sem]
  intro i hi
  rcases Nat.lt_or_ge i l.length with hlt | hge
  · obtain ⟨c, hc⟩ : ∃ c, l[i]? = some c := ⟨_, List.getElem?_eq_getElem hlt⟩
    have q1 := row_rg (row := fdC) hc
    have q2 := row_rg' (row := fdC) hc
    have hg : decide ((i : Int) < (l.length : Int)) = true := by simp; omega
    have hz : (l.take i).length = i := by rw [List.length_take]; omega
    simp -dsimp only [go_sem, hg, ↓q2]
    and_intros
    all_goals first
      | omega
      | exact hz
      | skip
    refine loop_next (i + 1) 1 (by omega) (by omega) ?_ ?_
    · simp [go_sem]
    · simp [go_sem, List.take_add_one, hc]
  · have hg : decide ((i : Int) < (l.length : Int)) = false := by simp; omega
    obtain rfl : i = l.length := by omega
    simp -dsimp only [go_sem, hg]
    refine .pub 0 _ _ _ rfl (.sel [] (by simp) (by simp [pubH]) rfl (.done ?_))
    simpa [go_sem] using hK
def fd4 (f : Fnd) : Int × Int × Int × Int := (f.k, f.at', f.a, f.b)
def C.fd (r : List C) : Fnd := ⟨0, C.gi r[0]?, C.gi r[1]?, C.gi r[2]?, C.gi r[3]?⟩
def samF (av : List S) : Prop := match av with
  | [.va (.c1 (.fz x)), .va (.c1 (.fz y))] => isFd x ∧ isFd y
  | _ => False
theorem samF_open {av : List S} (h : samF av) : ∃ l m : List Fnd, av = [.va (.c1 (.fz (l.map fdC))), .va (.c1 (.fz (m.map fdC)))] ∧ l.length ≤ 1000000000 ∧ m.length ≤ 1000000000 := by
  unfold samF at h
  split at h
  · obtain ⟨⟨l, rfl, h1⟩, ⟨m, rfl, h2⟩⟩ := h; exact ⟨l, m, rfl, h1, h2⟩
  · exact h.elim
def eqL (l m : List Fnd) : Bool := decide (l.map fd4 = m.map fd4)
def samV (av : List S) : A := match av with
  | [.va (.c1 (.fz x)), .va (.c1 (.fz y))] => bA (eqL (x.map C.fd) (y.map C.fd))
  | _ => bA false
def samFn : Fun := ⟨samF, samV, fun xs h => by obtain ⟨l, m, rfl, _⟩ := samF_open h; trivial⟩
theorem samFn_len : ∀ xs H K, samFn.sp xs H K → xs.length = 2 := fun xs H K h => by obtain ⟨l, m, rfl, _⟩ := samF_open h.1.1; rfl
attribute [go_sem] samFn samF samV
theorem eqL_dec (l m : List Fnd) : eqL ((l.map fdC).map C.fd) ((m.map fdC).map C.fd) = eqL l m := by
  unfold eqL
  rw [List.map_map, List.map_map, List.map_map, List.map_map, show ((fd4 ∘ C.fd) ∘ fdC) = fd4 from funext fun f => rfl]
theorem eqL_self (l : List Fnd) : eqL l l = true := by unfold eqL; simp
theorem eqL_ne {l m : List Fnd} (h : l.length ≠ m.length) : eqL l m = false := by
  unfold eqL; simp; intro e; exact h (by simpa using congrArg List.length e)
theorem eqL_at {l m : List Fnd} {i : Nat} {c d : Fnd} (h1 : l[i]? = some c) (h2 : m[i]? = some d) (h : fd4 c ≠ fd4 d) : eqL l m = false := by
  unfold eqL; simp; intro e
  have := congrArg (fun x : List _ => x[i]?) e
  simp [h1, h2] at this
  exact h this
set_option maxRecDepth 100000 in
theorem mSame : Meets Try.prog 10 samFn.sp := by
  refine meets_fn Try.func10 ok10 2 (by rw [Try.ntmps10]; decide) (meetsAll_nil _) samFn_len ?_
  rintro xs H K ⟨⟨h, rfl⟩, hK⟩
  obtain ⟨l, m, rfl, hl, hm⟩ := samF_open h
  have hK : K (bS (eqL l m)) [] := by
    have : samFn.val [.va (.c1 (.fz (l.map fdC))), .va (.c1 (.fz (m.map fdC)))] = bA (eqL l m) := by rw [← eqL_dec]; rfl
    rw [this] at hK; exact hK
  simp -dsimp only [go_sem, pc10, rs10]
  refine ⟨fun h => ?_, fun h => ?_⟩
  · rw [eqL_ne (by simp at h; omega)] at hK
    exact .done hK
  have hlm : l.length = m.length := by simp at h; omega
  refine vc_loop (α := Nat) (fun i => [(0, .va (.c1 (.fz (l.map fdC)))), (1, .va (.c1 (.fz (m.map fdC)))), (5, iS .i64 i)]) (fun i => []) (fun i => i ≤ l.length ∧ (l.take i).map fd4 = (m.take i).map fd4) (fun i => l.length - i) 0 0 (by simp) ?_ ?_ ?_
  · simp -dsimp only [go_sem]; simp
  · simp [go_sem]
  rintro i ⟨hi, ht⟩
  rcases Nat.lt_or_ge i l.length with hlt | hge
  · obtain ⟨c, hc⟩ : ∃ c, l[i]? = some c := ⟨_, List.getElem?_eq_getElem hlt⟩
    obtain ⟨d, hd⟩ : ∃ c, m[i]? = some c := ⟨_, List.getElem?_eq_getElem (by omega)⟩
    have q1 := row_rg (row := fdC) hc
    have q2 := row_rg' (row := fdC) hc
    have q3 := row_rg (row := fdC) hd
    have q4 := row_rg' (row := fdC) hd
    have hg : decide ((i : Int) < (l.length : Int)) = true := by simp; omega
    have hml : (i : Int) < (m.length : Int) := by omega
    cases he : (c.k == d.k && (c.at' == d.at' && (c.a == d.a && c.b == d.b))) with
    | true =>
      have hcd : fd4 c = fd4 d := by simp at he; unfold fd4; rw [he.1, he.2.1, he.2.2.1, he.2.2.2]
      simp -dsimp only [go_sem, hg, ↓q2, ↓q4, he]
      and_intros
      all_goals first
        | omega
        | skip
      refine loop_next (i + 1) 0 ⟨by omega, by rw [List.take_add_one, List.take_add_one, hc, hd]; simp [ht, hcd]⟩ (by omega) ?_ ?_
      · simp -dsimp only [go_sem]; simp
      · simp [go_sem]
    | false =>
      have hcd : fd4 c ≠ fd4 d := by
        intro e; unfold fd4 at e; simp at e; simp at he; exact he e.1 e.2.1 e.2.2.1 e.2.2.2
      rw [eqL_at hc hd hcd] at hK
      simp -dsimp only [go_sem, hg, ↓q2, ↓q4, he]
      and_intros
      all_goals first
        | omega
        | skip
      exact .done hK
  · have hg : decide ((i : Int) < (l.length : Int)) = false := by simp; omega
    obtain rfl : i = l.length := by omega
    have he : eqL l m = true := by
      unfold eqL; rw [List.take_length, hlm, List.take_length] at ht; simp [ht]
    rw [he] at hK
    simp -dsimp only [go_sem, hg]
    exact .done hK
theorem mRTerminal : Meets Try.prog 40 (i1Fn fun n => .bool (teF n)).sp := by
  refine meets_fn Try.func40 ok40 1 (by rw [Try.ntmps40]; decide) (meetsAll_nil _) i1Fn_len ?_
  rintro xs H K ⟨⟨h, rfl⟩, hK⟩
  obtain ⟨n, rfl⟩ := i1Pre_open h
  have hK' : K (.va (.c1 (.vl (.bool (teF n))))) [] := hK
  unfold teF at hK'
  simp -dsimp only [go_sem, pc40, rs40]
  exact .done hK'
end Go.Proofs.Ytdnohfhpbhlpaaa
/- The reference's of, ends. -/
namespace Go.Proofs.Ytdnohfhpbhlpaaa
open Go.W
theorem ofB_k (p : Pr) (e : Ev) (k : Int) : ofB p e [k] = (e.k == k && e.ep == p.r.id && e.pr == p.w.id) := by
  unfold ofB
  simp only [List.contains_cons, List.contains_nil, Bool.or_false]
  cases e.k == k <;> cases e.ep == p.r.id <;> cases e.pr == p.w.id <;> rfl
theorem endB_eq (p : Pr) (e : Ev) : endB p e = (ofB p e [1] || ofB p e [3] || (e.k == 10 && e.nd == p.r.nd)) := by
  unfold endB
  have : ofB p e [1, 3] = (ofB p e [1] || ofB p e [3]) := by
    unfold ofB
    simp only [List.contains_cons, List.contains_nil, Bool.or_false]
    cases e.k == 1 <;> cases e.k == 3 <;> cases e.ep == p.r.id <;> cases e.pr == p.w.id <;> rfl
  rw [this]
theorem ofB_45 (p : Pr) (e : Ev) : ofB p e [4, 5] = (ofB p e [4] || ofB p e [5]) := by
  unfold ofB
  simp only [List.contains_cons, List.contains_nil, Bool.or_false]
  cases e.k == 4 <;> cases e.k == 5 <;> cases e.ep == p.r.id <;> cases e.pr == p.w.id <;> rfl
def roPre : List S → Prop := fun xs => match xs with
  | [.va (.gs ec), .va (.gs pc), .va (.c1 (.vl (.int .i64 _)))] => isEv ec ∧ isPr pc
  | _ => False
theorem roPre_open {xs : List S} (h : roPre xs) : ∃ (p : Pr) (e : Ev) (k : Int), xs = [.va (.gs (evC e)), .va (.gs (prC p)), iS .i64 k] := by
  unfold roPre at h
  split at h
  · obtain ⟨⟨e, rfl⟩, p, rfl⟩ := h; exact ⟨p, e, _, rfl⟩
  · exact h.elim
def roVal : List S → A := fun xs => match xs with
  | [.va (.gs ec), .va (.gs pc), .va (.c1 (.vl (.int .i64 k)))] => bA (ofB (C.pr pc) (C.ev ec) [k])
  | _ => .gs []
theorem roVal_eq (p : Pr) (e : Ev) (k : Int) : roVal [.va (.gs (evC e)), .va (.gs (prC p)), iS .i64 k] = bA (ofB p e [k]) := rfl
def roFn : Fun := ⟨roPre, roVal, fun xs h => by obtain ⟨p, e, k, rfl⟩ := roPre_open h; trivial⟩
theorem roFn_len : ∀ xs H K, roFn.sp xs H K → xs.length = 3 := fun xs H K h => by obtain ⟨p, e, k, rfl⟩ := roPre_open h.1.1; rfl
theorem mROf : Meets Try.prog 29 roFn.sp := by
  refine meets_fn Try.func29 ok29 3 (by rw [Try.ntmps29]; decide) (meetsAll_nil _) roFn_len ?_
  rintro xs H K ⟨⟨h, rfl⟩, hK⟩
  obtain ⟨p, e, k, rfl⟩ := roPre_open h
  have hK' : K (bS (ofB p e [k])) [] := hK
  rw [ofB_k] at hK'
  simp -dsimp only [go_sem, pc29, rs29]
  exact .sel [] (by simp) (by simp) rfl (.done hK')
def rePre : List S → Prop := fun xs => match xs with
  | [.va (.gs ec), .va (.gs pc)] => isEv ec ∧ isPr pc
  | _ => False
theorem rePre_open {xs : List S} (h : rePre xs) : ∃ (p : Pr) (e : Ev), xs = [.va (.gs (evC e)), .va (.gs (prC p))] := by
  unfold rePre at h
  split at h
  · obtain ⟨⟨e, rfl⟩, p, rfl⟩ := h; exact ⟨p, e, rfl⟩
  · exact h.elim
def reVal : List S → A := fun xs => match xs with
  | [.va (.gs ec), .va (.gs pc)] => bA (endB (C.pr pc) (C.ev ec))
  | _ => .gs []
theorem reVal_eq (p : Pr) (e : Ev) : reVal [.va (.gs (evC e)), .va (.gs (prC p))] = bA (endB p e) := rfl
def reFn : Fun := ⟨rePre, reVal, fun xs h => by obtain ⟨p, e, rfl⟩ := rePre_open h; trivial⟩
theorem reFn_len : ∀ xs H K, reFn.sp xs H K → xs.length = 2 := fun xs H K h => by obtain ⟨p, e, rfl⟩ := rePre_open h.1.1; rfl
set_option maxHeartbeats 1000000 in
theorem mREnds : Meets Try.prog 49 reFn.sp := by
  refine meets_fn Try.func49 ok49 2 (by rw [Try.ntmps49]; decide) (meetsAll_f mROf (meetsAll_nil _)) reFn_len ?_
  rintro xs H K ⟨⟨h, rfl⟩, hK⟩
  obtain ⟨p, e, rfl⟩ := rePre_open h
  have hK' : K (bS (endB p e)) [] := hK
  have g1 := isPr_mk p
  have g2 := isEv_mk e
  have v1 := roVal_eq p e 1
  have v3 := roVal_eq p e 3
  rw [endB_eq] at hK'
  cases h1 : ofB p e [1] with
  | true =>
    rw [h1, Bool.true_or, Bool.true_or] at hK'
    simp -dsimp only [go_sem, pc49, rs49, roFn, roPre, g1, g2, v1, v3, h1]
    exact .sel [] (by simp) (by simp) rfl (.done hK')
  | false =>
    cases h3 : ofB p e [3] with
    | true =>
      rw [h1, h3, Bool.or_true, Bool.true_or] at hK'
      simp -dsimp only [go_sem, pc49, rs49, roFn, roPre, g1, g2, v1, v3, h1, h3]
      exact .sel [] (by simp) (by simp) rfl (.done hK')
    | false =>
      rw [h1, h3, Bool.or_false, Bool.false_or] at hK'
      simp -dsimp only [go_sem, pc49, rs49, roFn, roPre, g1, g2, v1, v3, h1, h3]
      exact .sel [] (by simp) (by simp) rfl (.done hK')
end Go.Proofs.Ytdnohfhpbhlpaaa
/- The reference's pairs. -/
namespace Go.Proofs.Ytdnohfhpbhlpaaa
open Go.W
theorem hasE_snoc (l : List Ep) (y x : Ep) : hasE (l ++ [y]) x = (hasE l x || y.id == x.id) := by unfold hasE; simp
set_option maxHeartbeats 4000000 in
set_option maxRecDepth 100000 in
theorem mRPairs : Meets Try.prog 28 paiSp := by
  refine meets_fn Try.func28 ok28 1 (by rw [Try.ntmps28]; decide) (meetsAll_nil _) (fun av H K h => by obtain ⟨_, rfl, _⟩ := paiSp_open h; rfl) ?_
  intro av H K h
  obtain ⟨es, rfl, rfl, hes, hK⟩ := paiSp_open h
  clear h
  unfold pairsF at hK
  have hfl := firstF_len es
  generalize hF : firstF es = fs at hK hfl
  simp -dsimp only [go_sem, pc28, rs28]
  refine vc_loop_gh (α := Nat × List Ep) (fun z => [(0, .va (.c1 (.fz (es.map epC)))), (3, .va (.c1 (.sl 0 z.2.length))), (4, iS .i64 z.1)])
    (fun z => [.row (z.2.map epC) 31 12])
    (fun z => (z.1 ≤ es.length ∧ z.2.length ≤ z.1) ∧ firGo (es.drop z.1) z.2 = fs) (fun z => es.length - z.1)
    (.nil 3 31 12 rfl (gh_at (0, []) 1 ⟨⟨Nat.zero_le _, Nat.zero_le _⟩, hF⟩ ?_ ?_)) ?_
  · simp [go_sem]
  · simp [go_sem]
  rintro ⟨i, acc⟩ ⟨⟨hi, hal⟩, hgo⟩
  simp only at hi hal hgo
  rcases Nat.lt_or_ge i es.length with hlt | hge
  · have hx : es[i]? = some es[i] := List.getElem?_eq_getElem hlt
    have hg : decide ((i : Int) < (es.length : Int)) = true := by simp; omega
    have q1 := row_rg (row := epC) hx
    have q2 := row_rg' (row := epC) hx
    rw [List.drop_eq_getElem_cons hlt] at hgo
    simp only [firGo] at hgo
    generalize es[i] = x at *
    simp -dsimp only [go_sem, hg]
    refine vc_loop (α := Nat) (fun z => [(0, .va (.c1 (.fz (es.map epC)))), (3, .va (.c1 (.sl 0 acc.length))), (4, iS .i64 i), (5, bS (hasE (acc.take z) x)), (6, iS .i64 z)])
      (fun _ => [.row (acc.map epC) 31 12]) (fun z => z ≤ acc.length) (fun z => acc.length - z) 0 1 (Nat.zero_le _) ?_ ?_ ?_
    · simp [go_sem, hasE]
    · simp [go_sem]
    intro j hj
    rcases Nat.lt_or_ge j acc.length with hjl | hjl
    · obtain ⟨y, hy⟩ : ∃ y, acc[j]? = some y := ⟨_, List.getElem?_eq_getElem hjl⟩
      have r1 := row_rg (row := epC) hy
      have r2 := row_rg' (row := epC) hy
      have hg' : decide ((j : Int) < (acc.length : Int)) = true := by simp; omega
      have hst : hasE (acc.take (j + 1)) x = (hasE (acc.take j) x || y.id == x.id) := by rw [List.take_add_one, hy, Option.toList_some, hasE_snoc]
      cases hh : hasE (acc.take j) x with
      | true =>
        rw [hh, Bool.true_or] at hst
        simp -dsimp only [go_sem, hg']
        and_intros
        all_goals first
          | omega
          | skip
        refine loop_next (j + 1) 1 (by omega) (by omega) ?_ ?_
        · simp [go_sem, hst]
        · simp [go_sem]
      | false =>
        rw [hh, Bool.false_or] at hst
        simp -dsimp only [go_sem, hg', ↓r1, ↓q2]
        and_intros
        all_goals first
          | omega
          | skip
        refine loop_next (j + 1) 1 (by omega) (by omega) ?_ ?_
        · simp [go_sem, hst]
        · simp [go_sem]
    · obtain rfl : j = acc.length := by omega
      have hg' : decide ((acc.length : Int) < (acc.length : Int)) = false := by simp
      rw [List.take_length]
      cases hc : hasE acc x with
      | true =>
        have hst : firS acc x = acc := by unfold firS; rw [hc]; rfl
        rw [hst] at hgo
        simp -dsimp only [go_sem, hg']
        and_intros
        all_goals first
          | omega
          | skip
        refine loop_next (i + 1, acc) 1 ⟨⟨by simp only; omega, by simp only; omega⟩, hgo⟩ (by simp only; omega) ?_ ?_
        · simp [go_sem]
        · simp [go_sem]
      | false =>
        have hst : firS acc x = acc ++ [x] := by unfold firS; rw [hc]; rfl
        rw [hst] at hgo
        simp -dsimp only [go_sem, hg', ↓q2]
        and_intros
        all_goals first
          | omega
          | skip
        refine loop_next (i + 1, acc ++ [x]) 1 ⟨⟨by simp only; omega, by simp only [List.length_append, List.length_singleton]; omega⟩, hgo⟩ (by simp only; omega) ?_ ?_
        · simp [go_sem]
        · simp [go_sem]
  have hg : decide ((i : Int) < (es.length : Int)) = false := by simp; omega
  have : es.drop i = [] := List.drop_eq_nil_iff.2 (by omega)
  rw [this] at hgo
  simp only [firGo] at hgo
  subst hgo
  simp -dsimp only [go_sem, hg]
  have hf6 : acc.length ≤ 6 := by omega
  clear hg hge hi hal this hF hfl
  refine vc_loop_gh (α := Nat × List Pr) (fun z => [(3, .va (.c1 (.sl 0 acc.length))), (7, .va (.c1 (.sl 1 z.2.length))), (8, iS .i64 z.1)])
    (fun z => [.row (acc.map epC) 31 12, .row (z.2.map prC) 77 24])
    (fun z => (z.1 ≤ acc.length ∧ z.2.length ≤ z.1 * 6) ∧ prOut acc (acc.drop z.1) z.2 = prOut acc acc []) (fun z => acc.length - z.1)
    (.nil 7 77 24 rfl (gh_at (0, []) 2 ⟨⟨Nat.zero_le _, Nat.zero_le _⟩, rfl⟩ ?_ ?_)) ?_
  · simp [go_sem]
  · simp [go_sem]
  rintro ⟨i, ps⟩ ⟨⟨hi, hpl⟩, hgo⟩
  simp only at hi hpl hgo
  rcases Nat.lt_or_ge i acc.length with hlt | hge
  · have hx : acc[i]? = some acc[i] := List.getElem?_eq_getElem hlt
    have hg : decide ((i : Int) < (acc.length : Int)) = true := by simp; omega
    have q1 := row_rg (row := epC) hx
    have q2 := row_rg' (row := epC) hx
    rw [List.drop_eq_getElem_cons hlt] at hgo
    simp only [prOut] at hgo
    generalize acc[i] = r at *
    have hil := prIn_len r acc ps
    generalize hI : prIn r acc ps = ps' at hgo hil
    simp -dsimp only [go_sem, hg]
    refine vc_loop (α := Nat × List Pr) (fun z => [(3, .va (.c1 (.sl 0 acc.length))), (7, .va (.c1 (.sl 1 z.2.length))), (8, iS .i64 i), (9, iS .i64 z.1)])
      (fun z => [.row (acc.map epC) 31 12, .row (z.2.map prC) 77 24])
      (fun z => (z.1 ≤ acc.length ∧ z.2.length ≤ ps.length + z.1) ∧ prIn r (acc.drop z.1) z.2 = ps') (fun z => acc.length - z.1) (0, ps) 2 ⟨⟨Nat.zero_le _, Nat.le_refl _⟩, hI⟩ ?_ ?_ ?_
    · simp [go_sem]
    · simp [go_sem]
    rintro ⟨j, pz⟩ ⟨⟨hj, hzl⟩, hgj⟩
    simp only at hj hzl hgj
    rcases Nat.lt_or_ge j acc.length with hjt | hje
    · have hy : acc[j]? = some acc[j] := List.getElem?_eq_getElem hjt
      have hg' : decide ((j : Int) < (acc.length : Int)) = true := by simp; omega
      have r1 := row_rg (row := epC) hy
      have r2 := row_rg' (row := epC) hy
      rw [List.drop_eq_getElem_cons hjt] at hgj
      simp only [prIn] at hgj
      generalize acc[j] = w at *
      cases hr : r.wr with
      | true =>
        have hst : prO r w = [] := by unfold prO; rw [hr]; rfl
        rw [hst, List.append_nil] at hgj
        simp -dsimp only [go_sem, hg', ↓q1, hr]
        and_intros
        all_goals first
          | omega
          | skip
        refine loop_next (j + 1, pz) 2 ⟨⟨by simp only; omega, by simp only; omega⟩, hgj⟩ (by simp only; omega) ?_ ?_
        · simp [go_sem]
        · simp [go_sem]
      | false =>
        cases hw : w.wr with
        | true =>
          have hst : prO r w = [⟨r, w⟩] := by unfold prO; rw [hr, hw]; rfl
          rw [hst] at hgj
          simp -dsimp only [go_sem, hg', ↓r1, ↓q1, hr, hw]
          and_intros
          all_goals first
            | omega
            | skip
          refine loop_next (j + 1, pz ++ [⟨r, w⟩]) 2 ⟨⟨by simp only; omega, by simp only [List.length_append, List.length_singleton]; omega⟩, hgj⟩ (by simp only; omega) ?_ ?_
          · simp [go_sem]
          · simp [go_sem, hr, hw]
        | false =>
          have hst : prO r w = [] := by unfold prO; rw [hr, hw]; rfl
          rw [hst, List.append_nil] at hgj
          simp -dsimp only [go_sem, hg', ↓r1, ↓q1, hr, hw]
          and_intros
          all_goals first
            | omega
            | skip
          refine loop_next (j + 1, pz) 2 ⟨⟨by simp only; omega, by simp only; omega⟩, hgj⟩ (by simp only; omega) ?_ ?_
          · simp [go_sem]
          · simp [go_sem]
    · have hg' : decide ((j : Int) < (acc.length : Int)) = false := by simp; omega
      have : acc.drop j = [] := List.drop_eq_nil_iff.2 (by omega)
      rw [this] at hgj
      simp only [prIn] at hgj
      subst hgj
      simp -dsimp only [go_sem, hg']
      and_intros
      all_goals first
        | omega
        | skip
      refine loop_next (i + 1, pz) 2 ⟨⟨by simp only; omega, by simp only; omega⟩, hgo⟩ (by simp only; omega) ?_ ?_
      · simp [go_sem]
      · simp [go_sem]
  · have hg : decide ((i : Int) < (acc.length : Int)) = false := by simp; omega
    have : acc.drop i = [] := List.drop_eq_nil_iff.2 (by omega)
    rw [this] at hgo
    simp only [prOut] at hgo
    subst hgo
    simp -dsimp only [go_sem, hg]
    refine .pub 1 _ _ _ rfl (.sel [] (by simp) (by simp [pubH]) rfl (.done ?_))
    simpa [go_sem, pubH] using hK
end Go.Proofs.Ytdnohfhpbhlpaaa
/- The reference's reliable. -/
namespace Go.Proofs.Ytdnohfhpbhlpaaa
open Go.W
def rlSp : W.Spec := fun av H K =>
  match av, H with
  | [.va (.c1 (.fz rs)), .va (.gs pc), .va (.c1 (.vl (.int .i64 f))), .va (.c1 (.vl (.int .i64 t)))], [] =>
    (isPr pc ∧ isLog rs ∧ 0 ≤ f ∧ f ≤ rs.length ∧ 0 ≤ t ∧ t ≤ rs.length) ∧ K (.va (.c1 (.fz ((orderF (C.pr pc) (rs.map C.ev) f.toNat t.toNat).map fnC)))) []
  | _, _ => False
theorem rlSp_open {av : List S} {H : Hp} {K : S → Hp → Prop} (h : rlSp av H K) : ∃ (p : Pr) (l : List Ev) (f t : Nat), av = [.va (.c1 (.fz (l.map evC))), .va (.gs (prC p)), iS .i64 f, iS .i64 t] ∧ H = [] ∧ l.length ≤ 60 ∧ (∀ e ∈ l, e.ok) ∧ f ≤ l.length ∧ t ≤ l.length ∧ K (.va (.c1 (.fz ((orderF p l f t).map fnC)))) [] := by
  unfold rlSp at h
  split at h
  · rename_i rs pc f t
    obtain ⟨⟨⟨p, rfl⟩, ⟨l, rfl, h1, h2⟩, h3, h4, h5, h6⟩, hK⟩ := h
    rw [ev_map] at hK
    rw [List.length_map] at h4 h6
    obtain ⟨f, rfl⟩ := Int.eq_ofNat_of_zero_le h3
    obtain ⟨t, rfl⟩ := Int.eq_ofNat_of_zero_le h5
    exact ⟨p, l, f, t, rfl, rfl, h1, h2, by omega, by omega, hK⟩
  · exact h.elim
attribute [go_sem ↓] rlSp
/-- The numbers seen, as a set and as a list of events. -/
structure SnI (ks : List Int) (sn : List Ev) (i : Nat) : Prop where
  has : ∀ s, ks.contains s = (sn.map Ev.sq).contains s
  emp : ks.isEmpty = sn.isEmpty
  len : sn.length ≤ i
theorem contains_snoc (l : List Int) (y s : Int) : (l ++ [y]).contains s = (l.contains s || s == y) := by
  induction l with
  | nil => rw [List.nil_append, List.contains_cons, List.contains_nil, Bool.or_false, Bool.false_or]
  | cons x l ih => simp only [List.cons_append, List.contains_cons, ih, Bool.or_assoc]
theorem addK_has (ks : List Int) (y s : Int) : (addK ks y).contains s = (ks.contains s || s == y) := by
  unfold addK
  cases h : ks.contains y with
  | true =>
    rw [Bool.cond_true]
    cases hs : s == y with
    | true => rw [beq_iff_eq] at hs; subst hs; rw [h]; rfl
    | false => simp
  | false => rw [Bool.cond_false]; exact contains_snoc ks y s
theorem addK_emp (ks : List Int) (y : Int) : (addK ks y).isEmpty = false := by
  unfold addK
  cases h : ks.contains y with
  | true =>
    cases ks with
    | nil => simp at h
    | cons k ks => rfl
  | false => simp
theorem sni_add {ks : List Int} {sn : List Ev} {i : Nat} (h : SnI ks sn i) (e : Ev) : SnI (addK ks e.sq) (sn ++ [e]) (i + 1) where
  has := fun s => by rw [addK_has, h.has, List.map_append, List.map_cons, List.map_nil, contains_snoc]
  emp := by rw [addK_emp]; simp
  len := by have := h.len; simp; omega
theorem sni_skip {ks : List Int} {sn : List Ev} {i : Nat} (h : SnI ks sn i) : SnI ks sn (i + 1) := ⟨h.has, h.emp, by have := h.len; omega⟩
set_option maxHeartbeats 8000000 in
set_option maxRecDepth 100000 in
theorem mReliable : Meets Try.prog 50 rlSp := by
  refine meets_fn Try.func50 ok50 4 (by rw [Try.ntmps50]; decide) (meetsAll_f mROf (meetsAll_nil _)) (fun av H K h => by obtain ⟨_, _, _, _, rfl, _⟩ := rlSp_open h; rfl) ?_
  intro av H K h
  obtain ⟨p, l, f, t, rfl, rfl, hll, hle, hf, ht, hK⟩ := rlSp_open h
  clear h
  have gp := isPr_mk p
  have c0 : decide ((0 : Int) < 0) = false := rfl
  have c1 : decide ((0 : Int) < 1) = true := rfl
  have c2 : decide ((0 : Int) < 2) = true := rfl
  have c3 : decide ((0 : Int) < 3) = true := rfl
  simp -dsimp only [go_sem, pc50, rs50]
  refine ⟨by omega, ?_⟩
  refine vc_loop_gh (α := Nat × List Ev × (List Int × Int × List Fnd)) (fun z => [(0, .va (.c1 (.fz (l.map evC)))), (3, iS .i64 t), (5, .va (.c1 (.pt 0 0))), (9, .va (.c1 (.sl 1 z.2.2.2.2.length))), (10, .va (.c1 (.sl 2 z.2.1.length))), (11, iS .i64 z.2.2.2.1), (12, iS .i64 z.1)])
    (fun z => [.cells (prC p) 77, .row (z.2.2.2.2.map fnC) 81 5, .row (z.2.1.map evC) 27 6])
    (fun z => (z.1 ≤ 61 ∧ OrI z.2.2 z.1 ∧ SnI z.2.2.1 z.2.1 z.1) ∧ (ordGo p l (t - z.1) z.1 z.2.2).2.2 = orderF p l f t) (fun z => t - z.1)
    (.nil 9 81 5 rfl (.nil 10 27 6 rfl (gh_at (f + 1, [], ([], 0, [])) 3 ⟨⟨by simp only; omega, ⟨Nat.zero_le _, by simp only; omega, by simp only; omega⟩, ⟨fun _ => rfl, rfl, Nat.zero_le _⟩⟩, rfl⟩ ?_ ?_))) ?_
  · simp [go_sem]
  · simp [go_sem]
  rintro ⟨i, sn, ks, last, out⟩ ⟨⟨hi, hI, hS⟩, hgo⟩
  simp only at hi hI hS hgo
  have hol := hI.ol
  have hlo := hI.lo
  have hhi := hI.hi
  have hsl := hS.len
  simp only at hol hlo hhi
  rcases Nat.lt_or_ge i t with hlt | hge
  · obtain ⟨e, hx⟩ : ∃ e, l[i]? = some e := ⟨_, List.getElem?_eq_getElem (by omega)⟩
    have heo := hle e (List.mem_of_getElem? hx)
    obtain ⟨e1, e2, e3, e4⟩ := id heo
    have q1 := row_rg (row := evC) hx
    have q2 := row_rg' (row := evC) hx
    have hg : decide ((i : Int) < (t : Int)) = true := by simp; omega
    have ge := isEv_mk e
    have v4 := roVal_eq p e 4
    have v5 := roVal_eq p e 5
    have hs1 : t - i = (t - (i + 1)) + 1 := by omega
    rw [hs1] at hgo
    simp only [ordGo, hx] at hgo
    have hori := ori_st (p := p) (i := i) hI heo
    cases ho : ofB p e [4, 5] with
    | false =>
      have hst : ordSt p i e (ks, last, out) = (ks, last, out) := by unfold ordSt; rw [ho]; rfl
      rw [hst] at hgo hori
      rw [ofB_45] at ho
      have o4 : ofB p e [4] = false := by cases h : ofB p e [4] <;> simp [h] at ho ⊢
      have o5 : ofB p e [5] = false := by rw [o4] at ho; simpa using ho
      simp -dsimp only [go_sem, hg, ↓q2, roFn, roPre, gp, ge, v4, v5, o4, o5]
      and_intros
      all_goals first
        | omega
        | skip
      refine loop_next (i + 1, sn, ks, last, out) 3 ⟨⟨by simp only; omega, hori, sni_skip hS⟩, hgo⟩ (by simp only; omega) ?_ ?_
      · simp [go_sem]
      · simp [go_sem]
    | true =>
      have hsn := sni_add hS e
      have hst : ordSt p i e (ks, last, out) = (addK ks e.sq, max (bif ks.isEmpty then e.sq else last) e.sq, out ++ ordO p i e (ordK ks last e.sq)) := by unfold ordSt; rw [ho]; rfl
      rw [hst] at hgo hori
      rw [ofB_45] at ho
      have hcs : (ofB p e [4] = true) ∨ (ofB p e [4] = false ∧ ofB p e [5] = true) := by
        cases h : ofB p e [4] with
        | true => exact .inl rfl
        | false => rw [h] at ho; exact .inr ⟨rfl, by simpa using ho⟩
      clear ho
      rcases hcs with o4 | ⟨o4, o5⟩
      · cases hem : sn.isEmpty with
        | true =>
          have hke : ks.isEmpty = true := by rw [hS.emp, hem]
          have hk : ordK ks last e.sq = 0 := by unfold ordK; rw [hke]; rfl
          have z1 : decide (0 < (sn.length : Int)) = false := by rw [List.isEmpty_iff] at hem; subst hem; rfl
          have z2 : ((sn.length : Int) == 0) = true := by rw [List.isEmpty_iff] at hem; subst hem; rfl
          have ha : out ++ ordO p i e 0 = out := by unfold ordO; simp
          have hm : max (bif ks.isEmpty then e.sq else last) e.sq = e.sq := by rw [hke, Bool.cond_true]; omega
          rw [hk, ha, hm] at hgo hori
          simp -dsimp only [go_sem, hg, ↓q2, roFn, roPre, gp, ge, v4, o4, z1, z2, c0]
          and_intros
          all_goals first
            | omega
            | skip
          refine loop_next (i + 1, sn ++ [e], addK ks e.sq, e.sq, out) 3 ⟨⟨by simp only; omega, hori, hsn⟩, hgo⟩ (by simp only; omega) ?_ ?_
          · simp [go_sem]
          · simp [go_sem]
        | false =>
          have hke : ks.isEmpty = false := by rw [hS.emp, hem]
          have hne : 0 < sn.length := by cases sn with | nil => simp at hem | cons x r => simp
          have z1 : decide (0 < (sn.length : Int)) = true := decide_eq_true (by omega)
          have z2 : ((sn.length : Int) == 0) = false := by rw [beq_eq_false_iff_ne]; omega
          rw [hke, Bool.cond_false] at hgo hori
          cases h2 : decide (e.sq ≤ last) with
          | false =>
            have h2' : last < e.sq := by simpa using h2
            have h4 : decide (last < e.sq) = true := by simpa using h2'
            have hm : max last e.sq = e.sq := by omega
            cases h1 : decide (last < e.sq - 1) with
            | true =>
              have h1' : decide (last + 1 < e.sq) = true := by simp at h1 ⊢; omega
              have hk : ordK ks last e.sq = 1 := by unfold ordK; rw [hke, h1']; rfl
              have ha : out ++ ordO p i e 1 = out ++ [⟨i, 1, e.at', p.r.id, p.w.id⟩] := by unfold ordO; simp
              rw [hk, ha, hm] at hgo hori
              simp -dsimp only [go_sem, hg, ↓q2, roFn, roPre, gp, ge, v4, o4, z1, z2, h1, h2, h4, c1]
              and_intros
              all_goals first
                | omega
                | skip
              refine loop_next (i + 1, sn ++ [e], addK ks e.sq, e.sq, out ++ [⟨i, 1, e.at', p.r.id, p.w.id⟩]) 3 ⟨⟨by simp only; omega, hori, hsn⟩, hgo⟩ (by simp only; omega) ?_ ?_
              · simp [go_sem]
              · simp [go_sem]
            | false =>
              have h1' : decide (last + 1 < e.sq) = false := by simp at h1 ⊢; omega
              have hk : ordK ks last e.sq = 0 := by unfold ordK; rw [hke, h1', h2]; rfl
              have ha : out ++ ordO p i e 0 = out := by unfold ordO; simp
              rw [hk, ha, hm] at hgo hori
              simp -dsimp only [go_sem, hg, ↓q2, roFn, roPre, gp, ge, v4, o4, z1, z2, h1, h2, h4, c0]
              and_intros
              all_goals first
                | omega
                | skip
              refine loop_next (i + 1, sn ++ [e], addK ks e.sq, e.sq, out) 3 ⟨⟨by simp only; omega, hori, hsn⟩, hgo⟩ (by simp only; omega) ?_ ?_
              · simp [go_sem]
              · simp [go_sem]
          | true =>
            have h2' : e.sq ≤ last := by simpa using h2
            have h4 : decide (last < e.sq) = false := by simp; omega
            have h1' : decide (last + 1 < e.sq) = false := by simp; omega
            have hm : max last e.sq = last := by omega
            have hkk : ordK ks last e.sq = bif (sn.map Ev.sq).contains e.sq then 2 else 3 := by unfold ordK; rw [hke, h1', h2, ← hS.has]; cases ks.contains e.sq <;> rfl
            rw [hkk, hm] at hgo hori
            simp -dsimp only [go_sem, hg, ↓q2, roFn, roPre, gp, ge, v4, o4, z1, h2]
            and_intros
            all_goals first
              | omega
              | skip
            refine vc_loop (α := Nat) (fun z => [(0, .va (.c1 (.fz (l.map evC)))), (3, iS .i64 t), (5, .va (.c1 (.pt 0 0))), (9, .va (.c1 (.sl 1 out.length))), (10, .va (.c1 (.sl 2 sn.length))), (11, iS .i64 last), (12, iS .i64 i), (13, iS .i64 e.sq), (14, iS .i64 (bif ((sn.take z).map Ev.sq).contains e.sq then 2 else 3)), (15, iS .i64 z)])
              (fun _ => [.cells (prC p) 77, .row (out.map fnC) 81 5, .row (sn.map evC) 27 6]) (fun z => z ≤ sn.length) (fun z => sn.length - z) 0 3 (Nat.zero_le _) ?_ ?_ ?_
            · simp [go_sem]
            · simp [go_sem]
            intro k hk
            rcases Nat.lt_or_ge k sn.length with hkl | hkl
            · obtain ⟨y, hy⟩ : ∃ y, sn[k]? = some y := ⟨_, List.getElem?_eq_getElem hkl⟩
              have r1 := row_rg (row := evC) hy
              have r2 := row_rg' (row := evC) hy
              have hg' : decide ((k : Int) < (sn.length : Int)) = true := by simp; omega
              have hst2 : ((sn.take (k + 1)).map Ev.sq).contains e.sq = (((sn.take k).map Ev.sq).contains e.sq || e.sq == y.sq) := by rw [List.take_add_one, hy, Option.toList_some, List.map_append, List.map_cons, List.map_nil, contains_snoc]
              cases hyy : y.sq == e.sq with
              | true =>
                have hyy' : (e.sq == y.sq) = true := by simp at hyy ⊢; omega
                rw [hyy', Bool.or_true] at hst2
                simp -dsimp only [go_sem, hg', ↓r1, hyy]
                and_intros
                all_goals first
                  | omega
                  | skip
                refine loop_next (k + 1) 3 (by omega) (by omega) ?_ ?_
                · simp only [go_sem, hst2]; simp
                · simp [go_sem]
              | false =>
                have hyy' : (e.sq == y.sq) = false := by simp at hyy ⊢; omega
                rw [hyy', Bool.or_false] at hst2
                simp -dsimp only [go_sem, hg', ↓r1, hyy]
                and_intros
                all_goals first
                  | omega
                  | skip
                refine loop_next (k + 1) 3 (by omega) (by omega) ?_ ?_
                · simp only [go_sem, hst2]; simp
                · simp [go_sem]
            · obtain rfl : k = sn.length := by omega
              have hg' : decide ((sn.length : Int) < (sn.length : Int)) = false := by simp
              rw [List.take_length]
              cases hc : (sn.map Ev.sq).contains e.sq with
              | true =>
                have ha : out ++ ordO p i e 2 = out ++ [⟨i, 2, e.at', p.r.id, p.w.id⟩] := by unfold ordO; simp
                rw [hc, Bool.cond_true, ha] at hgo hori
                simp -dsimp only [go_sem, hg', ↓q2, z2, h4, c2, Bool.cond_true]
                and_intros
                all_goals first
                  | omega
                  | skip
                refine loop_next (i + 1, sn ++ [e], addK ks e.sq, last, out ++ [⟨i, 2, e.at', p.r.id, p.w.id⟩]) 3 ⟨⟨by simp only; omega, hori, hsn⟩, hgo⟩ (by simp only; omega) ?_ ?_
                · simp [go_sem]
                · simp [go_sem]
              | false =>
                have ha : out ++ ordO p i e 3 = out ++ [⟨i, 3, e.at', p.r.id, p.w.id⟩] := by unfold ordO; simp
                rw [hc, Bool.cond_false, ha] at hgo hori
                simp -dsimp only [go_sem, hg', ↓q2, z2, h4, c3, Bool.cond_false]
                and_intros
                all_goals first
                  | omega
                  | skip
                refine loop_next (i + 1, sn ++ [e], addK ks e.sq, last, out ++ [⟨i, 3, e.at', p.r.id, p.w.id⟩]) 3 ⟨⟨by simp only; omega, hori, hsn⟩, hgo⟩ (by simp only; omega) ?_ ?_
                · simp [go_sem]
                · simp [go_sem]
      · cases hem : sn.isEmpty with
        | true =>
          have hke : ks.isEmpty = true := by rw [hS.emp, hem]
          have hk : ordK ks last e.sq = 0 := by unfold ordK; rw [hke]; rfl
          have z1 : decide (0 < (sn.length : Int)) = false := by rw [List.isEmpty_iff] at hem; subst hem; rfl
          have z2 : ((sn.length : Int) == 0) = true := by rw [List.isEmpty_iff] at hem; subst hem; rfl
          have ha : out ++ ordO p i e 0 = out := by unfold ordO; simp
          have hm : max (bif ks.isEmpty then e.sq else last) e.sq = e.sq := by rw [hke, Bool.cond_true]; omega
          rw [hk, ha, hm] at hgo hori
          simp -dsimp only [go_sem, hg, ↓q2, roFn, roPre, gp, ge, v4, v5, o4, o5, z1, z2, c0]
          and_intros
          all_goals first
            | omega
            | skip
          refine loop_next (i + 1, sn ++ [e], addK ks e.sq, e.sq, out) 3 ⟨⟨by simp only; omega, hori, hsn⟩, hgo⟩ (by simp only; omega) ?_ ?_
          · simp [go_sem]
          · simp [go_sem]
        | false =>
          have hke : ks.isEmpty = false := by rw [hS.emp, hem]
          have hne : 0 < sn.length := by cases sn with | nil => simp at hem | cons x r => simp
          have z1 : decide (0 < (sn.length : Int)) = true := decide_eq_true (by omega)
          have z2 : ((sn.length : Int) == 0) = false := by rw [beq_eq_false_iff_ne]; omega
          rw [hke, Bool.cond_false] at hgo hori
          cases h2 : decide (e.sq ≤ last) with
          | false =>
            have h2' : last < e.sq := by simpa using h2
            have h4 : decide (last < e.sq) = true := by simpa using h2'
            have hm : max last e.sq = e.sq := by omega
            cases h1 : decide (last < e.sq - 1) with
            | true =>
              have h1' : decide (last + 1 < e.sq) = true := by simp at h1 ⊢; omega
              have hk : ordK ks last e.sq = 1 := by unfold ordK; rw [hke, h1']; rfl
              have ha : out ++ ordO p i e 1 = out ++ [⟨i, 1, e.at', p.r.id, p.w.id⟩] := by unfold ordO; simp
              rw [hk, ha, hm] at hgo hori
              simp -dsimp only [go_sem, hg, ↓q2, roFn, roPre, gp, ge, v4, v5, o4, o5, z1, z2, h1, h2, h4, c1]
              and_intros
              all_goals first
                | omega
                | skip
              refine loop_next (i + 1, sn ++ [e], addK ks e.sq, e.sq, out ++ [⟨i, 1, e.at', p.r.id, p.w.id⟩]) 3 ⟨⟨by simp only; omega, hori, hsn⟩, hgo⟩ (by simp only; omega) ?_ ?_
              · simp [go_sem]
              · simp [go_sem]
            | false =>
              have h1' : decide (last + 1 < e.sq) = false := by simp at h1 ⊢; omega
              have hk : ordK ks last e.sq = 0 := by unfold ordK; rw [hke, h1', h2]; rfl
              have ha : out ++ ordO p i e 0 = out := by unfold ordO; simp
              rw [hk, ha, hm] at hgo hori
              simp -dsimp only [go_sem, hg, ↓q2, roFn, roPre, gp, ge, v4, v5, o4, o5, z1, z2, h1, h2, h4, c0]
              and_intros
              all_goals first
                | omega
                | skip
              refine loop_next (i + 1, sn ++ [e], addK ks e.sq, e.sq, out) 3 ⟨⟨by simp only; omega, hori, hsn⟩, hgo⟩ (by simp only; omega) ?_ ?_
              · simp [go_sem]
              · simp [go_sem]
          | true =>
            have h2' : e.sq ≤ last := by simpa using h2
            have h4 : decide (last < e.sq) = false := by simp; omega
            have h1' : decide (last + 1 < e.sq) = false := by simp; omega
            have hm : max last e.sq = last := by omega
            have hkk : ordK ks last e.sq = bif (sn.map Ev.sq).contains e.sq then 2 else 3 := by unfold ordK; rw [hke, h1', h2, ← hS.has]; cases ks.contains e.sq <;> rfl
            rw [hkk, hm] at hgo hori
            simp -dsimp only [go_sem, hg, ↓q2, roFn, roPre, gp, ge, v4, v5, o4, o5, z1, h2]
            and_intros
            all_goals first
              | omega
              | skip
            refine vc_loop (α := Nat) (fun z => [(0, .va (.c1 (.fz (l.map evC)))), (3, iS .i64 t), (5, .va (.c1 (.pt 0 0))), (9, .va (.c1 (.sl 1 out.length))), (10, .va (.c1 (.sl 2 sn.length))), (11, iS .i64 last), (12, iS .i64 i), (13, iS .i64 e.sq), (14, iS .i64 (bif ((sn.take z).map Ev.sq).contains e.sq then 2 else 3)), (15, iS .i64 z)])
              (fun _ => [.cells (prC p) 77, .row (out.map fnC) 81 5, .row (sn.map evC) 27 6]) (fun z => z ≤ sn.length) (fun z => sn.length - z) 0 3 (Nat.zero_le _) ?_ ?_ ?_
            · simp [go_sem]
            · simp [go_sem]
            intro k hk
            rcases Nat.lt_or_ge k sn.length with hkl | hkl
            · obtain ⟨y, hy⟩ : ∃ y, sn[k]? = some y := ⟨_, List.getElem?_eq_getElem hkl⟩
              have r1 := row_rg (row := evC) hy
              have r2 := row_rg' (row := evC) hy
              have hg' : decide ((k : Int) < (sn.length : Int)) = true := by simp; omega
              have hst2 : ((sn.take (k + 1)).map Ev.sq).contains e.sq = (((sn.take k).map Ev.sq).contains e.sq || e.sq == y.sq) := by rw [List.take_add_one, hy, Option.toList_some, List.map_append, List.map_cons, List.map_nil, contains_snoc]
              cases hyy : y.sq == e.sq with
              | true =>
                have hyy' : (e.sq == y.sq) = true := by simp at hyy ⊢; omega
                rw [hyy', Bool.or_true] at hst2
                simp -dsimp only [go_sem, hg', ↓r1, hyy]
                and_intros
                all_goals first
                  | omega
                  | skip
                refine loop_next (k + 1) 3 (by omega) (by omega) ?_ ?_
                · simp only [go_sem, hst2]; simp
                · simp [go_sem]
              | false =>
                have hyy' : (e.sq == y.sq) = false := by simp at hyy ⊢; omega
                rw [hyy', Bool.or_false] at hst2
                simp -dsimp only [go_sem, hg', ↓r1, hyy]
                and_intros
                all_goals first
                  | omega
                  | skip
                refine loop_next (k + 1) 3 (by omega) (by omega) ?_ ?_
                · simp only [go_sem, hst2]; simp
                · simp [go_sem]
            · obtain rfl : k = sn.length := by omega
              have hg' : decide ((sn.length : Int) < (sn.length : Int)) = false := by simp
              rw [List.take_length]
              cases hc : (sn.map Ev.sq).contains e.sq with
              | true =>
                have ha : out ++ ordO p i e 2 = out ++ [⟨i, 2, e.at', p.r.id, p.w.id⟩] := by unfold ordO; simp
                rw [hc, Bool.cond_true, ha] at hgo hori
                simp -dsimp only [go_sem, hg', ↓q2, z2, h4, c2, Bool.cond_true]
                and_intros
                all_goals first
                  | omega
                  | skip
                refine loop_next (i + 1, sn ++ [e], addK ks e.sq, last, out ++ [⟨i, 2, e.at', p.r.id, p.w.id⟩]) 3 ⟨⟨by simp only; omega, hori, hsn⟩, hgo⟩ (by simp only; omega) ?_ ?_
                · simp [go_sem]
                · simp [go_sem]
              | false =>
                have ha : out ++ ordO p i e 3 = out ++ [⟨i, 3, e.at', p.r.id, p.w.id⟩] := by unfold ordO; simp
                rw [hc, Bool.cond_false, ha] at hgo hori
                simp -dsimp only [go_sem, hg', ↓q2, z2, h4, c3, Bool.cond_false]
                and_intros
                all_goals first
                  | omega
                  | skip
                refine loop_next (i + 1, sn ++ [e], addK ks e.sq, last, out ++ [⟨i, 3, e.at', p.r.id, p.w.id⟩]) 3 ⟨⟨by simp only; omega, hori, hsn⟩, hgo⟩ (by simp only; omega) ?_ ?_
                · simp [go_sem]
                · simp [go_sem]
  · have hg : decide ((i : Int) < (t : Int)) = false := by simp; omega
    have hz : t - i = 0 := by omega
    rw [hz] at hgo
    simp only [ordGo] at hgo
    subst hgo
    simp -dsimp only [go_sem, hg]
    refine .pub 1 _ _ _ rfl (.sel [] (by simp) (by simp [pubH]) rfl (.done ?_))
    simpa [go_sem, pubH] using hK
end Go.Proofs.Ytdnohfhpbhlpaaa
/- The reference's missing. -/
namespace Go.Proofs.Ytdnohfhpbhlpaaa
open Go.W
def anyT (p : Pr) (l : List Ev) (v : Int) : Nat → Nat → Bool
  | 0, _ => false
  | n + 1, i => match l[i]? with
    | some e => (ofB p e [7] && e.at' == v) || anyT p l v n (i + 1)
    | none => false
theorem tol_any (p : Pr) (l : List Ev) (v : Int) : ∀ (n i : Nat) (z : List Int), (tolGo p l n i z).contains v = (z.contains v || anyT p l v n i)
  | 0, i, z => by simp [tolGo, anyT]
  | n + 1, i, z => by
    simp only [tolGo, anyT]
    cases l[i]? with
    | none => simp
    | some e =>
      simp only
      rw [tol_any p l v n (i + 1)]
      unfold tolS
      cases ofB p e [7] with
      | false => simp
      | true =>
        rw [Bool.cond_true, addK_has, Bool.true_and, Bool.or_assoc]
        have : (v == e.at') = (e.at' == v) := by rw [Bool.eq_iff_iff]; simp; exact eq_comm
        rw [this]
def misF (p : Pr) (l : List Ev) (f t : Nat) (st un ix : Int) : List Fnd := dlF p.r.id p.w.id p.r.dl st un ix (tolGo p l (t - (f + 1)) (f + 1) []) 1000 1
def miSp : W.Spec := fun av H K =>
  match av, H with
  | [.va (.c1 (.fz rs)), .va (.gs pc), .va (.c1 (.vl (.int .i64 f))), .va (.c1 (.vl (.int .i64 t))), .va (.c1 (.vl (.int .i64 st))), .va (.c1 (.vl (.int .i64 un))), .va (.c1 (.vl (.int .i64 ix)))], [] =>
    (isPr pc ∧ isLog rs ∧ 0 ≤ f ∧ f ≤ rs.length ∧ 0 ≤ t ∧ t ≤ rs.length ∧ 0 ≤ C.gi pc[9]? ∧ C.gi pc[9]? ≤ 1099511627776 ∧ 0 ≤ st ∧ st ≤ 1099511627776) ∧
      K (.va (.c1 (.fz ((misF (C.pr pc) (rs.map C.ev) f.toNat t.toNat st un ix).map fnC)))) []
  | _, _ => False
theorem miSp_open {av : List S} {H : Hp} {K : S → Hp → Prop} (h : miSp av H K) : ∃ (p : Pr) (l : List Ev) (f t : Nat) (st un ix : Int), av = [.va (.c1 (.fz (l.map evC))), .va (.gs (prC p)), iS .i64 f, iS .i64 t, iS .i64 st, iS .i64 un, iS .i64 ix] ∧ H = [] ∧ l.length ≤ 60 ∧ (∀ e ∈ l, e.ok) ∧ f ≤ l.length ∧ t ≤ l.length ∧ 0 ≤ p.r.dl ∧ p.r.dl ≤ 1099511627776 ∧ 0 ≤ st ∧ st ≤ 1099511627776 ∧ K (.va (.c1 (.fz ((misF p l f t st un ix).map fnC)))) [] := by
  unfold miSp at h
  split at h
  · rename_i rs pc f t st un ix
    obtain ⟨⟨⟨p, rfl⟩, ⟨l, rfl, h1, h2⟩, h3, h4, h5, h6, h7, h8, h9, h10⟩, hK⟩ := h
    rw [ev_map] at hK
    rw [List.length_map] at h4 h6
    obtain ⟨f, rfl⟩ := Int.eq_ofNat_of_zero_le h3
    obtain ⟨t, rfl⟩ := Int.eq_ofNat_of_zero_le h5
    exact ⟨p, l, f, t, st, un, ix, rfl, rfl, h1, h2, by omega, by omega, h7, h8, h9, h10, hK⟩
  · exact h.elim
attribute [go_sem ↓] miSp
set_option maxHeartbeats 8000000 in
set_option maxRecDepth 100000 in
theorem mMissing : Meets Try.prog 51 miSp := by
  refine meets_fn Try.func51 ok51 7 (by rw [Try.ntmps51]; decide) (meetsAll_f mROf (meetsAll_nil _)) (fun av H K h => by obtain ⟨_, _, _, _, _, _, _, rfl, _⟩ := miSp_open h; rfl) ?_
  intro av H K h
  obtain ⟨p, l, f, t, st, un, ix, rfl, rfl, hll, hle, hf, ht, hd0, hd1, hs0, hs1, hK⟩ := miSp_open h
  clear h
  have gp := isPr_mk p
  unfold misF at hK
  have hT : ∀ v, (tolGo p l (t - (f + 1)) (f + 1) []).contains v = anyT p l v (t - (f + 1)) (f + 1) := fun v => by rw [tol_any]; simp
  generalize hTT : tolGo p l (t - (f + 1)) (f + 1) [] = told at hK hT
  clear hTT
  generalize hD : dlF p.r.id p.w.id p.r.dl st un ix told 1000 1 = D at hK
  simp -dsimp only [go_sem, pc51, rs51]
  refine vc_loop_gh (α := Nat × List Fnd) (fun z => [(0, .va (.c1 (.fz (l.map evC)))), (2, iS .i64 f), (3, iS .i64 t), (4, iS .i64 st), (5, iS .i64 un), (6, iS .i64 ix), (8, .va (.c1 (.pt 0 0))), (15, .va (.c1 (.sl 1 z.2.length))), (16, iS .i64 z.1)])
    (fun z => [.cells (prC p) 77, .row (z.2.map fnC) 81 5])
    (fun z => (1 ≤ z.1 ∧ z.1 ≤ 1001 ∧ z.2.length ≤ z.1) ∧ z.2 ++ dlF p.r.id p.w.id p.r.dl st un ix told (1001 - z.1) z.1 = D) (fun z => 1001 - z.1)
    (.nil 15 81 5 rfl (gh_at (1, []) 2 ⟨⟨Nat.le_refl _, by decide, Nat.zero_le _⟩, hD⟩ ?_ ?_)) ?_
  · simp [go_sem]
  · simp [go_sem]
  clear hD
  rintro ⟨k, out⟩ ⟨⟨hk1, hk2, hol⟩, hgo⟩
  simp only at hk1 hk2 hol hgo
  have hm := mul_rng (k := (k : Int)) (by omega) (by omega) hd0 hd1
  rcases Nat.lt_or_ge 1000 k with hgt | hle'
  · have hg : decide ((k : Int) ≤ 1000) = false := by simp; omega
    have hz : 1001 - k = 0 := by omega
    rw [hz] at hgo
    simp only [dlF, List.append_nil] at hgo
    subst hgo
    simp -dsimp only [go_sem, hg]
    refine .pub 1 _ _ _ rfl (.sel [] (by simp) (by simp [pubH]) rfl (.done ?_))
    simpa [go_sem, pubH] using hK
  have hg : decide ((k : Int) ≤ 1000) = true := by simp; omega
  have hs : 1001 - k = (1001 - (k + 1)) + 1 := by omega
  rw [hs] at hgo
  simp only [dlF] at hgo
  generalize hV : st + (k : Int) * p.r.dl = v at hgo
  cases hu : decide (v < un) with
  | false =>
    rw [hu] at hgo
    simp only [Bool.cond_false, List.append_nil] at hgo
    subst hgo
    simp -dsimp only [go_sem, hg, hV, hu]
    and_intros
    all_goals first
      | omega
      | skip
    refine .pub 1 _ _ _ rfl (.sel [] (by simp) (by simp [pubH]) rfl (.done ?_))
    simpa [go_sem, pubH] using hK
  | true =>
    rw [hu, Bool.cond_true] at hgo
    simp -dsimp only [go_sem, hg, hV, hu]
    and_intros
    all_goals first
      | omega
      | skip
    refine vc_loop (α := Nat × Bool) (fun z => [(0, .va (.c1 (.fz (l.map evC)))), (2, iS .i64 f), (3, iS .i64 t), (4, iS .i64 st), (5, iS .i64 un), (6, iS .i64 ix), (8, .va (.c1 (.pt 0 0))), (15, .va (.c1 (.sl 1 out.length))), (16, iS .i64 k), (17, iS .i64 v), (18, bS z.2), (19, iS .i64 z.1)])
      (fun _ => [.cells (prC p) 77, .row (out.map fnC) 81 5])
      (fun z => z.1 ≤ 61 ∧ (z.2 || anyT p l v (t - z.1) z.1) = told.contains v) (fun z => t - z.1) (f + 1, false) 2 ⟨by simp only; omega, by rw [hT, Bool.false_or]⟩ ?_ ?_ ?_
    · simp [go_sem]
    · simp [go_sem]
    rintro ⟨i, b⟩ ⟨hi, hb⟩
    simp only at hi hb
    rcases Nat.lt_or_ge i t with hlt | hge
    · obtain ⟨e, hx⟩ : ∃ e, l[i]? = some e := ⟨_, List.getElem?_eq_getElem (by omega)⟩
      have q1 := row_rg (row := evC) hx
      have q2 := row_rg' (row := evC) hx
      have hg' : decide ((i : Int) < (t : Int)) = true := by simp; omega
      have ge := isEv_mk e
      have v7 := roVal_eq p e 7
      have hs2 : t - i = (t - (i + 1)) + 1 := by omega
      rw [hs2] at hb
      simp only [anyT, hx] at hb
      rcases (show b = true ∨ b = false by cases b <;> simp) with hbb | hbb
      · rw [hbb] at hb
        simp -dsimp only [go_sem, hg', hbb, roFn, roPre, roVal]
        and_intros
        all_goals first
          | omega
          | skip
        refine loop_next (i + 1, true) 2 ⟨by simp only; omega, by rw [Bool.true_or] at hb ⊢; exact hb⟩ (by simp only; omega) ?_ ?_
        · simp [go_sem]
        · simp [go_sem]
      · rw [hbb] at hb
        cases h7 : ofB p e [7] with
        | false =>
          rw [h7, Bool.false_and, Bool.false_or] at hb
          simp -dsimp only [go_sem, hg', ↓q2, roFn, roPre, gp, ge, v7, h7, hbb]
          and_intros
          all_goals first
            | omega
            | skip
          refine loop_next (i + 1, false) 2 ⟨by simp only; omega, hb⟩ (by simp only; omega) ?_ ?_
          · simp [go_sem]
          · simp [go_sem]
        | true =>
          rw [h7, Bool.true_and, Bool.false_or] at hb
          simp -dsimp only [go_sem, hg', ↓q2, roFn, roPre, gp, ge, v7, h7, hbb]
          and_intros
          all_goals first
            | omega
            | skip
          refine loop_next (i + 1, e.at' == v) 2 ⟨by simp only; omega, hb⟩ (by simp only; omega) ?_ ?_
          · simp [go_sem]
          · simp [go_sem]
    · have hg' : decide ((i : Int) < (t : Int)) = false := by simp; omega
      have hz : t - i = 0 := by omega
      rw [hz] at hb
      simp only [anyT, Bool.or_false] at hb
      rcases (show b = true ∨ b = false by cases b <;> simp) with hbb | hbb
      · rw [hbb] at hb
        have ho : dlO p.r.id p.w.id ix told v = [] := by unfold dlO; rw [← hb]; rfl
        rw [ho, List.nil_append] at hgo
        simp -dsimp only [go_sem, hg', hbb]
        and_intros
        all_goals first
          | omega
          | skip
        refine loop_next (k + 1, out) 2 ⟨⟨by simp only; omega, by simp only; omega, by simp only; omega⟩, hgo⟩ (by simp only; omega) ?_ ?_
        · simp [go_sem]
        · simp [go_sem]
      · rw [hbb] at hb
        have ho : dlO p.r.id p.w.id ix told v = [⟨ix, 4, v, p.r.id, p.w.id⟩] := by unfold dlO; rw [← hb]; rfl
        rw [ho, ← List.append_assoc] at hgo
        simp -dsimp only [go_sem, hg', hbb]
        and_intros
        all_goals first
          | omega
          | skip
        refine loop_next (k + 1, out ++ [⟨ix, 4, v, p.r.id, p.w.id⟩]) 2 ⟨⟨by simp only; omega, by simp only; omega, by simp only [List.length_append, List.length_cons, List.length_nil]; omega⟩, hgo⟩ (by simp only; omega) ?_ ?_
        · simp [go_sem]
        · simp [go_sem]
end Go.Proofs.Ytdnohfhpbhlpaaa
/- The reference's session. -/
namespace Go.Proofs.Ytdnohfhpbhlpaaa
open Go.W
def ssF (p : Pr) (l : List Ev) (f : Nat) : List Fnd := seA p l f (toGo p l (l.length - (f + 1)) (f + 1)) []
def ssSp : W.Spec := fun av H K =>
  match av, H with
  | [.va (.c1 (.fz rs)), .va (.gs pc), .va (.c1 (.vl (.int .i64 f)))], [] =>
    (isPr pc ∧ isLog rs ∧ 0 ≤ f ∧ f < rs.length ∧ C.gi pc[9]? ≤ 1099511627776) ∧ K (.va (.c1 (.fz ((ssF (C.pr pc) (rs.map C.ev) f.toNat).map fnC)))) []
  | _, _ => False
theorem ssSp_open {av : List S} {H : Hp} {K : S → Hp → Prop} (h : ssSp av H K) : ∃ (p : Pr) (l : List Ev) (f : Nat), av = [.va (.c1 (.fz (l.map evC))), .va (.gs (prC p)), iS .i64 f] ∧ H = [] ∧ l.length ≤ 60 ∧ (∀ e ∈ l, e.ok) ∧ f < l.length ∧ p.r.dl ≤ 1099511627776 ∧ K (.va (.c1 (.fz ((ssF p l f).map fnC)))) [] := by
  unfold ssSp at h
  split at h
  · rename_i rs pc f
    obtain ⟨⟨⟨p, rfl⟩, ⟨l, rfl, h1, h2⟩, h3, h4, h5⟩, hK⟩ := h
    rw [ev_map] at hK
    rw [List.length_map] at h4
    obtain ⟨f, rfl⟩ := Int.eq_ofNat_of_zero_le h3
    exact ⟨p, l, f, rfl, rfl, h1, h2, by omega, h5, hK⟩
  · exact h.elim
attribute [go_sem ↓] ssSp
abbrev gSs : Env := [(49, .f reFn), (29, .f roFn), (50, .s rlSp), (51, .s miSp)]
set_option maxHeartbeats 8000000 in
set_option maxRecDepth 100000 in
/-- The deadlines of a session. -/
theorem tailDl {p : Pr} {l : List Ev} {f t : Nat} {o0 : List Fnd} {K : S → Hp → Prop} (hll : l.length ≤ 60) (hle : ∀ e ∈ l, e.ok) (hf : f < l.length) (hdl : p.r.dl ≤ 1099511627776) (ht1 : f < t) (ht : t ≤ l.length) (ho : o0.length ≤ 1000)
    (hK : K (.va (.c1 (.fz ((o0 ++ bif decide (0 < p.r.dl) then deadF p l f t else []).map fnC)))) []) :
    vc gSs 0 pc30_7.ungh (puts [(0, .va (.c1 (.fz (l.map evC)))), (2, iS .i64 f), (4, .va (.c1 (.pt 0 0))), (7, iS .i64 t), (8, .va (.c1 (.sl 1 o0.length)))]) [.cells (prC p) 77, .row (o0.map fnC) 81 5] (retK 0 rs30 K) := by
  have gp := isPr_mk p
  have dp := pr_dec p
  have gl := isLog_mk hll hle
  cases hd : decide (0 < p.r.dl) with
  | false =>
    rw [hd, Bool.cond_false, List.append_nil] at hK
    have hd' : decide (p.r.dl < 1) = true := by simp at hd ⊢; omega
    simp -dsimp only [go_sem, pc30_7, rs30, hd']
    refine .pub 1 _ _ _ rfl (.sel [] (by simp) (by simp [pubH]) rfl (.done ?_))
    simpa [go_sem, pubH] using hK
  | true =>
    rw [hd, Bool.cond_true] at hK
    have hd0 : 0 < p.r.dl := of_decide_eq_true hd
    have hd' : decide (p.r.dl < 1) = false := by simp; omega
    obtain ⟨e0, hx0⟩ : ∃ e, l[f]? = some e := ⟨_, List.getElem?_eq_getElem hf⟩
    have he0 := hle e0 (List.mem_of_getElem? hx0)
    have q1 := row_rg (row := evC) hx0
    have q2 := row_rg' (row := evC) hx0
    unfold deadF at hK
    rw [hx0] at hK
    simp only at hK
    generalize hTT : tolGo p l (t - (f + 1)) (f + 1) [] = told at hK
    have hmi : ∀ (st un ix : Int), dlF p.r.id p.w.id p.r.dl st un ix told 1000 1 = misF p l f t st un ix := fun st un ix => by unfold misF; rw [hTT]
    generalize hZ : dlGo p l told (t - (f + 1)) (f + 1) (e0.at', []) = Z at hK
    simp -dsimp only [go_sem, pc30_7, rs30, hd', ↓q2]
    refine ⟨by omega, by omega, ?_⟩
    refine vc_loop (α := Nat × (Int × List Fnd)) (fun z => [(0, .va (.c1 (.fz (l.map evC)))), (2, iS .i64 f), (4, .va (.c1 (.pt 0 0))), (7, iS .i64 t), (8, .va (.c1 (.sl 1 (o0 ++ z.2.2).length))), (9, iS .i64 z.2.1), (10, iS .i64 z.1)])
      (fun z => [.cells (prC p) 77, .row ((o0 ++ z.2.2).map fnC) 81 5])
      (fun z => (f < z.1 ∧ z.1 ≤ 61 ∧ DlI z.2 z.1) ∧ dlGo p l told (t - z.1) z.1 z.2 = Z) (fun z => t - z.1) (f + 1, (e0.at', [])) 2 ⟨⟨by simp only; omega, by simp only; omega, ⟨Nat.zero_le _, he0.1, he0.2.1⟩⟩, hZ⟩ ?_ ?_ ?_
    · simp [go_sem]
    · simp [go_sem]
    rintro ⟨i, st, acc⟩ ⟨⟨hi0, hi, hI⟩, hgo⟩
    simp only at hi0 hi hI hgo
    have hal := hI.ol
    have hlo := hI.lo
    have hhi := hI.hi
    simp only at hal hlo hhi
    rcases Nat.lt_or_ge i t with hlt | hge
    · obtain ⟨e, hx⟩ : ∃ e, l[i]? = some e := ⟨_, List.getElem?_eq_getElem (by omega)⟩
      have heo := hle e (List.mem_of_getElem? hx)
      have r1 := row_rg (row := evC) hx
      have r2 := row_rg' (row := evC) hx
      have hg' : decide ((i : Int) < (t : Int)) = true := by simp; omega
      have ge := isEv_mk e
      have v4 := roVal_eq p e 4
      have hs2 : t - i = (t - (i + 1)) + 1 := by omega
      rw [hs2] at hgo
      simp only [dlGo, hx] at hgo
      have hI2 := dli_st (p := p) (told := told) (i := i) hI heo
      have hml := dlF_len p.r.id p.w.id p.r.dl st e.at' i told 1000 1
      rw [hmi] at hml
      cases h4 : ofB p e [4] with
      | true =>
        have hst : dlS p told i e (st, acc) = (e.at', acc ++ misF p l f t st e.at' i) := by unfold dlS; rw [h4, ← hmi]; rfl
        rw [hst] at hgo hI2
        have hal2 := hI2.ol
        simp only [List.length_append] at hal2
        simp -dsimp only [go_sem, hg', ↓r2, roFn, roPre, gp, dp, ge, gl, v4, h4]
        and_intros
        all_goals first
          | omega
          | skip
        refine loop_next (i + 1, (e.at', acc ++ misF p l f t st e.at' i)) 2 ⟨⟨by simp only; omega, by simp only; omega, hI2⟩, hgo⟩ (by simp only; omega) ?_ ?_
        · simp [go_sem, Nat.add_assoc]
        · simp [go_sem]
      | false =>
        have hst : dlS p told i e (st, acc) = (st, acc) := by unfold dlS; rw [h4]; rfl
        rw [hst] at hgo hI2
        simp -dsimp only [go_sem, hg', ↓r2, roFn, roPre, gp, ge, v4, h4]
        and_intros
        all_goals first
          | omega
          | skip
        refine loop_next (i + 1, (st, acc)) 2 ⟨⟨by simp only; omega, by simp only; omega, hI2⟩, hgo⟩ (by simp only; omega) ?_ ?_
        · simp [go_sem]
        · simp [go_sem]
    · have hg' : decide ((i : Int) < (t : Int)) = false := by simp; omega
      have hz : t - i = 0 := by omega
      rw [hz] at hgo
      simp only [dlGo] at hgo
      subst hgo
      unfold dlEnd at hK
      rcases Nat.lt_or_ge t l.length with htl | htl
      · have hmn : min t (l.length - 1) = t := by omega
        obtain ⟨e, hx⟩ : ∃ e, l[t]? = some e := ⟨_, List.getElem?_eq_getElem htl⟩
        have r1 := row_rg (row := evC) hx
        have r2 := row_rg' (row := evC) hx
        have hte : ((t : Int) == (l.length : Int)) = false := by rw [beq_eq_false_iff_ne]; omega
        rw [hmn, hx] at hK
        simp only [hmi] at hK
        have hml := dlF_len p.r.id p.w.id p.r.dl st e.at' t told 1000 1
        rw [hmi] at hml
        simp -dsimp only [go_sem, hg', hte, ↓r2, gp, dp, gl]
        and_intros
        all_goals first
          | omega
          | skip
        refine .pub 1 _ _ _ rfl (.sel [] (by simp) (by simp [pubH]) rfl (.done ?_))
        simpa [go_sem, pubH, Nat.add_assoc] using hK
      · obtain rfl : t = l.length := by omega
        have hmn : min l.length (l.length - 1) = l.length - 1 := by omega
        obtain ⟨e, hx⟩ : ∃ e, l[l.length - 1]? = some e := ⟨_, List.getElem?_eq_getElem (by omega)⟩
        have r1 := row_rg (row := evC) hx
        have hte : ((l.length : Int) == (l.length : Int)) = true := by simp
        have hln : (l.length : Int) - 1 = ((l.length - 1 : Nat) : Int) := by omega
        have r2 := row_rg' (row := evC) hx
        rw [hmn, hx] at hK
        simp only [hmi] at hK
        have hml := dlF_len p.r.id p.w.id p.r.dl st e.at' ((l.length - 1 : Nat) : Int) told 1000 1
        rw [hmi] at hml
        simp -dsimp only [go_sem, hg', hte, hln, ↓r2, gp, dp, gl]
        and_intros
        all_goals first
          | omega
          | skip
        refine .pub 1 _ _ _ rfl (.sel [] (by simp) (by simp [pubH]) rfl (.done ?_))
        simpa [go_sem, pubH, Nat.add_assoc] using hK
set_option maxHeartbeats 8000000 in
set_option maxRecDepth 100000 in
/-- A session, once its end is known. -/
theorem tailSs {p : Pr} {l : List Ev} {f t : Nat} {K : S → Hp → Prop} (hll : l.length ≤ 60) (hle : ∀ e ∈ l, e.ok) (hf : f < l.length) (hdl : p.r.dl ≤ 1099511627776) (ht1 : f < t) (ht : t ≤ l.length)
    (hK : K (.va (.c1 (.fz ((seA p l f t []).map fnC)))) []) :
    vc gSs 0 pc30_4.ungh (puts [(0, .va (.c1 (.fz (l.map evC)))), (2, iS .i64 f), (4, .va (.c1 (.pt 0 0))), (7, iS .i64 t)]) [.cells (prC p) 77] (retK 0 rs30 K) := by
  have gp := isPr_mk p
  have dp := pr_dec p
  have gl := isLog_mk hll hle
  have hol := orderF_len p l f t
  unfold seA at hK
  cases hrl : p.r.rel && p.w.rel with
  | true =>
    rw [hrl, Bool.cond_true, List.nil_append] at hK
    have rest := tailDl (o0 := orderF p l f t) hll hle hf hdl ht1 ht (by omega) hK
    simp -dsimp only [go_sem, pc30_4]
    refine .nil 8 81 5 rfl (.done ?_)
    simp -dsimp only [go_sem, hrl, gp, dp, gl]
    and_intros
    all_goals first
      | omega
      | skip
    refine vc_tail 2 rest ?_ ?_
    · simp [go_sem]
    · simp [go_sem]
  | false =>
    rw [hrl, Bool.cond_false, List.nil_append] at hK
    have rest := tailDl (o0 := []) hll hle hf hdl ht1 ht (by simp) hK
    simp -dsimp only [go_sem, pc30_4]
    refine .nil 8 81 5 rfl (.done ?_)
    simp -dsimp only [go_sem, hrl]
    refine vc_tail 2 rest ?_ ?_
    · simp [go_sem]
    · simp [go_sem]
set_option maxHeartbeats 8000000 in
set_option maxRecDepth 100000 in
theorem mSession : Meets Try.prog 30 ssSp := by
  refine meets_fn Try.func30 ok30 3 (by rw [Try.ntmps30]; decide) (meetsAll_f mREnds (meetsAll_f mROf (meetsAll_s mReliable (meetsAll_s mMissing (meetsAll_nil _))))) (fun av H K h => by obtain ⟨_, _, _, rfl, _⟩ := ssSp_open h; rfl) ?_
  intro av H K h
  obtain ⟨p, l, f, rfl, rfl, hll, hle, hf, hdl, hK⟩ := ssSp_open h
  clear h
  have gp := isPr_mk p
  unfold ssF at hK
  have hTb := toGo_le p l (l.length - (f + 1)) (f + 1)
  generalize hT : toGo p l (l.length - (f + 1)) (f + 1) = T at hK hTb
  have rest := tailSs hll hle hf hdl (by omega) (by omega) hK
  simp -dsimp only [go_sem, pc30]
  refine ⟨by omega, ?_⟩
  refine vc_loop (α := Nat) (fun z => [(0, .va (.c1 (.fz (l.map evC)))), (2, iS .i64 f), (4, .va (.c1 (.pt 0 0))), (7, iS .i64 z)]) (fun _ => [.cells (prC p) 77])
    (fun z => (f < z ∧ z ≤ l.length) ∧ toGo p l (l.length - z) z = T) (fun z => l.length - z) (f + 1) 1 ⟨⟨by omega, by omega⟩, hT⟩ ?_ ?_ ?_
  · simp [go_sem]
  · simp [go_sem]
  rintro t ⟨⟨ht1, ht2⟩, htg⟩
  rcases Nat.lt_or_ge t l.length with htl | hte
  · obtain ⟨e, hx⟩ : ∃ e, l[t]? = some e := ⟨_, List.getElem?_eq_getElem htl⟩
    have r1 := row_rg (row := evC) hx
    have r2 := row_rg' (row := evC) hx
    have hg' : decide ((t : Int) < (l.length : Int)) = true := by simp; omega
    have ge := isEv_mk e
    have hs2 : l.length - t = (l.length - (t + 1)) + 1 := by omega
    rw [hs2] at htg
    simp only [toGo, hx] at htg
    have hv := reVal_eq p e
    cases hn : endB p e with
    | false =>
      rw [hn] at htg
      simp -dsimp only [go_sem, hg', ↓r2, reFn, rePre, gp, ge, hv, hn]
      and_intros
      all_goals first
        | omega
        | skip
      refine loop_next (t + 1) 1 ⟨⟨by omega, by omega⟩, htg⟩ (by omega) ?_ ?_
      · simp [go_sem]
      · simp [go_sem]
    | true =>
      rw [hn] at htg
      obtain rfl : t = T := htg
      simp -dsimp only [go_sem, hg', ↓r2, reFn, rePre, gp, ge, hv, hn]
      and_intros
      all_goals first
        | omega
        | skip
      refine vc_tail 1 rest ?_ ?_
      · simp [go_sem]
      · simp [go_sem]
  · have hg' : decide ((t : Int) < (l.length : Int)) = false := by simp; omega
    have hz : l.length - t = 0 := by omega
    rw [hz] at htg
    simp only [toGo] at htg
    obtain rfl : t = T := htg
    simp -dsimp only [go_sem, hg']
    refine vc_tail 1 rest ?_ ?_
    · simp [go_sem]
    · simp [go_sem]
end Go.Proofs.Ytdnohfhpbhlpaaa
/- The reference's before; selection is sorting. -/
namespace Go.Proofs.Ytdnohfhpbhlpaaa
open Go.W
theorem ltC_anti {a b : Fnd} (h1 : ltC a b = false) (h2 : ltC b a = false) : a = b := by
  rw [ltC_no] at h1 h2
  unfold lexP at h1 h2
  obtain ⟨a1, a2, a3, a4, a5⟩ := a
  obtain ⟨b1, b2, b3, b4, b5⟩ := b
  simp only at h1 h2
  simp only [Fnd.mk.injEq]
  omega
theorem srt_uniq : ∀ {l m : List Fnd}, Srt ltC l → Srt ltC m → l.Perm m → l = m
  | [], m, _, _, h => (List.nil_perm.1 h).symm
  | a :: t, [], _, _, h => absurd h (by simp)
  | a :: t, b :: u, hl, hm, h => by
    have hab : a = b := by
      rcases List.mem_cons.1 (h.mem_iff.1 (List.mem_cons_self ..) : a ∈ b :: u) with e | e
      · exact e
      rcases List.mem_cons.1 (h.mem_iff.2 (List.mem_cons_self ..) : b ∈ a :: t) with e2 | e2
      · exact e2.symm
      exact ltC_anti ((List.pairwise_cons.1 hm).1 a e) ((List.pairwise_cons.1 hl).1 b e2)
    subst hab
    rw [srt_uniq (List.pairwise_cons.1 hl).2 (List.pairwise_cons.1 hm).2 ((List.perm_cons a).1 h)]
theorem srt_least {l : List Fnd} {m : Nat} {b : Fnd} (hm : l[m]? = some b) (h : ∀ (j : Nat) (a : Fnd), l[j]? = some a → ltC a b = false) : srt ltC l = b :: srt ltC (l.take m ++ l.drop (m + 1)) := by
  have hlt := (List.getElem?_eq_some_iff.1 hm).1
  have hl : l = l.take m ++ b :: l.drop (m + 1) := by
    have : l.drop m = b :: l.drop (m + 1) := by
      rw [List.drop_eq_getElem_cons hlt]
      rw [List.getElem?_eq_getElem hlt] at hm
      rw [Option.some.inj hm]
    rw [← this, List.take_append_drop]
  have hp : l.Perm (b :: (l.take m ++ l.drop (m + 1))) := by
    conv => lhs; rw [hl]
    exact List.perm_middle
  refine srt_uniq (srt_srt swo l) (List.pairwise_cons.2 ⟨fun y hy => ?_, srt_srt swo _⟩) (((srt_perm l).trans hp).trans (List.Perm.cons b (srt_perm _).symm))
  have hy' : y ∈ l := hp.mem_iff.2 (List.mem_cons_of_mem _ ((srt_perm _).mem_iff.1 hy))
  obtain ⟨j, hj⟩ := List.mem_iff_getElem?.1 hy'
  exact h j y hj
theorem sel_step {l : List Fnd} {i m : Nat} {a b : Fnd} (hi : l[i]? = some a) (_hm : l[m]? = some b) (h : ∀ j, j < i → ∀ x, l[j]? = some x → ltC x b = false) :
    (ltC a b = true → ∀ j, j < i + 1 → ∀ x, l[j]? = some x → ltC x a = false) ∧ (ltC a b = false → ∀ j, j < i + 1 → ∀ x, l[j]? = some x → ltC x b = false) := by
  refine ⟨fun hab j hj x hx => ?_, fun hab j hj x hx => ?_⟩
  · rcases Nat.lt_or_ge j i with hji | hji
    · have h1 := h j hji x hx
      cases hxa : ltC x a with
      | false => rfl
      | true => rw [swo.tr hxa hab] at h1; cases h1
    · obtain rfl : j = i := by omega
      rw [hi] at hx
      obtain rfl := Option.some.inj hx
      exact swo.irr a
  · rcases Nat.lt_or_ge j i with hji | hji
    · exact h j hji x hx
    · obtain rfl : j = i := by omega
      rw [hi] at hx
      obtain rfl := Option.some.inj hx
      exact hab
/-! ### before -/
def bePre : List S → Prop := fun xs => match xs with
  | [.va (.gs a), .va (.gs b)] => (∃ x : Fnd, a = fnC x) ∧ ∃ y : Fnd, b = fnC y
  | _ => False
theorem bePre_open {xs : List S} (h : bePre xs) : ∃ a b : Fnd, xs = [.va (.gs (fnC a)), .va (.gs (fnC b))] := by
  unfold bePre at h
  split at h
  · obtain ⟨⟨a, rfl⟩, b, rfl⟩ := h; exact ⟨a, b, rfl⟩
  · exact h.elim
def beVal : List S → A := fun xs => match xs with
  | [.va (.gs a), .va (.gs b)] => bA (ltC (C.fnd a) (C.fnd b))
  | _ => .gs []
theorem beVal_eq (a b : Fnd) : beVal [.va (.gs (fnC a)), .va (.gs (fnC b))] = bA (ltC a b) := rfl
def beFn : Fun := ⟨bePre, beVal, fun xs h => by obtain ⟨a, b, rfl⟩ := bePre_open h; trivial⟩
theorem beFn_len : ∀ xs H K, beFn.sp xs H K → xs.length = 2 := fun xs H K h => by obtain ⟨a, b, rfl⟩ := bePre_open h.1.1; rfl
theorem lt_dec {a b : Fnd} {q : Bool} (h : lexP a b ↔ q = true) : ltC a b = q := by
  rw [Bool.eq_iff_iff, ltC_iff]; exact h
set_option maxHeartbeats 1000000 in
theorem mBefore : Meets Try.prog 31 beFn.sp := by
  refine meets_fn Try.func31 ok31 2 (by rw [Try.ntmps31]; decide) (meetsAll_nil _) beFn_len ?_
  rintro xs H K ⟨⟨h, rfl⟩, hK⟩
  obtain ⟨a, b, rfl⟩ := bePre_open h
  have hK' : K (bS (ltC a b)) [] := hK
  clear hK h
  cases h1 : a.ix == b.ix with
  | false =>
    rw [lt_dec (a := a) (b := b) (q := decide (a.ix < b.ix)) (by unfold lexP; simp at h1 ⊢; omega)] at hK'
    simp -dsimp only [go_sem, pc31, rs31, bne, h1]
    exact .sel [] (by simp) (by simp) rfl (.done hK')
  | true =>
    cases h2 : a.a == b.a with
    | false =>
      rw [lt_dec (a := a) (b := b) (q := decide (a.a < b.a)) (by unfold lexP; simp at h1 h2 ⊢; omega)] at hK'
      simp -dsimp only [go_sem, pc31, rs31, bne, h1, h2]
      exact .sel [] (by simp) (by simp) rfl (.done hK')
    | true =>
      cases h3 : a.b == b.b with
      | false =>
        rw [lt_dec (a := a) (b := b) (q := decide (a.b < b.b)) (by unfold lexP; simp at h1 h2 h3 ⊢; omega)] at hK'
        simp -dsimp only [go_sem, pc31, rs31, bne, h1, h2, h3]
        exact .sel [] (by simp) (by simp) rfl (.done hK')
      | true =>
        cases h4 : a.k == b.k with
        | false =>
          rw [lt_dec (a := a) (b := b) (q := decide (a.k < b.k)) (by unfold lexP; simp at h1 h2 h3 h4 ⊢; omega)] at hK'
          simp -dsimp only [go_sem, pc31, rs31, bne, h1, h2, h3, h4]
          exact .sel [] (by simp) (by simp) rfl (.done hK')
        | true =>
          rw [lt_dec (a := a) (b := b) (q := decide (a.at' < b.at')) (by unfold lexP; simp at h1 h2 h3 h4 ⊢; omega)] at hK'
          simp -dsimp only [go_sem, pc31, rs31, bne, h1, h2, h3, h4]
          exact .sel [] (by simp) (by simp) rfl (.done hK')
end Go.Proofs.Ytdnohfhpbhlpaaa
/- The reference's Contracts. -/
namespace Go.Proofs.Ytdnohfhpbhlpaaa
open Go.W
theorem seA_app (p : Pr) (l : List Ev) (i t : Nat) (out : List Fnd) : seA p l i t out = out ++ seA p l i t [] := by unfold seA; simp
theorem seS_ss (p : Pr) (l : List Ev) (i : Nat) (e : Ev) (out : List Fnd) : seS p l i e out = out ++ bif ofB p e [1] then ssF p l i else [] := by
  unfold seS ssF
  cases ofB p e [1] with
  | true => rw [Bool.cond_true, Bool.cond_true, seA_app]
  | false => rw [Bool.cond_false, Bool.cond_false, List.append_nil]
theorem allGo_len (l : List Ev) (hl : l.length ≤ 60) : ∀ (ps : List Pr) (acc : List Fnd), (allGo l ps acc).length ≤ acc.length + 4200000 * ps.length
  | [], acc => Nat.le_refl _
  | p :: ps, acc => by
    have h1 := allGo_len l hl ps (acc ++ sessF p l)
    have h2 := sessF_len p l hl
    rw [List.length_append] at h1
    simp only [allGo, List.length_cons]; omega
set_option maxHeartbeats 8000000 in
set_option maxRecDepth 100000 in
theorem mRContracts : Meets Try.prog 13 conSp := by
  refine meets_fn Try.func13 ok13 2 (by rw [Try.ntmps13]; decide) (meetsAll_s mRPairs (meetsAll_f mROf (meetsAll_s mSession (meetsAll_f mBefore (meetsAll_nil _))))) (fun av H K h => by obtain ⟨_, _, rfl, _⟩ := conSp_open h; rfl) ?_
  intro av H K h
  obtain ⟨l, es, rfl, rfl, hll, hle, hes, hdl, hK⟩ := conSp_open h
  clear h
  have gl := isLog_mk hll hle
  have gs : isEps (es.map epC) := ⟨es, rfl, hes⟩
  have hpl := pairsF_len es hes
  have hps := pairsF_sub es
  unfold contF allF at hK
  generalize hP : pairsF es = ps at hK hpl hps
  have hAll := allGo_len l hll ps []
  generalize hA : allGo l ps [] = al at hK hAll
  simp only [List.length_nil] at hAll
  simp -dsimp only [go_sem, pc13, rs13, gs, hP]
  refine vc_loop_gh (α := Nat × List Fnd) (fun z => [(0, .va (.c1 (.fz (l.map evC)))), (5, .va (.c1 (.sl 0 z.2.length))), (6, .va (.c1 (.fz (ps.map prC)))), (7, iS .i64 z.1)])
    (fun z => [.row (z.2.map fnC) 81 5])
    (fun z => (z.1 ≤ ps.length ∧ z.2.length ≤ 4200000 * z.1) ∧ allGo l (ps.drop z.1) z.2 = al) (fun z => ps.length - z.1)
    (.nil 5 81 5 rfl (gh_at (0, []) 1 ⟨⟨Nat.zero_le _, Nat.zero_le _⟩, hA⟩ ?_ ?_)) ?_
  · simp [go_sem]
  · simp [go_sem]
  clear hA
  rintro ⟨k, acc⟩ ⟨⟨hk, hal⟩, hgo⟩
  simp only at hk hal hgo
  rcases Nat.lt_or_ge k ps.length with hlt | hge
  · have hx : ps[k]? = some ps[k] := List.getElem?_eq_getElem hlt
    have hg : decide ((k : Int) < (ps.length : Int)) = true := by simp; omega
    have q1 := row_rg (row := prC) hx
    have q2 := row_rg' (row := prC) hx
    have hpm : ps[k] ∈ ps := List.getElem_mem hlt
    rw [List.drop_eq_getElem_cons hlt] at hgo
    simp only [allGo] at hgo
    generalize ps[k] = p at *
    have gp := isPr_mk p
    have dp := pr_dec p
    have hpd := hdl p.r (hps p hpm)
    have hsl := sessF_len p l hll
    unfold sessF at hgo hsl
    generalize hS : seGo p l l.length 0 [] = S at hgo hsl
    simp -dsimp only [go_sem, hg]
    refine vc_loop (α := Nat × List Fnd) (fun z => [(0, .va (.c1 (.fz (l.map evC)))), (5, .va (.c1 (.sl 0 (acc ++ z.2).length))), (6, .va (.c1 (.fz (ps.map prC)))), (7, iS .i64 k), (8, iS .i64 z.1)])
      (fun z => [.row ((acc ++ z.2).map fnC) 81 5])
      (fun z => (z.1 ≤ l.length ∧ z.2.length ≤ 70000 * z.1) ∧ seGo p l (l.length - z.1) z.1 z.2 = S) (fun z => l.length - z.1) (0, []) 1 ⟨⟨Nat.zero_le _, Nat.zero_le _⟩, hS⟩ ?_ ?_ ?_
    · simp [go_sem]
    · simp [go_sem]
    rintro ⟨i, out⟩ ⟨⟨hi, hol⟩, hgi⟩
    simp only at hi hol hgi
    rcases Nat.lt_or_ge i l.length with hil | hil
    · obtain ⟨e, hy⟩ : ∃ e, l[i]? = some e := ⟨_, List.getElem?_eq_getElem hil⟩
      have r1 := row_rg (row := evC) hy
      have r2 := row_rg' (row := evC) hy
      have hg' : decide ((i : Int) < (l.length : Int)) = true := by simp; omega
      have ge := isEv_mk e
      have v1 := roVal_eq p e 1
      have hs1 : l.length - i = (l.length - (i + 1)) + 1 := by omega
      have hsn := seS_len p l i e out hil hll
      rw [hs1] at hgi
      simp only [seGo, hy] at hgi
      rw [seS_ss] at hgi hsn
      cases h1 : ofB p e [1] with
      | true =>
        rw [h1, Bool.cond_true] at hgi hsn
        rw [List.length_append] at hsn
        simp -dsimp only [go_sem, hg', ↓r2, ↓q2, roFn, roPre, gp, dp, ge, gl, v1, h1]
        and_intros
        all_goals first
          | omega
          | skip
        refine loop_next (i + 1, out ++ ssF p l i) 1 ⟨⟨by simp only; omega, by simp only [List.length_append]; omega⟩, hgi⟩ (by simp only; omega) ?_ ?_
        · simp [go_sem, Nat.add_assoc]
        · simp [go_sem]
      | false =>
        rw [h1, Bool.cond_false, List.append_nil] at hgi
        simp -dsimp only [go_sem, hg', ↓r2, ↓q2, roFn, roPre, gp, ge, v1, h1]
        and_intros
        all_goals first
          | omega
          | skip
        refine loop_next (i + 1, out) 1 ⟨⟨by simp only; omega, by simp only; omega⟩, hgi⟩ (by simp only; omega) ?_ ?_
        · simp [go_sem]
        · simp [go_sem]
    · have hg' : decide ((i : Int) < (l.length : Int)) = false := by simp; omega
      have hz : l.length - i = 0 := by omega
      rw [hz] at hgi
      simp only [seGo] at hgi
      subst hgi
      simp -dsimp only [go_sem, hg']
      and_intros
      all_goals first
        | omega
        | skip
      refine loop_next (k + 1, acc ++ out) 1 ⟨⟨by simp only; omega, by simp only [List.length_append]; omega⟩, hgo⟩ (by simp only; omega) ?_ ?_
      · simp [go_sem]
      · simp [go_sem]
  have hg : decide ((k : Int) < (ps.length : Int)) = false := by simp; omega
  have : ps.drop k = [] := List.drop_eq_nil_iff.2 (by omega)
  rw [this] at hgo
  simp only [allGo] at hgo
  subst hgo
  simp -dsimp only [go_sem, hg]
  have hb : acc.length ≤ 151200000 := by omega
  clear hg hge hk hal this hAll
  refine vc_loop_gh (α := List Fnd × List Fnd) (fun z => [(5, .va (.c1 (.fz (z.1.map fnC)))), (9, .va (.c1 (.sl 1 z.2.length)))])
    (fun z => [.dead, .row (z.2.map fdC) 59 4])
    (fun z => z.1.length + z.2.length = acc.length ∧ z.2 ++ srt ltC z.1 = srt ltC acc) (fun z => z.1.length)
    (.nil 9 59 4 rfl (.pub 0 _ _ _ rfl (gh_at (acc, []) 2 ⟨rfl, rfl⟩ ?_ ?_))) ?_
  · simp [go_sem]
  · simp [go_sem, pubH]
  rintro ⟨rem, out⟩ ⟨hl2, hgo⟩
  simp only at hl2 hgo
  rcases Nat.eq_zero_or_pos rem.length with hr | hpos
  · have hrn : rem = [] := List.eq_nil_of_length_eq_zero hr
    have hs : srt ltC ([] : List Fnd) = [] := rfl
    rw [hrn, hs, List.append_nil] at hgo
    have hg : decide ((0 : Int) < (rem.length : Int)) = false := by rw [hr]; rfl
    simp -dsimp only [go_sem, hg]
    refine .pub 1 _ _ _ rfl (.sel [] (by simp) (by simp [pubH]) rfl (.done ?_))
    rw [← hgo] at hK
    simpa [go_sem, pubH] using hK
  have hg : decide ((0 : Int) < (rem.length : Int)) = true := decide_eq_true (by omega)
  simp -dsimp only [go_sem, hg]
  refine vc_loop (α := Nat × Nat) (fun z => [(5, .va (.c1 (.fz (rem.map fnC)))), (9, .va (.c1 (.sl 1 out.length))), (10, iS .i64 z.2), (11, iS .i64 z.1)])
    (fun _ => [.dead, .row (out.map fdC) 59 4])
    (fun z => (1 ≤ z.1 ∧ z.1 ≤ rem.length ∧ z.2 < z.1) ∧ ∀ b, rem[z.2]? = some b → ∀ j, j < z.1 → ∀ x, rem[j]? = some x → ltC x b = false) (fun z => rem.length - z.1) (1, 0) 2 ⟨⟨Nat.le_refl _, hpos, Nat.zero_lt_one⟩, fun b hb j hj x hx => ?_⟩ ?_ ?_ ?_
  · obtain rfl : j = 0 := by simp only at hj; omega
    simp only at hb
    rw [hb] at hx
    obtain rfl := Option.some.inj hx
    exact swo.irr _
  · simp [go_sem]
  · simp [go_sem]
  rintro ⟨i, m⟩ ⟨⟨hi1, hi2, hm⟩, hlt⟩
  simp only at hi1 hi2 hm hlt
  obtain ⟨b, hmb⟩ : ∃ b, rem[m]? = some b := ⟨_, List.getElem?_eq_getElem (by omega)⟩
  have m1 := row_rg (row := fnC) hmb
  have m2 := row_rg' (row := fnC) hmb
  have hlb := hlt b hmb
  rcases Nat.lt_or_ge i rem.length with hil | hil
  · obtain ⟨a, hia⟩ : ∃ b, rem[i]? = some b := ⟨_, List.getElem?_eq_getElem hil⟩
    have r1 := row_rg (row := fnC) hia
    have r2 := row_rg' (row := fnC) hia
    have hg' : decide ((i : Int) < (rem.length : Int)) = true := by simp; omega
    have hv := beVal_eq a b
    have hst := sel_step hia hmb hlb
    have ga : ∃ x : Fnd, fnC a = fnC x := ⟨a, rfl⟩
    have gb : ∃ x : Fnd, fnC b = fnC x := ⟨b, rfl⟩
    cases hab : ltC a b with
    | true =>
      simp -dsimp only [go_sem, hg', ↓r2, ↓m2, beFn, bePre, ga, gb, hv, hab]
      and_intros
      all_goals first
        | omega
        | skip
      refine loop_next (i + 1, i) 2 ⟨⟨by simp only; omega, by simp only; omega, by simp only; omega⟩, fun c hc => ?_⟩ (by simp only; omega) ?_ ?_
      · simp only at hc
        rw [hia] at hc
        obtain rfl := Option.some.inj hc
        exact hst.1 hab
      · simp [go_sem]
      · simp [go_sem]
    | false =>
      simp -dsimp only [go_sem, hg', ↓r2, ↓m2, beFn, bePre, ga, gb, hv, hab]
      and_intros
      all_goals first
        | omega
        | skip
      refine loop_next (i + 1, m) 2 ⟨⟨by simp only; omega, by simp only; omega, by simp only; omega⟩, fun c hc => ?_⟩ (by simp only; omega) ?_ ?_
      · simp only at hc
        rw [hmb] at hc
        obtain rfl := Option.some.inj hc
        exact hst.2 hab
      · simp [go_sem]
      · simp [go_sem]
  obtain rfl : i = rem.length := by omega
  have hg' : decide ((rem.length : Int) < (rem.length : Int)) = false := by simp
  have hsl := srt_least hmb (fun j x hx => hlb j (List.getElem?_eq_some_iff.1 hx).1 x hx)
  rw [hsl] at hgo
  have ht1 : List.take m (rem.map fnC) = (rem.take m).map fnC := List.map_take.symm
  have ht2 : List.drop (m + 1) (rem.map fnC) = (rem.drop (m + 1)).map fnC := List.map_drop.symm
  have hm1 : ((m : Int) + 1).toNat = m + 1 := by omega
  have hln : (rem.take m).length = m := by rw [List.length_take]; omega
  have hln2 : (rem.drop (m + 1)).length = rem.length - (m + 1) := List.length_drop
  have hfd : out.map fdC ++ [fdC b] = (out ++ [b]).map fdC := by rw [List.map_append]; rfl
  have hof : out.length + 1 = (out ++ [b]).length := by simp
  simp -dsimp only [go_sem, hg', ↓m2]
  refine ⟨by omega, by omega, .cut 2 (by decide) (.nil 12 81 5 rfl (.done ?_))⟩
  have ht3 : List.take rem.length (rem.map fnC) = rem.map fnC := List.take_of_length_le (by simp)
  simp -dsimp only [go_sem, ht1, ht2, ht3, hm1, hln]
  and_intros
  all_goals first
    | omega
    | skip
  refine loop_pub 2 _ _ _ rfl (loop_next (rem.take m ++ rem.drop (m + 1), out ++ [b]) 2 ⟨by simp only [List.length_append, List.length_cons, List.length_nil]; omega, by simp only; rw [← hgo]; simp⟩ (by simp only [List.length_append]; omega) ?_ ?_)
  · have hmn : min m rem.length = m := by omega
    simp [go_sem, hmn]
  · simp [go_sem, pubH]
end Go.Proofs.Ytdnohfhpbhlpaaa
/- sound. -/
namespace Go.Proofs.Ytdnohfhpbhlpaaa
open Go.W
def badA (l : List Ev) (i : Nat) (e : Ev) : Bool := (decide (e.at' < 0) || decide (1099511627776 < e.at')) || (decide (0 < (i : Int)) && match l[i - 1]? with | some q => decide (e.at' < q.at') | none => false)
def soL (l : List Ev) : Nat → Nat → Bool
  | 0, _ => true
  | n + 1, i => match l[i]? with
    | some e => bif badA l i e then false else soL l n (i + 1)
    | none => true
def badD (e : Ep) : Bool := decide (e.dl < 0) || decide (1099511627776 < e.dl)
def soE (es : List Ep) : Nat → Nat → Bool
  | 0, _ => true
  | n + 1, i => match es[i]? with
    | some e => bif badD e then false else soE es n (i + 1)
    | none => true
def soB (l : List Ev) (es : List Ep) : Bool := bif decide (60 < (l.length : Int)) || decide (6 < (es.length : Int)) then false else soL l l.length 0 && soE es es.length 0
theorem soL_ok (l : List Ev) : ∀ n i, soL l n i = true → ∀ j e, i ≤ j → j < i + n → l[j]? = some e → 0 ≤ e.at' ∧ e.at' ≤ 1099511627776
  | 0, i, _, j, e, h1, h2, _ => by omega
  | n + 1, i, h, j, e, h1, h2, he => by
    simp only [soL] at h
    cases hx : l[i]? with
    | none =>
      have := List.getElem?_eq_none_iff.1 hx
      have := (List.getElem?_eq_some_iff.1 he).1
      omega
    | some y =>
      rw [hx] at h
      simp only at h
      cases hb : badA l i y with
      | true => rw [hb] at h; cases h
      | false =>
        rw [hb, Bool.cond_false] at h
        rcases Nat.lt_or_ge i j with hij | hij
        · exact soL_ok l n (i + 1) h j e hij (by omega) he
        · obtain rfl : j = i := by omega
          rw [hx] at he
          obtain rfl := Option.some.inj he
          unfold badA at hb
          simp only [Bool.or_eq_false_iff, decide_eq_false_iff_not] at hb
          omega
theorem soE_ok (es : List Ep) : ∀ n i, soE es n i = true → ∀ j e, i ≤ j → j < i + n → es[j]? = some e → 0 ≤ e.dl ∧ e.dl ≤ 1099511627776
  | 0, i, _, j, e, h1, h2, _ => by omega
  | n + 1, i, h, j, e, h1, h2, he => by
    simp only [soE] at h
    cases hx : es[i]? with
    | none =>
      have := List.getElem?_eq_none_iff.1 hx
      have := (List.getElem?_eq_some_iff.1 he).1
      omega
    | some y =>
      rw [hx] at h
      simp only at h
      cases hb : badD y with
      | true => rw [hb] at h; cases h
      | false =>
        rw [hb, Bool.cond_false] at h
        rcases Nat.lt_or_ge i j with hij | hij
        · exact soE_ok es n (i + 1) h j e hij (by omega) he
        · obtain rfl : j = i := by omega
          rw [hx] at he
          obtain rfl := Option.some.inj he
          unfold badD at hb
          simp only [Bool.or_eq_false_iff, decide_eq_false_iff_not] at hb
          omega
theorem soB_ok {l : List Ev} {es : List Ep} (h : soB l es = true) : l.length ≤ 60 ∧ es.length ≤ 6 ∧ (∀ e ∈ l, 0 ≤ e.at' ∧ e.at' ≤ 1099511627776) ∧ ∀ e ∈ es, 0 ≤ e.dl ∧ e.dl ≤ 1099511627776 := by
  unfold soB at h
  cases hb : decide (60 < (l.length : Int)) || decide (6 < (es.length : Int)) with
  | true => rw [hb] at h; cases h
  | false =>
    rw [hb, Bool.cond_false, Bool.and_eq_true] at h
    simp only [Bool.or_eq_false_iff, decide_eq_false_iff_not] at hb
    refine ⟨by omega, by omega, fun e he => ?_, fun e he => ?_⟩
    · obtain ⟨j, hj⟩ := List.mem_iff_getElem?.1 he
      exact soL_ok l _ 0 h.1 j e (Nat.zero_le _) (by have := (List.getElem?_eq_some_iff.1 hj).1; omega) hj
    · obtain ⟨j, hj⟩ := List.mem_iff_getElem?.1 he
      exact soE_ok es _ 0 h.2 j e (Nat.zero_le _) (by have := (List.getElem?_eq_some_iff.1 hj).1; omega) hj
def lcPre : List S → Prop := fun xs => match xs with
  | [.va (.c1 (.fz rs)), .va (.c1 (.fz qs))] => (∃ l : List Ev, rs = l.map evC) ∧ ∃ es : List Ep, qs = es.map epC
  | _ => False
theorem lcPre_open {xs : List S} (h : lcPre xs) : ∃ (l : List Ev) (es : List Ep), xs = [.va (.c1 (.fz (l.map evC))), .va (.c1 (.fz (es.map epC)))] := by
  unfold lcPre at h
  split at h
  · obtain ⟨⟨l, rfl⟩, es, rfl⟩ := h; exact ⟨l, es, rfl⟩
  · exact h.elim
def soVal : List S → A := fun xs => match xs with
  | [.va (.c1 (.fz rs)), .va (.c1 (.fz qs))] => bA (soB (rs.map C.ev) (qs.map C.ep))
  | _ => .gs []
theorem soVal_eq (l : List Ev) (es : List Ep) : soVal [.va (.c1 (.fz (l.map evC))), .va (.c1 (.fz (es.map epC)))] = bA (soB l es) := by
  show bA (soB ((l.map evC).map C.ev) ((es.map epC).map C.ep)) = _
  rw [ev_map, ep_map]
def soFn : Fun := ⟨lcPre, soVal, fun xs h => by obtain ⟨l, es, rfl⟩ := lcPre_open h; trivial⟩
theorem soFn_len : ∀ xs H K, soFn.sp xs H K → xs.length = 2 := fun xs H K h => by obtain ⟨l, es, rfl⟩ := lcPre_open h.1.1; rfl
theorem spr {A B : Prop} (hA : A) (hB : B) : A ∧ B := ⟨hA, hB⟩
set_option maxHeartbeats 4000000 in
set_option maxRecDepth 100000 in
theorem mSound : Meets Try.prog 8 soFn.sp := by
  refine meets_fn Try.func8 ok8 2 (by rw [Try.ntmps8]; decide) (meetsAll_nil _) soFn_len ?_
  rintro xs H K ⟨⟨h, rfl⟩, hK⟩
  obtain ⟨l, es, rfl⟩ := lcPre_open h
  have hK' : K (bS (soB l es)) [] := by have := hK; rw [show soFn.val = soVal from rfl, soVal_eq] at this; exact this
  clear hK h
  unfold soB at hK'
  cases h1 : decide (60 < (l.length : Int)) with
  | true =>
    rw [h1, Bool.true_or] at hK'
    simp -dsimp only [go_sem, pc8, rs8, h1]
    exact .done hK'
  | false =>
  cases h2 : decide (6 < (es.length : Int)) with
  | true =>
    rw [h1, h2, Bool.false_or] at hK'
    simp -dsimp only [go_sem, pc8, rs8, h1, h2]
    exact .done hK'
  | false =>
  rw [h1, h2, Bool.false_or, Bool.cond_false] at hK'
  have hll : l.length ≤ 60 := by simp only [decide_eq_false_iff_not] at h1; omega
  have hel : es.length ≤ 6 := by simp only [decide_eq_false_iff_not] at h2; omega
  simp -dsimp only [go_sem, pc8, rs8, h1, h2]
  refine vc_loop (α := Nat) (fun i => [(0, .va (.c1 (.fz (l.map evC)))), (1, .va (.c1 (.fz (es.map epC)))), (5, iS .i64 i)]) (fun _ => []) (fun i => i ≤ l.length ∧ soL l (l.length - i) i = soL l l.length 0) (fun i => l.length - i) 0 0 ⟨Nat.zero_le _, rfl⟩ ?_ ?_ ?_
  · simp [go_sem]
  · simp [go_sem]
  rintro i ⟨hi, hgo⟩
  rcases Nat.lt_or_ge i l.length with hlt | hge
  · obtain ⟨e, hx⟩ : ∃ e, l[i]? = some e := ⟨_, List.getElem?_eq_getElem hlt⟩
    have q1 := row_rg (row := evC) hx
    have q2 := row_rg' (row := evC) hx
    have hg : decide ((i : Int) < (l.length : Int)) = true := by simp; omega
    have hs1 : l.length - i = (l.length - (i + 1)) + 1 := by omega
    rw [hs1] at hgo
    simp only [soL, hx] at hgo
    have bad : badA l i e = true → K (bS false) [] := fun hb => by
      rw [hb, Bool.cond_true] at hgo
      rw [← hgo] at hK'; exact hK'
    have next : badA l i e = false → soL l (l.length - (i + 1)) (i + 1) = soL l l.length 0 := fun hb => by rw [hb, Bool.cond_false] at hgo; exact hgo
    unfold badA at bad next
    cases b1 : decide (e.at' < 0) with
    | true =>
      rw [b1, Bool.true_or, Bool.true_or] at bad
      simp -dsimp only [go_sem, hg, ↓q2, b1, Bool.false_and]
      and_intros
      all_goals first
        | omega
        | skip
      exact .done (bad rfl)
    | false =>
    cases b2 : decide (1099511627776 < e.at') with
    | true =>
      rw [b2, Bool.or_true, Bool.true_or] at bad
      simp -dsimp only [go_sem, hg, ↓q2, b1, b2, Bool.false_and]
      and_intros
      all_goals first
        | omega
        | skip
      exact .done (bad rfl)
    | false =>
    rw [b1, b2, Bool.or_false, Bool.false_or] at bad next
    cases b3 : decide (0 < (i : Int)) with
    | false =>
      rw [b3, Bool.false_and] at next
      simp -dsimp only [go_sem, hg, ↓q2, b1, b2, b3]
      and_intros
      all_goals first
        | omega
        | skip
      refine loop_next (i + 1) 0 ⟨by omega, next rfl⟩ (by omega) ?_ ?_
      · simp [go_sem]
      · simp [go_sem]
    | true =>
      have hip : 0 < i := by simp only [decide_eq_true_eq] at b3; omega
      obtain ⟨q, hp⟩ : ∃ e, l[i - 1]? = some e := ⟨_, List.getElem?_eq_getElem (by omega)⟩
      have r1 := row_rg (row := evC) hp
      have r2 := row_rg' (row := evC) hp
      have hi1 : (i : Int) - 1 = ((i - 1 : Nat) : Int) := by omega
      rw [b3, hp, Bool.true_and] at bad next
      simp only at bad next
      cases b4 : decide (e.at' < q.at') with
      | true =>
        simp -dsimp only [go_sem, hg, hi1, ↓q2, ↓r2, b1, b2, b3, b4]
        and_intros
        all_goals first
          | omega
          | skip
        exact .done (bad b4)
      | false =>
        simp -dsimp only [go_sem, hg, hi1, ↓q2, ↓r2, b1, b2, b3, b4]
        and_intros
        all_goals first
          | omega
          | skip
        refine loop_next (i + 1) 0 ⟨by omega, next b4⟩ (by omega) ?_ ?_
        · simp [go_sem]
        · simp [go_sem]
  have hg : decide ((i : Int) < (l.length : Int)) = false := by simp; omega
  have hz : l.length - i = 0 := by omega
  rw [hz] at hgo
  simp only [soL] at hgo
  rw [← hgo, Bool.true_and] at hK'
  simp -dsimp only [go_sem, hg]
  refine vc_loop (α := Nat) (fun i => [(1, .va (.c1 (.fz (es.map epC)))), (6, iS .i64 i)]) (fun _ => []) (fun i => i ≤ es.length ∧ soE es (es.length - i) i = soE es es.length 0) (fun i => es.length - i) 0 0 ⟨Nat.zero_le _, rfl⟩ ?_ ?_ ?_
  · simp [go_sem]
  · simp [go_sem]
  clear hgo hz hg hge hi
  rintro i ⟨hi, hgo⟩
  rcases Nat.lt_or_ge i es.length with hlt | hge
  · obtain ⟨e, hx⟩ : ∃ e, es[i]? = some e := ⟨_, List.getElem?_eq_getElem hlt⟩
    have q1 := row_rg (row := epC) hx
    have q2 := row_rg' (row := epC) hx
    have hg : decide ((i : Int) < (es.length : Int)) = true := by simp; omega
    have hs1 : es.length - i = (es.length - (i + 1)) + 1 := by omega
    rw [hs1] at hgo
    simp only [soE, hx] at hgo
    have bad : badD e = true → K (bS false) [] := fun hb => by
      rw [hb, Bool.cond_true] at hgo
      rw [← hgo] at hK'; exact hK'
    have next : badD e = false → soE es (es.length - (i + 1)) (i + 1) = soE es es.length 0 := fun hb => by rw [hb, Bool.cond_false] at hgo; exact hgo
    unfold badD at bad next
    cases b1 : decide (e.dl < 0) with
    | true =>
      rw [b1, Bool.true_or] at bad
      simp -dsimp only [go_sem, hg, ↓q2, b1]
      and_intros
      all_goals first
        | omega
        | skip
      exact .done (bad rfl)
    | false =>
    rw [b1, Bool.false_or] at bad next
    cases b2 : decide (1099511627776 < e.dl) with
    | true =>
      simp -dsimp only [go_sem, hg, ↓q2, b1, b2]
      and_intros
      all_goals first
        | omega
        | skip
      exact .done (bad b2)
    | false =>
      simp -dsimp only [go_sem, hg, ↓q2, b1, b2]
      and_intros
      all_goals first
        | omega
        | skip
      refine loop_next (i + 1) 0 ⟨by omega, next b2⟩ (by omega) ?_ ?_
      · simp [go_sem]
      · simp [go_sem]
  · have hg : decide ((i : Int) < (es.length : Int)) = false := by simp; omega
    have hz : es.length - i = 0 := by omega
    rw [hz] at hgo
    simp only [soE] at hgo
    rw [← hgo] at hK'
    simp -dsimp only [go_sem, hg]
    exact .done hK'
end Go.Proofs.Ytdnohfhpbhlpaaa
/- AuditContracts: the law. -/
namespace Go.Proofs.Ytdnohfhpbhlpaaa
open Go.W
def lcFn : Fun := ⟨lcPre, fun _ => bA true, fun _xs _h => trivial⟩
theorem lcFn_len : ∀ xs H K, lcFn.sp xs H K → xs.length = 2 := fun xs H K h => by obtain ⟨l, es, rfl⟩ := lcPre_open h.1.1; rfl
theorem contF_len {l : List Ev} {es : List Ep} (h1 : l.length ≤ 60) (h2 : es.length ≤ 6) : (contF l es).length ≤ 1000000000 := by
  have h3 := pairsF_len es h2
  have h4 := allGo_len l h1 (pairsF es) []
  unfold contF allF
  rw [srt_len]
  simp only [List.length_nil] at h4
  omega
theorem quo_rng {a d : Int} (ha : -1099511627776 ≤ a) (ha2 : a ≤ 1099511627776) (_hd : 0 < d) : -9223372036854775808 ≤ a.tdiv d ∧ a.tdiv d ≤ 9223372036854775807 := by
  have h : (a.tdiv d).natAbs ≤ a.natAbs := by
    rw [Int.natAbs_tdiv]; exact Nat.div_le_self _ _
  omega
set_option maxHeartbeats 8000000 in
set_option maxRecDepth 100000 in
theorem mLawContracts : Meets Try.prog 3 lcFn.sp := by
  refine meets_fn Try.func3 ok3 2 (by rw [Try.ntmps3]; decide) (meetsAll_f mSound (meetsAll_f mAwake (meetsAll_s mContracts (meetsAll_s mRef (meetsAll_s mRContracts (meetsAll_f mSame (meetsAll_nil _))))))) lcFn_len ?_
  rintro xs H K ⟨⟨h, rfl⟩, hK⟩
  obtain ⟨l, es, rfl⟩ := lcPre_open h
  have hK' : K (.va (bA true)) [] := hK
  clear hK h
  have gso : (∃ l' : List Ev, l.map evC = l'.map evC) := ⟨l, rfl⟩
  have gse : (∃ e' : List Ep, es.map epC = e'.map epC) := ⟨es, rfl⟩
  have hv := soVal_eq l es
  cases hs : soB l es with
  | false =>
    simp -dsimp only [go_sem, pc3, rs3, soFn, lcPre, gso, gse, hv, hs]
    exact .done hK'
  | true =>
  obtain ⟨hll, hel, hat, hdl⟩ := soB_ok hs
  simp -dsimp only [go_sem, pc3, rs3, soFn, lcPre, gso, gse, hv, hs]
  refine vc_loop (α := Nat) (fun i => [(0, .va (.c1 (.fz (l.map evC)))), (1, .va (.c1 (.fz (es.map epC)))), (5, iS .i64 i)]) (fun _ => []) (fun i => i ≤ l.length ∧ ∀ j e, j < i → l[j]? = some e → -1000000000000 ≤ e.sq ∧ e.sq ≤ 1000000000000) (fun i => l.length - i) 0 0 ⟨Nat.zero_le _, fun j e h => by omega⟩ ?_ ?_ ?_
  · simp [go_sem]
  · simp [go_sem]
  rintro i ⟨hi, hall⟩
  rcases Nat.lt_or_ge i l.length with hlt | hge
  · obtain ⟨e, hx⟩ : ∃ e, l[i]? = some e := ⟨_, List.getElem?_eq_getElem hlt⟩
    have q1 := row_rg (row := evC) hx
    have q2 := row_rg' (row := evC) hx
    have hg : decide ((i : Int) < (l.length : Int)) = true := by simp; omega
    cases b1 : decide (e.sq < -1000000000000) with
    | true =>
      simp -dsimp only [go_sem, hg, ↓q2, b1]
      and_intros
      all_goals first
        | omega
        | skip
      exact .done hK'
    | false =>
    cases b2 : decide (1000000000000 < e.sq) with
    | true =>
      simp -dsimp only [go_sem, hg, ↓q2, b1, b2]
      and_intros
      all_goals first
        | omega
        | skip
      exact .done hK'
    | false =>
      simp -dsimp only [go_sem, hg, ↓q2, b1, b2]
      and_intros
      all_goals first
        | omega
        | skip
      refine loop_next (i + 1) 0 ⟨by omega, fun j x hj hjx => ?_⟩ (by omega) ?_ ?_
      · rcases Nat.lt_or_ge j i with hji | hji
        · exact hall j x hji hjx
        · obtain rfl : j = i := by omega
          rw [hx] at hjx
          obtain rfl := Option.some.inj hjx
          simp only [decide_eq_false_iff_not] at b1 b2
          omega
      · simp [go_sem]
      · simp [go_sem]
  have hg : decide ((i : Int) < (l.length : Int)) = false := by simp; omega
  have hok : ∀ e ∈ l, e.ok := fun e he => by
    obtain ⟨j, hj⟩ := List.mem_iff_getElem?.1 he
    have h1 := hall j e (by have := (List.getElem?_eq_some_iff.1 hj).1; omega) hj
    have h2 := hat e he
    exact ⟨h2.1, h2.2, h1.1, h1.2⟩
  simp -dsimp only [go_sem, hg]
  clear hg hge hall hi
  have gl := isLog_mk hll hok
  have gs : isEps (es.map epC) := ⟨es, rfl, hel⟩
  have gd : ∀ e ∈ es, e.dl ≤ 1099511627776 := fun e he => (hdl e he).2
  have g3 : isFd ((contF l es).map fdC) := isFd_mk (contF_len hll hel)
  have g4 : eqL (((contF l es).map fdC).map C.fd) (((contF l es).map fdC).map C.fd) = true := by rw [eqL_dec, eqL_self]
  refine vc_loop (α := Nat) (fun i => [(0, .va (.c1 (.fz (l.map evC)))), (1, .va (.c1 (.fz (es.map epC)))), (6, iS .i64 i)]) (fun _ => []) (fun i => i ≤ es.length) (fun i => es.length - i) 0 0 (Nat.zero_le _) ?_ ?_ ?_
  · simp [go_sem]
  · simp [go_sem]
  intro i hi
  rcases Nat.lt_or_ge i es.length with hlt | hge
  · have hg : decide ((i : Int) < (es.length : Int)) = true := by simp; omega
    rcases Nat.eq_zero_or_pos l.length with h0 | hpos
    · have hz : decide (0 < (l.length : Int)) = false := by rw [h0]; rfl
      simp -dsimp only [go_sem, hg, hz, gl, gs, g3, g4]
      exact ⟨gd, gd, .done hK'⟩
    · have hz : decide (0 < (l.length : Int)) = true := decide_eq_true (by omega)
      obtain ⟨e, hx⟩ : ∃ e, es[i]? = some e := ⟨_, List.getElem?_eq_getElem hlt⟩
      have q1 := row_rg (row := epC) hx
      have q2 := row_rg' (row := epC) hx
      have hde := hdl e (List.mem_of_getElem? hx)
      cases hd : decide (0 < e.dl) with
      | false =>
        simp -dsimp only [go_sem, hg, hz, ↓q2, hd]
        and_intros
        all_goals first
          | omega
          | skip
        refine loop_next (i + 1) 0 (by omega) (by omega) ?_ ?_
        · simp [go_sem]
        · simp [go_sem]
      | true =>
        have hd0 : 0 < e.dl := of_decide_eq_true hd
        obtain ⟨a, ha⟩ : ∃ e, l[l.length - 1]? = some e := ⟨_, List.getElem?_eq_getElem (by omega)⟩
        obtain ⟨b, hb⟩ : ∃ e, l[0]? = some e := ⟨_, List.getElem?_eq_getElem hpos⟩
        have r1 := row_rg (row := evC) ha
        have r2 := row_rg' (row := evC) ha
        have s1 := row_rg (row := evC) hb
        have s2 : ∀ f : List C → Prop, (∀ r, (l.map evC)[(0 : Int).toNat]? = some r → f r) = f (evC b) := s1
        have hln : (l.length : Int) - 1 = ((l.length - 1 : Nat) : Int) := by omega
        have ha2 := hat a (List.mem_of_getElem? ha)
        have hb2 := hat b (List.mem_of_getElem? hb)
        have hq := quo_rng (a := a.at' - b.at') (d := e.dl) (by omega) (by omega) hd0
        generalize hQ : (a.at' - b.at').tdiv e.dl = Q at hq
        cases hc : decide (300 < Q) with
        | true =>
          simp -dsimp only [go_sem, hg, hz, hln, ↓q2, ↓r2, ↓s2, hd, hQ, hc]
          and_intros
          all_goals first
            | omega
            | skip
          exact .done hK'
        | false =>
          simp -dsimp only [go_sem, hg, hz, hln, ↓q2, ↓r2, ↓s2, hd, hQ, hc]
          and_intros
          all_goals first
            | omega
            | skip
          refine loop_next (i + 1) 0 (by omega) (by omega) ?_ ?_
          · simp [go_sem]
          · simp [go_sem]
  · have hg : decide ((i : Int) < (es.length : Int)) = false := by simp; omega
    simp -dsimp only [go_sem, hg, gl, gs, g3, g4]
    exact ⟨gd, gd, .done hK'⟩
end Go.Proofs.Ytdnohfhpbhlpaaa
/- AuditCatches: the plain law. -/
namespace Go.Proofs.Ytdnohfhpbhlpaaa
open Go.W
def kdX (s : Nat) : Int := bif s % 5 == 0 then 5 else 4
def xE (a s : Nat) : Ev := ⟨kdX s, (a + s : Nat), 0, 2, 1, s⟩
def e0E (a : Nat) : Ev := ⟨1, a, 0, 2, 1, 0⟩
def wE (a : Nat) : Nat → List Ev
  | 0 => [e0E a]
  | s + 1 => wE a s ++ [xE a (s + 1)]
def lE (a k : Nat) : Nat → List Ev
  | 0 => [e0E a]
  | s + 1 => lE a k s ++ bif s + 1 == k then [] else [xE a (s + 1)]
theorem wE_eq (a : Nat) : ∀ n, wE a n = e0E a :: (List.range n).map fun j => xE a (j + 1)
  | 0 => rfl
  | n + 1 => by rw [wE, wE_eq a n, List.range_succ]; simp
theorem lE_lo (a k : Nat) : ∀ n, n < k → lE a k n = wE a n
  | 0, _ => rfl
  | n + 1, h => by
    have : (n + 1 == k) = false := by rw [beq_eq_false_iff_ne]; omega
    rw [lE, wE, lE_lo a k n (by omega), this, Bool.cond_false]
theorem lE_hi (a k : Nat) (hk : 0 < k) : ∀ m, lE a k (k + m) = e0E a :: (((List.range (k - 1)).map fun j => xE a (j + 1)) ++ (List.range m).map fun j => xE a (k + 1 + j))
  | 0 => by
    obtain ⟨q, rfl⟩ : ∃ q, k = q + 1 := ⟨k - 1, by omega⟩
    rw [Nat.add_zero, lE, lE_lo a (q + 1) q (by omega), wE_eq]
    simp
  | m + 1 => by
    have : (k + m + 1 == k) = false := by rw [beq_eq_false_iff_ne]; omega
    rw [← Nat.add_assoc, lE, lE_hi a k hk m, this, Bool.cond_false, List.range_succ]
    simp [Nat.add_assoc, Nat.add_comm, Nat.add_left_comm]
abbrev rdE : Ep := ⟨2, 1, mk [], mk [], false, true, false, true, 0, 0, 0, 0⟩
abbrev wrE : Ep := ⟨1, 0, mk [], mk [], true, true, false, true, 0, 0, 0, 0⟩
abbrev p2 : Pr := ⟨rdE, wrE⟩
theorem pairs_two : pairsF twoE = [p2] := rfl
theorem of_x (a s : Nat) : ofB p2 (xE a s) [4, 5] = true := by
  unfold xE kdX
  cases s % 5 == 0 <;> rfl
theorem of_x1 (a s : Nat) : ofB p2 (xE a s) [1] = false := by
  unfold xE kdX
  cases s % 5 == 0 <;> rfl
theorem end_x (a s : Nat) : endB p2 (xE a s) = false := by
  unfold xE kdX
  cases s % 5 == 0 <;> rfl
theorem ordGo_add (p : Pr) (l : List Ev) : ∀ m1 m2 i z, i + m1 ≤ l.length → ordGo p l (m1 + m2) i z = ordGo p l m2 (i + m1) (ordGo p l m1 i z)
  | 0, m2, i, z, _ => by simp [ordGo]
  | m1 + 1, m2, i, z, h => by
    have hx : l[i]? = some l[i] := List.getElem?_eq_getElem (by omega)
    rw [Nat.add_right_comm, ordGo, ordGo, hx]
    simp only
    rw [ordGo_add p l m1 m2 (i + 1) _ (by omega)]
    congr 1
    omega
/-- A run of deliveries without a gap. -/
theorem ord_run (p : Pr) (l : List Ev) : ∀ (m i s : Nat) (ks : List Int) (out : List Fnd), ks.isEmpty = false → (∀ j, j < m → ∃ e, l[i + j]? = some e ∧ ofB p e [4, 5] = true ∧ e.sq = ((s + 1 + j : Nat) : Int)) →
    ∃ ks', ks'.isEmpty = false ∧ ordGo p l m i (ks, (s : Int), out) = (ks', ((s + m : Nat) : Int), out)
  | 0, i, s, ks, out, hk, _ => ⟨ks, hk, rfl⟩
  | m + 1, i, s, ks, out, hk, h => by
    obtain ⟨e, he, ho, hs⟩ := h 0 (by omega)
    rw [Nat.add_zero] at he hs
    have hst : ordSt p i e (ks, (s : Int), out) = (addK ks e.sq, ((s + 1 : Nat) : Int), out) := by
      have h1 : decide ((s : Int) + 1 < e.sq) = false := by rw [hs]; simp
      have h2 : decide (e.sq ≤ (s : Int)) = false := by rw [hs]; simp; omega
      have hm : max (s : Int) e.sq = ((s + 1 : Nat) : Int) := by rw [hs]; omega
      unfold ordSt ordO ordK
      rw [ho, hk, h1, h2]
      simp [hm]
    obtain ⟨ks', h3, h4⟩ := ord_run p l m (i + 1) (s + 1) (addK ks e.sq) out (addK_emp _ _) (fun j hj => by
      obtain ⟨e', h5, h6, h7⟩ := h (j + 1) (by omega)
      exact ⟨e', by rw [← h5]; congr 1; omega, h6, by rw [h7]; congr 1; omega⟩)
    refine ⟨ks', h3, ?_⟩
    rw [ordGo, he]
    simp only
    rw [hst, h4]
    congr 2
    omega
/-- The first delivery. -/
theorem ord_fst (p : Pr) (l : List Ev) (e : Ev) (i : Nat) (he : l[i]? = some e) (ho : ofB p e [4, 5] = true) : ordGo p l 1 i ([], 0, []) = ([e.sq], e.sq, []) := by
  rw [ordGo, he]
  simp only [ordGo]
  unfold ordSt ordO ordK addK
  rw [ho]
  simp
theorem toGo_all (p : Pr) (l : List Ev) : ∀ n t, (∀ j, t ≤ j → j < t + n → ∃ e, l[j]? = some e ∧ endB p e = false) → toGo p l n t = t + n
  | 0, t, _ => rfl
  | n + 1, t, h => by
    obtain ⟨e, he, hb⟩ := h t (by omega) (by omega)
    rw [toGo, he]
    simp only
    rw [hb, Bool.cond_false, toGo_all p l n (t + 1) fun j h1 h2 => h j (by omega) (by omega)]
    omega
theorem seGo_none (p : Pr) (l : List Ev) : ∀ n i out, (∀ j, i ≤ j → j < i + n → ∃ e, l[j]? = some e ∧ ofB p e [1] = false) → seGo p l n i out = out
  | 0, i, out, _ => rfl
  | n + 1, i, out, h => by
    obtain ⟨e, he, hb⟩ := h i (by omega) (by omega)
    rw [seGo, he]
    simp only
    have : seS p l i e out = out := by unfold seS; rw [hb]; rfl
    rw [this, seGo_none p l n (i + 1) out fun j h1 h2 => h j (by omega) (by omega)]
/-- A log of one session of the pair, with deliveries alone. -/
theorem cont_one {a : Nat} {l : List Ev} {xs : List Nat} (hl : l = e0E a :: xs.map (xE a)) : contF l twoE = srt ltC (orderF p2 l 0 l.length) := by
  have hx : ∀ j, 1 ≤ j → j < l.length → ∃ s, l[j]? = some (xE a s) := fun j h1 h2 => by
    obtain ⟨q, rfl⟩ : ∃ q, j = q + 1 := ⟨j - 1, by omega⟩
    rw [hl] at h2 ⊢
    simp only [List.length_cons, List.length_map] at h2
    exact ⟨xs[q], by simp [List.getElem?_eq_getElem (show q < xs.length by omega)]⟩
  have hlen : l.length = (l.length - 1) + 1 := by rw [hl]; simp
  have h0 : l[0]? = some (e0E a) := by rw [hl]; rfl
  have hT : toGo p2 l (l.length - (0 + 1)) (0 + 1) = l.length := by
    rw [toGo_all]
    · omega
    · intro j h1 h2
      obtain ⟨s, hs⟩ := hx j (by omega) (by omega)
      exact ⟨_, hs, end_x a s⟩
  have hs : sessF p2 l = orderF p2 l 0 l.length := by
    unfold sessF
    rw [hlen, seGo, h0]
    simp only
    have h1 : seS p2 l 0 (e0E a) [] = orderF p2 l 0 l.length := by
      unfold seS
      have : ofB p2 (e0E a) [1] = true := rfl
      rw [this, Bool.cond_true, hT]
      unfold seA
      simp
    rw [h1, seGo_none]
    · rw [← hlen]
    · intro j h2 h3
      obtain ⟨s, hs⟩ := hx j (by omega) (by omega)
      exact ⟨_, hs, of_x1 a s⟩
  unfold contF allF
  rw [pairs_two]
  simp only [allGo, List.nil_append]
  rw [hs]
theorem order_whole (a n : Nat) (hn : 1 ≤ n) : orderF p2 (wE a n) 0 (wE a n).length = [] := by
  have hw := wE_eq a n
  have hlen : (wE a n).length = n + 1 := by rw [hw]; simp
  have hg : ∀ j, j < n → (wE a n)[1 + j]? = some (xE a (j + 1)) := fun j hj => by rw [hw, Nat.add_comm 1 j]; simp [hj]
  unfold orderF
  have e1 : (wE a n).length - (0 + 1) = 1 + (n - 1) := by omega
  rw [e1, ordGo_add _ _ 1 (n - 1) _ _ (by omega), ord_fst _ _ _ _ (hg 0 (by omega)) (of_x a 1)]
  obtain ⟨ks', _, h⟩ := ord_run p2 (wE a n) (n - 1) (1 + 1) 1 [((1 : Nat) : Int)] [] rfl (fun j hj => ⟨xE a (j + 2), by have := hg (j + 1) (by omega); rw [← this]; congr 1; omega, of_x a _, by show ((j + 2 : Nat) : Int) = _; congr 1; omega⟩)
  show (ordGo p2 (wE a n) (n - 1) (1 + 1) ([((0 + 1 : Nat) : Int)], ((0 + 1 : Nat) : Int), [])).2.2 = []
  rw [show (0 + 1 : Nat) = 1 from rfl, h]
theorem cont_whole (a n : Nat) (hn : 1 ≤ n) : contF (wE a n) twoE = [] := by
  have := cont_one (a := a) (l := wE a n) (xs := (List.range n).map (· + 1)) (by rw [wE_eq]; simp)
  rw [this, order_whole a n hn]
  rfl
theorem order_gap (a k m : Nat) (hk : 2 ≤ k) (hm : 1 ≤ m) : orderF p2 (lE a k (k + m)) 0 (lE a k (k + m)).length = [⟨k, 1, ((a + (k + 1) : Nat) : Int), 2, 1⟩] := by
  have hw := lE_hi a k (by omega) m
  have hlen : (lE a k (k + m)).length = k + m := by rw [hw]; simp; omega
  generalize lE a k (k + m) = L at hw hlen
  have g1 : ∀ j, j < k - 1 → L[1 + j]? = some (xE a (j + 1)) := fun j hj => by
    rw [hw, Nat.add_comm 1 j, List.getElem?_cons_succ, List.getElem?_append_left (by simpa using hj)]; simp [hj]
  have g2 : ∀ j, j < m → L[k + j]? = some (xE a (k + 1 + j)) := fun j hj => by
    rw [hw, show k + j = (k - 1 + j) + 1 by omega, List.getElem?_cons_succ, List.getElem?_append_right (by simp)]; simp [hj]
  unfold orderF
  have e1 : L.length - (0 + 1) = 1 + ((k - 2) + (1 + (m - 1))) := by omega
  rw [e1, ordGo_add _ _ 1 _ _ _ (by omega), ord_fst _ _ _ _ (g1 0 (by omega)) (of_x a 1), ordGo_add _ _ (k - 2) _ _ _ (by omega)]
  obtain ⟨ks1, hk1, h1⟩ := ord_run p2 L (k - 2) (1 + 1) 1 [((1 : Nat) : Int)] [] rfl (fun j hj => ⟨xE a (j + 2), by have := g1 (j + 1) (by omega); rw [← this]; congr 1; omega, of_x a _, by show ((j + 2 : Nat) : Int) = _; congr 1; omega⟩)
  have e2 : ordGo p2 L (k - 2) (0 + 1 + 1) ([(xE a (0 + 1)).sq], (xE a (0 + 1)).sq, []) = (ks1, ((1 + (k - 2) : Nat) : Int), []) := h1
  rw [e2, ordGo_add _ _ 1 _ _ _ (by omega)]
  have hi : 0 + 1 + 1 + (k - 2) = k := by omega
  rw [hi]
  have hg := g2 0 (by omega)
  rw [Nat.add_zero, Nat.add_zero] at hg
  have e3 : ordGo p2 L 1 k (ks1, ((1 + (k - 2) : Nat) : Int), []) = (addK ks1 (xE a (k + 1)).sq, ((k + 1 : Nat) : Int), [⟨k, 1, ((a + (k + 1) : Nat) : Int), 2, 1⟩]) := by
    rw [ordGo, hg]
    simp only [ordGo]
    have hsq : (xE a (k + 1)).sq = ((k + 1 : Nat) : Int) := rfl
    have h2 : decide ((((1 + (k - 2) : Nat) : Int)) + 1 < (xE a (k + 1)).sq) = true := by rw [hsq]; exact decide_eq_true (by omega)
    have hmx : max ((1 + (k - 2) : Nat) : Int) (xE a (k + 1)).sq = ((k + 1 : Nat) : Int) := by rw [hsq]; omega
    unfold ordSt ordO ordK
    rw [of_x, hk1, h2]
    simp only [Bool.cond_true, Bool.cond_false, hmx]
    rfl
  rw [e3]
  obtain ⟨ks2, _, h2⟩ := ord_run p2 L (m - 1) (k + 1) (k + 1) (addK ks1 (xE a (k + 1)).sq) [⟨k, 1, ((a + (k + 1) : Nat) : Int), 2, 1⟩] (addK_emp _ _) (fun j hj => ⟨xE a (k + 1 + (j + 1)), by have := g2 (j + 1) (by omega); rw [← this]; congr 1; omega, of_x a _, by show ((k + 1 + (j + 1) : Nat) : Int) = _; congr 1; omega⟩)
  rw [h2]
theorem cont_gap (a k m : Nat) (hk : 2 ≤ k) (hm : 1 ≤ m) : contF (lE a k (k + m)) twoE = [⟨k, 1, ((a + (k + 1) : Nat) : Int), 2, 1⟩] := by
  have := cont_one (a := a) (l := lE a k (k + m)) (xs := ((List.range (k - 1)).map (· + 1)) ++ (List.range m).map (k + 1 + ·)) (by rw [lE_hi a k (by omega)]; simp; rfl)
  rw [this, order_gap a k m hk hm]
  rfl
end Go.Proofs.Ytdnohfhpbhlpaaa
/- AuditCatches: the law. -/
namespace Go.Proofs.Ytdnohfhpbhlpaaa
open Go.W
def lkPre : List S → Prop := fun xs => match xs with
  | [.va (.c1 (.vl (.int .u8 a))), .va (.c1 (.vl (.int .u8 b))), .va (.c1 (.vl (.int .u16 c)))] => (0 ≤ a ∧ a ≤ 255) ∧ (0 ≤ b ∧ b ≤ 255) ∧ 0 ≤ c ∧ c ≤ 65535
  | _ => False
theorem lkPre_open {xs : List S} (h : lkPre xs) : ∃ a b c : Nat, xs = [iS .u8 a, iS .u8 b, iS .u16 c] ∧ a ≤ 255 ∧ b ≤ 255 ∧ c ≤ 65535 := by
  unfold lkPre at h
  split at h
  · rename_i a b c
    obtain ⟨⟨h1, h2⟩, ⟨h3, h4⟩, h5, h6⟩ := h
    obtain ⟨a, rfl⟩ := Int.eq_ofNat_of_zero_le h1
    obtain ⟨b, rfl⟩ := Int.eq_ofNat_of_zero_le h3
    obtain ⟨c, rfl⟩ := Int.eq_ofNat_of_zero_le h5
    exact ⟨a, b, c, rfl, by omega, by omega, by omega⟩
  · exact h.elim
def lkFn : Fun := ⟨lkPre, fun _ => bA true, fun _xs _h => trivial⟩
theorem lkFn_len : ∀ xs H K, lkFn.sp xs H K → xs.length = 3 := fun xs H K h => by obtain ⟨a, b, c, rfl, _⟩ := lkPre_open h.1.1; rfl
theorem xE_ok {a s : Nat} (ha : a ≤ 65535) (hs : s ≤ 100) : (xE a s).ok := by
  refine ⟨?_, ?_, ?_, ?_⟩ <;> simp only [xE] <;> omega
theorem e0E_ok {a : Nat} (ha : a ≤ 65535) : (e0E a).ok := by
  refine ⟨?_, ?_, ?_, ?_⟩ <;> simp only [e0E] <;> omega
theorem wE_len (a : Nat) : ∀ n, (wE a n).length = n + 1 := fun n => by rw [wE_eq]; simp
theorem lE_len (a k : Nat) : ∀ n, (lE a k n).length ≤ n + 1
  | 0 => Nat.le_refl _
  | n + 1 => by
    have := lE_len a k n
    rw [lE, List.length_append]
    cases n + 1 == k <;> simp <;> omega
theorem wE_ok {a : Nat} (ha : a ≤ 65535) : ∀ n, n ≤ 100 → ∀ e ∈ wE a n, e.ok
  | 0, _, e, he => by rw [wE, List.mem_singleton] at he; subst he; exact e0E_ok ha
  | n + 1, hn, e, he => by
    rw [wE, List.mem_append] at he
    rcases he with he | he
    · exact wE_ok ha n (by omega) e he
    · rw [List.mem_singleton] at he; subst he; exact xE_ok ha hn
theorem lE_ok {a k : Nat} (ha : a ≤ 65535) : ∀ n, n ≤ 100 → ∀ e ∈ lE a k n, e.ok
  | 0, _, e, he => by rw [lE, List.mem_singleton] at he; subst he; exact e0E_ok ha
  | n + 1, hn, e, he => by
    rw [lE, List.mem_append] at he
    rcases he with he | he
    · exact lE_ok ha n (by omega) e he
    · cases hb : n + 1 == k with
      | true => rw [hb] at he; cases he
      | false => rw [hb, Bool.cond_false, List.mem_singleton] at he; subst he; exact xE_ok ha hn
set_option maxHeartbeats 8000000 in
set_option maxRecDepth 100000 in
theorem mLawCatches : Meets Try.prog 4 lkFn.sp := by
  refine meets_fn Try.func4 ok4 3 (by rw [Try.ntmps4]; decide) (meetsAll_s mTwo (meetsAll_s mContracts.lend1 (meetsAll_f mAwake (meetsAll_nil _)))) lkFn_len ?_
  rintro xs H K ⟨⟨h, rfl⟩, hK⟩
  obtain ⟨a, b, c, rfl, ha, hb, hc⟩ := lkPre_open h
  have hK' : K (.va (bA true)) [] := hK
  clear hK h
  have wa : IntKind.i64.wrap (a : Int) = a := i64_wrap (by omega) (by omega)
  have wb : IntKind.i64.wrap (b : Int) = b := i64_wrap (by omega) (by omega)
  have wc : IntKind.i64.wrap (c : Int) = c := i64_wrap (by omega) (by omega)
  have hn0 : (3 : Int) + (a : Int).tmod 40 = ((3 + a % 40 : Nat) : Int) := by rw [show (a : Int).tmod 40 = ((a % 40 : Nat) : Int) from rfl]; omega
  have hnr : a % 40 < 40 := Nat.mod_lt _ (by decide)
  generalize hn : 3 + a % 40 = n at hn0
  have hn3 : 3 ≤ n := by omega
  have hn4 : n ≤ 42 := by omega
  clear hnr hn
  have hn2 : ((n : Nat) : Int) - 2 = ((n - 2 : Nat) : Int) := by omega
  have hk0 : (2 : Int) + (b : Int).tmod ((n - 2 : Nat) : Int) = ((2 + b % (n - 2) : Nat) : Int) := by rw [show (b : Int).tmod ((n - 2 : Nat) : Int) = ((b % (n - 2) : Nat) : Int) from rfl]; omega
  have hkr : b % (n - 2) < n - 2 := Nat.mod_lt _ (by omega)
  generalize hkk : 2 + b % (n - 2) = k at hk0
  have hk2 : 2 ≤ k := by omega
  have hk3 : k < n := by omega
  clear hkr hkk
  have hne : ¬ ((n - 2 : Nat) : Int) = 0 := by omega
  simp -dsimp only [go_sem, pc4, rs4, wa, wb, wc, hn0, hn2, hk0]
  refine ⟨by decide, by omega, by omega, by omega, by omega, by omega, ?_⟩
  rintro r rfl
  refine ⟨by simp, ⟨by simp, fun c hc => ?_⟩, ?_⟩
  · simp only [List.take_succ_cons, List.take_zero, List.mem_cons, List.not_mem_nil, or_false] at hc
    rcases hc with rfl | rfl | rfl | rfl | rfl | rfl <;> exact ⟨rfl, rfl⟩
  refine vc_loop (α := Nat) (fun m => [(2, iS .u16 c), (7, iS .i64 n), (8, iS .i64 k), (9, .va (.c1 (.sl 0 (lE c k m).length))), (10, .va (.c1 (.sl 1 (wE c m).length))), (11, iS .i64 ((m + 1 : Nat) : Int))])
    (fun m => [.row ((lE c k m).map evC) 27 6, .row ((wE c m).map evC) 27 6]) (fun m => m ≤ n) (fun m => n - m) 0 2 (Nat.zero_le _) ?_ ?_ ?_
  · simp [go_sem, lE, wE]
  · simp [go_sem, lE, wE, e0E]
  intro m hm
  have hll := lE_len c k m
  have hwl := wE_len c m
  rcases Nat.lt_or_ge m n with hlt | hge
  · have hg : decide (((m + 1 : Nat) : Int) ≤ (n : Int)) = true := decide_eq_true (by omega)
    have hcm : (c : Int) + ((m + 1 : Nat) : Int) = ((c + (m + 1) : Nat) : Int) := by omega
    have hr5 : ((m + 1 : Nat) : Int).tmod 5 = (((m + 1) % 5 : Nat) : Int) := rfl
    have hm1 : ((m + 1 : Nat) : Int) + 1 = ((m + 1 + 1 : Nat) : Int) := by omega
    cases h5 : (m + 1) % 5 == 0 with
    | true =>
      have h5' : (((m + 1) % 5 : Nat) : Int) == 0 := by simp at h5 ⊢; omega
      have hx : xE c (m + 1) = ⟨5, (c + (m + 1) : Nat), 0, 2, 1, (m + 1 : Nat)⟩ := by unfold xE kdX; rw [h5]; rfl
      cases hk : m + 1 == k with
      | true =>
        have hk' : (((m + 1 : Nat) : Int) == (k : Int)) = true := by simp at hk ⊢; omega
        have hl : lE c k (m + 1) = lE c k m := by rw [lE, hk]; simp
        simp -dsimp only [go_sem, hg, wc, hcm, hr5, h5', bne, hk']
        and_intros
        all_goals first
          | omega
          | decide
          | skip
        refine loop_next (m + 1) 2 hlt (by omega) ?_ ?_
        · simp [go_sem, hl, wE]
        · simp [go_sem, hl, wE, hx]
      | false =>
        have hk' : (((m + 1 : Nat) : Int) == (k : Int)) = false := by simp at hk ⊢; omega
        have hl : lE c k (m + 1) = lE c k m ++ [xE c (m + 1)] := by rw [lE, hk]; rfl
        simp -dsimp only [go_sem, hg, wc, hcm, hr5, h5', bne, hk']
        and_intros
        all_goals first
          | omega
          | decide
          | skip
        refine loop_next (m + 1) 2 hlt (by omega) ?_ ?_
        · simp [go_sem, hl, wE]
        · simp [go_sem, hl, wE, hx]
    | false =>
      have h5' : ((((m + 1) % 5 : Nat) : Int) == 0) = false := by simp at h5 ⊢; omega
      have hx : xE c (m + 1) = ⟨4, (c + (m + 1) : Nat), 0, 2, 1, (m + 1 : Nat)⟩ := by unfold xE kdX; rw [h5]; rfl
      cases hk : m + 1 == k with
      | true =>
        have hk' : (((m + 1 : Nat) : Int) == (k : Int)) = true := by simp at hk ⊢; omega
        have hl : lE c k (m + 1) = lE c k m := by rw [lE, hk]; simp
        simp -dsimp only [go_sem, hg, wc, hcm, hr5, h5', bne, hk']
        and_intros
        all_goals first
          | omega
          | decide
          | skip
        refine loop_next (m + 1) 2 hlt (by omega) ?_ ?_
        · simp [go_sem, hl, wE]
        · simp [go_sem, hl, wE, hx]
      | false =>
        have hk' : (((m + 1 : Nat) : Int) == (k : Int)) = false := by simp at hk ⊢; omega
        have hl : lE c k (m + 1) = lE c k m ++ [xE c (m + 1)] := by rw [lE, hk]; rfl
        simp -dsimp only [go_sem, hg, wc, hcm, hr5, h5', bne, hk']
        and_intros
        all_goals first
          | omega
          | decide
          | skip
        refine loop_next (m + 1) 2 hlt (by omega) ?_ ?_
        · simp [go_sem, hl, wE]
        · simp [go_sem, hl, wE, hx]
  · obtain rfl : m = n := by omega
    have hg : decide (((m + 1 : Nat) : Int) ≤ (m : Int)) = false := decide_eq_false (by omega)
    obtain ⟨d, rfl⟩ : ∃ d, m = k + d := ⟨m - k, by omega⟩
    have cw := cont_whole c (k + d) (by omega)
    have cg := cont_gap c k d hk2 (by omega)
    have gl1 : isLog ((lE c k (k + d)).map evC) := isLog_mk (by omega) (lE_ok hc _ (by omega))
    have gl2 : isLog ((wE c (k + d)).map evC) := isLog_mk (by omega) (wE_ok hc _ (by omega))
    have h2 := ex_eps
    have h5 : ∀ e ∈ twoE, e.dl ≤ 1099511627776 := by
      intro e he
      simp only [twoE, List.mem_cons, List.not_mem_nil, or_false] at he
      rcases he with rfl | rfl <;> decide
    have hck : (c : Int) + (k : Int) = ((c + k : Nat) : Int) := by omega
    have hck1 : ((c + k : Nat) : Int) + 1 = ((c + (k + 1) : Nat) : Int) := by omega
    have z0 : (((0 : Nat) : Int) == 0) = true := rfl
    have z1 : (((1 : Nat) : Int) == 1) = true := rfl
    have qe : ∀ (c : List C) (p : List C → Prop), (∀ r, c = r → p r) = p c := fun c p => by simp
    simp -dsimp only [go_sem, hg, gl1, gl2, h2, cw, cg, hck, hck1, wc, z0, z1, ↓qe]
    exact ⟨h5, h5, by omega, by omega, by omega, .sel [] (by simp) (by simp) rfl (.done hK')⟩
end Go.Proofs.Ytdnohfhpbhlpaaa
