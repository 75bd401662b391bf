/- The law of one lease: exactly what is late is told. -/
import Derived.Test.YtngmjggconefcaaLivK
namespace Go.Proofs.Ytngmjggconefcaa
open Go.W
abbrev wR (w : Int) : List C := [.vl (.int .u16 w)]
def exPre : List S → Prop := fun xs => match xs with
  | [.va (.c1 (.vl (.int .u16 l))), .va (.c1 (.fz rs))] => (0 ≤ l ∧ l ≤ 65535) ∧ ∃ ws : List Int, rs = ws.map wR ∧ ∀ w ∈ ws, 0 ≤ w ∧ w ≤ 65535
  | _ => False
theorem exPre_open {xs : List S} (h : exPre xs) : ∃ (l : Int) (ws : List Int), xs = [iS .u16 l, .va (.c1 (.fz (ws.map wR)))] ∧ (0 ≤ l ∧ l ≤ 65535) ∧ ∀ w ∈ ws, 0 ≤ w ∧ w ≤ 65535 := by
  unfold exPre at h
  split at h
  · obtain ⟨h0, ws, rfl, h1⟩ := h
    exact ⟨_, ws, rfl, h0, h1⟩
  · exact h.elim
def exFn : Fun := ⟨exPre, fun _ => bA true, fun xs _ => trivial⟩
theorem exFn_len : ∀ xs H K, exFn.sp xs H K → xs.length = 2 := fun xs H K h => by obtain ⟨l, ws, rfl, _⟩ := exPre_open h.1.1; rfl
def late (L now w : Int) : List Chg := bif decide (L < w) then [⟨1, now + L, false⟩, ⟨1, now + w, true⟩] else []
def one (L now : Int) (P : List Chg) : Ls := ⟨now, [⟨1, L, now, true⟩], P⟩
theorem one_asrE {L now w : Int} {P : List Chg} (h1 : 0 ≤ now) (h2 : 0 ≤ w) (h3 : now + w ≤ 1099511627776) : asrE (one L now P) 1 (now + w) = 0 := by
  have e1 : findL [⟨1, L, now, true⟩] 1 0 = 0 := by simp [findL]
  unfold asrE one
  simp only [e1]
  have a1 : timB (now + w) = true := by unfold timB; simp; omega
  have a2 : decide (now + w < now) = false := by simp; omega
  rw [a1, a2]; rfl
theorem one_asrL {L now w : Int} {P : List Chg} (h1 : 0 ≤ now) (h2 : 0 ≤ w) (h3 : now + w ≤ 1099511627776) (hL : 1 ≤ L) : asrL (one L now P) 1 (now + w) = one L (now + w) (P ++ late L now w) := by
  have e1 : findL [⟨1, L, now, true⟩] 1 0 = 0 := by simp [findL]
  unfold asrL
  rw [one_asrE h1 h2 h3]
  simp only [one, e1, Ls.mv, late, beq_self_eq_true, Bool.cond_true, endL, List.map_cons, List.map_nil, List.filter_cons, List.filter_nil, mv1]
  have hd : dueB (now + w) ⟨1, L, now, true⟩ = decide (L < w) := by
    unfold dueB
    have : decide (0 < L) = true := by simp; omega
    simp only [this, Bool.true_and]
    exact decide_eq_decide.2 (by omega)
  rw [hd]
  cases h : decide (L < w) with
  | true => simp [srt, insR]
  | false => simp [srt]
theorem one_alv {L now : Int} {P : List Chg} : alvB (one L now P) 1 = true := by simp [alvB, one, findL]
theorem one_fit {L now : Int} {P : List Chg} (h1 : 0 ≤ now) (h2 : now ≤ 1099511627776) (h3 : 0 ≤ L) (h4 : L ≤ 1099511627776) (h5 : P.length ≤ 400000) : (one L now P).fit :=
  ⟨by simp [one], h5, fun x hx => by simp [one] at hx; subst hx; exact ⟨h3, h4, h1, h2⟩, h1⟩
theorem late_srt {P : List Chg} {L now w : Int} (h : Srt ltC P) (hc : ∀ c ∈ P, c.at' ≤ now) (hL : 1 ≤ L) : Srt ltC (P ++ late L now w) := by
  unfold late
  cases hd : decide (L < w) with
  | false => rw [Bool.cond_false, List.append_nil]; exact h
  | true =>
    rw [Bool.cond_true]
    have hd' : L < w := by simpa using hd
    refine List.pairwise_append.2 ⟨h, ?_, ?_⟩
    · simp [ltC_eq, before]; omega
    · intro a ha b hb
      have := hc a ha
      simp at hb
      rcases hb with rfl | rfl <;> simp [ltC_eq, before] <;> omega
theorem late_le {P : List Chg} {L now w : Int} (hc : ∀ c ∈ P, c.at' ≤ now) (hw : 0 ≤ w) : ∀ c ∈ P ++ late L now w, c.at' ≤ now + w := by
  intro c h
  rcases List.mem_append.1 h with h | h
  · have := hc c h; omega
  · unfold late at h
    cases hd : decide (L < w) with
    | false => rw [hd, Bool.cond_false] at h; cases h
    | true =>
      have hd' : L < w := by simpa using hd
      rw [hd, Bool.cond_true] at h
      simp at h
      rcases h with rfl | rfl <;> simp only <;> omega
theorem late_len (L now w : Int) : (late L now w).length ≤ 2 := by unfold late; cases decide (L < w) <;> simp
theorem one_mv {L now t e : Int} {P : List Chg} (h : dueB e ⟨1, L, now, true⟩ = false) : (one L now P).mv t e = ⟨t, [⟨1, L, now, true⟩], P⟩ := by
  unfold one
  simp [Ls.mv, endL, mv1, h, srt]
theorem one_mv' {L now t e : Int} {P : List Chg} (h : dueB e ⟨1, L, now, true⟩ = true) : (one L now P).mv t e = ⟨t, [⟨1, L, now, false⟩], P ++ [⟨1, now + L, false⟩]⟩ := by
  unfold one
  simp [Ls.mv, endL, mv1, h, srt, insR]
set_option maxRecDepth 100000 in
theorem mExact : Meets Try.prog 3 exFn.sp := by
  refine meets_fn Try.func3 ok3 2 (by rw [Try.ntmps3]; decide) (meetsAll_f mAwake (meetsAll_s mNew (meetsAll_s mAdd (meetsAll_s mAssert (meetsAll_s mNextL (meetsAll_s mCheck (meetsAll_s mPlain (meetsAll_s mAlive (meetsAll_f mSame (meetsAll_nil _)))))))))) exFn_len ?_
  rintro av H K ⟨⟨h, rfl⟩, hK⟩
  obtain ⟨L, ws, rfl, ⟨hL0, hL1⟩, hws⟩ := exPre_open h
  have hK' : K (bS true) [] := hK
  have z0 : ((((0 : Nat) : Int) == 0)) = true := rfl
  have zb : ((0 : Int) != 0) = false := rfl
  cases hg0 : (L == 0) || decide (60 < (ws.length : Int)) with
  | true =>
    simp -dsimp only [go_sem, pc3, rs3, hg0]
    exact .done hK'
  | false =>
    have hL2 : 1 ≤ L := by simp at hg0; omega
    have hwl : ws.length ≤ 60 := by simp at hg0; omega
    have hwr : ∀ x : Int, 0 ≤ x → x ≤ 65535 → IntKind.i64.wrap x = x := fun x h1 h2 => by
      have e1 : x % 18446744073709551616 = x := Int.emod_eq_of_lt h1 (by omega)
      have e2 : IntKind.i64.wrap x = if (true && decide (x % 18446744073709551616 ≥ 9223372036854775808)) = true then x % 18446744073709551616 - 18446744073709551616 else x % 18446744073709551616 := rfl
      rw [e2, e1, if_neg (by simp; omega)]
    have hwL := hwr L hL0 hL1
    have a1 : addE Ls.empty 1 L 0 = 0 := by
      have : timB L = true := by unfold timB; simp; omega
      unfold addE; rw [this]; rfl
    have a2 : addL Ls.empty 1 L 0 = one L 0 [] := by unfold addL; rw [a1]; rfl
    have g0 : isFit Ls.empty.now (Ls.empty.all.map lzC) (Ls.empty.pend.map chC) Ls.empty.all.length Ls.empty.pend.length := isFit_mk (fit_of _ (by decide))
    simp -dsimp only [go_sem, pc3, rs3, hg0, hwL, a1, a2, g0, zb]
    refine vc_loop_gh (α := Nat × Int × List Chg) (fun z => [(0, iS .u16 L), (1, .va (.c1 (.fz (ws.map wR)))), (5, .va (.c1 (.pt 0 0))), (6, .va (.c1 (.sl 3 z.2.2.length))), (7, iS .i64 z.2.1), (8, iS .i64 z.1)])
      (fun z => lsH (one L z.2.1 z.2.2) ++ [.row (z.2.2.map chC) 31 3])
      (fun z => (z.1 ≤ ws.length ∧ 0 ≤ z.2.1 ∧ z.2.1 ≤ 65535 * z.1 ∧ z.2.2.length ≤ 2 * z.1) ∧ Srt ltC z.2.2 ∧ ∀ c ∈ z.2.2, c.at' ≤ z.2.1) (fun z => ws.length - z.1)
      (.nil 6 31 3 rfl (gh_at (0, 0, []) 4 (by simp [Srt]) ?_ ?_)) ?_
    · simp [go_sem]
    · simp [go_sem, one]
    rintro ⟨i, now, P⟩ ⟨⟨hi, hn0, hn1, hPl⟩, hP1, hP2⟩
    simp only at hi hn0 hn1 hPl hP1 hP2
    have hfit : (one L now P).fit := one_fit hn0 (by omega) (by omega) (by omega) (by omega)
    have g1 := isFit_mk hfit
    obtain ⟨s1, h1⟩ : ∃ s, s = one L now P := ⟨_, rfl⟩
    rcases Nat.lt_or_ge i ws.length with hlt | hge
    · obtain ⟨w, hw⟩ : ∃ w, ws[i]? = some w := ⟨_, List.getElem?_eq_getElem hlt⟩
      obtain ⟨hw0, hw1⟩ := hws w (List.mem_of_getElem? hw)
      have q1 := rg_at (row := wR) hw
      have q2 := rg_at' (row := wR) hw
      have hg : decide ((i : Int) < (ws.length : Int)) = true := by simp; omega
      have hww := hwr w hw0 hw1
      have b1 := one_asrE (L := L) (P := P) hn0 hw0 (by omega)
      have b2 := one_asrL (L := L) (P := P) hn0 hw0 (by omega) hL2
      have b3 := one_alv (L := L) (now := now + w) (P := P ++ late L now w)
      have g2 := isFit_mk (one_fit (L := L) (now := now + w) (P := P ++ late L now w) (by omega) (by omega) (by omega) (by omega) (by have := late_len L now w; simp; omega))
      have l1 := late_srt (w := w) hP1 hP2 hL2
      have l2 := late_le (L := L) hP2 hw0
      have l3 := late_len L now w
      cases hd : decide (L < w) with
      | true =>
        have hlt : late L now w = [⟨1, now + L, false⟩, ⟨1, now + w, true⟩] := by unfold late; rw [hd]; rfl
        rw [← h1] at g1 b1 b2 ⊢
        obtain ⟨s2, h2⟩ : ∃ s, s = one L (now + w) (P ++ late L now w) := ⟨_, rfl⟩
        rw [← h2] at b2 b3 g2
        simp -dsimp only [go_sem, hg, hd, ↓q1, ↓q2, hww, hwL, b1, b2, b3, g1, g2, zb]
        refine ⟨⟨by omega, by omega⟩, ⟨by omega, by omega⟩, by omega, ⟨by omega, by omega⟩, ⟨by omega, by omega⟩, by omega, ⟨by omega, by omega⟩, ⟨by omega, by omega⟩, ⟨by omega, by omega⟩, ?_⟩
        rw [hlt] at h2 l1 l2
        refine loop_next (i + 1, now + w, P ++ [⟨1, now + L, false⟩, ⟨1, now + w, true⟩]) 4 ⟨⟨by omega, by simp only; omega, by simp only; omega, by simp; omega⟩, l1, l2⟩ (by simp only; omega) ?_ ?_
        · simp [go_sem]
        · rw [h2]; simp [go_sem, one]
      | false =>
        have hlt : late L now w = [] := by unfold late; rw [hd]; rfl
        rw [← h1] at g1 b1 b2 ⊢
        obtain ⟨s2, h2⟩ : ∃ s, s = one L (now + w) (P ++ late L now w) := ⟨_, rfl⟩
        rw [← h2] at b2 b3 g2
        simp -dsimp only [go_sem, hg, hd, ↓q1, ↓q2, hww, hwL, b1, b2, b3, g1, g2, zb]
        refine ⟨⟨by omega, by omega⟩, ⟨by omega, by omega⟩, ⟨by omega, by omega⟩, ⟨by omega, by omega⟩, ?_⟩
        rw [hlt, List.append_nil] at h2 l1 l2
        refine loop_next (i + 1, now + w, P) 4 ⟨⟨by omega, by simp only; omega, by simp only; omega, by simp only; omega⟩, l1, l2⟩ (by simp only; omega) ?_ ?_
        · simp [go_sem]
        · rw [h2]; simp [go_sem, one]
    · obtain rfl : i = ws.length := by omega
      have hg : decide ((ws.length : Int) < (ws.length : Int)) = false := by simp
      obtain ⟨s2, h2⟩ : ∃ s, s = one L now [] := ⟨_, rfl⟩
      obtain ⟨s3, h3⟩ : ∃ s, s = Ls.mk (now + L - 1) [⟨1, L, now, true⟩] [] := ⟨_, rfl⟩
      obtain ⟨s4, h4⟩ : ∃ s, s = Ls.mk (now + L) [⟨1, L, now, false⟩] [⟨1, now + L, false⟩] := ⟨_, rfl⟩
      obtain ⟨s5, h5⟩ : ∃ s, s = Ls.mk (now + L) [⟨1, L, now, false⟩] [] := ⟨_, rfl⟩
      have m1 : s1.mv now (now + 1) = s1 := by rw [h1, one_mv (by unfold dueB; simp; omega)]; rfl
      have m2 : s2.mv (now + L - 1) (now + L - 1 + 1) = s3 := by rw [h2, h3, one_mv (by unfold dueB; simp)]
      have m3 : s3.mv (now + L) (now + L + 1) = s4 := by
        have hd : dueB (now + L + 1) ⟨1, L, now, true⟩ = true := by unfold dueB; simp; omega
        rw [h3, h4]; simp [Ls.mv, endL, mv1, hd, srt, insR]
      have k1 : Ls.mk now s1.all [] = s2 := by rw [h1, h2]; rfl
      have k2 : Ls.mk (now + L - 1) s3.all [] = s3 := by rw [h3]
      have k3 : Ls.mk (now + L) s4.all [] = s5 := by rw [h4, h5]
      have p1 : srt ltC s1.pend = P := by rw [h1]; exact srt_id swo _ hP1
      have p3 : srt ltC s3.pend = [] := by rw [h3]; rfl
      have p4 : srt ltC s4.pend = [⟨1, now + L, false⟩] := by rw [h4]; rfl
      have c1 : chkB s1 now = false := by rw [h1]; unfold chkB one; simp; omega
      have c2 : chkB s2 (now + L - 1) = false := by rw [h2]; unfold chkB one; simp; omega
      have c3 : chkB s3 (now + L) = false := by rw [h3]; unfold chkB; simp; omega
      have nx : nxtL s1.all (0, false) = (now + L, true) := by
        have : decide (0 < L) = true := by simp; omega
        rw [h1]; simp [one, nxtL, this]
      have v1 : alvB s5 1 = false := by rw [h5]; simp [alvB, findL]
      have w0 : isCh [] := isCh_mk (l := []) (by simp)
      have w1 : isCh (P.map chC) := isCh_mk (by omega)
      have w2 : isCh [chC ⟨1, now + L, false⟩] := isCh_mk (l := [⟨1, now + L, false⟩]) (by simp)
      have w3 : eqL P P = true := by unfold eqL; simp
      have w4 : eqL [C.chg (chC ⟨1, now + L, false⟩)] [C.chg [.vl (.int .i64 1), .vl (.int .i64 (now + L)), .vl (.bool false)]] = true := by unfold eqL; simp
      have x1 : isFit now (s1.all.map lzC) [] s1.all.length 0 := ⟨one L now [], rfl, by rw [h1]; rfl, rfl, by rw [h1]; rfl, rfl, one_fit hn0 (by omega) (by omega) (by omega) (by simp)⟩
      have x2 : isFit (now + L - 1) (s3.all.map lzC) [] s1.all.length 0 := ⟨s3, by rw [h3], rfl, by rw [h3]; rfl, by rw [h1, h3]; rfl, by rw [h3]; rfl, by
        rw [h3]; exact ⟨by simp, by simp, fun x hx => by simp at hx; subst hx; exact ⟨by simp only; omega, by simp only; omega, by simp only; omega, by simp only; omega⟩, by simp only; omega⟩⟩
      have x3 : isFit (now + L) (s4.all.map lzC) [] s1.all.length 0 := ⟨s5, by rw [h5], by rw [h4, h5], by rw [h5]; rfl, by rw [h1, h5]; rfl, by rw [h5]; rfl, by
        rw [h5]; exact ⟨by simp, by simp, fun x hx => by simp at hx; subst hx; exact ⟨by simp only; omega, by simp only; omega, by simp only; omega, by simp only; omega⟩, by simp only; omega⟩⟩
      rw [← h1] at g1 ⊢
      simp -dsimp only [go_sem, hg, hwL, zb, z0, m1, m2, m3, k1, k2, k3, p1, p3, p4, c1, c2, c3, nx, v1, g1, w0, w1, w2, w3, w4, x1, x2, x3, beq_self_eq_true]
      exact ⟨⟨by omega, by omega⟩, ⟨by omega, by omega⟩, .sel [] (by simp) (by simp) rfl (.done hK')⟩
end Go.Proofs.Ytngmjggconefcaa
