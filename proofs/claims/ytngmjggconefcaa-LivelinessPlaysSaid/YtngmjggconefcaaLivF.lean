/- Merging in place, whole. -/
import Derived.Test.YtngmjggconefcaaLivE
namespace Go.Proofs.Ytngmjggconefcaa
open Go.W
theorem one_right {U : List Chg} {y : Chg} (hU : Srt ltC U) {s : Nat} (hs : s ≤ U.length) (h1 : s = 0 ∨ ∃ u, U[s - 1]? = some u ∧ ltC y u = false) (h2 : s = U.length ∨ ∃ u, U[s]? = some u ∧ ltC y u = true) : mrgL ltC U [y] = U.take s ++ y :: U.drop s := by
  have hy : Srt ltC [y] := List.pairwise_singleton _ _
  rw [mrg_cut swo hU hy (s := s) (e := 0) (by
    rcases h1 with h | ⟨u, hu, h⟩
    · exact .inl h
    · exact .inr (.inr ⟨u, y, hu, rfl, h⟩)) (.inr (.inl rfl))]
  have hd : Srt ltC (U.drop s) := List.Pairwise.sublist (List.drop_sublist _ _) hU
  have e2 := mrg_cut swo hd hy (s := 0) (e := 1) (.inl rfl) (by
    rcases h2 with h | ⟨u, hu, h⟩
    · exact .inl (by rw [List.length_drop]; omega)
    · exact .inr (.inr ⟨u, y, by rw [List.getElem?_drop]; exact hu, rfl, h⟩))
  simp only [List.drop_zero] at e2 ⊢
  rw [e2]
  simp [mrg_nil, mrg_nil']
theorem one_left {V : List Chg} {x : Chg} (hV : Srt ltC V) {e : Nat} (he : e ≤ V.length) (h1 : e = 0 ∨ ∃ v, V[e - 1]? = some v ∧ ltC v x = true) (h2 : e = V.length ∨ ∃ v, V[e]? = some v ∧ ltC v x = false) : mrgL ltC [x] V = V.take e ++ x :: V.drop e := by
  have hx : Srt ltC [x] := List.pairwise_singleton _ _
  rw [mrg_cut swo hx hV (s := 0) (e := e) (.inl rfl) (by
    rcases h1 with h | ⟨v, hv, h⟩
    · exact .inr (.inl h)
    · exact .inr (.inr ⟨x, v, rfl, hv, h⟩))]
  have hd : Srt ltC (V.drop e) := List.Pairwise.sublist (List.drop_sublist _ _) hV
  have e2 := mrg_cut swo hx hd (s := 1) (e := 0) (by
    rcases h2 with h | ⟨v, hv, h⟩
    · exact .inr (.inl (by rw [List.length_drop]; omega))
    · exact .inr (.inr ⟨x, v, rfl, by rw [List.getElem?_drop]; exact hv, h⟩)) (.inr (.inl rfl))
  simp only [List.drop_zero] at e2 ⊢
  rw [e2]
  simp [mrg_nil, mrg_nil']
theorem in_swap2 (P A : List Chg) (x : Chg) (B : List Chg) {d : Nat} {y : Chg} (h : A[d]? = some y) : ((inI P A x B d).set (P.length + d) y).set (P.length + (d + 1)) x = inI P A x B (d + 1) := by
  have hd := (List.getElem?_eq_some_iff.1 h).1
  have hdr : A.drop d = y :: A.drop (d + 1) := by
    rw [List.drop_eq_getElem_cons hd]
    rw [List.getElem?_eq_getElem hd] at h
    rw [Option.some.inj h]
  have ht : A.take (d + 1) = A.take d ++ [y] := by rw [List.take_add_one, h]; rfl
  unfold inI
  rw [hdr, ← List.append_assoc, set_mid _ _ _ _ (by simp only [List.length_append, List.length_take]; omega)]
  have e : P ++ A.take d ++ y :: (y :: A.drop (d + 1) ++ B) = (P ++ A.take d ++ [y]) ++ y :: (A.drop (d + 1) ++ B) := by simp
  rw [e, set_mid _ _ _ _ (by simp only [List.length_append, List.length_take, List.length_cons, List.length_nil]; omega), ht]
  simp
theorem in_get2 (P A : List Chg) (x : Chg) (B : List Chg) {d : Nat} {y : Chg} (h : A[d]? = some y) : (inI P A x B d)[P.length + (d + 1)]? = some y := by
  have hd := (List.getElem?_eq_some_iff.1 h).1
  have hdr : A.drop d = y :: A.drop (d + 1) := by
    rw [List.drop_eq_getElem_cons hd]
    rw [List.getElem?_eq_getElem hd] at h
    rw [Option.some.inj h]
  unfold inI
  rw [hdr]
  have e : P ++ (A.take d ++ x :: (y :: A.drop (d + 1) ++ B)) = (P ++ A.take d ++ [x]) ++ y :: (A.drop (d + 1) ++ B) := by simp
  rw [e]
  exact get_mid _ _ _ (by simp only [List.length_append, List.length_take, List.length_cons, List.length_nil]; omega)
/-- Both lists have two elements or more. -/
theorem tail24 {N : Nat} {K : S → Hp → Prop} (A U V D : List Chg) {n a m b : Nat} (hn : n = A.length + U.length + V.length + D.length) (hn1 : n ≤ 1000000) (ha : a = A.length) (hm : m = a + U.length) (hb : b = m + V.length) (hU : Srt ltC U) (hV : Srt ltC V)
    (h2 : 2 ≤ U.length) (h3 : 2 ≤ V.length) (hN : U.length + V.length ≤ N + 1) (hK : K (.tu []) (chH (A ++ mrgL ltC U V ++ D))) :
    vc (gMrg N) 1 pc43_24.ungh (puts [(0, .va (.c1 (.sl 0 n))), (1, iS .i64 a), (2, iS .i64 m), (3, iS .i64 b), (4, cmpV)]) (chH (A ++ U ++ V ++ D)) (retK 1 rs43 K) := by
  obtain ⟨L, hL⟩ : ∃ L, L = A ++ U ++ V ++ D := ⟨_, rfl⟩
  have hh := half (x := a) (y := b) (by omega)
  obtain ⟨mid, hmid⟩ : ∃ mid, mid = (a + b) / 2 := ⟨_, rfl⟩
  rw [← hmid] at hh
  have r1 := tail32 (N := N) (K := K) A U V D (n := n) (a := a) (m := m) (b := b) (mid := mid) (nn := mid + m) (s0 := mid + m - b) (r0 := mid) hn hn1 ha hm hb hU hV hmid rfl h2 h3
  have r2 := tail32 (N := N) (K := K) A U V D (n := n) (a := a) (m := m) (b := b) (mid := mid) (nn := mid + m) (s0 := a) (r0 := m) hn hn1 ha hm hb hU hV hmid rfl h2 h3
  rw [← hL] at r1 r2 ⊢
  simp -dsimp only [go_sem, pc43_24, hh]
  refine ⟨by omega, by decide, by omega, fun h => ⟨by omega, vc_tail 1 (r1 ?_ ?_ ?_ ?_ ?_ hN ?_ ?_ hK) ?_ ?_⟩, fun h => vc_tail 1 (r2 ?_ ?_ ?_ ?_ ?_ hN ?_ ?_ hK) ?_ ?_⟩
  all_goals simp at h
  all_goals first
    | omega
    | (simp [go_sem]; done)
    | (simp [go_sem]; omega)
/-- The first list has two elements or more. -/
theorem tail12 {N : Nat} {K : S → Hp → Prop} (A U V D : List Chg) {n a m b : Nat} (hn : n = A.length + U.length + V.length + D.length) (hn1 : n ≤ 1000000) (ha : a = A.length) (hm : m = a + U.length) (hb : b = m + V.length) (hU : Srt ltC U) (hV : Srt ltC V)
    (h2 : 2 ≤ U.length) (h3 : 1 ≤ V.length) (hN : U.length + V.length ≤ N + 1) (hK : K (.tu []) (chH (A ++ mrgL ltC U V ++ D))) :
    vc (gMrg N) 1 pc43_12.ungh (puts [(0, .va (.c1 (.sl 0 n))), (1, iS .i64 a), (2, iS .i64 m), (3, iS .i64 b), (4, cmpV)]) (chH (A ++ U ++ V ++ D)) (retK 1 rs43 K) := by
  obtain ⟨L, hL⟩ : ∃ L, L = A ++ U ++ V ++ D := ⟨_, rfl⟩
  have hLl : L.length = n := by rw [hL]; simp only [List.length_append]; omega
  rcases Nat.lt_or_ge 1 V.length with hv1 | hv1
  · have hg : (((b : Int) - (m : Int)) == 1) = false := by simp; omega
    have rest := tail24 (N := N) (K := K) A U V D hn hn1 ha hm hb hU hV h2 hv1 hN hK
    rw [← hL] at rest ⊢
    simp -dsimp only [go_sem, pc43_12, hg]
    refine ⟨by omega, vc_tail 1 rest ?_ ?_⟩
    · simp [go_sem]
    · simp [go_sem]
  · have hg : (((b : Int) - (m : Int)) == 1) = true := by simp; omega
    obtain ⟨y, rfl⟩ : ∃ y, V = [y] := by
      match V, h3, hv1 with
      | [y], _, _ => exact ⟨y, rfl⟩
      | _ :: _ :: _, _, h => simp at h
    have hbm : b = m + 1 := by simpa using hb
    have hin : L = inI A U y D U.length := by rw [hL]; unfold inI; simp
    rw [← hL]
    simp -dsimp only [go_sem, pc43_12, hg]
    refine ⟨by omega, vc_loop (α := Nat × Nat) (fun z => [(0, .va (.c1 (.sl 0 n))), (1, iS .i64 a), (2, iS .i64 m), (3, iS .i64 b), (4, cmpV), (14, iS .i64 z.1), (15, iS .i64 z.2)]) (fun _ => chH L)
      (fun z => a ≤ z.1 ∧ z.1 ≤ z.2 ∧ z.2 ≤ m ∧ (z.1 = a ∨ ∃ u, U[z.1 - a - 1]? = some u ∧ ltC y u = false) ∧ (z.2 = m ∨ ∃ u, U[z.2 - a]? = some u ∧ ltC y u = true)) (fun z => z.2 - z.1) (a, m) 1 ⟨by simp, by simp only; omega, by simp, .inl rfl, .inl rfl⟩ ?_ rfl ?_⟩
    · simp [go_sem]
    rintro ⟨i, j⟩ ⟨w1, w2, w3, w4, w5⟩
    simp only at w1 w2 w3 w4 w5
    rcases Nat.lt_or_ge i j with hlt | hge
    · have hg : decide ((i : Int) < (j : Int)) = true := by simp; omega
      obtain ⟨c, hc⟩ : ∃ c, c = (i + j) / 2 := ⟨_, rfl⟩
      have hh := half (x := i) (y := j) (by omega)
      rw [← hc] at hh
      obtain ⟨u, hu⟩ : ∃ u, U[c - a]? = some u := ⟨_, List.getElem?_eq_getElem (by omega)⟩
      have gu : L[c]? = some u := by rw [hL]; exact at_u hu (by omega)
      have gy : L[m]? = some y := by rw [hL]; exact at_v (i := 0) rfl (by omega)
      have q1 := row_at (i := ((c : Nat) : Int)) (by omega) gu
      have q2 := row_at (i := ((m : Nat) : Int)) (by omega) gy
      have q3 := row_at' gu
      have q4 := row_at' gy
      have hcv : ∀ a b : Chg, ccFn.val [.va (.gs (chC a)), .va (.gs (chC b))] = iA .i64 (cmpC a b) := fun _ _ => rfl
      have hlt' : decide (cmpC y u < 0) = ltC y u := rfl
      simp -dsimp only [go_sem, hg, hh, ↓q1, ↓q2, ↓q3, ↓q4, hcv, hlt']
      refine ⟨by omega, by decide, ⟨⟨by omega, by omega⟩, hLl⟩, ⟨hLl, by omega⟩, ⟨⟨by omega, by omega⟩, hLl⟩, ⟨hLl, by omega⟩, ccPre_mk y u, fun h => ?_, fun h => ?_⟩
      · refine ⟨by omega, loop_next (c + 1, j) 1 ⟨by simp only; omega, by simp only; omega, w3, .inr ⟨u, ?_, h⟩, w5⟩ (by simp only; omega) ?_ ?_⟩
        · rw [show c + 1 - a - 1 = c - a by omega]; exact hu
        · simp [go_sem]
        · simp [go_sem]
      · have h' : ltC y u = true := by simpa using h
        refine loop_next (i, c) 1 ⟨w1, by simp only; omega, by simp only; omega, w4, .inr ⟨u, hu, h'⟩⟩ (by simp only; omega) ?_ ?_
        · simp [go_sem]
        · simp [go_sem]
    · have hg : decide ((i : Int) < (j : Int)) = false := by simp; omega
      obtain rfl : i = j := by omega
      simp -dsimp only [go_sem, hg]
      have hfin : A ++ mrgL ltC U [y] ++ D = inI A U y D (i - a) := by
        rw [one_right hU (s := i - a) (by omega) (by
          rcases w4 with h | h
          · exact .inl (by omega)
          · exact .inr h) (by
          rcases w5 with h | h
          · exact .inl (by omega)
          · exact .inr h)]
        unfold inI; simp
      refine vc_loop (α := Nat) (fun d => [(0, .va (.c1 (.sl 0 n))), (14, iS .i64 i), (17, iS .i64 (a + d : Nat))]) (fun d => chH (inI A U y D d)) (fun d => i - a ≤ d ∧ d ≤ U.length) (fun d => d) U.length 1 ⟨by omega, Nat.le_refl _⟩ ?_ ?_ ?_
      · simp [go_sem]; omega
      · rw [hin]; rfl
      rintro d ⟨hd1, hd2⟩
      rcases Nat.lt_or_ge (i - a) d with hlt2 | hge2
      · obtain ⟨d, rfl⟩ : ∃ d', d = d' + 1 := ⟨d - 1, by omega⟩
        obtain ⟨u, hu⟩ : ∃ u, U[d]? = some u := ⟨_, List.getElem?_eq_getElem (by omega)⟩
        obtain ⟨M, hM⟩ : ∃ M, M = inI A U y D (d + 1) := ⟨_, rfl⟩
        have hMl : M.length = n := by rw [hM, inI_len]; simp at hn; omega
        have gy : M[a + (d + 1)]? = some y := by rw [hM, ha]; exact in_get _ _ _ _ hd2
        have gu : M[a + d]? = some u := by rw [hM, ha]; exact in_get1 _ _ _ _ hd2 hu
        have g3 : (M.set (a + (d + 1)) u)[a + d]? = some u := by rw [List.getElem?_set, if_neg (by omega)]; exact gu
        have i1 : (((a + (d + 1) : Nat) : Int) - 1).toNat = a + d := by omega
        have q1 := row_at (i := ((a + (d + 1) : Nat) : Int)) (by omega) gy
        have q2 := row_at i1 gu
        have q3 := row_at' gy
        have q4 := row_at' gu
        have q5 := row_at i1 g3
        have q6 := row_at' g3
        have hg2 : decide ((i : Int) < ((a + (d + 1) : Nat) : Int)) = true := by simp; omega
        have hs := in_swap A U y D hd2 hu
        rw [← ha, ← hM] at hs
        rw [← hM]
        simp -dsimp only [go_sem, hg2, ↓q1, ↓q2, ↓q3, ↓q4, ↓q5, ↓q6, row_set, i1]
        and_intros
        all_goals first
          | omega
          | (simp; omega)
          | skip
        refine loop_next d 1 ⟨by omega, by omega⟩ (by omega) ?_ ?_
        · simp [go_sem]; omega
        · rw [← hs]; rfl
      · obtain rfl : d = i - a := by omega
        have hg2 : decide ((i : Int) < ((a + (i - a) : Nat) : Int)) = false := by simp; omega
        simp -dsimp only [go_sem, hg2]
        rw [← hfin]
        exact .done hK
theorem enMrg : enters Try.prog 43 = true := by kernel_rfl
theorem mMrgN : ∀ N, Meets Try.prog 43 (mrgSp N)
  | 0 => ⟨enMrg, fun av vs E ro w K _ _ _ h => by obtain ⟨A, U, V, D, _, _, _, _, _, h0, _, hN, _⟩ := mrgSp_open h; omega⟩
  | N + 1 => by
    refine meets_fn Try.func43 ok43 5 (by rw [Try.ntmps43]; decide) (meetsAll_f mCmp (meetsAll_s mRot2 (meetsAll_s (mMrgN N) (meetsAll_nil _)))) (fun av H K h => by obtain ⟨_, _, _, _, rfl, _⟩ := mrgSp_open h; rfl) ?_
    intro av H K h
    obtain ⟨A, U, V, D, rfl, rfl, hn1, hU, hV, hu, hv, hN, hK⟩ := mrgSp_open h
    obtain ⟨n, hn⟩ : ∃ n, n = A.length + U.length + V.length + D.length := ⟨_, rfl⟩
    obtain ⟨a, ha⟩ : ∃ a, a = A.length := ⟨_, rfl⟩
    obtain ⟨m, hm⟩ : ∃ m, m = A.length + U.length := ⟨_, rfl⟩
    obtain ⟨b, hb⟩ : ∃ b, b = A.length + U.length + V.length := ⟨_, rfl⟩
    obtain ⟨L, hL⟩ : ∃ L, L = A ++ U ++ V ++ D := ⟨_, rfl⟩
    have hLl : L.length = n := by rw [hL]; simp only [List.length_append]; omega
    rw [← hn] at hn1
    rcases Nat.lt_or_ge 1 U.length with hu1 | hu1
    · have hg : (((m : Int) - (a : Int)) == 1) = false := by simp; omega
      have rest := tail12 (N := N) (K := K) A U V D (n := n) (a := a) (m := m) (b := b) hn hn1 ha (by omega) (by omega) hU hV hu1 hv hN hK
      rw [← hL] at rest
      rw [← hn, ← hb, ← hm, ← ha, ← hL]
      simp -dsimp only [go_sem, pc43, rs43, hg]
      refine ⟨by omega, vc_tail 1 rest ?_ ?_⟩
      · simp [go_sem]
      · simp [go_sem]
    · have hg : (((m : Int) - (a : Int)) == 1) = true := by simp; omega
      obtain ⟨x, rfl⟩ : ∃ x, U = [x] := by
        match U, hu, hu1 with
        | [x], _, _ => exact ⟨x, rfl⟩
        | _ :: _ :: _, _, h => simp at h
      have hma : m = a + 1 := by simp at hm; omega
      have hin : L = inI A V x D 0 := by rw [hL]; unfold inI; simp
      rw [← hn, ← hb, ← hm, ← ha, ← hL]
      simp -dsimp only [go_sem, pc43, rs43, hg]
      refine ⟨by omega, vc_loop (α := Nat × Nat) (fun z => [(0, .va (.c1 (.sl 0 n))), (1, iS .i64 a), (2, iS .i64 m), (3, iS .i64 b), (4, cmpV), (10, iS .i64 z.1), (11, iS .i64 z.2)]) (fun _ => chH L)
        (fun z => m ≤ z.1 ∧ z.1 ≤ z.2 ∧ z.2 ≤ b ∧ (z.1 = m ∨ ∃ v, V[z.1 - m - 1]? = some v ∧ ltC v x = true) ∧ (z.2 = b ∨ ∃ v, V[z.2 - m]? = some v ∧ ltC v x = false)) (fun z => z.2 - z.1) (m, b) 1 ⟨by simp, by simp only; omega, by simp, .inl rfl, .inl rfl⟩ ?_ rfl ?_⟩
      · simp [go_sem]
      rintro ⟨i, j⟩ ⟨w1, w2, w3, w4, w5⟩
      simp only at w1 w2 w3 w4 w5
      rcases Nat.lt_or_ge i j with hlt | hge
      · have hg : decide ((i : Int) < (j : Int)) = true := by simp; omega
        obtain ⟨c, hc⟩ : ∃ c, c = (i + j) / 2 := ⟨_, rfl⟩
        have hh := half (x := i) (y := j) (by omega)
        rw [← hc] at hh
        obtain ⟨v, hv⟩ : ∃ v, V[c - m]? = some v := ⟨_, List.getElem?_eq_getElem (by omega)⟩
        have gv : L[c]? = some v := by rw [hL]; exact at_v hv (by simp; omega)
        have gx : L[a]? = some x := by rw [hL]; exact at_u (i := 0) rfl (by omega)
        have q1 := row_at (i := ((c : Nat) : Int)) (by omega) gv
        have q2 := row_at (i := ((a : Nat) : Int)) (by omega) gx
        have q3 := row_at' gv
        have q4 := row_at' gx
        have hcv : ∀ a b : Chg, ccFn.val [.va (.gs (chC a)), .va (.gs (chC b))] = iA .i64 (cmpC a b) := fun _ _ => rfl
        have hlt' : decide (cmpC v x < 0) = ltC v x := rfl
        simp -dsimp only [go_sem, hg, hh, ↓q1, ↓q2, ↓q3, ↓q4, hcv, hlt']
        refine ⟨by omega, by decide, ⟨⟨by omega, by omega⟩, hLl⟩, ⟨hLl, by omega⟩, ⟨⟨by omega, by omega⟩, hLl⟩, ⟨hLl, by omega⟩, ccPre_mk v x, fun h => ?_, fun h => ?_⟩
        · refine ⟨by omega, loop_next (c + 1, j) 1 ⟨by simp only; omega, by simp only; omega, w3, .inr ⟨v, ?_, h⟩, w5⟩ (by simp only; omega) ?_ ?_⟩
          · rw [show c + 1 - m - 1 = c - m by omega]; exact hv
          · simp [go_sem]
          · simp [go_sem]
        · refine loop_next (i, c) 1 ⟨w1, by simp only; omega, by simp only; omega, w4, .inr ⟨v, hv, h⟩⟩ (by simp only; omega) ?_ ?_
          · simp [go_sem]
          · simp [go_sem]
      · have hg : decide ((i : Int) < (j : Int)) = false := by simp; omega
        obtain rfl : i = j := by omega
        simp -dsimp only [go_sem, hg]
        have hfin : A ++ mrgL ltC [x] V ++ D = inI A V x D (i - m) := by
          rw [one_left hV (e := i - m) (by omega) (by
            rcases w4 with h | h
            · exact .inl (by omega)
            · exact .inr h) (by
            rcases w5 with h | h
            · exact .inl (by omega)
            · exact .inr h)]
          unfold inI; simp
        refine vc_loop (α := Nat) (fun d => [(0, .va (.c1 (.sl 0 n))), (10, iS .i64 i), (13, iS .i64 (a + d : Nat))]) (fun d => chH (inI A V x D d)) (fun d => d ≤ i - m) (fun d => i - m - d) 0 1 (by omega) ?_ ?_ ?_
        · simp [go_sem]
        · rw [hin]; rfl
        intro d hd
        rcases Nat.lt_or_ge d (i - m) with hlt2 | hge2
        · obtain ⟨v, hv⟩ : ∃ v, V[d]? = some v := ⟨_, List.getElem?_eq_getElem (by omega)⟩
          obtain ⟨M, hM⟩ : ∃ M, M = inI A V x D d := ⟨_, rfl⟩
          have hMl : M.length = n := by rw [hM, inI_len]; simp at hn; omega
          have gx : M[a + d]? = some x := by rw [hM, ha]; exact in_get _ _ _ _ (by omega)
          have gv : M[a + (d + 1)]? = some v := by rw [hM, ha]; exact in_get2 _ _ _ _ hv
          have g3 : (M.set (a + d) v)[a + (d + 1)]? = some v := by rw [List.getElem?_set, if_neg (by omega)]; exact gv
          have i1 : (((a + d : Nat) : Int) + 1).toNat = a + (d + 1) := by omega
          have q1 := row_at (i := ((a + d : Nat) : Int)) (by omega) gx
          have q2 := row_at i1 gv
          have q3 := row_at' gx
          have q4 := row_at' gv
          have q5 := row_at i1 g3
          have q6 := row_at' g3
          have hg2 : decide (((a + d : Nat) : Int) < (i : Int) - 1) = true := by simp; omega
          have hs := in_swap2 A V x D hv
          rw [← ha, ← hM] at hs
          rw [← hM]
          simp -dsimp only [go_sem, hg2, ↓q1, ↓q2, ↓q3, ↓q4, ↓q5, ↓q6, row_set, i1]
          and_intros
          all_goals first
            | omega
            | (simp; omega)
            | skip
          refine loop_next (d + 1) 1 (by omega) (by omega) ?_ ?_
          · simp [go_sem]; omega
          · rw [← hs]; rfl
        · obtain rfl : d = i - m := by omega
          have hg2 : decide (((a + (i - m) : Nat) : Int) < (i : Int) - 1) = false := by simp; omega
          simp -dsimp only [go_sem, hg2]
          rw [← hfin]
          exact ⟨by omega, .done hK⟩
def mrgSp2 : W.Spec := fun av H K =>
  match av, H with
  | [.va (.c1 (.sl 0 n)), .va (.c1 (.vl (.int .i64 a))), .va (.c1 (.vl (.int .i64 m))), .va (.c1 (.vl (.int .i64 b))), .va (.c1 (.fn f []))], [.row rs 44 3] =>
    ((∃ L : List Chg, rs = L.map chC ∧ L.length = n ∧ Srt ltC ((L.take m.toNat).drop a.toNat) ∧ Srt ltC ((L.take b.toNat).drop m.toNat)) ∧ n ≤ 1000000 ∧ f = 34 ∧ 0 ≤ a ∧ a < m ∧ m < b ∧ b ≤ n) ∧
      K (.tu []) [.row ((mrgR (rs.map C.chg) a.toNat m.toNat b.toNat).map chC) 44 3]
  | _, _ => False
theorem mMrg : Meets Try.prog 43 mrgSp2 := by
  refine Meets.imp (mMrgN 1000000) fun av H K h => ?_
  unfold mrgSp2 at h
  split at h
  · obtain ⟨⟨h0, h1, h2, h3, h4, h5, h6⟩, hK⟩ := h
    exact ⟨⟨h0, h1, h2, h3, h4, h5, h6, by omega⟩, hK⟩
  · exact h.elim
attribute [go_sem ↓] mrgSp2
end Go.Proofs.Ytngmjggconefcaa
