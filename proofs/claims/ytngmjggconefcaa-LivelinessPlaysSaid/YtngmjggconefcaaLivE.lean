/- Merging in place. -/
import Derived.Test.YtngmjggconefcaaLivD
namespace Go.Proofs.Ytngmjggconefcaa
open Go.W
def mrgR (L : List Chg) (a m b : Nat) : List Chg := L.take a ++ mrgL ltC ((L.take m).drop a) ((L.take b).drop m) ++ L.drop b
def mrgSp (N : Nat) : W.Spec := fun av H K =>
  match av, H with
  | [.va (.c1 (.sl 0 n)), .va (.c1 (.vl (.int .i64 a))), .va (.c1 (.vl (.int .i64 m))), .va (.c1 (.vl (.int .i64 b))), .va (.c1 (.fn f []))], [.row rs 44 3] =>
    ((∃ L : List Chg, rs = L.map chC ∧ L.length = n ∧ Srt ltC ((L.take m.toNat).drop a.toNat) ∧ Srt ltC ((L.take b.toNat).drop m.toNat)) ∧ n ≤ 1000000 ∧ f = 34 ∧ 0 ≤ a ∧ a < m ∧ m < b ∧ b ≤ n ∧ b - a ≤ N) ∧
      K (.tu []) [.row ((mrgR (rs.map C.chg) a.toNat m.toNat b.toNat).map chC) 44 3]
  | _, _ => False
attribute [go_sem ↓] mrgSp
theorem parts4 (A U V D : List Chg) : (A ++ U ++ V ++ D).take A.length = A ∧ (A ++ U ++ V ++ D).drop (A.length + U.length + V.length) = D ∧ ((A ++ U ++ V ++ D).take (A.length + U.length)).drop A.length = U ∧ ((A ++ U ++ V ++ D).take (A.length + U.length + V.length)).drop (A.length + U.length) = V := by
  have e1 : A ++ U ++ V ++ D = A ++ (U ++ (V ++ D)) := by simp
  have e2 : A ++ U ++ V ++ D = (A ++ U) ++ (V ++ D) := by simp
  have t2 : (A ++ U ++ V ++ D).take (A.length + U.length) = A ++ U := by rw [e2]; exact List.take_left' (by simp)
  have t3 : (A ++ U ++ V ++ D).take (A.length + U.length + V.length) = A ++ U ++ V := List.take_left' (by simp; omega)
  refine ⟨by rw [e1]; exact List.take_left' rfl, List.drop_left' (by simp; omega), ?_, ?_⟩
  · rw [t2]; exact List.drop_left' rfl
  · rw [t3]; exact List.drop_left' (by simp)
theorem mrgR_at (A U V D : List Chg) {a m b : Nat} (ha : a = A.length) (hm : m = A.length + U.length) (hb : b = A.length + U.length + V.length) : mrgR (A ++ U ++ V ++ D) a m b = A ++ mrgL ltC U V ++ D := by
  subst ha hm hb
  obtain ⟨h1, h2, h3, h4⟩ := parts4 A U V D
  unfold mrgR
  rw [h1, h2, h3, h4]
theorem mrgSp_open {N : Nat} {av : List S} {H : Hp} {K : S → Hp → Prop} (h : mrgSp N av H K) : ∃ A U V D : List Chg, av = [.va (.c1 (.sl 0 (A.length + U.length + V.length + D.length))), iS .i64 A.length, iS .i64 (A.length + U.length : Nat), iS .i64 (A.length + U.length + V.length : Nat), cmpV] ∧ H = chH (A ++ U ++ V ++ D) ∧
    A.length + U.length + V.length + D.length ≤ 1000000 ∧ Srt ltC U ∧ Srt ltC V ∧ 0 < U.length ∧ 0 < V.length ∧ U.length + V.length ≤ N ∧ K (.tu []) (chH (A ++ mrgL ltC U V ++ D)) := by
  unfold mrgSp at h
  split at h
  · rename_i n a m b f rs
    obtain ⟨⟨⟨L, rfl, rfl, s1, s2⟩, h1, rfl, h2, h3, h4, h5, h6⟩, hK⟩ := h
    rw [chg_map] at hK
    have e := cut4 L (a := a.toNat) (m := m.toNat) (b := b.toNat) (by omega) (by omega)
    have la : (L.take a.toNat).length = a.toNat := by rw [List.length_take]; omega
    have lu : ((L.take m.toNat).drop a.toNat).length = m.toNat - a.toNat := by rw [List.length_drop, List.length_take]; omega
    have lv : ((L.take b.toNat).drop m.toNat).length = b.toNat - m.toNat := by rw [List.length_drop, List.length_take]; omega
    have ld : (L.drop b.toNat).length = L.length - b.toNat := by rw [List.length_drop]
    refine ⟨L.take a.toNat, (L.take m.toNat).drop a.toNat, (L.take b.toNat).drop m.toNat, L.drop b.toNat, ?_, ?_, by omega, s1, s2, by omega, by omega, by omega, hK⟩
    · rw [la, lu, lv, ld, show ((a.toNat : Nat) : Int) = a by omega, show ((a.toNat + (m.toNat - a.toNat) : Nat) : Int) = m by omega, show ((a.toNat + (m.toNat - a.toNat) + (b.toNat - m.toNat) : Nat) : Int) = b by omega,
        show a.toNat + (m.toNat - a.toNat) + (b.toNat - m.toNat) + (L.length - b.toNat) = L.length by omega]
    · rw [e]
  · exact h.elim
abbrev gMrg (N : Nat) : W.Env := [(34, Entry.f ccFn), (44, Entry.s rotSp2), (43, Entry.s (mrgSp N))]
/-- The upper half. -/
theorem tail43 {N : Nat} {K : S → Hp → Prop} (A U V D : List Chg) {n b mid e : Nat} (hn : n = A.length + U.length + V.length + D.length) (hn1 : n ≤ 1000000) (hmid : mid = A.length) (he : e = A.length + U.length) (hb : b = A.length + U.length + V.length) (hU : Srt ltC U) (hV : Srt ltC V)
    (hN : U.length + V.length ≤ N) (hK : K (.tu []) (chH (A ++ mrgL ltC U V ++ D))) :
    vc (gMrg N) 1 pc43_43.ungh (puts [(0, .va (.c1 (.sl 0 n))), (3, iS .i64 b), (4, cmpV), (18, iS .i64 mid), (24, iS .i64 e)]) (chH (A ++ U ++ V ++ D)) (retK 1 rs43 K) := by
  obtain ⟨L, hL⟩ : ∃ L, L = A ++ U ++ V ++ D := ⟨_, rfl⟩
  have hLl : L.length = n := by rw [hL]; simp only [List.length_append]; omega
  have hm := mrgR_at A U V D hmid he hb
  obtain ⟨_, _, p3, p4⟩ := parts4 A U V D
  rw [← hL] at hm p3 p4 ⊢
  rw [← hb] at p4
  rw [← he] at p3 p4
  rw [← hmid] at p3
  simp -dsimp only [go_sem, pc43_43, rs43]
  refine ⟨fun h => ⟨⟨⟨L, rfl, hLl, by rw [p3]; exact hU, by rw [p4]; exact hV⟩, hn1, by omega, by simp at h; omega, by simp at h; omega, by omega, by omega⟩, .done (by rw [hm]; exact hK)⟩, fun h => .done ?_⟩
  have : mrgL ltC U V = U ++ V := by
    rcases Nat.eq_zero_or_pos U.length with h0 | h0
    · rw [List.eq_nil_of_length_eq_zero h0, mrg_nil]; rfl
    · rcases Nat.eq_zero_or_pos V.length with h1 | h1
      · rw [List.eq_nil_of_length_eq_zero h1, mrg_nil', List.append_nil]
      · simp at h; omega
  rw [this] at hK
  rw [hL]
  simpa using hK
theorem rotL_at (A U V D : List Chg) {a m b : Nat} (ha : a = A.length) (hm : m = A.length + U.length) (hb : b = A.length + U.length + V.length) : rotL (A ++ U ++ V ++ D) a m b = A ++ V ++ U ++ D := by
  subst ha hm hb
  obtain ⟨h1, h2, h3, h4⟩ := parts4 A U V D
  unfold rotL
  rw [h1, h2, h3, h4]
/-- The lower half. -/
theorem tail41 {N : Nat} {K : S → Hp → Prop} (A U1 V1 U2 V2 D : List Chg) {n a s mid e b : Nat} (hn : n = A.length + U1.length + V1.length + U2.length + V2.length + D.length) (hn1 : n ≤ 1000000) (ha : a = A.length) (hs : s = A.length + U1.length) (hmid : mid = A.length + U1.length + V1.length)
    (he : e = mid + U2.length) (hb : b = e + V2.length) (hU1 : Srt ltC U1) (hV1 : Srt ltC V1) (hU2 : Srt ltC U2) (hV2 : Srt ltC V2)
    (hN1 : U1.length + V1.length ≤ N) (hN2 : U2.length + V2.length ≤ N) (hK : K (.tu []) (chH (A ++ (mrgL ltC U1 V1 ++ mrgL ltC U2 V2) ++ D))) :
    vc (gMrg N) 1 pc43_41.ungh (puts [(0, .va (.c1 (.sl 0 n))), (1, iS .i64 a), (3, iS .i64 b), (4, cmpV), (18, iS .i64 mid), (20, iS .i64 s), (24, iS .i64 e)]) (chH (A ++ U1 ++ V1 ++ (U2 ++ V2 ++ D))) (retK 1 rs43 K) := by
  obtain ⟨L, hL⟩ : ∃ L, L = A ++ U1 ++ V1 ++ (U2 ++ V2 ++ D) := ⟨_, rfl⟩
  have hLl : L.length = n := by rw [hL]; simp only [List.length_append]; omega
  have hm := mrgR_at A U1 V1 (U2 ++ V2 ++ D) ha hs hmid
  obtain ⟨_, _, p3, p4⟩ := parts4 A U1 V1 (U2 ++ V2 ++ D)
  rw [← hL] at hm p3 p4 ⊢
  rw [← hmid] at p4
  rw [← hs] at p3 p4
  rw [← ha] at p3
  have rest := tail43 (N := N) (K := K) (A ++ mrgL ltC U1 V1) U2 V2 D (n := n) (b := b) (mid := mid) (e := e) (by rw [List.length_append, mrg_len]; omega) hn1 (by rw [List.length_append, mrg_len]; omega) (by rw [List.length_append, mrg_len]; omega) (by rw [List.length_append, mrg_len]; omega) hU2 hV2 hN2 (by simpa using hK)
  simp -dsimp only [go_sem, pc43_41]
  refine ⟨fun h => ⟨⟨⟨L, rfl, hLl, by rw [p3]; exact hU1, by rw [p4]; exact hV1⟩, hn1, by omega, by simp at h; omega, by simp at h; omega, by omega, by omega⟩, vc_tail 1 rest ?_ ?_⟩, fun h => vc_tail 1 rest ?_ ?_⟩
  · simp [go_sem]
  · rw [hm]; simp [go_sem]
  · simp [go_sem]
  · have : mrgL ltC U1 V1 = U1 ++ V1 := by
      rcases Nat.eq_zero_or_pos U1.length with h0 | h0
      · rw [List.eq_nil_of_length_eq_zero h0, mrg_nil]; rfl
      · rcases Nat.eq_zero_or_pos V1.length with h1 | h1
        · rw [List.eq_nil_of_length_eq_zero h1, mrg_nil', List.append_nil]
        · simp at h; omega
    rw [hL, this]; simp [go_sem]
/-- Where the search has ended. -/
theorem tail38 {N : Nat} {K : S → Hp → Prop} (A U V D : List Chg) {n a m b mid nn s : Nat} (hn : n = A.length + U.length + V.length + D.length) (hn1 : n ≤ 1000000) (ha : a = A.length) (hm : m = a + U.length) (hb : b = m + V.length) (hU : Srt ltC U) (hV : Srt ltC V)
    (hmid : mid = (a + b) / 2) (hnn : nn = mid + m) (h2 : 2 ≤ U.length) (h3 : 2 ≤ V.length) (hs1 : a ≤ s) (hs2 : s ≤ m) (hs3 : s ≤ mid) (hs4 : nn - s ≤ b) (hN : U.length + V.length ≤ N + 1)
    (c1 : s = a ∨ nn - s = b ∨ ∃ u v, U[s - a - 1]? = some u ∧ V[nn - s - m]? = some v ∧ ltC v u = false) (c2 : s = m ∨ s = mid ∨ ∃ u v, U[s - a]? = some u ∧ V[nn - s - m - 1]? = some v ∧ ltC v u = true)
    (hK : K (.tu []) (chH (A ++ mrgL ltC U V ++ D))) :
    vc (gMrg N) 1 pc43_38.ungh (puts [(0, .va (.c1 (.sl 0 n))), (1, iS .i64 a), (2, iS .i64 m), (3, iS .i64 b), (4, cmpV), (18, iS .i64 mid), (19, iS .i64 nn), (20, iS .i64 s)]) (chH (A ++ U ++ V ++ D)) (retK 1 rs43 K) := by
  obtain ⟨e, he⟩ : ∃ e, e = nn - s := ⟨_, rfl⟩
  rw [← he] at hs4 c1 c2
  have hcut := mrg_cut swo hU hV (s := s - a) (e := e - m) (by
    rcases c1 with h | h | ⟨u, v, hu, hv, huv⟩
    · exact .inl (by omega)
    · exact .inr (.inl (by omega))
    · exact .inr (.inr ⟨u, v, hu, hv, huv⟩)) (by
    rcases c2 with h | h | ⟨u, v, hu, hv, huv⟩
    · exact .inl (by omega)
    · exact .inr (.inl (by omega))
    · exact .inr (.inr ⟨u, v, hu, hv, huv⟩))
  obtain ⟨U1, hU1⟩ : ∃ l, l = U.take (s - a) := ⟨_, rfl⟩
  obtain ⟨U2, hU2⟩ : ∃ l, l = U.drop (s - a) := ⟨_, rfl⟩
  obtain ⟨V1, hV1⟩ : ∃ l, l = V.take (e - m) := ⟨_, rfl⟩
  obtain ⟨V2, hV2⟩ : ∃ l, l = V.drop (e - m) := ⟨_, rfl⟩
  have eU : U = U1 ++ U2 := by rw [hU1, hU2, List.take_append_drop]
  have eV : V = V1 ++ V2 := by rw [hV1, hV2, List.take_append_drop]
  have lU1 : U1.length = s - a := by rw [hU1, List.length_take]; omega
  have lU2 : U2.length = m - s := by rw [hU2, List.length_drop]; omega
  have lV1 : V1.length = e - m := by rw [hV1, List.length_take]; omega
  have lV2 : V2.length = b - e := by rw [hV2, List.length_drop]; omega
  have sU1 : Srt ltC U1 := by rw [hU1]; exact List.Pairwise.sublist (List.take_sublist _ _) hU
  have sU2 : Srt ltC U2 := by rw [hU2]; exact List.Pairwise.sublist (List.drop_sublist _ _) hU
  have sV1 : Srt ltC V1 := by rw [hV1]; exact List.Pairwise.sublist (List.take_sublist _ _) hV
  have sV2 : Srt ltC V2 := by rw [hV2]; exact List.Pairwise.sublist (List.drop_sublist _ _) hV
  rw [← hU1, ← hU2, ← hV1, ← hV2] at hcut
  rw [hcut] at hK
  have rest := tail41 (N := N) (K := K) A U1 V1 U2 V2 D (n := n) (a := a) (s := s) (mid := mid) (e := e) (b := b) (by omega) hn1 ha (by omega) (by omega) (by omega) (by omega) sU1 sV1 sU2 sV2 (by omega) (by omega) hK
  obtain ⟨L, hL⟩ : ∃ L, L = A ++ U ++ V ++ D := ⟨_, rfl⟩
  have hLl : L.length = n := by rw [hL]; simp only [List.length_append]; omega
  have hr : rotL L s m e = A ++ U1 ++ V1 ++ (U2 ++ V2 ++ D) := by
    have := rotL_at (A ++ U1) U2 V1 (V2 ++ D) (a := s) (m := m) (b := e) (by simp only [List.length_append]; omega) (by simp only [List.length_append]; omega) (by simp only [List.length_append]; omega)
    have e2 : L = A ++ U1 ++ U2 ++ V1 ++ (V2 ++ D) := by rw [hL, eU, eV]; simp
    rw [e2, this]; simp
  have hne : (nn : Int) - (s : Int) = (e : Int) := by omega
  rw [← hL]
  simp -dsimp only [go_sem, pc43_38, hne]
  refine ⟨by omega, fun h => ⟨⟨⟨L, rfl, hLl⟩, hn1, by omega, by simp at h; omega, by simp at h; omega, by omega⟩, vc_tail 1 rest ?_ ?_⟩, fun h => vc_tail 1 rest ?_ ?_⟩
  · simp [go_sem]
  · rw [hr]; simp [go_sem]
  · simp [go_sem]
  · have : L = A ++ U1 ++ V1 ++ (U2 ++ V2 ++ D) := by
      rw [hL, eU, eV]
      rcases Nat.eq_zero_or_pos U2.length with h0 | h0
      · rw [List.eq_nil_of_length_eq_zero h0]; simp
      · rcases Nat.eq_zero_or_pos V1.length with h1 | h1
        · rw [List.eq_nil_of_length_eq_zero h1]; simp
        · simp at h; omega
    rw [this]; simp [go_sem]
theorem at_u {A U V D : List Chg} {i k : Nat} {u : Chg} (h : U[i]? = some u) (hk : k = A.length + i) : (A ++ U ++ V ++ D)[k]? = some u := by
  subst hk
  have hi := (List.getElem?_eq_some_iff.1 h).1
  have e : A ++ U ++ V ++ D = A ++ (U ++ (V ++ D)) := by simp
  rw [e, List.getElem?_append_right (by omega), Nat.add_sub_cancel_left, List.getElem?_append_left hi, h]
theorem at_v {A U V D : List Chg} {i k : Nat} {v : Chg} (h : V[i]? = some v) (hk : k = A.length + U.length + i) : (A ++ U ++ V ++ D)[k]? = some v := by
  subst hk
  have hi := (List.getElem?_eq_some_iff.1 h).1
  have e : A ++ U ++ V ++ D = (A ++ U) ++ (V ++ D) := by simp
  rw [e, List.getElem?_append_right (by rw [List.length_append]; omega), List.length_append, Nat.add_sub_cancel_left, List.getElem?_append_left hi, h]
theorem half {x y : Nat} (h : x + y ≤ 2000000) : IntKind.i64.wrap ((IntKind.u64.wrap ((x : Int) + (y : Int))).fdiv (2 ^ (min 1 64 : Nat))) = ((x + y) / 2 : Nat) := by
  rw [show (min 1 64 : Nat) = 1 from rfl]
  have e1 : IntKind.u64.wrap ((x : Int) + (y : Int)) = ((x + y : Nat) : Int) := by rw [wrap_inr (by simp [inr, IntKind.min, IntKind.max, IntKind.signed, IntKind.bits]; omega)]; omega
  have e2 : ((x + y : Nat) : Int).fdiv (2 ^ 1) = ((x + y) / 2 : Nat) := by rw [Int.fdiv_eq_ediv_of_nonneg _ (by omega)]; omega
  rw [e1, e2, wrap_inr (by simp [inr, IntKind.min, IntKind.max, IntKind.signed, IntKind.bits]; omega)]
/-- The search. -/
theorem tail32 {N : Nat} {K : S → Hp → Prop} (A U V D : List Chg) {n a m b mid nn s0 r0 : Nat} (hn : n = A.length + U.length + V.length + D.length) (hn1 : n ≤ 1000000) (ha : a = A.length) (hm : m = a + U.length) (hb : b = m + V.length) (hU : Srt ltC U) (hV : Srt ltC V)
    (hmid : mid = (a + b) / 2) (hnn : nn = mid + m) (h2 : 2 ≤ U.length) (h3 : 2 ≤ V.length) (hs1 : a ≤ s0) (hs2 : r0 ≤ m) (hs3 : r0 ≤ mid) (hs4 : nn - s0 ≤ b) (hsr : s0 ≤ r0) (hN : U.length + V.length ≤ N + 1)
    (c1 : s0 = a ∨ nn - s0 = b) (c2 : r0 = m ∨ r0 = mid) (hK : K (.tu []) (chH (A ++ mrgL ltC U V ++ D))) :
    vc (gMrg N) 1 pc43_32.ungh (puts [(0, .va (.c1 (.sl 0 n))), (1, iS .i64 a), (2, iS .i64 m), (3, iS .i64 b), (4, cmpV), (18, iS .i64 mid), (19, iS .i64 nn), (20, iS .i64 s0), (21, iS .i64 r0)]) (chH (A ++ U ++ V ++ D)) (retK 1 rs43 K) := by
  obtain ⟨L, hL⟩ : ∃ L, L = A ++ U ++ V ++ D := ⟨_, rfl⟩
  have hLl : L.length = n := by rw [hL]; simp only [List.length_append]; omega
  rw [← hL]
  simp -dsimp only [go_sem, pc43_32]
  have hnn1 : (nn : Int) - 1 = ((nn - 1 : Nat) : Int) := by omega
  refine ⟨by omega, vc_loop (α := Nat × Nat) (fun z => [(0, .va (.c1 (.sl 0 n))), (1, iS .i64 a), (2, iS .i64 m), (3, iS .i64 b), (4, cmpV), (18, iS .i64 mid), (19, iS .i64 nn), (20, iS .i64 z.1), (21, iS .i64 z.2), (22, iS .i64 (nn - 1 : Nat))]) (fun _ => chH L)
    (fun z => s0 ≤ z.1 ∧ z.1 ≤ z.2 ∧ z.2 ≤ r0 ∧ (z.1 = s0 ∨ ∃ u v, U[z.1 - a - 1]? = some u ∧ V[nn - z.1 - m]? = some v ∧ ltC v u = false) ∧ (z.2 = r0 ∨ ∃ u v, U[z.2 - a]? = some u ∧ V[nn - z.2 - m - 1]? = some v ∧ ltC v u = true)) (fun z => z.2 - z.1) (s0, r0) 1 ⟨by simp, hsr, by simp, .inl rfl, .inl rfl⟩ ?_ rfl ?_⟩
  · simp [go_sem, hnn1]
  rintro ⟨st, r⟩ ⟨w1, w2, w3, w4, w5⟩
  simp only at w1 w2 w3 w4 w5
  rcases Nat.lt_or_ge st r with hlt | hge
  · have hg : decide ((st : Int) < (r : Int)) = true := by simp; omega
    obtain ⟨c, hc⟩ : ∃ c, c = (st + r) / 2 := ⟨_, rfl⟩
    have hh := half (x := st) (y := r) (by omega)
    rw [← hc] at hh
    obtain ⟨u, hu⟩ : ∃ u, U[c - a]? = some u := ⟨_, List.getElem?_eq_getElem (by omega)⟩
    obtain ⟨v, hv⟩ : ∃ v, V[nn - c - m - 1]? = some v := ⟨_, List.getElem?_eq_getElem (by omega)⟩
    have gu : L[c]? = some u := by rw [hL]; exact at_u hu (by omega)
    have gv : L[nn - 1 - c]? = some v := by rw [hL]; exact at_v hv (by omega)
    have i1 : (((nn - 1 : Nat) : Int) - (c : Int)).toNat = nn - 1 - c := by omega
    have i2 : ((c : Nat) : Int).toNat = c := by omega
    have q1 := row_at i2 gu
    have q2 := row_at i1 gv
    have q3 := row_at' gu
    have q4 := row_at' gv
    have hcv : ∀ a b : Chg, ccFn.val [.va (.gs (chC a)), .va (.gs (chC b))] = iA .i64 (cmpC a b) := fun _ _ => rfl
    have hlt' : decide (cmpC v u < 0) = ltC v u := rfl
    simp -dsimp only [go_sem, hg, hh, ↓q1, ↓q2, ↓q3, ↓q4, hcv, hlt', i1]
    refine ⟨by omega, by decide, by omega, ⟨⟨by omega, by omega⟩, hLl⟩, ⟨hLl, by omega⟩, ⟨⟨by omega, by omega⟩, hLl⟩, ⟨hLl, by omega⟩, ccPre_mk v u, fun h => ?_, fun h => ?_⟩
    · refine ⟨by omega, loop_next (c + 1, r) 1 ⟨by simp only; omega, by simp only; omega, w3, .inr ⟨u, v, ?_, ?_, h⟩, w5⟩ (by simp only; omega) ?_ ?_⟩
      · rw [show c + 1 - a - 1 = c - a by omega]; exact hu
      · rw [show nn - (c + 1) - m = nn - c - m - 1 by omega]; exact hv
      · simp [go_sem]
      · simp [go_sem]
    · have h' : ltC v u = true := by simpa using h
      refine loop_next (st, c) 1 ⟨w1, by simp only; omega, by simp only; omega, w4, .inr ⟨u, v, hu, hv, h'⟩⟩ (by simp only; omega) ?_ ?_
      · simp [go_sem]
      · simp [go_sem]
  · have hg : decide ((st : Int) < (r : Int)) = false := by simp; omega
    obtain rfl : st = r := by omega
    simp -dsimp only [go_sem, hg]
    have rest := tail38 (N := N) (K := K) A U V D (n := n) (a := a) (m := m) (b := b) (mid := mid) (nn := nn) (s := st) hn hn1 ha hm hb hU hV hmid hnn h2 h3 (by omega) (by omega) (by omega) (by omega) hN (by
      rcases w4 with h | h
      · rcases c1 with h' | h'
        · exact .inl (by omega)
        · exact .inr (.inl (by omega))
      · exact .inr (.inr h)) (by
      rcases w5 with h | h
      · rcases c2 with h' | h'
        · exact .inl (by omega)
        · exact .inr (.inl (by omega))
      · exact .inr (.inr h)) hK
    rw [← hL] at rest
    refine vc_tail 1 rest ?_ ?_
    · simp [go_sem]
    · simp [go_sem]
end Go.Proofs.Ytngmjggconefcaa
