/- Ranges swapped, rotated. -/
import Derived.Test.YtngmjggconefcaaLivB
namespace Go.Proofs.Ytngmjggconefcaa
open Go.W
theorem Meets.imp {P : Program} {f : FuncId} {s s' : W.Spec} (h : Meets P f s) (hs : ∀ av H K, s' av H K → s av H K) : Meets P f s' := by
  refine ⟨h.1, fun av vs E ro w K h1 h2 h3 h4 => h.2 av vs E ro w K h1 h2 h3 (hs _ _ _ h4)⟩
@[go_sem] theorem chg_map (l : List Chg) : (l.map chC).map C.chg = l := by
  rw [List.map_map, show (C.chg ∘ chC) = id from funext fun c => rfl, List.map_id]
def insL (L : List Chg) (a b : Nat) : List Chg := L.take a ++ srt ltC ((L.take b).drop a) ++ L.drop b
def insSp2 : W.Spec := fun av H K =>
  match av, H with
  | [.va (.c1 (.sl 0 n)), .va (.c1 (.vl (.int .i64 a))), .va (.c1 (.vl (.int .i64 b))), .va (.c1 (.fn f []))], [.row rs 44 3] =>
    ((∃ L : List Chg, rs = L.map chC ∧ L.length = n) ∧ n ≤ 1000000 ∧ f = 34 ∧ 0 ≤ a ∧ a ≤ b ∧ b ≤ n) ∧ K (.tu []) [.row ((insL (rs.map C.chg) a.toNat b.toNat).map chC) 44 3]
  | _, _ => False
theorem mIns2 : Meets Try.prog 42 insSp2 := Meets.imp mIns fun av H K h => by
  unfold insSp2 at h
  split at h
  · rename_i n a b f rs
    obtain ⟨⟨⟨L, rfl, rfl⟩, h1, rfl, h2, h3, h4⟩, hK⟩ := h
    rw [chg_map] at hK
    have e : L.take a.toNat ++ (L.take b.toNat).drop a.toNat ++ L.drop b.toNat = L := by
      have : L.take a.toNat = (L.take b.toNat).take a.toNat := by rw [List.take_take, Nat.min_eq_left (by omega)]
      rw [this, List.take_append_drop, List.take_append_drop]
    have la : (L.take a.toNat).length = a.toNat := by rw [List.length_take]; omega
    have lq : ((L.take b.toNat).drop a.toNat).length = b.toNat - a.toNat := by rw [List.length_drop, List.length_take]; omega
    refine ⟨L.take a.toNat, (L.take b.toNat).drop a.toNat, L.drop b.toNat, ?_, ?_, ?_, hK⟩
    · rw [e, la, lq, show ((a.toNat : Nat) : Int) = a by omega, show ((a.toNat + (b.toNat - a.toNat) : Nat) : Int) = b by omega]
    · rw [e]
    · rw [e]; exact h1
  · exact h.elim
attribute [go_sem ↓] insSp2
/-! ### Two ranges, swapped -/
def swI (A U M V C : List Chg) (i : Nat) : List Chg := A ++ (V.take i ++ U.drop i) ++ M ++ (U.take i ++ V.drop i) ++ C
def swpSp : W.Spec := fun av H K => ∃ A U M V D : List Chg, U.length = V.length ∧ av = [.va (.c1 (.sl 0 (A ++ U ++ M ++ V ++ D).length)), iS .i64 A.length, iS .i64 (A.length + U.length + M.length : Nat), iS .i64 U.length, cmpV] ∧ H = chH (A ++ U ++ M ++ V ++ D) ∧ (A ++ U ++ M ++ V ++ D).length ≤ 1000000 ∧
  K (.tu []) (chH (A ++ V ++ M ++ U ++ D))
section
variable {A U M V D : List Chg} {i : Nat} {u v : Chg}
theorem sw_split1 (hu : U[i]? = some u) : swI A U M V D i = (A ++ V.take i) ++ u :: (U.drop (i + 1) ++ M ++ (U.take i ++ V.drop i) ++ D) := by
  have h := (List.getElem?_eq_some_iff.1 hu).1
  have : U.drop i = u :: U.drop (i + 1) := by
    rw [List.drop_eq_getElem_cons h]
    rw [List.getElem?_eq_getElem h] at hu
    rw [Option.some.inj hu]
  unfold swI
  rw [this]; simp
theorem sw_split2 (hv : V[i]? = some v) : swI A U M V D i = (A ++ (V.take i ++ U.drop i) ++ M ++ U.take i) ++ v :: (V.drop (i + 1) ++ D) := by
  have h := (List.getElem?_eq_some_iff.1 hv).1
  have : V.drop i = v :: V.drop (i + 1) := by
    rw [List.drop_eq_getElem_cons h]
    rw [List.getElem?_eq_getElem h] at hv
    rw [Option.some.inj hv]
  unfold swI
  rw [this]; simp
theorem sw_get1 (hl : U.length = V.length) (hu : U[i]? = some u) : (swI A U M V D i)[A.length + i]? = some u := by
  have h := (List.getElem?_eq_some_iff.1 hu).1
  rw [sw_split1 hu]
  exact get_mid _ _ _ (by rw [List.length_append, List.length_take]; omega)
theorem sw_get2 (hl : U.length = V.length) (hv : V[i]? = some v) : (swI A U M V D i)[A.length + U.length + M.length + i]? = some v := by
  have h := (List.getElem?_eq_some_iff.1 hv).1
  rw [sw_split2 hv]
  exact get_mid _ _ _ (by simp only [List.length_append, List.length_take, List.length_drop]; omega)
theorem sw_set (hl : U.length = V.length) (hu : U[i]? = some u) (hv : V[i]? = some v) : ((swI A U M V D i).set (A.length + i) v).set (A.length + U.length + M.length + i) u = swI A U M V D (i + 1) := by
  have h := (List.getElem?_eq_some_iff.1 hu).1
  have h' := (List.getElem?_eq_some_iff.1 hv).1
  rw [sw_split1 hu, set_mid _ _ _ _ (by rw [List.length_append, List.length_take]; omega)]
  have hd : V.drop i = v :: V.drop (i + 1) := by
    rw [List.drop_eq_getElem_cons h']
    rw [List.getElem?_eq_getElem h'] at hv
    rw [Option.some.inj hv]
  have : (A ++ V.take i) ++ v :: (U.drop (i + 1) ++ M ++ (U.take i ++ V.drop i) ++ D) = (A ++ V.take i ++ v :: (U.drop (i + 1) ++ M ++ U.take i)) ++ v :: (V.drop (i + 1) ++ D) := by rw [hd]; simp
  rw [this, set_mid _ _ _ _ (by simp only [List.length_append, List.length_cons, List.length_take, List.length_drop]; omega)]
  have tu : U.take (i + 1) = U.take i ++ [u] := by rw [List.take_add_one, hu]; rfl
  have tv : V.take (i + 1) = V.take i ++ [v] := by rw [List.take_add_one, hv]; rfl
  unfold swI
  rw [tu, tv]; simp
end
set_option maxRecDepth 100000 in
theorem mSwap : Meets Try.prog 45 swpSp := by
  refine meets_fn Try.func45 ok45 5 (by rw [Try.ntmps45]; decide) (meetsAll_nil _) (fun av H K h => by obtain ⟨_, _, _, _, _, _, rfl, _⟩ := h; rfl) ?_
  intro av H K h
  obtain ⟨A, U, M, V, D, hl, rfl, rfl, hn, hK⟩ := h
  have hlen : (A ++ U ++ M ++ V ++ D).length = A.length + U.length + M.length + V.length + D.length := by simp only [List.length_append]
  rw [hlen] at hn ⊢
  obtain ⟨n, hN⟩ : ∃ n, n = A.length + U.length + M.length + V.length + D.length := ⟨_, rfl⟩
  rw [← hN] at hn ⊢
  have h0 : swI A U M V D 0 = A ++ U ++ M ++ V ++ D := by unfold swI; simp
  have hS : ∀ i, (swI A U M V D i).length = n := fun i => by unfold swI; simp only [List.length_append, List.length_take, List.length_drop]; omega
  rw [← h0]
  simp -dsimp only [go_sem, pc45, rs45]
  refine vc_loop (α := Nat) (fun i => [(0, .va (.c1 (.sl 0 n))), (1, iS .i64 A.length), (2, iS .i64 (A.length + U.length + M.length : Nat)), (3, iS .i64 U.length), (10, iS .i64 i)]) (fun i => chH (swI A U M V D i)) (fun i => i ≤ U.length) (fun i => U.length - i) 0 1 (by omega) ?_ rfl ?_
  · simp [go_sem]
  intro i hi
  obtain ⟨L, hL⟩ : ∃ L, L = swI A U M V D i := ⟨_, rfl⟩
  have hLl : L.length = n := by rw [hL, hS]
  rcases Nat.lt_or_ge i U.length with hlt | hge
  · obtain ⟨u, hu⟩ : ∃ u, U[i]? = some u := ⟨_, List.getElem?_eq_getElem hlt⟩
    obtain ⟨v, hv⟩ : ∃ v, V[i]? = some v := ⟨_, List.getElem?_eq_getElem (by omega)⟩
    have g1 : L[A.length + i]? = some u := by rw [hL]; exact sw_get1 hl hu
    have g2 : L[A.length + U.length + M.length + i]? = some v := by rw [hL]; exact sw_get2 hl hv
    have i1 : ((A.length : Int) + (i : Int)).toNat = A.length + i := by omega
    have i2 : (((A.length + U.length + M.length : Nat) : Int) + (i : Int)).toNat = A.length + U.length + M.length + i := by omega
    have g3 : (L.set (A.length + i) v)[A.length + U.length + M.length + i]? = some v := by rw [List.getElem?_set, if_neg (by omega)]; exact g2
    have q1 := row_at i1 g1
    have q2 := row_at i2 g2
    have q3 := row_at' g1
    have q4 := row_at' g2
    have q5 := row_at i2 g3
    have q6 := row_at' g3
    have hg : decide ((i : Int) < (U.length : Int)) = true := by simp; omega
    have hs := sw_set (A := A) (M := M) (D := D) hl hu hv
    rw [← hL] at hs ⊢
    simp -dsimp only [go_sem, hg, ↓q1, ↓q2, ↓q3, ↓q4, ↓q5, ↓q6, row_set, i1, i2]
    and_intros
    all_goals first
      | omega
      | (simp; omega)
      | skip
    refine loop_next (i + 1) 1 hlt (by omega) ?_ ?_
    · simp [go_sem]
    · rw [← hs]; rfl
  · have hg : decide ((i : Int) < (U.length : Int)) = false := by simp; omega
    simp -dsimp only [go_sem, hg]
    obtain rfl : i = U.length := by omega
    have : swI A U M V D U.length = A ++ V ++ M ++ U ++ D := by
      unfold swI
      rw [List.take_length, List.drop_length, List.take_of_length_le (by omega), List.drop_of_length_le (by omega)]; simp
    rw [this]
    exact .done hK
/-- The row with two ranges swapped. -/
def swpL (L : List Chg) (a b k : Nat) : List Chg := L.take a ++ (L.drop b).take k ++ (L.take b).drop (a + k) ++ (L.drop a).take k ++ L.drop (b + k)
def swpSp2 : W.Spec := fun av H K =>
  match av, H with
  | [.va (.c1 (.sl 0 n)), .va (.c1 (.vl (.int .i64 a))), .va (.c1 (.vl (.int .i64 b))), .va (.c1 (.vl (.int .i64 k))), .va (.c1 (.fn f []))], [.row rs 44 3] =>
    ((∃ L : List Chg, rs = L.map chC ∧ L.length = n) ∧ n ≤ 1000000 ∧ f = 34 ∧ 0 ≤ a ∧ 0 ≤ k ∧ a + k ≤ b ∧ b + k ≤ n) ∧ K (.tu []) [.row ((swpL (rs.map C.chg) a.toNat b.toNat k.toNat).map chC) 44 3]
  | _, _ => False
theorem cut5 (L : List Chg) {a b k : Nat} (h1 : a + k ≤ b) : L.take a ++ (L.drop a).take k ++ (L.take b).drop (a + k) ++ (L.drop b).take k ++ L.drop (b + k) = L := by
  have e1 : L.take a ++ (L.drop a).take k = L.take (a + k) := by rw [List.take_add]
  have e2 : L.take (a + k) ++ (L.take b).drop (a + k) = L.take b := by
    have : L.take (a + k) = (L.take b).take (a + k) := by rw [List.take_take, Nat.min_eq_left (by omega)]
    rw [this, List.take_append_drop]
  have e3 : L.take b ++ (L.drop b).take k = L.take (b + k) := by rw [List.take_add]
  rw [e1, e2, e3, List.take_append_drop]
theorem mSwap2 : Meets Try.prog 45 swpSp2 := Meets.imp mSwap fun av H K h => by
  unfold swpSp2 at h
  split at h
  · rename_i n a b k f rs
    obtain ⟨⟨⟨L, rfl, rfl⟩, h1, rfl, h2, h3, h4, h5⟩, hK⟩ := h
    rw [chg_map] at hK
    have e := cut5 L (a := a.toNat) (b := b.toNat) (k := k.toNat) (by omega)
    have la : (L.take a.toNat).length = a.toNat := by rw [List.length_take]; omega
    have lu : ((L.drop a.toNat).take k.toNat).length = k.toNat := by rw [List.length_take, List.length_drop]; omega
    have lv : ((L.drop b.toNat).take k.toNat).length = k.toNat := by rw [List.length_take, List.length_drop]; omega
    have lm : ((L.take b.toNat).drop (a.toNat + k.toNat)).length = b.toNat - (a.toNat + k.toNat) := by rw [List.length_drop, List.length_take]; omega
    refine ⟨L.take a.toNat, (L.drop a.toNat).take k.toNat, (L.take b.toNat).drop (a.toNat + k.toNat), (L.drop b.toNat).take k.toNat, L.drop (b.toNat + k.toNat), by rw [lu, lv], ?_, ?_, ?_, hK⟩
    · rw [e, la, lu, lm, show ((a.toNat : Nat) : Int) = a by omega, show ((k.toNat : Nat) : Int) = k by omega, show ((a.toNat + k.toNat + (b.toNat - (a.toNat + k.toNat)) : Nat) : Int) = b by omega]
    · rw [e]
    · rw [e]; exact h1
  · exact h.elim
attribute [go_sem ↓] swpSp2
theorem swpL_at (A U M V D : List Chg) (hl : U.length = V.length) {a b k : Nat} (ha : a = A.length) (hb : b = A.length + U.length + M.length) (hk : k = U.length) : swpL (A ++ U ++ M ++ V ++ D) a b k = A ++ V ++ M ++ U ++ D := by
  subst ha hb hk
  unfold swpL
  have e1 : (A ++ U ++ M ++ V ++ D).take A.length = A := by simp
  have e2 : (A ++ U ++ M ++ V ++ D).drop (A.length + U.length + M.length) = V ++ D := by
    have : A ++ U ++ M ++ V ++ D = (A ++ U ++ M) ++ (V ++ D) := by simp
    rw [this]; exact List.drop_left' (by simp; omega)
  have e3 : (A ++ U ++ M ++ V ++ D).take (A.length + U.length + M.length) = A ++ U ++ M := by
    have : A ++ U ++ M ++ V ++ D = (A ++ U ++ M) ++ (V ++ D) := by simp
    rw [this]; exact List.take_left' (by simp; omega)
  have e4 : (A ++ U ++ M ++ V ++ D).drop A.length = U ++ (M ++ V ++ D) := by
    have : A ++ U ++ M ++ V ++ D = A ++ (U ++ (M ++ V ++ D)) := by simp
    rw [this]; exact List.drop_left' rfl
  have e5 : (A ++ U ++ M ++ V ++ D).drop (A.length + U.length + M.length + U.length) = D := by
    have : A ++ U ++ M ++ V ++ D = (A ++ U ++ M ++ V) ++ D := by simp
    rw [this]; exact List.drop_left' (by simp; omega)
  have e6 : (A ++ U ++ M).drop (A.length + U.length) = M := by exact List.drop_left' (by simp)
  have e7 : (V ++ D).take U.length = V := List.take_left' (by omega)
  rw [e1, e2, e3, e4, e5, e6, e7, List.take_left' rfl]
end Go.Proofs.Ytngmjggconefcaa
