/- Rotation. -/
import Derived.Test.YtngmjggconefcaaLivC
namespace Go.Proofs.Ytngmjggconefcaa
open Go.W
structure Rz where
  p : List Chg
  u : List Chg
  v : List Chg
  q : List Chg
def Rz.all (z : Rz) : List Chg := z.p ++ z.u ++ z.v ++ z.q
def rotSp : W.Spec := fun av H K => ∃ A U V D : List Chg, 0 < U.length ∧ 0 < V.length ∧ av = [.va (.c1 (.sl 0 (A ++ U ++ V ++ D).length)), iS .i64 A.length, iS .i64 (A.length + U.length : Nat), iS .i64 (A.length + U.length + V.length : Nat), cmpV] ∧ H = chH (A ++ U ++ V ++ D) ∧ (A ++ U ++ V ++ D).length ≤ 1000000 ∧
  K (.tu []) (chH (A ++ V ++ U ++ D))
set_option maxRecDepth 100000 in
theorem mRot : Meets Try.prog 44 rotSp := by
  refine meets_fn Try.func44 ok44 5 (by rw [Try.ntmps44]; decide) (meetsAll_s mSwap2 (meetsAll_nil _)) (fun av H K h => by obtain ⟨_, _, _, _, _, _, rfl, _⟩ := h; rfl) ?_
  intro av H K h
  obtain ⟨A, U, V, D, hU, hV, rfl, rfl, hn, hK⟩ := h
  have hlen : (A ++ U ++ V ++ D).length = A.length + U.length + V.length + D.length := by simp only [List.length_append]
  rw [hlen] at hn ⊢
  obtain ⟨n, hN⟩ : ∃ n, n = A.length + U.length + V.length + D.length := ⟨_, rfl⟩
  obtain ⟨m, hm⟩ : ∃ m, m = A.length + U.length := ⟨_, rfl⟩
  rw [← hN] at hn ⊢
  rw [← hm]
  have h0 : (Rz.mk A U V D).all = A ++ U ++ V ++ D := rfl
  rw [← h0]
  simp -dsimp only [go_sem, pc44, rs44]
  refine ⟨by omega, by omega, vc_loop (α := Rz) (fun z => [(0, .va (.c1 (.sl 0 n))), (2, iS .i64 m), (4, cmpV), (10, iS .i64 z.u.length), (11, iS .i64 z.v.length)]) (fun z => chH z.all)
    (fun z => z.p ++ z.v ++ z.u ++ z.q = A ++ V ++ U ++ D ∧ z.p.length + z.u.length = m ∧ 0 < z.u.length ∧ 0 < z.v.length) (fun z => z.u.length + z.v.length) ⟨A, U, V, D⟩ 1 ⟨rfl, hm.symm, hU, hV⟩ ?_ rfl ?_⟩
  · simp [go_sem]; omega
  rintro ⟨p, u, v, q⟩ ⟨hF, hpm, hu, hv⟩
  simp only at hF hpm hu hv
  have hln : p.length + v.length + u.length + q.length = n := by
    have := congrArg List.length hF
    simp only [List.length_append] at this
    omega
  have hln' : (Rz.mk p u v q).all.length = n := by unfold Rz.all; simp only [List.length_append]; omega
  simp -dsimp only [go_sem, bne]
  have hme : ((m : Int) - (u.length : Int)).toNat = p.length := by omega
  rw [hme]
  refine ⟨fun h1 => ⟨fun h2 => ?_, fun h2 => ?_⟩, fun h1 => ?_⟩
  · have hlt : v.length < u.length := by simp at h2; omega
    refine ⟨by omega, ⟨⟨_, rfl, hln'⟩, hn, by omega, by omega, by omega, by omega⟩, by omega, ?_⟩
    have hsw : swpL (Rz.mk p u v q).all p.length m v.length = (Rz.mk (p ++ v) (u.drop v.length) (u.take v.length) q).all := by
      have e : (Rz.mk p u v q).all = p ++ u.take v.length ++ u.drop v.length ++ v ++ q := by
        unfold Rz.all
        conv => lhs; rw [← List.take_append_drop v.length u]
        simp
      have l1 : (u.take v.length).length = v.length := by rw [List.length_take]; omega
      rw [e, swpL_at p (u.take v.length) (u.drop v.length) v q l1 rfl (by rw [l1, List.length_drop]; omega) l1.symm]
      rfl
    refine loop_next (Rz.mk (p ++ v) (u.drop v.length) (u.take v.length) q) 1 ⟨?_, ?_, ?_, ?_⟩ ?_ ?_ ?_
    · rw [← hF]
      conv => rhs; rw [← List.take_append_drop v.length u]
      simp
    · simp only [List.length_append, List.length_drop]; omega
    · simp only [List.length_drop]; omega
    · simp only [List.length_take]; omega
    · simp only [List.length_drop, List.length_take]; omega
    · simp [go_sem]; omega
    · rw [hsw]; rfl
  · have hlt : u.length < v.length := by simp at h1 h2; omega
    have hmf : ((m : Int) + (v.length : Int) - (u.length : Int)).toNat = p.length + u.length + (v.length - u.length) := by omega
    refine ⟨by omega, by omega, by omega, ⟨⟨_, rfl, hln'⟩, hn, by omega, by omega, by omega, by omega⟩, by omega, ?_⟩
    rw [hmf]
    have hsw : swpL (Rz.mk p u v q).all p.length (p.length + u.length + (v.length - u.length)) u.length = (Rz.mk p (v.drop (v.length - u.length)) (v.take (v.length - u.length)) (u ++ q)).all := by
      have e : (Rz.mk p u v q).all = p ++ u ++ v.take (v.length - u.length) ++ v.drop (v.length - u.length) ++ q := by
        unfold Rz.all
        conv => lhs; rw [← List.take_append_drop (v.length - u.length) v]
        simp
      have l1 : (v.drop (v.length - u.length)).length = u.length := by rw [List.length_drop]; omega
      have l2 : (v.take (v.length - u.length)).length = v.length - u.length := by rw [List.length_take]; omega
      rw [e, swpL_at p u (v.take (v.length - u.length)) (v.drop (v.length - u.length)) q l1.symm rfl (by rw [l2]) rfl]
      unfold Rz.all; simp
    refine loop_next (Rz.mk p (v.drop (v.length - u.length)) (v.take (v.length - u.length)) (u ++ q)) 1 ⟨?_, ?_, ?_, ?_⟩ ?_ ?_ ?_
    · rw [← hF]
      conv => rhs; rw [← List.take_append_drop (v.length - u.length) v]
      simp
    · simp only [List.length_drop]; omega
    · simp only [List.length_drop]; omega
    · simp only [List.length_take]; omega
    · simp only [List.length_drop, List.length_take]; omega
    · simp [go_sem]; omega
    · rw [hsw]; rfl
  · have he : u.length = v.length := by simp at h1; omega
    have hsw : swpL (Rz.mk p u v q).all p.length m u.length = A ++ V ++ U ++ D := by
      have e : (Rz.mk p u v q).all = p ++ u ++ [] ++ v ++ q := by unfold Rz.all; simp
      rw [e, swpL_at p u [] v q he rfl (by simp; omega) rfl, ← hF]; simp
    rw [hsw]
    exact ⟨by omega, ⟨⟨_, rfl, hln'⟩, hn, by omega, by omega, by omega, by omega⟩, .done hK⟩
/-- The row with two neighbouring ranges exchanged. -/
def rotL (L : List Chg) (a m b : Nat) : List Chg := L.take a ++ (L.take b).drop m ++ (L.take m).drop a ++ L.drop b
def rotSp2 : W.Spec := fun av H K =>
  match av, H with
  | [.va (.c1 (.sl 0 n)), .va (.c1 (.vl (.int .i64 a))), .va (.c1 (.vl (.int .i64 m))), .va (.c1 (.vl (.int .i64 b))), .va (.c1 (.fn f []))], [.row rs 44 3] =>
    ((∃ L : List Chg, rs = L.map chC ∧ L.length = n) ∧ n ≤ 1000000 ∧ f = 34 ∧ 0 ≤ a ∧ a < m ∧ m < b ∧ b ≤ n) ∧ K (.tu []) [.row ((rotL (rs.map C.chg) a.toNat m.toNat b.toNat).map chC) 44 3]
  | _, _ => False
theorem cut4 (L : List Chg) {a m b : Nat} (h1 : a ≤ m) (h2 : m ≤ b) : L.take a ++ (L.take m).drop a ++ (L.take b).drop m ++ L.drop b = L := by
  have e1 : L.take a ++ (L.take m).drop a = L.take m := by
    have : L.take a = (L.take m).take a := by rw [List.take_take, Nat.min_eq_left h1]
    rw [this, List.take_append_drop]
  have e2 : L.take m ++ (L.take b).drop m = L.take b := by
    have : L.take m = (L.take b).take m := by rw [List.take_take, Nat.min_eq_left h2]
    rw [this, List.take_append_drop]
  rw [e1, e2, List.take_append_drop]
theorem mRot2 : Meets Try.prog 44 rotSp2 := Meets.imp mRot fun av H K h => by
  unfold rotSp2 at h
  split at h
  · rename_i n a m b f rs
    obtain ⟨⟨⟨L, rfl, rfl⟩, h1, rfl, h2, h3, h4, h5⟩, hK⟩ := h
    rw [chg_map] at hK
    have e := cut4 L (a := a.toNat) (m := m.toNat) (b := b.toNat) (by omega) (by omega)
    have la : (L.take a.toNat).length = a.toNat := by rw [List.length_take]; omega
    have lu : ((L.take m.toNat).drop a.toNat).length = m.toNat - a.toNat := by rw [List.length_drop, List.length_take]; omega
    have lv : ((L.take b.toNat).drop m.toNat).length = b.toNat - m.toNat := by rw [List.length_drop, List.length_take]; omega
    refine ⟨L.take a.toNat, (L.take m.toNat).drop a.toNat, (L.take b.toNat).drop m.toNat, L.drop b.toNat, by omega, by omega, ?_, ?_, ?_, hK⟩
    · rw [e, la, lu, lv, show ((a.toNat : Nat) : Int) = a by omega, show ((a.toNat + (m.toNat - a.toNat) : Nat) : Int) = m by omega, show ((a.toNat + (m.toNat - a.toNat) + (b.toNat - m.toNat) : Nat) : Int) = b by omega]
    · rw [e]
    · rw [e]; exact h1
  · exact h.elim
attribute [go_sem ↓] rotSp2
end Go.Proofs.Ytngmjggconefcaa
