/- The reference: Add, Assert, Check, Alive, Next. -/
import Derived.Test.YtngmjggconefcaaLivW
namespace Go.Proofs.Ytngmjggconefcaa
open Go.W
/-! ### Alive, Next -/
set_option maxRecDepth 100000 in
theorem mAliveR : Meets Try.prog 19 (g1Fn fun s id => .bool (alvB s id)).sp := by
  refine meets_fn Try.func19 ok19 2 (by rw [Try.ntmps19]; decide) (meetsAll_f mFindR (meetsAll_nil _)) g1_len ?_
  rintro av H K ⟨⟨h, rfl⟩, hK⟩
  obtain ⟨s, id, rfl, hs⟩ := g1Pre_open h
  have hal := hs.al
  have hK' : K (bS (alvB s id)) [] := by
    have := hK; unfold g1Fn at this; simp only at this; rw [g1_val] at this; exact this
  clear hK
  have g0 := isG_mk hs
  unfold alvB at hK'
  cases h1 : decide (0 ≤ findL s.all id 0) with
  | false =>
    rw [h1, Bool.false_and] at hK'
    simp -dsimp only [go_sem, pc19, rs19, g0, g1V_mk, h1]
    exact .sel [] (by simp) (by simp) rfl (.done hK')
  | true =>
    have h0 : 0 ≤ findL s.all id 0 := by simpa using h1
    obtain ⟨_, x, hx, hxid⟩ := findL_get s.all id 0 h0
    rw [Nat.sub_zero] at hx
    have hFl := (List.getElem?_eq_some_iff.1 hx).1
    have q1 := rg_at (row := lzC) hx
    rw [h1, hx, Bool.true_and] at hK'
    simp -dsimp only [go_sem, pc19, rs19, g0, g1V_mk, h1, ↓q1]
    exact ⟨by omega, .sel [] (by simp) (by simp) rfl (.done hK')⟩
def nxT (b : Option (Nat × Lz)) : Int × Bool := match b with | none => (0, false) | some (_, y) => (y.ren + y.len, true)
theorem nxtL_nxB : ∀ (l : List Lz) (i : Nat) (b : Option (Nat × Lz)), (∀ x ∈ l, x.ok) → nxtL l (nxT b) = nxT (nxB 4398046511104 l i b)
  | [], _, _, _ => rfl
  | x :: l, i, b, h => by
    obtain ⟨x1, x2, x3, x4⟩ := h x (by simp)
    have hd : dueB 4398046511104 x = (x.up && decide (0 < x.len)) := by
      unfold dueB
      have : decide (x.ren + x.len < 4398046511104) = true := by simp; omega
      rw [this, Bool.and_true]
    simp only [nxtL, nxB]
    rw [← nxtL_nxB l (i + 1) _ fun y hy => h y (by simp [hy])]
    congr 1
    rw [hd]
    cases hu : x.up && decide (0 < x.len) with
    | false => rfl
    | true =>
      cases b with
      | none => rfl
      | some p =>
        obtain ⟨k, y⟩ := p
        have hb : better x (some (k, y)) = (decide (x.ren + x.len < y.ren + y.len) || (x.ren + x.len == y.ren + y.len && decide (x.id < y.id))) := by unfold better; simp only; rw [ltC_eq]; rfl
        rw [hb]
        simp only [nxT, Bool.not_true, Bool.false_or, Bool.true_and]
        cases f1 : decide (x.ren + x.len < y.ren + y.len) with
        | true =>
          have f1' : x.ren + x.len < y.ren + y.len := by simpa using f1
          simp [nxT, f1']
        | false =>
          have f1' : ¬ x.ren + x.len < y.ren + y.len := by simpa using f1
          cases f2 : x.ren + x.len == y.ren + y.len with
          | false => simp [nxT, f1']
          | true =>
            cases f3 : decide (x.id < y.id) with
            | false => simp [nxT, f1']
            | true =>
              have : x.ren + x.len = y.ren + y.len := by simpa using f2
              simp [nxT, this]
def nxRSp : W.Spec := fun av H K =>
  match av, H with
  | [.va (.gs [.vl (.int .i64 now), .fz ra, .fz rp])], [] =>
    isG now ra rp ∧ K (.tu [iA .i64 (nxtL (ra.map C.lz) (0, false)).1, bA (nxtL (ra.map C.lz) (0, false)).2]) []
  | _, _ => False
theorem nxRSp_open {av : List S} {H : Hp} {K : S → Hp → Prop} (h : nxRSp av H K) : ∃ s : Ls, av = [.va (lsG s)] ∧ H = [] ∧ s.ok ∧ K (.tu [iA .i64 (nxtL s.all (0, false)).1, bA (nxtL s.all (0, false)).2]) [] := by
  unfold nxRSp at h
  split at h
  · obtain ⟨⟨s, rfl, rfl, rfl, hs⟩, hK⟩ := h
    rw [lz_map] at hK
    exact ⟨s, rfl, rfl, hs, hK⟩
  · exact h.elim
attribute [go_sem ↓] nxRSp
set_option maxRecDepth 100000 in
theorem mNextR : Meets Try.prog 18 nxRSp := by
  refine meets_fn Try.func18 ok18 1 (by rw [Try.ntmps18]; decide) (meetsAll_f mNextI (meetsAll_nil _)) (fun av H K h => by obtain ⟨_, rfl, _⟩ := nxRSp_open h; rfl) ?_
  intro av H K h
  obtain ⟨s, rfl, rfl, hs, hK⟩ := nxRSp_open h
  have hal := hs.al
  have g0 := isG_mk hs
  have hn := nxtL_nxB s.all 0 none hs.lz
  have e0 : nxT none = (0, false) := rfl
  rw [e0] at hn
  rw [hn] at hK
  cases hb : nxB 4398046511104 s.all 0 none with
  | none =>
    have hi : nxI s 4398046511104 = -1 := by unfold nxI; rw [hb]; rfl
    have hm : decide ((-1 : Int) < 0) = true := rfl
    rw [hb] at hK
    simp -dsimp only [go_sem, pc18, rs18, g0, g1V_mk, hi, hm]
    exact .sel [] (by simp) (by simp) rfl (.done hK)
  | some p =>
    obtain ⟨k, y⟩ := p
    have hi : nxI s 4398046511104 = k := by unfold nxI; rw [hb]; rfl
    have hm : decide ((k : Int) < 0) = false := by simp
    have hy : s.all[k]? = some y := by
      rcases ((nxB_spec 4398046511104 s.all 0 none).2 k y hb).1 with h | ⟨_, h, _⟩
      · cases h
      · simpa using h
    have hkl := (List.getElem?_eq_some_iff.1 hy).1
    obtain ⟨x1, x2, x3, x4⟩ := hs.lz y (List.mem_of_getElem? hy)
    have q1 := rg_at (row := lzC) hy
    have q2 := rg_at' (row := lzC) hy
    rw [hb] at hK
    simp -dsimp only [go_sem, pc18, rs18, g0, g1V_mk, hi, hm, ↓q1, ↓q2]
    and_intros
    all_goals first
      | omega
      | skip
    exact .sel [] (by simp) (by simp) rfl (.done hK)
end Go.Proofs.Ytngmjggconefcaa
