/- The set of leases: New, Alive, Next, Check. -/
import Derived.Test.YtngmjggconefcaaLivI
namespace Go.Proofs.Ytngmjggconefcaa
open Go.W
def Ls.empty : Ls := ⟨0, [], []⟩
def newSp : W.Spec := fun av H K => (av = [] ∧ H = []) ∧ K (.va (.c1 (.pt 0 0))) (lsH Ls.empty)
attribute [go_sem ↓] newSp
theorem mNew : Meets Try.prog 9 newSp := by
  refine meets_fn Try.func9 ok9 0 (by rw [Try.ntmps9]; decide) (meetsAll_nil _) (fun av H K h => by obtain ⟨⟨rfl, _⟩, _⟩ := h; rfl) ?_
  rintro av H K ⟨⟨rfl, rfl⟩, hK⟩
  simp -dsimp only [go_sem, pc9, rs9]
  exact .nilc 0 1 63 4 _ _ rfl rfl (.nilc 0 2 44 3 _ _ rfl rfl (.done hK))
def alvB (s : Ls) (id : Int) : Bool := decide (0 ≤ findL s.all id 0) && (match s.all[(findL s.all id 0).toNat]? with | some x => x.up | none => false)
def alvSp : W.Spec := fun av H K =>
  match av, H with
  | [.va (.c1 (.pt 0 0)), .va (.c1 (.vl (.int .i64 id)))], [.cells [.vl (.int .i64 now), .sl 1 na, .sl 2 np] 59, .row ra 63 4, .row rp 44 3] =>
    isFit now ra rp na np ∧ K (bS (alvB ⟨now, ra.map C.lz, rp.map C.chg⟩ id)) [.cells [.vl (.int .i64 now), .sl 1 na, .sl 2 np] 59, .row ra 63 4, .row rp 44 3]
  | _, _ => False
theorem alvSp_open {av : List S} {H : Hp} {K : S → Hp → Prop} (h : alvSp av H K) : ∃ (s : Ls) (id : Int), av = [.va (.c1 (.pt 0 0)), iS .i64 id] ∧ H = lsH s ∧ s.fit ∧ K (bS (alvB s id)) (lsH s) := by
  unfold alvSp at h
  split at h
  · rename_i id now na np ra rp
    obtain ⟨⟨s, rfl, rfl, rfl, rfl, rfl, hs⟩, hK⟩ := h
    rw [lz_map, chg_map] at hK
    exact ⟨s, id, rfl, rfl, hs, hK⟩
  · exact h.elim
attribute [go_sem ↓] alvSp
theorem mAlive : Meets Try.prog 12 alvSp := by
  refine meets_fn Try.func12 ok12 2 (by rw [Try.ntmps12]; decide) (meetsAll_s mFind (meetsAll_nil _)) (fun av H K h => by obtain ⟨_, _, rfl, _⟩ := alvSp_open h; rfl) ?_
  intro av H K h
  obtain ⟨s, id, rfl, rfl, hs, hK⟩ := alvSp_open h
  have hal := hs.al
  have hl : isLs (s.all.map lzC) (s.pend.map chC) s.all.length s.pend.length := isLs_mk hs.ok
  obtain ⟨F, hF⟩ : ∃ F, F = findL s.all id 0 := ⟨_, rfl⟩
  unfold alvB at hK
  rw [← hF] at hK
  cases h1 : decide (0 ≤ F) with
  | false =>
    simp -dsimp only [go_sem, pc12, rs12, ← hF, h1]
    rw [h1, Bool.false_and] at hK
    exact ⟨hl, .done hK⟩
  | true =>
    have h0 : 0 ≤ F := by simpa using h1
    obtain ⟨_, x, hx, hxid⟩ := findL_get s.all id 0 (by omega)
    rw [← hF, Nat.sub_zero] at hx
    have hFl := (List.getElem?_eq_some_iff.1 hx).1
    have q1 := rg_at (row := lzC) hx
    rw [h1, hx, Bool.true_and] at hK
    simp -dsimp only [go_sem, pc12, rs12, ← hF, h1, ↓q1]
    refine ⟨hl, by omega, by omega, .done hK⟩
def nxtL : List Lz → Int × Bool → Int × Bool
  | [], z => z
  | x :: l, z => nxtL l (bif (x.up && decide (0 < x.len)) && (!z.2 || decide (x.ren + x.len < z.1)) then (x.ren + x.len, true) else z)
def nxtSp : W.Spec := fun av H K =>
  match av, H with
  | [.va (.c1 (.pt 0 0))], [.cells [.vl (.int .i64 now), .sl 1 na, .sl 2 np] 59, .row ra 63 4, .row rp 44 3] =>
    isFit now ra rp na np ∧ K (.tu [iA .i64 (nxtL (ra.map C.lz) (0, false)).1, bA (nxtL (ra.map C.lz) (0, false)).2]) [.cells [.vl (.int .i64 now), .sl 1 na, .sl 2 np] 59, .row ra 63 4, .row rp 44 3]
  | _, _ => False
theorem nxtSp_open {av : List S} {H : Hp} {K : S → Hp → Prop} (h : nxtSp av H K) : ∃ s : Ls, av = [.va (.c1 (.pt 0 0))] ∧ H = lsH s ∧ s.fit ∧ K (.tu [iA .i64 (nxtL s.all (0, false)).1, bA (nxtL s.all (0, false)).2]) (lsH s) := by
  unfold nxtSp at h
  split at h
  · rename_i now na np ra rp
    obtain ⟨⟨s, rfl, rfl, rfl, rfl, rfl, hs⟩, hK⟩ := h
    rw [lz_map] at hK
    exact ⟨s, rfl, rfl, hs, hK⟩
  · exact h.elim
attribute [go_sem ↓] nxtSp
set_option maxRecDepth 100000 in
theorem mNextL : Meets Try.prog 16 nxtSp := by
  refine meets_fn Try.func16 ok16 1 (by rw [Try.ntmps16]; decide) (meetsAll_s mUntil (meetsAll_nil _)) (fun av H K h => by obtain ⟨_, rfl, _⟩ := nxtSp_open h; rfl) ?_
  intro av H K h
  obtain ⟨s, rfl, rfl, hs, hK⟩ := nxtSp_open h
  have hal := hs.al
  simp -dsimp only [go_sem, pc16, rs16]
  refine vc_loop (α := Nat × Int × Bool) (fun z => [(0, .va (.c1 (.pt 0 0))), (4, iS .i64 z.2.1), (5, bS z.2.2), (15, iS .i64 s.all.length), (16, iS .i64 z.1)]) (fun _ => lsH s) (fun z => z.1 ≤ s.all.length ∧ nxtL (s.all.drop z.1) z.2 = nxtL s.all (0, false)) (fun z => s.all.length - z.1) (0, 0, false) 3 ⟨by simp, rfl⟩ ?_ ?_ ?_
  · simp [go_sem]
  · simp [go_sem]
  rintro ⟨i, t, b⟩ ⟨hi, hn⟩
  simp only at hi hn
  rcases Nat.lt_or_ge i s.all.length with hlt | hge
  · obtain ⟨x, hx⟩ : ∃ x, s.all[i]? = some x := ⟨_, List.getElem?_eq_getElem hlt⟩
    obtain ⟨x1, x2, x3, x4⟩ := hs.lz x (List.mem_of_getElem? hx)
    have q1 := rg_at (row := lzC) hx
    have q2 := rg_at' (row := lzC) hx
    have hg : decide ((i : Int) < (s.all.length : Int)) = true := by simp; omega
    rw [drop_lz hx] at hn
    simp only [nxtL] at hn
    simp -dsimp only [go_sem, hg, ↓q1, ↓q2]
    refine ⟨⟨by omega, by omega⟩, hlt, ⟨x1, x2, x3, x4⟩, fun h1 h2 => by rw [h1, h2]; rfl, fun h1 => ⟨by omega, ?_⟩, fun h1 => ⟨by omega, ?_⟩⟩
    · rw [h1, Bool.cond_true] at hn
      refine loop_next (i + 1, x.ren + x.len, true) 3 ⟨hlt, hn⟩ (by simp only; omega) ?_ ?_
      · simp [go_sem]
      · simp [go_sem]
    · rw [h1, Bool.cond_false] at hn
      refine loop_next (i + 1, t, b) 3 ⟨hlt, hn⟩ (by simp only; omega) ?_ ?_
      · simp [go_sem]
      · simp [go_sem]
  · have hg : decide ((i : Int) < (s.all.length : Int)) = false := by simp; omega
    simp -dsimp only [go_sem, hg]
    have : s.all.drop i = [] := List.drop_eq_nil_iff.2 (by omega)
    rw [this] at hn
    simp only [nxtL] at hn
    rw [← hn] at hK
    exact .done hK
/-! ### Check -/
def chkB (s : Ls) (a : Int) : Bool := decide (a < s.now) || decide (1099511627776 < a)
def chkSp : W.Spec := fun av H K =>
  match av, H with
  | [.va (.c1 (.pt 0 0)), .va (.c1 (.vl (.int .i64 a)))], [.cells [.vl (.int .i64 now), .sl 1 na, .sl 2 np] 59, .row ra 63 4, .row rp 44 3] =>
    isFit now ra rp na np ∧ (chkB ⟨now, ra.map C.lz, rp.map C.chg⟩ a = true → K (.va (.c1 (.fz []))) [.cells [.vl (.int .i64 now), .sl 1 na, .sl 2 np] 59, .row ra 63 4, .row rp 44 3]) ∧
      (chkB ⟨now, ra.map C.lz, rp.map C.chg⟩ a = false → K (.va (.c1 (.fz ((srt ltC (Ls.mv ⟨now, ra.map C.lz, rp.map C.chg⟩ a (a + 1)).pend).map chC))))
        [.cells [.vl (.int .i64 a), .sl 1 na, .sl 3 0] 59, .row ((Ls.mv ⟨now, ra.map C.lz, rp.map C.chg⟩ a (a + 1)).all.map lzC) 63 4, .dead, .row [] 44 3])
  | _, _ => False
theorem chkSp_open {av : List S} {H : Hp} {K : S → Hp → Prop} (h : chkSp av H K) : ∃ (s : Ls) (a : Int), av = [.va (.c1 (.pt 0 0)), iS .i64 a] ∧ H = lsH s ∧ s.fit ∧ (chkB s a = true → K (.va (.c1 (.fz []))) (lsH s)) ∧
    (chkB s a = false → K (.va (.c1 (.fz ((srt ltC (s.mv a (a + 1)).pend).map chC)))) [.cells [.vl (.int .i64 a), .sl 1 s.all.length, .sl 3 0] 59, .row ((s.mv a (a + 1)).all.map lzC) 63 4, .dead, .row [] 44 3]) := by
  unfold chkSp at h
  split at h
  · rename_i a now na np ra rp
    obtain ⟨⟨s, rfl, rfl, rfl, rfl, rfl, hs⟩, hK⟩ := h
    rw [lz_map, chg_map] at hK
    exact ⟨s, a, rfl, rfl, hs, hK⟩
  · exact h.elim
attribute [go_sem ↓] chkSp
set_option maxRecDepth 100000 in
theorem mCheck : Meets Try.prog 15 chkSp := by
  refine meets_fn Try.func15 ok15 2 (by rw [Try.ntmps15]; decide) (meetsAll_s mMove (meetsAll_s mSorted (meetsAll_nil _))) (fun av H K h => by obtain ⟨_, _, rfl, _⟩ := chkSp_open h; rfl) ?_
  intro av H K h
  obtain ⟨s, a, rfl, rfl, hs, hK1, hK2⟩ := chkSp_open h
  have hl : isLs (s.all.map lzC) (s.pend.map chC) s.all.length s.pend.length := isLs_mk hs.ok
  obtain ⟨M, hM⟩ : ∃ M, M = (s.mv a (a + 1)).all := ⟨_, rfl⟩
  obtain ⟨Z, hZ⟩ : ∃ Z, Z = (s.mv a (a + 1)).pend := ⟨_, rfl⟩
  have hMl : M.length = s.all.length := by rw [hM]; exact List.length_map _
  have hZl : Z.length ≤ 500000 := by rw [hZ]; exact (mv_ok hs a (a + 1)).pl
  rw [← hM, ← hZ] at hK2
  simp -dsimp only [go_sem, pc15, rs15, ← hM, ← hZ]
  have hnw := hs.nw
  refine ⟨fun h1 => .done (hK1 h1), fun h1 => ⟨by simp at h1; omega, hl, ⟨⟨Z, rfl, rfl⟩, by omega⟩, ?_⟩⟩
  have hn : (s.mv a (a + 1)).now = a := rfl
  rw [hn]
  have hZs : (srt ltC Z).length = Z.length := srt_len Z
  refine .pub 2 _ _ _ rfl (.nilc 0 2 44 3 _ _ rfl rfl (.done ?_))
  have hK := hK2 h1
  rw [← hMl] at hK
  simp -dsimp only [go_sem]
  rw [if_pos hZs.symm]
  exact hK
end Go.Proofs.Ytngmjggconefcaa
