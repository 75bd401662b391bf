/- The reference: Add, Remove, Assert, Check. -/
import Derived.Test.YtngmjggconefcaaLivX
import Derived.Test.YtngmjggconefcaaLivZ
import Derived.Test.YtngmjggconefcaaLivP
namespace Go.Proofs.Ytngmjggconefcaa
open Go.W
def rAddSp : W.Spec := fun av H K =>
  match av, H with
  | [.va (.gs [.vl (.int .i64 now), .fz ra, .fz rp]), .va (.c1 (.vl (.int .i64 id))), .va (.c1 (.vl (.int .i64 len))), .va (.c1 (.vl (.int .i64 a)))], [] =>
    isFit now ra rp ra.length rp.length ∧ K (.tu [lsG (addL ⟨now, ra.map C.lz, rp.map C.chg⟩ id len a), iA .i64 (addE ⟨now, ra.map C.lz, rp.map C.chg⟩ id len a)]) []
  | _, _ => False
theorem rAddSp_open {av : List S} {H : Hp} {K : S → Hp → Prop} (h : rAddSp av H K) : ∃ (s : Ls) (id len a : Int), av = [.va (lsG s), iS .i64 id, iS .i64 len, iS .i64 a] ∧ H = [] ∧ s.fit ∧ K (.tu [lsG (addL s id len a), iA .i64 (addE s id len a)]) [] := by
  unfold rAddSp at h
  split at h
  · rename_i now ra rp id len a
    obtain ⟨⟨s, rfl, rfl, rfl, _, _, hs⟩, hK⟩ := h
    rw [lz_map, chg_map] at hK
    exact ⟨s, id, len, a, rfl, rfl, hs, hK⟩
  · exact h.elim
attribute [go_sem ↓] rAddSp
theorem fit_mk {s : Ls} (h : s.fit) : isFit s.now (s.all.map lzC) (s.pend.map chC) s.all.length s.pend.length := isFit_mk h
theorem mv_now (s : Ls) (t e : Int) : (s.mv t e).now = t := rfl
theorem mv_al' (s : Ls) (t e : Int) : (s.mv t e).all.length = s.all.length := List.length_map _
set_option maxRecDepth 100000 in
theorem mAddR : Meets Try.prog 26 rAddSp := by
  refine meets_fn Try.func26 ok26 4 (by rw [Try.ntmps26]; decide) (meetsAll_f mTimeR (meetsAll_f mFindR (meetsAll_s mMoveR (meetsAll_nil _)))) (fun av H K h => by obtain ⟨_, _, _, _, rfl, _⟩ := rAddSp_open h; rfl) ?_
  intro av H K h
  obtain ⟨s, id, len, a, rfl, rfl, hs, hK⟩ := rAddSp_open h
  have hal := hs.al
  have g0 := isG_mk hs.ok
  have gF := fit_mk hs
  have hml : (s.mv a a).all.length ≤ 900 := by rw [mv_al']; exact hal
  simp -dsimp only [go_sem, pc26, rs26, g0, gF, g1V_mk]
  refine ⟨fun h1 => .sel [] (by simp) (by simp) rfl (.done ?_), fun h1 => ⟨fun h2 => .sel [] (by simp) (by simp) rfl (.done ?_), fun h2 => ⟨fun h3 => .sel [] (by simp) (by simp) rfl (.done ?_), fun h3 => ?_⟩⟩⟩
  · unfold addL at hK
    simp only [addE, h1, Bool.cond_true] at hK
    exact hK
  · unfold addL at hK
    simp only [addE, h1, h2, Bool.cond_true, Bool.cond_false] at hK
    exact hK
  · unfold addL at hK
    simp only [addE, h1, h2, h3, Bool.cond_true, Bool.cond_false] at hK
    exact hK
  · have hE : addE s id len a = 0 := by simp only [addE, h1, h2, h3, Bool.cond_false]
    have hL : addL s id len a = ⟨a, (s.mv a a).all ++ [⟨id, len, a, true⟩], (s.mv a a).pend⟩ := by unfold addL; rw [hE]; rfl
    rw [hE, hL] at hK
    refine ⟨by omega, .pub 2 _ _ _ rfl (.pub 3 _ _ _ rfl (.sel [] (by simp) (by simp [pubH]) rfl (.done ?_)))⟩
    simp only [lsG, List.map_append, List.map_cons, List.map_nil] at hK
    simpa [go_sem, pubH, mv_now] using hK
def keep (id : Int) (l : List Lz) : List Lz := l.filter fun x => !(x.id == id)
def rmR (s : Ls) (id : Int) : Ls := bif decide (findL s.all id 0 < 0) then s else ⟨s.now, keep id s.all, s.pend⟩
def rRmSp : W.Spec := fun av H K =>
  match av, H with
  | [.va (.gs [.vl (.int .i64 now), .fz ra, .fz rp]), .va (.c1 (.vl (.int .i64 id)))], [] =>
    isFit now ra rp ra.length rp.length ∧ K (.tu [lsG (rmR ⟨now, ra.map C.lz, rp.map C.chg⟩ id), iA .i64 (rmE ⟨now, ra.map C.lz, rp.map C.chg⟩ id)]) []
  | _, _ => False
theorem rRmSp_open {av : List S} {H : Hp} {K : S → Hp → Prop} (h : rRmSp av H K) : ∃ (s : Ls) (id : Int), av = [.va (lsG s), iS .i64 id] ∧ H = [] ∧ s.fit ∧ K (.tu [lsG (rmR s id), iA .i64 (rmE s id)]) [] := by
  unfold rRmSp at h
  split at h
  · rename_i now ra rp id
    obtain ⟨⟨s, rfl, rfl, rfl, _, _, hs⟩, hK⟩ := h
    rw [lz_map, chg_map] at hK
    exact ⟨s, id, rfl, rfl, hs, hK⟩
  · exact h.elim
attribute [go_sem ↓] rRmSp
theorem keep_step {l : List Lz} {id : Int} {i : Nat} {x : Lz} (h : l[i]? = some x) : keep id (l.take (i + 1)) = keep id (l.take i) ++ (bif x.id == id then [] else [x]) := by
  unfold keep
  rw [List.take_add_one, h, List.filter_append]
  cases hd : x.id == id <;> simp [hd]
theorem keep_len (id : Int) (l : List Lz) : (keep id l).length ≤ l.length := List.length_filter_le _ _
set_option maxRecDepth 100000 in
theorem mRemoveR : Meets Try.prog 27 rRmSp := by
  refine meets_fn Try.func27 ok27 2 (by rw [Try.ntmps27]; decide) (meetsAll_f mFindR (meetsAll_nil _)) (fun av H K h => by obtain ⟨_, _, rfl, _⟩ := rRmSp_open h; rfl) ?_
  intro av H K h
  obtain ⟨s, id, rfl, rfl, hs, hK⟩ := rRmSp_open h
  have hal := hs.al
  have g0 := isG_mk hs.ok
  unfold rmR rmE at hK
  cases h1 : decide (findL s.all id 0 < 0) with
  | true =>
    rw [h1] at hK
    simp -dsimp only [go_sem, pc27, rs27, g0, g1V_mk, h1]
    exact .sel [] (by simp) (by simp) rfl (.done hK)
  | false =>
    rw [h1] at hK
    simp -dsimp only [go_sem, pc27, rs27, g0, g1V_mk, h1]
    refine vc_loop_gh (α := Nat) (fun i => [(1, iS .i64 id), (2, .va (.c1 (.pt 0 0))), (4, .va (.c1 (.pt 1 0))), (5, iS .i64 0), (6, .va (.c1 (.pt 2 0))), (7, iS .i64 i)])
      (fun i => [.cells [.vl (.int .i64 s.now), .fz (s.all.map lzC), .fz (s.pend.map chC)] 48, .cells [.vl (.int .i64 0), nilC, nilC] 48, .cells [.vl (.int .i64 s.now), .sl 3 (keep id (s.all.take i)).length, .fz (s.pend.map chC)] 48, .row ((keep id (s.all.take i)).map lzC) 74 4])
      (fun i => i ≤ s.all.length) (fun i => s.all.length - i) (.nilc 2 1 74 4 _ _ rfl rfl (gh_at 0 4 (by omega) ?_ ?_)) ?_
    · simp [go_sem]
    · simp [go_sem, keep, nilC]
    intro i hi
    rcases Nat.lt_or_ge i s.all.length with hlt | hge
    · obtain ⟨x, hx⟩ : ∃ x, s.all[i]? = some x := ⟨_, List.getElem?_eq_getElem hlt⟩
      have q1 := rg_at (row := lzC) hx
      have q2 := rg_at' (row := lzC) hx
      have hg : decide ((i : Int) < (s.all.length : Int)) = true := by simp; omega
      obtain ⟨Z, hZ⟩ : ∃ Z, Z = keep id (s.all.take i) := ⟨_, rfl⟩
      have hZl : Z.length ≤ 900 := by rw [hZ]; have := keep_len id (s.all.take i); rw [List.length_take] at this; omega
      have hst := keep_step (id := id) hx
      rw [← hZ] at hst ⊢
      cases hc : x.id == id with
      | true =>
        rw [hc, Bool.cond_true, List.append_nil] at hst
        have hn : (x.id != id) = false := by unfold bne; rw [hc]; rfl
        simp -dsimp only [go_sem, hg, hn, ↓q1, ↓q2]
        and_intros
        all_goals first
          | omega
          | skip
        refine loop_next (i + 1) 4 (by omega) (by omega) ?_ ?_
        · simp [go_sem]
        · simp [go_sem, hst, nilC]
      | false =>
        rw [hc, Bool.cond_false] at hst
        have hn : (x.id != id) = true := by unfold bne; rw [hc]; rfl
        simp -dsimp only [go_sem, hg, hn, ↓q1, ↓q2]
        and_intros
        all_goals first
          | omega
          | skip
        refine loop_next (i + 1) 4 (by omega) (by omega) ?_ ?_
        · simp [go_sem]
        · simp [go_sem, hst, nilC]
    · obtain rfl : i = s.all.length := by omega
      have hg : decide ((s.all.length : Int) < (s.all.length : Int)) = false := by simp
      rw [List.take_length]
      simp -dsimp only [go_sem, hg]
      refine .pub 3 _ _ _ rfl (.sel [] (by simp) (by simp [pubH]) rfl (.done ?_))
      simpa [go_sem] using hK
def rAsrSp : W.Spec := fun av H K =>
  match av, H with
  | [.va (.gs [.vl (.int .i64 now), .fz ra, .fz rp]), .va (.c1 (.vl (.int .i64 id))), .va (.c1 (.vl (.int .i64 a)))], [] =>
    isFit now ra rp ra.length rp.length ∧ K (.tu [lsG (asrL ⟨now, ra.map C.lz, rp.map C.chg⟩ id a), iA .i64 (asrE ⟨now, ra.map C.lz, rp.map C.chg⟩ id a)]) []
  | _, _ => False
theorem rAsrSp_open {av : List S} {H : Hp} {K : S → Hp → Prop} (h : rAsrSp av H K) : ∃ (s : Ls) (id a : Int), av = [.va (lsG s), iS .i64 id, iS .i64 a] ∧ H = [] ∧ s.fit ∧ K (.tu [lsG (asrL s id a), iA .i64 (asrE s id a)]) [] := by
  unfold rAsrSp at h
  split at h
  · rename_i now ra rp id a
    obtain ⟨⟨s, rfl, rfl, rfl, _, _, hs⟩, hK⟩ := h
    rw [lz_map, chg_map] at hK
    exact ⟨s, id, a, rfl, rfl, hs, hK⟩
  · exact h.elim
attribute [go_sem ↓] rAsrSp
set_option maxRecDepth 100000 in
theorem mAssertR : Meets Try.prog 28 rAsrSp := by
  refine meets_fn Try.func28 ok28 3 (by rw [Try.ntmps28]; decide) (meetsAll_f mTimeR (meetsAll_f mFindR (meetsAll_s mMoveR (meetsAll_nil _)))) (fun av H K h => by obtain ⟨_, _, _, rfl, _⟩ := rAsrSp_open h; rfl) ?_
  intro av H K h
  obtain ⟨s, id, a, rfl, rfl, hs, hK⟩ := rAsrSp_open h
  have hal := hs.al
  have g0 := isG_mk hs.ok
  have gF := fit_mk hs
  obtain ⟨F, hF⟩ : ∃ F, F = findL s.all id 0 := ⟨_, rfl⟩
  obtain ⟨M, hM⟩ : ∃ M, M = (s.mv a a).all := ⟨_, rfl⟩
  obtain ⟨Z, hZ⟩ : ∃ Z, Z = (s.mv a a).pend := ⟨_, rfl⟩
  have hMl : M.length = s.all.length := by rw [hM]; exact List.length_map _
  have hZl : Z.length ≤ 500000 := by rw [hZ]; exact (mv_ok hs a a).pl
  cases h1 : decide (F < 0) with
  | true =>
    simp -dsimp only [go_sem, pc28, rs28, g0, gF, g1V_mk, ← hF, h1]
    unfold asrL at hK
    simp only [asrE, ← hF, h1, Bool.cond_true] at hK
    exact .sel [] (by simp) (by simp) rfl (.done hK)
  | false =>
    have h0 : 0 ≤ F := by simp at h1; omega
    obtain ⟨_, x0, hx0, hxid⟩ := findL_get s.all id 0 (by omega)
    rw [← hF, Nat.sub_zero] at hx0
    have hx : M[F.toNat]? = some (mv1 a x0) := by rw [hM]; show (s.all.map (mv1 a))[F.toNat]? = _; rw [List.getElem?_map, hx0]; rfl
    have hFl := (List.getElem?_eq_some_iff.1 hx0).1
    obtain ⟨x, hxx⟩ : ∃ x, x = mv1 a x0 := ⟨_, rfl⟩
    rw [← hxx] at hx
    have q1 := rg_at (row := lzC) hx
    have hset1 : (M.map lzC).set F.toNat [.vl (.int .i64 x.id), .vl (.int .i64 x.len), .vl (.int .i64 x.ren), .vl (.bool true)] = (M.set F.toNat ⟨x.id, x.len, x.ren, true⟩).map lzC := by rw [List.map_set]
    have hx2 : (M.set F.toNat ⟨x.id, x.len, x.ren, true⟩)[F.toNat]? = some ⟨x.id, x.len, x.ren, true⟩ := by rw [List.getElem?_set, if_pos rfl, if_pos (by omega)]
    have q2 := rg_at (row := lzC) hx2
    have hset2 : ((M.set F.toNat ⟨x.id, x.len, x.ren, true⟩).map lzC).set F.toNat [.vl (.int .i64 x.id), .vl (.int .i64 x.len), .vl (.int .i64 a), .vl (.bool true)] = (M.set F.toNat ⟨x.id, x.len, a, true⟩).map lzC := by rw [show [C.vl (.int .i64 x.id), C.vl (.int .i64 x.len), C.vl (.int .i64 a), C.vl (.bool true)] = lzC ⟨x.id, x.len, a, true⟩ from rfl, ← List.map_set, List.set_set]
    simp -dsimp only [go_sem, pc28, rs28, g0, gF, g1V_mk, ← hF, h1, ← hM, ← hZ, ↓q1, ↓q2, hset1, hset2]
    have hMl3 : ∀ y : Lz, (M.set F.toNat y).length = M.length := fun y => List.length_set
    refine ⟨fun h2 => .sel [] (by simp) (by simp) rfl (.done ?_), fun h2 => ⟨fun h3 => .sel [] (by simp) (by simp) rfl (.done ?_), fun h3 => ?_⟩⟩
    · unfold asrL at hK
      simp only [asrE, ← hF, h1, h2, Bool.cond_true, Bool.cond_false, Bool.not_false] at hK
      exact hK
    · unfold asrL at hK
      simp only [asrE, ← hF, h1, h2, h3, Bool.cond_true, Bool.cond_false] at hK
      exact hK
    · have hE : asrE s id a = 0 := by simp only [asrE, ← hF, h1, h2, h3, Bool.cond_false]
      have hL : asrL s id a = ⟨a, M.set F.toNat ⟨x.id, x.len, a, true⟩, bif x.up then Z else Z ++ [⟨id, a, true⟩]⟩ := by
        unfold asrL
        rw [hE, ← hF, ← hM, ← hZ, hx]; rfl
      rw [hE, hL] at hK
      have hMZ : (s.mv a a).now = a := rfl
      refine ⟨by omega, by omega, fun h4 => ?_, fun h4 => ?_⟩
      · rw [h4, Bool.cond_false] at hK
        simp only [lsG, List.map_append, List.map_cons, List.map_nil] at hK
        and_intros
        all_goals first
          | omega
          | (exact hMl3 _)
          | (rw [hMl3]; omega)
          | skip
        refine .pub 2 _ _ _ rfl (.pub 3 _ _ _ rfl (.sel [] (by simp) (by simp [pubH]) rfl (.done ?_)))
        simpa [go_sem, pubH, mv_now, hMl3] using hK
      · have h4' : x.up = true := by simpa using h4
        rw [h4', Bool.cond_true] at hK
        simp only [lsG] at hK
        and_intros
        all_goals first
          | omega
          | (exact hMl3 _)
          | (rw [hMl3]; omega)
          | skip
        refine .pub 2 _ _ _ rfl (.pub 3 _ _ _ rfl (.sel [] (by simp) (by simp [pubH]) rfl (.done ?_)))
        simpa [go_sem, pubH, mv_now, hMl3] using hK
def rChkSp : W.Spec := fun av H K =>
  match av, H with
  | [.va (.gs [.vl (.int .i64 now), .fz ra, .fz rp]), .va (.c1 (.vl (.int .i64 a)))], [] =>
    isFit now ra rp ra.length rp.length ∧ K (.tu [lsG (chkL ⟨now, ra.map C.lz, rp.map C.chg⟩ a), .c1 (.fz ((chkG ⟨now, ra.map C.lz, rp.map C.chg⟩ a).map chC))]) []
  | _, _ => False
theorem rChkSp_open {av : List S} {H : Hp} {K : S → Hp → Prop} (h : rChkSp av H K) : ∃ (s : Ls) (a : Int), av = [.va (lsG s), iS .i64 a] ∧ H = [] ∧ s.fit ∧ K (.tu [lsG (chkL s a), .c1 (.fz ((chkG s a).map chC))]) [] := by
  unfold rChkSp at h
  split at h
  · rename_i now ra rp a
    obtain ⟨⟨s, rfl, rfl, rfl, _, _, hs⟩, hK⟩ := h
    rw [lz_map, chg_map] at hK
    exact ⟨s, a, rfl, rfl, hs, hK⟩
  · exact h.elim
attribute [go_sem ↓] rChkSp
set_option maxRecDepth 100000 in
theorem mCheckR : Meets Try.prog 29 rChkSp := by
  refine meets_fn Try.func29 ok29 2 (by rw [Try.ntmps29]; decide) (meetsAll_s mMoveR (meetsAll_s mSortedR (meetsAll_nil _))) (fun av H K h => by obtain ⟨_, _, rfl, _⟩ := rChkSp_open h; rfl) ?_
  intro av H K h
  obtain ⟨s, a, rfl, rfl, hs, hK⟩ := rChkSp_open h
  have hnw := hs.nw
  have gF := fit_mk hs
  obtain ⟨M, hM⟩ : ∃ M, M = (s.mv a (a + 1)).all := ⟨_, rfl⟩
  obtain ⟨Z, hZ⟩ : ∃ Z, Z = (s.mv a (a + 1)).pend := ⟨_, rfl⟩
  have hZl : Z.length ≤ 500000 := by rw [hZ]; exact (mv_ok hs a (a + 1)).pl
  unfold chkL chkG at hK
  rw [← hM, ← hZ] at hK
  simp -dsimp only [go_sem, pc29, rs29, gF, ← hM, ← hZ]
  refine ⟨fun h1 => .sel [] (by simp) (by simp) rfl (.done ?_), fun h1 => ?_⟩
  · have h2 : chkB s a = true := h1
    rw [h2] at hK
    simpa [go_sem] using hK
  · have h2 : chkB s a = false := h1
    rw [h2] at hK
    refine ⟨by simp at h1; omega, Gh.pub 3 _ _ _ rfl (.done ?_)⟩
    have c0 : isCh (Z.map chC) := isCh_mk (by omega)
    simp -dsimp only [go_sem, pubH, c0]
    refine .pub 2 _ _ _ rfl (.sel [] (by simp) (by simp [pubH]) rfl (.done ?_))
    simp only [lsG, Bool.cond_false] at hK
    simpa [go_sem, pubH, mv_now] using hK
end Go.Proofs.Ytngmjggconefcaa
