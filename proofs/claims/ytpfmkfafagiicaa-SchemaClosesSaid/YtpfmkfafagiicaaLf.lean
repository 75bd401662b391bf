/- Lemmas and walks for the proof. -/
import Derived.Test.YtpfmkfafagiicaaLe
/- SchemaCloses. -/
namespace Go.Proofs.Ytpfmkfafagiicaa
open Go.W
set_option maxRecDepth 100000 in
set_option maxHeartbeats 4000000 in
theorem mLawCloses : Meets Try.prog 7 lawFn.sp := by
  refine meets_fn Try.func7 okF7 1 (by rw [Try.ntmps7]; decide) (meetsAll_f mFew (meetsAll_f mAwake (meetsAll_f mCheck (meetsAll_s mUsesP (meetsAll_s mStructP (meetsAll_s mEnumP (meetsAll_f mDepthP (meetsAll_f mHas (meetsAll_nil _))))))))) gFn_len ?_
  rintro av H K ⟨⟨h, rfl⟩, hK⟩
  obtain ⟨_, rfl, s, rfl, hs⟩ := gPre_open h
  have hK : K (bS true) [] := hK
  clear h
  have fin : ∀ R : Hp, W.Fin 0 K (bS true) R := fun R => .sel [] (by simp) (by simp) rfl (.done (by simpa [go_sem] using hK))
  have hsc : isSc (scC s) := isSc_mk hs
  have hdec : C.sc [.vl (.int .i64 s.ver), .fz (s.es.map enC), .fz (s.ss.map stC)] = s := sc_dec s
  rw [scC] at hsc
  cases hf : fewS s with
  | false =>
    simp (maxSteps := 1000000) -dsimp only [go_sem, scC, pcF7, rsF7, hsc, hdec, hf, Bool.not_false]
    exact fin _
  | true =>
  have hfit := few_fit hs hf
  have hsf := isScF_mk hfit
  rw [scC] at hsf
  cases hc0 : (checkF s != 0) with
  | true =>
    simp (maxSteps := 1000000) -dsimp only [go_sem, scC, pcF7, rsF7, hsc, hsf, hdec, hf, hc0, Bool.not_true]
    exact fin _
  | false =>
  have hck : checkF s = 0 := by simpa using hc0
  obtain ⟨g, hacy, _, _, _, _, _, hd6⟩ := check_good hfit hck
  have hls := hfit.ok.ls
  simp (maxSteps := 1000000) -dsimp only [go_sem, scC, pcF7, rsF7, hsc, hsf, hdec, hf, hc0, Bool.not_true]
  refine vc_loop (α := Nat) (fun i => [(1, .va (.c1 (.pt 0 0))), (3, iS .i64 i)]) (fun _ => [.cells (scC s) 25])
    (fun i => i ≤ s.ss.length) (fun i => s.ss.length - i) 0 1 (Nat.zero_le _) ?_ ?_ ?_
  · simp -dsimp only [go_sem] <;> simp
  · simp -dsimp only [go_sem, scC] <;> simp
  intro i hi
  rcases Nat.lt_or_ge i s.ss.length with hlt | hge
  · have hg : decide ((i : Int) < (s.ss.length : Int)) = true := by simp; omega
    obtain ⟨t, htx⟩ : ∃ e, s.ss[i]? = some e := ⟨_, List.getElem?_eq_getElem hlt⟩
    have htm := List.mem_of_getElem? htx
    have q1 := row_rg' (row := stC) htx
    have hul : usL s t.nm = usesF s.ss t.nm := by unfold usL; rw [okS_mem hck htm]; rfl
    have hlen := usL_len hfit t.nm
    have hasc := usesF_asc s.ss t.nm
    simp (maxSteps := 1000000) -dsimp only [go_sem, hg, ↓q1, scC, stC]
    refine ⟨by omega, usp_use hfit ?_⟩
    rw [hul] at hlen ⊢
    have hml : ∀ x ∈ usesF s.ss t.nm, x ∈ usesF s.ss t.nm := fun x h => h
    obtain ⟨l, hl⟩ : ∃ l, usesF s.ss t.nm = l := ⟨_, rfl⟩
    rw [hl] at hlen hasc ⊢
    simp (maxSteps := 1000000) -dsimp only [go_sem]
    refine vc_tail (up := [(1, .va (.c1 (.pt 0 0))), (3, iS .i64 i), (4, tS t.nm), (5, .va (.c1 (.fz (l.map stR))))]) (Hs := [.cells (scC s) 25]) 1 ?_ ?_ ?_
    rotate_left
    · simp -dsimp only [go_sem] <;> simp
    · simp -dsimp only [go_sem, scC] <;> simp
    simp (maxSteps := 1000000) -dsimp only [go_sem, pcF7_8]
    refine vc_loop (α := Nat) (fun k => [(1, .va (.c1 (.pt 0 0))), (3, iS .i64 i), (4, tS t.nm), (5, .va (.c1 (.fz (l.map stR)))), (6, iS .i64 k)]) (fun _ => [.cells (scC s) 25])
      (fun k => k ≤ l.length) (fun k => l.length - k) 0 1 (Nat.zero_le _) ?_ ?_ ?_
    · simp -dsimp only [go_sem] <;> simp
    · simp -dsimp only [go_sem, scC] <;> simp
    intro k hk
    rcases Nat.lt_or_ge k l.length with hkt | hkg
    · have hgk : decide ((k : Int) < (l.length : Int)) = true := by simp; omega
      obtain ⟨x, hx⟩ : ∃ e, l[k]? = some e := ⟨_, List.getElem?_eq_getElem hkt⟩
      have hxm := List.mem_of_getElem? hx
      have hxu : x ∈ usesF s.ss t.nm := by rw [hl]; exact hxm
      have q2 := row_rg' (row := stR) hx
      simp (maxSteps := 1000000) -dsimp only [go_sem, hgk, scC, ↓q2]
      refine ⟨by omega, stp_use hfit ?_⟩
      simp (maxSteps := 1000000) -dsimp only [go_sem, stC]
      refine vc_tail (up := [(1, .va (.c1 (.pt 0 0))), (3, iS .i64 i), (4, tS t.nm), (5, .va (.c1 (.fz (l.map stR)))), (6, iS .i64 k), (8, bS (hasS s.ss x))]) (Hs := [.cells (scC s) 25]) 1 ?_ ?_ ?_
      rotate_left
      · simp -dsimp only [go_sem] <;> simp
      · simp -dsimp only [go_sem, scC] <;> simp
      simp (maxSteps := 1000000) -dsimp only [go_sem, scC, pcF7_12, ↓q2]
      refine ⟨by omega, enp_use hfit ?_⟩
      simp (maxSteps := 1000000) -dsimp only [go_sem, enC]
      refine vc_tail (up := [(1, .va (.c1 (.pt 0 0))), (3, iS .i64 i), (4, tS t.nm), (5, .va (.c1 (.fz (l.map stR)))), (6, iS .i64 k), (8, bS (hasS s.ss x)), (10, bS (hasE s.es x))]) (Hs := [.cells (scC s) 25]) 1 ?_ ?_ ?_
      rotate_left
      · simp -dsimp only [go_sem] <;> simp
      · simp -dsimp only [go_sem, scC] <;> simp
      have f1 : (!(hasS s.ss x ^^ hasE s.es x)) = false ∧ (hasS s.ss x == hasE s.es x) = false := by
        rcases one_of hfit hck hxu with ⟨h1, h2⟩ | ⟨h1, h2⟩ <;> rw [h1, h2] <;> exact ⟨rfl, rfl⟩
      obtain ⟨f1, f1'⟩ := f1
      have f2 : decide (x = t.nm) = false := decide_eq_false fun e => by
        have h1 := hacy t htm
        rw [not_inB, ← e] at h1
        rw [← e] at hxu
        exact h1 hxu
      have f3 : decide (dpF s t.nm ≤ dpF s x) = false := decide_eq_false (by have := dpF_lt hfit hck htm hxu; omega)
      rcases Nat.eq_zero_or_pos k with h0 | h0
      · have g0 : decide (0 < (k : Int)) = false := by simp; omega
        simp (maxSteps := 1000000) -dsimp only [go_sem, scC, pcF7_13, ↓q2, hsf, hdec, f1', f2, f3, g0, bl_beq, Bool.and_false]
        refine ⟨by omega, by omega, ?_⟩
        refine vc_tail (up := [(1, .va (.c1 (.pt 0 0))), (3, iS .i64 i), (4, tS t.nm), (5, .va (.c1 (.fz (l.map stR)))), (6, iS .i64 k)]) (Hs := [.cells (scC s) 25]) 1 ?_ ?_ ?_
        rotate_left
        · simp -dsimp only [go_sem] <;> simp
        · simp -dsimp only [go_sem, scC] <;> simp
        simp (maxSteps := 1000000) -dsimp only [go_sem, scC, pcF7_15, ↓q2]
        refine ⟨by omega, usp_use hfit ?_⟩
        simp (maxSteps := 1000000) -dsimp only [go_sem]
        have hml := usL_len hfit x
        have hms : ∀ y ∈ usL s x, y ∈ l := fun y hy => by rw [← hl]; exact usL_sub hxu hy
        generalize usL s x = m at *
        refine vc_tail (up := [(1, .va (.c1 (.pt 0 0))), (3, iS .i64 i), (4, tS t.nm), (5, .va (.c1 (.fz (l.map stR)))), (6, iS .i64 k), (11, .va (.c1 (.fz (m.map stR))))]) (Hs := [.cells (scC s) 25]) 1 ?_ ?_ ?_
        rotate_left
        · simp -dsimp only [go_sem] <;> simp
        · simp -dsimp only [go_sem, scC] <;> simp
        simp (maxSteps := 1000000) -dsimp only [go_sem, pcF7_16]
        refine vc_loop (α := Nat) (fun j => [(1, .va (.c1 (.pt 0 0))), (3, iS .i64 i), (4, tS t.nm), (5, .va (.c1 (.fz (l.map stR)))), (6, iS .i64 k), (11, .va (.c1 (.fz (m.map stR)))), (12, iS .i64 j)]) (fun _ => [.cells (scC s) 25])
          (fun j => j ≤ m.length) (fun j => m.length - j) 0 1 (Nat.zero_le _) ?_ ?_ ?_
        · simp -dsimp only [go_sem] <;> simp
        · simp -dsimp only [go_sem, scC] <;> simp
        intro j hj
        rcases Nat.lt_or_ge j m.length with hjt | hjg
        · have hgj : decide ((j : Int) < (m.length : Int)) = true := by simp; omega
          obtain ⟨y, hy⟩ : ∃ e, m[j]? = some e := ⟨_, List.getElem?_eq_getElem hjt⟩
          have q3 := row_rg' (row := stR) hy
          have hin : inB l y = true := (inB_iff _ _).2 (hms y (List.mem_of_getElem? hy))
          have hbs : isBs (l.map stR) := isBs_mk (by omega)
          simp (maxSteps := 1000000) -dsimp only [go_sem, hgj, ↓q3, hbs, hin]
          refine ⟨by omega, by omega, loop_next (j + 1) 1 (by omega) (by omega) ?_ ?_⟩
          · simp -dsimp only [go_sem] <;> simp
          · simp -dsimp only [go_sem, scC] <;> simp
        · have hgj : decide ((j : Int) < (m.length : Int)) = false := by simp; omega
          simp (maxSteps := 1000000) -dsimp only [go_sem, hgj, scC]
          refine ⟨by omega, loop_next (k + 1) 1 (by omega) (by omega) ?_ ?_⟩
          · simp -dsimp only [go_sem] <;> simp
          · simp -dsimp only [go_sem, scC] <;> simp
      · have g0 : decide (0 < (k : Int)) = true := by simp; omega
        obtain ⟨z, hz⟩ : ∃ e, l[k - 1]? = some e := ⟨_, List.getElem?_eq_getElem (by omega)⟩
        have q4 : ((k : Int) - 1).toNat = k - 1 := by omega
        have q5 := row_rg (row := stR) hz
        have f4 : Op.bytesLess (bl z) (bl x) = true := by
          rw [bless]
          refine decide_eq_true ?_
          obtain ⟨h1, e1⟩ := List.getElem?_eq_some_iff.1 hz
          obtain ⟨h2, e2⟩ := List.getElem?_eq_some_iff.1 hx
          rw [← e1, ← e2]
          exact (List.pairwise_iff_getElem.1 hasc) (k - 1) k h1 h2 (by omega)
        simp (maxSteps := 1000000) -dsimp only [go_sem, scC, pcF7_13, hz, q4, f4, Option.some.injEq, forall_eq', Bool.not_true, ↓q2, hsf, hdec, f1', f2, f3, g0, bl_beq, Bool.and_true]
        refine ⟨by omega, by omega, by omega, by omega, by omega, ?_⟩
        refine vc_tail (up := [(1, .va (.c1 (.pt 0 0))), (3, iS .i64 i), (4, tS t.nm), (5, .va (.c1 (.fz (l.map stR)))), (6, iS .i64 k)]) (Hs := [.cells (scC s) 25]) 1 ?_ ?_ ?_
        rotate_left
        · simp -dsimp only [go_sem] <;> simp
        · simp -dsimp only [go_sem, scC] <;> simp
        simp (maxSteps := 1000000) -dsimp only [go_sem, scC, pcF7_15, ↓q2]
        refine ⟨by omega, usp_use hfit ?_⟩
        simp (maxSteps := 1000000) -dsimp only [go_sem]
        have hml := usL_len hfit x
        have hms : ∀ y ∈ usL s x, y ∈ l := fun y hy => by rw [← hl]; exact usL_sub hxu hy
        generalize usL s x = m at *
        refine vc_tail (up := [(1, .va (.c1 (.pt 0 0))), (3, iS .i64 i), (4, tS t.nm), (5, .va (.c1 (.fz (l.map stR)))), (6, iS .i64 k), (11, .va (.c1 (.fz (m.map stR))))]) (Hs := [.cells (scC s) 25]) 1 ?_ ?_ ?_
        rotate_left
        · simp -dsimp only [go_sem] <;> simp
        · simp -dsimp only [go_sem, scC] <;> simp
        simp (maxSteps := 1000000) -dsimp only [go_sem, pcF7_16]
        refine vc_loop (α := Nat) (fun j => [(1, .va (.c1 (.pt 0 0))), (3, iS .i64 i), (4, tS t.nm), (5, .va (.c1 (.fz (l.map stR)))), (6, iS .i64 k), (11, .va (.c1 (.fz (m.map stR)))), (12, iS .i64 j)]) (fun _ => [.cells (scC s) 25])
          (fun j => j ≤ m.length) (fun j => m.length - j) 0 1 (Nat.zero_le _) ?_ ?_ ?_
        · simp -dsimp only [go_sem] <;> simp
        · simp -dsimp only [go_sem, scC] <;> simp
        intro j hj
        rcases Nat.lt_or_ge j m.length with hjt | hjg
        · have hgj : decide ((j : Int) < (m.length : Int)) = true := by simp; omega
          obtain ⟨y, hy⟩ : ∃ e, m[j]? = some e := ⟨_, List.getElem?_eq_getElem hjt⟩
          have q3 := row_rg' (row := stR) hy
          have hin : inB l y = true := (inB_iff _ _).2 (hms y (List.mem_of_getElem? hy))
          have hbs : isBs (l.map stR) := isBs_mk (by omega)
          simp (maxSteps := 1000000) -dsimp only [go_sem, hgj, ↓q3, hbs, hin]
          refine ⟨by omega, by omega, loop_next (j + 1) 1 (by omega) (by omega) ?_ ?_⟩
          · simp -dsimp only [go_sem] <;> simp
          · simp -dsimp only [go_sem, scC] <;> simp
        · have hgj : decide ((j : Int) < (m.length : Int)) = false := by simp; omega
          simp (maxSteps := 1000000) -dsimp only [go_sem, hgj, scC]
          refine ⟨by omega, loop_next (k + 1) 1 (by omega) (by omega) ?_ ?_⟩
          · simp -dsimp only [go_sem] <;> simp
          · simp -dsimp only [go_sem, scC] <;> simp
    · have hgk : decide ((k : Int) < (l.length : Int)) = false := by simp; omega
      simp (maxSteps := 1000000) -dsimp only [go_sem, hgk, scC]
      refine vc_tail (up := [(1, .va (.c1 (.pt 0 0))), (3, iS .i64 i), (4, tS t.nm)]) (Hs := [.cells (scC s) 25]) 1 ?_ ?_ ?_
      rotate_left
      · simp -dsimp only [go_sem] <;> simp
      · simp -dsimp only [go_sem, scC] <;> simp
      have d1 : decide (dpF s t.nm < 1) = false := by
        refine decide_eq_false ?_
        have := dN_pos s.ss (dK + 1) t.nm
        unfold dpF
        rw [okS_mem hck htm, Bool.cond_true, dD_def]; omega
      have d2 : decide (6 < dpF s t.nm) = false := by
        refine decide_eq_false ?_
        have := hd6 t htm
        unfold dpF
        rw [okS_mem hck htm, Bool.cond_true]; omega
      simp (maxSteps := 1000000) -dsimp only [go_sem, scC, pcF7_21, hsf, hdec, d1, d2]
      refine ⟨by omega, loop_next (i + 1) 1 (by omega) (by omega) ?_ ?_⟩
      · simp -dsimp only [go_sem] <;> simp
      · simp -dsimp only [go_sem, scC] <;> simp
  · have hg : decide ((i : Int) < (s.ss.length : Int)) = false := by simp; omega
    simp (maxSteps := 1000000) -dsimp only [go_sem, hg, scC]
    exact fin _
end Go.Proofs.Ytpfmkfafagiicaa
