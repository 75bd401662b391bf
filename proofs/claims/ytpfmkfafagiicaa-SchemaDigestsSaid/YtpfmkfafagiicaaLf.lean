/- Lemmas and walks for the proof. -/
import Derived.Test.YtpfmkfafagiicaaLe
import Derived.Test.YtpfmkfafagiicaaProg
import Derived.WalkKit
import Derived.Laws.IdiomStrings
/- SchemaCloses. -/
namespace Go.Proofs.Ytpfmkfafagiicaa
open Go.W
set_option maxRecDepth 100000 in
set_option maxHeartbeats 4000000 in
theorem mLawCloses : Meets Try.prog 7 lawFn.sp := by
  refine meets_fn Try.func7 okF7 1 (by rw [Try.ntmps7]; decide) (meetsAll_f mFew (meetsAll_f mAwake (meetsAll_f mCheck (meetsAll_s mUsesP (meetsAll_s mStructP (meetsAll_s mEnumP (meetsAll_f mDepthP (meetsAll_f mHas (meetsAll_nil _))))))))) gFn_len ?_
  rintro av H K ⟨⟨h, rfl⟩, hK⟩
  obtain ⟨_, rfl, s, rfl, hs⟩ := gPre_open h
  have hK : K (bS true) [] := hK
  clear h
  have fin : ∀ R : Hp, W.Fin 0 K (bS true) R := fun R => .sel [] (by simp) (by simp) rfl (.done (by simpa [go_sem] using hK))
  have hsc : isSc (scC s) := isSc_mk hs
  have hdec : C.sc [.vl (.int .i64 s.ver), .fz (s.es.map enC), .fz (s.ss.map stC)] = s := sc_dec s
  rw [scC] at hsc
  cases hf : fewS s with
  | false =>
    simp (maxSteps := 1000000) -dsimp only [go_sem, scC, pcF7, rsF7, hsc, hdec, hf, Bool.not_false]
    exact fin _
  | true =>
  have hfit := few_fit hs hf
  have hsf := isScF_mk hfit
  rw [scC] at hsf
  cases hc0 : (checkF s != 0) with
  | true =>
    simp (maxSteps := 1000000) -dsimp only [go_sem, scC, pcF7, rsF7, hsc, hsf, hdec, hf, hc0, Bool.not_true]
    exact fin _
  | false =>
  have hck : checkF s = 0 := by simpa using hc0
  obtain ⟨g, hacy, _, _, _, _, _, hd6⟩ := check_good hfit hck
  have hls := hfit.ok.ls
  simp (maxSteps := 1000000) -dsimp only [go_sem, scC, pcF7, rsF7, hsc, hsf, hdec, hf, hc0, Bool.not_true]
  refine vc_loop (α := Nat) (fun i => [(1, .va (.c1 (.pt 0 0))), (3, iS .i64 i)]) (fun _ => [.cells (scC s) 25])
    (fun i => i ≤ s.ss.length) (fun i => s.ss.length - i) 0 1 (Nat.zero_le _) ?_ ?_ ?_
  · simp -dsimp only [go_sem] <;> simp
  · simp -dsimp only [go_sem, scC] <;> simp
  intro i hi
  rcases Nat.lt_or_ge i s.ss.length with hlt | hge
  · have hg : decide ((i : Int) < (s.ss.length : Int)) = true := by simp; omega
    obtain ⟨t, htx⟩ : ∃ e, s.ss[i]? = some e := ⟨_, List.getElem?_eq_getElem hlt⟩
    have htm := List.mem_of_getElem? htx
    have q1 := row_rg' (row := stC) htx
    have hul : usL s t.nm = usesF s.ss t.nm := by unfold usL; rw [okS_mem hck htm]; rfl
    have hlen := usL_len hfit t.nm
    have hasc := usesF_asc s.ss t.nm
    simp (maxSteps := 1000000) -dsimp only [go_sem, hg, ↓q1, scC, stC]
    refine ⟨by omega, usp_use hfit ?_⟩
    rw [hul] at hlen ⊢
    have hml : ∀ x ∈ usesF s.ss t.nm, x ∈ usesF s.ss t.nm := fun x h => h
    obtain ⟨l, hl⟩ : ∃ l, usesF s.ss t.nm = l := ⟨_, rfl⟩
    rw [hl] at hlen hasc ⊢
    simp (maxSteps := 1000000) -dsimp only [go_sem]
    refine vc_tail (up := [(1, .va (.c1 (.pt 0 0))), (3, iS .i64 i), (4, tS t.nm), (5, .va (.c1 (.fz (l.map stR))))]) (Hs := [.cells (scC s) 25]) 1 ?_ ?_ ?_
    rotate_left
    · simp -dsimp only [go_sem] <;> simp
    · simp -dsimp only [go_sem, scC] <;> simp
    simp (maxSteps := 1000000) -dsimp only [go_sem, pcF7_8]
    refine vc_loop (α := Nat) (fun k => [(1, .va (.c1 (.pt 0 0))), (3, iS .i64 i), (4, tS t.nm), (5, .va (.c1 (.fz (l.map stR)))), (6, iS .i64 k)]) (fun _ => [.cells (scC s) 25])
      (fun k => k ≤ l.length) (fun k => l.length - k) 0 1 (Nat.zero_le _) ?_ ?_ ?_
    · simp -dsimp only [go_sem] <;> simp
    · simp -dsimp only [go_sem, scC] <;> simp
    intro k hk
    rcases Nat.lt_or_ge k l.length with hkt | hkg
    · have hgk : decide ((k : Int) < (l.length : Int)) = true := by simp; omega
      obtain ⟨x, hx⟩ : ∃ e, l[k]? = some e := ⟨_, List.getElem?_eq_getElem hkt⟩
      have hxm := List.mem_of_getElem? hx
      have hxu : x ∈ usesF s.ss t.nm := by rw [hl]; exact hxm
      have q2 := row_rg' (row := stR) hx
      simp (maxSteps := 1000000) -dsimp only [go_sem, hgk, scC, ↓q2]
      refine ⟨by omega, stp_use hfit ?_⟩
      simp (maxSteps := 1000000) -dsimp only [go_sem, stC]
      refine vc_tail (up := [(1, .va (.c1 (.pt 0 0))), (3, iS .i64 i), (4, tS t.nm), (5, .va (.c1 (.fz (l.map stR)))), (6, iS .i64 k), (8, bS (hasS s.ss x))]) (Hs := [.cells (scC s) 25]) 1 ?_ ?_ ?_
      rotate_left
      · simp -dsimp only [go_sem] <;> simp
      · simp -dsimp only [go_sem, scC] <;> simp
      simp (maxSteps := 1000000) -dsimp only [go_sem, scC, pcF7_12, ↓q2]
      refine ⟨by omega, enp_use hfit ?_⟩
      simp (maxSteps := 1000000) -dsimp only [go_sem, enC]
      refine vc_tail (up := [(1, .va (.c1 (.pt 0 0))), (3, iS .i64 i), (4, tS t.nm), (5, .va (.c1 (.fz (l.map stR)))), (6, iS .i64 k), (8, bS (hasS s.ss x)), (10, bS (hasE s.es x))]) (Hs := [.cells (scC s) 25]) 1 ?_ ?_ ?_
      rotate_left
      · simp -dsimp only [go_sem] <;> simp
      · simp -dsimp only [go_sem, scC] <;> simp
      have f1 : (!(hasS s.ss x ^^ hasE s.es x)) = false ∧ (hasS s.ss x == hasE s.es x) = false := by
        rcases one_of hfit hck hxu with ⟨h1, h2⟩ | ⟨h1, h2⟩ <;> rw [h1, h2] <;> exact ⟨rfl, rfl⟩
      obtain ⟨f1, f1'⟩ := f1
      have f2 : decide (x = t.nm) = false := decide_eq_false fun e => by
        have h1 := hacy t htm
        rw [not_inB, ← e] at h1
        rw [← e] at hxu
        exact h1 hxu
      have f3 : decide (dpF s t.nm ≤ dpF s x) = false := decide_eq_false (by have := dpF_lt hfit hck htm hxu; omega)
      rcases Nat.eq_zero_or_pos k with h0 | h0
      · have g0 : decide (0 < (k : Int)) = false := by simp; omega
        simp (maxSteps := 1000000) -dsimp only [go_sem, scC, pcF7_13, ↓q2, hsf, hdec, f1', f2, f3, g0, bl_beq, Bool.and_false]
        refine ⟨by omega, by omega, ?_⟩
        refine vc_tail (up := [(1, .va (.c1 (.pt 0 0))), (3, iS .i64 i), (4, tS t.nm), (5, .va (.c1 (.fz (l.map stR)))), (6, iS .i64 k)]) (Hs := [.cells (scC s) 25]) 1 ?_ ?_ ?_
        rotate_left
        · simp -dsimp only [go_sem] <;> simp
        · simp -dsimp only [go_sem, scC] <;> simp
        simp (maxSteps := 1000000) -dsimp only [go_sem, scC, pcF7_15, ↓q2]
        refine ⟨by omega, usp_use hfit ?_⟩
        simp (maxSteps := 1000000) -dsimp only [go_sem]
        have hml := usL_len hfit x
        have hms : ∀ y ∈ usL s x, y ∈ l := fun y hy => by rw [← hl]; exact usL_sub hxu hy
        generalize usL s x = m at *
        refine vc_tail (up := [(1, .va (.c1 (.pt 0 0))), (3, iS .i64 i), (4, tS t.nm), (5, .va (.c1 (.fz (l.map stR)))), (6, iS .i64 k), (11, .va (.c1 (.fz (m.map stR))))]) (Hs := [.cells (scC s) 25]) 1 ?_ ?_ ?_
        rotate_left
        · simp -dsimp only [go_sem] <;> simp
        · simp -dsimp only [go_sem, scC] <;> simp
        simp (maxSteps := 1000000) -dsimp only [go_sem, pcF7_16]
        refine vc_loop (α := Nat) (fun j => [(1, .va (.c1 (.pt 0 0))), (3, iS .i64 i), (4, tS t.nm), (5, .va (.c1 (.fz (l.map stR)))), (6, iS .i64 k), (11, .va (.c1 (.fz (m.map stR)))), (12, iS .i64 j)]) (fun _ => [.cells (scC s) 25])
          (fun j => j ≤ m.length) (fun j => m.length - j) 0 1 (Nat.zero_le _) ?_ ?_ ?_
        · simp -dsimp only [go_sem] <;> simp
        · simp -dsimp only [go_sem, scC] <;> simp
        intro j hj
        rcases Nat.lt_or_ge j m.length with hjt | hjg
        · have hgj : decide ((j : Int) < (m.length : Int)) = true := by simp; omega
          obtain ⟨y, hy⟩ : ∃ e, m[j]? = some e := ⟨_, List.getElem?_eq_getElem hjt⟩
          have q3 := row_rg' (row := stR) hy
          have hin : inB l y = true := (inB_iff _ _).2 (hms y (List.mem_of_getElem? hy))
          have hbs : isBs (l.map stR) := isBs_mk (by omega)
          simp (maxSteps := 1000000) -dsimp only [go_sem, hgj, ↓q3, hbs, hin]
          refine ⟨by omega, by omega, loop_next (j + 1) 1 (by omega) (by omega) ?_ ?_⟩
          · simp -dsimp only [go_sem] <;> simp
          · simp -dsimp only [go_sem, scC] <;> simp
        · have hgj : decide ((j : Int) < (m.length : Int)) = false := by simp; omega
          simp (maxSteps := 1000000) -dsimp only [go_sem, hgj, scC]
          refine ⟨by omega, loop_next (k + 1) 1 (by omega) (by omega) ?_ ?_⟩
          · simp -dsimp only [go_sem] <;> simp
          · simp -dsimp only [go_sem, scC] <;> simp
      · have g0 : decide (0 < (k : Int)) = true := by simp; omega
        obtain ⟨z, hz⟩ : ∃ e, l[k - 1]? = some e := ⟨_, List.getElem?_eq_getElem (by omega)⟩
        have q4 : ((k : Int) - 1).toNat = k - 1 := by omega
        have q5 := row_rg (row := stR) hz
        have f4 : Op.bytesLess (bl z) (bl x) = true := by
          rw [bless]
          refine decide_eq_true ?_
          obtain ⟨h1, e1⟩ := List.getElem?_eq_some_iff.1 hz
          obtain ⟨h2, e2⟩ := List.getElem?_eq_some_iff.1 hx
          rw [← e1, ← e2]
          exact (List.pairwise_iff_getElem.1 hasc) (k - 1) k h1 h2 (by omega)
        simp (maxSteps := 1000000) -dsimp only [go_sem, scC, pcF7_13, hz, q4, f4, Option.some.injEq, forall_eq', Bool.not_true, ↓q2, hsf, hdec, f1', f2, f3, g0, bl_beq, Bool.and_true]
        refine ⟨by omega, by omega, by omega, by omega, by omega, ?_⟩
        refine vc_tail (up := [(1, .va (.c1 (.pt 0 0))), (3, iS .i64 i), (4, tS t.nm), (5, .va (.c1 (.fz (l.map stR)))), (6, iS .i64 k)]) (Hs := [.cells (scC s) 25]) 1 ?_ ?_ ?_
        rotate_left
        · simp -dsimp only [go_sem] <;> simp
        · simp -dsimp only [go_sem, scC] <;> simp
        simp (maxSteps := 1000000) -dsimp only [go_sem, scC, pcF7_15, ↓q2]
        refine ⟨by omega, usp_use hfit ?_⟩
        simp (maxSteps := 1000000) -dsimp only [go_sem]
        have hml := usL_len hfit x
        have hms : ∀ y ∈ usL s x, y ∈ l := fun y hy => by rw [← hl]; exact usL_sub hxu hy
        generalize usL s x = m at *
        refine vc_tail (up := [(1, .va (.c1 (.pt 0 0))), (3, iS .i64 i), (4, tS t.nm), (5, .va (.c1 (.fz (l.map stR)))), (6, iS .i64 k), (11, .va (.c1 (.fz (m.map stR))))]) (Hs := [.cells (scC s) 25]) 1 ?_ ?_ ?_
        rotate_left
        · simp -dsimp only [go_sem] <;> simp
        · simp -dsimp only [go_sem, scC] <;> simp
        simp (maxSteps := 1000000) -dsimp only [go_sem, pcF7_16]
        refine vc_loop (α := Nat) (fun j => [(1, .va (.c1 (.pt 0 0))), (3, iS .i64 i), (4, tS t.nm), (5, .va (.c1 (.fz (l.map stR)))), (6, iS .i64 k), (11, .va (.c1 (.fz (m.map stR)))), (12, iS .i64 j)]) (fun _ => [.cells (scC s) 25])
          (fun j => j ≤ m.length) (fun j => m.length - j) 0 1 (Nat.zero_le _) ?_ ?_ ?_
        · simp -dsimp only [go_sem] <;> simp
        · simp -dsimp only [go_sem, scC] <;> simp
        intro j hj
        rcases Nat.lt_or_ge j m.length with hjt | hjg
        · have hgj : decide ((j : Int) < (m.length : Int)) = true := by simp; omega
          obtain ⟨y, hy⟩ : ∃ e, m[j]? = some e := ⟨_, List.getElem?_eq_getElem hjt⟩
          have q3 := row_rg' (row := stR) hy
          have hin : inB l y = true := (inB_iff _ _).2 (hms y (List.mem_of_getElem? hy))
          have hbs : isBs (l.map stR) := isBs_mk (by omega)
          simp (maxSteps := 1000000) -dsimp only [go_sem, hgj, ↓q3, hbs, hin]
          refine ⟨by omega, by omega, loop_next (j + 1) 1 (by omega) (by omega) ?_ ?_⟩
          · simp -dsimp only [go_sem] <;> simp
          · simp -dsimp only [go_sem, scC] <;> simp
        · have hgj : decide ((j : Int) < (m.length : Int)) = false := by simp; omega
          simp (maxSteps := 1000000) -dsimp only [go_sem, hgj, scC]
          refine ⟨by omega, loop_next (k + 1) 1 (by omega) (by omega) ?_ ?_⟩
          · simp -dsimp only [go_sem] <;> simp
          · simp -dsimp only [go_sem, scC] <;> simp
    · have hgk : decide ((k : Int) < (l.length : Int)) = false := by simp; omega
      simp (maxSteps := 1000000) -dsimp only [go_sem, hgk, scC]
      refine vc_tail (up := [(1, .va (.c1 (.pt 0 0))), (3, iS .i64 i), (4, tS t.nm)]) (Hs := [.cells (scC s) 25]) 1 ?_ ?_ ?_
      rotate_left
      · simp -dsimp only [go_sem] <;> simp
      · simp -dsimp only [go_sem, scC] <;> simp
      have d1 : decide (dpF s t.nm < 1) = false := by
        refine decide_eq_false ?_
        have := dN_pos s.ss (dK + 1) t.nm
        unfold dpF
        rw [okS_mem hck htm, Bool.cond_true, dD_def]; omega
      have d2 : decide (6 < dpF s t.nm) = false := by
        refine decide_eq_false ?_
        have := hd6 t htm
        unfold dpF
        rw [okS_mem hck htm, Bool.cond_true]; omega
      simp (maxSteps := 1000000) -dsimp only [go_sem, scC, pcF7_21, hsf, hdec, d1, d2]
      refine ⟨by omega, loop_next (i + 1) 1 (by omega) (by omega) ?_ ?_⟩
      · simp -dsimp only [go_sem] <;> simp
      · simp -dsimp only [go_sem, scC] <;> simp
  · have hg : decide ((i : Int) < (s.ss.length : Int)) = false := by simp; omega
    simp (maxSteps := 1000000) -dsimp only [go_sem, hg, scC]
    exact fin _
end Go.Proofs.Ytpfmkfafagiicaa
/- wire.Uint, walked. -/
namespace Go.Proofs.Ytpfmkfafagiicaa
def uL : Nat → Nat → List UInt8
  | 0, _ => []
  | f + 1, n => bif decide (n < 128) then [n.toUInt8] else (n % 128 + 128).toUInt8 :: uL f (n / 128)
theorem uL_last {f n : Nat} (hf : 0 < f) (h : n < 128) : uL f n = [n.toUInt8] := by
  obtain ⟨g, rfl⟩ : ∃ g, f = g + 1 := ⟨f - 1, by omega⟩
  rw [uL, decide_eq_true h]; rfl
theorem uL_more {f n : Nat} (h : ¬ n < 128) : uL (f + 1) n = (n % 128 + 128).toUInt8 :: uL f (n / 128) := by
  rw [uL, decide_eq_false h]; rfl
theorem or128 : ∀ x : Nat, x < 256 → bits BinOp.or IntKind.u8 (x : Int) 128 = ((x % 128 + 128 : Nat) : Int) := by decide +kernel
theorem sl113 (w : World) (b k : Nat) (hk : k + 1 ≤ 10) : (Instr.sliceAt 113 (.pointer (some ⟨b, 0, none⟩)) none (some (.int .i64 ((k : Int) + 1))) none).run Try.prog w = .ok (.slice (some ⟨b, 0, none⟩) (k + 1) 10) w := by
  have e : ((k : Int) + 1).toNat = k + 1 := by omega
  simp [Instr.sliceAt, Instr.sureAddr, run_underlying Try.underlying113, Instr.sliceBounds, run_sliceBound, e, (by omega : (0 : Int) ≤ (k : Int) + 1), (by omega : (k : Int) + 1 ≤ 10), Addr.add]
set_option maxRecDepth 1000000 in
theorem walkUint (N : Nat) (h1 : N < 2^64) (w : World) :
    Calls Try.prog 78 #[.int .u64 N] w fun e w' => e = .returned (.string ⟨(uL 10 N).toArray⟩) ∧ ∃ C, w' = w.alloc (.cells C 113 (0, 0)) := by
  go_enter Try.func78, Try.ntmps78
  go_wp2
  go_loopw [0, 4] (fun n k w' => ∃ (m k' : Nat) (C : Array Value) (pre : List UInt8), n = .int .u64 m ∧ k = .int .i64 k' ∧ w' = w.alloc (.cells C 113 (0, 0)) ∧ C.size = 10 ∧ pre.length = k' ∧ (∀ (j : Nat) (c : UInt8), pre[j]? = some c → C[j]? = some (.int .u8 c.toNat)) ∧ uL 10 N = pre ++ uL (10 - k') m ∧ k' ≤ 9 ∧ m < 128 ^ (10 - k')) (fun n _ w' => match n with | .int _ m => m.toNat | _ => 0)
  case atStart => refine ⟨N, 0, _, [], rfl, rfl, rfl, rfl, rfl, fun j c h => by simp at h, rfl, by omega, by omega⟩
  case round =>
    obtain ⟨m, k, C, pre, rfl, rfl, rfl, hC, hpl, hp, hu, hk, hm⟩ := hrel
    have hck : ∃ u, C[k]? = some u := ⟨_, Array.getElem?_eq_getElem (by omega)⟩
    obtain ⟨u, hck⟩ := hck
    by_cases hlt : m < 128
    · have hsl := sl113
      have hcv : (convert 114 9 (.slice (some ⟨w.heap.size, 0, none⟩) (k + 1) 10)).run Try.prog (w.alloc (.cells (C.setIfInBounds k (.int .u8 m)) 113 (0, 0))) = .ok (.string ⟨(uL 10 N).toArray⟩) (w.alloc (.cells (C.setIfInBounds k (.int .u8 m)) 113 (0, 0))) := by
        have hul : uL 10 N = pre ++ [m.toUInt8] := by rw [hu, uL_last (by omega) hlt]
        have hl : (pre ++ [m.toUInt8]).length = k + 1 := by simp [hpl]
        have := run_convert_bytes_back (P := Try.prog) (w.alloc (.cells (C.setIfInBounds k (.int .u8 m)) 113 (0, 0))) 114 9 5 ⟨w.heap.size, 0, none⟩ 10 (pre ++ [m.toUInt8]) Try.underlying114 Try.underlying5 Try.underlying9 (fun j hj => by
          have e0 : (⟨w.heap.size, 0, none⟩ : Addr).add j = ⟨w.heap.size, j, none⟩ := by simp [Addr.add]; omega
          rw [e0, World.cell?_alloc_mark]
          rcases Nat.lt_or_ge j k with h | h
          · have hx : pre[j]? = some pre[j] := List.getElem?_eq_getElem (by omega)
            rw [List.getElem_append_left (by omega), Array.getElem?_setIfInBounds_ne (by omega)]
            exact hp j _ hx
          · obtain rfl : j = k := by omega
            rw [List.getElem_append_right (by omega)]
            simp [hC, show j < 10 by omega, Nat.mod_eq_of_lt (show m < 256 by omega)])
        rw [hl] at this
        rw [hul]; exact this
      go_wp2
      go_ret
      exact ⟨by rw [hu]; rfl, _, rfl⟩
    · have hge : (128 : Int) ≤ m := by omega
      have hk8 : k ≤ 8 := by
        rcases Nat.lt_or_ge k 9 with h | h
        · omega
        · have : k = 9 := by omega
          subst this; simp at hm; omega
      go_wp2
      refine ⟨⟨m / 128, k + 1, _, pre ++ [(m % 128 + 128).toUInt8], by simp, by simp, rfl, by simp [hC], by simp [hpl], fun j c hc => ?_, ?_, by omega, ?_⟩, ?_⟩
      · rcases Nat.lt_or_ge j k with h | h
        · rw [List.getElem?_append_left (by omega)] at hc
          rw [Array.getElem?_setIfInBounds_ne (by omega)]
          exact hp j c hc
        · have hj := (List.getElem?_eq_some_iff.1 hc).1
          obtain rfl : j = k := by simp [hpl] at hj; omega
          rw [List.getElem?_append_right (by omega), hpl] at hc
          simp at hc
          subst hc
          have e1 : ((m : Int) % 256) = ((m % 256 : Nat) : Int) := by omega
          rw [e1, or128 _ (Nat.mod_lt _ (by decide))]
          have e2 : m % 256 % 128 = m % 128 := by omega
          simp [hC, show j < 10 by omega, e2]
          omega
      · rw [hu, show 10 - k = 10 - (k + 1) + 1 by omega, uL_more hlt, List.append_assoc]; rfl
      · have : 128 ^ (10 - k) = 128 ^ (10 - (k + 1)) * 128 := by rw [← Nat.pow_succ]; congr 1; omega
        rw [this] at hm
        exact Nat.div_lt_of_lt_mul (by rw [Nat.mul_comm]; exact hm)
      · show ((m : Int) / 128).toNat < (m : Int).toNat
        omega
end Go.Proofs.Ytpfmkfafagiicaa
/- checksum.Hash, walked. -/
namespace Go.Proofs.Ytpfmkfafagiicaa
/-- One step of the hash. -/
def fnS (h : Int) (c : UInt8) : Int := IntKind.u64.wrap (bits BinOp.xor IntKind.u64 h (IntKind.u64.wrap c.toNat) * 1099511628211)
def fnH (h : Int) (l : List UInt8) : Int := l.foldl fnS h
theorem fnH_step {l : List UInt8} {k : Nat} {c : UInt8} (h : l[k]? = some c) (a : Int) : fnH a (l.drop k) = fnH (fnS a c) (l.drop (k + 1)) := by
  obtain ⟨hl, rfl⟩ := List.getElem?_eq_some_iff.1 h
  rw [List.drop_eq_getElem_cons hl]; rfl
set_option maxRecDepth 1000000 in
theorem walkFold (n : Int) (s : ByteArray) (hs : s.size ≤ 9223372036854775807) (w : World) :
    Calls Try.prog 81 #[.int .u64 n, .string s] w fun e w' => e = .returned (.int .u64 (fnH n s.data.toList)) ∧ w' = w := by
  go_enter Try.func81, Try.ntmps81
  go_wp2
  go_loopw [0, 8] (fun a i w' => ∃ (a' : Int) (k : Nat), a = .int .u64 a' ∧ i = .int .i64 k ∧ w' = w ∧ k ≤ s.size ∧ fnH a' (s.data.toList.drop k) = fnH n s.data.toList) (fun _ i _ => match i with | .int _ k => s.size - k.toNat | _ => 0)
  case atStart => exact ⟨n, 0, rfl, rfl, rfl, by omega, rfl⟩
  case round =>
    obtain ⟨a, k, rfl, rfl, rfl, hk, hf⟩ := hrel
    by_cases hlt : k < s.size
    · have hl : k < s.data.toList.length := by simpa using hlt
      have hc : s.data.toList[k]? = some s[k] := by rw [List.getElem?_eq_getElem hl]; rfl
      rw [fnH_step hc] at hf
      go_wp2
      refine ⟨⟨_, k + 1, rfl, by simp, trivial, by omega, hf⟩, ?_⟩
      show s.size - ((k : Int) + 1).toNat < s.size - (k : Int).toNat
      omega
    · obtain rfl : k = s.size := by omega
      rw [List.drop_eq_nil_of_le (by simp)] at hf
      go_wp2
      go_ret
      exact ⟨by rw [← hf]; rfl, rfl⟩
theorem width_pos (s : ByteArray) (pos : Nat) (h : pos < s.size) : 1 ≤ (Utf8.decode s pos).2 := by
  by_cases ha : (s[pos]'h).toNat < 128
  · rw [decode_ascii s pos h ha]
    exact Nat.le_refl _
  · exact (decode_high s pos h (by omega)).2
theorem fnH_part (a : Int) (l : List UInt8) {p q : Nat} (h : p ≤ q) : fnH (fnH a ((l.drop p).take (q - p))) (l.drop q) = fnH a (l.drop p) := by
  unfold fnH
  rw [← List.foldl_append]
  congr 1
  have : l.drop q = (l.drop p).drop (q - p) := by rw [List.drop_drop]; congr 1; omega
  rw [this, List.take_append_drop]
set_option maxRecDepth 1000000 in
theorem walkHash (s : ByteArray) (hs : s.size ≤ 9223372036854775807) (w : World) :
    Calls Try.prog 62 #[.string s] w fun e w' => e = .returned (.int .u64 (fnH 14695981039346656037 s.data.toList)) ∧ ∃ pos, w' = w.iter s pos := by
  go_enter Try.func62, Try.ntmps62
  go_wp2
  go_loopw [3, 4] (fun n f w' => ∃ (a : Int) (p pos : Nat), n = .int .u64 a ∧ f = .int .i64 p ∧ w' = w.iter s pos ∧ p ≤ s.size ∧ p ≤ pos ∧ fnH a (s.data.toList.drop p) = fnH 14695981039346656037 s.data.toList) (fun _ _ w' => s.size - w'.iterPos w.heap.size)
  case atStart => exact ⟨_, 0, 0, rfl, rfl, rfl, by omega, by omega, rfl⟩
  case round =>
    obtain ⟨a, p, pos, rfl, rfl, rfl, hp1, hp2, hf⟩ := hrel
    by_cases hp : pos < s.size
    · have hnx : ∀ ty, (Instr.next (.pointer (some ⟨w.heap.size, 0, none⟩)) true ty).run Try.prog (w.iter s pos) = _ := fun ty => run_next_any w s pos ty hp
      have hwd := width_pos s pos hp
      have hq2 : pos ≤ s.size := by omega
      go_wp2_with (go_at_call 81; refine (walkFold _ _ (by simp; omega) _).mono ?_; rintro e w' ⟨rfl, rfl⟩)
      refine ⟨⟨_, pos, _, rfl, rfl, rfl, hq2, by omega, by rw [fnH_part a _ hp2]; exact hf⟩, ?_⟩
      simp
      omega
    · have hnx : ∀ ty, (Instr.next (.pointer (some ⟨w.heap.size, 0, none⟩)) true ty).run Try.prog (w.iter s pos) = _ := fun ty => run_next_end w s pos ty hp
      go_wp2_with (go_at_call 81; refine (walkFold _ _ (by simp; omega) _).mono ?_; rintro e w' ⟨rfl, rfl⟩)
      go_ret
      rw [List.take_of_length_le (by simp), hf]
      exact ⟨rfl, _, rfl⟩
set_option maxRecDepth 1000000 in
theorem walkRHash (s : ByteArray) (hs : s.size ≤ 9223372036854775807) (w : World) :
    Calls Try.prog 63 #[.string s] w fun e w' => e = .returned (.int .u64 (fnH 14695981039346656037 s.data.toList)) ∧ w' = w := by
  go_enter Try.func63, Try.ntmps63
  go_wp2
  go_loopw [3, 4] (fun a i w' => ∃ (a' : Int) (k : Nat), a = .int .u64 a' ∧ i = .int .i64 k ∧ w' = w ∧ k ≤ s.size ∧ fnH a' (s.data.toList.drop k) = fnH 14695981039346656037 s.data.toList) (fun _ i _ => match i with | .int _ k => s.size - k.toNat | _ => 0)
  case atStart => exact ⟨_, 0, rfl, rfl, rfl, by omega, rfl⟩
  case round =>
    obtain ⟨a, k, rfl, rfl, rfl, hk, hf⟩ := hrel
    by_cases hlt : k < s.size
    · have hl : k < s.data.toList.length := by simpa using hlt
      have hc : s.data.toList[k]? = some s[k] := by rw [List.getElem?_eq_getElem hl]; rfl
      rw [fnH_step hc] at hf
      go_wp2
      refine ⟨⟨_, k + 1, rfl, by simp, trivial, by omega, hf⟩, ?_⟩
      show s.size - ((k : Int) + 1).toNat < s.size - (k : Int).toNat
      omega
    · obtain rfl : k = s.size := by omega
      rw [List.drop_eq_nil_of_le (by simp)] at hf
      go_wp2
      go_ret
      exact ⟨by rw [← hf]; rfl, rfl⟩
end Go.Proofs.Ytpfmkfafagiicaa
namespace Go.Proofs.Ytpfmkfafagiicaa
open Go.W
/-- robotics/schema.Digest -/
def pc32 : PC :=
  .seq (.reg /- 0 -/ [⟨(some 2), none, .e (.bx 25 (.t 0))⟩,
      ⟨(some 4), none, .q (.mv (.k (.int .u64 0)))⟩])
  (.seq (.reg /- 1 -/ [⟨(some 13), none, .l (.ldn 3 (.t 2))⟩,
      ⟨(some 14), none, .q (.mv (.t 1))⟩,
      ⟨(some 15), none, .cl 50 [(.t 13), (.t 14)] []⟩,
      ⟨(some 12), none, .q (.mv (.t 15))⟩,
      ⟨(some 16), none, .q (.ex (.t 12) 0)⟩,
      ⟨(some 17), none, .q (.ex (.t 12) 1)⟩,
      ⟨(some 5), none, .e (.al (.agg #[(.map none), (.map none)]) 69)⟩,
      ⟨none, none, .e (.st 2 (.t 5) (.t 16))⟩,
      ⟨(some 6), none, .q (.mv (.t 17))⟩])
    (.seq (.seq (.reg /- 2 -/ [⟨(some 18), none, .q (.mv (.t 6))⟩,
      ⟨(some 19), none, .q (.not (.t 18))⟩])
      (.cond (.t 19)
        (.seq (.reg /- 3 -/ [⟨(some 4), none, .q (.mv (.k (.int .u64 0)))⟩])
          (.ret))
        (.skip)))
      (.seq (.reg /- 4 -/ [⟨(some 20), none, .q (.fa 0 (.t 5))⟩,
      ⟨(some 21), none, .l (.ld1 (.t 20))⟩,
      ⟨(some 22), none, .q (.mv (.t 1))⟩,
      ⟨(some 23), none, .l (.lk .string (.agg #[(.string (mk [])), (.slice none 0 0)]) false (.t 21) (.t 22))⟩,
      ⟨(some 24), none, .cq 60 [(.t 23)]⟩,
      ⟨(some 7), none, .q (.mv (.t 24))⟩])
        (.seq (.seq (.reg /- 5 -/ [⟨(some 25), none, .l (.ldn 2 (.t 5))⟩,
      ⟨(some 26), none, .q (.mv (.t 1))⟩,
      ⟨(some 27), none, .cl 54 [(.t 25), (.t 26)] [1, 2]⟩,
      ⟨(some 28), none, .q (.lnL (.t 27))⟩,
      ⟨(some 29), none, .q (.mv (.k (.int .i64 0)))⟩])
          (.block 0 (.loop (.seq (.reg /- 6 -/ [⟨(some 30), none, .q (.bin .lss true (.t 29) (.t 28))⟩])
                (.seq (.cond (.t 30)
                  (.skip)
                  (.exit 0))
                  (.seq (.block 1 (.seq (.reg /- 7 -/ [⟨(some 31), none, .l (.ia 1 (.t 27) (.t 29))⟩,
      ⟨(some 32), none, .l (.ld1 (.t 31))⟩,
      ⟨(some 9), none, .q (.mv (.t 32))⟩])
                      (.seq (.reg /- 8 -/ [⟨(some 34), none, .q (.fa 0 (.t 5))⟩,
      ⟨(some 35), none, .l (.ld1 (.t 34))⟩,
      ⟨(some 36), none, .q (.mv (.t 9))⟩,
      ⟨(some 37), none, .l (.lk .string (.agg #[(.string (mk [])), (.slice none 0 0)]) true (.t 35) (.t 36))⟩,
      ⟨(some 33), none, .q (.mv (.t 37))⟩,
      ⟨(some 38), none, .q (.ex (.t 33) 0)⟩,
      ⟨(some 39), none, .q (.ex (.t 33) 1)⟩,
      ⟨(some 10), none, .e (.al (.agg #[(.string (mk [])), (.slice none 0 0)]) 32)⟩,
      ⟨none, none, .e (.st 2 (.t 10) (.t 38))⟩,
      ⟨(some 11), none, .q (.mv (.t 39))⟩])
                        (.seq (.reg /- 9 -/ [⟨(some 40), none, .q (.mv (.t 11))⟩])
                          (.cond (.t 40)
                            (.reg /- 10 -/ [⟨(some 41), none, .q (.mv (.t 7))⟩,
      ⟨(some 42), none, .l (.ldn 2 (.t 10))⟩,
      ⟨(some 43), none, .cq 60 [(.t 42)]⟩,
      ⟨(some 44), none, .q (.bin .add true (.t 41) (.t 43))⟩,
      ⟨(some 7), none, .q (.mv (.t 44))⟩])
                            (.reg /- 11 -/ [⟨(some 45), none, .q (.mv (.t 7))⟩,
      ⟨(some 46), none, .q (.fa 1 (.t 5))⟩,
      ⟨(some 47), none, .l (.ld1 (.t 46))⟩,
      ⟨(some 48), none, .q (.mv (.t 9))⟩,
      ⟨(some 49), none, .l (.lk .string (.agg #[(.string (mk [])), (.slice none 0 0), (.slice none 0 0)]) false (.t 47) (.t 48))⟩,
      ⟨(some 50), none, .cq 61 [(.t 49)]⟩,
      ⟨(some 51), none, .q (.bin .add true (.t 45) (.t 50))⟩,
      ⟨(some 7), none, .q (.mv (.t 51))⟩]))))))
                    (.reg /- 12 -/ [⟨(some 52), none, .q (.bin .add true (.t 29) (.k (.int .i64 1)))⟩,
      ⟨(some 29), none, .q (.mv (.t 52))⟩])))))))
          (.seq (.reg /- 13 -/ [⟨(some 53), none, .q (.mv (.t 7))⟩,
      ⟨(some 54), none, .cq 62 [(.t 53)]⟩,
      ⟨(some 4), none, .q (.mv (.t 54))⟩])
            (.ret))))))
def rs32 : List RV := [.mv (.t 4)]
theorem ok32 : trFn Try.prog true ⟨fun r k => if r = 4 ∧ k = 4 then .q else if r = 5 ∧ k = 2 then .own [1, 2] else if r = 10 ∧ k = 2 then .q else if r = 11 ∧ k = 5 then .q else if r = 13 ∧ k = 1 then .q else .own [], fun _ => false⟩ Try.f32 = some (pc32, rs32) := by kernel_rfl
/-- robotics/schema.describeStruct -/
def pc60 : PC :=
  .seq (.reg /- 0 -/ [⟨(some 1), none, .e (.bx 32 (.t 0))⟩,
      ⟨(some 2), none, .q (.mv (.k (.string (mk []))))⟩])
  (.seq (.reg /- 1 -/ [⟨(some 6), none, .cq 78 [(.k (.int .u64 6))]⟩,
      ⟨(some 7), none, .q (.fa 0 (.t 1))⟩,
      ⟨(some 8), none, .l (.ld1 (.t 7))⟩,
      ⟨(some 9), none, .cq 79 [(.t 8)]⟩,
      ⟨(some 10), none, .q (.bin .add true (.t 6) (.t 9))⟩,
      ⟨(some 11), none, .q (.fa 1 (.t 1))⟩,
      ⟨(some 12), none, .l (.ld1 (.t 11))⟩,
      ⟨(some 13), none, .q (.lnL (.t 12))⟩,
      ⟨(some 14), none, .q (.cvt .u64 (.t 13))⟩,
      ⟨(some 15), none, .cq 78 [(.t 14)]⟩,
      ⟨(some 16), none, .q (.bin .add true (.t 10) (.t 15))⟩,
      ⟨(some 3), none, .q (.mv (.t 16))⟩])
    (.seq (.seq (.reg /- 2 -/ [⟨(some 17), none, .q (.fa 1 (.t 1))⟩,
      ⟨(some 18), none, .l (.ld1 (.t 17))⟩,
      ⟨(some 19), none, .q (.lnL (.t 18))⟩,
      ⟨(some 20), none, .q (.mv (.k (.int .i64 0)))⟩])
      (.block 0 (.loop (.seq (.reg /- 3 -/ [⟨(some 21), none, .q (.bin .lss true (.t 20) (.t 19))⟩])
            (.seq (.cond (.t 21)
              (.skip)
              (.exit 0))
              (.seq (.block 1 (.seq (.reg /- 4 -/ [⟨(some 22), none, .l (.ia 7 (.t 18) (.t 20))⟩,
      ⟨(some 23), none, .l (.ldn 7 (.t 22))⟩,
      ⟨(some 5), none, .e (.al (.agg #[(.int .i64 0), (.string (mk [])), (.int .i64 0), (.int .i64 0), (.string (mk [])), (.slice none 0 0), (.bool false)]) 53)⟩,
      ⟨none, none, .e (.st 7 (.t 5) (.t 23))⟩])
                  (.seq (.reg /- 5 -/ [⟨(some 24), none, .q (.mv (.t 3))⟩,
      ⟨(some 25), none, .q (.fa 0 (.t 5))⟩,
      ⟨(some 26), none, .l (.ld1 (.t 25))⟩,
      ⟨(some 27), none, .q (.cvt .u64 (.t 26))⟩,
      ⟨(some 28), none, .cq 78 [(.t 27)]⟩,
      ⟨(some 29), none, .q (.fa 1 (.t 5))⟩,
      ⟨(some 30), none, .l (.ld1 (.t 29))⟩,
      ⟨(some 31), none, .cq 79 [(.t 30)]⟩,
      ⟨(some 32), none, .q (.bin .add true (.t 28) (.t 31))⟩,
      ⟨(some 33), none, .q (.fa 2 (.t 5))⟩,
      ⟨(some 34), none, .l (.ldn 4 (.t 33))⟩,
      ⟨(some 35), none, .cq 80 [(.t 34)]⟩,
      ⟨(some 36), none, .q (.bin .add true (.t 32) (.t 35))⟩,
      ⟨(some 37), none, .q (.bin .add true (.t 24) (.t 36))⟩,
      ⟨(some 3), none, .q (.mv (.t 37))⟩])
                    (.seq (.reg /- 6 -/ [⟨(some 38), none, .q (.fa 6 (.t 5))⟩,
      ⟨(some 39), none, .l (.ld1 (.t 38))⟩])
                      (.cond (.t 39)
                        (.reg /- 7 -/ [⟨(some 40), none, .q (.mv (.t 3))⟩,
      ⟨(some 41), none, .cq 78 [(.k (.int .u64 1))]⟩,
      ⟨(some 42), none, .q (.bin .add true (.t 40) (.t 41))⟩,
      ⟨(some 3), none, .q (.mv (.t 42))⟩])
                        (.reg /- 8 -/ [⟨(some 43), none, .q (.mv (.t 3))⟩,
      ⟨(some 44), none, .cq 78 [(.k (.int .u64 0))]⟩,
      ⟨(some 45), none, .q (.bin .add true (.t 43) (.t 44))⟩,
      ⟨(some 3), none, .q (.mv (.t 45))⟩]))))))
                (.reg /- 9 -/ [⟨(some 46), none, .q (.bin .add true (.t 20) (.k (.int .i64 1)))⟩,
      ⟨(some 20), none, .q (.mv (.t 46))⟩])))))))
      (.seq (.reg /- 10 -/ [⟨(some 47), none, .q (.mv (.t 3))⟩,
      ⟨(some 2), none, .q (.mv (.t 47))⟩])
        (.ret))))
def rs60 : List RV := [.mv (.t 2)]
theorem ok60 : trFn Try.prog true ⟨fun r k => if r = 1 ∧ k = 0 then .q else if r = 1 ∧ k = 3 then .q else if r = 1 ∧ k = 9 then .q else if r = 5 ∧ k = 4 then .q else if r = 5 ∧ k = 7 then .q else if r = 5 ∧ k = 11 then .q else if r = 7 ∧ k = 1 then .q else if r = 8 ∧ k = 1 then .q else .own [], fun _ => false⟩ Try.f60 = some (pc60, rs60) := by kernel_rfl
/-- robotics/schema.describeEnum -/
def pc61 : PC :=
  .seq (.reg /- 0 -/ [⟨(some 1), none, .e (.bx 47 (.t 0))⟩,
      ⟨(some 2), none, .q (.mv (.k (.string (mk []))))⟩])
  (.seq (.reg /- 1 -/ [⟨(some 6), none, .cq 78 [(.k (.int .u64 7))]⟩,
      ⟨(some 7), none, .q (.fa 0 (.t 1))⟩,
      ⟨(some 8), none, .l (.ld1 (.t 7))⟩,
      ⟨(some 9), none, .cq 79 [(.t 8)]⟩,
      ⟨(some 10), none, .q (.bin .add true (.t 6) (.t 9))⟩,
      ⟨(some 11), none, .q (.fa 1 (.t 1))⟩,
      ⟨(some 12), none, .l (.ld1 (.t 11))⟩,
      ⟨(some 13), none, .q (.lnL (.t 12))⟩,
      ⟨(some 14), none, .q (.cvt .u64 (.t 13))⟩,
      ⟨(some 15), none, .cq 78 [(.t 14)]⟩,
      ⟨(some 16), none, .q (.bin .add true (.t 10) (.t 15))⟩,
      ⟨(some 3), none, .q (.mv (.t 16))⟩])
    (.seq (.seq (.reg /- 2 -/ [⟨(some 17), none, .q (.fa 1 (.t 1))⟩,
      ⟨(some 18), none, .l (.ld1 (.t 17))⟩,
      ⟨(some 19), none, .q (.lnL (.t 18))⟩,
      ⟨(some 20), none, .q (.mv (.k (.int .i64 0)))⟩])
      (.block 0 (.loop (.seq (.reg /- 3 -/ [⟨(some 21), none, .q (.bin .lss true (.t 20) (.t 19))⟩])
            (.seq (.cond (.t 21)
              (.skip)
              (.exit 0))
              (.seq (.block 1 (.seq (.reg /- 4 -/ [⟨(some 22), none, .q (.mv (.t 20))⟩,
      ⟨(some 23), none, .l (.ia 1 (.t 18) (.t 20))⟩,
      ⟨(some 24), none, .l (.ld1 (.t 23))⟩,
      ⟨(some 4), none, .q (.mv (.t 22))⟩,
      ⟨(some 5), none, .q (.mv (.t 24))⟩])
                  (.reg /- 5 -/ [⟨(some 25), none, .q (.mv (.t 3))⟩,
      ⟨(some 26), none, .q (.mv (.t 5))⟩,
      ⟨(some 27), none, .cq 79 [(.t 26)]⟩,
      ⟨(some 28), none, .q (.fa 2 (.t 1))⟩,
      ⟨(some 29), none, .l (.ld1 (.t 28))⟩,
      ⟨(some 30), none, .q (.mv (.t 4))⟩,
      ⟨(some 31), none, .l (.ia 1 (.t 29) (.t 30))⟩,
      ⟨(some 32), none, .l (.ld1 (.t 31))⟩,
      ⟨(some 33), none, .q (.cvt .u64 (.t 32))⟩,
      ⟨(some 34), none, .cq 78 [(.t 33)]⟩,
      ⟨(some 35), none, .q (.bin .add true (.t 27) (.t 34))⟩,
      ⟨(some 36), none, .q (.bin .add true (.t 25) (.t 35))⟩,
      ⟨(some 3), none, .q (.mv (.t 36))⟩])))
                (.reg /- 6 -/ [⟨(some 37), none, .q (.bin .add true (.t 20) (.k (.int .i64 1)))⟩,
      ⟨(some 20), none, .q (.mv (.t 37))⟩])))))))
      (.seq (.reg /- 7 -/ [⟨(some 38), none, .q (.mv (.t 3))⟩,
      ⟨(some 2), none, .q (.mv (.t 38))⟩])
        (.ret))))
def rs61 : List RV := [.mv (.t 2)]
theorem ok61 : trFn Try.prog true ⟨fun r k => if r = 1 ∧ k = 0 then .q else if r = 1 ∧ k = 3 then .q else if r = 1 ∧ k = 9 then .q else if r = 5 ∧ k = 2 then .q else if r = 5 ∧ k = 9 then .q else .own [], fun _ => false⟩ Try.f61 = some (pc61, rs61) := by kernel_rfl
/-- robotics/wire.Text -/
def pc79 : PC :=
  .seq (.reg /- 0 -/ [⟨(some 2), none, .q (.mv (.k (.string (mk []))))⟩])
  (.seq (.reg /- 1 -/ [⟨(some 3), none, .q (.mv (.t 0))⟩,
      ⟨(some 4), none, .q (.lnS (.t 3))⟩,
      ⟨(some 5), none, .q (.cvt .u64 (.t 4))⟩,
      ⟨(some 6), none, .cq 78 [(.t 5)]⟩,
      ⟨(some 7), none, .q (.mv (.t 0))⟩,
      ⟨(some 8), none, .q (.bin .add true (.t 6) (.t 7))⟩,
      ⟨(some 2), none, .q (.mv (.t 8))⟩])
    (.ret))
def rs79 : List RV := [.mv (.t 2)]
theorem ok79 : trFn Try.prog true ⟨fun r k => if r = 1 ∧ k = 3 then .q else .own [], fun _ => false⟩ Try.f79 = some (pc79, rs79) := by kernel_rfl
/-- robotics/schema.describeType -/
def pc80 : PC :=
  .seq (.reg /- 0 -/ [⟨(some 1), none, .e (.bx 40 (.t 0))⟩,
      ⟨(some 2), none, .q (.mv (.k (.string (mk []))))⟩])
  (.seq (.reg /- 1 -/ [⟨(some 6), none, .q (.fa 0 (.t 1))⟩,
      ⟨(some 7), none, .l (.ld1 (.t 6))⟩,
      ⟨(some 8), none, .q (.cvt .u64 (.t 7))⟩,
      ⟨(some 9), none, .cq 78 [(.t 8)]⟩,
      ⟨(some 10), none, .q (.fa 1 (.t 1))⟩,
      ⟨(some 11), none, .l (.ld1 (.t 10))⟩,
      ⟨(some 12), none, .q (.cvt .u64 (.t 11))⟩,
      ⟨(some 13), none, .cq 78 [(.t 12)]⟩,
      ⟨(some 14), none, .q (.bin .add true (.t 9) (.t 13))⟩,
      ⟨(some 15), none, .q (.fa 2 (.t 1))⟩,
      ⟨(some 16), none, .l (.ld1 (.t 15))⟩,
      ⟨(some 17), none, .cq 79 [(.t 16)]⟩,
      ⟨(some 18), none, .q (.bin .add true (.t 14) (.t 17))⟩,
      ⟨(some 19), none, .q (.fa 3 (.t 1))⟩,
      ⟨(some 20), none, .l (.ld1 (.t 19))⟩,
      ⟨(some 21), none, .q (.lnL (.t 20))⟩,
      ⟨(some 22), none, .q (.cvt .u64 (.t 21))⟩,
      ⟨(some 23), none, .cq 78 [(.t 22)]⟩,
      ⟨(some 24), none, .q (.bin .add true (.t 18) (.t 23))⟩,
      ⟨(some 3), none, .q (.mv (.t 24))⟩])
    (.seq (.seq (.reg /- 2 -/ [⟨(some 25), none, .q (.fa 3 (.t 1))⟩,
      ⟨(some 26), none, .l (.ld1 (.t 25))⟩,
      ⟨(some 27), none, .q (.lnL (.t 26))⟩,
      ⟨(some 28), none, .q (.mv (.k (.int .i64 0)))⟩])
      (.block 0 (.loop (.seq (.reg /- 3 -/ [⟨(some 29), none, .q (.bin .lss true (.t 28) (.t 27))⟩])
            (.seq (.cond (.t 29)
              (.skip)
              (.exit 0))
              (.seq (.block 1 (.seq (.reg /- 4 -/ [⟨(some 30), none, .l (.ia 4 (.t 26) (.t 28))⟩,
      ⟨(some 31), none, .l (.ldn 4 (.t 30))⟩,
      ⟨(some 5), none, .e (.al (.agg #[(.int .i64 0), (.int .i64 0), (.string (mk [])), (.slice none 0 0)]) 40)⟩,
      ⟨none, none, .e (.st 4 (.t 5) (.t 31))⟩])
                  (.reg /- 5 -/ [⟨(some 32), none, .q (.mv (.t 3))⟩,
      ⟨(some 33), none, .l (.ldn 4 (.t 5))⟩,
      ⟨(some 34), none, .cq 80 [(.t 33)]⟩,
      ⟨(some 35), none, .q (.bin .add true (.t 32) (.t 34))⟩,
      ⟨(some 3), none, .q (.mv (.t 35))⟩])))
                (.reg /- 6 -/ [⟨(some 36), none, .q (.bin .add true (.t 28) (.k (.int .i64 1)))⟩,
      ⟨(some 28), none, .q (.mv (.t 36))⟩])))))))
      (.seq (.reg /- 7 -/ [⟨(some 37), none, .q (.mv (.t 3))⟩,
      ⟨(some 2), none, .q (.mv (.t 37))⟩])
        (.ret))))
def rs80 : List RV := [.mv (.t 2)]
theorem ok80 : trFn Try.prog true ⟨fun r k => if r = 1 ∧ k = 3 then .q else if r = 1 ∧ k = 7 then .q else if r = 1 ∧ k = 11 then .q else if r = 1 ∧ k = 17 then .q else if r = 5 ∧ k = 2 then .q else .own [], fun _ => false⟩ Try.f80 = some (pc80, rs80) := by kernel_rfl
/-- robotics/roboticsref04.Text -/
def pc83 : PC :=
  .seq (.reg /- 0 -/ [⟨(some 2), none, .q (.mv (.k (.string (mk []))))⟩])
  (.seq (.reg /- 1 -/ [⟨(some 3), none, .q (.mv (.t 0))⟩,
      ⟨(some 4), none, .q (.lnS (.t 3))⟩,
      ⟨(some 5), none, .q (.cvt .u64 (.t 4))⟩,
      ⟨(some 6), none, .cq 90 [(.t 5)]⟩,
      ⟨(some 7), none, .q (.mv (.t 0))⟩,
      ⟨(some 8), none, .q (.bin .add true (.t 6) (.t 7))⟩,
      ⟨(some 2), none, .q (.mv (.t 8))⟩])
    (.ret))
def rs83 : List RV := [.mv (.t 2)]
theorem ok83 : trFn Try.prog true ⟨fun r k => if r = 1 ∧ k = 3 then .q else .own [], fun _ => false⟩ Try.f83 = some (pc83, rs83) := by kernel_rfl
/-- robotics/roboticsref04.Uint -/
def pc90 : PC :=
  .seq (.reg /- 0 -/ [⟨(some 2), none, .q (.mv (.k (.string (mk []))))⟩])
  (.seq (.reg /- 1 -/ [⟨(some 3), none, .q (.mv (.k (.string (mk []))))⟩])
    (.seq (.block 0 (.loop (.seq (.seq (.reg /- 2 -/ [⟨(some 4), none, .q (.mv (.t 0))⟩,
      ⟨(some 5), none, .q (.bin .geq true (.t 4) (.k (.int .u64 128)))⟩])
          (.cond (.t 5)
            (.skip)
            (.exit 0)))
          (.block 1 (.seq (.reg /- 3 -/ [⟨(some 6), none, .q (.mv (.t 3))⟩,
      ⟨(some 7), none, .q (.mv (.t 0))⟩,
      ⟨(some 8), none, .q (.bin .rem true (.t 7) (.k (.int .u64 128)))⟩,
      ⟨(some 9), none, .q (.bin .add true (.k (.int .u64 128)) (.t 8))⟩,
      ⟨(some 10), none, .q (.cvt .u8 (.t 9))⟩,
      ⟨(some 11), none, .e (.bsl 5 1 [(.t 10)])⟩,
      ⟨(some 12), none, .q (.b2s (.t 11))⟩,
      ⟨(some 13), none, .q (.bin .add true (.t 6) (.t 12))⟩,
      ⟨(some 3), none, .q (.mv (.t 13))⟩])
              (.reg /- 4 -/ [⟨(some 14), none, .q (.mv (.t 0))⟩,
      ⟨(some 15), none, .q (.bin .quo true (.t 14) (.k (.int .u64 128)))⟩,
      ⟨(some 0), none, .q (.mv (.t 15))⟩]))))))
      (.seq (.reg /- 5 -/ [⟨(some 16), none, .q (.mv (.t 3))⟩,
      ⟨(some 17), none, .q (.mv (.t 0))⟩,
      ⟨(some 18), none, .q (.cvt .u8 (.t 17))⟩,
      ⟨(some 19), none, .e (.bsl 5 1 [(.t 18)])⟩,
      ⟨(some 20), none, .q (.b2s (.t 19))⟩,
      ⟨(some 21), none, .q (.bin .add true (.t 16) (.t 20))⟩,
      ⟨(some 2), none, .q (.mv (.t 21))⟩])
        (.ret))))
def rs90 : List RV := [.mv (.t 2)]
theorem ok90 : trFn Try.prog true ⟨fun _ _ => .own [], fun _ => false⟩ Try.f90 = some (pc90, rs90) := by kernel_rfl
end Go.Proofs.Ytpfmkfafagiicaa
/- wire.Uint, checksum.Hash as quiet functions; wire.Text. -/
namespace Go.Proofs.Ytpfmkfafagiicaa
open Go.W
def uPre : List S → Prop := fun av => match av with
  | [.va (.c1 (.vl (.int .u64 n)))] => 0 ≤ n ∧ n < 18446744073709551616
  | _ => False
theorem uPre_open {av : List S} (h : uPre av) : ∃ n : Nat, av = [iS .u64 n] ∧ n < 18446744073709551616 := by
  unfold uPre at h
  split at h
  · rename_i n
    exact ⟨n.toNat, by rw [Int.toNat_of_nonneg h.1], by omega⟩
  · exact h.elim
def uVal (f : Nat → Value) : List S → A := fun av => match av with
  | [.va (.c1 (.vl (.int .u64 n)))] => .c1 (.vl (f n.toNat))
  | _ => .gs []
def uFn (f : Nat → Value) : Fun := ⟨uPre, uVal f, fun av h => by obtain ⟨n, rfl, _⟩ := uPre_open h; trivial⟩
theorem uFn_len {f : Nat → Value} : ∀ av H K, (uFn f).sp av H K → av.length = 1 := fun av H K h => by obtain ⟨n, rfl, _⟩ := uPre_open h.1.1; rfl
attribute [go_sem] uFn uPre uVal
/-- The varint of a number. -/
def vi (n : Nat) : List UInt8 := uL 10 n
theorem mWUint : Meets Try.prog 78 (uFn fun n => .string (mk (vi n))).sp := by
  refine ⟨by kernel_rfl, ?_⟩
  rintro av vs E ro w K hlen hrel hR ⟨⟨h, hE⟩, hK⟩
  obtain ⟨n, rfl, hn⟩ := uPre_open h
  obtain ⟨v0, rfl⟩ : ∃ v0, vs = [v0] := by
    match vs, hlen with
    | [v0], _ => exact ⟨v0, rfl⟩
  have h0 : v0 = .int .u64 n := hrel 0 _ _ rfl rfl
  subst h0
  refine (walkUint n hn w).mono ?_
  rintro e w' ⟨rfl, C, rfl⟩
  have hK : K (tS (mk (vi n))) [] := by simpa [uFn, uVal] using hK
  exact ⟨tS (mk (vi n)), _, E, ro, rfl, rfl, by rw [hE]; exact hK, hR.aside (fun b hb => alloc_old w _ b hb) (alloc_size w _) rfl rfl rfl⟩
def hashL (l : List UInt8) : Int := fnH 14695981039346656037 l
def bsPre : List S → Prop := fun xs => match xs with
  | [.va (.c1 (.vl (.string s)))] => s.size ≤ 9223372036854775807
  | _ => False
theorem bsPre_open {xs : List S} (h : bsPre xs) : ∃ s, xs = [tS s] ∧ s.size ≤ 9223372036854775807 := by
  unfold bsPre at h
  split at h
  · exact ⟨_, rfl, h⟩
  · exact h.elim
def bsFn (f : List UInt8 → Value) : Fun := ⟨bsPre, strVal f, fun xs h => by obtain ⟨s, rfl, _⟩ := bsPre_open h; trivial⟩
theorem bsFn_len {f : List UInt8 → Value} : ∀ xs H K, (bsFn f).sp xs H K → xs.length = 1 := fun xs H K h => by obtain ⟨s, rfl, _⟩ := bsPre_open h.1.1; rfl
attribute [go_sem] bsFn bsPre
theorem mHashP : Meets Try.prog 62 (bsFn fun l => .int .u64 (hashL l)).sp := by
  refine ⟨by kernel_rfl, ?_⟩
  rintro av vs E ro w K hlen hrel hR ⟨⟨h, hE⟩, hK⟩
  obtain ⟨s, rfl, hs⟩ := bsPre_open h
  obtain ⟨v0, rfl⟩ : ∃ v0, vs = [v0] := by
    match vs, hlen with
    | [v0], _ => exact ⟨v0, rfl⟩
  have h0 : v0 = .string s := hrel 0 _ _ rfl rfl
  subst h0
  refine (walkHash s hs w).mono ?_
  rintro e w' ⟨rfl, pos, rfl⟩
  exact ⟨iS .u64 (hashL (bl s)), _, E, ro, rfl, rfl, by rw [hE]; exact hK, hR.aside (fun b hb => alloc_old w _ b hb) (alloc_size w _) rfl rfl rfl⟩
/-! ### Text -/
theorem uL_len : ∀ (f n : Nat), (uL f n).length ≤ f
  | 0, _ => Nat.le_refl _
  | f + 1, n => by
    by_cases h : n < 128
    · rw [uL_last (Nat.succ_pos _) h]; simp
    · rw [uL_more h]; have := uL_len f (n / 128); simp; omega
theorem vi_len (n : Nat) : (vi n).length ≤ 10 := uL_len 10 n
/-- An int as a varint, as the program makes it. -/
def viI (x : Int) : List UInt8 := vi (IntKind.u64.wrap x).toNat
theorem viI_len (x : Int) : (viI x).length ≤ 10 := vi_len _
theorem u64_rg (x : Int) : (0 ≤ IntKind.u64.wrap x ∧ IntKind.u64.wrap x < 18446744073709551616) = True := by
  have h : IntKind.u64.wrap x = x % 18446744073709551616 := by simp [IntKind.wrap, IntKind.signed, IntKind.bits]
  rw [h]; exact eq_true ⟨by omega, by omega⟩
theorem u64_lo (x : Int) : (0 ≤ IntKind.u64.wrap x) = True := eq_true (of_eq_true (u64_rg x)).1
theorem u64_hi (x : Int) : (IntKind.u64.wrap x < 18446744073709551616) = True := eq_true (of_eq_true (u64_rg x)).2
theorem viI_def (x : Int) : vi (IntKind.u64.wrap x).toNat = viI x := rfl
def viT (l : List UInt8) : List UInt8 := viI l.length ++ l
def nbPre : List S → Prop := fun xs => match xs with
  | [.va (.c1 (.vl (.string s)))] => s.size ≤ 1000000000
  | _ => False
theorem nbPre_open {xs : List S} (h : nbPre xs) : ∃ s, xs = [tS s] ∧ s.size ≤ 1000000000 := by
  unfold nbPre at h
  split at h
  · exact ⟨_, rfl, h⟩
  · exact h.elim
def nbFn (f : List UInt8 → Value) : Fun := ⟨nbPre, strVal f, fun xs h => by obtain ⟨s, rfl, _⟩ := nbPre_open h; trivial⟩
theorem nbFn_len {f : List UInt8 → Value} : ∀ xs H K, (nbFn f).sp xs H K → xs.length = 1 := fun xs H K h => by obtain ⟨s, rfl, _⟩ := nbPre_open h.1.1; rfl
attribute [go_sem] nbFn nbPre
set_option maxRecDepth 100000 in
theorem mWText : Meets Try.prog 79 (nbFn fun l => .string (mk (viT l))).sp := by
  refine meets_fn Try.func79 ok79 1 (by rw [Try.ntmps79]; decide) (meetsAll_f mWUint (meetsAll_nil _)) nbFn_len ?_
  rintro av H K ⟨⟨h, rfl⟩, hK⟩
  obtain ⟨s, rfl, hs⟩ := nbPre_open h
  have hK : K (tS (mk (viI (bl s).length ++ bl s))) [] := hK
  have hl := viI_len (bl s).length
  rw [size_bl] at hs
  simp (maxSteps := 1000000) -dsimp only [go_sem, pc79, rs79, u64_lo, u64_hi, viI_def]
  exact ⟨by omega, .done hK⟩
/-! ### The reference's -/
theorem rB1 (x : Int) : rowB [[C.vl (.int .u8 x)]] = [UInt8.ofNat x.toNat] := rfl
theorem u8_lo {m : Nat} (h : m < 256) : IntKind.u8.wrap (m : Int) = (m : Int) := by
  have h2 : IntKind.u8.wrap (m : Int) = (m : Int) % 256 := by simp [IntKind.wrap, IntKind.signed, IntKind.bits]
  rw [h2]; omega
theorem rB_lo {m : Nat} (h : m < 128) : rowB [[C.vl (.int .u8 (IntKind.u8.wrap (m : Int)))]] = [m.toUInt8] := by
  rw [rB1, u8_lo (by omega)]; rfl
theorem rem_nat (m : Nat) : (m : Int).tmod 128 = ((m % 128 : Nat) : Int) := by rw [Int.tmod_eq_emod_of_nonneg (by omega)]; omega
theorem quo_nat (m : Nat) : (m : Int).tdiv 128 = ((m / 128 : Nat) : Int) := by rw [Int.tdiv_eq_ediv_of_nonneg (by omega)]; omega
theorem rB_hi (m : Nat) : rowB [[C.vl (.int .u8 (IntKind.u8.wrap (128 + (m : Int).tmod 128)))]] = [(m % 128 + 128).toUInt8] := by
  rw [rB1, rem_nat, show (128 : Int) + ((m % 128 : Nat) : Int) = ((m % 128 + 128 : Nat) : Int) by omega, u8_lo (by omega)]; rfl
set_option maxRecDepth 100000 in
theorem mRUint : Meets Try.prog 90 (uFn fun n => .string (mk (vi n))).sp := by
  refine meets_fn Try.func90 ok90 1 (by rw [Try.ntmps90]; decide) (meetsAll_nil _) uFn_len ?_
  rintro av H K ⟨⟨h, rfl⟩, hK⟩
  obtain ⟨n, rfl, hn⟩ := uPre_open h
  have hK : K (tS (mk (vi n))) [] := by simpa [uFn, uVal] using hK
  simp (maxSteps := 1000000) -dsimp only [go_sem, pc90, rs90]
  refine vc_loop (α := Nat × List UInt8 × Nat) (fun z => [(0, iS .u64 z.1), (3, tS (mk z.2.1))]) (fun _ => [])
    (fun z => z.1 ≤ n ∧ z.2.2 ≤ 10 ∧ z.1 < 128 ^ z.2.2 ∧ 0 < z.2.2 ∧ z.2.1.length + z.2.2 = 10 ∧ vi n = z.2.1 ++ uL z.2.2 z.1) (fun z => z.1) (n, [], 10) 0 ⟨Nat.le_refl _, Nat.le_refl _, by show n < 128 ^ 10; omega, by show 0 < 10; decide, rfl, rfl⟩ ?_ ?_ ?_
  · simp -dsimp only [go_sem] <;> simp
  · simp [go_sem]
  rintro ⟨m, o, f⟩ ⟨hmn, hf, hm, hf0, hol, hu⟩
  simp only at hmn hf hm hf0 hol hu ⊢
  by_cases hlt : m < 128
  · have hg : decide (128 ≤ (m : Int)) = false := by simp; omega
    rw [uL_last hf0 hlt] at hu
    have e1 := rB_lo hlt
    simp (maxSteps := 1000000) -dsimp only [go_sem, hg, e1, List.length_singleton]
    refine ⟨rfl, by omega, .sel [] (by simp) (by simp) rfl (.done ?_)⟩
    rw [← hu]; exact hK
  · have hg : decide (128 ≤ (m : Int)) = true := by simp; omega
    obtain ⟨f, rfl⟩ : ∃ g, f = g + 1 := ⟨f - 1, by omega⟩
    rw [uL_more hlt] at hu
    have hm3 : m / 128 < 128 ^ f := by rw [Nat.pow_succ] at hm; omega
    have hf1 : 0 < f := by
      rcases Nat.eq_zero_or_pos f with rfl | h0
      · simp at hm; omega
      · exact h0
    have e1 := rB_hi m
    simp (maxSteps := 1000000) -dsimp only [go_sem, hg, e1, List.length_singleton, quo_nat]
    refine ⟨by decide, ⟨by rw [rem_nat]; omega, by rw [rem_nat]; omega⟩, rfl, by omega, ⟨by decide, by omega, by omega⟩, loop_next (m / 128, o ++ [(m % 128 + 128).toUInt8], f) 0 ⟨by show m / 128 ≤ n; omega, by show f ≤ 10; omega, hm3, hf1, by simp; omega, by rw [hu, List.append_assoc]; rfl⟩ (by show m / 128 < m; omega) ?_ ?_⟩
    · simp -dsimp only [go_sem] <;> simp
    · simp [go_sem]
set_option maxRecDepth 100000 in
theorem mRText : Meets Try.prog 83 (nbFn fun l => .string (mk (viT l))).sp := by
  refine meets_fn Try.func83 ok83 1 (by rw [Try.ntmps83]; decide) (meetsAll_f mRUint (meetsAll_nil _)) nbFn_len ?_
  rintro av H K ⟨⟨h, rfl⟩, hK⟩
  obtain ⟨s, rfl, hs⟩ := nbPre_open h
  have hK : K (tS (mk (viI (bl s).length ++ bl s))) [] := hK
  have hl := viI_len (bl s).length
  rw [size_bl] at hs
  simp (maxSteps := 1000000) -dsimp only [go_sem, pc83, rs83, u64_lo, u64_hi, viI_def]
  exact ⟨by omega, .done hK⟩
def ctPre : List S → Prop := fun av => match av with
  | [.va (.c1 (.vl (.int .i64 _)))] => True
  | _ => False
theorem ctPre_open {av : List S} (h : ctPre av) : ∃ n : Int, av = [iS .i64 n] := by
  unfold ctPre at h
  split at h
  · exact ⟨_, rfl⟩
  · exact h.elim
def ctVal (f : Int → Value) : List S → A := fun av => match av with
  | [.va (.c1 (.vl (.int .i64 n)))] => .c1 (.vl (f n))
  | _ => .gs []
def ctFn (f : Int → Value) : Fun := ⟨ctPre, ctVal f, fun av h => by obtain ⟨n, rfl⟩ := ctPre_open h; trivial⟩
theorem ctFn_len {f : Int → Value} : ∀ av H K, (ctFn f).sp av H K → av.length = 1 := fun av H K h => by obtain ⟨n, rfl⟩ := ctPre_open h.1.1; rfl
attribute [go_sem] ctFn ctPre ctVal
set_option maxRecDepth 100000 in
theorem mCount : Meets Try.prog 82 (ctFn fun n => .string (mk (viI n))).sp := by
  refine meets_fn Try.func82 ok82 1 (by rw [Try.ntmps82]; decide) (meetsAll_f mRUint (meetsAll_nil _)) ctFn_len ?_
  rintro av H K ⟨⟨h, rfl⟩, hK⟩
  obtain ⟨n, rfl⟩ := ctPre_open h
  have hK : K (tS (mk (viI n))) [] := hK
  simp (maxSteps := 1000000) -dsimp only [go_sem, pc82, rs82, u64_lo, u64_hi, viI_def]
  exact .done hK
theorem mRHash : Meets Try.prog 63 (bsFn fun l => .int .u64 (hashL l)).sp := by
  refine ⟨by kernel_rfl, ?_⟩
  rintro av vs E ro w K hlen hrel hR ⟨⟨h, hE⟩, hK⟩
  obtain ⟨s, rfl, hs⟩ := bsPre_open h
  obtain ⟨v0, rfl⟩ : ∃ v0, vs = [v0] := by
    match vs, hlen with
    | [v0], _ => exact ⟨v0, rfl⟩
  have h0 : v0 = .string s := hrel 0 _ _ rfl rfl
  subst h0
  refine (walkRHash s hs w).mono ?_
  rintro e w' ⟨rfl, rfl⟩
  exact ⟨iS .u64 (hashL (bl s)), _, E, ro, rfl, rfl, by rw [hE]; exact hK, hR⟩
end Go.Proofs.Ytpfmkfafagiicaa
/- describeType, on both sides. -/
namespace Go.Proofs.Ytpfmkfafagiicaa
open Go.W
mutual
/-- The description of a type. -/
def dTy : Ty → List UInt8
  | .mk k s n e => viI k ++ viI s ++ viT (bl n) ++ viI e.length ++ dTys e
def dTys : List Ty → List UInt8
  | [] => []
  | t :: r => dTy t ++ dTys r
end
theorem dTys_app : ∀ a b : List Ty, dTys (a ++ b) = dTys a ++ dTys b
  | [], _ => rfl
  | t :: a, b => by rw [List.cons_append, dTys, dTys, dTys_app a b, List.append_assoc]
theorem dTys_one (t : Ty) : dTys [t] = dTy t := by rw [dTys, dTys, List.append_nil]
theorem dTys_take {l : List Ty} {i : Nat} {u : Ty} (hx : l[i]? = some u) : dTys (l.take (i + 1)) = dTys (l.take i) ++ dTy u := by
  rw [take_next hx, dTys_app, dTys_one]
theorem dTys_pre (l : List Ty) (i : Nat) : (dTys (l.take i)).length ≤ (dTys l).length := by
  conv => rhs; rw [← List.take_append_drop i l, dTys_app, List.length_append]
  omega
theorem dTys_len {B : Nat} : ∀ {l : List Ty}, (∀ u ∈ l, (dTy u).length ≤ B) → (dTys l).length ≤ l.length * B
  | [], _ => Nat.zero_le _
  | t :: r, h => by
    have h1 := h t List.mem_cons_self
    have h2 := dTys_len (B := B) (l := r) fun u hu => h u (List.mem_cons_of_mem _ hu)
    rw [dTys, List.length_append, List.length_cons, Nat.add_mul]; omega
theorem viT_len (l : List UInt8) : (viT l).length ≤ l.length + 10 := by
  have := viI_len l.length
  unfold viT; rw [List.length_append]; omega
theorem dTy_len : ∀ (N : Nat) (t : Ty), t.h ≤ N → fewT t = true → (dTy t).length ≤ 80 * 4 ^ N
  | 0, t, h, _ => absurd h (by have := t.h_pos; omega)
  | N + 1, .mk k s n e, h, hf => by
    obtain ⟨⟨h1, h2, _⟩, h3⟩ := few_e hf
    have h4 : (dTys e).length ≤ e.length * (80 * 4 ^ N) := dTys_len fun u hu => dTy_len N u (by have := Ty.hs_mem hu; rw [Ty.h] at h; omega) (h3 u hu)
    have h5 : e.length * (80 * 4 ^ N) ≤ 3 * (80 * 4 ^ N) := Nat.mul_le_mul_right _ h2
    have h6 := viI_len k
    have h7 := viI_len s
    have h8 := viT_len (bl n)
    have h9 := viI_len e.length
    have h10 : 0 < 4 ^ N := Nat.pow_pos (by decide)
    rw [dTy]
    simp only [List.length_append]
    rw [Nat.pow_succ]; omega
theorem dTy_max {t : Ty} (hf : fewT t = true) : (dTy t).length ≤ 20971520 := dTy_len 9 t (few_h hf) hf
def dtPre (N : Nat) : List S → Prop := fun av => match av with
  | [.va (.gs q)] => isTy q ∧ (C.ty q).h ≤ N ∧ fewT (C.ty q) = true
  | _ => False
theorem dtPre_open {N : Nat} {av : List S} (h : dtPre N av) : ∃ t : Ty, av = [.va (.gs (tyC t))] ∧ TyOk t ∧ t.h ≤ N ∧ fewT t = true := by
  unfold dtPre at h
  split at h
  · obtain ⟨⟨t, rfl, ht⟩, h⟩ := h
    rw [ty_dec] at h
    exact ⟨t, rfl, ht, h⟩
  · exact h.elim
noncomputable def dtVal : List S → A := fun av => match av with
  | [.va (.gs q)] => tA (mk (dTy (C.ty q)))
  | _ => .gs []
noncomputable def dtFn (N : Nat) : Fun := ⟨dtPre N, dtVal, fun av h => by obtain ⟨a, rfl, _⟩ := dtPre_open h; trivial⟩
theorem dtFn_len {N : Nat} : ∀ av H K, (dtFn N).sp av H K → av.length = 1 := fun av H K h => by obtain ⟨a, rfl, _⟩ := dtPre_open h.1.1; rfl
attribute [go_sem] dtFn dtPre dtVal
set_option maxRecDepth 100000 in
set_option maxHeartbeats 1000000 in
theorem mDescribeType' : ∀ N, Meets Try.prog 80 (dtFn N).sp
  | 0 => ⟨by kernel_rfl, by rintro xs vs E ro w K _ _ _ ⟨⟨h, _⟩, _⟩; obtain ⟨a, _, _, h, _⟩ := dtPre_open h; have := a.h_pos; omega⟩
  | N + 1 => by
    refine meets_fn Try.func80 ok80 1 (by rw [Try.ntmps80]; decide) (meetsAll_f mWUint (meetsAll_f mWText (meetsAll_f (mDescribeType' N) (meetsAll_nil _)))) dtFn_len ?_
    rintro av H K ⟨⟨h, rfl⟩, hK⟩
    obtain ⟨t, rfl, ht, hN, hf⟩ := dtPre_open h
    have hK : K (tS (mk (dTy t))) [] := by
      have : (dtFn (N + 1)).val [.va (.gs (tyC t))] = tA (mk (dTy t)) := by simp -dsimp only [go_sem]
      rw [this] at hK; exact hK
    clear h
    have hm := dTy_max hf
    obtain ⟨k, s, n, e⟩ := t
    have hte := ht.e
    have hte2 := ht.len
    simp only [Ty.e] at hte hte2
    obtain ⟨⟨h1, h2, _⟩, h3⟩ := few_e hf
    have hn : (n.size ≤ 1000000000) = True := eq_true (by rw [size_bl]; omega)
    have h6 := viI_len k
    have h7 := viI_len s
    have h8 := viT_len (bl n)
    have h9 := viI_len e.length
    rw [dTy] at hm hK
    generalize hhd : viI k ++ viI s ++ viT (bl n) ++ viI e.length = hd at hm hK
    have hhl : hd.length ≤ 80 := by rw [← hhd]; simp only [List.length_append]; omega
    rw [List.length_append] at hm
    simp (maxSteps := 1000000) -dsimp only [go_sem, tyC, tysC_map, pc80, rs80, u64_lo, u64_hi, viI_def, hn]
    refine ⟨by omega, by omega, by omega, ?_⟩
    rw [hhd]
    refine vc_loop (α := Nat) (fun i => [(1, .va (.c1 (.pt 0 0))), (3, tS (mk (hd ++ dTys (e.take i)))), (26, .va (.c1 (.fz (e.map tyC)))), (27, iS .i64 e.length), (28, iS .i64 i)]) (fun _ => [.cells (tyC (.mk k s n e)) 40])
      (fun i => i ≤ e.length) (fun i => e.length - i) 0 1 (Nat.zero_le _) ?_ ?_ ?_
    · simp -dsimp only [go_sem, List.take_zero, dTys, List.append_nil] <;> simp
    · simp -dsimp only [go_sem, tyC, tysC_map]
    intro i hi
    rcases Nat.lt_or_ge i e.length with hlt | hge
    · have hg : decide ((i : Int) < (e.length : Int)) = true := by simp; omega
      obtain ⟨u, hx⟩ : ∃ t, e[i]? = some t := ⟨_, List.getElem?_eq_getElem hlt⟩
      have hum := List.mem_of_getElem? hx
      have q1 := row_rg' (row := tyC) hx
      have hu : isTy (tyC u) := isTy_mk (hte u hum)
      have huh : (u.h ≤ N) = True := eq_true (by have := Ty.hs_mem hum; rw [Ty.h] at hN; omega)
      have huf := h3 u hum
      have hb := dTys_pre e (i + 1)
      rw [dTys_take hx, List.length_append] at hb
      simp (maxSteps := 1000000) -dsimp only [go_sem, hg, ↓q1, tyC, tysC_map, tyC_len, hu, huh, huf]
      refine ⟨by omega, tyC_one u, by omega, by omega, loop_next (i + 1) 1 (by show i + 1 ≤ _; omega) (by omega) ?_ ?_⟩
      · simp -dsimp only [go_sem, dTys_take hx, List.append_assoc] <;> simp
      · simp -dsimp only [go_sem, tyC, tysC_map]
    · have hg : decide ((i : Int) < (e.length : Int)) = false := by simp; omega
      obtain rfl : i = e.length := by omega
      rw [List.take_length]
      simp (maxSteps := 1000000) -dsimp only [go_sem, hg, tyC, tysC_map]
      exact .sel [] (by simp) (by simp) rfl (.done hK)
set_option maxRecDepth 100000 in
set_option maxHeartbeats 1000000 in
theorem mRDescribeType' : ∀ N, Meets Try.prog 84 (dtFn N).sp
  | 0 => ⟨by kernel_rfl, by rintro xs vs E ro w K _ _ _ ⟨⟨h, _⟩, _⟩; obtain ⟨a, _, _, h, _⟩ := dtPre_open h; have := a.h_pos; omega⟩
  | N + 1 => by
    refine meets_fn Try.func84 ok84 1 (by rw [Try.ntmps84]; decide) (meetsAll_f mCount (meetsAll_f mRText (meetsAll_f (mRDescribeType' N) (meetsAll_nil _)))) dtFn_len ?_
    rintro av H K ⟨⟨h, rfl⟩, hK⟩
    obtain ⟨t, rfl, ht, hN, hf⟩ := dtPre_open h
    have hK : K (tS (mk (dTy t))) [] := by
      have : (dtFn (N + 1)).val [.va (.gs (tyC t))] = tA (mk (dTy t)) := by simp -dsimp only [go_sem]
      rw [this] at hK; exact hK
    clear h
    have hm := dTy_max hf
    obtain ⟨k, s, n, e⟩ := t
    have hte := ht.e
    have hte2 := ht.len
    simp only [Ty.e] at hte hte2
    obtain ⟨⟨h1, h2, _⟩, h3⟩ := few_e hf
    have hn : (n.size ≤ 1000000000) = True := eq_true (by rw [size_bl]; omega)
    have h6 := viI_len k
    have h7 := viI_len s
    have h8 := viT_len (bl n)
    have h9 := viI_len e.length
    rw [dTy] at hm hK
    generalize hhd : viI k ++ viI s ++ viT (bl n) ++ viI e.length = hd at hm hK
    have hhl : hd.length ≤ 80 := by rw [← hhd]; simp only [List.length_append]; omega
    rw [List.length_append] at hm
    simp (maxSteps := 1000000) -dsimp only [go_sem, tyC, tysC_map, pc84, rs84, hn]
    refine ⟨by omega, by omega, by omega, ?_⟩
    rw [hhd]
    refine vc_loop (α := Nat) (fun i => [(1, .va (.c1 (.pt 0 0))), (3, tS (mk (hd ++ dTys (e.take i)))), (4, iS .i64 i)]) (fun _ => [.cells (tyC (.mk k s n e)) 40])
      (fun i => i ≤ e.length) (fun i => e.length - i) 0 1 (Nat.zero_le _) ?_ ?_ ?_
    · simp -dsimp only [go_sem, List.take_zero, dTys, List.append_nil] <;> simp
    · simp -dsimp only [go_sem, tyC, tysC_map]
    intro i hi
    rcases Nat.lt_or_ge i e.length with hlt | hge
    · have hg : decide ((i : Int) < (e.length : Int)) = true := by simp; omega
      obtain ⟨u, hx⟩ : ∃ t, e[i]? = some t := ⟨_, List.getElem?_eq_getElem hlt⟩
      have hum := List.mem_of_getElem? hx
      have q1 := row_rg' (row := tyC) hx
      have hu : isTy (tyC u) := isTy_mk (hte u hum)
      have huh : (u.h ≤ N) = True := eq_true (by have := Ty.hs_mem hum; rw [Ty.h] at hN; omega)
      have huf := h3 u hum
      have hb := dTys_pre e (i + 1)
      rw [dTys_take hx, List.length_append] at hb
      simp (maxSteps := 1000000) -dsimp only [go_sem, hg, ↓q1, tyC, tysC_map, tyC_len, hu, huh, huf]
      refine ⟨by omega, by omega, by omega, loop_next (i + 1) 1 (by show i + 1 ≤ _; omega) (by omega) ?_ ?_⟩
      · simp -dsimp only [go_sem, dTys_take hx, List.append_assoc] <;> simp
      · simp -dsimp only [go_sem, tyC, tysC_map]
    · have hg : decide ((i : Int) < (e.length : Int)) = false := by simp; omega
      obtain rfl : i = e.length := by omega
      rw [List.take_length]
      simp (maxSteps := 1000000) -dsimp only [go_sem, hg, tyC, tysC_map]
      exact .sel [] (by simp) (by simp) rfl (.done hK)
/-- describeType, for all types that are few. -/
def ddPre : List S → Prop := fun av => match av with
  | [.va (.gs q)] => isTy q ∧ fewT (C.ty q) = true
  | _ => False
noncomputable def ddFn : Fun := ⟨ddPre, dtVal, fun av h => by unfold ddPre at h; split at h; trivial; exact h.elim⟩
theorem ddFn_len : ∀ av H K, ddFn.sp av H K → av.length = 1 := fun av H K h => by have h := h.1.1; simp only [ddFn, ddPre] at h; split at h; rfl; exact h.elim
attribute [go_sem] ddFn ddPre
theorem dd_dt : ∀ av H K, ddFn.sp av H K → (dtFn 9).sp av H K := fun av H K ⟨⟨h, e⟩, hK⟩ => by
  refine ⟨⟨?_, e⟩, hK⟩
  simp only [ddFn, ddPre] at h
  split at h
  · exact ⟨h.1, few_h h.2, h.2⟩
  · exact h.elim
end Go.Proofs.Ytpfmkfafagiicaa
/- describeStruct, describeEnum. -/
namespace Go.Proofs.Ytpfmkfafagiicaa
open Go.W
theorem mDescribeType : Meets Try.prog 80 ddFn.sp := meets_all 0 (fun _ : Nat => mDescribeType' 9) fun av H K h => ⟨0, dd_dt av H K h⟩
theorem mRDescribeType : Meets Try.prog 84 ddFn.sp := meets_all 0 (fun _ : Nat => mRDescribeType' 9) fun av H K h => ⟨0, dd_dt av H K h⟩
/-- The description of a field. -/
def dFl (f : Fl) : List UInt8 := viI f.num ++ viT (bl f.nm) ++ dTy f.ty ++ viI (bif f.opt then 1 else 0)
def dSt (t : St) : List UInt8 := viI 6 ++ viT (bl t.nm) ++ viI t.fs.length ++ t.fs.flatMap dFl
def dEv (p : ByteArray × Int) : List UInt8 := viT (bl p.1) ++ viI p.2
def dEn (e : En) : List UInt8 := viI 7 ++ viT (bl e.nm) ++ viI e.ns.length ++ (e.ns.zip e.vs).flatMap dEv
theorem vi_0 : vi 0 = viI 0 := rfl
theorem vi_1 : vi 1 = viI 1 := rfl
theorem vi_6 : vi 6 = viI 6 := rfl
theorem vi_7 : vi 7 = viI 7 := rfl
theorem fm_take {α : Type} {f : α → List UInt8} {l : List α} {i : Nat} {u : α} (hx : l[i]? = some u) : (l.take (i + 1)).flatMap f = (l.take i).flatMap f ++ f u := by
  rw [take_next hx, List.flatMap_append]; simp
theorem fm_pre {α : Type} (f : α → List UInt8) (l : List α) (i : Nat) : ((l.take i).flatMap f).length ≤ (l.flatMap f).length := by
  conv => rhs; rw [← List.take_append_drop i l, List.flatMap_append, List.length_append]
  omega
theorem fm_len {α : Type} {f : α → List UInt8} {B : Nat} : ∀ {l : List α}, (∀ u ∈ l, (f u).length ≤ B) → (l.flatMap f).length ≤ l.length * B
  | [], _ => Nat.zero_le _
  | t :: r, h => by
    have h1 := h t List.mem_cons_self
    have h2 := fm_len (B := B) (l := r) fun u hu => h u (List.mem_cons_of_mem _ hu)
    rw [List.flatMap_cons, List.length_append, List.length_cons, Nat.add_mul]; omega
theorem few_fl {f : Fl} (h : fewFl f = true) : (bl f.nm).length ≤ 40 ∧ fewT f.ty = true := by
  unfold fewFl at h
  simp only [Bool.not_eq_true', Bool.or_eq_false_iff, decide_eq_false_iff_not, Bool.not_eq_false'] at h
  exact ⟨by omega, h.2⟩
theorem few_st {t : St} (h : fewSt t = true) : (bl t.nm).length ≤ 40 ∧ t.fs.length ≤ 18 ∧ ∀ f ∈ t.fs, fewFl f = true := by
  unfold fewSt at h
  simp only [Bool.and_eq_true, List.all_eq_true, Bool.not_eq_true', Bool.or_eq_false_iff, decide_eq_false_iff_not] at h
  exact ⟨by omega, by omega, h.2⟩
theorem few_en {e : En} (h : fewE e = true) : (bl e.nm).length ≤ 40 ∧ e.ns.length ≤ 18 ∧ e.vs.length ≤ 18 ∧ ∀ n ∈ e.ns, (bl n).length ≤ 40 := by
  unfold fewE at h
  simp only [Bool.and_eq_true, List.all_eq_true, Bool.not_eq_true', Bool.or_eq_false_iff, decide_eq_false_iff_not] at h
  exact ⟨by omega, by omega, by omega, fun n hn => by have := h.2 n hn; omega⟩
theorem dFl_len {f : Fl} (h : fewFl f = true) : (dFl f).length ≤ 20971600 := by
  obtain ⟨h1, h2⟩ := few_fl h
  have h3 := dTy_max h2
  have h4 := viI_len f.num
  have h5 := viT_len (bl f.nm)
  have h6 := viI_len (bif f.opt then 1 else 0)
  unfold dFl
  simp only [List.length_append]; omega
theorem dSt_len {t : St} (h : fewSt t = true) : (dSt t).length ≤ 400000000 := by
  obtain ⟨h1, h2, h3⟩ := few_st h
  have h4 : (t.fs.flatMap dFl).length ≤ t.fs.length * 20971600 := fm_len fun u hu => dFl_len (h3 u hu)
  have h5 := viI_len 6
  have h6 := viT_len (bl t.nm)
  have h7 := viI_len t.fs.length
  unfold dSt
  simp only [List.length_append]; omega
theorem dEn_len {e : En} (h : fewE e = true) : (dEn e).length ≤ 400000000 := by
  obtain ⟨h1, h2, _, h3⟩ := few_en h
  have h4 : ((e.ns.zip e.vs).flatMap dEv).length ≤ (e.ns.zip e.vs).length * 60 := fm_len fun p hp => by
    have a := h3 p.1 (List.of_mem_zip hp).1
    have b := viT_len (bl p.1)
    have c := viI_len p.2
    unfold dEv; rw [List.length_append]; omega
  have h5 := viI_len 7
  have h6 := viT_len (bl e.nm)
  have h7 := viI_len e.ns.length
  have h8 : (e.ns.zip e.vs).length ≤ 18 := by rw [List.length_zip]; omega
  unfold dEn
  simp only [List.length_append]; omega
def isStF (r : List C) : Prop := ∃ t : St, r = stC t ∧ t.ok ∧ fewSt t = true
def isEnF (r : List C) : Prop := ∃ e : En, r = enC e ∧ e.ok ∧ fewE e = true ∧ e.ns.length = e.vs.length
set_option maxRecDepth 100000 in
set_option maxHeartbeats 1000000 in
theorem mDescribeStruct : Meets Try.prog 60 (gFn isStF C.st fun t => .string (mk (dSt t))).sp := by
  refine meets_fn Try.func60 ok60 1 (by rw [Try.ntmps60]; decide) (meetsAll_f mWUint (meetsAll_f mWText (meetsAll_f mDescribeType (meetsAll_nil _)))) gFn_len ?_
  rintro av H K ⟨⟨h, rfl⟩, hK⟩
  obtain ⟨_, rfl, t, rfl, ht, hf⟩ := gPre_open h
  have hK : K (tS (mk (dSt t))) [] := by
    have : (gFn isStF C.st fun t => .string (mk (dSt t))).val [.va (.gs (stC t))] = tA (mk (dSt t)) := by simp -dsimp only [go_sem]
    rw [this] at hK; exact hK
  clear h
  have hm := dSt_len hf
  obtain ⟨h1, h2, h3⟩ := few_st hf
  have hfs := ht.fs
  obtain ⟨nm, fs⟩ := t
  simp only at h1 h2 h3 hfs
  have hn : (nm.size ≤ 1000000000) = True := eq_true (by rw [size_bl]; omega)
  have h6 := viI_len 6
  have h7 := viT_len (bl nm)
  have h8 := viI_len fs.length
  unfold dSt at hm hK
  simp only at hm hK
  generalize hhd : viI 6 ++ viT (bl nm) ++ viI fs.length = hd at hm hK
  have hhl : hd.length ≤ 70 := by rw [← hhd]; simp only [List.length_append]; omega
  rw [List.length_append] at hm
  simp (maxSteps := 1000000) -dsimp only [go_sem, stC, pc60, rs60, u64_lo, u64_hi, viI_def, hn, vi_6]
  refine ⟨⟨by omega, by omega⟩, by omega, by omega, ?_⟩
  rw [hhd]
  refine vc_loop (α := Nat) (fun i => [(1, .va (.c1 (.pt 0 0))), (3, tS (mk (hd ++ (fs.take i).flatMap dFl))), (18, .va (.c1 (.fz (fs.map flC)))), (19, iS .i64 fs.length), (20, iS .i64 i)]) (fun _ => [.cells (stC ⟨nm, fs⟩) 32])
    (fun i => i ≤ fs.length) (fun i => fs.length - i) 0 1 (Nat.zero_le _) ?_ ?_ ?_
  · simp -dsimp only [go_sem, List.take_zero, List.flatMap_nil, List.append_nil] <;> simp
  · simp -dsimp only [go_sem, stC]
  intro i hi
  rcases Nat.lt_or_ge i fs.length with hlt | hge
  · have hg : decide ((i : Int) < (fs.length : Int)) = true := by simp; omega
    obtain ⟨u, hx⟩ : ∃ t, fs[i]? = some t := ⟨_, List.getElem?_eq_getElem hlt⟩
    have hum := List.mem_of_getElem? hx
    have q1 := row_rg' (row := flC) hx
    obtain ⟨u1, u2⟩ := few_fl (h3 u hum)
    have hun : (u.nm.size ≤ 1000000000) = True := eq_true (by rw [size_bl]; omega)
    have hty : isTy (tyC u.ty) := isTy_mk (hfs u hum).ty
    have htd := ty_dec u.ty
    rw [tyC_eq] at hty htd
    have hb := fm_pre dFl fs (i + 1)
    rw [fm_take hx, List.length_append] at hb
    have hdl : (dFl u).length = (viI u.num).length + (viT (bl u.nm)).length + (dTy u.ty).length + (viI (bif u.opt then 1 else 0)).length := by unfold dFl; simp only [List.length_append]
    cases hop : u.opt with
    | true =>
      rw [hop, Bool.cond_true] at hdl
      have hd1 : dFl u = viI u.num ++ viT (bl u.nm) ++ dTy u.ty ++ viI 1 := by unfold dFl; rw [hop]; rfl
      simp (maxSteps := 1000000) -dsimp only [go_sem, hg, ↓q1, stC, flC, hop, hun, hty, htd, u2, u64_lo, u64_hi, viI_def, vi_1]
      refine ⟨⟨by omega, by omega⟩, by omega, by omega, by omega, ⟨by omega, by omega⟩, by omega, by omega, loop_next (i + 1) 1 (by show i + 1 ≤ _; omega) (by omega) ?_ ?_⟩
      · simp -dsimp only [go_sem, fm_take hx, hd1, List.append_assoc] <;> simp
      · simp -dsimp only [go_sem, stC]
    | false =>
      rw [hop, Bool.cond_false] at hdl
      have hd1 : dFl u = viI u.num ++ viT (bl u.nm) ++ dTy u.ty ++ viI 0 := by unfold dFl; rw [hop]; rfl
      simp (maxSteps := 1000000) -dsimp only [go_sem, hg, ↓q1, stC, flC, hop, hun, hty, htd, u2, u64_lo, u64_hi, viI_def, vi_0]
      refine ⟨⟨by omega, by omega⟩, by omega, by omega, by omega, ⟨by omega, by omega⟩, by omega, by omega, loop_next (i + 1) 1 (by show i + 1 ≤ _; omega) (by omega) ?_ ?_⟩
      · simp -dsimp only [go_sem, fm_take hx, hd1, List.append_assoc] <;> simp
      · simp -dsimp only [go_sem, stC]
  · have hg : decide ((i : Int) < (fs.length : Int)) = false := by simp; omega
    obtain rfl : i = fs.length := by omega
    rw [List.take_length]
    simp (maxSteps := 1000000) -dsimp only [go_sem, hg, stC]
    exact .sel [] (by simp) (by simp) rfl (.done hK)
theorem zip_at {α β : Type} {l : List α} {m : List β} {i : Nat} {a : α} {b : β} (h1 : l[i]? = some a) (h2 : m[i]? = some b) : (l.zip m)[i]? = some (a, b) := by
  rw [List.getElem?_zip_eq_some]; exact ⟨h1, h2⟩
set_option maxRecDepth 100000 in
set_option maxHeartbeats 1000000 in
theorem mDescribeEnum : Meets Try.prog 61 (gFn isEnF C.en fun t => .string (mk (dEn t))).sp := by
  refine meets_fn Try.func61 ok61 1 (by rw [Try.ntmps61]; decide) (meetsAll_f mWUint (meetsAll_f mWText (meetsAll_nil _))) gFn_len ?_
  rintro av H K ⟨⟨h, rfl⟩, hK⟩
  obtain ⟨_, rfl, t, rfl, ht, hf, hnv⟩ := gPre_open h
  have hK : K (tS (mk (dEn t))) [] := by
    have : (gFn isEnF C.en fun t => .string (mk (dEn t))).val [.va (.gs (enC t))] = tA (mk (dEn t)) := by simp -dsimp only [go_sem]
    rw [this] at hK; exact hK
  clear h
  have hm := dEn_len hf
  obtain ⟨h1, h2, h2', h3⟩ := few_en hf
  obtain ⟨nm, ns, vs⟩ := t
  simp only at h1 h2 h2' h3 hnv
  have hn : (nm.size ≤ 1000000000) = True := eq_true (by rw [size_bl]; omega)
  have h6 := viI_len 7
  have h7 := viT_len (bl nm)
  have h8 := viI_len ns.length
  unfold dEn at hm hK
  simp only at hm hK
  generalize hhd : viI 7 ++ viT (bl nm) ++ viI ns.length = hd at hm hK
  have hhl : hd.length ≤ 70 := by rw [← hhd]; simp only [List.length_append]; omega
  rw [List.length_append] at hm
  simp (maxSteps := 1000000) -dsimp only [go_sem, enC, pc61, rs61, u64_lo, u64_hi, viI_def, hn, vi_7]
  refine ⟨⟨by omega, by omega⟩, by omega, by omega, ?_⟩
  rw [hhd]
  refine vc_loop (α := Nat) (fun i => [(1, .va (.c1 (.pt 0 0))), (3, tS (mk (hd ++ ((ns.zip vs).take i).flatMap dEv))), (18, .va (.c1 (.fz (ns.map stR)))), (19, iS .i64 ns.length), (20, iS .i64 i)]) (fun _ => [.cells (enC ⟨nm, ns, vs⟩) 47])
    (fun i => i ≤ ns.length) (fun i => ns.length - i) 0 1 (Nat.zero_le _) ?_ ?_ ?_
  · simp -dsimp only [go_sem, List.take_zero, List.flatMap_nil, List.append_nil] <;> simp
  · simp -dsimp only [go_sem, enC]
  intro i hi
  rcases Nat.lt_or_ge i ns.length with hlt | hge
  · have hg : decide ((i : Int) < (ns.length : Int)) = true := by simp; omega
    obtain ⟨u, hx⟩ : ∃ t, ns[i]? = some t := ⟨_, List.getElem?_eq_getElem hlt⟩
    obtain ⟨v, hy⟩ : ∃ t, vs[i]? = some t := ⟨_, List.getElem?_eq_getElem (by omega)⟩
    have q1 := row_rg' (row := stR) hx
    have q2 := row_rg' (row := inR) hy
    have hz := zip_at hx hy
    have u1 := h3 u (List.mem_of_getElem? hx)
    have hun : (u.size ≤ 1000000000) = True := eq_true (by rw [size_bl]; omega)
    have hb := fm_pre dEv (ns.zip vs) (i + 1)
    rw [fm_take hz, List.length_append] at hb
    have hdl : (dEv (u, v)).length = (viT (bl u)).length + (viI v).length := by unfold dEv; simp only [List.length_append]
    have hd1 : dEv (u, v) = viT (bl u) ++ viI v := rfl
    simp (maxSteps := 1000000) -dsimp only [go_sem, hg, ↓q1, ↓q2, enC, hun, u64_lo, u64_hi, viI_def]
    refine ⟨by omega, by omega, by omega, by omega, by omega, loop_next (i + 1) 1 (by show i + 1 ≤ _; omega) (by omega) ?_ ?_⟩
    · simp -dsimp only [go_sem, fm_take hz, hd1, List.append_assoc] <;> simp
    · simp -dsimp only [go_sem, enC]
  · have hg : decide ((i : Int) < (ns.length : Int)) = false := by simp; omega
    obtain rfl : i = ns.length := by omega
    rw [List.take_of_length_le (by rw [List.length_zip]; omega)]
    simp (maxSteps := 1000000) -dsimp only [go_sem, hg, enC]
    exact .sel [] (by simp) (by simp) rfl (.done hK)
end Go.Proofs.Ytpfmkfafagiicaa
/- SchemaFinds. -/
namespace Go.Proofs.Ytpfmkfafagiicaa
open Go.W
def fdPre : List S → Prop := fun av => match av with
  | [.va (.gs r), .va (.c1 (.vl (.string _))), .va (.c1 (.vl (.int .i64 _)))] => isSc r
  | _ => False
theorem fdPre_open {av : List S} (h : fdPre av) : ∃ (s : Sc) (n : ByteArray) (k : Int), av = [.va (.gs (scC s)), tS n, iS .i64 k] ∧ s.ok := by
  unfold fdPre at h
  split at h
  · obtain ⟨s, rfl, hs⟩ := h; exact ⟨s, _, _, rfl, hs⟩
  · exact h.elim
def fdFn : Fun := ⟨fdPre, fun _ => bA true, fun _av _ => trivial⟩
theorem fdFn_len : ∀ av H K, fdFn.sp av H K → av.length = 3 := fun av H K h => by obtain ⟨s, n, k, rfl, _⟩ := fdPre_open h.1.1; rfl
theorem fS_ok {ss : List St} (h : ∀ s ∈ ss, s.ok) (n : ByteArray) : ((fS ss n).getD default).ok := by
  cases hf : fS ss n with
  | none => exact St.ok_default
  | some t => exact h t (fS_mem hf).1
theorem fEn_ok {es : List En} (h : ∀ s ∈ es, s.ok) (n : ByteArray) : ((fEn es n).getD default).ok := by
  cases hf : fEn es n with
  | none => exact ⟨by decide, by decide, by decide, fun _ h => (List.not_mem_nil h).elim, fun _ h => (List.not_mem_nil h).elim⟩
  | some t => exact h t (fEn_mem hf).1
theorem fF_ok {l : List Fl} (h : ∀ s ∈ l, s.ok) (k : Int) : ((fF l k).getD default).ok := by
  cases hf : fF l k with
  | none => exact ⟨by unfold in64; decide, by decide, .mk (by unfold in64; decide) (by unfold in64; decide) (by decide) (by decide) (fun _ h => by cases h)⟩
  | some t => exact h t (List.mem_of_find?_eq_some hf)
set_option maxRecDepth 100000 in
set_option maxHeartbeats 4000000 in
theorem mLawFinds : Meets Try.prog 6 fdFn.sp := by
  refine meets_fn Try.func6 okF6 3 (by rw [Try.ntmps6]; decide) (meetsAll_f mFew (meetsAll_f mAwake (meetsAll_s mStructP (meetsAll_s mRStruct (meetsAll_s mEnumP (meetsAll_s mREnum (meetsAll_f mRSameStruct (meetsAll_f mRSameEnum (meetsAll_s mFieldOfP (meetsAll_s mRFieldOf (meetsAll_f mRSameField (meetsAll_nil _)))))))))))) fdFn_len ?_
  rintro av H K ⟨⟨h, rfl⟩, hK⟩
  obtain ⟨s, n, q, rfl, hs⟩ := fdPre_open h
  have hK : K (bS true) [] := hK
  clear h
  have fin : ∀ R : Hp, W.Fin 0 K (bS true) R := fun R => .sel [] (by simp) (by simp) rfl (.done (by simpa [go_sem] using hK))
  have hsc : isSc (scC s) := isSc_mk hs
  have hdec : C.sc [.vl (.int .i64 s.ver), .fz (s.es.map enC), .fz (s.ss.map stC)] = s := sc_dec s
  rw [scC] at hsc
  cases hf : fewS s with
  | false =>
    simp (maxSteps := 1000000) -dsimp only [go_sem, scC, pcF6, rsF6, hsc, hdec, hf]
    exact fin _
  | true =>
    have hfit := few_fit hs hf
    have hls := hfit.ok.ls
    have ht : isSt (stC ((fS s.ss n).getD default)) := isSt_mk (fS_ok hs.ss n)
    have he : isEn (enC ((fEn s.es n).getD default)) := isEn_mk (fEn_ok hs.es n)
    have td := st_dec ((fS s.ss n).getD default)
    have ed := en_dec ((fEn s.es n).getD default)
    have t2 : eqB ((fS s.ss n).getD default) ((fS s.ss n).getD default) = true := eqB_eq rfl
    have e2 : eqB ((fEn s.es n).getD default) ((fEn s.es n).getD default) = true := eqB_eq rfl
    have b1 : (hasS s.ss n ^^ hasS s.ss n) = false := by simp
    have b2 : (hasE s.es n ^^ hasE s.es n) = false := by simp
    have b3 : (hasS s.ss n != hasS s.ss n) = false := by simp
    have b4 : (hasE s.es n != hasE s.es n) = false := by simp
    simp (maxSteps := 1000000) -dsimp only [go_sem, scC, pcF6, rsF6, hsc, hdec, hf]
    obtain ⟨x, hx⟩ : ∃ x, (fS s.ss n).getD default = x := ⟨_, rfl⟩
    obtain ⟨y, hy⟩ : ∃ y, (fEn s.es n).getD default = y := ⟨_, rfl⟩
    rw [hx] at ht td t2
    rw [hy] at he ed e2
    rw [stC] at ht td
    rw [enC] at he ed
    refine stp_use hfit ?_
    rw [hx]
    simp (maxSteps := 1000000) -dsimp only [go_sem, stC]
    refine vc_tail (up := [(1, tS n), (2, iS .i64 q), (3, .va (.c1 (.pt 0 0))), (7, .va (.c1 (.pt 1 0))), (8, bS (hasS s.ss n))]) (Hs := [.cells (scC s) 25, .cells (stC x) 32]) 2 ?_ ?_ ?_
    rotate_left
    · simp -dsimp only [go_sem] <;> simp
    · simp -dsimp only [go_sem, scC, stC] <;> simp
    simp (maxSteps := 1000000) -dsimp only [go_sem, scC, pcF6_4]
    refine stp_use hfit ?_
    rw [hx]
    simp (maxSteps := 1000000) -dsimp only [go_sem, stC]
    refine vc_tail (up := [(1, tS n), (2, iS .i64 q), (3, .va (.c1 (.pt 0 0))), (7, .va (.c1 (.pt 1 0))), (8, bS (hasS s.ss n)), (9, .va (.c1 (.pt 2 0))), (10, bS (hasS s.ss n))]) (Hs := [.cells (scC s) 25, .cells (stC x) 32, .cells (stC x) 32]) 3 ?_ ?_ ?_
    rotate_left
    · simp -dsimp only [go_sem] <;> simp
    · simp -dsimp only [go_sem, scC, stC] <;> simp
    simp (maxSteps := 1000000) -dsimp only [go_sem, scC, pcF6_5]
    refine enp_use hfit ?_
    rw [hy]
    simp (maxSteps := 1000000) -dsimp only [go_sem, enC]
    refine vc_tail (up := [(1, tS n), (2, iS .i64 q), (3, .va (.c1 (.pt 0 0))), (7, .va (.c1 (.pt 1 0))), (8, bS (hasS s.ss n)), (9, .va (.c1 (.pt 2 0))), (10, bS (hasS s.ss n)), (11, .va (.c1 (.pt 3 0))), (12, bS (hasE s.es n))]) (Hs := [.cells (scC s) 25, .cells (stC x) 32, .cells (stC x) 32, .cells (enC y) 47]) 4 ?_ ?_ ?_
    rotate_left
    · simp -dsimp only [go_sem] <;> simp
    · simp -dsimp only [go_sem, scC, stC, enC] <;> simp
    simp (maxSteps := 1000000) -dsimp only [go_sem, scC, pcF6_6]
    refine enp_use hfit ?_
    rw [hy]
    simp (maxSteps := 1000000) -dsimp only [go_sem, enC]
    refine vc_tail (up := [(1, tS n), (2, iS .i64 q), (3, .va (.c1 (.pt 0 0))), (7, .va (.c1 (.pt 1 0))), (8, bS (hasS s.ss n)), (9, .va (.c1 (.pt 2 0))), (10, bS (hasS s.ss n)), (11, .va (.c1 (.pt 3 0))), (12, bS (hasE s.es n)), (13, .va (.c1 (.pt 4 0))), (14, bS (hasE s.es n))]) (Hs := [.cells (scC s) 25, .cells (stC x) 32, .cells (stC x) 32, .cells (enC y) 47, .cells (enC y) 47]) 5 ?_ ?_ ?_
    rotate_left
    · simp -dsimp only [go_sem] <;> simp
    · simp -dsimp only [go_sem, scC, stC, enC] <;> simp
    simp (maxSteps := 1000000) -dsimp only [go_sem, scC, stC, enC, pcF6_7, ht, td, t2, he, ed, e2, Bool.not_true]
    refine vc_loop (α := Nat) (fun i => [(2, iS .i64 q), (3, .va (.c1 (.pt 0 0))), (15, iS .i64 i)]) (fun _ => [.cells (scC s) 25])
      (fun i => i ≤ s.ss.length) (fun i => s.ss.length - i) 0 1 (Nat.zero_le _) ?_ ?_ ?_
    · simp -dsimp only [go_sem] <;> simp
    · simp -dsimp only [go_sem, scC] <;> simp
    intro i hi
    rcases Nat.lt_or_ge i s.ss.length with hlt | hge
    · have hg : decide ((i : Int) < (s.ss.length : Int)) = true := by simp; omega
      obtain ⟨t, htx⟩ : ∃ e, s.ss[i]? = some e := ⟨_, List.getElem?_eq_getElem hlt⟩
      have htm := List.mem_of_getElem? htx
      have q1 := row_rg' (row := stC) htx
      have hto := hs.ss t htm
      have hsm := (hfit.sm t htm).2
      obtain ⟨f, hff⟩ : ∃ f, (fF t.fs q).getD default = f := ⟨_, rfl⟩
      have hfo : isFl (flC f) := isFl_mk (by rw [← hff]; exact fF_ok hto.fs q)
      have fd := fl_dec f
      have f2 : eqB f f = true := eqB_eq rfl
      have c1 : ((fF t.fs q).isSome ^^ (fF t.fs q).isSome) = false := by simp
      have c2 : ((fF t.fs q).isSome != (fF t.fs q).isSome) = false := by simp
      rw [flC] at hfo fd
      have e4 : (stC t).take 2 = stC t := by rw [stC]; rfl
      simp (maxSteps := 1000000) -dsimp only [go_sem, hg, ↓q1, scC, stC]
      refine ⟨by omega, fop_use hto hsm ?_⟩
      rw [hff]
      simp (maxSteps := 1000000) -dsimp only [go_sem, flC]
      refine vc_tail (up := [(2, iS .i64 q), (3, .va (.c1 (.pt 0 0))), (15, iS .i64 i), (16, .va (.c1 (.pt 1 0))), (17, bS (fF t.fs q).isSome)]) (Hs := [.cells (scC s) 25, .cells (flC f) 53]) 2 ?_ ?_ ?_
      rotate_left
      · simp -dsimp only [go_sem] <;> simp
      · simp -dsimp only [go_sem, scC, flC] <;> simp
      simp (maxSteps := 1000000) -dsimp only [go_sem, pcF6_13, ↓q1, scC, stC]
      refine ⟨by omega, fop_use hto hsm ?_⟩
      rw [hff]
      simp (maxSteps := 1000000) -dsimp only [go_sem, flC]
      refine vc_tail (up := [(2, iS .i64 q), (3, .va (.c1 (.pt 0 0))), (15, iS .i64 i), (16, .va (.c1 (.pt 1 0))), (17, bS (fF t.fs q).isSome), (18, .va (.c1 (.pt 2 0))), (19, bS (fF t.fs q).isSome)]) (Hs := [.cells (scC s) 25, .cells (flC f) 53, .cells (flC f) 53]) 3 ?_ ?_ ?_
      rotate_left
      · simp -dsimp only [go_sem] <;> simp
      · simp -dsimp only [go_sem, scC, flC] <;> simp
      simp (maxSteps := 1000000) -dsimp only [go_sem, pcF6_14, scC, flC, hfo, fd, f2, Bool.not_true]
      refine ⟨by omega, loop_next (i + 1) 1 (by omega) (by omega) ?_ ?_⟩
      · simp -dsimp only [go_sem] <;> simp
      · simp -dsimp only [go_sem, scC] <;> simp
    · have hg : decide ((i : Int) < (s.ss.length : Int)) = false := by simp; omega
      simp (maxSteps := 1000000) -dsimp only [go_sem, hg, scC]
      exact fin _
end Go.Proofs.Ytpfmkfafagiicaa
/- The reference: describe, Describe, Digest. -/
namespace Go.Proofs.Ytpfmkfafagiicaa
open Go.W
theorem en_lens {s : Sc} (hf : s.fit) (h : checkF s = 0) : ∀ e ∈ s.es, e.ns.length = e.vs.length := by
  intro e he
  obtain ⟨_, _, h2, _⟩ := check_good hf h
  obtain ⟨i, hi⟩ := List.mem_iff_getElem?.1 he
  have h3 := (en_zero hi (fE_zero h2 i (List.getElem?_eq_some_iff.1 hi).1)).2.2
  unfold ceF at h3
  by_cases c : e.ns.length = e.vs.length
  · exact c
  · rw [show (decide (e.ns.length = 0) || decide (e.ns.length ≠ e.vs.length)) = true by simp [c]] at h3
    simp at h3
theorem few_mem {s : Sc} (h : fewS s = true) : (∀ e ∈ s.es, fewE e = true) ∧ ∀ t ∈ s.ss, fewSt t = true := by
  unfold fewS at h
  simp only [Bool.and_eq_true, List.all_eq_true] at h
  exact h.2
/-- What is said of a name. -/
def desL (s : Sc) (n : ByteArray) : List UInt8 := match fS s.ss n with
  | some t => dSt t
  | none => dEn ((fEn s.es n).getD default)
def isScD (r : List C) : Prop := ∃ s : Sc, r = scC s ∧ s.fit ∧ fewS s = true ∧ checkF s = 0
theorem isScD_mk {s : Sc} (h1 : s.fit) (h2 : fewS s = true) (h3 : checkF s = 0) : isScD (scC s) := ⟨s, rfl, h1, h2, h3⟩
def knB (s : Sc) (n : ByteArray) : Bool := hasS s.ss n || hasE s.es n
def sdPre : List S → Prop := fun av => match av with
  | [.va (.gs r), .va (.c1 (.vl (.string n)))] => isScD r ∧ knB (C.sc r) n = true
  | _ => False
theorem sdPre_open {av : List S} (h : sdPre av) : ∃ (s : Sc) (n : ByteArray), av = [.va (.gs (scC s)), tS n] ∧ s.fit ∧ fewS s = true ∧ checkF s = 0 ∧ knB s n = true := by
  unfold sdPre at h
  split at h
  · obtain ⟨⟨s, rfl, h1, h2, h3⟩, h4⟩ := h
    rw [sc_dec] at h4
    exact ⟨s, _, rfl, h1, h2, h3, h4⟩
  · exact h.elim
noncomputable def sdFn (f : Sc → ByteArray → List UInt8) : Fun := ⟨sdPre, snVal C.sc fun s n => tA (mk (f s n)), fun av h => by obtain ⟨s, n, rfl, _⟩ := sdPre_open h; trivial⟩
theorem sdFn_len {f : Sc → ByteArray → List UInt8} : ∀ av H K, (sdFn f).sp av H K → av.length = 2 := fun av H K h => by obtain ⟨s, n, rfl, _⟩ := sdPre_open h.1.1; rfl
attribute [go_sem] sdFn sdPre
set_option maxRecDepth 100000 in
set_option maxHeartbeats 1000000 in
theorem mRdescribe : Meets Try.prog 64 (sdFn desL).sp := by
  refine meets_fn Try.func64 ok64 2 (by rw [Try.ntmps64]; decide) (meetsAll_s mRStruct (meetsAll_s mREnum (meetsAll_f mCount (meetsAll_f mRText (meetsAll_f mRDescribeType (meetsAll_nil _)))))) sdFn_len ?_
  rintro av H K ⟨⟨h, rfl⟩, hK⟩
  obtain ⟨s, n, rfl, hs, hf, h0, hkn⟩ := sdPre_open h
  replace hK : K (tS (mk (desL s n))) [] := by
    have : (sdFn desL).val [.va (.gs (scC s)), tS n] = tA (mk (desL s n)) := by simp -dsimp only [go_sem]
    rw [this] at hK; exact hK
  clear h
  simp (maxSteps := 1000000) -dsimp only [go_sem, scC, pc64, rs64]
  refine stp_use hs ?_
  unfold desL at hK
  cases hx : fS s.ss n with
  | some t =>
    rw [hx] at hK
    simp only at hK
    have e2 : hasS s.ss n = true := by rw [← fS_has, hx]; rfl
    rw [e2, Option.getD_some]
    obtain ⟨htm, rfl⟩ := fS_mem hx
    have hft := (few_mem hf).2 t htm
    have hm := dSt_len hft
    obtain ⟨h1, h2, h3⟩ := few_st hft
    have hfs := (hs.ok.ss t htm).fs
    have hn : (t.nm.size ≤ 1000000000) = True := eq_true (by rw [size_bl]; omega)
    have h6 := viI_len 6
    have h7 := viT_len (bl t.nm)
    have h8 := viI_len t.fs.length
    unfold dSt at hm hK
    generalize hhd : viI 6 ++ viT (bl t.nm) ++ viI t.fs.length = hd at hm hK
    have hhl : hd.length ≤ 70 := by rw [← hhd]; simp only [List.length_append]; omega
    rw [List.length_append] at hm
    simp (maxSteps := 1000000) -dsimp only [go_sem, stC, hn]
    refine ⟨by omega, by omega, ?_⟩
    rw [hhd]
    refine vc_loop (α := Nat) (fun i => [(5, .va (.c1 (.pt 1 0))), (7, tS (mk (hd ++ (t.fs.take i).flatMap dFl))), (8, iS .i64 i)]) (fun _ => [.cells (scC s) 25, .cells (stC t) 32])
      (fun i => i ≤ t.fs.length) (fun i => t.fs.length - i) 0 2 (Nat.zero_le _) ?_ ?_ ?_
    · simp -dsimp only [go_sem, List.take_zero, List.flatMap_nil, List.append_nil] <;> simp
    · simp -dsimp only [go_sem, scC, stC]
    intro i hi
    rcases Nat.lt_or_ge i t.fs.length with hlt | hge
    · have hg : decide ((i : Int) < (t.fs.length : Int)) = true := by simp; omega
      obtain ⟨u, hx⟩ : ∃ v, t.fs[i]? = some v := ⟨_, List.getElem?_eq_getElem hlt⟩
      have hum := List.mem_of_getElem? hx
      have q1 := row_rg' (row := flC) hx
      obtain ⟨u1, u2⟩ := few_fl (h3 u hum)
      have hun : (u.nm.size ≤ 1000000000) = True := eq_true (by rw [size_bl]; omega)
      have hty : isTy (tyC u.ty) := isTy_mk (hfs u hum).ty
      have htd := ty_dec u.ty
      rw [tyC_eq] at hty htd
      have hb := fm_pre dFl t.fs (i + 1)
      rw [fm_take hx, List.length_append] at hb
      have hdl : (dFl u).length = (viI u.num).length + (viT (bl u.nm)).length + (dTy u.ty).length + (viI (bif u.opt then 1 else 0)).length := by unfold dFl; simp only [List.length_append]
      cases hop : u.opt with
      | true =>
        rw [hop, Bool.cond_true] at hdl
        have hd1 : dFl u = viI u.num ++ viT (bl u.nm) ++ dTy u.ty ++ viI 1 := by unfold dFl; rw [hop]; rfl
        simp (maxSteps := 1000000) -dsimp only [go_sem, hg, ↓q1, scC, stC, flC, hop, hun, hty, htd, u2]
        refine ⟨by omega, by omega, by omega, by omega, by omega, by omega, loop_next (i + 1) 2 (by show i + 1 ≤ _; omega) (by omega) ?_ ?_⟩
        · simp -dsimp only [go_sem, fm_take hx, hd1, List.append_assoc] <;> simp
        · simp -dsimp only [go_sem, scC, stC]
      | false =>
        rw [hop, Bool.cond_false] at hdl
        have hd1 : dFl u = viI u.num ++ viT (bl u.nm) ++ dTy u.ty ++ viI 0 := by unfold dFl; rw [hop]; rfl
        simp (maxSteps := 1000000) -dsimp only [go_sem, hg, ↓q1, scC, stC, flC, hop, hun, hty, htd, u2]
        refine ⟨by omega, by omega, by omega, by omega, by omega, by omega, loop_next (i + 1) 2 (by show i + 1 ≤ _; omega) (by omega) ?_ ?_⟩
        · simp -dsimp only [go_sem, fm_take hx, hd1, List.append_assoc] <;> simp
        · simp -dsimp only [go_sem, scC, stC]
    · have hg : decide ((i : Int) < (t.fs.length : Int)) = false := by simp; omega
      obtain rfl : i = t.fs.length := by omega
      rw [List.take_length]
      simp (maxSteps := 1000000) -dsimp only [go_sem, hg, scC, stC]
      exact .sel [] (by simp) (by simp) rfl (.done hK)
  | none =>
    rw [hx] at hK
    simp only at hK
    have e2 : hasS s.ss n = false := by rw [← fS_has, hx]; rfl
    rw [e2, Option.getD_none]
    unfold knB at hkn
    rw [e2, Bool.false_or] at hkn
    obtain ⟨e, hy⟩ : ∃ e, fEn s.es n = some e := Option.isSome_iff_exists.1 (by rw [fEn_has]; exact hkn)
    rw [hy, Option.getD_some] at hK
    simp (maxSteps := 1000000) -dsimp only [go_sem, stC]
    refine enp_use hs ?_
    rw [hkn, hy, Option.getD_some]
    obtain ⟨hem, rfl⟩ := fEn_mem hy
    have hfe := (few_mem hf).1 e hem
    have hnv := en_lens hs h0 e hem
    have hm := dEn_len hfe
    obtain ⟨h1, h2, h2', h3⟩ := few_en hfe
    have hn : (e.nm.size ≤ 1000000000) = True := eq_true (by rw [size_bl]; omega)
    have h6 := viI_len 7
    have h7 := viT_len (bl e.nm)
    have h8 := viI_len e.ns.length
    unfold dEn at hm hK
    generalize hhd : viI 7 ++ viT (bl e.nm) ++ viI e.ns.length = hd at hm hK
    have hhl : hd.length ≤ 70 := by rw [← hhd]; simp only [List.length_append]; omega
    rw [List.length_append] at hm
    simp (maxSteps := 1000000) -dsimp only [go_sem, enC, hn]
    refine ⟨by omega, by omega, ?_⟩
    rw [hhd]
    refine vc_loop (α := Nat) (fun i => [(10, .va (.c1 (.pt 2 0))), (12, tS (mk (hd ++ ((e.ns.zip e.vs).take i).flatMap dEv))), (13, iS .i64 i)]) (fun _ => [.cells (scC s) 25, .cells (stC default) 32, .cells (enC e) 47])
      (fun i => i ≤ e.ns.length) (fun i => e.ns.length - i) 0 3 (Nat.zero_le _) ?_ ?_ ?_
    · simp -dsimp only [go_sem, List.take_zero, List.flatMap_nil, List.append_nil] <;> simp
    · simp -dsimp only [go_sem, scC, stC, enC]
    intro i hi
    rcases Nat.lt_or_ge i e.ns.length with hlt | hge
    · have hg : decide ((i : Int) < (e.ns.length : Int)) = true := by simp; omega
      obtain ⟨u, hx⟩ : ∃ t, e.ns[i]? = some t := ⟨_, List.getElem?_eq_getElem hlt⟩
      obtain ⟨v, hy⟩ : ∃ t, e.vs[i]? = some t := ⟨_, List.getElem?_eq_getElem (by omega)⟩
      have q1 := row_rg' (row := stR) hx
      have q2 := row_rg' (row := inR) hy
      have hz := zip_at hx hy
      have u1 := h3 u (List.mem_of_getElem? hx)
      have hun : (u.size ≤ 1000000000) = True := eq_true (by rw [size_bl]; omega)
      have hb := fm_pre dEv (e.ns.zip e.vs) (i + 1)
      rw [fm_take hz, List.length_append] at hb
      have hdl : (dEv (u, v)).length = (viT (bl u)).length + (viI v).length := by unfold dEv; simp only [List.length_append]
      have hd1 : dEv (u, v) = viT (bl u) ++ viI v := rfl
      simp (maxSteps := 1000000) -dsimp only [go_sem, hg, ↓q1, ↓q2, enC, hun]
      refine ⟨by omega, by omega, by omega, by omega, by omega, loop_next (i + 1) 3 (by show i + 1 ≤ _; omega) (by omega) ?_ ?_⟩
      · simp -dsimp only [go_sem, fm_take hz, hd1, List.append_assoc] <;> simp
      · simp -dsimp only [go_sem, scC, stC, enC]
    · have hg : decide ((i : Int) < (e.ns.length : Int)) = false := by simp; omega
      obtain rfl : i = e.ns.length := by omega
      rw [List.take_of_length_le (by rw [List.length_zip]; omega)]
      simp (maxSteps := 1000000) -dsimp only [go_sem, hg, enC]
      exact .sel [] (by simp) (by simp) rfl (.done hK)
end Go.Proofs.Ytpfmkfafagiicaa
/- The reference: Describe, Digest. -/
namespace Go.Proofs.Ytpfmkfafagiicaa
open Go.W
theorem desL_len {s : Sc} (hf : fewS s = true) {n : ByteArray} (hk : knB s n = true) : (desL s n).length ≤ 400000000 := by
  unfold desL
  cases hx : fS s.ss n with
  | some t => exact dSt_len ((few_mem hf).2 t (fS_mem hx).1)
  | none =>
    have e2 : hasS s.ss n = false := by rw [← fS_has, hx]; rfl
    unfold knB at hk
    rw [e2, Bool.false_or] at hk
    obtain ⟨e, hy⟩ : ∃ e, fEn s.es n = some e := Option.isSome_iff_exists.1 (by rw [fEn_has]; exact hk)
    rw [hy, Option.getD_some]
    exact dEn_len ((few_mem hf).1 e (fEn_mem hy).1)
/-- The description of a struct and of what it uses. -/
def digL (s : Sc) (n : ByteArray) : List UInt8 := desL s n ++ (usesF s.ss n).flatMap (desL s)
theorem kn_uses {s : Sc} (hs : s.fit) (h0 : checkF s = 0) {n x : ByteArray} (hx : x ∈ usesF s.ss n) : knB s x = true := by
  unfold knB
  rcases one_of hs h0 hx with ⟨h, _⟩ | ⟨_, h⟩ <;> rw [h] <;> simp
theorem uses_len {s : Sc} (hs : s.fit) (h0 : checkF s = 0) (n : ByteArray) : (usesF s.ss n).length ≤ 32 := by
  have := (check_good hs h0).1.vlen n
  unfold usesF; rw [srtB_len]; exact this
theorem digL_len {s : Sc} (hs : s.fit) (hf : fewS s = true) (h0 : checkF s = 0) {n : ByteArray} (hk : knB s n = true) : (digL s n).length ≤ 20000000000 := by
  have h1 := desL_len hf hk
  have h2 : ((usesF s.ss n).flatMap (desL s)).length ≤ (usesF s.ss n).length * 400000000 := fm_len fun u hu => desL_len hf (kn_uses hs h0 hu)
  have h3 := uses_len hs h0 n
  unfold digL; rw [List.length_append]; omega
set_option maxRecDepth 100000 in
set_option maxHeartbeats 1000000 in
theorem mRDescribe : Meets Try.prog 35 (sdFn digL).sp := by
  refine meets_fn Try.func35 ok35 2 (by rw [Try.ntmps35]; decide) (meetsAll_f mRdescribe (meetsAll_s mUsed (meetsAll_nil _))) sdFn_len ?_
  rintro av H K ⟨⟨h, rfl⟩, hK⟩
  obtain ⟨s, n, rfl, hs, hf, h0, hkn⟩ := sdPre_open h
  replace hK : K (tS (mk (digL s n))) [] := by
    have : (sdFn digL).val [.va (.gs (scC s)), tS n] = tA (mk (digL s n)) := by simp -dsimp only [go_sem]
    rw [this] at hK; exact hK
  clear h
  have hm := digL_len hs hf h0 hkn
  obtain ⟨g, _⟩ := check_good hs h0
  have hsd := isScD_mk hs hf h0
  have hdec := sc_dec s
  rw [scC] at hsd hdec
  have hkx : ∀ x ∈ usesF s.ss n, knB s x = true := fun x hx => kn_uses hs h0 hx
  unfold digL at hK hm
  generalize hhd : desL s n = hd at hK hm
  rw [List.length_append] at hm
  simp (maxSteps := 1000000) -dsimp only [go_sem, scC, pc35, rs35, hsd, hdec, hkn]
  rw [hhd]
  refine ud_use hs g ?_
  have hul := uses_len hs h0 n
  generalize usesF s.ss n = us at *
  simp (maxSteps := 1000000) -dsimp only [go_sem]
  refine vc_loop (α := Nat) (fun i => [(2, .va (.c1 (.pt 0 0))), (5, tS (mk (hd ++ (us.take i).flatMap (desL s)))), (6, .va (.c1 (.fz (us.map stR)))), (7, iS .i64 i)]) (fun _ => [.cells (scC s) 25])
    (fun i => i ≤ us.length) (fun i => us.length - i) 0 1 (Nat.zero_le _) ?_ ?_ ?_
  · simp -dsimp only [go_sem, List.take_zero, List.flatMap_nil, List.append_nil] <;> simp
  · simp -dsimp only [go_sem, scC]
  intro i hi
  rcases Nat.lt_or_ge i us.length with hlt | hge
  · have hg : decide ((i : Int) < (us.length : Int)) = true := by simp; omega
    obtain ⟨u, hx⟩ : ∃ t, us[i]? = some t := ⟨_, List.getElem?_eq_getElem hlt⟩
    have q1 := row_rg' (row := stR) hx
    have hku := hkx u (List.mem_of_getElem? hx)
    have hb := fm_pre (desL s) us (i + 1)
    rw [fm_take hx, List.length_append] at hb
    simp (maxSteps := 1000000) -dsimp only [go_sem, hg, ↓q1, scC, hsd, hdec, hku]
    refine ⟨by omega, by omega, by omega, loop_next (i + 1) 1 (by show i + 1 ≤ _; omega) (by omega) ?_ ?_⟩
    · simp -dsimp only [go_sem, fm_take hx, List.append_assoc] <;> simp
    · simp -dsimp only [go_sem, scC]
  · have hg : decide ((i : Int) < (us.length : Int)) = false := by simp; omega
    obtain rfl : i = us.length := by omega
    rw [List.take_length]
    simp (maxSteps := 1000000) -dsimp only [go_sem, hg, scC]
    exact .sel [] (by simp) (by simp) rfl (.done hK)
/-- The digest. -/
def dgF (s : Sc) (n : ByteArray) : Int := bif okS s n then hashL (digL s n) else 0
def isScW (r : List C) : Prop := ∃ s : Sc, r = scC s ∧ s.fit ∧ fewS s = true
theorem isScW_mk {s : Sc} (h1 : s.fit) (h2 : fewS s = true) : isScW (scC s) := ⟨s, rfl, h1, h2⟩
noncomputable def dgFn : Fun := snFn isScW C.sc (fun s n => iA .u64 (dgF s n)) (fun _ _ => trivial)
attribute [go_sem] dgFn
theorem kn_ok {s : Sc} {n : ByteArray} (h : okS s n = true) : knB s n = true := by
  unfold knB; rw [(okS_true h).2]; rfl
set_option maxRecDepth 100000 in
theorem mRDigest : Meets Try.prog 33 dgFn.sp := by
  refine meets_fn Try.func33 ok33 2 (by rw [Try.ntmps33]; decide) (meetsAll_f mKnown (meetsAll_f mRDescribe (meetsAll_f mRHash (meetsAll_nil _)))) snFn_len ?_
  rintro av H K ⟨⟨h, rfl⟩, hK⟩
  obtain ⟨_, n, rfl, s, rfl, hs, hf⟩ := snPre_open h
  replace hK : K (iS .u64 (dgF s n)) [] := by
    have : dgFn.val [.va (.gs (scC s)), tS n] = iA .u64 (dgF s n) := by simp -dsimp only [go_sem]
    rw [this] at hK; exact hK
  clear h
  have hsf := isScF_mk hs
  have hdec := sc_dec s
  rw [scC] at hsf hdec
  unfold dgF at hK
  cases hok : okS s n with
  | false =>
    rw [hok, Bool.cond_false] at hK
    simp (maxSteps := 1000000) -dsimp only [go_sem, scC, pc33, rs33, hsf, hdec, hok]
    exact .sel [] (by simp) (by simp) rfl (.done hK)
  | true =>
    rw [hok, Bool.cond_true] at hK
    have h0 := (okS_true hok).1
    have hkn := kn_ok hok
    have hsd := isScD_mk hs hf h0
    rw [scC] at hsd
    have hm := digL_len hs hf h0 hkn
    generalize hz : digL s n = z at hK hm
    simp (maxSteps := 1000000) -dsimp only [go_sem, scC, pc33, rs33, hsf, hdec, hok, hsd, hkn, hz]
    exact ⟨by rw [size_bl, bl_mk]; omega, .sel [] (by simp) (by simp) rfl (.done hK)⟩
end Go.Proofs.Ytpfmkfafagiicaa
/- Digest. -/
namespace Go.Proofs.Ytpfmkfafagiicaa
open Go.W
theorem isStF_mk {t : St} (h1 : t.ok) (h2 : fewSt t = true) : isStF (stC t) := ⟨t, rfl, h1, h2⟩
theorem isEnF_mk {e : En} (h1 : e.ok) (h2 : fewE e = true) (h3 : e.ns.length = e.vs.length) : isEnF (enC e) := ⟨e, rfl, h1, h2, h3⟩
set_option maxRecDepth 100000 in
set_option maxHeartbeats 1000000 in
theorem mDigest : Meets Try.prog 32 dgFn.sp := by
  refine meets_fn Try.func32 ok32 2 (by rw [Try.ntmps32]; decide) (meetsAll_s mFound (meetsAll_s mUses (meetsAll_f mDescribeStruct (meetsAll_f mDescribeEnum (meetsAll_f mHashP (meetsAll_nil _)))))) snFn_len ?_
  rintro av H K ⟨⟨h, rfl⟩, hK⟩
  obtain ⟨_, n, rfl, s, rfl, hs, hf⟩ := snPre_open h
  replace hK : K (iS .u64 (dgF s n)) [] := by
    have : dgFn.val [.va (.gs (scC s)), tS n] = iA .u64 (dgF s n) := by simp -dsimp only [go_sem]
    rw [this] at hK; exact hK
  clear h
  have fin : ∀ (x : Int) (R : Hp), dgF s n = x → W.Fin 0 K (iS .u64 x) R := fun x R h1 => by
    rw [h1] at hK
    exact .sel [] (by simp) (by simp) rfl (.done (by simpa [go_sem] using hK))
  simp (maxSteps := 1000000) -dsimp only [go_sem, scC, pc32, rs32]
  refine fa_use hs (fun h => ?_) fun h ks vs ks' vs' x1 x2 => ?_
  · simp (maxSteps := 1000000) -dsimp only [go_sem]
    exact fin 0 _ (by unfold dgF okS; rw [beq_eq_false_iff_ne.2 h]; rfl)
  obtain ⟨g, ha, _⟩ := check_good hs h
  have hx := x1 n
  rw [← fS_has]
  cases hft : fS s.ss n with
  | none =>
    simp (maxSteps := 1000000) -dsimp only [go_sem, Option.isSome_none]
    exact fin 0 _ (by unfold dgF okS; rw [← fS_has, hft]; simp)
  | some t =>
    rw [hft] at hx
    simp only [Option.map_some] at hx
    obtain ⟨ht, rfl⟩ := fS_mem hft
    have hkn : knB s t.nm = true := by unfold knB; rw [← fS_has, hft]; rfl
    have hm := digL_len hs hf h hkn
    have hdg : dgF s t.nm = hashL (digL s t.nm) := by unfold dgF okS; rw [← fS_has, hft, h]; rfl
    have hdl : digL s t.nm = dSt t ++ (usesF s.ss t.nm).flatMap (desL s) := by unfold digL; conv => lhs; rw [desL, hft]
    rw [hdl] at hdg hm
    rw [List.length_append] at hm
    have hst := isStF_mk (hs.ok.ss t ht) ((few_mem hf).2 t ht)
    have hsd := st_dec t
    rw [stC] at hst hsd
    simp (maxSteps := 1000000) -dsimp only [go_sem, Option.isSome_some, hx, stC, hst]
    refine us_use x1 hs.ok.ss (by have := g.vlen t.nm; omega) ?_
    have hul := uses_len hs h t.nm
    have hkx : ∀ x ∈ usesF s.ss t.nm, knB s x = true := fun x hx => kn_uses hs h hx
    generalize usesF s.ss t.nm = us at *
    simp (maxSteps := 1000000) -dsimp only [go_sem]
    refine vc_loop (α := Nat) (fun i => [(5, .va (.c1 (.pt 3 0))), (7, tS (mk (dSt t ++ (us.take i).flatMap (desL s)))), (27, .va (.c1 (.fz (us.map stR)))), (28, iS .i64 us.length), (29, iS .i64 i)]) (fun _ => [.cells (scC s) 25, .map .string ks (vs.map stA), .map .string ks' (vs'.map enA), .cells [.mp 1, .mp 2] 69])
      (fun i => i ≤ us.length) (fun i => us.length - i) 0 4 (Nat.zero_le _) ?_ ?_ ?_
    · simp -dsimp only [go_sem, List.take_zero, List.flatMap_nil, List.append_nil, hx, stC, hsd] <;> simp
    · simp -dsimp only [go_sem, scC]
    intro i hi
    rcases Nat.lt_or_ge i us.length with hlt | hge
    · have hg : decide ((i : Int) < (us.length : Int)) = true := by simp; omega
      obtain ⟨u, hxu⟩ : ∃ t, us[i]? = some t := ⟨_, List.getElem?_eq_getElem hlt⟩
      have q1 := row_rg' (row := stR) hxu
      have hku := hkx u (List.mem_of_getElem? hxu)
      have hb := fm_pre (desL s) us (i + 1)
      rw [fm_take hxu, List.length_append] at hb
      have hy := x1 u
      cases hfu : fS s.ss u with
      | some v =>
        rw [hfu] at hy
        simp only [Option.map_some] at hy
        have hvt := (fS_mem hfu).1
        have hdu : desL s u = dSt v := by rw [desL, hfu]
        rw [hdu] at hb
        have hsv := isStF_mk (hs.ok.ss v hvt) ((few_mem hf).2 v hvt)
        have hdv := st_dec v
        rw [stC] at hsv hdv
        simp (maxSteps := 1000000) -dsimp only [go_sem, hg, ↓q1, scC, stC, hy, hsv, hdv]
        refine ⟨by omega, by omega, by omega, loop_next (i + 1) 4 (by show i + 1 ≤ _; omega) (by omega) ?_ ?_⟩
        · simp -dsimp only [go_sem, fm_take hxu, hdu, List.append_assoc] <;> simp
        · simp -dsimp only [go_sem, scC]
      | none =>
        rw [hfu] at hy
        simp only [Option.map_none] at hy
        have e2 : hasS s.ss u = false := by rw [← fS_has, hfu]; rfl
        unfold knB at hku
        rw [e2, Bool.false_or] at hku
        obtain ⟨e, hye⟩ : ∃ e, fEn s.es u = some e := Option.isSome_iff_exists.1 (by rw [fEn_has]; exact hku)
        have hz := x2 u
        rw [hye] at hz
        simp only [Option.map_some] at hz
        have hem := (fEn_mem hye).1
        have hdu : desL s u = dEn e := by rw [desL, hfu, hye]; rfl
        rw [hdu] at hb
        have hse := isEnF_mk (hs.ok.es e hem) ((few_mem hf).1 e hem) (en_lens hs h e hem)
        have hde := en_dec e
        rw [enC] at hse hde
        simp (maxSteps := 1000000) -dsimp only [go_sem, hg, ↓q1, scC, enC, hy, hz, hse, hde]
        refine ⟨by omega, by omega, by omega, loop_next (i + 1) 4 (by show i + 1 ≤ _; omega) (by omega) ?_ ?_⟩
        · simp -dsimp only [go_sem, fm_take hxu, hdu, List.append_assoc] <;> simp
        · simp -dsimp only [go_sem, scC]
    · have hg : decide ((i : Int) < (us.length : Int)) = false := by simp; omega
      obtain rfl : i = us.length := by omega
      rw [List.take_length]
      simp (maxSteps := 1000000) -dsimp only [go_sem, hg, scC]
      exact ⟨by rw [size_bl, bl_mk, List.length_append]; omega, fin _ _ hdg⟩
end Go.Proofs.Ytpfmkfafagiicaa
namespace Go.Proofs.Ytpfmkfafagiicaa
open Go.W
/- robotics/roboticslaw07.alike -/
def pcG34_13 : PC :=
  .seq (.gh (.reg /- 13 -/ [⟨(some 94), none, .q (.mv (.t 17))⟩,
      ⟨(some 95), none, .q (.mv (.t 19))⟩,
      ⟨(some 96), none, .q (.eqB true (.t 94) (.t 95))⟩,
      ⟨(some 97), none, .q (.mv (.t 96))⟩,
      ⟨(some 98), (some (97, false)), .l (.ldn 2 (.t 16))⟩,
      ⟨(some 99), (some (97, false)), .l (.ldn 2 (.t 18))⟩,
      ⟨(some 100), (some (97, false)), .cq 26 [(.t 98), (.t 99)]⟩,
      ⟨(some 101), (some (97, false)), .q (.not (.t 100))⟩,
      ⟨(some 102), none, .pick (.t 97) (.k (.bool true)) (.t 101)⟩,
      ⟨(some 103), none, .q (.mv (.t 102))⟩,
      ⟨(some 104), (some (103, false)), .l (.ldn 3 (.t 20))⟩,
      ⟨(some 105), (some (103, false)), .l (.ldn 3 (.t 22))⟩,
      ⟨(some 106), (some (103, false)), .cq 27 [(.t 104), (.t 105)]⟩,
      ⟨(some 107), (some (103, false)), .q (.not (.t 106))⟩,
      ⟨(some 108), none, .pick (.t 103) (.k (.bool true)) (.t 107)⟩]))
  (.cond (.t 108)
    (.seq (.reg /- 14 -/ [⟨(some 8), none, .q (.mv (.k (.bool false)))⟩])
      (.ret))
    (.skip))
@[go_sem ↓] theorem foldG34_13 (Γ : Env) (k0 : Nat) (fr : Fr) (H : Hp) (K : Ex → Fr → Hp → Prop) : vc Γ k0 pcG34_13 fr H K = vcn Γ k0 pcG34_13 fr H K ⟨⟩ := rfl
def pcG34_12 : PC :=
  .seq (.gh (.ord /- 12 -/ [.q ⟨(some 86), none, .l (.ldn 3 (.t 5))⟩,
      .q ⟨(some 87), none, .q (.mv (.t 10))⟩,
      .q ⟨(some 88), none, .q (.mv (.t 15))⟩,
      .q ⟨(some 89), none, .l (.ia 1 (.t 87) (.t 88))⟩,
      .q ⟨(some 90), none, .l (.ld1 (.t 89))⟩,
      .m ⟨(some 91), none, .cl 25 [(.t 86), (.t 90)] []⟩,
      .q ⟨(some 85), none, .q (.mv (.t 91))⟩,
      .q ⟨(some 92), none, .q (.ex (.t 85) 0)⟩,
      .q ⟨(some 93), none, .q (.ex (.t 85) 1)⟩,
      .m ⟨(some 22), none, .e (.al (.agg #[(.string (mk [])), (.slice none 0 0), (.slice none 0 0)]) 47)⟩,
      .rc ⟨(some 85), none, .q (.mv (.t 91))⟩,
      .rc ⟨(some 92), none, .q (.ex (.t 85) 0)⟩,
      .rc ⟨(some 93), none, .q (.ex (.t 85) 1)⟩,
      .m ⟨none, none, .e (.st 3 (.t 22) (.t 92))⟩,
      .rc ⟨(some 93), none, .q (.ex (.t 85) 1)⟩,
      .m ⟨(some 23), none, .q (.mv (.t 93))⟩]))
  (pcG34_13)
@[go_sem ↓] theorem foldG34_12 (Γ : Env) (k0 : Nat) (fr : Fr) (H : Hp) (K : Ex → Fr → Hp → Prop) : vc Γ k0 pcG34_12 fr H K = vcn Γ k0 pcG34_12 fr H K ⟨⟩ := rfl
def pcG34_11 : PC :=
  .seq (.gh (.ord /- 11 -/ [.q ⟨(some 77), none, .l (.ldn 3 (.t 4))⟩,
      .q ⟨(some 78), none, .q (.mv (.t 9))⟩,
      .q ⟨(some 79), none, .q (.mv (.t 15))⟩,
      .q ⟨(some 80), none, .l (.ia 1 (.t 78) (.t 79))⟩,
      .q ⟨(some 81), none, .l (.ld1 (.t 80))⟩,
      .m ⟨(some 82), none, .cl 25 [(.t 77), (.t 81)] []⟩,
      .q ⟨(some 76), none, .q (.mv (.t 82))⟩,
      .q ⟨(some 83), none, .q (.ex (.t 76) 0)⟩,
      .q ⟨(some 84), none, .q (.ex (.t 76) 1)⟩,
      .m ⟨(some 20), none, .e (.al (.agg #[(.string (mk [])), (.slice none 0 0), (.slice none 0 0)]) 47)⟩,
      .rc ⟨(some 76), none, .q (.mv (.t 82))⟩,
      .rc ⟨(some 83), none, .q (.ex (.t 76) 0)⟩,
      .rc ⟨(some 84), none, .q (.ex (.t 76) 1)⟩,
      .m ⟨none, none, .e (.st 3 (.t 20) (.t 83))⟩,
      .rc ⟨(some 84), none, .q (.ex (.t 76) 1)⟩,
      .m ⟨(some 21), none, .q (.mv (.t 84))⟩]))
  (pcG34_12)
@[go_sem ↓] theorem foldG34_11 (Γ : Env) (k0 : Nat) (fr : Fr) (H : Hp) (K : Ex → Fr → Hp → Prop) : vc Γ k0 pcG34_11 fr H K = vcn Γ k0 pcG34_11 fr H K ⟨⟩ := rfl
def pcG34_10 : PC :=
  .seq (.gh (.ord /- 10 -/ [.q ⟨(some 68), none, .l (.ldn 3 (.t 5))⟩,
      .q ⟨(some 69), none, .q (.mv (.t 10))⟩,
      .q ⟨(some 70), none, .q (.mv (.t 15))⟩,
      .q ⟨(some 71), none, .l (.ia 1 (.t 69) (.t 70))⟩,
      .q ⟨(some 72), none, .l (.ld1 (.t 71))⟩,
      .m ⟨(some 73), none, .cl 23 [(.t 68), (.t 72)] []⟩,
      .q ⟨(some 67), none, .q (.mv (.t 73))⟩,
      .q ⟨(some 74), none, .q (.ex (.t 67) 0)⟩,
      .q ⟨(some 75), none, .q (.ex (.t 67) 1)⟩,
      .m ⟨(some 18), none, .e (.al (.agg #[(.string (mk [])), (.slice none 0 0)]) 32)⟩,
      .rc ⟨(some 67), none, .q (.mv (.t 73))⟩,
      .rc ⟨(some 74), none, .q (.ex (.t 67) 0)⟩,
      .rc ⟨(some 75), none, .q (.ex (.t 67) 1)⟩,
      .m ⟨none, none, .e (.st 2 (.t 18) (.t 74))⟩,
      .rc ⟨(some 75), none, .q (.ex (.t 67) 1)⟩,
      .m ⟨(some 19), none, .q (.mv (.t 75))⟩]))
  (pcG34_11)
@[go_sem ↓] theorem foldG34_10 (Γ : Env) (k0 : Nat) (fr : Fr) (H : Hp) (K : Ex → Fr → Hp → Prop) : vc Γ k0 pcG34_10 fr H K = vcn Γ k0 pcG34_10 fr H K ⟨⟩ := rfl
def pcG34_4 : PC :=
  .seq (.seq (.gh (.reg /- 4 -/ [⟨(some 42), none, .q (.mv (.t 9))⟩,
      ⟨(some 43), none, .q (.mv (.t 10))⟩,
      ⟨(some 44), none, .cq 16 [(.t 42), (.t 43)]⟩,
      ⟨(some 45), none, .q (.not (.t 44))⟩,
      ⟨(some 46), none, .q (.mv (.t 45))⟩,
      ⟨(some 47), (some (46, false)), .l (.ldn 2 (.t 11))⟩,
      ⟨(some 48), (some (46, false)), .l (.ldn 2 (.t 13))⟩,
      ⟨(some 49), (some (46, false)), .cq 26 [(.t 47), (.t 48)]⟩,
      ⟨(some 50), (some (46, false)), .q (.not (.t 49))⟩,
      ⟨(some 51), none, .pick (.t 46) (.k (.bool true)) (.t 50)⟩]))
  (.cond (.t 51)
    (.seq (.reg /- 5 -/ [⟨(some 8), none, .q (.mv (.k (.bool false)))⟩])
      (.ret))
    (.skip)))
  (.seq (.seq (.reg /- 6 -/ [⟨(some 15), none, .q (.mv (.k (.int .i64 0)))⟩])
    (.block 0 (.loop (.seq (.seq (.reg /- 7 -/ [⟨(some 52), none, .q (.mv (.t 15))⟩,
      ⟨(some 53), none, .q (.mv (.t 9))⟩,
      ⟨(some 54), none, .q (.lnL (.t 53))⟩,
      ⟨(some 55), none, .q (.bin .lss true (.t 52) (.t 54))⟩])
          (.cond (.t 55)
            (.skip)
            (.exit 0)))
          (.seq (.block 1 (.seq (.ord /- 9 -/ [.q ⟨(some 59), none, .l (.ldn 3 (.t 4))⟩,
      .q ⟨(some 60), none, .q (.mv (.t 9))⟩,
      .q ⟨(some 61), none, .q (.mv (.t 15))⟩,
      .q ⟨(some 62), none, .l (.ia 1 (.t 60) (.t 61))⟩,
      .q ⟨(some 63), none, .l (.ld1 (.t 62))⟩,
      .m ⟨(some 64), none, .cl 23 [(.t 59), (.t 63)] []⟩,
      .q ⟨(some 58), none, .q (.mv (.t 64))⟩,
      .q ⟨(some 65), none, .q (.ex (.t 58) 0)⟩,
      .q ⟨(some 66), none, .q (.ex (.t 58) 1)⟩,
      .m ⟨(some 16), none, .e (.al (.agg #[(.string (mk [])), (.slice none 0 0)]) 32)⟩,
      .rc ⟨(some 58), none, .q (.mv (.t 64))⟩,
      .rc ⟨(some 65), none, .q (.ex (.t 58) 0)⟩,
      .rc ⟨(some 66), none, .q (.ex (.t 58) 1)⟩,
      .m ⟨none, none, .e (.st 2 (.t 16) (.t 65))⟩,
      .rc ⟨(some 66), none, .q (.ex (.t 58) 1)⟩,
      .m ⟨(some 17), none, .q (.mv (.t 66))⟩])
              (pcG34_10)))
            (.reg /- 8 -/ [⟨(some 56), none, .q (.mv (.t 15))⟩,
      ⟨(some 57), none, .q (.bin .add true (.t 56) (.k (.int .i64 1)))⟩,
      ⟨(some 15), none, .q (.mv (.t 57))⟩]))))))
    (.seq (.reg /- 15 -/ [⟨(some 8), none, .q (.mv (.k (.bool true)))⟩])
      (.ret)))
@[go_sem ↓] theorem foldG34_4 (Γ : Env) (k0 : Nat) (fr : Fr) (H : Hp) (K : Ex → Fr → Hp → Prop) : vc Γ k0 pcG34_4 fr H K = vcn Γ k0 pcG34_4 fr H K ⟨⟩ := rfl
def pcG34_3 : PC :=
  .seq (.gh (.reg /- 3 -/ [⟨(some 37), none, .l (.ldn 3 (.t 5))⟩,
      ⟨(some 38), none, .q (.mv (.t 3))⟩,
      ⟨(some 39), none, .cl 23 [(.t 37), (.t 38)] []⟩,
      ⟨(some 36), none, .q (.mv (.t 39))⟩,
      ⟨(some 40), none, .q (.ex (.t 36) 0)⟩,
      ⟨(some 41), none, .q (.ex (.t 36) 1)⟩,
      ⟨(some 13), none, .e (.al (.agg #[(.string (mk [])), (.slice none 0 0)]) 32)⟩,
      ⟨none, none, .e (.st 2 (.t 13) (.t 40))⟩,
      ⟨(some 14), none, .q (.mv (.t 41))⟩]))
  (pcG34_4)
@[go_sem ↓] theorem foldG34_3 (Γ : Env) (k0 : Nat) (fr : Fr) (H : Hp) (K : Ex → Fr → Hp → Prop) : vc Γ k0 pcG34_3 fr H K = vcn Γ k0 pcG34_3 fr H K ⟨⟩ := rfl
def pcG34_2 : PC :=
  .seq (.gh (.reg /- 2 -/ [⟨(some 31), none, .l (.ldn 3 (.t 4))⟩,
      ⟨(some 32), none, .q (.mv (.t 2))⟩,
      ⟨(some 33), none, .cl 23 [(.t 31), (.t 32)] []⟩,
      ⟨(some 30), none, .q (.mv (.t 33))⟩,
      ⟨(some 34), none, .q (.ex (.t 30) 0)⟩,
      ⟨(some 35), none, .q (.ex (.t 30) 1)⟩,
      ⟨(some 11), none, .e (.al (.agg #[(.string (mk [])), (.slice none 0 0)]) 32)⟩,
      ⟨none, none, .e (.st 2 (.t 11) (.t 34))⟩,
      ⟨(some 12), none, .q (.mv (.t 35))⟩]))
  (pcG34_3)
@[go_sem ↓] theorem foldG34_2 (Γ : Env) (k0 : Nat) (fr : Fr) (H : Hp) (K : Ex → Fr → Hp → Prop) : vc Γ k0 pcG34_2 fr H K = vcn Γ k0 pcG34_2 fr H K ⟨⟩ := rfl
def pcG34 : PC :=
  .seq (.reg /- 0 -/ [⟨(some 4), none, .e (.bx 25 (.t 0))⟩,
      ⟨(some 5), none, .e (.bx 25 (.t 1))⟩,
      ⟨(some 8), none, .q (.mv (.k (.bool false)))⟩])
  (.seq (.ord /- 1 -/ [.q ⟨(some 24), none, .l (.ldn 3 (.t 4))⟩,
      .q ⟨(some 25), none, .q (.mv (.t 2))⟩,
      .q ⟨(some 27), none, .l (.ldn 3 (.t 5))⟩,
      .q ⟨(some 28), none, .q (.mv (.t 3))⟩,
      .m ⟨(some 26), none, .cl 18 [(.t 24), (.t 25)] []⟩,
      .rc ⟨(some 27), none, .l (.ldn 3 (.t 5))⟩,
      .rc ⟨(some 28), none, .q (.mv (.t 3))⟩,
      .m ⟨(some 29), none, .cl 18 [(.t 27), (.t 28)] []⟩,
      .m ⟨(some 9), none, .q (.mv (.t 26))⟩,
      .m ⟨(some 10), none, .q (.mv (.t 29))⟩])
    (pcG34_2))
def rsG34 : List RV := [.mv (.t 8)]
theorem okG34 : trFn Try.prog true ⟨fun r k => if r = 4 ∧ k = 2 then .q else if r = 4 ∧ k = 7 then .q else if r = 13 ∧ k = 6 then .q else if r = 13 ∧ k = 12 then .q else .own [], fun r => [2, 3, 4, 10, 11, 12, 13].contains r⟩ Try.f34 = some (pcG34, rsG34) := by kernel_rfl
end Go.Proofs.Ytpfmkfafagiicaa
/- alike. -/
namespace Go.Proofs.Ytpfmkfafagiicaa
open Go.W
noncomputable def alZ (a b : Sc) (z : ByteArray) : Bool := !(hasS a.ss z != hasS b.ss z) && (eqB ((fS a.ss z).getD default) ((fS b.ss z).getD default) && eqB ((fEn a.es z).getD default) ((fEn b.es z).getD default))
noncomputable def alF (a b : Sc) (m n : ByteArray) : Bool := decide (usL a m = usL b n) && (eqB ((fS a.ss m).getD default) ((fS b.ss n).getD default) && (usL a m).all (alZ a b))
def alPre : List S → Prop := fun av => match av with
  | [.va (.gs r), .va (.gs q), .va (.c1 (.vl (.string _))), .va (.c1 (.vl (.string _)))] => isScF r ∧ isScF q
  | _ => False
theorem alPre_open {av : List S} (h : alPre av) : ∃ (a b : Sc) (m n : ByteArray), av = [.va (.gs (scC a)), .va (.gs (scC b)), tS m, tS n] ∧ a.fit ∧ b.fit := by
  unfold alPre at h
  split at h
  · obtain ⟨⟨a, rfl, h1⟩, ⟨b, rfl, h2⟩⟩ := h
    exact ⟨a, b, _, _, rfl, h1, h2⟩
  · exact h.elim
noncomputable def alVal : List S → A := fun av => match av with
  | [.va (.gs r), .va (.gs q), .va (.c1 (.vl (.string m))), .va (.c1 (.vl (.string n)))] => bA (alF (C.sc r) (C.sc q) m n)
  | _ => .gs []
noncomputable def alFn : Fun := ⟨alPre, alVal, fun av h => by obtain ⟨a, b, m, n, rfl, _⟩ := alPre_open h; trivial⟩
theorem alFn_len : ∀ av H K, alFn.sp av H K → av.length = 4 := fun av H K h => by obtain ⟨a, b, m, n, rfl, _⟩ := alPre_open h.1.1; rfl
attribute [go_sem] alFn alPre alVal
theorem all_at {α : Type} {f : α → Bool} {l : List α} {i : Nat} {x : α} (h : l[i]? = some x) (hf : f x = false) : l.all f = false := by
  rw [List.all_eq_false]; exact ⟨x, List.mem_of_getElem? h, by rw [hf]; simp⟩
theorem all_next {α : Type} {f : α → Bool} {l : List α} {i : Nat} {x : α} (h : l[i]? = some x) (h1 : (l.take i).all f = true) (h2 : f x = true) : (l.take (i + 1)).all f = true := by
  rw [take_next h, List.all_append, h1]; simp [h2]
set_option maxRecDepth 100000 in
set_option maxHeartbeats 4000000 in
theorem mAlike : Meets Try.prog 34 alFn.sp := by
  refine meets_fn Try.func34 okG34 4 (by rw [Try.ntmps34]; decide) (meetsAll_s mRUses (meetsAll_s mRStruct (meetsAll_s mREnum (meetsAll_f mNames (meetsAll_f mRSameStruct (meetsAll_f mRSameEnum (meetsAll_nil _))))))) alFn_len ?_
  rintro av H K ⟨⟨h, rfl⟩, hK⟩
  obtain ⟨a, b, m, n, rfl, ha, hb⟩ := alPre_open h
  replace hK : K (bS (alF a b m n)) [] := by
    have : alFn.val [.va (.gs (scC a)), .va (.gs (scC b)), tS m, tS n] = bA (alF a b m n) := by simp -dsimp only [go_sem]
    rw [this] at hK; exact hK
  clear h
  have fin : ∀ (x : Bool) (R : Hp), alF a b m n = x → W.Fin 0 K (bS x) R := fun x R h1 => by
    rw [h1] at hK
    exact .sel [] (by simp) (by simp) rfl (.done (by simpa [go_sem] using hK))
  have u1 := usL_bs ha m
  have u2 := usL_bs hb n
  have ul := usL_len ha m
  obtain ⟨us, hus⟩ : ∃ x, usL a m = x := ⟨_, rfl⟩
  obtain ⟨ws, hws⟩ : ∃ x, usL b n = x := ⟨_, rfl⟩
  obtain ⟨x, hx⟩ : ∃ x, (fS a.ss m).getD default = x := ⟨_, rfl⟩
  obtain ⟨y, hy⟩ : ∃ x, (fS b.ss n).getD default = x := ⟨_, rfl⟩
  have hxi : isSt (stC x) := isSt_mk (by rw [← hx]; exact fS_ok ha.ok.ss m)
  have hyi : isSt (stC y) := isSt_mk (by rw [← hy]; exact fS_ok hb.ok.ss n)
  have hxd := st_dec x
  have hyd := st_dec y
  rw [stC] at hxi hyi hxd hyd
  have hal : alF a b m n = (decide (us = ws) && (eqB x y && us.all (alZ a b))) := by unfold alF; rw [hus, hws, hx, hy]
  rw [hus] at u1 ul
  rw [hws] at u2
  simp (maxSteps := 1000000) -dsimp only [go_sem, scC, pcG34, rsG34]
  refine usp_use ha ?_
  rw [hus]
  simp (maxSteps := 1000000) -dsimp only [go_sem]
  refine usp_use hb ?_
  rw [hws]
  simp (maxSteps := 1000000) -dsimp only [go_sem]
  refine vc_tail (up := [(2, tS m), (3, tS n), (4, .va (.c1 (.pt 0 0))), (5, .va (.c1 (.pt 1 0))), (9, .va (.c1 (.fz (us.map stR)))), (10, .va (.c1 (.fz (ws.map stR))))]) (Hs := [.cells (scC a) 25, .cells (scC b) 25]) 2 ?_ ?_ ?_
  rotate_left
  · simp -dsimp only [go_sem] <;> simp
  · simp -dsimp only [go_sem, scC] <;> simp
  simp (maxSteps := 1000000) -dsimp only [go_sem, scC, pcG34_2]
  refine stp_use ha ?_
  rw [hx]
  simp (maxSteps := 1000000) -dsimp only [go_sem, stC]
  refine vc_tail (up := [(3, tS n), (4, .va (.c1 (.pt 0 0))), (5, .va (.c1 (.pt 1 0))), (9, .va (.c1 (.fz (us.map stR)))), (10, .va (.c1 (.fz (ws.map stR)))), (11, .va (.c1 (.pt 2 0)))]) (Hs := [.cells (scC a) 25, .cells (scC b) 25, .cells (stC x) 32]) 3 ?_ ?_ ?_
  rotate_left
  · simp -dsimp only [go_sem] <;> simp
  · simp -dsimp only [go_sem, scC, stC] <;> simp
  simp (maxSteps := 1000000) -dsimp only [go_sem, scC, pcG34_3]
  refine stp_use hb ?_
  rw [hy]
  simp (maxSteps := 1000000) -dsimp only [go_sem, stC]
  refine vc_tail (up := [(4, .va (.c1 (.pt 0 0))), (5, .va (.c1 (.pt 1 0))), (9, .va (.c1 (.fz (us.map stR)))), (10, .va (.c1 (.fz (ws.map stR)))), (11, .va (.c1 (.pt 2 0))), (13, .va (.c1 (.pt 3 0)))]) (Hs := [.cells (scC a) 25, .cells (scC b) 25, .cells (stC x) 32, .cells (stC y) 32]) 4 ?_ ?_ ?_
  rotate_left
  · simp -dsimp only [go_sem] <;> simp
  · simp -dsimp only [go_sem, scC, stC] <;> simp
  cases huw : decide (us = ws) with
  | false =>
    rw [huw, Bool.false_and] at hal
    simp (maxSteps := 1000000) -dsimp only [go_sem, scC, stC, pcG34_4, u1, u2, huw]
    exact fin _ _ hal
  | true =>
  cases hxy : eqB x y with
  | false =>
    rw [hxy, Bool.false_and, Bool.and_false] at hal
    simp (maxSteps := 1000000) -dsimp only [go_sem, scC, stC, pcG34_4, u1, u2, huw, hxi, hyi, hxd, hyd, hxy]
    exact fin _ _ hal
  | true =>
  rw [huw, hxy, Bool.true_and, Bool.true_and] at hal
  simp (maxSteps := 1000000) -dsimp only [go_sem, scC, stC, pcG34_4, u1, u2, huw, hxi, hyi, hxd, hyd, hxy]
  obtain rfl := of_decide_eq_true huw
  clear u1 u2 huw hxi hyi hxd hyd hxy hws hus
  refine vc_loop (α := Nat) (fun i => [(4, .va (.c1 (.pt 0 0))), (5, .va (.c1 (.pt 1 0))), (9, .va (.c1 (.fz (us.map stR)))), (10, .va (.c1 (.fz (us.map stR)))), (15, iS .i64 i)]) (fun _ => [.cells (scC a) 25, .cells (scC b) 25])
    (fun i => i ≤ us.length ∧ (us.take i).all (alZ a b) = true) (fun i => us.length - i) 0 2 ⟨Nat.zero_le _, rfl⟩ ?_ ?_ ?_
  · simp -dsimp only [go_sem] <;> simp
  · simp -dsimp only [go_sem, scC] <;> simp
  rintro i ⟨hi, hall⟩
  rcases Nat.lt_or_ge i us.length with hlt | hge
  · have hg : decide ((i : Int) < (us.length : Int)) = true := by simp; omega
    obtain ⟨z, hz⟩ : ∃ t, us[i]? = some t := ⟨_, List.getElem?_eq_getElem hlt⟩
    have q1 := row_rg' (row := stR) hz
    obtain ⟨c, hc⟩ : ∃ x, (fS a.ss z).getD default = x := ⟨_, rfl⟩
    obtain ⟨d, hd⟩ : ∃ x, (fS b.ss z).getD default = x := ⟨_, rfl⟩
    obtain ⟨e, he⟩ : ∃ x, (fEn a.es z).getD default = x := ⟨_, rfl⟩
    obtain ⟨f, hf⟩ : ∃ x, (fEn b.es z).getD default = x := ⟨_, rfl⟩
    have hci : isSt (stC c) := isSt_mk (by rw [← hc]; exact fS_ok ha.ok.ss z)
    have hdi : isSt (stC d) := isSt_mk (by rw [← hd]; exact fS_ok hb.ok.ss z)
    have hei : isEn (enC e) := isEn_mk (by rw [← he]; exact fEn_ok ha.ok.es z)
    have hfi : isEn (enC f) := isEn_mk (by rw [← hf]; exact fEn_ok hb.ok.es z)
    have hcd := st_dec c
    have hdd := st_dec d
    have hed := en_dec e
    have hfd := en_dec f
    rw [stC] at hci hdi hcd hdd
    rw [enC] at hei hfi hed hfd
    have haz : alZ a b z = (!(hasS a.ss z != hasS b.ss z) && (eqB c d && eqB e f)) := by unfold alZ; rw [hc, hd, he, hf]
    generalize hp : hasS a.ss z = p at haz
    generalize hq : hasS b.ss z = q at haz
    simp (maxSteps := 1000000) -dsimp only [go_sem, hg, ↓q1, scC]
    refine ⟨by omega, stp_use ha ?_⟩
    rw [hc, hp]
    simp (maxSteps := 1000000) -dsimp only [go_sem, stC]
    refine vc_tail (up := [(4, .va (.c1 (.pt 0 0))), (5, .va (.c1 (.pt 1 0))), (9, .va (.c1 (.fz (us.map stR)))), (10, .va (.c1 (.fz (us.map stR)))), (15, iS .i64 i), (16, .va (.c1 (.pt 2 0))), (17, bS p)]) (Hs := [.cells (scC a) 25, .cells (scC b) 25, .cells (stC c) 32]) 3 ?_ ?_ ?_
    rotate_left
    · simp -dsimp only [go_sem] <;> simp
    · simp -dsimp only [go_sem, scC, stC] <;> simp
    simp (maxSteps := 1000000) -dsimp only [go_sem, pcG34_10, ↓q1, scC]
    refine ⟨by omega, stp_use hb ?_⟩
    rw [hd, hq]
    simp (maxSteps := 1000000) -dsimp only [go_sem, stC]
    refine vc_tail (up := [(4, .va (.c1 (.pt 0 0))), (5, .va (.c1 (.pt 1 0))), (9, .va (.c1 (.fz (us.map stR)))), (10, .va (.c1 (.fz (us.map stR)))), (15, iS .i64 i), (16, .va (.c1 (.pt 2 0))), (17, bS p), (18, .va (.c1 (.pt 3 0))), (19, bS q)]) (Hs := [.cells (scC a) 25, .cells (scC b) 25, .cells (stC c) 32, .cells (stC d) 32]) 4 ?_ ?_ ?_
    rotate_left
    · simp -dsimp only [go_sem] <;> simp
    · simp -dsimp only [go_sem, scC, stC] <;> simp
    simp (maxSteps := 1000000) -dsimp only [go_sem, pcG34_11, ↓q1, scC]
    refine ⟨by omega, enp_use ha ?_⟩
    rw [he]
    simp (maxSteps := 1000000) -dsimp only [go_sem, enC]
    refine vc_tail (up := [(4, .va (.c1 (.pt 0 0))), (5, .va (.c1 (.pt 1 0))), (9, .va (.c1 (.fz (us.map stR)))), (10, .va (.c1 (.fz (us.map stR)))), (15, iS .i64 i), (16, .va (.c1 (.pt 2 0))), (17, bS p), (18, .va (.c1 (.pt 3 0))), (19, bS q), (20, .va (.c1 (.pt 4 0)))]) (Hs := [.cells (scC a) 25, .cells (scC b) 25, .cells (stC c) 32, .cells (stC d) 32, .cells (enC e) 47]) 5 ?_ ?_ ?_
    rotate_left
    · simp -dsimp only [go_sem] <;> simp
    · simp -dsimp only [go_sem, scC, stC, enC] <;> simp
    simp (maxSteps := 1000000) -dsimp only [go_sem, pcG34_12, ↓q1, scC]
    refine ⟨by omega, enp_use hb ?_⟩
    rw [hf]
    simp (maxSteps := 1000000) -dsimp only [go_sem, enC]
    refine vc_tail (up := [(4, .va (.c1 (.pt 0 0))), (5, .va (.c1 (.pt 1 0))), (9, .va (.c1 (.fz (us.map stR)))), (10, .va (.c1 (.fz (us.map stR)))), (15, iS .i64 i), (16, .va (.c1 (.pt 2 0))), (17, bS p), (18, .va (.c1 (.pt 3 0))), (19, bS q), (20, .va (.c1 (.pt 4 0))), (22, .va (.c1 (.pt 5 0)))]) (Hs := [.cells (scC a) 25, .cells (scC b) 25, .cells (stC c) 32, .cells (stC d) 32, .cells (enC e) 47, .cells (enC f) 47]) 6 ?_ ?_ ?_
    rotate_left
    · simp -dsimp only [go_sem] <;> simp
    · simp -dsimp only [go_sem, scC, stC, enC] <;> simp
    cases hcc : eqB c d <;> cases hee : eqB e f <;> cases p <;> cases q <;> rw [hcc, hee] at haz <;> simp (maxSteps := 1000000) -dsimp only [go_sem, pcG34_13, scC, stC, enC, hci, hdi, hei, hfi, hcd, hdd, hed, hfd, hcc, hee]
    all_goals first
      | exact fin false _ (by rw [hal]; exact all_at hz (by rw [haz]; rfl))
      | refine ⟨by omega, loop_next (i + 1) 2 ⟨by omega, all_next hz hall (by rw [haz]; rfl)⟩ (by omega) ?_ ?_⟩
        · simp -dsimp only [go_sem] <;> simp
        · simp -dsimp only [go_sem, scC] <;> simp
  · have hg : decide ((i : Int) < (us.length : Int)) = false := by simp; omega
    obtain rfl : i = us.length := by omega
    rw [List.take_length] at hall
    simp (maxSteps := 1000000) -dsimp only [go_sem, hg, scC]
    exact fin _ _ (by rw [hal]; exact hall)
end Go.Proofs.Ytpfmkfafagiicaa
/- A description can be read back: equal descriptions, equal structs with equal uses. -/
namespace Go.Proofs.Ytpfmkfafagiicaa
open Go.W
theorem u8_inj {a b : Nat} (ha : a < 256) (hb : b < 256) (h : a.toUInt8 = b.toUInt8) : a = b := by
  have := congrArg UInt8.toNat h
  simp [Nat.toUInt8] at this
  omega
theorem uL_inj : ∀ (f n m : Nat) (r r' : List UInt8), n < 128 ^ f → m < 128 ^ f → 0 < f → uL f n ++ r = uL f m ++ r' → n = m ∧ r = r'
  | 0, _, _, _, _, _, _, h, _ => absurd h (Nat.lt_irrefl _)
  | f + 1, n, m, r, r', hn, hm, _, h => by
    by_cases h1 : n < 128
    · rw [uL_last (Nat.succ_pos _) h1] at h
      by_cases h2 : m < 128
      · rw [uL_last (Nat.succ_pos _) h2] at h
        simp only [List.cons_append, List.nil_append, List.cons.injEq] at h
        exact ⟨u8_inj (by omega) (by omega) h.1, h.2⟩
      · rw [uL_more h2] at h
        simp only [List.cons_append, List.nil_append, List.cons.injEq] at h
        have := u8_inj (by omega) (by omega) h.1
        omega
    · rw [uL_more h1] at h
      by_cases h2 : m < 128
      · rw [uL_last (Nat.succ_pos _) h2] at h
        simp only [List.cons_append, List.nil_append, List.cons.injEq] at h
        have := u8_inj (by omega) (by omega) h.1
        omega
      · rw [uL_more h2] at h
        simp only [List.cons_append, List.cons.injEq] at h
        have h3 := u8_inj (by omega) (by omega) h.1
        rw [Nat.pow_succ] at hn hm
        have hf : 0 < f := by
          rcases Nat.eq_zero_or_pos f with rfl | h0
          · simp at hn; omega
          · exact h0
        obtain ⟨h4, h5⟩ := uL_inj f (n / 128) (m / 128) r r' (by omega) (by omega) hf h.2
        exact ⟨by omega, h5⟩
theorem viI_inj {x y : Int} {r r' : List UInt8} (hx : in64 x) (hy : in64 y) (h : viI x ++ r = viI y ++ r') : x = y ∧ r = r' := by
  unfold viI vi at h
  have a1 := of_eq_true (u64_rg x)
  have a2 := of_eq_true (u64_rg y)
  have e : (128 : Nat) ^ 10 = 1180591620717411303424 := by decide
  obtain ⟨h1, h2⟩ := uL_inj 10 _ _ r r' (by rw [e]; omega) (by rw [e]; omega) (by decide) h
  have w1 : IntKind.u64.wrap x = x % 18446744073709551616 := by simp [IntKind.wrap, IntKind.signed, IntKind.bits]
  have w2 : IntKind.u64.wrap y = y % 18446744073709551616 := by simp [IntKind.wrap, IntKind.signed, IntKind.bits]
  obtain ⟨x1, x2⟩ := hx
  obtain ⟨y1, y2⟩ := hy
  exact ⟨by omega, h2⟩
theorem in64_len {n : Nat} (h : n ≤ 9223372036854775807) : in64 (n : Int) := ⟨by omega, by omega⟩
theorem viT_inj {a b : ByteArray} {r r' : List UInt8} (ha : a.size ≤ 9223372036854775807) (hb : b.size ≤ 9223372036854775807) (h : viT (bl a) ++ r = viT (bl b) ++ r') : a = b ∧ r = r' := by
  unfold viT at h
  rw [List.append_assoc, List.append_assoc] at h
  rw [size_bl] at ha hb
  obtain ⟨h1, h2⟩ := viI_inj (in64_len ha) (in64_len hb) h
  obtain ⟨h3, h4⟩ := List.append_inj h2 (by omega)
  exact ⟨bl_inj h3, h4⟩
mutual
theorem dTy_inj : ∀ (t u : Ty) (r r' : List UInt8), TyOk t → TyOk u → dTy t ++ r = dTy u ++ r' → t = u ∧ r = r'
  | .mk k s n e, .mk k' s' n' e', r, r', ht, hu, h => by
    rw [dTy, dTy] at h
    simp only [List.append_assoc] at h
    have a1 : in64 k := ht.k
    have a2 : in64 k' := hu.k
    have b1 : in64 s := ht.s
    have b2 : in64 s' := hu.s
    have c1 : n.size ≤ 9223372036854775807 := ht.n
    have c2 : n'.size ≤ 9223372036854775807 := hu.n
    have d1 : e.length ≤ 9223372036854775807 := ht.len
    have d2 : e'.length ≤ 9223372036854775807 := hu.len
    have e1 : ∀ x ∈ e, TyOk x := ht.e
    have e2 : ∀ x ∈ e', TyOk x := hu.e
    have q0 := viI_inj a1 a2 h
    clear h
    obtain ⟨rfl, h⟩ := q0
    have q0 := viI_inj b1 b2 h
    clear h
    obtain ⟨rfl, h⟩ := q0
    have q0 := viT_inj c1 c2 h
    clear h
    obtain ⟨rfl, h⟩ := q0
    have q0 := viI_inj (in64_len d1) (in64_len d2) h
    clear h
    obtain ⟨hl, h⟩ := q0
    have q0 := dTys_inj e e' r r' (by omega) e1 e2 h
    clear h
    obtain ⟨rfl, h⟩ := q0
    exact ⟨rfl, h⟩
theorem dTys_inj : ∀ (t u : List Ty) (r r' : List UInt8), t.length = u.length → (∀ x ∈ t, TyOk x) → (∀ x ∈ u, TyOk x) → dTys t ++ r = dTys u ++ r' → t = u ∧ r = r'
  | [], [], _, _, _, _, _, h => ⟨rfl, by rw [dTys] at h; exact h⟩
  | [], _ :: _, _, _, hl, _, _, _ => by simp at hl
  | _ :: _, [], _, _, hl, _, _, _ => by simp at hl
  | x :: t, y :: u, r, r', hl, ht, hu, h => by
    rw [dTys, dTys, List.append_assoc, List.append_assoc] at h
    have q0 := dTy_inj x y _ _ (ht x List.mem_cons_self) (hu y List.mem_cons_self) h
    clear h
    obtain ⟨rfl, h⟩ := q0
    have q0 := dTys_inj t u r r' (by simpa using hl) (fun z hz => ht z (List.mem_cons_of_mem _ hz)) (fun z hz => hu z (List.mem_cons_of_mem _ hz)) h
    clear h
    obtain ⟨rfl, h⟩ := q0
    exact ⟨rfl, h⟩
end
theorem fm_inj {α : Type} {f : α → List UInt8} {P : α → Prop} (hf : ∀ x y r r', P x → P y → f x ++ r = f y ++ r' → x = y ∧ r = r') : ∀ (l m : List α) (r r' : List UInt8), l.length = m.length → (∀ x ∈ l, P x) → (∀ x ∈ m, P x) → l.flatMap f ++ r = m.flatMap f ++ r' → l = m ∧ r = r'
  | [], [], _, _, _, _, _, h => ⟨rfl, h⟩
  | [], _ :: _, _, _, hl, _, _, _ => by simp at hl
  | _ :: _, [], _, _, hl, _, _, _ => by simp at hl
  | x :: t, y :: u, r, r', hl, ht, hu, h => by
    rw [List.flatMap_cons, List.flatMap_cons, List.append_assoc, List.append_assoc] at h
    have q0 := hf x y _ _ (ht x List.mem_cons_self) (hu y List.mem_cons_self) h
    clear h
    obtain ⟨rfl, h⟩ := q0
    have q0 := fm_inj hf t u r r' (by simpa using hl) (fun z hz => ht z (List.mem_cons_of_mem _ hz)) (fun z hz => hu z (List.mem_cons_of_mem _ hz)) h
    clear h
    obtain ⟨rfl, h⟩ := q0
    exact ⟨rfl, h⟩
theorem dFl_inj (x y : Fl) (r r' : List UInt8) (hx : x.ok) (hy : y.ok) (h : dFl x ++ r = dFl y ++ r') : x = y ∧ r = r' := by
  unfold dFl at h
  simp only [List.append_assoc] at h
  have q0 := viI_inj hx.num hy.num h
  clear h
  obtain ⟨h1, h⟩ := q0
  have q0 := viT_inj hx.nm hy.nm h
  clear h
  obtain ⟨h2, h⟩ := q0
  have q0 := dTy_inj _ _ _ _ hx.ty hy.ty h
  clear h
  obtain ⟨h3, h⟩ := q0
  have q0 := viI_inj (by cases x.opt <;> exact ⟨by decide, by decide⟩) (by cases y.opt <;> exact ⟨by decide, by decide⟩) h
  clear h
  obtain ⟨h4, h⟩ := q0
  obtain ⟨x1, x2, x3, x4⟩ := x
  obtain ⟨y1, y2, y3, y4⟩ := y
  simp only at h1 h2 h3 h4
  subst h1 h2 h3
  refine ⟨?_, h⟩
  cases x4 <;> cases y4 <;> first | rfl | (simp at h4)
theorem dSt_inj (x y : St) (r r' : List UInt8) (hx : x.ok) (hy : y.ok) (h : dSt x ++ r = dSt y ++ r') : x = y ∧ r = r' := by
  unfold dSt at h
  simp only [List.append_assoc] at h
  have q0 := viI_inj ⟨by decide, by decide⟩ ⟨by decide, by decide⟩ h
  clear h
  obtain ⟨_, h⟩ := q0
  have q0 := viT_inj hx.nm hy.nm h
  clear h
  obtain ⟨h2, h⟩ := q0
  have q0 := viI_inj (in64_len hx.len) (in64_len hy.len) h
  clear h
  obtain ⟨h3, h⟩ := q0
  have q0 := fm_inj (P := Fl.ok) dFl_inj x.fs y.fs r r' (by omega) hx.fs hy.fs h
  clear h
  obtain ⟨h4, h⟩ := q0
  obtain ⟨x1, x2⟩ := x
  obtain ⟨y1, y2⟩ := y
  simp only at h2 h4
  subst h2 h4
  exact ⟨rfl, h⟩
theorem dEv_inj (x y : ByteArray × Int) (r r' : List UInt8) (hx : x.1.size ≤ 9223372036854775807 ∧ in64 x.2) (hy : y.1.size ≤ 9223372036854775807 ∧ in64 y.2) (h : dEv x ++ r = dEv y ++ r') : x = y ∧ r = r' := by
  unfold dEv at h
  simp only [List.append_assoc] at h
  have q0 := viT_inj hx.1 hy.1 h
  clear h
  obtain ⟨h1, h⟩ := q0
  have q0 := viI_inj hx.2 hy.2 h
  clear h
  obtain ⟨h2, h⟩ := q0
  exact ⟨Prod.ext h1 h2, h⟩
theorem dEn_inj (x y : En) (r r' : List UInt8) (hx : x.ok) (hy : y.ok) (hlx : x.ns.length = x.vs.length) (hly : y.ns.length = y.vs.length) (h : dEn x ++ r = dEn y ++ r') : x = y ∧ r = r' := by
  unfold dEn at h
  simp only [List.append_assoc] at h
  have q0 := viI_inj ⟨by decide, by decide⟩ ⟨by decide, by decide⟩ h
  clear h
  obtain ⟨_, h⟩ := q0
  have q0 := viT_inj hx.nm hy.nm h
  clear h
  obtain ⟨h2, h⟩ := q0
  have q0 := viI_inj (in64_len hx.ln) (in64_len hy.ln) h
  clear h
  obtain ⟨h3, h⟩ := q0
  have q0 := fm_inj dEv_inj (x.ns.zip x.vs) (y.ns.zip y.vs) r r' (by rw [List.length_zip, List.length_zip]; omega) (fun p hp => ⟨hx.ns _ (List.of_mem_zip hp).1, hx.vs _ (List.of_mem_zip hp).2⟩) (fun p hp => ⟨hy.ns _ (List.of_mem_zip hp).1, hy.vs _ (List.of_mem_zip hp).2⟩) h
  clear h
  obtain ⟨h4, h⟩ := q0
  obtain ⟨x1, x2, x3⟩ := x
  obtain ⟨y1, y2, y3⟩ := y
  simp only at h2 h4 hlx hly
  have e1 : x2 = y2 := by
    have := congrArg (List.map Prod.fst) h4
    rwa [List.map_fst_zip (by omega), List.map_fst_zip (by omega)] at this
  have e2 : x3 = y3 := by
    have := congrArg (List.map Prod.snd) h4
    rwa [List.map_snd_zip (by omega), List.map_snd_zip (by omega)] at this
  subst h2 e1 e2
  exact ⟨rfl, h⟩
theorem viI6 : viI 6 = [6] := by decide +kernel
theorem viI7 : viI 7 = [7] := by decide +kernel
theorem dSt_head (t : St) : ∃ q, dSt t = 6 :: q := ⟨_, by unfold dSt; rw [viI6]; rfl⟩
theorem dEn_head (t : En) : ∃ q, dEn t = 7 :: q := ⟨_, by unfold dEn; rw [viI7]; rfl⟩
/-- A name means the same in both. -/
def Alk (a b : Sc) (z : ByteArray) : Prop := (∃ t, fS a.ss z = some t ∧ fS b.ss z = some t) ∨ (fS a.ss z = none ∧ fS b.ss z = none ∧ ∃ e, fEn a.es z = some e ∧ fEn b.es z = some e)
theorem kn_cases {s : Sc} {z : ByteArray} (h : knB s z = true) : (∃ t, fS s.ss z = some t ∧ desL s z = dSt t ∧ t ∈ s.ss ∧ t.nm = z) ∨ (fS s.ss z = none ∧ ∃ e, fEn s.es z = some e ∧ desL s z = dEn e ∧ e ∈ s.es ∧ e.nm = z) := by
  cases hx : fS s.ss z with
  | some t => exact .inl ⟨t, rfl, by rw [desL, hx], (fS_mem hx).1, (fS_mem hx).2⟩
  | none =>
    have e2 : hasS s.ss z = false := by rw [← fS_has, hx]; rfl
    unfold knB at h
    rw [e2, Bool.false_or] at h
    obtain ⟨e, hy⟩ : ∃ e, fEn s.es z = some e := Option.isSome_iff_exists.1 (by rw [fEn_has]; exact h)
    exact .inr ⟨rfl, e, hy, by rw [desL, hx, hy]; rfl, (fEn_mem hy).1, (fEn_mem hy).2⟩
theorem des_inj {a b : Sc} (ha : a.fit) (hb : b.fit) (ca : checkF a = 0) (cb : checkF b = 0) {z w : ByteArray} (hz : knB a z = true) (hw : knB b w = true) {r r' : List UInt8} (h : desL a z ++ r = desL b w ++ r') : z = w ∧ Alk a b z ∧ r = r' := by
  rcases kn_cases hz with ⟨t, t1, t2, t3, t4⟩ | ⟨t1, e, t2, t3, t4, t5⟩ <;> rcases kn_cases hw with ⟨u, u1, u2, u3, u4⟩ | ⟨u1, f, u2, u3, u4, u5⟩
  · rw [t2, u2] at h
    have q0 := dSt_inj t u r r' (ha.ok.ss t t3) (hb.ok.ss u u3) h
    clear h
    obtain ⟨rfl, h⟩ := q0
    rw [t4] at u4; subst u4
    exact ⟨rfl, .inl ⟨t, t1, u1⟩, h⟩
  · rw [t2, u3] at h
    obtain ⟨q, hq⟩ := dSt_head t
    obtain ⟨q', hq'⟩ := dEn_head f
    rw [hq, hq'] at h; simp at h
  · rw [t3, u2] at h
    obtain ⟨q, hq⟩ := dEn_head e
    obtain ⟨q', hq'⟩ := dSt_head u
    rw [hq, hq'] at h; simp at h
  · rw [t3, u3] at h
    have q0 := dEn_inj e f r r' (ha.ok.es e t4) (hb.ok.es f u4) (en_lens ha ca e t4) (en_lens hb cb f u4) h
    clear h
    obtain ⟨rfl, h⟩ := q0
    rw [t5] at u5; subst u5
    exact ⟨rfl, .inr ⟨t1, u1, e, t2, u2⟩, h⟩
theorem des_ne {s : Sc} {z : ByteArray} (h : knB s z = true) : ∃ c q, desL s z = c :: q := by
  rcases kn_cases h with ⟨t, _, t2, _⟩ | ⟨_, e, _, t3, _⟩
  · obtain ⟨q, hq⟩ := dSt_head t; exact ⟨_, q, by rw [t2, hq]⟩
  · obtain ⟨q, hq⟩ := dEn_head e; exact ⟨_, q, by rw [t3, hq]⟩
theorem list_inj {a b : Sc} (ha : a.fit) (hb : b.fit) (ca : checkF a = 0) (cb : checkF b = 0) : ∀ (l m : List ByteArray), (∀ z ∈ l, knB a z = true) → (∀ z ∈ m, knB b z = true) → l.flatMap (desL a) = m.flatMap (desL b) → l = m ∧ ∀ z ∈ l, Alk a b z
  | [], [], _, _, _ => ⟨rfl, fun z h => by cases h⟩
  | [], w :: m, _, hm, h => by
    obtain ⟨c, q, hq⟩ := des_ne (hm w List.mem_cons_self)
    rw [List.flatMap_cons, hq] at h; simp at h
  | z :: l, [], hl, _, h => by
    obtain ⟨c, q, hq⟩ := des_ne (hl z List.mem_cons_self)
    rw [List.flatMap_cons, hq] at h; simp at h
  | z :: l, w :: m, hl, hm, h => by
    rw [List.flatMap_cons, List.flatMap_cons] at h
    obtain ⟨rfl, h1, h2⟩ := des_inj ha hb ca cb (hl z List.mem_cons_self) (hm w List.mem_cons_self) h
    obtain ⟨rfl, h3⟩ := list_inj ha hb ca cb l m (fun x hx => hl x (List.mem_cons_of_mem _ hx)) (fun x hx => hm x (List.mem_cons_of_mem _ hx)) h2
    exact ⟨rfl, fun x hx => by rcases List.mem_cons.1 hx with rfl | hx; exact h1; exact h3 x hx⟩
theorem alk_alZ {a b : Sc} (ha : a.fit) (hb : b.fit) (ca : checkF a = 0) (cb : checkF b = 0) {z : ByteArray} (h : Alk a b z) : alZ a b z = true := by
  unfold alZ
  rcases h with ⟨t, h1, h2⟩ | ⟨h1, h2, e, h3, h4⟩
  · have p1 : hasS a.ss z = true := by rw [← fS_has, h1]; rfl
    have p2 : hasS b.ss z = true := by rw [← fS_has, h2]; rfl
    have e1 : fEn a.es z = none := Option.not_isSome_iff_eq_none.1 (by rw [fEn_has, disj ha ca p1]; simp)
    have e2 : fEn b.es z = none := Option.not_isSome_iff_eq_none.1 (by rw [fEn_has, disj hb cb p2]; simp)
    rw [p1, p2, h1, h2, e1, e2, eqB_eq rfl, eqB_eq rfl]; rfl
  · have p1 : hasS a.ss z = false := by rw [← fS_has, h1]; rfl
    have p2 : hasS b.ss z = false := by rw [← fS_has, h2]; rfl
    rw [p1, p2, h1, h2, h3, h4, eqB_eq rfl, eqB_eq rfl]; rfl
theorem alZ_des {a b : Sc} {z : ByteArray} (h : alZ a b z = true) : desL a z = desL b z := by
  unfold alZ at h
  simp only [Bool.and_eq_true, eqB_iff, Bool.not_eq_true', bne_eq_false_iff_eq] at h
  obtain ⟨h1, h2, h3⟩ := h
  rw [← fS_has, ← fS_has] at h1
  unfold desL
  cases hx : fS a.ss z with
  | some t =>
    rw [hx] at h1 h2
    cases hy : fS b.ss z with
    | none => rw [hy] at h1; cases h1
    | some u => rw [hy] at h2; simp only [Option.getD_some] at h2; rw [h2]
  | none =>
    rw [hx] at h1
    cases hy : fS b.ss z with
    | some u => rw [hy] at h1; cases h1
    | none => simp only; rw [h3]
/-- What the law of digests is about. -/
theorem alike_iff {a b : Sc} (ha : a.fit) (hb : b.fit) {m n : ByteArray} (hm : okS a m = true) (hn : okS b n = true) : alF a b m n = true ↔ digL a m = digL b n := by
  obtain ⟨ca, sa⟩ := okS_true hm
  obtain ⟨cb, sb⟩ := okS_true hn
  obtain ⟨t, ht⟩ := hasS_some sa
  obtain ⟨u, hu⟩ := hasS_some sb
  have ea : usL a m = usesF a.ss m := by unfold usL; rw [hm]; rfl
  have eb : usL b n = usesF b.ss n := by unfold usL; rw [hn]; rfl
  have da : desL a m = dSt t := by rw [desL, ht]
  have db : desL b n = dSt u := by rw [desL, hu]
  unfold alF digL
  rw [ea, eb, ht, hu, da, db]
  simp only [Bool.and_eq_true, decide_eq_true_eq, eqB_iff, Option.getD_some, List.all_eq_true]
  constructor
  · rintro ⟨h1, rfl, h3⟩
    rw [← h1]
    congr 1
    clear ea h1
    generalize usesF a.ss m = l at h3
    induction l with
    | nil => rfl
    | cons z l ih => rw [List.flatMap_cons, List.flatMap_cons, alZ_des (h3 z List.mem_cons_self), ih fun x hx => h3 x (List.mem_cons_of_mem _ hx)]
  · intro h
    have q0 := dSt_inj t u _ _ (ha.ok.ss t (fS_mem ht).1) (hb.ok.ss u (fS_mem hu).1) h
    clear h
    obtain ⟨rfl, h⟩ := q0
    obtain ⟨h1, h2⟩ := list_inj ha hb ca cb _ _ (fun z hz => kn_uses ha ca hz) (fun z hz => kn_uses hb cb hz) h
    exact ⟨h1, rfl, fun z hz => alk_alZ ha hb ca cb (h2 z hz)⟩
end Go.Proofs.Ytpfmkfafagiicaa
/- SchemaDigests. -/
namespace Go.Proofs.Ytpfmkfafagiicaa
open Go.W
def dlPre : List S → Prop := fun av => match av with
  | [.va (.gs r), .va (.gs q), .va (.c1 (.vl (.string _))), .va (.c1 (.vl (.string _)))] => isSc r ∧ isSc q
  | _ => False
theorem dlPre_open {av : List S} (h : dlPre av) : ∃ (a b : Sc) (m n : ByteArray), av = [.va (.gs (scC a)), .va (.gs (scC b)), tS m, tS n] ∧ a.ok ∧ b.ok := by
  unfold dlPre at h
  split at h
  · obtain ⟨⟨a, rfl, h1⟩, ⟨b, rfl, h2⟩⟩ := h
    exact ⟨a, b, _, _, rfl, h1, h2⟩
  · exact h.elim
def dlFn : Fun := ⟨dlPre, fun _ => bA true, fun _av _ => trivial⟩
theorem dlFn_len : ∀ av H K, dlFn.sp av H K → av.length = 4 := fun av H K h => by obtain ⟨a, b, m, n, rfl, _⟩ := dlPre_open h.1.1; rfl
theorem mk_size (l : List UInt8) : (mk l).size = l.length := by rw [size_bl, bl_mk]
theorem mk_inj {a b : List UInt8} (h : mk a = mk b) : a = b := by rw [← bl_mk a, ← bl_mk b, h]
theorem dpF_ne {s : Sc} {n : ByteArray} (h : okS s n = true) : decide (dpF s n = 0) = false ∧ (dpF s n == 0) = false := by
  have : 1 ≤ dpF s n := by
    unfold dpF; rw [h, Bool.cond_true, dD_def]
    have := dN_pos s.ss (dK + 1) n
    omega
  refine ⟨decide_eq_false (by omega), beq_eq_false_iff_ne.2 (by omega)⟩
set_option maxRecDepth 100000 in
set_option maxHeartbeats 4000000 in
theorem mLawDigests : Meets Try.prog 8 dlFn.sp := by
  refine meets_fn Try.func8 ok8 4 (by rw [Try.ntmps8]; decide) (meetsAll_f mFew (meetsAll_f mAwake (meetsAll_f mDigest (meetsAll_f mRDigest (meetsAll_f mRDepth (meetsAll_f mAlike (meetsAll_f mRDescribe (meetsAll_nil _)))))))) dlFn_len ?_
  rintro av H K ⟨⟨h, rfl⟩, hK⟩
  obtain ⟨a, b, m, n, rfl, ha, hb⟩ := dlPre_open h
  replace hK : K (bS true) [] := hK
  clear h
  have fin : ∀ R : Hp, W.Fin 0 K (bS true) R := fun R => .sel [] (by simp) (by simp) rfl (.done (by simpa [go_sem] using hK))
  have hsa : isSc (scC a) := isSc_mk ha
  have hsb : isSc (scC b) := isSc_mk hb
  have hda := sc_dec a
  have hdb := sc_dec b
  rw [scC] at hsa hsb hda hdb
  cases hfa : fewS a with
  | false =>
    simp (maxSteps := 1000000) -dsimp only [go_sem, scC, pc8, rs8, hsa, hda, hfa]
    exact fin _
  | true =>
  cases hfb : fewS b with
  | false =>
    simp (maxSteps := 1000000) -dsimp only [go_sem, scC, pc8, rs8, hsa, hda, hfa, hsb, hdb, hfb]
    exact fin _
  | true =>
  have fa := few_fit ha hfa
  have fb := few_fit hb hfb
  have hwa := isScW_mk fa hfa
  have hwb := isScW_mk fb hfb
  have hga := isScF_mk fa
  have hgb := isScF_mk fb
  rw [scC] at hwa hwb hga hgb
  have d1 : ∀ x : Int, (x != x) = false := fun x => by simp
  have d2 : ∀ x : Int, (x == x) = true := fun x => by simp
  cases hoa : okS a m with
  | false =>
    have e1 : dpF a m = 0 := by unfold dpF; rw [hoa]; rfl
    simp (maxSteps := 1000000) -dsimp only [go_sem, scC, pc8, rs8, hsa, hda, hfa, hsb, hdb, hfb, hwa, hwb, hga, hgb, d1, d2, e1]
    exact fin _
  | true =>
  cases hob : okS b n with
  | false =>
    have e1 : dpF b n = 0 := by unfold dpF; rw [hob]; rfl
    have e2 := dpF_ne hoa
    simp (maxSteps := 1000000) -dsimp only [go_sem, scC, pc8, rs8, hsa, hda, hfa, hsb, hdb, hfb, hwa, hwb, hga, hgb, d1, d2, e1, e2]
    exact fin _
  | true =>
  have e1 := dpF_ne hoa
  have e2 := dpF_ne hob
  have ca := (okS_true hoa).1
  have cb := (okS_true hob).1
  have hia := isScD_mk fa hfa ca
  have hib := isScD_mk fb hfb cb
  rw [scC] at hia hib
  have ka := kn_ok hoa
  have kb := kn_ok hob
  have hal := alike_iff fa fb hoa hob
  have g1 : dgF a m = hashL (digL a m) := by unfold dgF; rw [hoa]; rfl
  have g2 : dgF b n = hashL (digL b n) := by unfold dgF; rw [hob]; rfl
  generalize hA : alF a b m n = al at hal
  generalize hp : digL a m = p at hal g1
  generalize hq : digL b n = q at hal g2
  simp (maxSteps := 1000000) -dsimp only [go_sem, scC, pc8, rs8, hsa, hda, hfa, hsb, hdb, hfb, hwa, hwb, hga, hgb, d1, e1, e2, hia, hib, ka, kb, hA, hp, hq, g1, g2]
  have hh : ((hashL p == hashL q) == (al || hashL p == hashL q && !p == q)) = true := by
    cases al with
    | true => obtain rfl := hal.1 rfl; simp
    | false =>
      have hne : p ≠ q := fun h => by have := hal.2 h; cases this
      simp [hne]
  rw [hh]
  exact fin _
end Go.Proofs.Ytpfmkfafagiicaa
