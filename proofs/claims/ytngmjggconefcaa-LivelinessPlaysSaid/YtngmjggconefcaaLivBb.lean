/- What every sequence of calls returns: its function returns true. -/
import Derived.Test.YtngmjggconefcaaLivBa
import Derived.Test.YtngmjggconefcaaLivAb
namespace Go.Proofs.Ytngmjggconefcaa
open Go.W
theorem mv_ids (s : Ls) (t e : Int) : (s.mv t e).all.map (·.id) = s.all.map (·.id) := by
  show (s.all.map (mv1 e)).map (·.id) = _
  rw [List.map_map]
  exact List.map_congr_left fun x _ => mv1_id e x
structure Pi (s : Ls) (i : Nat) : Prop where
  bs : Bs s i (90 * i)
  nw : 0 ≤ s.now
  nd : (s.all.map (·.id)).Nodup
theorem Pi.fit {s : Ls} {i : Nat} (h : Pi s i) (hi : i ≤ 80) : s.fit := ⟨by have := h.bs.al; omega, by have := h.bs.pl; omega, h.bs.lz, h.nw⟩
theorem Pi.up {s : Ls} {i : Nat} (h : Pi s i) : Pi s (i + 1) := ⟨h.bs.up (by omega) (by omega), h.nw, h.nd⟩
theorem addE_no {s : Ls} {id len a : Int} (h : addE s id len a = 0) : findL s.all id 0 < 0 := by
  unfold addE at h
  cases h1 : decide (id < 1) || !timB len || !timB a with
  | true => rw [h1] at h; simp at h
  | false =>
    cases h2 : decide (a < s.now) with
    | true => rw [h1, h2] at h; simp at h
    | false =>
      cases h3 : decide (0 ≤ findL s.all id 0) with
      | true => rw [h1, h2, h3] at h; simp at h
      | false => simp at h3; exact h3
theorem asrE_tim {s : Ls} {id a : Int} (h : asrE s id a = 0) : timB a = true := by
  unfold asrE at h
  cases h1 : decide (findL s.all id 0 < 0) with
  | true => rw [h1] at h; simp at h
  | false =>
    cases h2 : !timB a with
    | true => rw [h1, h2] at h; simp at h
    | false => simpa using h2
theorem pi_add {s : Ls} {i : Nat} (h : Pi s i) (hi : i < 80) (id len a : Int) : Pi (addL s id len a) (i + 1) := by
  cases hE : addE s id len a == 0 with
  | false => rw [addL_no hE]; exact h.up
  | true =>
    have hE' : addE s id len a = 0 := by simpa using hE
    refine ⟨(bs_add h.bs id len a).up (Nat.le_refl _) (by omega), ?_, ?_⟩
    · rw [addL_now hE']; exact (timB_le.1 (addE_len hE').2).1
    · have e : (addL s id len a).all = (s.mv a a).all ++ [⟨id, len, a, true⟩] := by unfold addL; rw [hE]; rfl
      rw [e, List.map_append, mv_ids, List.nodup_append]
      refine ⟨h.nd, List.nodup_cons.2 ⟨by simp, List.nodup_nil⟩, fun x hx y hy => ?_⟩
      simp only [List.map_cons, List.map_nil, List.mem_singleton] at hy
      obtain ⟨z, hz, rfl⟩ := List.mem_map.1 hx
      rw [hy]
      exact findL_no s.all id 0 (addE_no hE') z hz
theorem pi_asr {s : Ls} {i : Nat} (h : Pi s i) (hi : i < 80) (id a : Int) : Pi (asrL s id a) (i + 1) := by
  cases hE : asrE s id a == 0 with
  | false => rw [asrL_no hE]; exact h.up
  | true =>
    have hE' : asrE s id a = 0 := by simpa using hE
    refine ⟨(bs_asr h.bs id a).up (by omega) (by omega), ?_, ?_⟩
    · rw [asr_now hE']; exact (timB_le.1 (asrE_tim hE')).1
    · obtain ⟨l1, x, l2, h1, _, _, h4⟩ := asr_split hE'
      have e : (asrL s id a).all.map (·.id) = s.all.map (·.id) := by
        rw [h4, ← mv_ids s a a]
        show (l1.map (mv1 a) ++ _ :: l2.map (mv1 a)).map (·.id) = (s.all.map (mv1 a)).map (·.id)
        rw [mv_split h1, List.map_append, List.map_append, List.map_cons, List.map_cons, mv1_id]
      rw [e]; exact h.nd
theorem pi_rm {s : Ls} {i : Nat} (h : Pi s i) (id : Int) : Pi (rmR s id) (i + 1) := by
  unfold rmR
  cases decide (findL s.all id 0 < 0) with
  | true => exact h.up
  | false =>
    refine ⟨⟨?_, ?_, fun x hx => h.bs.lz x (List.mem_filter.1 hx).1⟩, h.nw, ?_⟩
    · have := keep_len id s.all; have := h.bs.al; show (keep id s.all).length ≤ _; omega
    · have := h.bs.pl; show s.pend.length ≤ _; omega
    · exact h.nd.sublist ((List.filter_sublist (l := s.all)).map _)
theorem pi_chk {s : Ls} {i : Nat} (h : Pi s i) (a : Int) : Pi (chkL s a) (i + 1) := by
  unfold chkL
  cases hc : chkB s a with
  | true => exact h.up
  | false =>
    have hb := bs_chk h.bs a
    unfold chkL at hb
    rw [hc] at hb
    refine ⟨hb.up (by omega) (by omega), ?_, ?_⟩
    · have := h.nw
      unfold chkB at hc; simp at hc
      show 0 ≤ a; omega
    · show ((s.mv a (a + 1)).all.map (·.id)).Nodup
      rw [mv_ids]; exact h.nd
theorem pi_stp {s : Ls} {i : Nat} (h : Pi s i) (hi : i < 80) (k id len a : Int) : Pi (stp s k id len a) (i + 1) := by
  unfold stp
  cases k == 0 with
  | true => exact pi_add h hi id len a
  | false =>
    cases k == 1 with
    | true => exact pi_rm h id
    | false =>
      cases k == 2 with
      | true => exact pi_asr h hi id a
      | false => exact pi_chk h a
theorem stk_cases (s : Ls) (k id a : Int) : stk s k id a = 0 ∨ stk s k id a = 1 ∨ stk s k id a = 2 := by
  unfold stk
  cases k == 0 <;> cases k == 1 <;> cases k == 2 <;> cases decide (findL s.all id 0 < 0) <;> cases chkB s a <;> simp
theorem pi_zero : Pi Ls.empty 0 := ⟨⟨Nat.le_refl _, Nat.le_refl _, fun x hx => by cases hx⟩, Int.le_refl _, List.nodup_nil⟩
theorem i01 : ((0 : Int) = 1) = False := by simp
theorem i02 : ((0 : Int) = 2) = False := by simp
theorem i10 : ((1 : Int) = 0) = False := by simp
theorem i12 : ((1 : Int) = 2) = False := by simp
theorem i20 : ((2 : Int) = 0) = False := by simp
theorem i21 : ((2 : Int) = 1) = False := by simp
theorem vc_tail2 {Γ : Env} {k0 : Nat} {x : PC} {fr : Fr} {H : Hp} {K : Ex → Fr → Hp → Prop} {up : List (Nat × S)} {Hs : Hp} (ns : List Nat) (h : vc Γ k0 x.ungh (puts up) Hs K) (h3 : ns.Nodup) (h4 : ∀ n ∈ ns, n < H.length) (h5 : ns.take k0 = List.range k0)
    (h1 : agree' ns fr up) (h2 : (pickH H ns).map (B.ren (loc ns)) = Hs) (hg : x.hgh = true := by rfl) : vcn Γ k0 x fr H K ⟨⟩ :=
  vc_head hg (.sel ns h3 h4 h5 (.wk _ (puts_wk' h1) (.done (by rw [h2]; exact h))))
def clsPre : List S → Prop := fun xs => match xs with
  | [.va (.c1 (.fz rs))] => ∃ l : List Cl, rs = l.map clR
  | _ => False
theorem clsPre_open {xs : List S} (h : clsPre xs) : ∃ l : List Cl, xs = [.va (.c1 (.fz (l.map clR)))] := by
  unfold clsPre at h
  split at h
  · obtain ⟨l, rfl⟩ := h; exact ⟨l, rfl⟩
  · exact h.elim
def clsFn : Fun := ⟨clsPre, fun _ => bA true, fun xs _ => trivial⟩
theorem clsFn_len : ∀ xs H K, clsFn.sp xs H K → xs.length = 1 := fun xs H K h => by obtain ⟨l, rfl⟩ := clsPre_open h.1.1; rfl
abbrev plE : Env := [(8, .f (nilFn (bA true) trivial)), (9, .s newSp), (17, .s plySp), (16, .s nxtSp), (18, .s nxRSp), (12, .s alvSp), (19, .f (g1Fn fun s id => .bool (alvB s id)))]
theorem plMeets : MeetsAll Try.prog plE := meetsAll_f mAwake (meetsAll_s mNew (meetsAll_s mPlay (meetsAll_s mNextL (meetsAll_s mNextR (meetsAll_s mAlive (meetsAll_f mAliveR (meetsAll_nil _)))))))
abbrev plTl (cl : List Cl) (i : Nat) : List (Nat × S) := [(0, .va (.c1 (.fz (cl.map clR)))), (3, .va (.c1 (.pt 0 0))), (4, .va (.c1 (.pt 3 0))), (5, iS .i64 i), (6, .va (.c1 (.pt 4 0))), (7, bS true)]
abbrev lsB (s : Ls) : B := .cells [.vl (.int .i64 s.now), .fz (s.all.map lzC), .fz (s.pend.map chC)] 48
set_option maxRecDepth 100000 in
theorem plTail {cl : List Cl} {i : Nat} {s s' : Ls} {x : Cl} (hx : cl[i]? = some x) (h : Pi s' (i + 1)) (hi : i < 80) {K : Ex → Fr → Hp → Prop}
    (hK : ∀ fr', fr' 0 = .va (.c1 (.fz (cl.map clR))) → fr' 3 = .va (.c1 (.pt 0 0)) → fr' 4 = .va (.c1 (.pt 3 0)) → fr' 5 = iS .i64 i → K .n fr' (lsH s' ++ [lsB s', lsB s'])) :
    vc plE 0 pc5_9.ungh (puts (plTl cl i)) (lsH s' ++ [lsB s, lsB s']) K := by
  have g1 := isFit_mk (h.fit (by omega))
  have g2 := isG_mk (h.fit (by omega)).ok
  have q1 := rg_at (row := clR) hx
  have q2 := rg_at' (row := clR) hx
  have hlt := (List.getElem?_eq_some_iff.1 hx).1
  simp -dsimp only [go_sem, pc5_9, lsH, lsB, g1, g2, ↓q1, ↓q2, g1V_mk, bne_self_eq_false, beq_self_eq_true]
  refine ⟨by omega, by omega, by omega, hK _ ?_ ?_ ?_ ?_⟩
  all_goals rfl
set_option maxHeartbeats 4000000 in
set_option maxRecDepth 100000 in
theorem mPlays : Meets Try.prog 5 clsFn.sp := by
  refine meets_fn Try.func5 ok5 1 (by rw [Try.ntmps5]; decide) plMeets clsFn_len ?_
  rintro av H K ⟨⟨h, rfl⟩, hK⟩
  obtain ⟨cl, rfl⟩ := clsPre_open h
  have hK' : K (bS true) [] := hK
  cases hg0 : decide (80 < (cl.length : Int)) with
  | true =>
    simp -dsimp only [go_sem, pc5, rs5, hg0]
    exact .done hK'
  | false =>
    have hcl : cl.length ≤ 80 := by simp at hg0; omega
    simp -dsimp only [go_sem, pc5, rs5, hg0]
    refine vc_loop_gh (α := Nat × Ls) (fun z => [(0, .va (.c1 (.fz (cl.map clR)))), (3, .va (.c1 (.pt 0 0))), (4, .va (.c1 (.pt 3 0))), (5, iS .i64 z.1)]) (fun z => lsH z.2 ++ [lsB z.2]) (fun z => z.1 ≤ cl.length ∧ Pi z.2 z.1) (fun z => cl.length - z.1)
      (.nilc 3 1 74 4 _ _ rfl rfl (.nilc 3 2 31 3 _ _ rfl rfl (.pub 4 _ _ _ rfl (.pub 5 _ _ _ rfl (gh_at (0, Ls.empty) 4 ⟨Nat.zero_le _, pi_zero⟩ ?_ ?_))))) ?_
    · simp [go_sem]
    · simp [go_sem, pubH, Ls.empty]
    rintro ⟨i, s⟩ ⟨hi, hp⟩
    simp only at hi hp
    rcases Nat.lt_or_ge i cl.length with hlt | hge
    · obtain ⟨x, hx⟩ : ∃ x, cl[i]? = some x := ⟨_, List.getElem?_eq_getElem hlt⟩
      have q1 := rg_at (row := clR) hx
      have q2 := rg_at' (row := clR) hx
      have hg : decide ((i : Int) < (cl.length : Int)) = true := by simp; omega
      have g1 := isPl_mk (hp.fit (by omega)) hp.nd
      obtain ⟨s', hs'⟩ : ∃ t, t = stp s x.k x.id x.len x.at' := ⟨_, rfl⟩
      have hp' := pi_stp hp (by omega) x.k x.id x.len x.at'
      rw [← hs'] at hp'
      rcases stk_cases s x.k x.id x.at' with hk | hk | hk
      · simp -dsimp only [go_sem, lsH, lsB, hg, ↓q1, ↓q2, g1, hk, ← hs', i01, i02, i10, i12, i20, i21]
        refine ⟨by omega, vc_tail2 (up := plTl cl i) (Hs := lsH s' ++ [lsB s, lsB s']) [0, 1, 2, 3, 4] (plTail hx hp' (by omega) (fun fr' e0 e3 e4 e5 => ?_)) (by decide) (by simp) rfl ?_ ?_⟩
        · simp -dsimp only [go_sem, e5]
          refine ⟨by omega, loop_next (i + 1, s') 4 ⟨by simp only; omega, hp'⟩ (by simp only; omega) ?_ ?_⟩
          · simp [go_sem, e0, e3, e4, e5]
          · simp [go_sem]
        · simp [go_sem]
        · simp [go_sem]
      · simp -dsimp only [go_sem, lsH, lsB, hg, ↓q1, ↓q2, g1, hk, ← hs', i01, i02, i10, i12, i20, i21]
        refine ⟨by omega, vc_tail2 (up := plTl cl i) (Hs := lsH s' ++ [lsB s, lsB s']) [0, 4, 2, 3, 5] (plTail hx hp' (by omega) (fun fr' e0 e3 e4 e5 => ?_)) (by decide) (by simp) rfl ?_ ?_⟩
        · simp -dsimp only [go_sem, e5]
          refine ⟨by omega, loop_next (i + 1, s') 4 ⟨by simp only; omega, hp'⟩ (by simp only; omega) ?_ ?_⟩
          · simp [go_sem, e0, e3, e4, e5]
          · simp [go_sem]
        · simp [go_sem]
        · simp [go_sem]
      · simp -dsimp only [go_sem, lsH, lsB, hg, ↓q1, ↓q2, g1, hk, ← hs', i01, i02, i10, i12, i20, i21]
        refine ⟨by omega, vc_tail2 (up := plTl cl i) (Hs := lsH s' ++ [lsB s, lsB s']) [0, 1, 4, 3, 5] (plTail hx hp' (by omega) (fun fr' e0 e3 e4 e5 => ?_)) (by decide) (by simp) rfl ?_ ?_⟩
        · simp -dsimp only [go_sem, e5]
          refine ⟨by omega, loop_next (i + 1, s') 4 ⟨by simp only; omega, hp'⟩ (by simp only; omega) ?_ ?_⟩
          · simp [go_sem, e0, e3, e4, e5]
          · simp [go_sem]
        · simp [go_sem]
        · simp [go_sem]
    · obtain rfl : i = cl.length := by omega
      have hg : decide ((cl.length : Int) < (cl.length : Int)) = false := by simp
      simp -dsimp only [go_sem, lsH, lsB, hg]
      exact .sel [] (by simp) (by simp) rfl (.done hK')
end Go.Proofs.Ytngmjggconefcaa
