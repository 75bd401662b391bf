/- The law of apartness: its function returns true. -/
import Derived.Test.YtngmjggconefcaaLivQ
import Derived.Test.YtngmjggconefcaaLivAb
import Derived.Test.YtngmjggconefcaaPg
namespace Go.Proofs.Ytngmjggconefcaa
open Go.W
def clIPre : List S → Prop := fun xs => match xs with
  | [.va (.c1 (.fz rs)), .va (.c1 (.vl (.int .i64 _)))] => ∃ l : List Cl, rs = l.map clR
  | _ => False
theorem clIPre_open {xs : List S} (h : clIPre xs) : ∃ (l : List Cl) (id : Int), xs = [.va (.c1 (.fz (l.map clR))), iS .i64 id] := by
  unfold clIPre at h
  split at h
  · obtain ⟨l, rfl⟩ := h; exact ⟨l, _, rfl⟩
  · exact h.elim
def clIFn : Fun := ⟨clIPre, fun _ => bA true, fun xs _ => trivial⟩
theorem clIFn_len : ∀ xs H K, clIFn.sp xs H K → xs.length = 2 := fun xs H K h => by obtain ⟨l, id, rfl⟩ := clIPre_open h.1.1; rfl
theorem at_rng (n : Int) : 0 ≤ IntKind.i64.wrap ((IntKind.u64.wrap n).tmod 7) ∧ IntKind.i64.wrap ((IntKind.u64.wrap n).tmod 7) ≤ 6 := by
  have h0 : 0 ≤ IntKind.u64.wrap n := by
    unfold IntKind.wrap; simp [IntKind.signed, IntKind.bits]; omega
  have h1 : (IntKind.u64.wrap n).tmod 7 = (IntKind.u64.wrap n) % 7 := Int.tmod_eq_emod_of_nonneg h0
  rw [h1, wrap_inr (by rw [inr_i64]; omega)]
  omega
abbrev lsHo (s : Ls) : Hp := [.cells [.vl (.int .i64 s.now), .sl 4 s.all.length, .sl 5 s.pend.length] 59, .row (s.all.map lzC) 63 4, .row (s.pend.map chC) 44 3]
abbrev apE : Env := [(8, .f (nilFn (bA true) trivial)), (9, .s newSp), (10, .s addSp), (20, .s rmSp), (11, .s asrSp), (15, .s chkSp), (12, .s alvSp), (14, .s plnSp), (13, .f samFn)]
theorem apMeets : MeetsAll Try.prog apE := meetsAll_f mAwake (meetsAll_s mNew (meetsAll_s mAdd (meetsAll_s mRemove (meetsAll_s mAssert (meetsAll_s mCheck (meetsAll_s mAlive (meetsAll_s mPlain (meetsAll_f mSame (meetsAll_nil _)))))))))
theorem Bs.fit {s : Ls} {m n : Nat} (h : Bs s m n) (hm : m ≤ 900) (hn : n ≤ 400000) (h0 : 0 ≤ s.now) : s.fit := ⟨Nat.le_trans h.al hm, Nat.le_trans h.pl hn, h.lz, h0⟩
theorem eqL_self (l : List Chg) : eqL l l = true := by unfold eqL; simp
abbrev apUp (cl : List Cl) (id hp : Int) (i : Nat) : List (Nat × S) := [(0, .va (.c1 (.fz (cl.map clR)))), (1, iS .i64 id), (5, .va (.c1 (.pt 0 0))), (6, .va (.c1 (.pt 3 0))), (7, iS .i64 hp), (8, iS .i64 i)]
abbrev apTl (cl : List Cl) (id hp : Int) (i : Nat) : List (Nat × S) := [(0, .va (.c1 (.fz (cl.map clR)))), (1, iS .i64 id), (5, .va (.c1 (.pt 0 0))), (6, .va (.c1 (.pt 3 0))), (7, iS .i64 hp), (8, iS .i64 i), (9, .va (.c1 (.pt 6 0)))]
abbrev apH (b o : Ls) (k xi len a : Int) : Hp := lsH b ++ lsHo o ++ [.cells [.vl (.int .i64 k), .vl (.int .i64 xi), .vl (.int .i64 len), .vl (.int .i64 a)] 43]
set_option maxRecDepth 100000 in
theorem apTail {cl : List Cl} {id hp : Int} {i : Nat} {b o : Ls} {k xi len a : Int} (h : Ap id hp b o (i + 1)) (hi : i < 40) {K : Ex → Fr → Hp → Prop}
    (hK : ∀ fr', fr' 0 = .va (.c1 (.fz (cl.map clR))) → fr' 1 = iS .i64 id → fr' 5 = .va (.c1 (.pt 0 0)) → fr' 6 = .va (.c1 (.pt 3 0)) → fr' 7 = iS .i64 hp → fr' 8 = iS .i64 i → K .n fr' (apH b o k xi len a)) :
    vc apE 0 pc6_39.ungh (puts (apTl cl id hp i)) (apH b o k xi len a) K := by
  have g1 := isFit_mk (h.bfit (by omega))
  have g2 := isFit_mk (h.ofit (by omega))
  have e := ap_alv h
  simp -dsimp only [go_sem, pc6_39, apH, lsH, lsHo, g1, g2, e]
  refine hK _ ?_ ?_ ?_ ?_ ?_ ?_
  all_goals rfl
set_option maxHeartbeats 4000000 in
set_option maxRecDepth 100000 in
theorem mApart : Meets Try.prog 6 clIFn.sp := by
  refine meets_fn Try.func6 ok6 2 (by rw [Try.ntmps6]; decide) apMeets clIFn_len ?_
  rintro av H K ⟨⟨h, rfl⟩, hK⟩
  obtain ⟨cl, id, rfl⟩ := clIPre_open h
  have hK' : K (bS true) [] := hK
  cases hg0 : decide (40 < (cl.length : Int)) with
  | true =>
    simp -dsimp only [go_sem, pc6, rs6, hg0]
    exact .done hK'
  | false =>
    have hcl : cl.length ≤ 40 := by simp at hg0; omega
    have round : ∀ (hp : Int), 1 ≤ hp → hp ≠ id → ∀ (fr : Fr) (H : Hp), fr 0 = .va (.c1 (.fz (cl.map clR))) → fr 1 = iS .i64 id → fr 5 = .va (.c1 (.pt 0 0)) → fr 6 = .va (.c1 (.pt 3 0)) → fr 7 = iS .i64 hp → H = lsH Ls.empty ++ lsHo Ls.empty → vc apE 0 pc6_7.ungh fr H (retK 0 rs6 K) := by
      intro hp hp1 hpn fr H f0 f1 f5 f6 f7 hH
      subst hH
      obtain ⟨ap0, aE⟩ := ap_zero hp1 hpn
      have g0 : isFit Ls.empty.now (Ls.empty.all.map lzC) (Ls.empty.pend.map chC) Ls.empty.all.length Ls.empty.pend.length := isFit_mk (fit_of _ (by decide))
      simp -dsimp only [go_sem, pc6_7, rs6, f0, f1, f5, f6, f7, g0]
      refine vc_loop (α := Nat × Ls × Ls) (fun z => apUp cl id hp z.1) (fun z => lsH z.2.1 ++ lsHo z.2.2) (fun z => z.1 ≤ cl.length ∧ Ap id hp z.2.1 z.2.2 z.1) (fun z => cl.length - z.1) (0, Ls.empty, addL Ls.empty hp 0 0) 6 ⟨Nat.zero_le _, ap0⟩ ?_ ?_ ?_
      · simp [go_sem, f0, f1, f5, f6, f7]
      · simp [go_sem]
      rintro ⟨i, b, o⟩ ⟨hi, hap⟩
      simp only at hi hap
      rcases Nat.lt_or_ge i cl.length with hlt | hge
      · obtain ⟨x, hx⟩ : ∃ x, cl[i]? = some x := ⟨_, List.getElem?_eq_getElem hlt⟩
        have q1 := rg_at (row := clR) hx
        have q2 := rg_at' (row := clR) hx
        have hg : decide ((i : Int) < (cl.length : Int)) = true := by simp; omega
        have g1 := isFit_mk (hap.bfit (by omega))
        have g2 := isFit_mk (hap.ofit (by omega))
        have hr := at_rng x.at'
        obtain ⟨a, ha⟩ : ∃ a, a = (i : Int) * 7 + IntKind.i64.wrap ((IntKind.u64.wrap x.at').tmod 7) := ⟨_, rfl⟩
        have hat : At b i a := ⟨by omega, by omega⟩
        cases hk0 : x.k == 0 with
        | true =>
          cases hi0 : x.id == id with
          | true =>
            cases hE : addE b x.id x.len a == 0 with
            | true =>
              have hid : id = x.id := (by simpa using hi0 : x.id = id).symm
              subst hid
              have e1 := co_addE hap.co x.len a
              obtain ⟨b1, hb1⟩ : ∃ s, s = addL b x.id x.len a := ⟨_, rfl⟩
              obtain ⟨o1, ho1⟩ : ∃ s, s = addL o x.id x.len a := ⟨_, rfl⟩
              have hE' : addE b x.id x.len a = 0 := by simpa using hE
              have g3 : isFit o1.now (o1.all.map lzC) (o1.pend.map chC) o1.all.length o1.pend.length := isFit_mk ((bs_add hap.bs.2 x.id x.len a).fit (by omega) (by omega) (by rw [addL_now (by rw [e1]; exact hE')]; omega) |> (by rw [ho1]; exact ·))
              obtain ⟨o2, ho2⟩ : ∃ s, s = asrL o1 hp a := ⟨_, rfl⟩
              have hz := ap_add_own hap (by omega) hpn hat hE'
              rw [← hb1, ← ho1, ← ho2] at hz
              simp -dsimp only [go_sem, hg, ↓q1, ↓q2, g1, g2, ← ha, hk0, hE, e1, ← hb1, ← ho1, ← ho2, g3, bne_self_eq_false]
              and_intros
              all_goals first
                | omega
                | skip
              refine vc_tail' (up := apTl cl x.id hp i) (Hs := apH b1 o2 x.k x.id x.len a) [0, 1, 2, 3, 4, 5, 6] (apTail hz (by omega) (fun fr' e0 e1 e5 e6 e7 e8 => ?_)) (by decide) (by simp) rfl ?_ ?_
              · simp -dsimp only [go_sem, e8]
                refine ⟨by omega, loop_next (i + 1, b1, o2) 6 ⟨by simp only; omega, hz⟩ (by simp only; omega) ?_ ?_⟩
                · simp [go_sem, e0, e1, e5, e6, e7]
                · simp [go_sem]
              · simp [go_sem]
              · simp [go_sem]
            | false =>
              have hid : id = x.id := (by simpa using hi0 : x.id = id).symm
              subst hid
              have e1 := co_addE hap.co x.len a
              obtain ⟨b1, hb1⟩ : ∃ s, s = addL b x.id x.len a := ⟨_, rfl⟩
              obtain ⟨o1, ho1⟩ : ∃ s, s = addL o x.id x.len a := ⟨_, rfl⟩
              have hz := ap_add_no hap hE
              rw [← hb1, ← ho1] at hz
              simp -dsimp only [go_sem, hg, ↓q1, ↓q2, g1, g2, ← ha, hk0, hE, e1, ← hb1, ← ho1, bne_self_eq_false]
              and_intros
              all_goals first
                | omega
                | skip
              refine vc_tail' (up := apTl cl x.id hp i) (Hs := apH b1 o1 x.k x.id x.len a) [0, 1, 2, 3, 4, 5, 6] (apTail hz (by omega) (fun fr' e0 e1 e5 e6 e7 e8 => ?_)) (by decide) (by simp) rfl ?_ ?_
              · simp -dsimp only [go_sem, e8]
                refine ⟨by omega, loop_next (i + 1, b1, o1) 6 ⟨by simp only; omega, hz⟩ (by simp only; omega) ?_ ?_⟩
                · simp [go_sem, e0, e1, e5, e6, e7]
                · simp [go_sem]
              · simp [go_sem]
              · simp [go_sem]
          | false =>
            cases hE : addE b x.id x.len a == 0 with
            | true =>
              have hne : x.id ≠ id := by simpa using hi0
              obtain ⟨b1, hb1⟩ : ∃ s, s = addL b x.id x.len a := ⟨_, rfl⟩
              have hE' : addE b x.id x.len a = 0 := by simpa using hE
              obtain ⟨o1, ho1⟩ : ∃ s, s = asrL o hp a := ⟨_, rfl⟩
              have hz := ap_add_else hap (by omega) hpn hne hat hE'
              rw [← hb1, ← ho1] at hz
              simp -dsimp only [go_sem, hg, ↓q1, ↓q2, g1, g2, ← ha, hk0, hi0, hE, ← hb1, ← ho1]
              and_intros
              all_goals first
                | omega
                | skip
              refine vc_tail' (up := apTl cl id hp i) (Hs := apH b1 o1 x.k x.id x.len a) [0, 1, 2, 3, 4, 5, 6] (apTail hz (by omega) (fun fr' e0 e1 e5 e6 e7 e8 => ?_)) (by decide) (by simp) rfl ?_ ?_
              · simp -dsimp only [go_sem, e8]
                refine ⟨by omega, loop_next (i + 1, b1, o1) 6 ⟨by simp only; omega, hz⟩ (by simp only; omega) ?_ ?_⟩
                · simp [go_sem, e0, e1, e5, e6, e7]
                · simp [go_sem]
              · simp [go_sem]
              · simp [go_sem]
            | false =>
              have hne : x.id ≠ id := by simpa using hi0
              obtain ⟨b1, hb1⟩ : ∃ s, s = addL b x.id x.len a := ⟨_, rfl⟩
              have hz := ap_add_else_no hap hE
              rw [← hb1] at hz
              simp -dsimp only [go_sem, hg, ↓q1, ↓q2, g1, g2, ← ha, hk0, hi0, hE, ← hb1]
              and_intros
              all_goals first
                | omega
                | skip
              refine vc_tail' (up := apTl cl id hp i) (Hs := apH b1 o x.k x.id x.len a) [0, 1, 2, 3, 4, 5, 6] (apTail hz (by omega) (fun fr' e0 e1 e5 e6 e7 e8 => ?_)) (by decide) (by simp) rfl ?_ ?_
              · simp -dsimp only [go_sem, e8]
                refine ⟨by omega, loop_next (i + 1, b1, o) 6 ⟨by simp only; omega, hz⟩ (by simp only; omega) ?_ ?_⟩
                · simp [go_sem, e0, e1, e5, e6, e7]
                · simp [go_sem]
              · simp [go_sem]
              · simp [go_sem]
        | false =>
          cases hk1 : x.k == 1 with
          | true =>
            cases hi0 : x.id == id with
            | true =>
              cases hF : decide (findL b.all x.id 0 < 0) with
              | true =>
                have hid : id = x.id := (by simpa using hi0 : x.id = id).symm
                subst hid
                have hFo := co_rmE hap.co
                rw [hF] at hFo
                have hz := ap_rm_own hap hpn
                have hb1 : rmL b x.id = b := by unfold rmL; rw [hF]; rfl
                have ho1 : rmL o x.id = o := by unfold rmL; rw [hFo]; rfl
                rw [hb1, ho1] at hz
                simp -dsimp only [go_sem, hg, ↓q1, ↓q2, g1, g2, ← ha, hk0, hk1, hF, hFo, bne_self_eq_false]
                and_intros
                all_goals first
                  | omega
                  | skip
                refine vc_tail' (up := apTl cl x.id hp i) (Hs := apH b o x.k x.id x.len a) [0, 1, 2, 3, 4, 5, 6] (apTail hz (by omega) (fun fr' e0 e1 e5 e6 e7 e8 => ?_)) (by decide) (by simp) rfl ?_ ?_
                · simp -dsimp only [go_sem, e8]
                  refine ⟨by omega, loop_next (i + 1, b, o) 6 ⟨by simp only; omega, hz⟩ (by simp only; omega) ?_ ?_⟩
                  · simp [go_sem, e0, e1, e5, e6, e7]
                  · simp [go_sem]
                · simp [go_sem]
                · simp [go_sem]
              | false =>
                have hid : id = x.id := (by simpa using hi0 : x.id = id).symm
                subst hid
                have hFo := co_rmE hap.co
                rw [hF] at hFo
                have hz := ap_rm_own hap hpn
                have hb1 : rmL b x.id = ⟨b.now, b.all.eraseIdx (findL b.all x.id 0).toNat, b.pend⟩ := by unfold rmL; rw [hF]; rfl
                have hbl : (b.all.eraseIdx (findL b.all x.id 0).toNat).length = b.all.length - 1 := by
                  obtain ⟨_, y, hy, _⟩ := findL_get b.all x.id 0 (by simp at hF; omega)
                  rw [Nat.sub_zero] at hy
                  exact List.length_eraseIdx_of_lt (List.getElem?_eq_some_iff.1 hy).1
                have ho1 : rmL o x.id = ⟨o.now, o.all.eraseIdx (findL o.all x.id 0).toNat, o.pend⟩ := by unfold rmL; rw [hFo]; rfl
                have hol : (o.all.eraseIdx (findL o.all x.id 0).toNat).length = o.all.length - 1 := by
                  obtain ⟨_, y, hy, _⟩ := findL_get o.all x.id 0 (by simp at hFo; omega)
                  rw [Nat.sub_zero] at hy
                  exact List.length_eraseIdx_of_lt (List.getElem?_eq_some_iff.1 hy).1
                simp -dsimp only [go_sem, hg, ↓q1, ↓q2, g1, g2, ← ha, hk0, hk1, hF, hFo, bne_self_eq_false]
                and_intros
                all_goals first
                  | omega
                  | skip
                refine vc_tail' (up := apTl cl x.id hp i) (Hs := apH (rmL b x.id) (rmL o x.id) x.k x.id x.len a) [0, 7, 2, 3, 8, 5, 6] (apTail hz (by omega) (fun fr' e0 e1 e5 e6 e7 e8 => ?_)) (by decide) (by simp) rfl ?_ ?_
                · simp -dsimp only [go_sem, e8]
                  refine ⟨by omega, loop_next (i + 1, (rmL b x.id), (rmL o x.id)) 6 ⟨by simp only; omega, hz⟩ (by simp only; omega) ?_ ?_⟩
                  · simp [go_sem, e0, e1, e5, e6, e7]
                  · simp [go_sem]
                · simp [go_sem]
                · rw [hb1, ho1]; simp [go_sem, hbl, hol]
            | false =>
              cases hF : decide (findL b.all x.id 0 < 0) with
              | true =>
                have hne : x.id ≠ id := by simpa using hi0
                have hz := ap_rm_else hap hne
                have hb1 : rmL b x.id = b := by unfold rmL; rw [hF]; rfl
                rw [hb1] at hz
                simp -dsimp only [go_sem, hg, ↓q1, ↓q2, g1, g2, ← ha, hk0, hk1, hi0, hF]
                and_intros
                all_goals first
                  | omega
                  | skip
                refine vc_tail' (up := apTl cl id hp i) (Hs := apH b o x.k x.id x.len a) [0, 1, 2, 3, 4, 5, 6] (apTail hz (by omega) (fun fr' e0 e1 e5 e6 e7 e8 => ?_)) (by decide) (by simp) rfl ?_ ?_
                · simp -dsimp only [go_sem, e8]
                  refine ⟨by omega, loop_next (i + 1, b, o) 6 ⟨by simp only; omega, hz⟩ (by simp only; omega) ?_ ?_⟩
                  · simp [go_sem, e0, e1, e5, e6, e7]
                  · simp [go_sem]
                · simp [go_sem]
                · simp [go_sem]
              | false =>
                have hne : x.id ≠ id := by simpa using hi0
                have hz := ap_rm_else hap hne
                have hb1 : rmL b x.id = ⟨b.now, b.all.eraseIdx (findL b.all x.id 0).toNat, b.pend⟩ := by unfold rmL; rw [hF]; rfl
                have hbl : (b.all.eraseIdx (findL b.all x.id 0).toNat).length = b.all.length - 1 := by
                  obtain ⟨_, y, hy, _⟩ := findL_get b.all x.id 0 (by simp at hF; omega)
                  rw [Nat.sub_zero] at hy
                  exact List.length_eraseIdx_of_lt (List.getElem?_eq_some_iff.1 hy).1
                simp -dsimp only [go_sem, hg, ↓q1, ↓q2, g1, g2, ← ha, hk0, hk1, hi0, hF]
                and_intros
                all_goals first
                  | omega
                  | skip
                refine vc_tail' (up := apTl cl id hp i) (Hs := apH (rmL b x.id) o x.k x.id x.len a) [0, 7, 2, 3, 4, 5, 6] (apTail hz (by omega) (fun fr' e0 e1 e5 e6 e7 e8 => ?_)) (by decide) (by simp) rfl ?_ ?_
                · simp -dsimp only [go_sem, e8]
                  refine ⟨by omega, loop_next (i + 1, (rmL b x.id), o) 6 ⟨by simp only; omega, hz⟩ (by simp only; omega) ?_ ?_⟩
                  · simp [go_sem, e0, e1, e5, e6, e7]
                  · simp [go_sem]
                · simp [go_sem]
                · rw [hb1]; simp [go_sem, hbl]
          | false =>
            cases hk2 : x.k == 2 with
            | true =>
              cases hi0 : x.id == id with
              | true =>
                cases hE : asrE b x.id a == 0 with
                | true =>
                  have hid : id = x.id := (by simpa using hi0 : x.id = id).symm
                  subst hid
                  have e1 := co_asrE hap.co a
                  obtain ⟨b1, hb1⟩ : ∃ s, s = asrL b x.id a := ⟨_, rfl⟩
                  obtain ⟨o1, ho1⟩ : ∃ s, s = asrL o x.id a := ⟨_, rfl⟩
                  have hE' : asrE b x.id a = 0 := by simpa using hE
                  have g3 : isFit o1.now (o1.all.map lzC) (o1.pend.map chC) o1.all.length o1.pend.length := isFit_mk ((bs_asr hap.bs.2 x.id a).fit (by omega) (by omega) (by rw [asr_now (by rw [e1]; exact hE')]; omega) |> (by rw [ho1]; exact ·))
                  obtain ⟨o2, ho2⟩ : ∃ s, s = asrL o1 hp a := ⟨_, rfl⟩
                  have hz := ap_asr_own hap (by omega) hpn hat hE'
                  rw [← hb1, ← ho1, ← ho2] at hz
                  simp -dsimp only [go_sem, hg, ↓q1, ↓q2, g1, g2, ← ha, hk0, hk1, hk2, hE, e1, ← hb1, ← ho1, ← ho2, g3, bne_self_eq_false]
                  and_intros
                  all_goals first
                    | omega
                    | skip
                  refine vc_tail' (up := apTl cl x.id hp i) (Hs := apH b1 o2 x.k x.id x.len a) [0, 1, 2, 3, 4, 5, 6] (apTail hz (by omega) (fun fr' e0 e1 e5 e6 e7 e8 => ?_)) (by decide) (by simp) rfl ?_ ?_
                  · simp -dsimp only [go_sem, e8]
                    refine ⟨by omega, loop_next (i + 1, b1, o2) 6 ⟨by simp only; omega, hz⟩ (by simp only; omega) ?_ ?_⟩
                    · simp [go_sem, e0, e1, e5, e6, e7]
                    · simp [go_sem]
                  · simp [go_sem]
                  · simp [go_sem]
                | false =>
                  have hid : id = x.id := (by simpa using hi0 : x.id = id).symm
                  subst hid
                  have e1 := co_asrE hap.co a
                  obtain ⟨b1, hb1⟩ : ∃ s, s = asrL b x.id a := ⟨_, rfl⟩
                  obtain ⟨o1, ho1⟩ : ∃ s, s = asrL o x.id a := ⟨_, rfl⟩
                  have hz := ap_asr_no hap hE
                  rw [← hb1, ← ho1] at hz
                  simp -dsimp only [go_sem, hg, ↓q1, ↓q2, g1, g2, ← ha, hk0, hk1, hk2, hE, e1, ← hb1, ← ho1, bne_self_eq_false]
                  and_intros
                  all_goals first
                    | omega
                    | skip
                  refine vc_tail' (up := apTl cl x.id hp i) (Hs := apH b1 o1 x.k x.id x.len a) [0, 1, 2, 3, 4, 5, 6] (apTail hz (by omega) (fun fr' e0 e1 e5 e6 e7 e8 => ?_)) (by decide) (by simp) rfl ?_ ?_
                  · simp -dsimp only [go_sem, e8]
                    refine ⟨by omega, loop_next (i + 1, b1, o1) 6 ⟨by simp only; omega, hz⟩ (by simp only; omega) ?_ ?_⟩
                    · simp [go_sem, e0, e1, e5, e6, e7]
                    · simp [go_sem]
                  · simp [go_sem]
                  · simp [go_sem]
              | false =>
                cases hE : asrE b x.id a == 0 with
                | true =>
                  have hne : x.id ≠ id := by simpa using hi0
                  obtain ⟨b1, hb1⟩ : ∃ s, s = asrL b x.id a := ⟨_, rfl⟩
                  have hE' : asrE b x.id a = 0 := by simpa using hE
                  obtain ⟨o1, ho1⟩ : ∃ s, s = asrL o hp a := ⟨_, rfl⟩
                  have hz := ap_asr_else hap (by omega) hpn hne hat hE'
                  rw [← hb1, ← ho1] at hz
                  simp -dsimp only [go_sem, hg, ↓q1, ↓q2, g1, g2, ← ha, hk0, hk1, hk2, hi0, hE, ← hb1, ← ho1]
                  and_intros
                  all_goals first
                    | omega
                    | skip
                  refine vc_tail' (up := apTl cl id hp i) (Hs := apH b1 o1 x.k x.id x.len a) [0, 1, 2, 3, 4, 5, 6] (apTail hz (by omega) (fun fr' e0 e1 e5 e6 e7 e8 => ?_)) (by decide) (by simp) rfl ?_ ?_
                  · simp -dsimp only [go_sem, e8]
                    refine ⟨by omega, loop_next (i + 1, b1, o1) 6 ⟨by simp only; omega, hz⟩ (by simp only; omega) ?_ ?_⟩
                    · simp [go_sem, e0, e1, e5, e6, e7]
                    · simp [go_sem]
                  · simp [go_sem]
                  · simp [go_sem]
                | false =>
                  have hne : x.id ≠ id := by simpa using hi0
                  obtain ⟨b1, hb1⟩ : ∃ s, s = asrL b x.id a := ⟨_, rfl⟩
                  have hz := ap_asr_else_no hap hE
                  rw [← hb1] at hz
                  simp -dsimp only [go_sem, hg, ↓q1, ↓q2, g1, g2, ← ha, hk0, hk1, hk2, hi0, hE, ← hb1]
                  and_intros
                  all_goals first
                    | omega
                    | skip
                  refine vc_tail' (up := apTl cl id hp i) (Hs := apH b1 o x.k x.id x.len a) [0, 1, 2, 3, 4, 5, 6] (apTail hz (by omega) (fun fr' e0 e1 e5 e6 e7 e8 => ?_)) (by decide) (by simp) rfl ?_ ?_
                  · simp -dsimp only [go_sem, e8]
                    refine ⟨by omega, loop_next (i + 1, b1, o) 6 ⟨by simp only; omega, hz⟩ (by simp only; omega) ?_ ?_⟩
                    · simp [go_sem, e0, e1, e5, e6, e7]
                    · simp [go_sem]
                  · simp [go_sem]
                  · simp [go_sem]
            | false =>
              obtain ⟨c1, c2⟩ := ap_chkB hap (by omega) hat
              obtain ⟨hz, hGo⟩ := ap_chk hap (by omega) hat
              obtain ⟨G, hG⟩ : ∃ s, s = srt ltC (b.mv a (a + 1)).pend := ⟨_, rfl⟩
              have hGb : chkG b a = G := by unfold chkG; rw [c1, hG]; rfl
              have hGe : srt ltC (o.mv a (a + 1)).pend = G.filter fun c => c.id == id := by
                have : chkG o a = srt ltC (o.mv a (a + 1)).pend := by unfold chkG; rw [c2]; rfl
                rw [← this, hGo, hGb]
              have l1 : chkL b a = ⟨a, (b.mv a (a + 1)).all, []⟩ := by unfold chkL; rw [c1]; rfl
              have l2 : chkL o a = ⟨a, (o.mv a (a + 1)).all, []⟩ := by unfold chkL; rw [c2]; rfl
              have hGl : G.length ≤ 3000 := by rw [hG, srt_len]; have := (bs_mv hap.bs.1 a (a + 1)).pl; omega
              have y0 : isCh (G.map chC) := isCh_mk (by omega)
              have y1 : isCh ((G.filter fun c => c.id == id).map chC) := isCh_mk (by have := List.length_filter_le (fun c : Chg => c.id == id) G; omega)
              have mb : (b.mv a (a + 1)).all.length = b.all.length := List.length_map _
              have mo : (o.mv a (a + 1)).all.length = o.all.length := List.length_map _
              simp -dsimp only [go_sem, hg, ↓q1, ↓q2, g1, g2, ← ha, hk0, hk1, hk2, c1, ← hG, y0]
              and_intros
              all_goals first
                | omega
                | skip
              refine vc_loop_gh (α := Nat) (fun k => [(0, .va (.c1 (.fz (cl.map clR)))), (1, iS .i64 id), (5, .va (.c1 (.pt 0 0))), (6, .va (.c1 (.pt 3 0))), (7, iS .i64 hp), (8, iS .i64 i), (9, .va (.c1 (.pt 6 0))), (13, .va (.c1 (.fz (G.map chC)))), (14, .va (.c1 (.sl 7 ((G.take k).filter fun c => c.id == id).length))), (15, iS .i64 k)])
                (fun k => apH (chkL b a) o x.k x.id x.len a ++ [.row (((G.take k).filter fun c => c.id == id).map chC) 31 3]) (fun k => k ≤ G.length) (fun k => G.length - k)
                (.nil 14 31 3 rfl (.sel [0, 1, 7, 3, 4, 5, 6, 8] (by decide) (by simp) rfl (.wk _ (puts_wk' ?_) (.done ⟨0, Nat.zero_le _, rfl, ?_⟩)))) ?_
              · simp [go_sem]
              · rw [l1]; simp [go_sem, mb]
              intro k hk
              obtain ⟨F, hF⟩ : ∃ F, F = (G.take k).filter fun c => c.id == id := ⟨_, rfl⟩
              have hFl : F.length ≤ 3000 := by rw [hF]; have := List.length_filter_le (fun c : Chg => c.id == id) (G.take k); rw [List.length_take] at this; omega
              rw [← hF]
              rcases Nat.lt_or_ge k G.length with hklt | hkge
              · obtain ⟨c, hc⟩ : ∃ c, G[k]? = some c := ⟨_, List.getElem?_eq_getElem hklt⟩
                have r1 := rg_at (row := chC) hc
                have r2 := rg_at' (row := chC) hc
                have hgk : decide ((k : Int) < (G.length : Int)) = true := by simp; omega
                have hst : ((G.take (k + 1)).filter fun c => c.id == id) = F ++ (bif c.id == id then [c] else []) := by
                  rw [List.take_add_one, hc, List.filter_append, ← hF]
                  cases hci : c.id == id <;> simp [hci]
                cases hci : c.id == id with
                | true =>
                  rw [hci, Bool.cond_true] at hst
                  simp -dsimp only [go_sem, apH, lsH, lsHo, hgk, hci, ↓r1, ↓r2]
                  and_intros
                  all_goals first
                    | omega
                    | skip
                  refine loop_next (k + 1) 8 (by omega) (by omega) ?_ ?_
                  · rw [hst]; simp [go_sem]
                  · rw [hst]; simp [go_sem]
                | false =>
                  rw [hci, Bool.cond_false, List.append_nil] at hst
                  simp -dsimp only [go_sem, apH, lsH, lsHo, hgk, hci, ↓r1, ↓r2]
                  and_intros
                  all_goals first
                    | omega
                    | skip
                  refine loop_next (k + 1) 8 (by omega) (by omega) ?_ ?_
                  · rw [hst]; simp [go_sem]
                  · rw [hst]; simp [go_sem]
              · obtain rfl : k = G.length := by omega
                rw [List.take_length] at hF
                have hgk : decide ((G.length : Int) < (G.length : Int)) = false := by simp
                subst hF
                simp -dsimp only [go_sem, apH, lsH, lsHo, hgk, g2, c2, hGe, y1, eqL_self, Bool.not_true]
                refine vc_tail' (up := apTl cl id hp i) (Hs := apH (chkL b a) (chkL o a) x.k x.id x.len a) [0, 1, 2, 3, 4, 8, 6] (apTail hz (by omega) (fun fr' e0 e1 e5 e6 e7 e8 => ?_)) (by decide) (by simp) rfl ?_ ?_
                · simp -dsimp only [go_sem, e8]
                  refine ⟨by omega, loop_next (i + 1, (chkL b a), (chkL o a)) 6 ⟨by simp only; omega, hz⟩ (by simp only; omega) ?_ ?_⟩
                  · simp [go_sem, e0, e1, e5, e6, e7]
                  · simp [go_sem]
                · simp [go_sem]
                · rw [l1, l2]; simp [go_sem, mo]
      · obtain rfl : i = cl.length := by omega
        have hg : decide ((cl.length : Int) < (cl.length : Int)) = false := by simp
        simp -dsimp only [go_sem, hg]
        exact .sel [] (by simp) (by simp) rfl (.done hK')
    have hH : ∀ (H : Hp), H = lsH Ls.empty ++ lsHo Ls.empty → H = lsH Ls.empty ++ lsHo Ls.empty := fun _ h => h
    cases h1 : id == 1 with
    | true =>
      have hid : id = 1 := by simpa using h1
      subst hid
      simp -dsimp only [go_sem, pc6, rs6, hg0]
      refine vc_head rfl (.done (round 2 (by decide) (by decide) _ _ ?_ ?_ ?_ ?_ ?_ ?_))
      all_goals rfl
    | false =>
      have hid : (1 : Int) ≠ id := fun h => by subst h; simp at h1
      simp -dsimp only [go_sem, pc6, rs6, hg0, h1]
      refine vc_head rfl (.done (round 1 (by decide) hid _ _ ?_ ?_ ?_ ?_ ?_ ?_))
      all_goals rfl
end Go.Proofs.Ytngmjggconefcaa
