/- The stable sort. -/
import Derived.Test.YtngmjggconefcaaW19
import Derived.Test.YtngmjggconefcaaLivF
namespace Go.Proofs.Ytngmjggconefcaa
open Go.W
def stbSp : W.Spec := fun av H K =>
  match av, H with
  | [.va (.c1 (.sl 0 n)), .va (.c1 (.vl (.int .i64 m))), .va (.c1 (.fn f []))], [.row rs 44 3] =>
    ((∃ L : List Chg, rs = L.map chC ∧ L.length = n) ∧ n ≤ 1000000 ∧ f = 34 ∧ m = n) ∧ K (.tu []) [.row ((srt ltC (rs.map C.chg)).map chC) 44 3]
  | _, _ => False
theorem stbSp_open {av : List S} {H : Hp} {K : S → Hp → Prop} (h : stbSp av H K) : ∃ L : List Chg, av = [.va (.c1 (.sl 0 L.length)), iS .i64 L.length, cmpV] ∧ H = chH L ∧ L.length ≤ 1000000 ∧ K (.tu []) (chH (srt ltC L)) := by
  unfold stbSp at h
  split at h
  · obtain ⟨⟨⟨L, rfl, rfl⟩, h1, rfl, rfl⟩, hK⟩ := h
    rw [chg_map] at hK
    exact ⟨L, rfl, rfl, h1, hK⟩
  · exact h.elim
attribute [go_sem ↓] stbSp
theorem insL_rep (M : List Chg) (a b : Nat) : insL M a b = rep M a (srt ltC (seg M a b)) b := rfl
theorem mrgR_rep (M : List Chg) (a m b : Nat) : mrgR M a m b = rep M a (mrgL ltC (seg M a m) (seg M m b)) b := rfl
set_option maxRecDepth 100000 in
theorem mStable : Meets Try.prog 40 stbSp := by
  refine meets_fn Try.func40 ok40 3 (by rw [Try.ntmps40]; decide) (meetsAll_s mIns2 (meetsAll_s mMrg (meetsAll_nil _))) (fun av H K h => by obtain ⟨_, rfl, _⟩ := stbSp_open h; rfl) ?_
  intro av H K h
  obtain ⟨L, rfl, rfl, hn, hK⟩ := stbSp_open h
  obtain ⟨n, hN⟩ : ∃ n, n = L.length := ⟨_, rfl⟩
  rw [← hN] at hn ⊢
  simp -dsimp only [go_sem, pc40, rs40]
  refine vc_loop (α := Nat × List Chg) (fun z => [(0, .va (.c1 (.sl 0 n))), (1, iS .i64 n), (2, cmpV), (6, iS .i64 20), (7, iS .i64 (z.1 * 20 : Nat)), (8, iS .i64 (z.1 * 20 + 20 : Nat))]) (fun z => chH z.2) (fun z => Ins ltC 20 L z.2 z.1 ∧ z.1 * 20 ≤ n) (fun z => n + 20 - z.1 * 20) (0, L) 1 ⟨ins_zero _ _, by simp⟩ ?_ rfl ?_
  · simp [go_sem]
  rintro ⟨k, M⟩ ⟨hI, hk⟩
  simp only at hI hk
  have hMl : M.length = n := by rw [hI.len]; exact hN.symm
  simp -dsimp only [go_sem]
  refine ⟨fun h1 => ?_, fun h1 => ?_⟩
  · simp at h1
    refine ⟨⟨⟨M, rfl, hMl⟩, hn, by omega, by omega, by omega⟩, by omega, ?_⟩
    refine loop_next (k + 1, rep M (k * 20) (srt ltC (seg M (k * 20) (k * 20 + 20))) (k * 20 + 20)) 1 ⟨ins_next hI (by omega), by simp only; omega⟩ (by simp only; omega) ?_ ?_
    · simp [go_sem]; omega
    · rw [← insL_rep]; rfl
  · simp at h1
    have hB := ins_last hI (by omega) (by omega)
    rw [← hN, ← insL_rep] at hB
    refine ⟨⟨⟨M, rfl, hMl⟩, hn, by omega, by omega⟩, ?_⟩
    refine vc_loop (α := Nat × List Chg) (fun z => [(0, .va (.c1 (.sl 0 n))), (1, iS .i64 n), (2, cmpV), (6, iS .i64 z.1)]) (fun z => chH z.2) (fun z => Blk ltC z.1 L z.2 ∧ 20 ≤ z.1 ∧ z.1 ≤ 2000020) (fun z => n - z.1) (20, insL M (k * 20) n) 1 ⟨hB, by simp, by simp⟩ ?_ rfl ?_
    · simp [go_sem]
    rintro ⟨c, M2⟩ ⟨hB2, hc, hc2⟩
    simp only at hB2 hc hc2
    simp -dsimp only [go_sem]
    refine ⟨fun h2 => ?_, fun h2 => ?_⟩
    · simp at h2
      refine ⟨by omega, vc_loop (α := Nat × List Chg) (fun z => [(0, .va (.c1 (.sl 0 n))), (1, iS .i64 n), (2, cmpV), (6, iS .i64 c), (7, iS .i64 (z.1 * (2 * c) : Nat)), (8, iS .i64 (z.1 * (2 * c) + 2 * c : Nat))]) (fun z => chH z.2) (fun z => Two ltC c L z.2 z.1 ∧ z.1 * (2 * c) ≤ n) (fun z => n + 2 * c - z.1 * (2 * c)) (0, M2) 1 ⟨two_zero hB2, by simp⟩ ?_ rfl ?_⟩
      · simp [go_sem]
      rintro ⟨k2, M3⟩ ⟨hT, hk2⟩
      simp only at hT hk2
      have hMl3 : M3.length = n := by rw [hT.len]; exact hN.symm
      obtain ⟨hh1, hh2⟩ := two_half hT
      obtain ⟨a, ha⟩ : ∃ a, a = k2 * (2 * c) := ⟨_, rfl⟩
      have s1 : Srt ltC (seg M3 a (a + c)) := by rw [ha, hh1]; exact srt_srt swo _
      have s2 : Srt ltC (seg M3 (a + c) (a + 2 * c)) := by rw [ha, hh2]; exact srt_srt swo _
      have hx1 : ((a : Nat) : Int).toNat = a := by omega
      have hx2 : ((a : Int) + (c : Int)).toNat = a + c := by omega
      have hx3 : ((a + 2 * c : Nat) : Int).toNat = a + 2 * c := by omega
      rw [← ha] at hk2 ⊢
      simp -dsimp only [go_sem, hx1, hx2, hx3]
      refine ⟨fun h3 => ?_, fun h3 => ?_⟩
      · simp at h3
        have hnx := two_next swo hT (by omega)
        rw [← ha, ← mrgR_rep] at hnx
        refine ⟨by omega, ⟨⟨M3, rfl, hMl3, s1, s2⟩, hn, by omega, by omega, by omega, by omega⟩, by omega, by omega, ?_⟩
        have hsm : (k2 + 1) * (2 * c) = a + 2 * c := by rw [ha]; exact Nat.succ_mul _ _
        refine loop_next (k2 + 1, mrgR M3 a (a + c) (a + 2 * c)) 1 ⟨hnx, by simp only [hsm]; omega⟩ (by simp only [hsm, ← ha]; omega) ?_ rfl
        simp [go_sem, hsm]
      · simp at h3
        refine ⟨by omega, fun h4 => ?_, fun h4 => ?_⟩
        · simp at h4
          have hl := two_last swo hT (by omega) (by omega)
          rw [← ha, ← hN, ← mrgR_rep] at hl
          refine ⟨⟨⟨M3, rfl, hMl3, s1, ?_⟩, hn, by omega, by omega, by omega, by omega⟩, by omega, ?_⟩
          · have := s2
            rw [seg_end (r := n) (by omega) (by omega)] at this
            exact this
          · refine loop_next (2 * c, mrgR M3 a (a + c) n) 1 ⟨hl, by simp only; omega, by simp only; omega⟩ (by simp only; omega) ?_ rfl
            simp [go_sem]; omega
        · simp at h4
          have hl := two_over hT (by omega)
          refine ⟨by omega, loop_next (2 * c, M3) 1 ⟨hl, by simp only; omega, by simp only; omega⟩ (by simp only; omega) ?_ rfl⟩
          simp [go_sem]; omega
    · simp at h2
      rw [blk_all hB2 (by omega)]
      exact .done hK
def ssfSp : W.Spec := fun av H K =>
  match av, H with
  | [.va (.c1 (.sl 0 n)), .va (.c1 (.fn f []))], [.row rs 44 3] =>
    ((∃ L : List Chg, rs = L.map chC ∧ L.length = n) ∧ n ≤ 1000000 ∧ f = 34) ∧ K (.tu []) [.row ((srt ltC (rs.map C.chg)).map chC) 44 3]
  | _, _ => False
theorem ssfSp_open {av : List S} {H : Hp} {K : S → Hp → Prop} (h : ssfSp av H K) : ∃ L : List Chg, av = [.va (.c1 (.sl 0 L.length)), cmpV] ∧ H = chH L ∧ L.length ≤ 1000000 ∧ K (.tu []) (chH (srt ltC L)) := by
  unfold ssfSp at h
  split at h
  · obtain ⟨⟨⟨L, rfl, rfl⟩, h1, rfl⟩, hK⟩ := h
    rw [chg_map] at hK
    exact ⟨L, rfl, rfl, h1, hK⟩
  · exact h.elim
attribute [go_sem ↓] ssfSp
theorem mSortStable : Meets Try.prog 33 ssfSp := by
  refine meets_fn Try.func33 ok33 2 (by rw [Try.ntmps33]; decide) (meetsAll_s mStable (meetsAll_nil _)) (fun av H K h => by obtain ⟨_, rfl, _⟩ := ssfSp_open h; rfl) ?_
  intro av H K h
  obtain ⟨L, rfl, rfl, hn, hK⟩ := ssfSp_open h
  simp -dsimp only [go_sem, pc33, rs33]
  exact ⟨⟨⟨L, rfl, rfl⟩, hn⟩, .done hK⟩
/-- Changes, put in order. -/
def sorSp : W.Spec := fun av H K =>
  match av, H with
  | [.va (.c1 (.sl 0 n))], [.row rs 44 3] => ((∃ L : List Chg, rs = L.map chC ∧ L.length = n) ∧ n ≤ 1000000) ∧ K (.tu []) [.row ((srt ltC (rs.map C.chg)).map chC) 44 3]
  | _, _ => False
theorem sorSp_open {av : List S} {H : Hp} {K : S → Hp → Prop} (h : sorSp av H K) : ∃ L : List Chg, av = [.va (.c1 (.sl 0 L.length))] ∧ H = chH L ∧ L.length ≤ 1000000 ∧ K (.tu []) (chH (srt ltC L)) := by
  unfold sorSp at h
  split at h
  · obtain ⟨⟨⟨L, rfl, rfl⟩, h1⟩, hK⟩ := h
    rw [chg_map] at hK
    exact ⟨L, rfl, rfl, h1, hK⟩
  · exact h.elim
attribute [go_sem ↓] sorSp
theorem mSorted : Meets Try.prog 24 sorSp := by
  refine meets_fn Try.func24 ok24 1 (by rw [Try.ntmps24]; decide) (meetsAll_s mSortStable (meetsAll_nil _)) (fun av H K h => by obtain ⟨_, rfl, _⟩ := sorSp_open h; rfl) ?_
  intro av H K h
  obtain ⟨L, rfl, rfl, hn, hK⟩ := sorSp_open h
  simp -dsimp only [go_sem, pc24, rs24]
  exact ⟨⟨⟨L, rfl, rfl⟩, hn⟩, .done hK⟩
end Go.Proofs.Ytngmjggconefcaa
