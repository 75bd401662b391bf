/- The law of the round trip: its function returns true. -/
import Derived.Test.YtgophdhegdcekaaLexK
import Derived.Test.YtgophdhegdcekaaPi
namespace Go.Proofs.Ytgophdhegdcekaa
open Go.W
def rtPre : List S → Prop := fun xs => match xs with
  | [.va (.c1 (.fz rs))] => ∃ ts : List Tx, rs = ts.map txL ∧ ∀ t ∈ ts, Fit t
  | _ => False
theorem rtPre_open {xs : List S} (h : rtPre xs) : ∃ ts : List Tx, xs = [.va (.c1 (.fz (ts.map txL)))] ∧ ∀ t ∈ ts, Fit t := by
  unfold rtPre at h
  split at h
  · obtain ⟨ts, rfl, h1⟩ := h
    exact ⟨_, rfl, h1⟩
  · exact h.elim
def rtFn : Fun := ⟨rtPre, fun _ => bA true, fun xs _ => trivial⟩
theorem rtFn_len : ∀ xs H K, rtFn.sp xs H K → xs.length = 1 := fun xs H K h => by obtain ⟨ts, rfl, _⟩ := rtPre_open h.1.1; rfl
def cntV (ts : List Tx) (i : Nat) : Nat := ((ts.take i).filter okT).length
theorem cntV_no {ts : List Tx} {i : Nat} {t : Tx} (h : ts[i]? = some t) (ho : okT t = false) : cntV ts (i + 1) = cntV ts i := by
  unfold cntV
  rw [List.take_add_one, h, List.filter_append]
  simp [ho]
theorem cntV_yes {ts : List Tx} {i : Nat} {t : Tx} (h : ts[i]? = some t) (ho : okT t = true) : cntV ts (i + 1) = cntV ts i + 1 := by
  unfold cntV
  rw [List.take_add_one, h, List.filter_append]
  simp [ho]
theorem cntV_get {ts : List Tx} {i : Nat} {t : Tx} (h : ts[i]? = some t) (ho : okT t = true) : (ts.filter okT)[cntV ts i]? = some t := by
  have e : ts = ts.take i ++ t :: ts.drop (i + 1) := by
    have hi := (List.getElem?_eq_some_iff.1 h).1
    have : ts.drop i = t :: ts.drop (i + 1) := by
      rw [List.drop_eq_getElem_cons hi]
      rw [List.getElem?_eq_getElem hi] at h
      rw [Option.some.inj h]
    rw [← this, List.take_append_drop]
  have e2 : ts.filter okT = (ts.take i).filter okT ++ t :: (ts.drop (i + 1)).filter okT := by
    conv => lhs; rw [e]
    rw [List.filter_append, List.filter_cons, if_pos ho]
  rw [e2]
  unfold cntV
  simp
theorem cntV_le (ts : List Tx) (i : Nat) : cntV ts i ≤ i := by
  have := List.length_filter_le okT (ts.take i)
  unfold cntV
  rw [List.length_take] at this
  omega
@[go_sem ↓] theorem tt_and (A B : Prop) : ((true = true → A) ∧ (true = false → B)) = A := by simp
@[go_sem ↓] theorem ff_and (A B : Prop) : ((false = true → A) ∧ (false = false → B)) = B := by simp
set_option maxRecDepth 100000 in
theorem mRound : Meets Try.prog 7 rtFn.sp := by
  refine meets_fn Try.func7 Rt.ok7 1 (by rw [Try.ntmps7]; decide) (meetsAll_f mAwake (meetsAll_f mPrint (meetsAll_f mPrintR (meetsAll_f mValid (meetsAll_s mScan (meetsAll_nil _)))))) rtFn_len ?_
  intro xs H K h
  obtain ⟨⟨hp, rfl⟩, hK⟩ := h
  obtain ⟨ts, rfl, hf⟩ := rtPre_open hp
  have hK' : K (bS true) [] := hK
  have hP : prtVal [.va (.c1 (.fz (ts.map txL)))] = tA (mk (printS ts)) := prtVal_eq ts
  simp -dsimp only [go_sem, Rt.pc7, Rt.rs7, prtFn, hP]
  refine ⟨fun _ => .done hK', fun h60 => ⟨⟨ts, rfl, by simp at h60; omega, hf⟩, ⟨ts, rfl, by simp at h60; omega, hf⟩, fun _ => .done hK', fun hl => ?_⟩⟩
  obtain ⟨ms, hm, hmm⟩ := round_trip ts hf (by simp at hl; omega)
  rw [hm]
  have h60' : ts.length ≤ 60 := by simp at h60; omega
  have hml : ms.length = (ts.filter okT).length + 1 := by have := congrArg List.length hmm; simpa using this
  have hfl := List.length_filter_le okT ts
  refine vc_loop (α := Nat) (fun i => [(0, .va (.c1 (.fz (ts.map txL)))), (4, .va (.c1 (.fz (ms.map tkL)))), (5, iS .i64 0), (7, iS .i64 (cntV ts i)), (8, iS .i64 i)]) (fun _ => []) (fun i => i ≤ ts.length) (fun i => ts.length - i) 0 0 (by omega) ?_ rfl ?_
  · simp [go_sem, SR.toks, SR.err, cntV]
  intro i hi
  have hc := cntV_le ts i
  simp -dsimp only [go_sem, all_map]
  refine ⟨fun h1 => ⟨by simp at h1; omega, fun t ht => ?_⟩, fun h1 => ?_⟩
  · have hft := hf t (List.mem_of_getElem? ht)
    have hlt : i < ts.length := by simp at h1; omega
    refine ⟨by have := hft.len; omega, fun ho => ⟨by omega, loop_next (i + 1) 0 hlt (by omega) ?_ rfl⟩, fun ho => ?_⟩
    · simp [go_sem, cntV_no ht ho]
    · have ho' : okT t = true := by simpa using ho
      have hg := cntV_get ht ho'
      have hy := cntV_yes ht ho'
      have hkf := (List.getElem?_eq_some_iff.1 hg).1
      have hmk : (ms.map trk)[cntV ts i]? = some (tri t) := by
        rw [hmm, List.getElem?_append_left (by simpa using hkf), List.getElem?_map, hg]; rfl
      rw [List.getElem?_map, Option.map_eq_some_iff] at hmk
      obtain ⟨m, hm1, hm2⟩ := hmk
      simp only [trk, tri, Prod.mk.injEq] at hm2
      obtain ⟨mk', mx, mn, ma⟩ := m
      obtain ⟨rfl, rfl, rfl⟩ := hm2
      have hge : decide ((ms.length : Int) ≤ (cntV ts i : Int)) = false := by simp; omega
      refine vc_tail (up := [(0, .va (.c1 (.fz (ts.map txL)))), (4, .va (.c1 (.fz (ms.map tkL)))), (5, iS .i64 0), (7, iS .i64 (cntV ts i)), (8, iS .i64 i)]) 0 ?_ ?_ rfl
      · have hqm : ∀ P : List C → Prop, (∀ r, (ms.map tkL)[((cntV ts i : Nat) : Int).toNat]? = some r → P r) = P (tkL ⟨t.k, t.x, t.n, ma⟩) := fun P => by
          rw [Int.toNat_natCast, List.getElem?_map, hm1]; simp
        have hqt : ∀ P : List C → Prop, (∀ r, (ts.map txL)[((i : Nat) : Int).toNat]? = some r → P r) = P (txL t) := fun P => by
          rw [Int.toNat_natCast, List.getElem?_map, ht]; simp
        simp -dsimp only [go_sem, Rt.pc7_14, hge, ↓hqm, ↓hqt, bne, beq_self_eq_true]
        have hkm : cntV ts i < ms.length := by omega
        and_intros
        all_goals first
          | omega
          | skip
        refine loop_next (i + 1) 0 hlt (by omega) ?_ rfl
        simp [go_sem, hy]
      · simp [go_sem]
  · obtain rfl : i = ts.length := by simp at h1; omega
    have hcl : cntV ts ts.length = (ts.filter okT).length := by unfold cntV; rw [List.take_length]
    have hmk : (ms.map trk)[cntV ts ts.length]? = some (0, [], 0) := by
      rw [hmm, hcl, List.getElem?_append_right (by simp)]; simp
    rw [List.getElem?_map, Option.map_eq_some_iff] at hmk
    obtain ⟨m, hm1, hm2⟩ := hmk
    obtain ⟨mk', mx, mn, ma⟩ := m
    simp only [trk, Prod.mk.injEq] at hm2
    obtain ⟨rfl, rfl, rfl⟩ := hm2
    have hqm : ∀ P : List C → Prop, (∀ r, (ms.map tkL)[((cntV ts ts.length : Nat) : Int).toNat]? = some r → P r) = P (tkL ⟨0, [], 0, ma⟩) := fun P => by
      rw [Int.toNat_natCast, List.getElem?_map, hm1]; simp
    have hel : ((ms.length : Int) == (cntV ts ts.length : Int) + 1) = true := by simp; omega
    refine vc_tail (up := [(0, .va (.c1 (.fz (ts.map txL)))), (4, .va (.c1 (.fz (ms.map tkL)))), (5, iS .i64 0), (7, iS .i64 (cntV ts ts.length)), (8, iS .i64 ts.length)]) 0 ?_ ?_ rfl
    · simp -dsimp only [go_sem, Rt.pc7_17, hel, ↓hqm, beq_self_eq_true]
      exact ⟨by omega, by omega, .done hK'⟩
    · simp [go_sem]
end Go.Proofs.Ytgophdhegdcekaa
