/- play: a call on the set and on the reference's, side by side. -/
import Derived.Test.YtngmjggconefcaaLivY
import Derived.Test.YtngmjggconefcaaPf
namespace Go.Proofs.Ytngmjggconefcaa
open Go.W
structure Cl where
  k : Int
  id : Int
  len : Int
  at' : Int
abbrev clR (x : Cl) : List C := [.vl (.int .i64 x.k), .vl (.int .i64 x.id), .vl (.int .i64 x.len), .vl (.int .i64 x.at')]
/-- What a call does. -/
def stp (s : Ls) (k id len a : Int) : Ls := bif k == 0 then addL s id len a else bif k == 1 then rmR s id else bif k == 2 then asrL s id a else chkL s a
/-- Which blocks it leaves. -/
def stk (s : Ls) (k id a : Int) : Int := bif k == 0 then 0 else bif k == 1 then (bif decide (findL s.all id 0 < 0) then 0 else 1) else bif k == 2 then 0 else bif chkB s a then 0 else 2
abbrev lsH1 (s : Ls) : Hp := [.cells [.vl (.int .i64 s.now), .sl 3 s.all.length, .sl 2 s.pend.length] 59, .dead, .row (s.pend.map chC) 44 3, .row (s.all.map lzC) 63 4]
abbrev lsH2 (s : Ls) : Hp := [.cells [.vl (.int .i64 s.now), .sl 1 s.all.length, .sl 3 s.pend.length] 59, .row (s.all.map lzC) 63 4, .dead, .row (s.pend.map chC) 44 3]
def isPl (now now2 : Int) (ra rp ra2 rp2 : List (List C)) (na np : Nat) : Prop := ∃ s : Ls, now = s.now ∧ now2 = s.now ∧ ra = s.all.map lzC ∧ ra2 = s.all.map lzC ∧ rp = s.pend.map chC ∧ rp2 = s.pend.map chC ∧ na = s.all.length ∧ np = s.pend.length ∧ s.fit ∧ (s.all.map (·.id)).Nodup
theorem isPl_mk {s : Ls} (h : s.fit) (hn : (s.all.map (·.id)).Nodup) : isPl s.now s.now (s.all.map lzC) (s.pend.map chC) (s.all.map lzC) (s.pend.map chC) s.all.length s.pend.length := ⟨s, rfl, rfl, rfl, rfl, rfl, rfl, rfl, rfl, h, hn⟩
def plySp : W.Spec := fun av H K =>
  match av, H with
  | [.va (.c1 (.pt 0 0)), .va (.gs [.vl (.int .i64 now2), .fz ra2, .fz rp2]), .va (.gs [.vl (.int .i64 k), .vl (.int .i64 id), .vl (.int .i64 len), .vl (.int .i64 a)])], [.cells [.vl (.int .i64 now), .sl 1 na, .sl 2 np] 59, .row ra 63 4, .row rp 44 3] =>
    isPl now now2 ra rp ra2 rp2 na np ∧ (stk ⟨now, ra.map C.lz, rp.map C.chg⟩ k id a = 0 → K (.tu [lsG (stp ⟨now, ra.map C.lz, rp.map C.chg⟩ k id len a), bA true]) (lsH (stp ⟨now, ra.map C.lz, rp.map C.chg⟩ k id len a))) ∧
      (stk ⟨now, ra.map C.lz, rp.map C.chg⟩ k id a = 1 → K (.tu [lsG (stp ⟨now, ra.map C.lz, rp.map C.chg⟩ k id len a), bA true]) (lsH1 (stp ⟨now, ra.map C.lz, rp.map C.chg⟩ k id len a))) ∧
      (stk ⟨now, ra.map C.lz, rp.map C.chg⟩ k id a = 2 → K (.tu [lsG (stp ⟨now, ra.map C.lz, rp.map C.chg⟩ k id len a), bA true]) (lsH2 (stp ⟨now, ra.map C.lz, rp.map C.chg⟩ k id len a)))
  | _, _ => False
theorem plySp_open {av : List S} {H : Hp} {K : S → Hp → Prop} (h : plySp av H K) : ∃ (s : Ls) (k id len a : Int), av = [.va (.c1 (.pt 0 0)), .va (lsG s), .va (.gs (clR ⟨k, id, len, a⟩))] ∧ H = lsH s ∧ s.fit ∧ (s.all.map (·.id)).Nodup ∧
    (stk s k id a = 0 → K (.tu [lsG (stp s k id len a), bA true]) (lsH (stp s k id len a))) ∧ (stk s k id a = 1 → K (.tu [lsG (stp s k id len a), bA true]) (lsH1 (stp s k id len a))) ∧ (stk s k id a = 2 → K (.tu [lsG (stp s k id len a), bA true]) (lsH2 (stp s k id len a))) := by
  unfold plySp at h
  split at h
  · rename_i now2 ra2 rp2 k id len a now na np ra rp
    obtain ⟨⟨s, rfl, rfl, rfl, rfl, rfl, rfl, rfl, rfl, hs, hn⟩, hK⟩ := h
    rw [lz_map, chg_map] at hK
    exact ⟨s, k, id, len, a, rfl, rfl, hs, hn, hK⟩
  · exact h.elim
attribute [go_sem ↓] plySp
/-- What is taken out by its place is what is kept by its name. -/
theorem del_keep : ∀ (l : List Lz) (id : Int) (i : Nat), (l.map (·.id)).Nodup → 0 ≤ findL l id i → l.eraseIdx ((findL l id i).toNat - i) = keep id l
  | [], _, _, _, h => by simp [findL] at h
  | x :: l, id, i, hn, h => by
    rw [List.map_cons, List.nodup_cons] at hn
    cases hx : x.id == id with
    | true =>
      have e : findL (x :: l) id i = i := by simp [findL, hx]
      have hid : x.id = id := by simpa using hx
      rw [e, Int.toNat_natCast, Nat.sub_self, List.eraseIdx_cons_zero]
      unfold keep
      rw [List.filter_cons, if_neg (by simp [hid])]
      refine (List.filter_eq_self.2 fun y hy => ?_).symm
      have : y.id ≠ id := fun e => hn.1 (by rw [hid, ← e]; exact List.mem_map.2 ⟨y, hy, rfl⟩)
      simpa using this
    | false =>
      have e : findL (x :: l) id i = findL l id (i + 1) := by simp [findL, hx]
      rw [e] at h ⊢
      obtain ⟨h1, _⟩ := findL_get l id (i + 1) h
      have : (findL l id (i + 1)).toNat - i = ((findL l id (i + 1)).toNat - (i + 1)) + 1 := by omega
      rw [this, List.eraseIdx_cons_succ, del_keep l id (i + 1) hn.2 h]
      unfold keep
      rw [List.filter_cons, if_pos (by simpa using hx)]
theorem eqL_self (l : List Chg) : eqL l l = true := by unfold eqL; simp
theorem tu_K {K : S → Hp → Prop} {x y : S} {H : Hp} (h : K x H) (e : y = x) : K y H := by rw [e]; exact h
set_option maxHeartbeats 4000000 in
set_option maxRecDepth 100000 in
theorem mPlay : Meets Try.prog 17 plySp := by
  refine meets_fn Try.func17 ok17 3 (by rw [Try.ntmps17]; decide) (meetsAll_s mAddR (meetsAll_s mRemoveR (meetsAll_s mAssertR (meetsAll_s mCheckR (meetsAll_s mAdd (meetsAll_s mRemove (meetsAll_s mAssert (meetsAll_s mCheck (meetsAll_s mPlain (meetsAll_f mSame (meetsAll_nil _))))))))))) (fun av H K h => by obtain ⟨_, _, _, _, _, rfl, _⟩ := plySp_open h; rfl) ?_
  intro av H K h
  obtain ⟨s, k, id, len, a, rfl, rfl, hs, hn, hK0, hK1, hK2⟩ := plySp_open h
  have gF := fit_mk hs
  cases hk0 : k == 0 with
  | true =>
    obtain ⟨s', hs'⟩ : ∃ t, t = addL s id len a := ⟨_, rfl⟩
    have hK := hK0 (by unfold stk; rw [hk0]; rfl)
    have e : stp s k id len a = s' := by unfold stp; rw [hk0, hs']; rfl
    rw [e] at hK
    simp -dsimp only [go_sem, pc17, rs17, hk0, gF, ← hs', beq_self_eq_true]
    exact .sel [0, 1, 2] (by decide) (by simp) rfl (.done (by simpa [go_sem] using hK))
  | false =>
    cases hk1 : k == 1 with
    | true =>
      cases h1 : decide (findL s.all id 0 < 0) with
      | true =>
        have hK := hK0 (by unfold stk; rw [hk0, hk1, h1]; rfl)
        have e1 : rmR s id = s := by unfold rmR; rw [h1]; rfl
        have e2 : rmE s id = 6 := by unfold rmE; rw [h1]; rfl
        have e : stp s k id len a = s := by unfold stp; rw [hk0, hk1]; exact e1
        rw [e] at hK
        simp -dsimp only [go_sem, pc17, rs17, hk0, hk1, h1, gF, e1, e2, beq_self_eq_true]
        exact .sel [0, 1, 2] (by decide) (by simp) rfl (.done (by simpa [go_sem] using hK))
      | false =>
        have hK := hK1 (by unfold stk; rw [hk0, hk1, h1]; rfl)
        have e1 : rmR s id = ⟨s.now, keep id s.all, s.pend⟩ := by unfold rmR; rw [h1]; rfl
        have e2 : rmE s id = 0 := by unfold rmE; rw [h1]; rfl
        have hd := del_keep s.all id 0 hn (by simp at h1; exact h1)
        rw [Nat.sub_zero] at hd
        have hl : s.all.length - 1 = (keep id s.all).length := by
          rw [← hd]
          obtain ⟨_, y, hy, _⟩ := findL_get s.all id 0 (by simp at h1; exact h1)
          rw [Nat.sub_zero] at hy
          exact (List.length_eraseIdx_of_lt (List.getElem?_eq_some_iff.1 hy).1).symm
        have e : stp s k id len a = ⟨s.now, keep id s.all, s.pend⟩ := by unfold stp; rw [hk0, hk1]; exact e1
        rw [e] at hK
        simp -dsimp only [go_sem, pc17, rs17, hk0, hk1, h1, gF, e1, e2, hd, hl, beq_self_eq_true]
        exact .sel [0, 1, 2, 7] (by decide) (by simp) rfl (.done (by simpa [go_sem] using hK))
    | false =>
      cases hk2 : k == 2 with
      | true =>
        obtain ⟨s', hs'⟩ : ∃ t, t = asrL s id a := ⟨_, rfl⟩
        have hK := hK0 (by unfold stk; rw [hk0, hk1, hk2]; rfl)
        have e : stp s k id len a = s' := by unfold stp; rw [hk0, hk1, hk2, hs']; rfl
        rw [e] at hK
        simp -dsimp only [go_sem, pc17, rs17, hk0, hk1, hk2, gF, ← hs', beq_self_eq_true]
        exact .sel [0, 1, 2] (by decide) (by simp) rfl (.done (by simpa [go_sem] using hK))
      | false =>
        cases h1 : chkB s a with
        | true =>
          have hK := hK0 (by unfold stk; rw [hk0, hk1, hk2, h1]; rfl)
          have e1 : chkL s a = s := by unfold chkL; rw [h1]; rfl
          have e2 : chkG s a = [] := by unfold chkG; rw [h1]; rfl
          have e : stp s k id len a = s := by unfold stp; rw [hk0, hk1, hk2]; exact e1
          have y0 : isCh [] := isCh_mk (l := []) (by decide)
          rw [e] at hK
          simp -dsimp only [go_sem, pc17, rs17, hk0, hk1, hk2, h1, gF, e1, e2, y0, eqL_self]
          exact .sel [0, 1, 2] (by decide) (by simp) rfl (.done (by simpa [go_sem] using hK))
        | false =>
          have hK := hK2 (by unfold stk; rw [hk0, hk1, hk2, h1]; rfl)
          obtain ⟨G, hG⟩ : ∃ G, G = srt ltC (s.mv a (a + 1)).pend := ⟨_, rfl⟩
          have e1 : chkL s a = ⟨a, (s.mv a (a + 1)).all, []⟩ := by unfold chkL; rw [h1]; rfl
          have e2 : chkG s a = G := by unfold chkG; rw [h1, hG]; rfl
          have e : stp s k id len a = ⟨a, (s.mv a (a + 1)).all, []⟩ := by unfold stp; rw [hk0, hk1, hk2]; exact e1
          have hGl : G.length ≤ 600000 := by rw [hG, srt_len]; have := (mv_ok hs a (a + 1)).pl; omega
          have y0 : isCh (G.map chC) := isCh_mk hGl
          have hml : s.all.length = (s.mv a (a + 1)).all.length := (mv_al' s a (a + 1)).symm
          rw [e] at hK
          simp -dsimp only [go_sem, pc17, rs17, hk0, hk1, hk2, h1, gF, e1, e2, y0, ← hG, eqL_self]
          exact .sel [0, 1, 2, 7] (by decide) (by simp) rfl (.done (by simp only [lsG, lsH2, List.map_nil, List.length_nil] at hK; simpa [go_sem, hml] using hK))
end Go.Proofs.Ytngmjggconefcaa
