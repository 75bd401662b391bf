/- The W library, part 20 (between 13 and 14): a list of parts that is made before loads that the text has ahead of it. -/
import Derived.Test.YtngmjggconefcaaW13
namespace Go.W
section
variable {P : Program} {ops : Array Oper} {C : World → Prop}

/-- An operation that yields one value and changes nothing, in every world of the class. -/
def sOp (P : Program) (ops : Array Oper) (C : World → Prop) (i : Nat) (K : Act → Prop) (a : Act) : Prop :=
  match ops[i]? with
  | none => K a
  | some o => if Region.wanted o (yielded ops a.tmps) then ∃ v, (∀ w, C w → (execOp a.eval o).run P w = .ok (.value v) w) ∧ K (a.put o.dst v) else K (a.put o.dst undef)
def SYields (P : Program) (ops : Array Oper) (C : World → Prop) (o : Oper) (v : Value) (a : Act) : Prop :=
  (Region.wanted o (yielded ops a.tmps) = true ∧ ∀ w, C w → (execOp a.eval o).run P w = .ok (.value v) w) ∨
  (Region.wanted o (yielded ops a.tmps) = false ∧ v = undef)
theorem SYields.sOp {i : Nat} {o : Oper} {v : Value} {a : Act} (hi : ops[i]? = some o) (hy : SYields P ops C o v a) {K : Act → Prop} (h : K (a.put o.dst v)) : sOp P ops C i K a := by
  unfold W.sOp
  simp only [hi]
  rcases hy with ⟨hw, hv⟩ | ⟨hw, rfl⟩
  · simp only [hw, if_true]; exact ⟨v, hv, h⟩
  · simp only [hw, Bool.false_eq_true, if_false]; exact h
theorem sYields_of {i : Nat} {o : Oper} {a : Act} {K : Act → Prop} (hi : ops[i]? = some o) (h : sOp P ops C i K a) : ∃ v, SYields P ops C o v a ∧ K (a.put o.dst v) := by
  unfold sOp at h
  simp only [hi] at h
  by_cases hw : Region.wanted o (yielded ops a.tmps) = true
  · simp only [hw, if_true] at h
    obtain ⟨v, h1, h2⟩ := h
    exact ⟨v, .inl ⟨hw, h1⟩, h2⟩
  · simp only [hw] at h
    exact ⟨undef, .inr ⟨by simpa using hw, rfl⟩, h⟩
theorem SYields.of_same {o : Oper} {v : Value} {a a' : Act} (hy : SYields P ops C o v a) (he : execOp a'.eval o = execOp a.eval o)
    (hw : Region.wanted o (yielded ops a'.tmps) = Region.wanted o (yielded ops a.tmps)) : SYields P ops C o v a' := by
  unfold SYields at *
  rw [he, hw]
  exact hy
theorem sOp_mono {i : Nat} {a : Act} {K K' : Act → Prop} (h : ∀ a, K a → K' a) (hh : sOp P ops C i K a) : sOp P ops C i K' a := by
  unfold sOp at *
  split
  · exact h _ (by simpa [*] using hh)
  · rename_i o ho
    simp only [ho] at hh
    split
    · rename_i hw; simp only [hw, if_true] at hh; obtain ⟨v, h1, h2⟩ := hh; exact ⟨v, h1, h _ h2⟩
    · rename_i hw; simp only [hw] at hh; exact h _ hh
theorem wpOp_of_sOp {i : Nat} {a : Act} {K : Act → Prop} {K' : Act → World → Prop} {Q' : Exit → Act → World → Prop} {w : World} (hC : C w) (h : ∀ a, K a → K' a w) (hh : sOp P ops C i K a) : wpOp P ops Q' i K' a w := by
  unfold sOp at hh
  unfold wpOp
  split
  · rename_i ho; simp only [ho] at hh; exact h _ hh
  · rename_i o ho
    simp only [ho] at hh
    split
    · rename_i hw
      simp only [hw, if_true] at hh
      obtain ⟨v, h1, h2⟩ := hh
      refine .inl ?_
      unfold Oper.wp
      rw [h1 w hC]
      exact h _ h2
    · rename_i hw; simp only [hw] at hh; exact h _ hh
/-- 'oj' apart from 'oi': whether 'oi''s value is already there makes no difference. -/
theorem sOp_put {j : Nat} {oi oj : Oper} {v : Value} (hj : ops[j]? = some oj) (hap : oi.apart ops oj = true)
    (hsi : ∀ cs b, oi.op ≠ .select cs b) (hsj : ∀ cs b, oj.op ≠ .select cs b) {K : Act → Prop} {a : Act}
    (hy : SYields P ops C oi v a) (h : sOp P ops C j K (a.put oi.dst v)) :
    sOp P ops C j (fun a' => SYields P ops C oi v a' ∧ K (a'.put oi.dst v)) a := by
  obtain ⟨h1, h2, h3⟩ := Oper.apart_spec hap
  have keep : ∀ (a : Act), SYields P ops C oi v a → ∀ u, SYields P ops C oi v (a.put oj.dst u) := fun a hy u =>
    hy.of_same (execOp_put oi hsi a oj.dst u h3) (wanted_put oi a oj.dst u h3)
  unfold sOp at *
  simp only [hj] at *
  rw [wanted_put oj a oi.dst v h1] at h
  split
  · rename_i hw
    simp only [hw, if_true] at h
    obtain ⟨u, hu, hn⟩ := h
    refine ⟨u, fun w hw' => ?_, keep a hy u, by rw [← Act.put_comm a v u h2]; exact hn⟩
    have := hu w hw'
    rwa [execOp_put oj hsj a oi.dst v h1] at this
  · rename_i hw
    simp only [hw] at h
    exact ⟨keep a hy _, by rw [← Act.put_comm a v undef h2]; exact h⟩
/-- The other way round: 'oi''s value is put first. -/
theorem sOp_over {j : Nat} {oi oj : Oper} {v : Value} (hj : ops[j]? = some oj) (hap : oi.apart ops oj = true) (hsj : ∀ cs b, oj.op ≠ .select cs b) {K : Act → Prop} {a : Act}
    (h : sOp P ops C j K a) : sOp P ops C j (fun a' => ∃ a0, a' = a0.put oi.dst v ∧ K a0 ∧ ∃ u, a0 = a.put oj.dst u) (a.put oi.dst v) := by
  obtain ⟨h1, h2, h3⟩ := Oper.apart_spec hap
  unfold sOp at *
  simp only [hj] at *
  rw [wanted_put oj a oi.dst v h1]
  split
  · rename_i hw
    simp only [hw, if_true] at h
    obtain ⟨u, hu, hn⟩ := h
    refine ⟨u, fun w hw' => ?_, _, Act.put_comm a v u h2, hn, u, rfl⟩
    rw [execOp_put oj hsj a oi.dst v h1]
    exact hu w hw'
  · rename_i hw
    simp only [hw] at h
    exact ⟨_, Act.put_comm a v undef h2, h, undef, rfl⟩

/-- Whatever order the head comes up in; what stands behind it is not asked. -/
def headS (P : Program) (ops : Array Oper) (C : World → Prop) (n : Nat) (L : Array Bool → Act → Prop) : Nat → Array Bool → Act → Prop
  | 0, l, a => L l a
  | f + 1, l, a => (∃ i ∈ Region.ready .any ops l, i < n) ∧ ∀ i ∈ Region.ready .any ops l, i < n → sOp P ops C i (headS P ops C n L f (l.setIfInBounds i true)) a
theorem headS_first {n i : Nat} {oi : Oper} {v : Value} {L : Array Bool → Act → Prop} (hi : ops[i]? = some oi) (hsel : ∀ (j : Nat) (o : Oper) cs b, ops[j]? = some o → o.op ≠ .select cs b)
    (hin : i < n) (hL : ∀ l a, L l a → ∀ j ∈ Region.ready .any ops l, n ≤ j) :
    ∀ (f : Nat) (l : Array Bool) (a : Act),
      (∀ j oj, ops[j]? = some oj → j ≠ i → l.getD j true = false → (∀ e ∈ oj.after, Region.binds .any e = true → e.on ≠ i) → oi.apart ops oj = true) →
      i ∈ Region.ready .any ops l → SYields P ops C oi v a → headS P ops C n L f (l.setIfInBounds i true) (a.put oi.dst v) → headS P ops C n L (f + 1) l a := by
  intro f
  induction f with
  | zero =>
    intro l a _ hr hy H
    refine ⟨⟨i, hr, hin⟩, fun j hj hjn => ?_⟩
    by_cases hji : j = i
    · subst hji; exact hy.sOp hi H
    · have := hL _ _ H j (ready_mono hj hji); omega
  | succ f ih =>
    intro l a hfree hr hy H
    have hun := (mem_ready.1 hr).1
    refine ⟨⟨i, hr, hin⟩, fun j hj hjn => ?_⟩
    by_cases hji : j = i
    · subst hji; exact hy.sOp hi H
    · obtain ⟨hjun, oj, hoj, hall⟩ := mem_ready.1 hj
      have hno : ∀ e ∈ oj.after, Region.binds .any e = true → e.on ≠ i := fun e he hb heq => by
        have := hall e he hb
        rw [heq, getD_both hun] at this; cases this
      have hnext := sOp_put hoj (hfree j oj hoj hji hjun hno) (fun cs b => hsel i oi cs b hi) (fun cs b => hsel j oj cs b hoj) hy (H.2 j (ready_mono hj hji) hjn)
      refine sOp_mono (fun a' h3 => ih (l.setIfInBounds j true) a' (fun k ok hk hki hku hkn => hfree k ok hk hki ?_ hkn) (ready_mono hr (Ne.symm hji)) h3.1 ?_) hnext
      · by_cases hjk : j = k
        · subst hjk; exact hjun
        · rwa [getD_set_ne true hjk] at hku
      · rw [Array.setIfInBounds_comm _ _ hji]; exact h3.2
def wpS (P : Program) (ops : Array Oper) (C : World → Prop) (L : Act → Prop) : List Nat → Act → Prop
  | [], a => L a
  | i :: is, a => sOp P ops C i (wpS P ops C L is) a
theorem headS_lex {n : Nat} {Lq : Act → Prop} (hsel : Region.noSelect ops = true) (hn : n < ops.size) :
    ∀ (is : List Nat) (l : Array Bool) (a : Act), lexL ops n is l = true → wpS P ops C Lq is a →
      headS P ops C n (fun l' a' => Region.seqB .any ops (ops.size - n) n l' = true ∧ Lq a') is.length l a
  | [], l, a, hB, h => ⟨hB, h⟩
  | k :: is, l, a, hB, h => by
    simp only [lexL, Bool.and_eq_true, decide_eq_true_eq] at hB
    obtain ⟨⟨⟨hkn, hr⟩, hfr⟩, hB'⟩ := hB
    have hr' : k ∈ Region.ready .any ops l := by simpa using hr
    have h0 : ops[k]? = some ops[k] := Array.getElem?_eq_getElem (by omega)
    obtain ⟨v, hy, hK⟩ := sYields_of h0 h
    exact headS_first h0 (Region.noSelect_spec hsel) hkn (fun l' a' hL => seqB_ready hL.1) is.length l a (Region.free_spec h0 hfr) hr' hy
      (headS_lex hsel hn is _ _ hB' hK)
/-- Along some road the head comes to its end, and operation n, which may come up now, then looks at the same. -/
theorem headS_end {n : Nat} {on : Oper} {L : Array Bool → Act → Prop} (hsel : ∀ (j : Nat) (o : Oper) cs b, ops[j]? = some o → o.op ≠ .select cs b) (hon : ops[n]? = some on)
    (hap : ∀ j oj, ops[j]? = some oj → j < n → (∀ e ∈ on.after, Region.binds .any e = true → e.on ≠ j) → on.apart ops oj = true) :
    ∀ (f : Nat) (l : Array Bool) (a : Act), n ∈ Region.ready .any ops l → headS P ops C n L f l a → ∃ l' a', L l' a' ∧ execOp a'.eval on = execOp a.eval on
  | 0, l, a, _, h => ⟨l, a, h, rfl⟩
  | f + 1, l, a, hr, ⟨⟨i, hi, hin⟩, h⟩ => by
    obtain ⟨hun, oi, hoi, _⟩ := mem_ready.1 hi
    obtain ⟨_, on', hon', hall⟩ := mem_ready.1 hr
    cases hon.symm.trans hon'
    have hno : ∀ e ∈ on.after, Region.binds .any e = true → e.on ≠ i := fun e he hb heq => by
      have := hall e he hb
      rw [heq, getD_both hun] at this; cases this
    obtain ⟨_, _, h3⟩ := Oper.apart_spec (hap i oi hoi hin hno)
    obtain ⟨v, _, hK⟩ := sYields_of hoi (h i hi hin)
    obtain ⟨l', a', h4, h5⟩ := headS_end hsel hon hap f _ _ (ready_mono hr (by omega)) hK
    exact ⟨l', a', h4, h5.trans (execOp_put on (fun cs b => hsel n on cs b hon) a oi.dst v h3)⟩
theorem early2 {n g : Nat} {on : Oper} {L : Array Bool → Act → Prop} {Q' : Exit → Act → World → Prop} {v : Value} {w1 : World} {S0 : Sem Next} (hsel : ∀ (j : Nat) (o : Oper) cs b, ops[j]? = some o → o.op ≠ .select cs b) (hon : ops[n]? = some on)
    (hap : ∀ j oj, ops[j]? = some oj → j < n → (∀ e ∈ on.after, Region.binds .any e = true → e.on ≠ j) → on.apart ops oj = true)
    (hnw : ∀ j oj, ops[j]? = some oj → j < n → ∀ e ∈ oj.after, Region.binds .any e = true → e.on ≠ n)
    (hs : sinkL ops (n + 1) [] = true) (hc : Region.chainB .any ops (n + 1) = true) (hn : n + 1 < ops.size) (hC1 : C w1)
    (hL1 : ∀ l a, L l a → execOp a.eval on = S0 → wpAny P .any ops Q' g (l.setIfInBounds n true) (a.put on.dst v) w1) :
    ∀ (f : Nat) (l : Array Bool) (a : Act), HeadInv .any ops (n + 1) (l.setIfInBounds n true) → n ∈ Region.ready .any ops l → headS P ops C n L f l a → execOp a.eval on = S0 → wpAny P .any ops Q' (f + g) (l.setIfInBounds n true) (a.put on.dst v) w1
  | 0, l, a, _, _, h, he => by rw [Nat.zero_add]; exact hL1 l a h he
  | f + 1, l, a, inv, hr, ⟨⟨i, hi, hin⟩, h⟩, he => by
    rw [show f + 1 + g = (f + g) + 1 by omega]
    have hi' := ready_mono (i := n) hi (by omega)
    refine ⟨fun h0 => (by rw [h0] at hi'; cases hi'), fun j hj => ?_⟩
    obtain ⟨hjun, oj, hoj, hall⟩ := mem_ready.1 hj
    rcases Nat.lt_trichotomy j n with hjn | hjn | hjn
    · have hjun' : l.getD j true = false := by rwa [getD_set_ne true (by omega)] at hjun
      have hjl : j ∈ Region.ready .any ops l := mem_ready.2 ⟨hjun', oj, hoj, fun e he' hb => by
        have := hall e he' hb
        rwa [getD_set_ne false (Ne.symm (hnw j oj hoj hjn e he' hb))] at this⟩
      obtain ⟨_, on', hon', halln⟩ := mem_ready.1 hr
      cases hon.symm.trans hon'
      have hno : ∀ e ∈ on.after, Region.binds .any e = true → e.on ≠ j := fun e he' hb heq => by
        have := halln e he' hb
        rw [heq, getD_both hjun'] at this; cases this
      have hap' := hap j oj hoj hjn hno
      obtain ⟨_, _, h3⟩ := Oper.apart_spec hap'
      refine wpOp_of_sOp hC1 ?_ (sOp_over hoj hap' (fun cs b => hsel j oj cs b hoj) (h j hjl hjn))
      rintro a' ⟨a0, rfl, h4, u, rfl⟩
      have hcm : (l.setIfInBounds n true).setIfInBounds j true = (l.setIfInBounds j true).setIfInBounds n true := Array.setIfInBounds_comm _ _ (by omega)
      rw [hcm]
      refine early2 hsel hon hap hnw hs hc hn hC1 hL1 f _ _ ?_ (ready_mono hr (by omega)) h4 ((execOp_put on (fun cs b => hsel n on cs b hon) a oj.dst u h3).trans he)
      rw [← hcm]
      exact inv.set hj (by omega)
    · subst hjn
      exfalso
      rcases Nat.lt_or_ge j l.size with h' | h' <;> simp [h'] at hjun
    · exact absurd hj (late_wait hs hc hn inv (fun k hk => by cases hk) _ i (Nat.le_refl _) (by omega) (mem_ready.1 hi').1 j hjn)
theorem early1 {n g : Nat} {on : Oper} {L : Array Bool → Act → Prop} {Q' : Exit → Act → World → Prop} (hQ : ∀ c a w, ¬ Q' (.panic c) a w) (hsel : ∀ (j : Nat) (o : Oper) cs b, ops[j]? = some o → o.op ≠ .select cs b) (hon : ops[n]? = some on) (hgd : on.guard = none)
    (hap : ∀ j oj, ops[j]? = some oj → j < n → (∀ e ∈ on.after, Region.binds .any e = true → e.on ≠ j) → on.apart ops oj = true)
    (hnw : ∀ j oj, ops[j]? = some oj → j < n → ∀ e ∈ oj.after, Region.binds .any e = true → e.on ≠ n)
    (hs : sinkL ops (n + 1) [] = true) (hc0 : Region.chainB .any ops n = true) (hc : Region.chainB .any ops (n + 1) = true) (hn : n + 1 < ops.size)
    (hgrow : ∀ (a : Act) w r w1, C w → (execOp a.eval on).run P w = .ok r w1 → (∃ v, r = .value v) ∧ C w1)
    (hL0 : ∀ l a w, C w → L l a → wpAny P .any ops Q' (g + 1) l a w)
    (hL2 : ∀ l a w, C w → L l a → on.wp P a w (fun a' w' => wpAny P .any ops Q' g (l.setIfInBounds n true) a' w') Q') :
    ∀ (f : Nat) (l : Array Bool) (a : Act) (w : World), C w → HeadInv .any ops n l → headS P ops C n L f l a → wpAny P .any ops Q' (f + (g + 1)) l a w
  | 0, l, a, w, hw, _, h => by rw [Nat.zero_add]; exact hL0 l a w hw h
  | f + 1, l, a, w, hw, inv, hH => by
    obtain ⟨⟨i, hi, hin⟩, h⟩ := id hH
    rw [show f + 1 + (g + 1) = (f + (g + 1)) + 1 by omega]
    refine ⟨fun h0 => (by rw [h0] at hi; cases hi), fun j hj => ?_⟩
    obtain ⟨hjun, oj, hoj, hall⟩ := mem_ready.1 hj
    rcases Nat.lt_trichotomy j n with hjn | hjn | hjn
    · exact wpOp_of_sOp hw (fun a' h' => early1 hQ hsel hon hgd hap hnw hs hc0 hc hn hgrow hL0 hL2 f _ a' w hw (inv.set hj hjn) h') (h j hj hjn)
    · subst hjn
      cases hon.symm.trans hoj
      unfold wpOp
      simp only [hoj]
      rw [if_pos (wanted_none hgd _)]
      refine .inl ?_
      obtain ⟨l', a', h4, h5⟩ := headS_end hsel hon hap (f + 1) l a hj hH
      have h6 := hL2 l' a' w hw h4
      unfold Oper.wp at h6 ⊢
      rw [h5] at h6
      cases hrun : (execOp a.eval on).run P w with
      | ok r w1 =>
        obtain ⟨⟨v, rfl⟩, hw1⟩ := hgrow a w r w1 hw hrun
        have inv2 : HeadInv .any ops (j + 1) (l.setIfInBounds j true) := HeadInv.set ⟨inv.size, inv.closed, fun t ht => inv.tail t (by omega)⟩ hj (by omega)
        have := early2 (g := g) (v := v) (w1 := w1) (S0 := execOp a.eval on) hsel hon hap hnw hs hc hn hw1 (fun l2 a2 h7 h8 => by
          have h9 := hL2 l2 a2 w hw h7
          unfold Oper.wp at h9
          rw [h8, hrun] at h9
          exact h9) (f + 1) l a inv2 hj hH rfl
        rw [show f + 1 + g = f + (g + 1) by omega] at this
        exact this
      | halt x w1 =>
        rw [hrun] at h6
        cases x <;> simp only [Oper.upon] at h6 ⊢
        case panic u => exact absurd h6 (hQ _ _ _)
    · exfalso
      have h1 := List.all_eq_true.1 hc0 j (List.mem_range.2 (Array.getElem?_eq_some_iff.1 hoj).1)
      simp only [Bool.or_eq_true, decide_eq_true_eq] at h1
      have h2 : Region.waitsFor .any ops j (j - 1) = true := by
        rcases h1 with h | h
        · omega
        · exact h
      obtain ⟨o', ho', e, he, hb, hon'⟩ := Region.waitsFor_spec h2
      cases hoj.symm.trans ho'
      have := hall e he hb
      rw [hon', getD_both (inv.tail (j - 1) (by omega) (by have := (Array.getElem?_eq_some_iff.1 hoj).1; omega))] at this
      cases this
end
end Go.W
