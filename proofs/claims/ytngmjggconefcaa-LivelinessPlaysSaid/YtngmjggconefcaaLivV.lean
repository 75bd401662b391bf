/- The reference: move. -/
import Derived.Test.YtngmjggconefcaaLivU
namespace Go.Proofs.Ytngmjggconefcaa
open Go.W
theorem nxB_spec (e : Int) : ∀ (l : List Lz) (i : Nat) (b : Option (Nat × Lz)),
    (nxB e l i b = none → b = none ∧ ∀ z ∈ l, dueB e z = false) ∧
    ∀ k y, nxB e l i b = some (k, y) → (b = some (k, y) ∨ (i ≤ k ∧ l[k - i]? = some y ∧ dueB e y = true)) ∧ (∀ z ∈ l, dueB e z = true → ltC (evt z) (evt y) = false) ∧ ∀ k2 y2, b = some (k2, y2) → ltC (evt y2) (evt y) = false
  | [], i, b => by
    refine ⟨fun h => ⟨h, fun z hz => (by cases hz)⟩, fun k y h => ⟨.inl h, fun z hz => (by cases hz), fun k2 y2 h2 => ?_⟩⟩
    have : nxB e [] i b = b := rfl
    rw [this] at h; rw [h] at h2; cases h2; exact swo.irr _
  | x :: l, i, b => by
    obtain ⟨ih1, ih2⟩ := nxB_spec e l (i + 1) (bif dueB e x && better x b then some (i, x) else b)
    refine ⟨fun h => ?_, fun k y h => ?_⟩
    · simp only [nxB] at h
      obtain ⟨h1, h2⟩ := ih1 h
      cases hd : dueB e x with
      | false =>
        rw [hd, Bool.false_and, Bool.cond_false] at h1
        exact ⟨h1, fun z hz => by rcases List.mem_cons.1 hz with rfl | hz; exact hd; exact h2 z hz⟩
      | true =>
        exfalso
        rw [hd, Bool.true_and] at h1
        cases b with
        | none => simp [better] at h1
        | some p => cases hb : better x (some p) <;> rw [hb] at h1 <;> simp at h1
    · simp only [nxB] at h
      obtain ⟨h1, h2, h3⟩ := ih2 k y h
      cases hd : dueB e x with
      | false =>
        rw [hd, Bool.false_and, Bool.cond_false] at h1 h3
        refine ⟨?_, fun z hz hz2 => ?_, h3⟩
        · rcases h1 with h1 | ⟨h4, h5, h6⟩
          · exact .inl h1
          · exact .inr ⟨by omega, by rw [show k - i = (k - (i + 1)) + 1 by omega, List.getElem?_cons_succ]; exact h5, h6⟩
        · rcases List.mem_cons.1 hz with rfl | hz
          · rw [hd] at hz2; cases hz2
          · exact h2 z hz hz2
      | true =>
        rw [hd, Bool.true_and] at h1 h3
        cases hb : better x b with
        | true =>
          rw [hb, Bool.cond_true] at h1 h3
          have hxy := h3 i x rfl
          refine ⟨.inr ?_, fun z hz hz2 => ?_, fun k2 y2 h4 => ?_⟩
          · rcases h1 with h1 | ⟨h4, h5, h6⟩
            · cases h1; exact ⟨Nat.le_refl _, by simp, hd⟩
            · exact ⟨by omega, by rw [show k - i = (k - (i + 1)) + 1 by omega, List.getElem?_cons_succ]; exact h5, h6⟩
          · rcases List.mem_cons.1 hz with rfl | hz
            · exact hxy
            · exact h2 z hz hz2
          · subst h4
            simp only [better] at hb
            cases hc : ltC (evt y2) (evt y) with
            | false => rfl
            | true => have := swo.tr hb hc; rw [hxy] at this; cases this
        | false =>
          rw [hb, Bool.cond_false] at h1 h3
          refine ⟨?_, fun z hz hz2 => ?_, h3⟩
          · rcases h1 with h1 | ⟨h4, h5, h6⟩
            · exact .inl h1
            · exact .inr ⟨by omega, by rw [show k - i = (k - (i + 1)) + 1 by omega, List.getElem?_cons_succ]; exact h5, h6⟩
          · rcases List.mem_cons.1 hz with rfl | hz
            · cases b with
              | none => simp [better] at hb
              | some p =>
                obtain ⟨k2, y2⟩ := p
                simp only [better] at hb
                cases hc : ltC (evt z) (evt y) with
                | false => rfl
                | true => have := swo.ntr _ _ _ (h3 k2 y2 rfl) hb; rw [hc] at this; cases this
            · exact h2 z hz hz2
theorem nx_none {e : Int} {l : List Lz} (h : nxB e l 0 none = none) : endL e l = [] := by
  unfold endL
  rw [List.filter_eq_nil_iff.2 fun z hz => by rw [((nxB_spec e l 0 none).1 h).2 z hz]; simp]
  rfl
/-- Changes to silence, in order and the same but for the order, are the same. -/
theorem srt_uniq : ∀ (A B : List Chg), A.Perm B → Srt ltC A → Srt ltC B → (∀ c ∈ A, c.up = false) → A = B
  | [], B, hp, _, _, _ => by rw [List.nil_perm.1 hp]
  | a :: A, B, hp, hA, hB, hu => by
    cases B with
    | nil => exact absurd hp.length_eq (by simp)
    | cons b B =>
      have hab : ltC b a = false := by
        rcases List.mem_cons.1 (hp.symm.subset (List.mem_cons_self (a := b) (l := B))) with rfl | h
        · exact swo.irr _
        · exact (List.pairwise_cons.1 hA).1 b h
      have hba : ltC a b = false := by
        rcases List.mem_cons.1 (hp.subset (List.mem_cons_self (a := a) (l := A))) with h | h
        · rw [h]; exact swo.irr _
        · exact (List.pairwise_cons.1 hB).1 a h
      have hbu : b.up = false := hu b (hp.symm.subset (by simp))
      have hau : a.up = false := hu a (by simp)
      have : a = b := by
        rw [ltC_eq] at hab hba
        unfold before at hab hba
        simp at hab hba
        obtain ⟨a1, a2, a3⟩ := a
        obtain ⟨b1, b2, b3⟩ := b
        simp only at hab hba hbu hau
        have e1 : a2 = b2 := by omega
        have e2 : a1 = b1 := by
          have := hab.2 e1.symm; have := hba.2 e1; omega
        rw [e1, e2, hau, hbu]
      subst this
      rw [srt_uniq A B (List.perm_cons _ |>.1 hp) (List.pairwise_cons.1 hA).2 (List.pairwise_cons.1 hB).2 fun c hc => hu c (by simp [hc])]
theorem endL_up (e : Int) (l : List Lz) : ∀ c ∈ endL e l, c.up = false := fun c hc => by
  obtain ⟨x, _, rfl⟩ := List.mem_map.1 hc; rfl
theorem dead_due (e : Int) (x : Lz) : dueB e ⟨x.id, x.len, x.ren, false⟩ = false := rfl
theorem set_split {α : Type} {l : List α} {i : Nat} {x : α} (h : l[i]? = some x) (y : α) : l = l.take i ++ x :: l.drop (i + 1) ∧ l.set i y = l.take i ++ y :: l.drop (i + 1) := by
  have hi := (List.getElem?_eq_some_iff.1 h).1
  have hd : l.drop i = x :: l.drop (i + 1) := by
    rw [List.drop_eq_getElem_cons hi]
    rw [List.getElem?_eq_getElem hi] at h
    rw [Option.some.inj h]
  have e1 : l = l.take i ++ x :: l.drop (i + 1) := by rw [← hd, List.take_append_drop]
  refine ⟨e1, ?_⟩
  conv => lhs; rw [e1]
  exact set_mid _ _ _ _ (by rw [List.length_take]; omega)
/-- The first that expires is taken out. -/
theorem nx_some {e : Int} {l : List Lz} {i : Nat} {x : Lz} (h : nxB e l 0 none = some (i, x)) : l[i]? = some x ∧ dueB e x = true ∧
    srt ltC (endL e l) = evt x :: srt ltC (endL e (l.set i ⟨x.id, x.len, x.ren, false⟩)) ∧ (endL e l).length = (endL e (l.set i ⟨x.id, x.len, x.ren, false⟩)).length + 1 ∧ (l.set i ⟨x.id, x.len, x.ren, false⟩).map (mv1 e) = l.map (mv1 e) := by
  obtain ⟨h1, h2, _⟩ := (nxB_spec e l 0 none).2 i x h
  rcases h1 with h1 | ⟨_, hx, hd⟩
  · cases h1
  · rw [Nat.sub_zero] at hx
    obtain ⟨e1, e2⟩ := set_split hx ⟨x.id, x.len, x.ren, false⟩
    have f1 : endL e l = endL e (l.take i) ++ evt x :: endL e (l.drop (i + 1)) := by
      conv => lhs; rw [e1]
      unfold endL
      rw [List.filter_append, List.filter_cons, if_pos hd, List.map_append, List.map_cons]; rfl
    have f2 : endL e (l.set i ⟨x.id, x.len, x.ren, false⟩) = endL e (l.take i) ++ endL e (l.drop (i + 1)) := by
      rw [e2]
      unfold endL
      rw [List.filter_append, List.filter_cons, if_neg (by rw [dead_due]; simp), List.map_append]
    have hp : (endL e l).Perm (evt x :: endL e (l.set i ⟨x.id, x.len, x.ren, false⟩)) := by
      rw [f1, f2]; exact List.perm_middle
    refine ⟨hx, hd, srt_uniq _ _ ?_ (srt_srt swo _) ?_ ?_, by rw [f1, f2]; simp; omega, ?_⟩
    · exact (srt_perm _).trans (hp.trans ((srt_perm _).symm.cons _))
    · refine List.pairwise_cons.2 ⟨fun c hc => ?_, srt_srt swo _⟩
      rw [(srt_perm _).mem_iff] at hc
      have hc2 : c ∈ endL e l := hp.symm.subset (by simp [hc])
      obtain ⟨z, hz, rfl⟩ := List.mem_map.1 hc2
      obtain ⟨hz1, hz2⟩ := List.mem_filter.1 hz
      exact h2 z hz1 hz2
    · intro c hc
      rw [(srt_perm _).mem_iff] at hc
      exact endL_up e l c hc
    · conv => rhs; rw [e1]
      rw [e2, List.map_append, List.map_append, List.map_cons, List.map_cons]
      congr 2
      unfold mv1; rw [dead_due, hd]; rfl
end Go.Proofs.Ytngmjggconefcaa
