/- The W library, part 21 (between 20 and 14): regions that are read in an order of their own. -/
import Derived.Test.YtngmjggconefcaaW20
namespace Go.W
theorem FRel.weak {N : Nat} {γ : List Gb} {ro : RO} {fr fr2 : Fr} {a : Act} (h : FRel N γ ro fr a) (hw : ∀ i, fr2 i = fr i ∨ fr2 i = .un) : FRel N γ ro fr2 a :=
  ⟨h.size, fun i => by rcases hw i with e | e <;> rw [e]; exact h.slot i; trivial, h.defers⟩
theorem gds_agree {f1 f2 : Fr} : ∀ {l : List Nat}, (∀ i ∈ l, f1 i = f2 i) → gds f1 l = gds f2 l
  | [], _ => rfl
  | i :: r, h => by
    simp only [gds]
    rw [h i (by simp), gds_agree (l := r) fun k hk => h k (by simp [hk])]
theorem fst_agree {f1 f2 : Fr} {l : List Nat} (h : ∀ i ∈ l, f1 i = f2 i) : ∀ i ∈ l, fst f1 i = fst f2 i := fun i hi => by
  unfold fst; rw [h i hi]
theorem lq_congr {f1 f2 : Fr} {H : Hp} {i : LI} (h : ∀ j ∈ i.sl, f1 j = f2 j) : lq f1 H i = lq f2 H i := by
  cases i with
  | ia sz x y => rfl
  | ld1 x => simp only [lq, ev_congr (o := x) (fun j hj => h j hj)]
  | ldn n x => simp only [lq, ev_congr (o := x) (fun j hj => h j hj)]
section
variable {Γ : Env} {H : Hp} {j : J} {K1 K2 : Fr → Hp → Prop}
/-- What an instruction asks depends on the slots that it looks at, and on what is asked behind it. -/
theorem vI_agree {i : I} {f1 f2 : Fr} {R1 R2 : S → Hp → Prop} (h : ∀ k ∈ i.sl, f1 k = f2 k) (hR : R1 = R2) : vI Γ f1 H R1 i = vI Γ f2 H R2 i := by
  subst hR
  cases i with
  | e i =>
    simp only [vI]
    rw [show gds f1 i.sl = gds f2 i.sl from gds_agree h, e_congr (fst_agree h)]
  | cl f xs σ =>
    simp only [vI]
    have e : (xs.map fun o => ev (fst f1) o) = xs.map fun o => ev (fst f2) o := by
      refine List.map_congr_left fun o ho => ev_congr fun k hk => fst_agree h k ?_
      simp only [I.sl]
      clear h
      induction xs with
      | nil => cases ho
      | cons x r ih =>
        simp only [O.sls, List.mem_append]
        rcases List.mem_cons.1 ho with rfl | ho
        · exact .inl hk
        · exact .inr (ih ho)
    rw [show gds f1 (O.sls xs) = gds f2 (O.sls xs) from gds_agree h, e]
  | ca x xs σ =>
    simp only [vI]
    have e : (xs.map fun o => ev (fst f1) o) = xs.map fun o => ev (fst f2) o := by
      refine List.map_congr_left fun o ho => ev_congr fun k hk => fst_agree h k ?_
      simp only [I.sl, List.mem_append]
      clear h
      induction xs with
      | nil => cases ho
      | cons x r ih =>
        simp only [O.sls, List.mem_append]
        rcases List.mem_cons.1 ho with rfl | ho
        · exact .inr (.inl hk)
        · rcases ih ho with h | h
          · exact .inl h
          · exact .inr (.inr h)
    have ex : ev (fst f1) x = ev (fst f2) x := ev_congr fun k hk => fst_agree h k (by simp only [I.sl, List.mem_append]; exact .inl hk)
    rw [gds_agree (l := x.sl ++ O.sls xs) h, e, ex]
  | _ => rfl
theorem sls_mem {o : O} : ∀ {xs : List O}, o ∈ xs → ∀ k ∈ o.sl, k ∈ O.sls xs
  | [], ho, _, _ => by cases ho
  | x :: r, ho, k, hk => by
    simp only [O.sls, List.mem_append]
    rcases List.mem_cons.1 ho with rfl | ho
    · exact .inl hk
    · exact .inr (sls_mem ho k hk)
theorem cqP_agree {f : FuncId} {xs : List O} {g : Prop} {f1 f2 : Fr} {R1 R2 : A → Prop} (h : ∀ k ∈ O.sls xs, f1 k = f2 k) (hR : R1 = R2) : cqP Γ f1 H f xs g R1 = cqP Γ f2 H f xs g R2 := by
  subst hR
  have e : (xs.map fun o => ((ev (fst f1) o).bor H).nf) = xs.map fun o => ((ev (fst f2) o).bor H).nf :=
    List.map_congr_left fun o ho => by rw [ev_congr fun k hk => fst_agree h k (sls_mem ho k hk)]
  unfold cqP
  rw [e, gds_agree h]
theorem vJ_rel (R : Fr → Fr → Prop) (hA : ∀ f1 f2, R f1 f2 → ∀ i ∈ j.rds, f1 i = f2 i)
    (hP : ∀ f1 f2 sl s, (∃ w, j.g = some (sl, w)) → R f1 f2 → R (put f1 (some sl) s) (put f2 (some sl) s))
    (hK : ∀ f1 f2 s H', R f1 f2 → K1 (put f1 j.d s) H' = K2 (put f2 j.d s) H') {f1 f2 : Fr} (h : R f1 f2) : vJ Γ f1 H K1 j = vJ Γ f2 H K2 j := by
  obtain ⟨d, g, i⟩ := j
  simp only [J.rds] at hA
  simp only at hP hK
  have hs : ∀ {f1 f2 : Fr}, R f1 f2 → ∀ k ∈ i.sl, f1 k = f2 k := fun hR k hk => hA _ _ hR k (List.mem_append_right _ hk)
  have hI : ∀ {f1 f2 : Fr}, R f1 f2 → vI Γ f1 H (fun s H' => K1 (put f1 d s) H') i = vI Γ f2 H (fun s H' => K2 (put f2 d s) H') i := fun {f1 f2} hR =>
    vI_agree (hs hR) (funext fun s => funext fun H' => hK f1 f2 s H' hR)
  have hsl := hs h
  have hfs := fst_agree hsl
  have hgd := gds_agree hsl
  unfold vJ
  cases g with
  | none =>
    simp only
    cases i with
    | q i =>
      obtain ⟨e1, e2⟩ := q_congr (H := H) (i := i) hfs
      simp only [vJ0, e1, e2]
      rw [show gds f1 i.sl = gds f2 i.sl from hgd]
      split
      · rw [hK _ _ _ _ h]
      · rfl
    | ix x y =>
      have ex : ev (fst f1) x = ev (fst f2) x := ev_congr fun k hk => hfs k (List.mem_append_left _ hk)
      have ey : ev (fst f1) y = ev (fst f2) y := ev_congr fun k hk => hfs k (List.mem_append_right _ hk)
      simp only [vJ0, ex, ey]
      rw [show gds f1 (x.sl ++ y.sl) = gds f2 (x.sl ++ y.sl) from hgd]
      split
      · simp only [hK _ _ _ _ h]
      · rfl
    | l i =>
      simp only [vJ0]
      rw [show gds f1 i.sl = gds f2 i.sl from hgd, l_congr hfs]
      simp only [hK _ _ _ _ h]
    | pick c x y =>
      have ec : ev (fst f1) c = ev (fst f2) c := ev_congr fun k hk => hfs k (List.mem_append_left _ hk)
      have ex : ev (fst f1) x = ev (fst f2) x := ev_congr fun k hk => hfs k (List.mem_append_right _ (List.mem_append_left _ hk))
      have ey : ev (fst f1) y = ev (fst f2) y := ev_congr fun k hk => hfs k (List.mem_append_right _ (List.mem_append_right _ hk))
      simp only [vJ0, ec, ex, ey]
      rw [gds_agree (l := c.sl) fun k hk => hsl k (List.mem_append_left _ hk), gds_agree (l := x.sl) fun k hk => hsl k (List.mem_append_right _ (List.mem_append_left _ hk)), gds_agree (l := y.sl) fun k hk => hsl k (List.mem_append_right _ (List.mem_append_right _ hk))]
      split
      · rw [hK _ _ _ _ h]
      · rfl
    | cq f xs => exact cqP_agree hsl (funext fun a => hK _ _ _ _ h)
    | e i => exact hI h
    | cl f xs σ => exact hI h
    | ca x xs σ => exact hI h
  | some gw =>
    obtain ⟨sl, want⟩ := gw
    simp only
    have hg0 : f1 sl = f2 sl := hA _ _ h sl (by simp)
    have hgv : gv f1 sl want = gv f2 sl want := by unfold gv; rw [hg0]
    have hn : R (rfn f1 sl want) (rfn f2 sl want) := hP _ _ _ _ ⟨_, rfl⟩ h
    have hf : R (rff f1 sl want) (rff f2 sl want) := by
      unfold rff
      rw [hg0]
      split
      · exact hP _ _ _ _ ⟨_, rfl⟩ h
      · exact h
    rw [hgv]
    split
    · rfl
    · rename_i b hb
      have hIf : ((b = true → vI Γ (rfn f1 sl want) H (fun s H' => K1 (put (rfn f1 sl want) d s) H') i) ∧ (b = false → K1 (put (rff f1 sl want) d .un) H)) = ((b = true → vI Γ (rfn f2 sl want) H (fun s H' => K2 (put (rfn f2 sl want) d s) H') i) ∧ (b = false → K2 (put (rff f2 sl want) d .un) H)) := by
        rw [hI hn, hK _ _ _ _ hf]
      cases i with
      | q i =>
        obtain ⟨e1, e2⟩ := q_congr (H := H) (i := i) hfs
        simp only [vJg, e1, e2]
        rw [show gds f1 i.sl = gds f2 i.sl from hgd]
        split <;> rw [hK _ _ _ _ h]
      | ix x y =>
        have ex : ev (fst f1) x = ev (fst f2) x := ev_congr fun k hk => hfs k (List.mem_append_left _ hk)
        have ey : ev (fst f1) y = ev (fst f2) y := ev_congr fun k hk => hfs k (List.mem_append_right _ hk)
        simp only [vJg, ex, ey]
        rw [show gds f1 (x.sl ++ y.sl) = gds f2 (x.sl ++ y.sl) from hgd]
        split <;> simp only [hK _ _ _ _ h]
      | l i =>
        simp only [vJg]
        rw [lq_congr hfs, show gds f1 i.sl = gds f2 i.sl from hgd]
        split
        · rw [hK _ _ _ _ h]
        · have e1 : gds (rfn f1 sl want) i.sl = gds (rfn f2 sl want) i.sl := gds_agree (hs hn)
          rw [e1, l_congr (fst_agree (hs hn)), hK _ _ _ _ hf]
          simp only [hK _ _ _ _ hn]
      | pick c x y =>
        have ec : ev (fst f1) c = ev (fst f2) c := ev_congr fun k hk => hfs k (List.mem_append_left _ hk)
        have ex : ev (fst f1) x = ev (fst f2) x := ev_congr fun k hk => hfs k (List.mem_append_right _ (List.mem_append_left _ hk))
        have ey : ev (fst f1) y = ev (fst f2) y := ev_congr fun k hk => hfs k (List.mem_append_right _ (List.mem_append_right _ hk))
        simp only [vJg, ec, ex, ey]
        rw [gds_agree (l := c.sl) fun k hk => hsl k (List.mem_append_left _ hk), gds_agree (l := x.sl) fun k hk => hsl k (List.mem_append_right _ (List.mem_append_left _ hk)), gds_agree (l := y.sl) fun k hk => hsl k (List.mem_append_right _ (List.mem_append_right _ hk))]
        split <;> rw [hK _ _ _ _ h]
      | cq f xs => exact cqP_agree hsl (funext fun a => hK _ _ _ _ h)
      | e i => exact hIf
      | cl f xs σ => exact hIf
      | ca x xs σ => exact hIf
end
/-! ### A quiet instruction's value may be chosen -/
theorem vL_pick {fr : Fr} {H : Hp} {i : LI} {Φ : S → Prop} (h : vL fr H i Φ) : ∃ s, Φ s ∧ vL fr H i (fun s' => s' = s) := by
  cases i with
  | ia sz x y =>
    simp only [vL] at h ⊢
    split at h
    · exact ⟨_, h.2, h.1, rfl⟩
    · rename_i xs _ k hx hy
      obtain ⟨⟨h1, h2⟩, h3⟩ := h
      have hk : xs[k.toNat]? = some xs[k.toNat] := List.getElem?_eq_getElem (by omega)
      exact ⟨_, h3 _ hk, ⟨h1, h2⟩, fun r hr => by rw [hk] at hr; rw [Option.some.inj hr]⟩
    · exact h.elim
  | ld1 x =>
    simp only [vL] at h ⊢
    split at h
    · split at h
      · split at h
        · exact ⟨_, h, rfl⟩
        · exact h.elim
      · exact h.elim
    · split at h
      · rename_i xs T sz' hH
        obtain ⟨h1, h3⟩ := h
        have hk := List.getElem?_eq_getElem h1.2.2
        have := h3 _ hk
        split at this
        · rename_i c hc
          refine ⟨_, this, h1, fun r hr => ?_⟩
          rw [hk] at hr
          rw [← Option.some.inj hr, hc]
        · exact this.elim
      · exact h.elim
    · split at h
      · exact ⟨_, h, rfl⟩
      · exact h.elim
    · exact h.elim
  | ldn n x =>
    simp only [vL] at h ⊢
    split at h
    · split at h
      · exact ⟨_, h.2, h.1, rfl⟩
      · exact h.elim
    · split at h
      · obtain ⟨h1, h3⟩ := h
        have hk := List.getElem?_eq_getElem h1.2.2
        obtain ⟨h4, h5⟩ := h3 _ hk
        refine ⟨_, h5, h1, fun r hr => ?_⟩
        rw [hk] at hr
        rw [← Option.some.inj hr]
        exact ⟨h4, rfl⟩
      · exact h.elim
    · exact ⟨_, h.2, h.1, rfl⟩
    · exact h.elim
theorem put_self (fr : Fr) (d : Nat) (s : S) : put fr (some d) s d = s := by simp [put]
theorem vJ_pick {Γ : Env} {fr : Fr} {H : Hp} {j : J} {d : Nat} (hd : j.d = some d) (hq : j.quiet = true) (hx : j.gix = false) {Φ : S → Prop} (h : vJ Γ fr H (fun fr' _ => Φ (fr' d)) j) : ∃ s, Φ s ∧ vJ Γ fr H (fun fr' _ => fr' d = s) j := by
  obtain ⟨d', g, i⟩ := j
  simp only at hd
  subst hd
  unfold vJ at h ⊢
  cases g with
  | none =>
    simp only at h ⊢
    cases i with
    | q i =>
      simp only [vJ0] at h ⊢
      split at h
      · rename_i s hs
        obtain ⟨h1, h2, h3⟩ := h
        rw [put_self] at h3
        exact ⟨s, h3, h1, h2, put_self _ _ _⟩
      · exact h.elim
    | ix x y =>
      simp only [vJ0] at h ⊢
      split at h
      · rename_i s _ k hx hy
        obtain ⟨⟨h0, h1, h2⟩, h3⟩ := h
        have hk : (bl s)[k.toNat]? = some (bl s)[k.toNat] := List.getElem?_eq_getElem (by omega)
        have := h3 _ hk
        rw [put_self] at this
        exact ⟨_, this, ⟨h0, h1, h2⟩, fun c hc => by rw [hk] at hc; rw [← Option.some.inj hc, put_self]⟩
      · exact h.elim
    | l i =>
      simp only [vJ0, put_self] at h ⊢
      obtain ⟨s, h1, h2⟩ := vL_pick h.2
      exact ⟨s, h1, h.1, h2⟩
    | pick c x y =>
      simp only [vJ0, put_self] at h ⊢
      split at h
      · obtain ⟨h1, h2, h3, h4⟩ := h
        exact ⟨_, h4, h1, h2, h3, rfl⟩
      · exact h.elim
    | e i => simp [J.quiet] at hq
    | cl f xs σ => simp [J.quiet] at hq
    | ca f xs σ => simp [J.quiet] at hq
    | cq f xs => simp [J.quiet] at hq
  | some gw =>
    obtain ⟨sl, want⟩ := gw
    simp only at h ⊢
    split at h
    · exact h.elim
    · rename_i b hb
      cases i with
      | q i =>
        simp only [vJg, put_self] at h ⊢
        split at h
        · exact ⟨_, h.2, h.1, rfl⟩
        · exact ⟨_, h.2, h.1, rfl⟩
      | ix x y => simp [J.gix] at hx
      | l i =>
        simp only [vJg, put_self] at h ⊢
        split at h
        · exact ⟨_, h.2, h.1, rfl⟩
        · obtain ⟨h1, h2⟩ := h
          cases b with
          | true =>
            obtain ⟨h3, h4⟩ := h1 rfl
            obtain ⟨s, h5, h6⟩ := vL_pick h4
            exact ⟨s, h5, fun _ => ⟨h3, h6⟩, fun h => by cases h⟩
          | false => exact ⟨_, h2 rfl, fun h => (by cases h), fun _ => rfl⟩
      | pick c x y =>
        simp only [vJg, put_self] at h ⊢
        split at h
        · exact ⟨_, h.2, h.1, rfl⟩
        · exact ⟨_, h.2, h.1, rfl⟩
      | e i => simp [J.quiet] at hq
      | cl f xs σ => simp [J.quiet] at hq
      | ca f xs σ => simp [J.quiet] at hq
      | cq f xs => simp [J.quiet] at hq
end Go.W
