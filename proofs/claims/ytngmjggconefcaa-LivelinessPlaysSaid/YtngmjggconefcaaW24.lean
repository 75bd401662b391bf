/- The W library, part 24 (between 23 and 14): any order, step by step. -/
import Derived.Test.YtngmjggconefcaaW23
namespace Go.W
section
variable {P : Program} {N : Nat} {nw : Bool} {X : Ctx} {Γ : Env} {ops : Array Oper} {js : List J} {π : List Nat} {K : Fr → Hp → Prop} {ov : Nat → Option S} {qs kd : List Nat} {f : Nat} {rest pre : List Nat} {l : Array Bool} {fr : Fr} {E : Es} {ro : RO} {a : Act} {w : World}
theorem ready_of {k : Nat} (h : k ∈ Region.ready .any ops l) : ¬ Dn l k ∧ ∃ o, ops[k]? = some o ∧ (∀ t, Region.waitsFor .any ops k t = true → Dn l t) := by
  obtain ⟨h1, o, h2, h3⟩ := mem_ready.1 h
  refine ⟨fun hd => ?_, o, h2, fun t ht => ?_⟩
  · have := getD_both h1
    unfold Dn at hd
    rw [hd] at this; cases this
  · obtain ⟨o', ho', e, he, hb, hon⟩ := Region.waitsFor_spec ht
    cases h2.symm.trans ho'
    rw [← hon]; exact h3 e he hb
/-- What any step that comes up keeps. -/
theorem clo_set {k : Nat} (hclo : ∀ i k, Dn l i → Region.waitsFor .any ops i k = true → Dn l k) (hw : ∀ t, Region.waitsFor .any ops k t = true → Dn l t) : ∀ i t, Dn (l.setIfInBounds k true) i → Region.waitsFor .any ops i t = true → Dn (l.setIfInBounds k true) t := fun i t hi ht => by
  rcases dn_of_set hi with hi | rfl
  · exact dn_set (hclo i t hi ht)
  · exact dn_set (hw t ht)
/-- What was read comes up. -/
theorem run_q (ok : OrdOk P nw N ops js π) (h : Inv X Γ ops js π K N ov qs kd (f + 1) rest pre l fr E ro a w) {Q' : Exit → Act → World → Prop} {k : Nat} (hk : k ∈ pre) (hr : k ∈ Region.ready .any ops l) :
    wpOp P ops Q' k (fun a' w' => ∃ ov', Inv X Γ ops js π K N ov' qs kd f rest pre (l.setIfInBounds k true) fr E ro a' w') a w := by
  obtain ⟨hu, o, ho, hw⟩ := ready_of hr
  have hkq : isQ ops js k = true := by
    cases hc : isQ ops js k with
    | true => rfl
    | false => exact absurd (h.pq k hk hc) hu
  obtain ⟨p, r1, epre⟩ := List.append_of_mem hk
  have e : π = p ++ k :: (r1 ++ rest) := by rw [h.ord, epre]; simp
  have ck := ok.ck p k _ e
  obtain ⟨j, o', d, hj, ho', hqu, hgx, hd⟩ := isQ_spec hkq
  obtain ⟨j', σ, hj', htr⟩ := ok.jt k o ho
  obtain rfl : j = j' := by rw [hj] at hj'; exact Option.some.inj hj'
  have hfree := rds_free ok h e (fun x hx => .inl (by rw [epre]; exact List.mem_append_left _ hx)) (.inl hk) hu hw
  rw [rdl_of hj] at hfree
  obtain ⟨_, _, hdst, hN⟩ := trJ_spec htr
  have h0 := h.rc k hk hu j hj
  rw [dn_of hd, rc_congr hd (f2 := over ov fr) fun x hx => (over_none (hfree x hx)).symm] at h0
  have hq := jq_sound h.fra h.rel htr hqu h0
  have hod : o.dst = some d := by rw [← hdst, hd]
  have hin : k < l.size := by rw [h.size]; exact ck.lt
  -- the frame behind it
  have fr_ok : ∀ {fr1 : Fr} {v : Value}, fr1 d = fr d → FRel N (gm E) ro fr1 (a.put o.dst v) → Inv X Γ ops js π K N (fun x => if x = d then none else ov x) qs kd f rest pre (l.setIfInBounds k true) fr E ro (a.put o.dst v) w := fun {fr1 v} e1 hf1 => by
    have hput := h.fra.put (d := o.dst) hN (s := .un) (v := v) trivial
    refine ⟨h.ord, by rw [Array.size_setIfInBounds]; exact h.size, clo_set h.clo hw, fun i hi hiq => dn_set (h.pq i hi hiq), fun i hi hid => ?_, ?_, fun x hx => ?_, fun i hi hid => ?_, ⟨hput.size, fun x => ?_, hput.defers⟩, h.rel, h.hqs, fun t ht => dn_set (h.hkd t ht), h.vo, fun i hi hiu jj hjj => h.rc i hi (fun hd => hiu (dn_set hd)) jj hjj⟩
    · rcases dn_of_set hid with h1 | rfl
      · exact h.ra i hi h1
      · obtain ⟨q1, q2, eq⟩ := List.append_of_mem hi
        have := (ok.ck (pre ++ q1) i q2 (by rw [h.ord, eq]; simp)).new
        exact absurd (List.mem_append_left _ hk) this
    · have := cnt_set (n := ops.size) ck.lt h.size hu; have := h.fuel; omega
    · by_cases hxd : x = d
      · simp [hxd] at hx
      · simp only [hxd, if_false] at hx
        obtain ⟨i, h1, h2 | h2⟩ := h.v1 x hx
        · refine ⟨i, h1, .inl ⟨h2.1, fun hid => ?_⟩⟩
          rcases dn_of_set hid with h3 | rfl
          · exact h2.2 h3
          · rw [dsl_of hj hd] at h1; exact hxd (Option.some.inj h1).symm
        · exact ⟨i, h1, .inr ⟨h2.1, dn_set h2.2⟩⟩
    · have hdi : Dn l i := by
        rcases dn_of_set hid with h1 | rfl
        · exact h1
        · obtain ⟨q1, q2, eq⟩ := List.append_of_mem hi
          have := (ok.ck (pre ++ q1) i q2 (by rw [h.ord, eq]; simp)).new
          exact absurd (List.mem_append_left _ hk) this
      obtain ⟨d', z, T, b, h1, h2, h3⟩ := h.v3 i hi hdi
      have hne : d' ≠ d := fun e2 => by
        subst e2
        obtain ⟨q1, q2, eq⟩ := List.append_of_mem hi
        exact (ok.ck (pre ++ q1) i q2 (by rw [h.ord, eq]; simp)).ds d' (dsl_of h1 rfl) k (List.mem_append_left _ hk) (dsl_of hj hd)
      exact ⟨d', z, T, b, h1, by simp only [hne, if_false]; exact h2, h3⟩
    · by_cases hxd : x = d
      · subst hxd
        rw [over_none (by simp), ← e1]
        exact hf1.slot x
      · have := hput.slot x
        rw [hod] at this ⊢
        simp only [W.put, hxd, if_false] at this
        unfold over at this ⊢
        simp only [hxd, if_false]
        exact this
  unfold wpOp
  simp only [ho]
  split
  · rename_i hwt
    rw [if_pos hwt] at hq
    obtain ⟨fr1, e1, v, hf1, hrun⟩ := hq
    refine .inl ?_
    unfold Oper.wp
    rw [hrun w h.rel, Oper.upon_value]
    exact ⟨_, fr_ok e1 hf1⟩
  · rename_i hwt
    rw [if_neg hwt] at hq
    obtain ⟨fr1, e1, hf1⟩ := hq
    exact ⟨_, fr_ok e1 hf1⟩
/-- Memory is made ahead of its turn. -/
theorem run_a (ok : OrdOk P nw N ops js π) (h : Inv X Γ ops js π K N ov qs kd (f + 1) rest pre l fr E ro a w) {Q' : Exit → Act → World → Prop} {k : Nat} (hk : k ∈ rest) (ha : isA js k = true) (hr : k ∈ Region.ready .any ops l) :
    wpOp P ops Q' k (fun a' w' => ∃ ov', Inv X Γ ops js π K N ov' qs kd f rest pre (l.setIfInBounds k true) fr E ro a' w') a w := by
  obtain ⟨hu, o, ho, hw⟩ := ready_of hr
  obtain ⟨d, z, T, hj⟩ := isA_spec ha
  obtain ⟨j', σ, hj', htr⟩ := ok.jt k o ho
  obtain rfl : ⟨some d, none, .e (.al z T)⟩ = j' := by rw [hj] at hj'; exact Option.some.inj hj'
  obtain ⟨hi, hg, hdst, hN⟩ := trJ_spec htr
  obtain ⟨hop, inf, hinf, hz⟩ := trI_al hi
  have hgn : o.guard = none := by
    cases hgd : o.guard with
    | none => rfl
    | some gw =>
      obtain ⟨k', want⟩ := gw
      rw [hgd] at hg
      simp only [trG] at hg
      split at hg <;> simp at hg
  obtain ⟨q1, q2, eq⟩ := List.append_of_mem hk
  have eπ : π = (pre ++ q1) ++ k :: q2 := by rw [h.ord, eq]; simp
  have ck := ok.ck _ k q2 eπ
  have hod : o.dst = some d := hdst.symm
  have hds := dsl_of hj rfl
  have hrun : (execOp a.eval o).run P w = .ok (.value (.pointer (some ⟨w.heap.size, 0, none⟩))) (w.alloc (.cells z.cells T)) := by
    simp [execOp, hop, Instr.alloc, zeroValue, typeInfo, hinf, hz, newVar, newRow]
  unfold wpOp
  simp only [ho]
  rw [if_pos (wanted_none hgn _)]
  refine .inl ?_
  unfold Oper.wp
  rw [hrun, Oper.upon_value]
  refine ⟨fun x => if x = d then some (ptrS w.heap.size) else ov x, ?_⟩
  have hput := h.fra.put (d := o.dst) hN (s := ptrS w.heap.size) (v := .pointer (some ⟨w.heap.size, 0, none⟩)) rfl
  have hrel : Rel X E ro (w.alloc (.cells z.cells T)) := h.rel.grown (alloc_old w _) (alloc_size w _) rfl rfl rfl
  have only : ∀ i ∈ rest, Dn l i → False := fun i hi hid => by
    have hai := h.ra i hi hid
    have : i ≠ k := fun e => hu (e ▸ hid)
    rw [eq] at hi
    rcases List.mem_append.1 hi with hi | hi
    · have := ck.a1 ha i (List.mem_append_right _ hi)
      rw [hai] at this; cases this
    · rcases List.mem_cons.1 hi with hi | hi
      · exact this hi
      · obtain ⟨p, r', e, hip, _⟩ := later eπ hi
        have := (ok.ck p i r' e).a1 hai k hip
        rw [ha] at this; cases this
  refine ⟨h.ord, by rw [Array.size_setIfInBounds]; exact h.size, clo_set h.clo hw, fun i hi hiq => dn_set (h.pq i hi hiq), fun i hi hid => ?_, ?_, fun x hx => ?_, fun i hi hid => ?_, ⟨hput.size, fun x => ?_, hput.defers⟩, hrel, h.hqs, fun t ht => dn_set (h.hkd t ht), h.vo, fun i hi hiu jj hjj => h.rc i hi (fun hd => hiu (dn_set hd)) jj hjj⟩
  · rcases dn_of_set hid with h1 | rfl
    · exact h.ra i hi h1
    · exact ha
  · have := cnt_set (n := ops.size) ck.lt h.size hu; have := h.fuel; omega
  · by_cases hxd : x = d
    · subst hxd
      exact ⟨k, hds, .inr ⟨hk, dn_self (by rw [h.size]; exact ck.lt)⟩⟩
    · simp only [hxd, if_false] at hx
      obtain ⟨i, h1, h2 | h2⟩ := h.v1 x hx
      · refine ⟨i, h1, .inl ⟨h2.1, fun hid => ?_⟩⟩
        rcases dn_of_set hid with h3 | rfl
        · exact h2.2 h3
        · exact ck.new (List.mem_append_left _ h2.1)
      · exact ⟨i, h1, .inr ⟨h2.1, dn_set h2.2⟩⟩
  · rcases dn_of_set hid with h1 | rfl
    · exact (only i hi h1).elim
    · refine ⟨d, z, T, w.heap.size, hj, by simp, heap_alloc_new w _, h.rel.sz, fun n g blk hn hl hob => ?_, fun off v hv => ?_⟩
      · have := (h.rel.own n g blk hn).lt hl hob; omega
      · have := h.rel.cell_lt hv; omega
  · have := hput.slot x
    rw [hod] at this ⊢
    by_cases hxd : x = d
    · subst hxd
      rw [over_some (s := ptrS w.heap.size) (by simp)]
      rw [put_self] at this
      exact this
    · simp only [W.put, hxd, if_false] at this
      unfold over at this ⊢
      simp only [hxd, if_false]
      exact this
/-- The next in its order comes up. -/
theorem run_m (ok : OrdOk P nw N ops js π) (hm : MeetsAll P Γ) {i : Nat} {r : List Nat} (h : Inv X Γ ops js π K N ov qs kd (f + 1) (i :: r) pre l fr E ro a w) {Q' : Exit → Act → World → Prop} (hnq : isQ ops js i = false) (hr : i ∈ Region.ready .any ops l) :
    wpOp P ops Q' i (fun a' w' => ∃ fr' E' ro' kd', Inv X Γ ops js π K N ov qs kd' f r (pre ++ [i]) (l.setIfInBounds i true) fr' E' ro' a' w') a w := by
  obtain ⟨hu, o, ho, hw⟩ := ready_of hr
  have ck := ok.ck pre i r h.ord
  obtain ⟨j, σ, hj, htr⟩ := ok.jt i o ho
  have hfree := rds_free ok h h.ord (fun x hx => .inl hx) (.inr ⟨r, rfl⟩) hu hw
  rw [rdl_of hj] at hfree
  have hvo := h.vo
  simp only [ordJs, hj, hnq, if_false, Bool.false_eq_true, vO] at hvo
  have hdfree : ∀ d, j.d = some d → ov d = none := fun d hd => by
    cases hov : ov d with
    | none => rfl
    | some x =>
      exfalso
      obtain ⟨k, h1, h2 | h2⟩ := h.v1 d (by rw [hov]; simp)
      · exact ck.ds d (dsl_of hj hd) k h2.1 h1
      · rcases List.mem_cons.1 h2.1 with rfl | h3
        · exact hu h2.2
        · obtain ⟨p, r', e, hip, _⟩ := later h.ord h3
          exact (ok.ck p k r' e).ds d h1 i hip (dsl_of hj hd)
  obtain ⟨KK, hKK⟩ : ∃ KK : Fr → Hp → Prop, KK = fun fr' H' => vO Γ (rcs js qs (kd ++ anc ops i) ++ ordJs ops js qs (kd ++ anc ops i) r) fr' H' K := ⟨_, rfl⟩
  rw [← hKK] at hvo
  let res : Fr → Fr := fun f1 x => match ov x with | some _ => fr x | none => f1 x
  have hv1 : vJ Γ (over ov fr) (hp E) (fun f1 H' => KK (res f1) H' ∧ ∀ x s, ov x = some s → f1 x = s) j := by
    rw [vJ_rel (K2 := KK) (f2 := fr) (fun f1 f2 => ∀ x, (ov x = none → f1 x = f2 x) ∧ ∀ s, ov x = some s → f1 x = s ∧ f2 x = fr x) (fun f1 f2 hR x hx => (hR x).1 (hfree x hx)) (fun f1 f2 sl s hg hR x => ?_) (fun f1 f2 s H' hR => ?_) (fun x => ⟨fun hx => over_none hx, fun s hs => ⟨over_some hs, rfl⟩⟩)]
    · exact hvo
    · have hsl : ov sl = none := by
        obtain ⟨w', hg⟩ := hg
        exact hfree sl (by unfold J.rds; rw [hg]; simp)
      simp only [put]
      refine ⟨fun hx => ?_, fun s' hs' => ?_⟩
      · split
        · rfl
        · exact (hR x).1 hx
      · have : x ≠ sl := fun e => by rw [e, hsl] at hs'; cases hs'
        simp only [this, if_false]
        exact (hR x).2 s' hs'
    · have e1 : res (put f1 j.d s) = put f2 j.d s := by
        funext x
        simp only [res]
        cases hov : ov x with
        | none =>
          simp only
          cases hjd : j.d with
          | none => exact (hR x).1 hov
          | some d =>
            simp only [put]; split
            · rfl
            · exact (hR x).1 hov
        | some s' =>
          simp only
          cases hjd : j.d with
          | none => exact ((hR x).2 s' hov).2.symm
          | some d =>
            have : x ≠ d := fun e => by rw [e, hdfree d hjd] at hov; cases hov
            simp only [put, this, if_false]
            exact ((hR x).2 s' hov).2.symm
      have e2 : ∀ x s', ov x = some s' → put f1 j.d s x = s' := fun x s' hov => by
        cases hjd : j.d with
        | none => exact ((hR x).2 s' hov).1
        | some d =>
          have : x ≠ d := fun e => by rw [e, hdfree d hjd] at hov; cases hov
          simp only [put, this, if_false]
          exact ((hR x).2 s' hov).1
      simp only [e1]
      exact propext ⟨fun h => h.1, fun h => ⟨h, e2⟩⟩
  have step := j_sound (Q := Q') (next := fun a' w' => ∃ fr' E' ro' kd', Inv X Γ ops js π K N ov qs kd' f r (pre ++ [i]) (l.setIfInBounds i true) fr' E' ro' a' w') h.fra h.rel.here hm htr hv1 (fun fr1 E' ro' a' w' hK1 hf1 hr1 => by
    obtain ⟨hK1, hov1⟩ := hK1
    rw [hKK] at hK1
    obtain ⟨hrc, hvo3⟩ := rcs_spec hK1
    have hover : over ov (res fr1) = fr1 := by
      funext x
      unfold over
      simp only [res]
      cases hov : ov x with
      | none => rfl
      | some s => exact (hov1 x s hov).symm
    have hkd : ∀ t ∈ kd ++ anc ops i, Dn (l.setIfInBounds i true) t := fun t ht => by
      rcases List.mem_append.1 ht with ht | ht
      · exact dn_set (h.hkd t ht)
      · exact anc_all (p := Dn (l.setIfInBounds i true)) (clo_set h.clo hw) (dn_self (by rw [h.size]; exact ck.lt)) t ht
    have hir : ∀ k ∈ r, k ≠ i := fun k hk e => by
      obtain ⟨p, r', e', hip, _⟩ := later h.ord hk
      exact (ok.ck p k r' e').new (by rw [e]; exact hip)
    refine ⟨res fr1, E', ro', kd ++ anc ops i, ⟨by rw [h.ord]; simp, by rw [Array.size_setIfInBounds]; exact h.size, clo_set h.clo hw, fun k hk hkq => ?_, fun k hk hkd => ?_, ?_, fun x hx => ?_, fun k hk hkd => ?_, by rw [hover]; exact hf1, h.rel.thru hr1, fun k hk hkq => ?_, hkd, hvo3, fun k hk hku jk hjk => ?_⟩⟩
    · rcases List.mem_append.1 hk with hk | hk
      · exact dn_set (h.pq k hk hkq)
      · rw [List.mem_singleton.1 hk]; exact dn_self (by rw [h.size]; exact ck.lt)
    · rcases dn_of_set hkd with h1 | h1
      · exact h.ra k (by simp [hk]) h1
      · exact absurd h1 (hir k hk)
    · have := cnt_set (n := ops.size) ck.lt h.size hu; have := h.fuel; omega
    · obtain ⟨k, h1, h2 | h2⟩ := h.v1 x hx
      · refine ⟨k, h1, .inl ⟨by simp [h2.1], fun hkd => ?_⟩⟩
        rcases dn_of_set hkd with h3 | rfl
        · exact h2.2 h3
        · exact ck.new h2.1
      · rcases List.mem_cons.1 h2.1 with rfl | h3
        · exact absurd h2.2 hu
        · exact ⟨k, h1, .inr ⟨h3, dn_set h2.2⟩⟩
    · have hdk : Dn l k := by
        rcases dn_of_set hkd with h1 | h1
        · exact h1
        · exact absurd h1 (hir k hk)
      obtain ⟨d', z, T, b, h1, h2, h3⟩ := h.v3 k (by simp [hk]) hdk
      exact ⟨d', z, T, b, h1, h2, h3.keep hr1⟩
    · rcases List.mem_append.1 hk with hk | hk
      · exact h.hqs k hk hkq
      · rw [List.mem_singleton.1 hk, hnq] at hkq; cases hkq
    · have hkp : k ∈ pre := by
        rcases List.mem_append.1 hk with hk | hk
        · exact hk
        · rw [List.mem_singleton.1 hk] at hku; exact absurd (dn_self (by rw [h.size]; exact ck.lt)) hku
      have hkq : isQ ops js k = true := by
        cases hc : isQ ops js k with
        | true => rfl
        | false => exact absurd (dn_set (h.pq k hkp hc)) hku
      exact hrc k (h.hqs k hkp hkq) (fun hin => hku (hkd k hin)) jk hjk)
  unfold wpOp
  simp only [ho]
  split
  · rename_i hwt
    rw [if_pos hwt] at step
    exact .inl step
  · rename_i hwt
    rw [if_neg hwt] at step
    exact step
theorem first_undone (l : Array Bool) : ∀ q : List Nat, (∀ i ∈ q, Dn l i) ∨ ∃ p i r, q = p ++ i :: r ∧ (∀ k ∈ p, Dn l k) ∧ ¬ Dn l i
  | [] => .inl fun i hi => by cases hi
  | x :: q => by
    by_cases hx : Dn l x
    · rcases first_undone l q with h | ⟨p, i, r, h1, h2, h3⟩
      · exact .inl fun i hi => by rcases List.mem_cons.1 hi with rfl | hi; exact hx; exact h i hi
      · exact .inr ⟨x :: p, i, r, by rw [h1]; rfl, fun k hk => by rcases List.mem_cons.1 hk with rfl | hk; exact hx; exact h2 k hk, h3⟩
    · exact .inr ⟨[], x, q, rfl, fun k hk => (by cases hk), hx⟩
/-- Where nothing may come up, all has. -/
theorem all_of_none (ok : OrdOk P nw N ops js π) (hs : l.size = ops.size) (h : Region.ready .any ops l = []) : ∀ i ∈ π, Dn l i := by
  rcases first_undone l π with hd | ⟨p, i, r, e, h1, h2⟩
  · exact hd
  · exfalso
    have ck := ok.ck p i r e
    have hlt := ck.lt
    have ho : ops[i]? = some ops[i] := Array.getElem?_eq_getElem hlt
    have : i ∈ Region.ready .any ops l := mem_ready.2 ⟨getD_in (by rw [hs]; exact ck.lt) (by
      cases hd : l.getD i false with
      | false => rfl
      | true => exact absurd hd h2), _, ho, fun e he hb => h1 _ (ck.wt _ ho e he hb)⟩
    rw [h] at this; cases this
theorem ord_main (ok : OrdOk P nw N ops js π) (hm : MeetsAll P Γ) {Q' : Exit → Act → World → Prop} (hQ : ∀ fr E ro a w, K fr (hp E) → FRel N (gm E) ro fr a → Rel X E ro w → Q' .normal a w) :
    ∀ (f : Nat) (rest pre : List Nat) (l : Array Bool) (fr : Fr) (E : Es) (ro : RO) (a : Act) (w : World) (ov : Nat → Option S) (qs kd : List Nat), Inv X Γ ops js π K N ov qs kd f rest pre l fr E ro a w → wpAny P .any ops Q' f l a w := by
  -- all has come up
  have fin : ∀ (f : Nat) (rest pre : List Nat) (l : Array Bool) (fr : Fr) (E : Es) (ro : RO) (a : Act) (w : World) (ov : Nat → Option S) (qs kd : List Nat), Inv X Γ ops js π K N ov qs kd f rest pre l fr E ro a w → (∀ i ∈ π, Dn l i) → Q' .normal a w := by
    intro f rest
    induction rest with
    | nil =>
      intro pre l fr E ro a w ov qs kd h hd
      have hov : ∀ x, ov x = none := fun x => by
        cases hov : ov x with
        | none => rfl
        | some s =>
          obtain ⟨i, _, h2 | h2⟩ := h.v1 x (by rw [hov]; simp)
          · exact absurd (hd i (by rw [h.ord]; simp [h2.1])) h2.2
          · cases h2.1
      have he : over ov fr = fr := funext fun x => over_none (hov x)
      have hf := h.fra
      rw [he] at hf
      exact hQ fr E ro a w h.vo hf h.rel
    | cons i r ih =>
      intro pre l fr E ro a w ov qs kd h hd
      obtain ⟨fr', E', ov', kd', h'⟩ := adv_a ok h (hd i (by rw [h.ord]; simp))
      exact ih _ _ _ _ _ _ _ _ _ _ h' hd
  intro f
  induction f with
  | zero =>
    intro rest pre l fr E ro a w ov qs kd h
    have hd : ∀ i ∈ π, Dn l i := fun i hi => cnt_zero (Nat.le_zero.1 h.fuel) i (by
      obtain ⟨p, r, e⟩ := List.append_of_mem hi
      exact (ok.ck p i r e).lt)
    refine ⟨?_, fin _ _ _ _ _ _ _ _ _ _ _ _ h hd⟩
    cases hr : Region.ready .any ops l with
    | nil => rfl
    | cons k ks =>
      obtain ⟨hu, o, ho, _⟩ := ready_of (ops := ops) (l := l) (k := k) (by rw [hr]; simp)
      exact absurd (hd k (ok.all k (Array.getElem?_eq_some_iff.1 ho).1)) hu
  | succ f ih =>
    intro rest
    induction rest with
    | nil =>
      intro pre l fr E ro a w ov qs kd h
      refine ⟨fun hr => fin _ _ _ _ _ _ _ _ _ _ _ _ h (all_of_none ok h.size hr), fun k hk => ?_⟩
      obtain ⟨hu, o, ho, _⟩ := ready_of hk
      have hkp : k ∈ pre := by
        have := ok.all k (Array.getElem?_eq_some_iff.1 ho).1
        rw [h.ord] at this; simpa using this
      exact wpOp_mono (fun a' w' ⟨ov', h'⟩ => ih _ _ _ _ _ _ _ _ _ _ _ h') (run_q ok h hkp hk)
    | cons i r ihr =>
      intro pre l fr E ro a w ov qs kd h
      by_cases hd : Dn l i
      · obtain ⟨fr', E', ov', kd', h'⟩ := adv_a ok h hd
        exact ihr _ _ _ _ _ _ _ _ _ _ h'
      · cases hq : isQ ops js i with
        | true =>
          obtain ⟨fr', ov', qs', h'⟩ := adv_q ok h hq hd
          exact ihr _ _ _ _ _ _ _ _ _ _ h'
        | false =>
          refine ⟨fun hr => absurd (all_of_none ok h.size hr i (by rw [h.ord]; simp)) hd, fun k hk => ?_⟩
          obtain ⟨hu, o, ho, hw⟩ := ready_of hk
          have hkπ := ok.all k (Array.getElem?_eq_some_iff.1 ho).1
          rw [h.ord] at hkπ
          rcases List.mem_append.1 hkπ with hkp | hkr
          · exact wpOp_mono (fun a' w' ⟨ov', h'⟩ => ih _ _ _ _ _ _ _ _ _ _ _ h') (run_q ok h hkp hk)
          · cases hak : isA js k with
            | true => exact wpOp_mono (fun a' w' ⟨ov', h'⟩ => ih _ _ _ _ _ _ _ _ _ _ _ h') (run_a ok h hkr hak hk)
            | false =>
              rcases List.mem_cons.1 hkr with rfl | hkr'
              · exact wpOp_mono (fun a' w' ⟨fr', E', ro', kd', h'⟩ => ih _ _ _ _ _ _ _ _ _ _ _ h') (run_m ok hm h hq hk)
              · exfalso
                rcases (ok.ck pre i r h.ord).hd hq k hkr' hak with h1 | ⟨k', h1, h2, h3⟩
                · exact hd (hw i h1)
                · have := h.ra k' (by simp [h1]) (hw k' h3)
                  rw [h2] at this; cases this
/-- A region that is read in an order of its own. -/
theorem reg_ord_sound (hm : MeetsAll P Γ) {id : Nat} {hh : Nat → CH} (hmix : P.follows .mixedOrders = true) (hB : ordB ops js = true)
    (hf : FRel N (gm E) ro fr a) (hr : Rel X E ro w) (hv : vO Γ (ordJs ops js [] [] (ordL ops js)) fr (hp E) K) {Q : Exit → Act → World → Prop}
    (hQ : ∀ fr E ro a w, K fr (hp E) → FRel N (gm E) ro fr a → Rel X E ro w → Q .normal a w) (hget : ∀ (i : Nat) (o : Oper), ops.toList[i]? = some o → ∃ (j : J), js[i]? = some j ∧ trJ P nw N ops (hh i) o = some j) : (Code.region id ops true).wp P Q a w := by
  unfold ordB at hB
  simp only [Bool.and_eq_true, decide_eq_true_eq] at hB
  obtain ⟨⟨_, hl⟩, hC⟩ := hB
  have ok : OrdOk P nw N ops js (ordL ops js) := by
    refine ⟨fun i o ho => ?_, fun p i r e => ?_, ord_all hC hl⟩
    · obtain ⟨j, h1, h2⟩ := hget i o (by simpa using ho)
      exact ⟨j, _, h1, h2⟩
    · have := ordC_at _ [] p i r hC e
      simpa using this
  refine wp_region_any hmix (ord_main ok hm hQ _ (ordL ops js) [] _ fr E ro a _ (fun _ => none) [] [] ?_)
  have hnd : ∀ i, ¬ Dn (Array.replicate ops.size false) i := fun i h => by unfold Dn at h; rw [getD_replicate_false] at h; cases h
  refine ⟨rfl, by simp, fun i k hi => absurd hi (hnd i), fun i hi => (by cases hi), fun i _ hi => absurd hi (hnd i), ?_, fun s hs => absurd rfl hs, fun i _ hi => absurd hi (hnd i), ?_, hr.drew, fun i hi => (by cases hi), fun t ht => (by cases ht), hv, fun i hi => (by cases hi)⟩
  · unfold cnt
    exact Nat.le_trans (List.length_filter_le _ _) (by rw [List.length_range]; exact Nat.le_refl _)
  · have he : over (fun _ => none) fr = fr := rfl
    rw [he]; exact hf
end
end Go.W
