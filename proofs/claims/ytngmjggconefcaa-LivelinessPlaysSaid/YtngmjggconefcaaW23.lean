/- The W library, part 23 (between 22 and 14): any order. -/
import Derived.Test.YtngmjggconefcaaW22
namespace Go.W
abbrev ptrS (b : Nat) : S := .va (.c1 (.vl (.pointer (some ⟨b, 0, none⟩))))
theorem trI_al {P : Program} {nw : Bool} {σ : CH} {op : Op} {z : Value} {T : TypeId} (h : trI P nw σ op = some (.e (.al z T))) : op = .alloc T ∧ ∃ inf, P.info? T = some inf ∧ inf.zero = some z := by
  have hi := trI_e h
  cases ho : op <;> rw [ho] at hi <;> simp only [trE, reduceCtorEq, Option.some.injEq] at hi
  case alloc t =>
    split at hi <;> simp only [Option.some.injEq, reduceCtorEq] at hi
    rename_i z' hz
    simp only [EI.al.injEq] at hi
    obtain ⟨rfl, rfl⟩ := hi
    cases hinf : P.info? t with
    | none => simp [hinf] at hz
    | some inf => simp only [hinf, Option.map_some, Option.some.injEq] at hz; exact ⟨rfl, inf, rfl, hz⟩
  case store t x y => split at hi <;> simp at hi
  case buildSlice t len parts =>
    split at hi <;> try (cases hi; done)
    split at hi <;> try (cases hi; done)
    split at hi <;> try (cases hi; done)
    split at hi <;> simp at hi
  case call c =>
    obtain ⟨cl, args, ats⟩ := c
    simp only at hi
    split at hi
    · split at hi <;> try (cases hi; done)
      split at hi <;> try (cases hi; done)
      split at hi <;> try (cases hi; done)
      split at hi
      · simp at hi
      · split at hi <;> try (cases hi; done)
        split at hi <;> simp at hi
    · split at hi <;> try (cases hi; done)
      split at hi <;> try (cases hi; done)
      split at hi <;> simp at hi
    · cases hi
structure OrdOk (P : Program) (nw : Bool) (N : Nat) (ops : Array Oper) (js : List J) (π : List Nat) : Prop where
  jt : ∀ (i : Nat) (o : Oper), ops[i]? = some o → ∃ (j : J) (σ : CH), js[i]? = some j ∧ trJ P nw N ops σ o = some j
  ck : ∀ p i r, π = p ++ i :: r → Ck ops js p i r
  all : ∀ i, i < ops.size → i ∈ π
/-- Where the region stands: rest: what is still to come in its order; l: what has come up. -/
structure Inv (X : Ctx) (Γ : Env) (ops : Array Oper) (js : List J) (π : List Nat) (K : Fr → Hp → Prop) (N : Nat) (ov : Nat → Option S) (qs kd : List Nat) (f : Nat) (rest pre : List Nat) (l : Array Bool) (fr : Fr) (E : Es) (ro : RO) (a : Act) (w : World) : Prop where
  ord : π = pre ++ rest
  size : l.size = ops.size
  clo : ∀ i k, Dn l i → Region.waitsFor .any ops i k = true → Dn l k
  pq : ∀ i ∈ pre, isQ ops js i = false → Dn l i
  ra : ∀ i ∈ rest, Dn l i → isA js i = true
  fuel : cnt ops.size l ≤ f
  v1 : ∀ s, ov s ≠ none → ∃ i, dsl js i = some s ∧ ((i ∈ pre ∧ ¬ Dn l i) ∨ (i ∈ rest ∧ Dn l i))
  v3 : ∀ i ∈ rest, Dn l i → ∃ d z T b, js[i]? = some ⟨some d, none, .e (.al z T)⟩ ∧ ov d = some (ptrS b) ∧ Ea X E ro w z T b
  fra : FRel N (gm E) ro (over ov fr) a
  rel : Rel X E ro w
  hqs : ∀ i ∈ pre, isQ ops js i = true → i ∈ qs
  hkd : ∀ t ∈ kd, Dn l t
  vo : vO Γ (ordJs ops js qs kd rest) fr (hp E) K
  rc : ∀ i ∈ pre, ¬ Dn l i → ∀ j, js[i]? = some j → vJ Γ fr (hp E) (fun fr' _ => fr' j.dn = fr j.dn) j
theorem Dn.lt {l : Array Bool} {i : Nat} (h : Dn l i) : i < l.size := by
  rcases Nat.lt_or_ge i l.size with e | e
  · exact e
  · unfold Dn at h; simp [Array.getElem?_eq_none e] at h
theorem isQ_spec {ops : Array Oper} {js : List J} {i : Nat} (h : isQ ops js i = true) : ∃ j o d, js[i]? = some j ∧ ops[i]? = some o ∧ j.quiet = true ∧ j.gix = false ∧ j.d = some d := by
  unfold isQ at h
  split at h
  · rename_i j o h1 h2
    unfold qOf at h
    simp only [Bool.and_eq_true, Bool.not_eq_true'] at h
    obtain ⟨d, hd⟩ := Option.isSome_iff_exists.1 h.1.2
    exact ⟨j, o, d, h1, h2, h.1.1.1, h.1.1.2, hd⟩
  · cases h
theorem isA_spec {js : List J} {i : Nat} (h : isA js i = true) : ∃ d z T, js[i]? = some ⟨some d, none, .e (.al z T)⟩ := by
  unfold isA at h
  split at h
  · rename_i j hj
    unfold aOf at h
    split at h
    · exact ⟨_, _, _, hj⟩
    · cases h
  · cases h
theorem isA_notQ {ops : Array Oper} {js : List J} {i : Nat} (h : isA js i = true) : isQ ops js i = false := by
  obtain ⟨d, z, T, hj⟩ := isA_spec h
  unfold isQ
  rw [hj]
  split
  · rename_i j o h1 h2; cases h1; rfl
  · rfl
theorem dsl_of {js : List J} {i : Nat} {j : J} {d : Nat} (h : js[i]? = some j) (hd : j.d = some d) : dsl js i = some d := by unfold dsl; rw [h]; exact hd
theorem rdl_of {js : List J} {i : Nat} {j : J} (h : js[i]? = some j) : rdl js i = j.rds := by unfold rdl; rw [h]
theorem dn_of {j : J} {d : Nat} (h : j.d = some d) : j.dn = d := by unfold J.dn; rw [h]; rfl
/-- The same value, told by frames that agree where it is looked. -/
theorem rc_congr {Γ : Env} {H : Hp} {j : J} {d : Nat} (hd : j.d = some d) {f1 f2 : Fr} {s : S} (hA : ∀ i ∈ j.rds, f1 i = f2 i) : vJ Γ f1 H (fun fr' _ => fr' d = s) j = vJ Γ f2 H (fun fr' _ => fr' d = s) j := by
  refine vJ_rel (fun f1 f2 => ∀ i ∈ j.rds, f1 i = f2 i) (fun _ _ h => h) (fun f1 f2 sl s _ h i hi => ?_) (fun f1 f2 s' H' h => ?_) hA
  · simp only [put]; split
    · rfl
    · exact h i hi
  · rw [hd, put_self, put_self]
section
variable {P : Program} {N : Nat} {nw : Bool} {X : Ctx} {Γ : Env} {ops : Array Oper} {js : List J} {π : List Nat} {K : Fr → Hp → Prop} {ov : Nat → Option S} {qs kd : List Nat} {f : Nat} {rest pre : List Nat} {l : Array Bool} {fr : Fr} {E : Es} {ro : RO} {a : Act} {w : World}
theorem later {pre r : List Nat} {i k : Nat} (h : π = pre ++ i :: r) (hk : k ∈ r) : ∃ p r', π = p ++ k :: r' ∧ i ∈ p ∧ ∀ x ∈ pre, x ∈ p := by
  obtain ⟨r1, r2, rfl⟩ := List.append_of_mem hk
  exact ⟨pre ++ i :: r1, r2, by rw [h]; simp, by simp, fun x hx => by simp [hx]⟩
theorem adv_q (ok : OrdOk P nw N ops js π) {i : Nat} {r : List Nat} (h : Inv X Γ ops js π K N ov qs kd f (i :: r) pre l fr E ro a w) (hq : isQ ops js i = true) (hu : ¬ Dn l i) :
    ∃ fr' ov' qs', Inv X Γ ops js π K N ov' qs' kd f r (pre ++ [i]) l fr' E ro a w := by
  have ck := ok.ck pre i r h.ord
  obtain ⟨j, o, d, hj, ho, hqu, hgx, hd⟩ := isQ_spec hq
  have hds := dsl_of hj hd
  have hvo := h.vo
  simp only [ordJs, hj, hq, if_true, vO] at hvo
  rw [dn_of hd, hd] at hvo
  obtain ⟨s, hΦ, hself⟩ := vJ_pick (Φ := fun s => vO Γ (ordJs ops js (qs ++ [i]) kd r) (put fr (some d) s) (hp E) K) hd hqu hgx hvo
  have hrd : ∀ x ∈ j.rds, fr x = put fr (some d) s x := fun x hx => by
    have : x ≠ d := fun e => ck.own hq x (by rw [rdl_of hj]; exact hx) (by rw [hds, e])
    simp [put, this]
  refine ⟨put fr (some d) s, fun k => if k = d then some .un else ov k, qs ++ [i], ?_⟩
  refine ⟨by rw [h.ord]; simp, h.size, h.clo, fun k hk hkq => ?_, fun k hk => h.ra k (by simp [hk]), h.fuel, fun x hx => ?_, fun k hk hkd => ?_, h.fra.weak fun k => ?_, h.rel, fun k hk hkq => ?_, h.hkd, hΦ, fun k hk hku jk hjk => ?_⟩
  · rcases List.mem_append.1 hk with hk | hk
    · exact h.pq k hk hkq
    · rw [List.mem_singleton.1 hk, hq] at hkq; cases hkq
  · by_cases hxd : x = d
    · subst hxd; exact ⟨i, hds, .inl ⟨by simp, hu⟩⟩
    · simp only [hxd, if_false] at hx
      obtain ⟨k, h1, h2 | h2⟩ := h.v1 x hx
      · exact ⟨k, h1, .inl ⟨by simp [h2.1], h2.2⟩⟩
      · rcases List.mem_cons.1 h2.1 with rfl | h3
        · exact absurd h2.2 hu
        · exact ⟨k, h1, .inr ⟨h3, h2.2⟩⟩
  · obtain ⟨d', z, T, b, h1, h2, h3⟩ := h.v3 k (by simp [hk]) hkd
    obtain ⟨p, r', e, hip, _⟩ := later h.ord hk
    have hne : d' ≠ d := fun e2 => by
      subst e2
      exact (ok.ck p k r' e).ds d' (dsl_of h1 rfl) i hip hds
    exact ⟨d', z, T, b, h1, by simp only [hne, if_false]; exact h2, h3⟩
  · by_cases hkd : k = d
    · right; subst hkd; unfold over; simp
    · left
      unfold over
      simp only [hkd, if_false]
      cases ov k with
      | none => simp [put, hkd]
      | some x => rfl
  · rcases List.mem_append.1 hk with hk | hk
    · exact List.mem_append_left _ (h.hqs k hk hkq)
    · exact List.mem_append_right _ hk
  · rcases List.mem_append.1 hk with hk | hk
    · have hkq : isQ ops js k = true := by
        cases hc : isQ ops js k with
        | true => rfl
        | false => exact absurd (h.pq k hk hc) hku
      obtain ⟨j', o', dk, hj', _, _, _, hdk⟩ := isQ_spec hkq
      obtain rfl : j' = jk := by rw [hj'] at hjk; exact Option.some.inj hjk
      have hne : dk ≠ d := fun e => ck.ds d hds k hk (by rw [← e]; exact dsl_of hj' hdk)
      have h0 := h.rc k hk hku j' hj'
      rw [dn_of hdk] at h0 ⊢
      have e1 : put fr (some d) s dk = fr dk := by simp [put, hne]
      rw [e1, ← rc_congr hdk (f1 := fr) fun x hx => ?_]
      · exact h0
      · have : x ≠ d := fun e => ck.q1 (.inl hq) k hk x (by rw [rdl_of hj']; exact hx) (by rw [hds, e])
        simp [put, this]
    · obtain rfl := List.mem_singleton.1 hk
      obtain rfl : j = jk := by rw [hj] at hjk; exact Option.some.inj hjk
      rw [dn_of hd, put_self, ← rc_congr hd hrd]
      exact hself
theorem adv_a (ok : OrdOk P nw N ops js π) {i : Nat} {r : List Nat} (h : Inv X Γ ops js π K N ov qs kd f (i :: r) pre l fr E ro a w) (hu : Dn l i) :
    ∃ fr' E' ov' kd', Inv X Γ ops js π K N ov' qs kd' f r (pre ++ [i]) l fr' E' ro a w := by
  have ck := ok.ck pre i r h.ord
  have ha := h.ra i (by simp) hu
  obtain ⟨d, z, T, b, hj, hov, hea⟩ := h.v3 i (by simp) hu
  have hds := dsl_of hj rfl
  have hnq := isA_notQ (ops := ops) ha
  have hvo := h.vo
  simp only [ordJs, hj, hnq, if_false, Bool.false_eq_true, vO] at hvo
  have hvo2 : vO Γ (rcs js qs (kd ++ anc ops i) ++ ordJs ops js qs (kd ++ anc ops i) r) (put fr (some d) (.va (.c1 (.pt (hp E).length 0)))) (hp E ++ [.cells (z.cells.toList.map C.vl) T]) K := hvo.2
  obtain ⟨hrc, hvo3⟩ := rcs_spec hvo2
  have hkd : ∀ t ∈ kd ++ anc ops i, Dn l t := fun t ht => by
    rcases List.mem_append.1 ht with ht | ht
    · exact h.hkd t ht
    · exact anc_all (p := Dn l) h.clo hu t ht
  have hslot := h.fra.slot d
  rw [over_some hov] at hslot
  have hslot' : a.tmps.getD d undef = .pointer (some ⟨b, 0, none⟩) := hslot
  refine ⟨put fr (some d) (.va (.c1 (.pt (hp E).length 0))), E ++ [(⟨some b, false, 0, 0, T, z.cells.toList⟩, .cells (z.cells.toList.map C.vl) T)], fun k => if k = d then none else ov k, kd ++ anc ops i, ?_⟩
  have hmono := h.fra.mono (gext_app [(⟨some b, false, 0, 0, T, z.cells.toList⟩, B.cells (z.cells.toList.map C.vl) T)]) (Ext.refl ro)
  refine ⟨by rw [h.ord]; simp, h.size, h.clo, fun k hk hkq => ?_, fun k hk => h.ra k (by simp [hk]), h.fuel, fun x hx => ?_, fun k hk hkd => ?_, ⟨hmono.size, fun k => ?_, hmono.defers⟩, h.rel.admit hea, fun k hk hkq => ?_, hkd, by rw [hp_app]; exact hvo3, fun k hk hku jk hjk => ?_⟩
  · rcases List.mem_append.1 hk with hk | hk
    · exact h.pq k hk hkq
    · rw [List.mem_singleton.1 hk]; exact hu
  · by_cases hxd : x = d
    · simp [hxd] at hx
    · simp only [hxd, if_false] at hx
      obtain ⟨k, h1, h2 | h2⟩ := h.v1 x hx
      · exact ⟨k, h1, .inl ⟨by simp [h2.1], h2.2⟩⟩
      · rcases List.mem_cons.1 h2.1 with rfl | h3
        · rw [hds] at h1; exact absurd (Option.some.inj h1).symm hxd
        · exact ⟨k, h1, .inr ⟨h3, h2.2⟩⟩
  · obtain ⟨p, r', e, hip, _⟩ := later h.ord hk
    have := (ok.ck p k r' e).a1 (h.ra k (by simp [hk]) hkd) i hip
    rw [ha] at this; cases this
  · by_cases hkd : k = d
    · subst hkd
      rw [over_none (by simp), put_self, hslot']
      exact ⟨⟨some b, false, 0, 0, T, z.cells.toList⟩, b, by simp [gm, hp_len], rfl, rfl, rfl⟩
    · have := hmono.slot k
      unfold over at this ⊢
      simp only [hkd, if_false]
      cases hovk : ov k with
      | none => rw [hovk] at this; simp only [put, hkd, if_false]; exact this
      | some x => rw [hovk] at this; exact this
  · rcases List.mem_append.1 hk with hk | hk
    · exact h.hqs k hk hkq
    · rw [List.mem_singleton.1 hk, hnq] at hkq; cases hkq
  · rcases List.mem_append.1 hk with hk | hk
    · have hkq : isQ ops js k = true := by
        cases hc : isQ ops js k with
        | true => rfl
        | false => exact absurd (h.pq k hk hc) hku
      rw [hp_app]
      exact hrc k (h.hqs k hk hkq) (fun hin => hku (hkd k hin)) jk hjk
    · rw [List.mem_singleton.1 hk] at hku; exact absurd hu hku
/-- Where an instruction that may come up now looks, nothing is laid over. -/
theorem rds_free (ok : OrdOk P nw N ops js π) (h : Inv X Γ ops js π K N ov qs kd f rest pre l fr E ro a w) {k : Nat} {p r : List Nat} (e : π = p ++ k :: r) (hp : ∀ x ∈ p, x ∈ pre ∨ ¬ Dn l x) (hpre : k ∈ pre ∨ ∃ r', rest = k :: r') (hu : ¬ Dn l k)
    (hw : ∀ t, Region.waitsFor .any ops k t = true → Dn l t) : ∀ s ∈ rdl js k, ov s = none := by
  have ck := ok.ck p k r e
  intro s hs
  cases hov : ov s with
  | none => rfl
  | some x =>
    exfalso
    obtain ⟨i, h1, h2⟩ := h.v1 s (by rw [hov]; simp)
    have hanc : ∀ t ∈ anc ops k, t = k ∨ Dn l t := anc_all (p := fun t => t = k ∨ Dn l t) (fun i t hi hwt => by
      rcases hi with rfl | hi
      · exact .inr (hw t hwt)
      · exact .inr (h.clo i t hi hwt)) (.inl rfl)
    have hiπ : i ∈ p ∨ i = k ∨ i ∈ r := by
      have : i ∈ π := by
        rw [h.ord]
        rcases h2 with h2 | h2
        · exact List.mem_append_left _ h2.1
        · exact List.mem_append_right _ h2.1
      rw [e] at this
      rcases List.mem_append.1 this with h | h
      · exact .inl h
      · exact .inr (List.mem_cons.1 h)
    have hik : isQ ops js i = true ∨ isA js i = true := by
      rcases h2 with h2 | h2
      · cases hc : isQ ops js i with
        | true => exact .inl rfl
        | false => exact absurd (h.pq i h2.1 hc) h2.2
      · exact .inr (h.ra i h2.1 h2.2)
    rcases hiπ with hi | hi | hi
    · rcases h2 with h2 | h2
      · have hq : isQ ops js i = true := by
          cases hc : isQ ops js i with
          | true => rfl
          | false => exact absurd (h.pq i h2.1 hc) h2.2
        rcases hanc i (ck.rd i hi s hs h1 hq) with e1 | e1
        · subst e1; exact ck.new hi
        · exact h2.2 e1
      · rcases hp i hi with h3 | h3
        · -- it would stand twice
          obtain ⟨q1, q2, eq⟩ := List.append_of_mem h2.1
          have := (ok.ck (pre ++ q1) i q2 (by rw [h.ord, eq]; simp)).new
          exact this (List.mem_append_left _ h3)
        · exact h3 h2.2
    · subst hi
      rcases h2 with h2 | h2
      · have hq : isQ ops js i = true := by
          cases hc : isQ ops js i with
          | true => rfl
          | false => exact absurd (h.pq i h2.1 hc) h2.2
        exact ck.own hq s hs h1
      · exact hu h2.2
    · obtain ⟨p', r', e', hkp, _⟩ := later e hi
      exact (ok.ck p' i r' e').q1 hik k hkp s hs h1
end
end Go.W
