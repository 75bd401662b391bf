/- The W library, part 22 (between 21 and 14): such a region does in any order what it does in its own. -/
import Derived.Test.YtngmjggconefcaaW21
namespace Go.W
section
variable {X : Ctx} {E E' : Es} {ro ro' : RO} {w w' : World}
theorem Rel.thru (h : Rel X E ro w) (k : Rel ⟨w, blks E, ro, gm E⟩ E' ro' w') : Rel X E' ro' w' := by
  have hin : ∀ b, b ∈ blks E → X.w0.heap.size ≤ b ∨ b ∈ X.pb := fun b hb => by
    obtain ⟨n, g, blk, h1, h2, h3⟩ := mem_blks.1 hb
    exact h.par n b g blk h1 h2 h3
  refine ⟨k.own, k.inj, k.apart, k.rd, h.ro0.trans k.ro0, fun b off v hv => ?_, fun n b g blk h1 h2 h3 => ?_, h.gx.trans k.gx, Nat.le_trans h.sz k.sz, fun b hb hp => ?_, k.os.trans h.os, k.tape.trans h.tape, k.output.trans h.output⟩
  · rcases k.rob b off v hv with e | e | e
    · exact h.rob b off v e
    · exact .inr (.inl (Nat.le_trans h.sz e))
    · exact .inr (hin b e)
  · rcases k.par n b g blk h1 h2 h3 with e | e
    · exact .inl (Nat.le_trans h.sz e)
    · exact hin b e
  · have hlt : b < w.heap.size := Nat.lt_of_lt_of_le hb h.sz
    refine (k.keep b hlt fun hbk => ?_).trans (h.keep b hb hp)
    rcases hin b hbk with e | e
    · omega
    · exact hp e
/-- A block that was made ahead of its turn. -/
structure Ea (X : Ctx) (E : Es) (ro : RO) (w : World) (z : Value) (T : TypeId) (b : Nat) : Prop where
  hb : w.heap[b]? = some (.cells z.cells T (0, 0))
  lo : X.w0.heap.size ≤ b
  liv : ∀ (n : Nat) (g : Gb) (blk : B), E[n]? = some (g, blk) → blk.live = true → g.ob ≠ some b
  ro : ∀ off v, ro b off ≠ some v
theorem Ea.lt {z : Value} {T : TypeId} {b : Nat} (h : Ea X E ro w z T b) : b < w.heap.size := by
  rcases Nat.lt_or_ge b w.heap.size with e | e
  · exact e
  · have := h.hb; rw [Array.getElem?_eq_none e] at this; cases this
theorem Ea.keep {z : Value} {T : TypeId} {b : Nat} (h : Ea X E ro w z T b) (k : Rel ⟨w, blks E, ro, gm E⟩ E' ro' w') : Ea X E' ro' w' z T b := by
  have hlt := h.lt
  have hbk : b ∉ blks E := fun hb => by
    obtain ⟨n, g, blk, h1, h2, h3⟩ := mem_blks.1 hb
    exact h.liv n g blk h1 h3 h2
  refine ⟨(k.keep b hlt hbk).trans h.hb, h.lo, fun n g blk h1 h2 h3 => ?_, fun off v hv => ?_⟩
  · rcases k.par n b g blk h1 h3 h2 with e | e
    · exact absurd hlt (Nat.not_lt.2 e)
    · exact hbk e
  · rcases k.rob b off v hv with e | e | e
    · exact h.ro off v e
    · exact absurd hlt (Nat.not_lt.2 e)
    · exact hbk e
theorem Rel.admit (h : Rel X E ro w) {z : Value} {T : TypeId} {b : Nat} (e : Ea X E ro w z T b) :
    Rel X (E ++ [(⟨some b, false, 0, 0, T, z.cells.toList⟩, .cells (z.cells.toList.map C.vl) T)]) ro w := by
  have hext : GExt (gm E) (gm (E ++ [(⟨some b, false, 0, 0, T, z.cells.toList⟩, .cells (z.cells.toList.map C.vl) T)])) := gext_app _
  have hget : ∀ (n : Nat) (y : Gb × B), (E ++ [(⟨some b, false, 0, 0, T, z.cells.toList⟩, B.cells (z.cells.toList.map C.vl) T)])[n]? = some y → (n = E.length ∧ y = (⟨some b, false, 0, 0, T, z.cells.toList⟩, .cells (z.cells.toList.map C.vl) T)) ∨ (n < E.length ∧ E[n]? = some y) := by
    intro n y hy
    rw [List.getElem?_append] at hy
    split at hy
    · exact .inr ⟨by assumption, hy⟩
    · rename_i hge
      have : n - E.length = 0 := by
        rcases Nat.eq_zero_or_pos (n - E.length) with h0 | h0
        · exact h0
        · rw [List.getElem?_eq_none (by simp; omega)] at hy; cases hy
      rw [this] at hy
      exact .inl ⟨by omega, by simpa using hy.symm⟩
  refine ⟨fun n g' bk hy => ?_, fun n m gn gm bn bm k hy hz en em ln lm => ?_, fun k off c hc n gn bk hy en => ?_, h.rd, h.ro0, h.rob, fun n k gn bk hy en ln => ?_, h.gx.trans hext, h.sz, h.keep, h.os, h.tape, h.output⟩
  · rcases hget n _ hy with ⟨rfl, he⟩ | ⟨hlt, hy'⟩
    · simp only [Prod.mk.injEq] at he
      obtain ⟨rfl, rfl⟩ := he
      exact ⟨rfl, b, rfl, by rw [e.hb], all2_vl _⟩
    · by_cases hlv : bk.live = true
      · exact (h.own n g' bk hy').same hext (Ext.refl _) fun k hk => rfl
      · cases bk <;> simp [B.live] at hlv; trivial
  · rcases hget n _ hy with ⟨rfl, he⟩ | ⟨hlt, hy'⟩ <;> rcases hget m _ hz with ⟨rfl, he2⟩ | ⟨hlt2, hz'⟩
    · rfl
    · simp only [Prod.mk.injEq] at he; obtain ⟨rfl, rfl⟩ := he
      simp only [Option.some.injEq] at en
      subst en
      exact absurd em (e.liv m gm bm hz' lm)
    · simp only [Prod.mk.injEq] at he2; obtain ⟨rfl, rfl⟩ := he2
      simp only [Option.some.injEq] at em
      subst em
      exact absurd en (e.liv n gn bn hy' ln)
    · exact h.inj n m gn gm bn bm k hy' hz' en em ln lm
  · rcases hget n _ hy with ⟨rfl, he⟩ | ⟨hlt, hy'⟩
    · simp only [Prod.mk.injEq] at he; obtain ⟨rfl, rfl⟩ := he
      simp only [Option.some.injEq] at en
      subst en
      exact absurd hc (e.ro off c)
    · exact h.apart k off c hc n gn bk hy' en
  · rcases hget n _ hy with ⟨rfl, he⟩ | ⟨hlt, hy'⟩
    · simp only [Prod.mk.injEq] at he; obtain ⟨rfl, rfl⟩ := he
      simp only [Option.some.injEq] at en
      subst en
      exact .inl e.lo
    · exact h.par n k gn bk hy' en ln
end
/-! ### Plain facts of the order -/
def Dn (l : Array Bool) (i : Nat) : Prop := l.getD i false = true
theorem ancGo_all {ops : Array Oper} {p : Nat → Prop} (hcl : ∀ i k, p i → Region.waitsFor .any ops i k = true → p k) : ∀ (ks s : List Nat), (∀ t ∈ s, p t) → ∀ t ∈ ancGo ops ks s, p t
  | [], s, h => h
  | k :: r, s, h => by
    refine ancGo_all hcl r _ fun t ht => ?_
    split at ht
    · rename_i hany
      obtain ⟨u, hu, hw⟩ := List.any_eq_true.1 hany
      rcases List.mem_cons.1 ht with rfl | ht
      · exact hcl u t (h u hu) hw
      · exact h t ht
    · exact h t ht
theorem anc_all {ops : Array Oper} {p : Nat → Prop} (hcl : ∀ i k, p i → Region.waitsFor .any ops i k = true → p k) {i : Nat} (hi : p i) : ∀ t ∈ anc ops i, p t :=
  ancGo_all hcl _ _ fun t ht => by rw [List.mem_singleton.1 ht]; exact hi
/-- One place of the order, told. -/
structure Ck (ops : Array Oper) (js : List J) (pre : List Nat) (i : Nat) (r : List Nat) : Prop where
  lt : i < ops.size
  new : i ∉ pre
  wt : ∀ o, ops[i]? = some o → ∀ e ∈ o.after, Region.binds .any e = true → e.on ∈ pre
  q1 : (isQ ops js i = true ∨ isA js i = true) → ∀ k ∈ pre, ∀ s ∈ rdl js k, dsl js i ≠ some s
  rd : ∀ k ∈ pre, ∀ s ∈ rdl js i, dsl js k = some s → isQ ops js k = true → k ∈ anc ops i
  ds : ∀ d, dsl js i = some d → ∀ k ∈ pre, dsl js k ≠ some d
  own : isQ ops js i = true → ∀ s ∈ rdl js i, dsl js i ≠ some s
  hd : isQ ops js i = false → ∀ j ∈ r, isA js j = false → Region.waitsFor .any ops j i = true ∨ ∃ k ∈ r, isA js k = false ∧ Region.waitsFor .any ops j k = true
  a1 : isA js i = true → ∀ k ∈ pre, isA js k = false
theorem ck_of {ops : Array Oper} {js : List J} {pre : List Nat} {i : Nat} {r : List Nat} (h : chk1 ops js pre i r = true) : Ck ops js pre i r := by
  unfold chk1 at h
  simp only [Bool.and_eq_true, decide_eq_true_eq] at h
  obtain ⟨⟨⟨⟨⟨⟨⟨⟨h1, h2⟩, h3⟩, h4⟩, h5⟩, h6⟩, h7⟩, h8⟩, h9⟩ := h
  refine ⟨h1, by simpa using h2, fun o ho e he hb => ?_, fun hq k hk s hs heq => ?_, fun k hk s hs heq hq => ?_, fun d hd k hk heq => ?_, fun hq s hs heq => ?_, fun hq j hj ha => ?_, fun ha k hk => ?_⟩
  · rw [ho] at h3
    have := Array.all_eq_true_iff_forall_mem.1 h3 e he
    simpa [hb] using this
  · have hq' : (isQ ops js i || isA js i) = true := by rw [Bool.or_eq_true]; exact hq
    rw [hq'] at h4
    have h' : ∀ k ∈ pre, ∀ s ∈ rdl js k, ¬ dsl js i = some s := by simpa using h4
    exact h' k hk s hs heq
  · have := List.all_eq_true.1 h5 k hk
    have h' : ((rdl js i).any fun s => dsl js k == some s) = true := List.any_eq_true.2 ⟨s, hs, by simp [heq]⟩
    rw [h', hq] at this
    simpa using this
  · rw [hd] at h6
    have := List.all_eq_true.1 h6 k hk
    simp [heq] at this
  · rw [hq] at h7
    have h' : ((rdl js i).any fun s => dsl js i == some s) = true := List.any_eq_true.2 ⟨s, hs, by simp [heq]⟩
    rw [h'] at h7; cases h7
  · rw [hq, Bool.false_or] at h8
    have := List.all_eq_true.1 h8 j hj
    rw [ha, Bool.false_or, Bool.or_eq_true] at this
    rcases this with h | h
    · exact .inl h
    · obtain ⟨k, hk, h⟩ := List.any_eq_true.1 h
      simp only [Bool.and_eq_true, Bool.not_eq_true'] at h
      exact .inr ⟨k, hk, h.1, h.2⟩
  · rw [ha] at h9
    have h' : ∀ k ∈ pre, isA js k = false := by simpa using h9
    exact h' k hk
theorem ordC_at {ops : Array Oper} {js : List J} : ∀ (l pre p : List Nat) (i : Nat) (r : List Nat), ordC ops js pre l = true → l = p ++ i :: r → Ck ops js (pre ++ p) i r
  | [], _, p, i, r, _, h => by cases p <;> cases h
  | x :: l, pre, [], i, r, hB, h => by
    simp only [ordC, Bool.and_eq_true] at hB
    obtain ⟨rfl, rfl⟩ : x = i ∧ l = r := by simpa using h
    rw [List.append_nil]; exact ck_of hB.1
  | x :: l, pre, y :: p, i, r, hB, h => by
    simp only [ordC, Bool.and_eq_true] at hB
    obtain ⟨rfl, rfl⟩ : x = y ∧ l = p ++ i :: r := by simpa using h
    have := ordC_at _ (pre ++ [x]) p i r hB.2 rfl
    simpa using this
theorem nodup_le : ∀ (n : Nat) (l : List Nat), l.Nodup → (∀ k ∈ l, k < n) → l.length ≤ n
  | 0, l, _, h => by
    cases l with
    | nil => exact Nat.le_refl _
    | cons x l => exact absurd (h x (by simp)) (by omega)
  | n + 1, l, hn, h => by
    by_cases hm : n ∈ l
    · have h1 := nodup_le n (l.erase n) (hn.erase n) fun k hk => by
        obtain ⟨h2, h3⟩ := (hn.mem_erase_iff).1 hk
        have := h k h3
        omega
      have h2 := List.length_erase_of_mem hm
      omega
    · have := nodup_le n l hn fun k hk => by
        have h3 := h k hk
        have : k ≠ n := fun e => hm (e ▸ hk)
        omega
      omega
/-- Whole and without a repetition: all places are met. -/
theorem ord_all {ops : Array Oper} {js : List J} {π : List Nat} (hC : ordC ops js [] π = true) (hl : π.length = ops.size) : ∀ i, i < ops.size → i ∈ π := by
  have hck : ∀ (p : List Nat) (i : Nat) (r : List Nat), π = p ++ i :: r → i < ops.size ∧ i ∉ p := fun p i r e => by
    have := ordC_at π [] p i r hC e
    exact ⟨this.lt, by simpa using this.new⟩
  have hnd : π.Nodup := by
    have key : ∀ (q p : List Nat), π = p ++ q → p.Nodup → (p ++ q).Nodup := fun q => by
      induction q with
      | nil => intro p _ hp; simpa using hp
      | cons x q ih =>
        intro p e hp
        have h1 := (hck p x q e).2
        have := ih (p ++ [x]) (by rw [e]; simp) (by
          rw [List.nodup_append]
          exact ⟨hp, List.nodup_cons.2 ⟨by simp, List.nodup_nil⟩, fun a ha b hb => by rw [List.mem_singleton.1 hb]; rintro rfl; exact h1 ha⟩)
        simpa using this
    have := key π [] rfl List.nodup_nil
    simpa using this
  have hlt : ∀ i ∈ π, i < ops.size := fun i hi => by
    obtain ⟨p, r, e⟩ := List.append_of_mem hi
    exact (hck p i r e).1
  intro i hi
  refine Classical.byContradiction fun hn => ?_
  have := nodup_le ops.size (i :: π) (List.nodup_cons.2 ⟨hn, hnd⟩) fun k hk => by
    rcases List.mem_cons.1 hk with rfl | hk
    · exact hi
    · exact hlt k hk
  rw [List.length_cons, hl] at this
  omega
def cnt (n : Nat) (l : Array Bool) : Nat := ((List.range n).filter fun i => !l.getD i false).length
theorem filt_lt {p q : Nat → Bool} (h : ∀ i, q i = true → p i = true) {k : Nat} (hp : p k = true) (hq : q k = false) : ∀ (l : List Nat), k ∈ l → (l.filter q).length < (l.filter p).length
  | [], hk => by cases hk
  | x :: l, hk => by
    have hle : (l.filter q).length ≤ (l.filter p).length := by
      clear hk
      induction l with
      | nil => exact Nat.le_refl _
      | cons y l ih =>
        simp only [List.filter_cons]
        cases hy : q y with
        | true => rw [h y hy]; simpa using ih
        | false => cases p y <;> simp <;> omega
    simp only [List.filter_cons]
    rcases List.mem_cons.1 hk with rfl | hk
    · rw [hp, hq]; simp; omega
    · have := filt_lt h hp hq l hk
      cases hx : q x with
      | true => rw [h x hx]; simpa using this
      | false => cases p x <;> simp <;> omega
theorem dn_set {l : Array Bool} {k i : Nat} (h : Dn l i) : Dn (l.setIfInBounds k true) i := getD_set_true h
theorem dn_self {l : Array Bool} {k : Nat} (h : k < l.size) : Dn (l.setIfInBounds k true) k := by simp [Dn, h]
theorem dn_of_set {l : Array Bool} {k i : Nat} (h : Dn (l.setIfInBounds k true) i) : Dn l i ∨ i = k := by
  by_cases e : k = i
  · exact .inr e.symm
  · unfold Dn at h; rw [getD_set_ne false e] at h; exact .inl h
theorem cnt_set {n : Nat} {l : Array Bool} {k : Nat} (hk : k < n) (hs : l.size = n) (hu : ¬ Dn l k) : cnt n (l.setIfInBounds k true) < cnt n l := by
  refine filt_lt (fun i hi => ?_) (k := k) (by simpa [Dn] using hu) ?_ _ (List.mem_range.2 hk)
  · cases hd : l.getD i false with
    | false => rfl
    | true => have := dn_set (k := k) (show Dn l i from hd); unfold Dn at this; rw [this] at hi; cases hi
  · have := dn_self (l := l) (k := k) (by omega); unfold Dn at this; rw [this]; rfl
theorem cnt_zero {n : Nat} {l : Array Bool} (h : cnt n l = 0) : ∀ i, i < n → Dn l i := fun i hi => by
  have : (List.range n).filter (fun i => !l.getD i false) = [] := List.eq_nil_of_length_eq_zero h
  have := List.filter_eq_nil_iff.1 this i (List.mem_range.2 hi)
  simpa [Dn] using this
/-- What carries slots of its own over a frame. -/
def over (ov : Nat → Option S) (fr : Fr) : Fr := fun i => match ov i with
  | some s => s
  | none => fr i
theorem over_none {ov : Nat → Option S} {fr : Fr} {i : Nat} (h : ov i = none) : over ov fr i = fr i := by unfold over; rw [h]
theorem over_some {ov : Nat → Option S} {fr : Fr} {i : Nat} {s : S} (h : ov i = some s) : over ov fr i = s := by unfold over; rw [h]
theorem rcs_spec {Γ : Env} {js : List J} {kd : List Nat} {fr : Fr} {H : Hp} {K : Fr → Hp → Prop} {r : List OJ} : ∀ {qs : List Nat}, vO Γ (rcs js qs kd ++ r) fr H K →
    (∀ k ∈ qs, k ∉ kd → ∀ j, js[k]? = some j → vJ Γ fr H (fun fr' _ => fr' j.dn = fr j.dn) j) ∧ vO Γ r fr H K
  | [], h => ⟨fun k hk => (by cases hk), h⟩
  | q :: qs, h => by
    unfold rcs at h
    rw [List.filterMap_cons] at h
    cases hc : kd.contains q with
    | true =>
      rw [hc] at h
      obtain ⟨h1, h2⟩ := rcs_spec (qs := qs) h
      refine ⟨fun k hk hn => ?_, h2⟩
      rcases List.mem_cons.1 hk with rfl | hk
      · exact absurd (by simpa using hc) hn
      · exact h1 k hk hn
    | false =>
      rw [hc] at h
      cases hj : js[q]? with
      | none =>
        rw [hj] at h
        obtain ⟨h1, h2⟩ := rcs_spec (qs := qs) h
        refine ⟨fun k hk hn j hjj => ?_, h2⟩
        rcases List.mem_cons.1 hk with rfl | hk
        · rw [hj] at hjj; cases hjj
        · exact h1 k hk hn j hjj
      | some j0 =>
        rw [hj] at h
        obtain ⟨h0, h⟩ := h
        obtain ⟨h1, h2⟩ := rcs_spec (qs := qs) h
        refine ⟨fun k hk hn j hjj => ?_, h2⟩
        rcases List.mem_cons.1 hk with rfl | hk
        · rw [hj] at hjj; cases hjj; exact h0
        · exact h1 k hk hn j hjj
end Go.W
