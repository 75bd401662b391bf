/- The W library, part 11: guards, calls, regions. -/
import Derived.Test.YtngmjggconefcaaW10
import Derived.Deep.Quiet
namespace Go.W

def blks (E : Es) : List Nat := E.filterMap fun e => if e.2.live then e.1.ob else none
theorem mem_blks {E : Es} {b : Nat} : b ∈ blks E ↔ ∃ (n : Nat) (g : Gb) (blk : B), E[n]? = some (g, blk) ∧ g.ob = some b ∧ B.live blk = true := by
  unfold blks
  rw [List.mem_filterMap]
  constructor
  · rintro ⟨⟨g, blk⟩, hm, he⟩
    simp only at he
    split at he
    · rename_i hl
      obtain ⟨n, hn⟩ := List.mem_iff_getElem?.1 hm
      exact ⟨n, g, blk, hn, he, hl⟩
    · cases he
  · rintro ⟨n, g, blk, hn, hb, hl⟩
    exact ⟨(g, blk), List.mem_of_getElem? hn, by simp [hl, hb]⟩

def Meets (P : Program) (f : FuncId) (s : Spec) : Prop :=
  enters P f = true ∧ ∀ (as : List S) (vs : List Value) (E : Es) (ro : RO) (w : World) (K : S → Hp → Prop), as.length = vs.length → (∀ (i : Nat) (x : S) (v : Value), as[i]? = some x → vs[i]? = some v → x.rel (gm E) ro v) →
    Rel ⟨w, blks E, ro, gm E⟩ E ro w → s as (hp E) K →
    Calls P f vs.toArray w (fun e w' => ∃ r v E' ro', e = .returned v ∧ S.rel (gm E') ro' r v ∧ K r (hp E') ∧ Rel ⟨w, blks E, ro, gm E⟩ E' ro' w')

def MeetsAll (P : Program) (Γ : Env) : Prop := ∀ f s, (f, s) ∈ Γ → Meets P f s.sp ∧ ∀ p, s.fn = some p → Meets P f p.sp

theorem sp_mem {f : FuncId} {as : List S} {H : Hp} {K : S → Hp → Prop} : ∀ {Γ : Env}, sp Γ f as H K → ∃ s, (f, s) ∈ Γ ∧ s.sp as H K
  | [], h => h.elim
  | (g, s) :: r, h => by
    simp only [sp] at h
    split at h
    · rename_i hg; subst hg; exact ⟨s, by simp, h⟩
    · obtain ⟨s', h1, h2⟩ := sp_mem h; exact ⟨s', by simp [h1], h2⟩

theorem fnOf_mem {f : FuncId} {p : Fun} : ∀ {Γ : Env}, fnOf Γ f = some p → ∃ s, (f, s) ∈ Γ ∧ s.fn = some p
  | [], h => by simp [fnOf] at h
  | (g, s) :: r, h => by
    simp only [fnOf] at h
    split at h
    · rename_i hg; subst hg; exact ⟨s, by simp, h⟩
    · obtain ⟨s', h1, h2⟩ := fnOf_mem h; exact ⟨s', by simp [h1], h2⟩

theorem meetsAll_nil (P : Program) : MeetsAll P [] := fun f s h => by simp at h
theorem meetsAll_s {P : Program} {f : FuncId} {s : Spec} {Γ : Env} (h : Meets P f s) (hr : MeetsAll P Γ) : MeetsAll P ((f, .s s) :: Γ) := by
  intro g t hm
  rcases List.mem_cons.1 hm with he | hm
  · simp only [Prod.mk.injEq] at he; obtain ⟨rfl, rfl⟩ := he; exact ⟨h, fun p hp => by simp [Entry.s] at hp⟩
  · exact hr g t hm
theorem meetsAll_f {P : Program} {f : FuncId} {p : Fun} {Γ : Env} (h : Meets P f p.sp) (hr : MeetsAll P Γ) : MeetsAll P ((f, .f p) :: Γ) := by
  intro g t hm
  rcases List.mem_cons.1 hm with he | hm
  · simp only [Prod.mk.injEq] at he; obtain ⟨rfl, rfl⟩ := he; exact ⟨h, fun q hq => by simp only [Entry.f, Option.some.injEq] at hq; subst hq; exact h⟩
  · exact hr g t hm

/-! ### Guards -/
def res (fr : Fr) : Fr := fun i => match fr i with | .cn g a => bif g then .va a else .un | s => s

section
variable {P : Program} {o : Oper} {N : Nat} {fr : Fr} {a : Act} {E : Es} {γ : List Gb} {ro : RO} {X : Ctx} {w : World} {nw : Bool} {Γ : Env} {ops : Array Oper}

theorem FRel.res (h : FRel N γ ro fr a) : FRel N γ ro (res fr) a := by
  refine ⟨h.size, fun i => ?_, h.defers⟩
  have := h.slot i
  unfold W.res
  split
  · rename_i g y he
    rw [he] at this
    cases g
    · trivial
    · exact this.1 rfl
  · exact this

theorem gds_get : ∀ {l : List Nat}, gds fr l → ∀ j ∈ l, (fr j).gd
  | [], _, j, hj => by simp at hj
  | i :: r, h, j, hj => by
    rcases List.mem_cons.1 hj with rfl | hj
    · exact h.1
    · exact gds_get h.2 j hj

theorem fst_res {l : List Nat} (h : gds fr l) : ∀ j ∈ l, fst fr j = res fr j := by
  intro j hj
  have := gds_get h j hj
  unfold W.fst W.res S.st
  cases hfr : fr j with
  | cn g y => rw [hfr] at this; simp only [S.gd] at this; subst this; rfl
  | va y => rfl
  | tu l => rfl
  | un => rfl

theorem gv_spec (hf : FRel N γ ro fr a) {sl : Nat} {want g : Bool} (hg : gv fr sl want = some g) {k : Nat} (hk : (ops[k]?).bind (·.dst) = some sl) : (yielded ops a.tmps k == some want) = g ∧ (g = true → a.tmps.getD sl undef = .bool want) ∧
    (g = false → ∀ b, fr sl = bS b → a.tmps.getD sl undef = .bool (!want)) := by
  have hs := hf.slot sl
  have key : ∀ b : Bool, a.tmps.getD sl undef = .bool b → a.tmps[sl]? = some (.bool b) := by
    intro b hb
    rw [Array.getD_eq_getD_getElem?] at hb
    cases h : a.tmps[sl]? with
    | none => rw [h] at hb; simp [undef] at hb
    | some v => rw [h] at hb; simp at hb; rw [hb]
  have hfalse : ∀ x : A, fr sl = .cn false x → (yielded ops a.tmps k == some want) = false ∧ (false = true → a.tmps.getD sl undef = .bool want) ∧ (false = false → ∀ b, fr sl = bS b → a.tmps.getD sl undef = .bool (!want)) := by
    intro x he
    rw [he] at hs
    have hu : a.tmps.getD sl undef = undef := hs.2 rfl
    have : ∀ b : Bool, a.tmps[sl]? ≠ some (.bool b) := by
      intro b hb
      rw [Array.getD_eq_getD_getElem?, hb] at hu
      simp [undef] at hu
    refine ⟨?_, by simp, fun h b' hb' => by rw [he] at hb'; cases hb'⟩
    unfold yielded
    rw [hk]
    simp only [Option.bind_some]
    cases h : a.tmps[sl]? with
    | none => rfl
    | some v =>
      cases v with
      | bool b => exact absurd h (this b)
      | _ => rfl
  unfold gv at hg
  split at hg <;> simp only [Option.some.injEq, reduceCtorEq] at hg
  · rename_i b he
    rw [he] at hs
    have hs' : a.tmps.getD sl undef = .bool b := hs
    unfold yielded
    rw [hk]
    simp only [Option.bind_some]
    rw [key b hs']
    subst hg
    refine ⟨by cases b <;> cases want <;> rfl, fun h => ?_, fun h b' hb' => ?_⟩
    · rw [hs']; simp at h; rw [h]
    · rw [hs']; cases b <;> cases want <;> simp_all
  · rename_i g0 b he
    cases g0 with
    | true =>
      rw [he] at hs
      have hs' : a.tmps.getD sl undef = .bool b := hs.1 rfl
      unfold yielded
      rw [hk]
      simp only [Option.bind_some]
      rw [key b hs']; subst hg
      refine ⟨by cases b <;> cases want <;> rfl, fun h => ?_, fun h b' hb' => ?_⟩
      · rw [hs']; simp at h; rw [h]
      · rw [he] at hb'; cases hb'
    | false =>
      subst hg
      rw [Bool.false_and]
      exact hfalse _ he
  · rename_i x _ he
    subst hg
    exact hfalse _ he

theorem setslot (hf : FRel N γ ro fr a) {sl : Nat} {s : S} (h : s.rel γ ro (a.tmps.getD sl undef)) : FRel N γ ro (put fr (some sl) s) a := by
  refine ⟨hf.size, fun i => ?_, hf.defers⟩
  simp only [W.put]
  split
  · rename_i hi; subst hi; exact h
  · exact hf.slot i
theorem rfn_rel (hf : FRel N γ ro fr a) {sl : Nat} {want : Bool} (h : a.tmps.getD sl undef = .bool want) : FRel N γ ro (rfn fr sl want) a := setslot hf h
theorem rff_rel (hf : FRel N γ ro fr a) {sl : Nat} {want : Bool} (h : ∀ b, fr sl = bS b → a.tmps.getD sl undef = .bool (!want)) : FRel N γ ro (rff fr sl want) a := by
  unfold rff
  split
  · rename_i b he; exact setslot hf (h b he)
  · exact hf

theorem trJ_spec {σ : CH} {j : J} (h : trJ P nw N ops σ o = some j) : trI P nw σ o.op = some j.i ∧ trG ops o.guard = some j.g ∧ j.d = o.dst ∧ ∀ k, o.dst = some k → k < N := by
  unfold trJ at h
  split at h
  · rename_i i g hi hg
    split at h
    · rename_i d hd
      split at h
      · rename_i hlt; simp only [Option.some.injEq] at h; subst h; exact ⟨hi, hg, rfl, fun k hk => by rw [hd] at hk; simp only [Option.some.injEq] at hk; rw [← hk]; exact hlt⟩
      · cases h
    · rename_i hd
      simp only [Option.some.injEq] at h; subst h; exact ⟨hi, hg, rfl, fun k hk => by rw [hd] at hk; cases hk⟩
  · cases h

theorem trI_q {σ : CH} {op : Op} {i : QI} (h : trI P nw σ op = some (.q i)) : trQ P nw op = some i := by
  unfold trI at h
  split at h
  · rename_i h1; simp only [Option.some.injEq, I.q.injEq] at h; rw [← h]; exact h1
  · repeat' (split at h)
    all_goals first | (simp at h; done) | (cases σ <;> simp at h; done)
theorem trI_l {σ : CH} {op : Op} {i : LI} (h : trI P nw σ op = some (.l i)) : trL P op = some i := by
  unfold trI at h
  split at h
  · simp at h
  · split at h
    · rename_i h1; simp only [Option.some.injEq, I.l.injEq] at h; rw [← h]; exact h1
    · repeat' (split at h)
      all_goals first | (simp at h; done) | (cases σ <;> simp at h; done)
theorem trI_ix {σ : CH} {op : Op} {x y : O} (h : trI P nw σ op = some (.ix x y)) : trX P op = some (x, y) := by
  unfold trI at h
  split at h
  · simp at h
  · split at h
    · simp at h
    · split at h
      · rename_i h1; simp only [Option.some.injEq, I.ix.injEq] at h; obtain ⟨rfl, rfl⟩ := h; exact h1
      · repeat' (split at h)
        all_goals first | (simp at h; done) | (cases σ <;> simp at h; done)
theorem trI_e {σ : CH} {op : Op} {i : EI} (h : trI P nw σ op = some (.e i)) : trE P op = some i := by
  unfold trI at h
  split at h
  · simp at h
  · split at h
    · simp at h
    · split at h
      · simp at h
      · split at h
        · rename_i h1; simp only [Option.some.injEq, I.e.injEq] at h; rw [← h]; exact h1
        · repeat' (split at h)
          all_goals first | (simp at h; done) | (cases σ <;> simp at h; done)
theorem trI_pick {σ : CH} {op : Op} {c x y : O} (h : trI P nw σ op = some (.pick c x y)) : ∃ c' x' y', op = .pick c' x' y' ∧ c = trO c' ∧ x = trO x' ∧ y = trO y' := by
  unfold trI at h
  repeat' (split at h)
  all_goals first
    | (simp only [Option.some.injEq, I.pick.injEq] at h; exact ⟨_, _, _, rfl, h.1.symm, h.2.1.symm, h.2.2.symm⟩)
    | (simp at h; done)
    | (cases σ <;> simp at h; done)
theorem trI_cl {σ : CH} {σ' : List Nat} {op : Op} {f : FuncId} {xs : List O} (h : trI P nw σ op = some (.cl f xs σ')) : ∃ c : Call, op = .call c ∧ c.callee = .value (.func f) ∧ xs = c.args.toList.map trO := by
  unfold trI at h
  split at h
  · simp at h
  · split at h
    · simp at h
    · split at h
      · simp at h
      · split at h
        · simp at h
        · split at h
          · simp at h
          · rename_i c _ _ _ _
            split at h
            · rename_i g hcal
              cases σ with
              | own l =>
                simp only [Option.some.injEq, I.cl.injEq] at h
                obtain ⟨rfl, rfl, rfl⟩ := h
                exact ⟨c, rfl, hcal, rfl⟩
              | q => simp at h
            · cases σ <;> simp at h
            · cases h
          · cases h
theorem trI_ca {σ : CH} {σ' : List Nat} {op : Op} {x : O} {xs : List O} (h : trI P nw σ op = some (.ca x xs σ')) : ∃ (c : Call) (t : Nat), op = .call c ∧ c.callee = .value (.tmp t) ∧ x = .t t ∧ xs = c.args.toList.map trO := by
  unfold trI at h
  split at h
  · simp at h
  · split at h
    · simp at h
    · split at h
      · simp at h
      · split at h
        · simp at h
        · split at h
          · simp at h
          · rename_i c _ _ _ _
            split at h
            · cases σ <;> simp at h
            · rename_i t hcal
              cases σ with
              | own l =>
                simp only [Option.some.injEq, I.ca.injEq] at h
                obtain ⟨rfl, rfl, rfl⟩ := h
                exact ⟨c, t, rfl, hcal, rfl, rfl⟩
              | q => simp at h
            · cases h
          · cases h
theorem trI_cq {σ : CH} {op : Op} {f : FuncId} {xs : List O} (h : trI P nw σ op = some (.cq f xs)) : ∃ c : Call, op = .call c ∧ c.callee = .value (.func f) ∧ xs = c.args.toList.map trO := by
  unfold trI at h
  split at h
  · simp at h
  · split at h
    · simp at h
    · split at h
      · simp at h
      · split at h
        · simp at h
        · split at h
          · simp at h
          · rename_i c _ _ _ _
            split at h
            · rename_i g hcal
              cases σ with
              | own l => simp at h
              | q =>
                simp only [Option.some.injEq, I.cq.injEq] at h
                obtain ⟨rfl, rfl⟩ := h
                exact ⟨c, rfl, hcal, rfl⟩
            · cases σ <;> simp at h
            · cases h
          · cases h

theorem wanted_none (h : o.guard = none) (y : Nat → Option Bool) : Region.wanted o y = true := by simp [Region.wanted, h]
theorem mrg_rel {b : Bool} {x y : A} {u v : Value} (hx : b = true → x.rel γ ro u) (hy : b = false → y.rel γ ro v) : (mrg b x y).rel γ ro (if b then u else v) := by
  cases b with
  | true =>
    have := hx rfl
    unfold mrg
    split
    · exact this
    · exact this
  | false =>
    have := hy rfl
    unfold mrg
    split
    · exact this
    · exact this

/-- What a quiet instruction gives: there is a value, for every world of the class. -/
def QJ (P : Program) (N : Nat) (o : Oper) (a : Act) (E : Es) (ro : RO) (X : Ctx) (K : Fr → Hp → Prop) : Prop :=
  ∃ fr', K fr' (hp E) ∧ ∃ v, FRel N (gm E) ro fr' (a.put o.dst v) ∧ ∀ w, Rel X E ro w → (execOp a.eval o).run P w = .ok (.value v) w

theorem QOk.qj {s : S} (h : QOk P o E ro a s) (hf : FRel N (gm E) ro fr a) (hN : ∀ k, o.dst = some k → k < N) {K : Fr → Hp → Prop} (hK : K (put fr o.dst s) (hp E)) : QJ P N o a E ro X K := by
  obtain ⟨v, h1, h2⟩ := h
  exact ⟨_, hK, v, hf.put hN h1, fun w hr => h2 X w hr⟩

theorem qj0 (hf : FRel N (gm E) ro fr a) (hr0 : Rel X E ro w) {σ : CH} {i : I} (hi : trI P nw σ o.op = some i) (hN : ∀ k, o.dst = some k → k < N) (hq : (J.mk o.dst none i).quiet = true) {K : Fr → Hp → Prop} (hv : vJ0 Γ fr (hp E) K o.dst i) : QJ P N o a E ro X K := by
  cases i with
  | q q =>
    simp only [vJ0] at hv
    split at hv
    · rename_i s hs
      obtain ⟨h1, h2, hK⟩ := hv
      obtain ⟨e1, e2⟩ := q_congr (H := hp E) (i := q) (fr := fst fr) (fr2 := W.res fr) (fst_res h1)
      rw [e1] at hs
      rw [e2] at h2
      exact (q_sound hf.res hr0 (trI_q hi) hs h2).qj hf hN hK
    · exact hv.elim
  | ix x y =>
    simp only [vJ0] at hv
    split at hv
    · rename_i s k n hx hy
      obtain ⟨⟨hg, h0, h1⟩, hK⟩ := hv
      have hfr := fst_res hg
      have hx' : ev (W.res fr) x = tS s := by rw [← ev_congr (fr := fst fr) (fun j hj => hfr j (by simp [hj]))]; exact hx
      have hy' : ev (W.res fr) y = iS k n := by rw [← ev_congr (fr := fst fr) (fun j hj => hfr j (by simp [hj]))]; exact hy
      obtain ⟨c, hc, hq⟩ := x_sound hf.res (trI_ix hi) hx' hy' ⟨h0, h1⟩
      exact hq.qj hf hN (hK c hc)
    · exact hv.elim
  | l i =>
    obtain ⟨hg, hv⟩ := hv
    rw [l_congr (fst_res hg)] at hv
    obtain ⟨s, hK, hq⟩ := l_sound hf.res hr0 (trI_l hi) hv
    exact hq.qj hf hN hK
  | pick c x y =>
    simp only [vJ0] at hv
    split at hv
    · rename_i b ax ay hc hx hy
      obtain ⟨hgc, hgx, hgy, hK⟩ := hv
      obtain ⟨c', x', y', ho, rfl, rfl, rfl⟩ := trI_pick hi
      have hc2 : a.eval c' = .bool b := by
        have := ev_rel hf.res c'
        rw [← ev_congr (fr := fst fr) (fst_res hgc), hc] at this
        exact this
      have hq : QOk P o E ro a (.va (mrg b ax ay)) := by
        refine ⟨if b then a.eval x' else a.eval y', mrg_rel (fun hb => ?_) (fun hb => ?_), fun X w _ => by simp [execOp, ho, hc2, asBool]⟩
        · have := ev_rel hf.res x'
          rw [← ev_congr (fr := fst fr) (fst_res (hgx hb)), hx] at this
          exact this
        · have := ev_rel hf.res y'
          rw [← ev_congr (fr := fst fr) (fst_res (hgy hb)), hy] at this
          exact this
      exact hq.qj hf hN hK
    · exact hv.elim
  | e i => simp [J.quiet] at hq
  | cl f xs σ => simp [J.quiet] at hq
  | ca f xs σ => simp [J.quiet] at hq
  | cq f xs => simp [J.quiet] at hq

theorem cnd_rel {g : Bool} {s : S} {v : Value} (h : g = true → s.rel γ ro v) (h2 : g = false → v = undef) : (s.cnd g).rel γ ro v := by
  cases s with
  | va y => exact ⟨h, h2⟩
  | _ => trivial
theorem dum_rel : dum.rel γ ro undef := ⟨fun h => (by cases h), fun _ => rfl⟩

/-- A quiet instruction in a region. -/
theorem jq_sound (hf : FRel N (gm E) ro fr a) (hr0 : Rel X E ro w) {σ : CH} {j : J} (hj : trJ P nw N ops σ o = some j) (hq : j.quiet = true) {K : Fr → Hp → Prop} (hv : vJ Γ fr (hp E) K j) :
    if Region.wanted o (yielded ops a.tmps) = true then QJ P N o a E ro X K else ∃ fr', K fr' (hp E) ∧ FRel N (gm E) ro fr' (a.put o.dst undef) := by
  obtain ⟨hi, hg, hd, hN⟩ := trJ_spec hj
  obtain ⟨d, jg, i⟩ := j
  simp only at hi hg hd
  subst hd
  unfold vJ at hv
  cases hgd : o.guard with
  | none =>
    rw [hgd] at hg
    simp only [trG, Option.some.injEq] at hg
    subst hg
    simp only at hv
    rw [if_pos (wanted_none hgd _)]
    exact qj0 hf hr0 hi hN hq hv
  | some gw =>
    obtain ⟨k, want⟩ := gw
    rw [hgd] at hg
    simp only [trG] at hg
    split at hg
    · rename_i sl hsl
      simp only [Option.some.injEq] at hg
      subst hg
      simp only at hv
      split at hv
      · exact hv.elim
      · rename_i g hgv
        obtain ⟨hwant, hgt, hgf⟩ := gv_spec hf hgv hsl
        have hw : Region.wanted o (yielded ops a.tmps) = g := by simp only [Region.wanted, hgd]; exact hwant
        rw [hw]
        have dm : ∀ {fr2 : Fr}, FRel N (gm E) ro fr2 a → K (put fr2 o.dst dum) (hp E) → ∃ fr', K fr' (hp E) ∧ FRel N (gm E) ro fr' (a.put o.dst undef) := fun h hK => ⟨_, hK, h.put hN dum_rel⟩
        cases i with
        | q q =>
          simp only [vJg] at hv
          split at hv
          · rename_i s hs
            obtain ⟨h1, hK⟩ := hv
            cases g with
            | true =>
              rw [if_pos rfl]
              obtain ⟨hg1, h2⟩ := h1 rfl
              obtain ⟨e1, e2⟩ := q_congr (H := hp E) (i := q) (fr := fst fr) (fr2 := W.res fr) (fst_res hg1)
              rw [e1] at hs
              rw [e2] at h2
              obtain ⟨v, k1, k2⟩ := q_sound hf.res hr0 (trI_q hi) hs h2
              exact ⟨_, hK, v, hf.put hN (cnd_rel (fun _ => k1) (fun h => by cases h)), fun w hr => k2 X w hr⟩
            | false =>
              rw [if_neg (by simp)]
              exact ⟨_, hK, hf.put hN (cnd_rel (fun h => by cases h) (fun _ => rfl))⟩
          · obtain ⟨rfl, hK⟩ := hv
            rw [if_neg (by simp)]
            exact dm hf hK
        | ix x y =>
          simp only [vJg] at hv
          split at hv
          · rename_i s k n hx hy
            obtain ⟨h1, hK⟩ := hv
            cases g with
            | true =>
              rw [if_pos rfl]
              obtain ⟨hg1, h2, h3⟩ := h1 rfl
              have hfr := fst_res hg1
              have hx' : ev (W.res fr) x = tS s := by rw [← ev_congr (fr := fst fr) (fun j hj => hfr j (by simp [hj]))]; exact hx
              have hy' : ev (W.res fr) y = iS k n := by rw [← ev_congr (fr := fst fr) (fun j hj => hfr j (by simp [hj]))]; exact hy
              obtain ⟨c, hc, v, k1, k2⟩ := x_sound hf.res (trI_ix hi) hx' hy' ⟨h2, h3⟩
              exact ⟨_, hK c fun _ => hc, v, hf.put hN ⟨fun _ => k1, fun h => by cases h⟩, fun w hr => k2 X w hr⟩
            | false =>
              rw [if_neg (by simp)]
              exact ⟨_, hK 0 (fun h => by cases h), hf.put hN (s := .cn false _) ⟨fun h => (by cases h), fun _ => rfl⟩⟩
          · obtain ⟨rfl, hK⟩ := hv
            rw [if_neg (by simp)]
            exact dm hf hK
        | l i =>
          simp only [vJg] at hv
          split at hv
          · rename_i s hs
            obtain ⟨h1, hK⟩ := hv
            cases g with
            | true =>
              rw [if_pos rfl]
              have h3 := lq_vL hs
              rw [l_congr (fst_res (h1 rfl))] at h3
              obtain ⟨s', rfl, v, k1, k2⟩ := l_sound hf.res hr0 (trI_l hi) h3
              exact ⟨_, hK, v, hf.put hN (cnd_rel (fun _ => k1) (fun h => by cases h)), fun w hr => k2 X w hr⟩
            | false =>
              rw [if_neg (by simp)]
              exact ⟨_, hK, hf.put hN (cnd_rel (fun h => by cases h) (fun _ => rfl))⟩
          obtain ⟨h1, h2⟩ := hv
          cases g with
          | true =>
            rw [if_pos rfl]
            obtain ⟨hg1, h3⟩ := h1 rfl
            have hf2 := rfn_rel hf (hgt rfl)
            rw [l_congr (fst_res hg1)] at h3
            obtain ⟨s, hK, hq⟩ := l_sound hf2.res hr0 (trI_l hi) h3
            exact hq.qj hf2 hN hK
          | false =>
            rw [if_neg (by simp)]
            exact dm (rff_rel hf (hgf rfl)) (h2 rfl)
        | pick c x y =>
          simp only [vJg] at hv
          split at hv
          · rename_i b ax ay hc hx hy
            obtain ⟨h1, hK⟩ := hv
            cases g with
            | true =>
              rw [if_pos rfl]
              obtain ⟨hgc, hgx, hgy⟩ := h1 rfl
              have h0 : vJ0 Γ fr (hp E) (fun fr' H => ∃ s, fr' = put fr o.dst s ∧ s = .va (mrg b ax ay) ∧ True) o.dst (.pick c x y) := by
                simp only [vJ0, hc, hx, hy]
                exact ⟨hgc, hgx, hgy, _, rfl, rfl, trivial⟩
              obtain ⟨fr', ⟨s, rfl, rfl, _⟩, v, k1, k2⟩ := qj0 hf hr0 hi hN rfl h0
              refine ⟨_, hK, v, ⟨k1.size, fun i => ?_, k1.defers⟩, k2⟩
              have := k1.slot i
              cases hd : o.dst with
              | none => rw [hd] at this; simpa [W.put] using this
              | some d =>
                rw [hd] at this
                simp only [W.put] at this ⊢
                split
                · rename_i he; rw [if_pos he] at this; exact ⟨fun _ => this, fun h => by cases h⟩
                · rename_i he; rw [if_neg he] at this; exact this
            | false =>
              rw [if_neg (by simp)]
              exact ⟨_, hK, hf.put hN ⟨fun h => (by cases h), fun _ => rfl⟩⟩
          · obtain ⟨rfl, hK⟩ := hv
            rw [if_neg (by simp)]
            exact dm hf hK
        | e i => simp [J.quiet] at hq
        | cl f xs σ => simp [J.quiet] at hq
        | ca f xs σ => simp [J.quiet] at hq
        | cq f xs => simp [J.quiet] at hq
    · cases hg
end
end Go.W
