/- The W library, part 13: calls of functions that only read; regions. -/
import Derived.Test.YtngmjggconefcaaW12
namespace Go.W

def C.pv : C → Value
  | .vl v => v
  | _ => undef
def A.fval : A → Value
  | .c1 c => c.pv
  | .gs cs => .agg (cs.map C.pv).toArray
theorem flat_rel {γ : List Gb} {ro : RO} {x : A} (h : x.flat) {v : Value} : x.rel γ ro v ↔ v = x.fval := by
  cases x with
  | c1 c =>
    cases c with
    | vl u => exact Iff.rfl
    | _ => exact h.elim
  | gs cs =>
    constructor
    · rintro ⟨vs, rfl, h2⟩
      simp only [A.fval]
      congr 2
      apply List.ext_getElem?
      intro i
      rw [List.getElem?_map]
      cases hi : cs[i]? with
      | none =>
        have : vs[i]? = none := by rw [List.getElem?_eq_none_iff] at hi ⊢; rw [← h2.1]; exact hi
        rw [this]; rfl
      | some c =>
        obtain ⟨u, hu, hr⟩ := h2.get hi
        obtain ⟨p, rfl⟩ := h c (List.mem_of_getElem? hi)
        rw [hu]
        exact congrArg some hr
    · rintro rfl
      refine ⟨_, rfl, by simp, fun i c v h1 h2 => ?_⟩
      rw [List.getElem?_map, h1] at h2
      obtain ⟨p, rfl⟩ := h c (List.mem_of_getElem? h1)
      simp only [Option.map_some, Option.some.injEq, C.pv] at h2
      exact h2.symm

section
variable {P : Program} {o : Oper} {N : Nat} {fr : Fr} {a : Act} {E : Es} {γ : List Gb} {ro : RO} {X : Ctx} {w : World} {nw : Bool} {Γ : Env} {ops : Array Oper}

/-- Own rows and frozen memory, together. -/
noncomputable def roB (E : Es) (ro : RO) : RO := fun b off =>
  open Classical in
  if h : ∃ v, ro b off = some v ∨ ∃ (n : Nat) (g : Gb) (xs : List (List C)) (T sz : Nat), E[n]? = some (g, .row xs T sz) ∧ g.ob = some b ∧ g.vs[off]? = some v then some (Classical.choose h) else none

theorem roB_spec (h : Rel X E ro w) : Ext ro (roB E ro) ∧ (∀ (n : Nat) (g : Gb) (xs : List (List C)) (T sz : Nat), E[n]? = some (g, .row xs T sz) → ∀ b, g.ob = some b → ∀ off v, g.vs[off]? = some v → roB E ro b off = some v) ∧
    ∀ b off v, roB E ro b off = some v → w.cell? ⟨b, off, none⟩ = some v := by
  have key : ∀ b off (v v' : Value), (ro b off = some v ∨ ∃ (n : Nat) (g : Gb) (xs : List (List C)) (T sz : Nat), E[n]? = some (g, .row xs T sz) ∧ g.ob = some b ∧ g.vs[off]? = some v) →
      (ro b off = some v' ∨ ∃ (n : Nat) (g : Gb) (xs : List (List C)) (T sz : Nat), E[n]? = some (g, .row xs T sz) ∧ g.ob = some b ∧ g.vs[off]? = some v') → v = v' := by
    intro b off v v' h1 h2
    rcases h1 with h1 | ⟨n, g, xs, T, sz, h1, h1b, h1'⟩ <;> rcases h2 with h2 | ⟨m, g2, ys, T', sz', h2, h2b, h2'⟩
    · rw [h1] at h2; exact Option.some.inj h2
    · have := h.apart b off v h1 m _ _ h2 h2b; simp [B.live] at this
    · have := h.apart b off v' h2 n _ _ h1 h1b; simp [B.live] at this
    · have := h.inj n m _ _ _ _ b h1 h2 h1b h2b rfl rfl
      subst this
      rw [h1] at h2
      simp only [Option.some.injEq, Prod.mk.injEq] at h2
      rw [← h2.1, h1'] at h2'
      exact Option.some.inj h2'
  have put : ∀ b off v, (ro b off = some v ∨ ∃ (n : Nat) (g : Gb) (xs : List (List C)) (T sz : Nat), E[n]? = some (g, .row xs T sz) ∧ g.ob = some b ∧ g.vs[off]? = some v) → roB E ro b off = some v := by
    intro b off v hc
    unfold roB
    rw [dif_pos ⟨v, hc⟩]
    exact congrArg some (key b off _ _ (Classical.choose_spec (p := fun v => ro b off = some v ∨ ∃ (n : Nat) (g : Gb) (xs : List (List C)) (T sz : Nat), E[n]? = some (g, .row xs T sz) ∧ g.ob = some b ∧ g.vs[off]? = some v) ⟨v, hc⟩) hc)
  refine ⟨fun b off v hc => put b off v (.inl hc), fun n g xs T sz hn b hb off v hv => put b off v (.inr ⟨n, g, xs, T, sz, hn, hb, hv⟩), fun b off v hc => ?_⟩
  unfold roB at hc
  split at hc
  · rename_i hex
    simp only [Option.some.injEq] at hc
    have hs := Classical.choose_spec hex
    rw [hc] at hs
    rcases hs with hs | ⟨n, g, xs, T, sz, hn, hb, hv⟩
    · exact h.rd b off v hs
    · obtain ⟨_, _, _, _, hown, _, _⟩ := h.own n _ _ hn
      rw [hb] at hown
      have := World.ownsRow.cells (h := hown) (g := b) rfl off v hv
      rwa [addr_add0, Nat.zero_add] at this
  · cases hc

theorem C.rel_bor (h : Rel X E ro w) {c : C} {v : Value} (hc : c.rel (gm E) ro v) : (c.bor (hp E)).rel [] (roB E ro) v := by
  obtain ⟨h1, h2, _⟩ := roB_spec h
  cases c with
  | no => trivial
  | vl u => exact hc
  | pt n off => trivial
  | qt n l sz i j => trivial
  | dp n l => trivial
  | sl n l =>
    simp only [C.bor]
    split
    · rename_i xs T sz hH
      split
      · rename_i hl
        obtain ⟨g, hE⟩ := hp_inv hH
        obtain ⟨_, hgl, _⟩ := h.own n g _ hE
        obtain ⟨g', k1, k2, k3, k4, k5⟩ := hc
        have : g' = g := by have := gm_get hE; rw [k1] at this; exact (Option.some.inj this)
        subst this
        have := k5 (by omega)
        subst this
        show FzR _ xs _
        rw [hl]
        exact row_fz h hE h1 (h2 n g' xs T sz hE)
      · trivial
    · trivial
  | fz xs => exact FzR.mono h1 hc
  | fp r j => obtain ⟨b, off, k1, k2⟩ := hc; exact ⟨b, off, k1, fun k c hk => by obtain ⟨u, p, q⟩ := k2 k c hk; exact ⟨u, h1 _ _ _ p, C.fv_mono h1 q⟩⟩
  | fn f ns =>
    cases ns with
    | nil => obtain ⟨bs, k1, k2⟩ := hc; have := k2.nil_inv; subst this; exact ⟨[], k1, .nil⟩
    | cons n ns => trivial
theorem S.rel_bor (h : Rel X E ro w) {s : S} {v : Value} (hs : s.rel (gm E) ro v) : (s.bor (hp E)).rel [] (roB E ro) v := by
  cases s with
  | va a =>
    cases a with
    | c1 c => exact C.rel_bor h hs
    | gs cs => obtain ⟨vs, h1, h2⟩ := hs; exact ⟨vs, h1, h2.map (f := C.bor (hp E)) fun _ _ => C.rel_bor h⟩
  | tu l => trivial
  | cn g a => trivial
  | un => trivial

/-- A world with more blocks, the old ones as they were. -/
theorem Rel.grown (h : Rel X E ro w) {w' : World} (hk : ∀ k, k < w.heap.size → w'.heap[k]? = w.heap[k]?) (hsz : w.heap.size ≤ w'.heap.size) (h1 : w'.os = w.os) (h2 : w'.tape = w.tape) (h3 : w'.output = w.output) : Rel X E ro w' := by
  refine ⟨fun n g blk hn => ?_, h.inj, h.apart, fun b off c hc => ?_, h.ro0, h.rob, h.par, h.gx, Nat.le_trans h.sz hsz, fun b hb hp => ?_, h1.trans h.os, h2.trans h.tape, h3.trans h.output⟩
  · by_cases hl : blk.live = true
    · exact (h.own n g blk hn).same (GExt.refl _) (Ext.refl _) fun k hk' => hk k ((h.own n g blk hn).lt hl hk')
    · cases blk <;> simp [B.live] at hl; trivial
  · have := h.rd b off c hc
    rw [← this]
    simp only [World.cell?, hk b (h.cell_lt hc)]
  · rw [hk b (by have := h.sz; omega)]; exact h.keep b hb hp

/-- What a call of a function that only reads does. -/
theorem cq_call (hf : FRel N (gm E) ro fr a) (hm : MeetsAll P Γ) {f : FuncId} {c : Call} (ho : o.op = .call c) (hc : c.callee = .value (.func f)) {p : Fun} (hp' : fnOf Γ f = some p) (hg : gds fr (O.sls (c.args.toList.map trO)))
    (hr : Rel X E ro w) (hpre : p.pre ((c.args.toList.map trO).map fun o => ((ev (fst fr) o).bor (hp E)).nf)) :
    (execOp a.eval o).run P w = .ok (.enter f (c.args.map a.eval)) w ∧ Calls P f (c.args.map a.eval) w (fun e w' => e = .returned (p.val ((c.args.toList.map trO).map fun o => ((ev (fst fr) o).bor (hp E)).nf)).fval ∧ Rel X E ro w') := by
  obtain ⟨s, hmem, hfn⟩ := fnOf_mem hp'
  obtain ⟨hent, hmeets⟩ := (hm f s hmem).2 p hfn
  have hrun : (execOp a.eval o).run P w = .ok (.enter f (c.args.map a.eval)) w := by
    have he' := run_enter hent (c.args.map a.eval) w
    simp [execOp, ho, resolve, hc, Act.eval, Deferred.ofValue, invoke, he']
  refine ⟨hrun, ?_⟩
  have harr : c.args.map a.eval = (c.args.toList.map a.eval).toArray := by rw [← Array.toList_map, Array.toArray_toList]
  rw [harr]
  obtain ⟨_, _, hrd⟩ := roB_spec hr
  have hloc : Rel ⟨w, blks [], roB E ro, gm []⟩ [] (roB E ro) w := ⟨fun n g blk hn => by simp at hn, fun n m gn gm bn bm b hn => by simp at hn, fun b off v hc n g blk hn => by simp at hn, hrd, Ext.refl _, fun _ _ _ h => .inl h,
    fun n b g blk hn => by simp at hn, GExt.refl _, Nat.le_refl _, fun _ _ _ => rfl, rfl, rfl, rfl⟩
  refine (hmeets _ (c.args.toList.map a.eval) [] (roB E ro) w (fun r _ => r = .va (p.val ((c.args.toList.map trO).map fun o => ((ev (fst fr) o).bor (hp E)).nf))) (by simp) ?_ hloc ⟨⟨hpre, rfl⟩, rfl⟩).mono ?_
  · intro i x v hx hv
    rw [List.map_map, List.getElem?_map] at hx
    cases hi : c.args.toList[i]? with
    | none => rw [hi] at hx; cases hx
    | some z =>
      rw [hi] at hx
      simp only [Option.map_some, Function.comp, Option.some.injEq] at hx
      subst hx
      have := arg_rel hf hg i (ev (fst fr) (trO z)) v (by rw [List.map_map, List.getElem?_map, hi]; rfl) hv
      exact S.rel_nf (S.rel_bor hr this)
  · rintro e w' ⟨r, v, E', ro', rfl, hrv, rfl, hrel⟩
    have hv := (flat_rel (p.flat _ hpre)).1 hrv
    subst hv
    exact ⟨rfl, hr.grown (fun k hk => hrel.keep k hk (by simp [blks])) hrel.sz hrel.os hrel.tape hrel.output⟩

/-- An instruction that is not quiet. -/
theorem je_sound (hf : FRel N (gm E) ro fr a) (hr : Rel X E ro w) (hm : MeetsAll P Γ) {σ : CH} {i : I} (hi : trI P nw σ o.op = some i) (hq : (J.mk none none i).quietC = false) {R : S → Hp → Prop}
    (hv : vI Γ fr (hp E) R i) : EDoes P o a w X E ro R := by
  cases i with
  | q q => simp [J.quietC] at hq
  | ix x y => simp [J.quietC] at hq
  | l i => simp [J.quietC] at hq
  | pick c x y => simp [J.quietC] at hq
  | cq f xs => simp [J.quietC] at hq
  | e i =>
    obtain ⟨hg, hv⟩ := hv
    rw [e_congr (fst_res hg)] at hv
    exact e_sound hf.res hr (trI_e hi) hv
  | cl f xs σ' =>
    obtain ⟨c, ho, hc, rfl⟩ := trI_cl hi
    exact cl_sound hf hr hm ho hc hv
  | ca x xs σ' =>
    obtain ⟨c, t, ho, hc, rfl, rfl⟩ := trI_ca hi
    exact ca_sound hf hr hm ho hc hv

/-- A quiet instruction, or a quiet call, in a class of worlds. -/
theorem jqc_sound (hf : FRel N (gm E) ro fr a) (hm : MeetsAll P Γ) (hr0 : Rel X E ro w) {σ : CH} {j : J} (hj : trJ P nw N ops σ o = some j) (hq : j.quietC = true) {K : Fr → Hp → Prop} (hv : vJ Γ fr (hp E) K j) :
    ∃ fr', K fr' (hp E) ∧ (if Region.wanted o (yielded ops a.tmps) = true then ∃ v, FRel N (gm E) ro fr' (a.put o.dst v) ∧ ∀ w, Rel X E ro w → o.quietAt P a (Rel X E ro) w v else FRel N (gm E) ro fr' (a.put o.dst undef)) := by
  by_cases hq' : j.quiet = true
  · have h := jq_sound hf hr0 hj hq' hv
    split at h
    · rename_i hw
      obtain ⟨fr', hK, v, h1, h2⟩ := h
      refine ⟨fr', hK, ?_⟩
      rw [if_pos hw]
      refine ⟨v, h1, fun w hr => ?_⟩
      unfold Oper.quietAt
      rw [h2 w hr]
      exact ⟨rfl, rfl⟩
    · rename_i hw
      obtain ⟨fr', hK, h1⟩ := h
      refine ⟨fr', hK, ?_⟩
      rw [if_neg hw]
      exact h1
  · obtain ⟨hi, hg, hd, hN⟩ := trJ_spec hj
    obtain ⟨d, jg, i⟩ := j
    simp only at hi hg hd
    subst hd
    cases i with
    | q q => exact absurd rfl hq'
    | ix x y => exact absurd rfl hq'
    | l i => exact absurd rfl hq'
    | pick c x y => exact absurd rfl hq'
    | e i => simp [J.quietC] at hq
    | cl f xs σ => simp [J.quietC] at hq
    | ca f xs σ => simp [J.quietC] at hq
    | cq f xs =>
      obtain ⟨c, ho, hc, rfl⟩ := trI_cq hi
      have key : ∀ {g : Prop} {K : A → Prop}, cqP Γ fr (hp E) f (c.args.toList.map trO) g K → ∃ y, K y ∧ (g → y.flat ∧ ∀ w, Rel X E ro w → o.quietAt P a (Rel X E ro) w y.fval) := by
        intro g K hv
        unfold cqP at hv
        split at hv
        · exact hv.elim
        · rename_i p hp'
          obtain ⟨hg, hK⟩ := hv
          refine ⟨_, hK, fun hgt => ?_⟩
          obtain ⟨hgd, hpre⟩ := hg hgt
          refine ⟨p.flat _ hpre, fun w hr => ?_⟩
          obtain ⟨k1, k2⟩ := cq_call hf hm ho hc hp' hgd hr hpre
          unfold Oper.quietAt
          rw [k1]
          exact ⟨rfl, k2⟩
      unfold vJ at hv
      cases hgd : o.guard with
      | none =>
        rw [hgd] at hg
        simp only [trG, Option.some.injEq] at hg
        subst hg
        simp only [vJ0] at hv
        obtain ⟨y, hK, hy⟩ := key hv
        refine ⟨_, hK, ?_⟩
        rw [if_pos (wanted_none hgd _)]
        exact ⟨y.fval, hf.put hN ((flat_rel (hy trivial).1).2 rfl), (hy trivial).2⟩
      | some gw =>
        obtain ⟨k, want⟩ := gw
        rw [hgd] at hg
        simp only [trG] at hg
        split at hg
        · rename_i sl hsl
          simp only [Option.some.injEq] at hg
          subst hg
          simp only at hv
          split at hv
          · exact hv.elim
          · rename_i g hgv
            have hwant : Region.wanted o (yielded ops a.tmps) = g := by
              simp only [Region.wanted, hgd]
              exact (gv_spec hf hgv hsl).1
            simp only [vJg] at hv
            obtain ⟨y, hK, hy⟩ := key hv
            refine ⟨_, hK, ?_⟩
            rw [hwant]
            cases g with
            | true => rw [if_pos rfl]; exact ⟨y.fval, hf.put hN (s := .cn true y) ⟨fun _ => (flat_rel (hy rfl).1).2 rfl, fun h => (by cases h)⟩, (hy rfl).2⟩
            | false => rw [if_neg (by simp)]; exact hf.put hN (s := .cn false y) ⟨fun h => (by cases h), fun _ => rfl⟩
        · cases hg

/-- One instruction, in the order of the text. -/
theorem j_sound (hf : FRel N (gm E) ro fr a) (hr : Rel X E ro w) (hm : MeetsAll P Γ) {σ : CH} {j : J} (hj : trJ P nw N ops σ o = some j) {K : Fr → Hp → Prop} (hv : vJ Γ fr (hp E) K j)
    {next : Act → World → Prop} {Q : Exit → Act → World → Prop} (hK : ∀ fr' E' ro' a' w', K fr' (hp E') → FRel N (gm E') ro' fr' a' → Rel X E' ro' w' → next a' w') :
    if Region.wanted o (yielded ops a.tmps) = true then o.wp P a w next Q else next (a.put o.dst undef) w := by
  by_cases hq : j.quietC = true
  · obtain ⟨fr', hK', h⟩ := jqc_sound hf hm hr hj hq hv
    split
    · rename_i hw
      simp only [hw, if_true] at h
      obtain ⟨v, hf', hrun⟩ := h
      refine Oper.wp_of_quiet (C := Rel X E ro) (K := fun a' => FRel N (gm E) ro fr' a') hr ?_ ⟨v, hrun, hf'⟩
      exact fun a' w' hr' hf'' => hK _ _ _ _ _ hK' hf'' hr'
    · rename_i hw
      rw [if_neg hw] at h
      exact hK _ _ _ _ _ hK' h hr
  · obtain ⟨hi, hg, hd, hN⟩ := trJ_spec hj
    obtain ⟨d, jg, i⟩ := j
    simp only at hi hg hd
    subst hd
    have hni : (J.mk none none i).quietC = false := by cases i <;> first | rfl | exact absurd rfl hq
    have key : ∀ {fr2 : Fr} {R : S → Hp → Prop}, FRel N (gm E) ro fr2 a → vI Γ fr2 (hp E) R i → (∀ s H', R s H' → K (W.put fr2 o.dst s) H') → o.wp P a w next Q := by
      intro fr2 R hf2 hv hR
      exact je_sound hf2 hr hm hi hni hv next Q fun s v E' ro' w' h1 h2 g1 g2 h3 => hK _ _ _ _ _ (hR _ _ h1) ((hf2.mono g1 g2).put hN h2) h3
    unfold vJ at hv
    cases hgd : o.guard with
    | none =>
      rw [hgd] at hg
      simp only [trG, Option.some.injEq] at hg
      subst hg
      rw [if_pos (wanted_none hgd _)]
      cases i with
      | q q => exact absurd rfl hq
      | ix x y => exact absurd rfl hq
      | l i => exact absurd rfl hq
      | pick c x y => exact absurd rfl hq
      | cq f xs => exact absurd rfl hq
      | e i => exact key hf hv fun _ _ h => h
      | cl f xs σ => exact key hf hv fun _ _ h => h
      | ca f xs σ => exact key hf hv fun _ _ h => h
    | some gw =>
      obtain ⟨k, want⟩ := gw
      rw [hgd] at hg
      simp only [trG] at hg
      split at hg
      · rename_i sl hsl
        simp only [Option.some.injEq] at hg
        subst hg
        simp only at hv
        split at hv
        · exact hv.elim
        · rename_i g hgv
          obtain ⟨hwant, hgt, hgf⟩ := gv_spec hf hgv hsl
          have hw : Region.wanted o (yielded ops a.tmps) = g := by simp only [Region.wanted, hgd]; exact hwant
          rw [hw]
          have h2 : (g = true → vI Γ (rfn fr sl want) (hp E) (fun s H' => K (W.put (rfn fr sl want) o.dst s) H') i) ∧ (g = false → K (W.put (rff fr sl want) o.dst .un) (hp E)) := by
            cases i with
            | q q => exact absurd rfl hq
            | ix x y => exact absurd rfl hq
            | l i => exact absurd rfl hq
            | pick c x y => exact absurd rfl hq
            | cq f xs => exact absurd rfl hq
            | e i => exact hv
            | cl f xs σ => exact hv
            | ca f xs σ => exact hv
          cases g with
          | true => rw [if_pos rfl]; exact key (rfn_rel hf (hgt rfl)) (h2.1 rfl) fun _ _ h => h
          | false => rw [if_neg (by simp)]; exact hK _ _ _ _ _ (h2.2 rfl) ((rff_rel hf (hgf rfl)).put hN (s := .un) trivial) hr
      · cases hg

theorem trR_cons {h : Nat → CH} {k : Nat} {o : Oper} {r : List Oper} {js : List J} (hj : trR P nw N ops h k (o :: r) = some js) : ∃ j js', js = j :: js' ∧ trJ P nw N ops (h k) o = some j ∧ trR P nw N ops h (k + 1) r = some js' := by
  simp only [trR] at hj
  split at hj
  · rename_i j js' h1 h2; simp only [Option.some.injEq] at hj; exact ⟨j, js', hj.symm, h1, h2⟩
  · cases hj

/-- Instructions in the order of the text. -/
theorem r_sound (hm : MeetsAll P Γ) {h : Nat → CH} {Q : Exit → Act → World → Prop} {K : Fr → Hp → Prop} (hQ : ∀ fr E ro a w, K fr (hp E) → FRel N (gm E) ro fr a → Rel X E ro w → Q .normal a w) :
    ∀ (l : List Oper) (k : Nat) (js : List J), trR P nw N ops h k l = some js → ∀ (fr : Fr) (E : Es) (ro : RO) (a : Act) (w : World), FRel N (gm E) ro fr a → Rel X E ro w → vR Γ js fr (hp E) K → wpList P ops Q l a w
  | [], k, js, hj, fr, E, ro, a, w, hf, hr, hv => by
    simp only [trR, Option.some.injEq] at hj
    subst hj
    exact hQ _ _ _ _ _ hv hf hr
  | o :: l, k, js, hj, fr, E, ro, a, w, hf, hr, hv => by
    obtain ⟨j, js', rfl, h1, h2⟩ := trR_cons hj
    have := j_sound (Q := Q) (next := wpList P ops Q l) hf hr hm h1 hv fun fr' E' ro' a' w' hK hf' hr' => r_sound hm hQ l (k + 1) js' h2 fr' E' ro' a' w' hf' hr' hK
    simp only [wpList]
    split
    · rename_i hw; rw [if_pos hw] at this; exact .inl this
    · rename_i hw; rw [if_neg hw] at this; exact this

/-- The quiet head of a region that draws its order. -/
theorem head_sound {h : Nat → CH} {L : Act → Prop} {w : World} {Y : Ctx} : ∀ (l : List Oper) (k : Nat) (js rest : List J), trR P nw N ops h k l = some js → (∀ j ∈ js, j.quiet = true) → ∀ (fr : Fr) (E : Es) (ro : RO) (a : Act) (K : Fr → Hp → Prop), FRel N (gm E) ro fr a → Rel Y E ro w →
    vR Γ (js ++ rest) fr (hp E) K → (∀ fr' a', FRel N (gm E) ro fr' a' → vR Γ rest fr' (hp E) K → L a') → wpStill P ops w L l a
  | [], k, js, rest, hj, hq, fr, E, ro, a, K, hf, hr, hv, hL => by
    simp only [trR, Option.some.injEq] at hj
    subst hj
    exact hL _ _ hf hv
  | o :: l, k, js, rest, hj, hq, fr, E, ro, a, K, hf, hr, hv, hL => by
    obtain ⟨j, js', rfl, h1, h2⟩ := trR_cons hj
    simp only [List.cons_append, vR] at hv
    have hs := jq_sound hf hr h1 (hq j (by simp)) hv
    simp only [wpStill]
    split
    · rename_i hw
      rw [if_pos hw] at hs
      obtain ⟨fr', hK, v, hf', hrun⟩ := hs
      unfold Oper.still
      rw [hrun w hr, Oper.stillUpon_value]
      exact head_sound l (k + 1) js' rest h2 (fun y hy => hq y (by simp [hy])) fr' E ro _ K hf' hr hK hL
    · rename_i hw
      rw [if_neg hw] at hs
      obtain ⟨fr', hK, hs⟩ := hs
      exact head_sound l (k + 1) js' rest h2 (fun y hy => hq y (by simp [hy])) fr' E ro _ K hs hr hK hL

/-- A region that draws its order and is quiet throughout. -/
theorem quiet_sound (hm : MeetsAll P Γ) (w0 : World) {h : Nat → CH} {L : Act → Prop} : ∀ (l : List Oper) (k : Nat) (js : List J), trR P nw N ops h k l = some js → (∀ j ∈ js, j.quietC = true) → ∀ (fr : Fr) (E : Es) (ro : RO) (a : Act) (K : Fr → Hp → Prop), FRel N (gm E) ro fr a → Rel X E ro w0 →
    vR Γ js fr (hp E) K → (∀ fr' a', FRel N (gm E) ro fr' a' → K fr' (hp E) → L a') → wpQuiet P ops (Rel X E ro) L l a
  | [], k, js, hj, hq, fr, E, ro, a, K, hf, hr0, hv, hL => by
    simp only [trR, Option.some.injEq] at hj
    subst hj
    exact hL _ _ hf hv
  | o :: l, k, js, hj, hq, fr, E, ro, a, K, hf, hr0, hv, hL => by
    obtain ⟨j, js', rfl, h1, h2⟩ := trR_cons hj
    obtain ⟨fr', hK, hs⟩ := jqc_sound hf hm hr0 h1 (hq j (by simp)) hv
    simp only [wpQuiet]
    split
    · rename_i hw
      simp only [hw, if_true] at hs
      obtain ⟨v, hf', hrun⟩ := hs
      exact ⟨v, hrun, quiet_sound hm w0 l (k + 1) js' h2 (fun y hy => hq y (by simp [hy])) fr' E ro _ K hf' hr0 hK hL⟩
    · rename_i hw
      rw [if_neg hw] at hs
      exact quiet_sound hm w0 l (k + 1) js' h2 (fun y hy => hq y (by simp [hy])) fr' E ro _ K hs hr0 hK hL

end
/-! ### Regions in which some instructions may come up late -/
section
variable {P : Program} {N : Nat} {nw : Bool} {X : Ctx} {Γ : Env} {ops : Array Oper} {o : Oper} {fr : Fr} {a : Act} {E : Es} {ro : RO} {w : World}

/-- An instruction that looks at its operands alone does the same in every world. -/
theorem jp_sound (hf : FRel N (gm E) ro fr a) (hr0 : Rel X E ro w) {σ : CH} {j : J} (hj : trJ P nw N ops σ o = some j) (hpu : pureOp P o = true) {K : Fr → Hp → Prop} (hv : vJ Γ fr (hp E) K j) :
    ∃ fr' v, K fr' (hp E) ∧ FRel N (gm E) ro fr' (a.put o.dst v) ∧ ∀ w, (execOp a.eval o).run P w = .ok (.value v) w := by
  obtain ⟨hi, hg, hd, hN⟩ := trJ_spec hj
  unfold pureOp at hpu
  rw [Bool.and_eq_true] at hpu
  obtain ⟨hgn, hop⟩ := hpu
  have hgn' : o.guard = none := by simpa using hgn
  rw [hgn'] at hg
  simp only [trG, Option.some.injEq] at hg
  have run : j.quiet = true → ∃ fr', K fr' (hp E) ∧ ∃ v, FRel N (gm E) ro fr' (a.put o.dst v) ∧ ∀ w, Rel X E ro w → (execOp a.eval o).run P w = .ok (.value v) w := fun hq => by
    have h := jq_sound hf hr0 hj hq hv
    rwa [if_pos (wanted_none hgn' _)] at h
  have bin : ∀ (op : BinOp) (t : TypeId) (x y : Operand) (t' : TypeId) (k0 : IntKind), o.op = .binOp op t x y t' → P.underlying t = some (.int k0) → (op = .add ∨ op = .sub) →
      ∃ fr' v, K fr' (hp E) ∧ FRel N (gm E) ro fr' (a.put o.dst v) ∧ ∀ w, (execOp a.eval o).run P w = .ok (.value v) w := fun op t x y t' k0 ho ht hops => by
    have hji : j.i = .q (.bin op nw (trO x) (trO y)) := by
      rw [ho] at hi
      simpa [trI, trQ, ht] using hi.symm
    obtain ⟨fr', hK, v, hf', hrun⟩ := run (by unfold J.quiet; rw [hji])
    refine ⟨fr', v, hK, hf', ?_⟩
    unfold vJ at hv
    rw [← hg] at hv
    simp only [hji, vJ0, qv] at hv
    have hw := hrun w hr0
    have step : ∀ (f : ∀ (w : World), ∃ v', (∀ w, (execOp a.eval o).run P w = .ok (.value v') w)), ∀ w, (execOp a.eval o).run P w = .ok (.value v) w := fun f => by
      obtain ⟨v', h'⟩ := f w
      rw [h' w] at hw
      simp only [Result.ok.injEq, Next.value.injEq, and_true] at hw
      subst hw
      exact h'
    split at hv
    case h_2 => exact hv.elim
    rename_i s hs
    obtain ⟨hgd, hc, _⟩ := hv
    have e1 : ev (fst fr) (trO x) = ev (res fr) (trO x) := ev_congr fun i hi => fst_res hgd i (by simp [QI.sl, hi])
    have e2 : ev (fst fr) (trO y) = ev (res fr) (trO y) := ev_congr fun i hi => fst_res hgd i (by simp [QI.sl, hi])
    simp only [qc] at hc
    rw [e1, e2] at hs hc
    have r1 := ev_rel hf.res x; have r2 := ev_rel hf.res y
    split at hs
    · rename_i k m k' n hx hy
      rw [hx] at r1; rw [hy] at r2
      rw [hx, hy] at hc
      have r1' : a.eval x = .int k m := r1
      have r2' : a.eval y = .int k' n := r2
      obtain ⟨v', _, hr⟩ := run_binI (P := P) (t := t) hs hc
      exact step fun _ => ⟨v', fun w => by simp only [execOp, ho, r1', r2']; simp [hr, eqGuard]⟩
    · rename_i m n hx hy
      rw [hx] at r1; rw [hy] at r2
      rw [hx, hy] at hc
      have r1' : a.eval x = .string m := r1
      have r2' : a.eval y = .string n := r2
      obtain ⟨v', _, hr⟩ := run_binS (P := P) (t := t) hs hc
      exact step fun _ => ⟨v', fun w => by simp only [execOp, ho, r1', r2']; simp [hr, eqGuard]⟩
    · cases hs
  split at hop
  · rename_i x ho
    have hji : j.i = .q (.mv (trO x)) := by rw [ho] at hi; simpa [trI, trQ] using hi.symm
    obtain ⟨fr', hK, v, hf', hrun⟩ := run (by unfold J.quiet; rw [hji])
    have hw := hrun w hr0
    simp [execOp, ho] at hw
    subst hw
    exact ⟨fr', _, hK, hf', fun w => by simp [execOp, ho]⟩
  · rename_i x ho
    have hji : j.i = .q (.mv (trO x)) := by rw [ho] at hi; simpa [trI, trQ] using hi.symm
    obtain ⟨fr', hK, v, hf', hrun⟩ := run (by unfold J.quiet; rw [hji])
    have hw := hrun w hr0
    simp [execOp, ho] at hw
    subst hw
    exact ⟨fr', _, hK, hf', fun w => by simp [execOp, ho]⟩
  · rename_i t x y t' ho
    split at hop
    · rename_i k0 ht; exact bin .add t x y t' k0 ho ht (.inl rfl)
    · cases hop
  · rename_i t x y t' ho
    split at hop
    · rename_i k0 ht; exact bin .sub t x y t' k0 ho ht (.inr rfl)
    · cases hop
  · cases hop

/-- While an instruction of the head has not come up, none of the tail may. -/
theorem late_wait {n : Nat} {ls : List Nat} {l : Array Bool} (hs : sinkL ops n ls = true) (hc : Region.chainB .any ops n = true) (hn : n < ops.size) (inv : HeadInv .any ops n l) (hls : ∀ i ∈ ls, l.getD i false = true) :
    ∀ (d i : Nat), n - i ≤ d → i < n → l.getD i true = false → ∀ t, n ≤ t → t ∉ Region.ready .any ops l := by
  intro d
  induction d with
  | zero => intro i h1 h2; omega
  | succ d ih =>
    intro i hd hi hun t ht hr
    have hni : l.getD i false = false := getD_both hun
    have hil : ls.contains i = false := by
      cases hq : ls.contains i with
      | false => rfl
      | true => have := hls i (by simpa using hq); rw [hni] at this; cases this
    obtain ⟨_, ot, hot, hall⟩ := mem_ready.1 hr
    have htlt : t < ops.size := (Array.getElem?_eq_some_iff.1 hot).1
    rcases Nat.lt_or_ge n t with hnt | hnt
    · have h1 := List.all_eq_true.1 hc t (List.mem_range.2 htlt)
      simp only [Bool.or_eq_true, decide_eq_true_eq] at h1
      have h2 : Region.waitsFor .any ops t (t - 1) = true := by
        rcases h1 with h | h
        · omega
        · exact h
      obtain ⟨o', ho', e, he, hb, hon⟩ := Region.waitsFor_spec h2
      cases hot.symm.trans ho'
      have := hall e he hb
      rw [hon, getD_both (inv.tail (t - 1) (by omega) (by omega))] at this
      cases this
    · obtain rfl : t = n := by omega
      have h1 := List.all_eq_true.1 hs i (List.mem_range.2 hi)
      rw [hil, Bool.false_or] at h1
      obtain ⟨j, hj, hj2⟩ := List.any_eq_true.1 h1
      simp only [Bool.and_eq_true, decide_eq_true_eq] at hj2
      obtain ⟨⟨hij, hjl⟩, hw⟩ := hj2
      obtain ⟨oj, hoj, e, he, hb, hon⟩ := Region.waitsFor_spec hw
      have hjle : j ≤ t := by have := List.mem_range.1 hj; omega
      rcases Nat.lt_or_ge j t with hjt | hjt
      · cases hlj : l.getD j false with
        | true => have := inv.closed j oj hoj hlj e he hb; rw [hon, hni] at this; cases this
        | false => exact ih j (by omega) hjt (getD_in (by rw [inv.size]; omega) hlj) t (Nat.le_refl _) hr
      · obtain rfl : j = t := by omega
        cases hoj.symm.trans hot
        have := hall e he hb
        rw [hon, hni] at this; cases this

/-- Whatever order the head comes up in. -/
def headAny (P : Program) (ops : Array Oper) (C : World → Prop) (n : Nat) (L : Array Bool → Act → Prop) : Nat → Array Bool → Act → Prop
  | 0, l, a => L l a
  | f + 1, l, a => Region.ready .any ops l ≠ [] ∧ ∀ i ∈ Region.ready .any ops l, i < n ∧ qOp P ops C i (headAny P ops C n L f (l.setIfInBounds i true)) a
theorem any_of_head {n g : Nat} {C : World → Prop} {L : Array Bool → Act → Prop} {Q' : Exit → Act → World → Prop} (hL : ∀ l a w, C w → L l a → wpAny P .any ops Q' g l a w) :
    ∀ (f : Nat) (l : Array Bool) (a : Act) (w : World), C w → headAny P ops C n L f l a → wpAny P .any ops Q' (f + g) l a w
  | 0, l, a, w, hw, h => by rw [Nat.zero_add]; exact hL _ _ _ hw h
  | f + 1, l, a, w, hw, h => by
    rw [show f + 1 + g = (f + g) + 1 by omega]
    exact ⟨fun h0 => absurd h0 h.1, fun i hi => wpOp_of_qOp hw (fun a' w' hw' h' => any_of_head hL f _ a' w' hw' h') (h.2 i hi).2⟩
/-- A quiet instruction of the head that is ready may be taken first. -/
theorem late_first {n i : Nat} {ls : List Nat} {oi : Oper} {v : Value} {C : World → Prop} {L : Array Bool → Act → Prop} (hi : ops[i]? = some oi) (hsel : ∀ (j : Nat) (o : Oper) cs b, ops[j]? = some o → o.op ≠ .select cs b)
    (hs : sinkL ops n ls = true) (hc : Region.chainB .any ops n = true) (hn : n < ops.size) (hin : i < n) (hL : ∀ l a, L l a → ∀ j ∈ Region.ready .any ops l, n ≤ j) :
    ∀ (f : Nat) (l : Array Bool) (a : Act), HeadInv .any ops n l → (∀ k ∈ ls, l.getD k false = true) →
      (∀ j oj, ops[j]? = some oj → j ≠ i → l.getD j true = false → (∀ e ∈ oj.after, Region.binds .any e = true → e.on ≠ i) → oi.apart ops oj = true) →
      i ∈ Region.ready .any ops l → YieldsIn P ops C oi v a → headAny P ops C n L f (l.setIfInBounds i true) (a.put oi.dst v) → headAny P ops C n L (f + 1) l a := by
  intro f
  induction f with
  | zero =>
    intro l a inv hls _ hr hy H
    have hun := (mem_ready.1 hr).1
    refine ⟨fun h => (by rw [h] at hr; cases hr), fun j hj => ?_⟩
    have hjn : j < n := Nat.lt_of_not_le fun h => late_wait hs hc hn inv hls _ i (Nat.le_refl _) hin hun j h hj
    by_cases hji : j = i
    · subst hji; exact ⟨hjn, hy.qOp hi H⟩
    · have := hL _ _ H j (ready_mono hj hji); omega
  | succ f ih =>
    intro l a inv hls hfree hr hy H
    have hun := (mem_ready.1 hr).1
    refine ⟨fun h => (by rw [h] at hr; cases hr), fun j hj => ?_⟩
    have hjn : j < n := Nat.lt_of_not_le fun h => late_wait hs hc hn inv hls _ i (Nat.le_refl _) hin hun j h hj
    by_cases hji : j = i
    · subst hji; exact ⟨hjn, hy.qOp hi H⟩
    · obtain ⟨hjun, oj, hoj, hall⟩ := mem_ready.1 hj
      have hno : ∀ e ∈ oj.after, Region.binds .any e = true → e.on ≠ i := fun e he hb heq => by
        have := hall e he hb
        rw [heq, getD_both hun] at this; cases this
      have hnext := qOp_put hoj (hfree j oj hoj hji hjun hno) (fun cs b => hsel i oi cs b hi) (fun cs b => hsel j oj cs b hoj) hy (H.2 j (ready_mono hj hji)).2
      refine ⟨hjn, qOp_mono (fun a' h3 => ih (l.setIfInBounds j true) a' (inv.set hj hjn) (fun k hk => getD_set_true (hls k hk)) (fun k ok hk hki hku hkn => hfree k ok hk hki ?_ hkn) (ready_mono hr (Ne.symm hji)) h3.1 ?_) hnext⟩
      · by_cases hjk : j = k
        · subst hjk; exact hjun
        · rwa [getD_set_ne true hjk] at hku
      · rw [Array.setIfInBounds_comm _ _ hji]; exact h3.2

/-- The head, in the order of its numbers. -/
theorem late_lex {n : Nat} {ls : List Nat} {C : World → Prop} {Lq : Act → Prop} (hsel : Region.noSelect ops = true) (hs : sinkL ops n ls = true) (hc : Region.chainB .any ops n = true) (hn : n < ops.size) :
    ∀ (is : List Nat) (l : Array Bool) (a : Act), HeadInv .any ops n l → (∀ k ∈ ls, l.getD k false = true) → lexL ops n is l = true → wpQuiet P ops C Lq (picks ops.toList is) a →
      headAny P ops C n (fun l' a' => Region.seqB .any ops (ops.size - n) n l' = true ∧ Lq a') is.length l a
  | [], l, a, _, _, hB, h => ⟨hB, h⟩
  | k :: is, l, a, inv, hls, hB, h => by
    simp only [lexL, Bool.and_eq_true, decide_eq_true_eq] at hB
    obtain ⟨⟨⟨hkn, hr⟩, hfr⟩, hB'⟩ := hB
    have hr' : k ∈ Region.ready .any ops l := by simpa using hr
    have h0 : ops[k]? = some ops[k] := Array.getElem?_eq_getElem (by omega)
    have hpk : picks ops.toList (k :: is) = ops[k] :: picks ops.toList is := by
      unfold picks
      rw [List.filterMap_cons]
      simp [show k < ops.size by omega]
    rw [hpk] at h
    have hst : qOp P ops C k (wpQuiet P ops C Lq (picks ops.toList is)) a := by unfold qOp; simp only [h0]; exact h
    obtain ⟨v, hy, hK⟩ := yieldsIn_of_qOp h0 hst
    exact late_first h0 (Region.noSelect_spec hsel) hs hc hn hkn (fun l' a' hL => seqB_ready hL.1) is.length l a inv hls (Region.free_spec h0 hfr) hr' hy
      (late_lex hsel hs hc hn is _ _ (inv.set hr' hkn) (fun k hk => getD_set_true (hls k hk)) hB' hK)

/-- Every instruction of a row of them is what its number says. -/
def TrAt (P : Program) (nw : Bool) (N : Nat) (ops : Array Oper) (is : List Nat) (js : List J) : Prop := All2 (fun i j => ∃ o σ, ops[i]? = some o ∧ trJ P nw N ops σ o = some j) is js

/-- The head's instructions, quiet. -/
theorem heads_sound (hm : MeetsAll P Γ) {L : Act → Prop} {w0 : World} : ∀ (is : List Nat) (js rest : List J), TrAt P nw N ops is js → (∀ j ∈ js, j.quietC = true) → ∀ (fr : Fr) (a : Act) (K : Fr → Hp → Prop), FRel N (gm E) ro fr a → Rel X E ro w0 →
    vR Γ (js ++ rest) fr (hp E) K → (∀ fr' a', FRel N (gm E) ro fr' a' → vR Γ rest fr' (hp E) K → L a') → wpQuiet P ops (Rel X E ro) L (picks ops.toList is) a
  | [], js, rest, ht, _, fr, a, K, hf, hr, hv, hL => by
    obtain rfl := All2.nil_inv ht
    exact hL _ _ hf hv
  | i :: is, js, rest, ht, hq, fr, a, K, hf, hr, hv, hL => by
    obtain ⟨j, js', rfl, ⟨o, σ, ho, h1⟩, h2⟩ := All2.cons_inv ht
    have hpk : picks ops.toList (i :: is) = o :: picks ops.toList is := by
      unfold picks
      rw [List.filterMap_cons]
      simp [ho]
    rw [hpk]
    simp only [List.cons_append, vR] at hv
    obtain ⟨fr', hK, hs⟩ := jqc_sound hf hm hr h1 (hq j (by simp)) hv
    simp only [wpQuiet]
    split
    · rename_i hw
      simp only [hw, if_true] at hs
      obtain ⟨v, hf', hrun⟩ := hs
      exact ⟨v, hrun, heads_sound hm is js' rest h2 (fun y hy => hq y (by simp [hy])) fr' _ K hf' hr hK hL⟩
    · rename_i hw
      rw [if_neg hw] at hs
      exact heads_sound hm is js' rest h2 (fun y hy => hq y (by simp [hy])) fr' _ K hs hr hK hL

/-- The late ones, taken first. -/
theorem lates_sound {Q' : Exit → Act → World → Prop} (hnp : ∀ c a w, ¬ Q' (.panic c) a w) (hsel : Region.noSelect ops = true) {Y : Ctx} {f : Nat} : ∀ (is : List Nat) (js rest : List J) (l : Array Bool), TrAt P nw N ops is js → (∀ i ∈ is, ∀ o, ops[i]? = some o → pureOp P o = true) →
    takeB ops is l = true → ∀ (fr : Fr) (a : Act) (K : Fr → Hp → Prop), FRel N (gm E) ro fr a → Rel Y E ro w → vR Γ (js ++ rest) fr (hp E) K →
    (∀ fr' a', FRel N (gm E) ro fr' a' → vR Γ rest fr' (hp E) K → wpAny P .any ops Q' f (marks is l) a' w) → wpAny P .any ops Q' (is.length + f) l a w
  | [], js, rest, l, ht, _, _, fr, a, K, hf, hr, hv, hL => by
    obtain rfl := All2.nil_inv ht
    rw [List.length_nil, Nat.zero_add]
    exact hL _ _ hf hv
  | i :: is, js, rest, l, ht, hpu, hB, fr, a, K, hf, hr, hv, hL => by
    obtain ⟨j, js', rfl, ⟨o, σ, ho, h1⟩, h2⟩ := All2.cons_inv ht
    simp only [takeB, Bool.and_eq_true] at hB
    obtain ⟨⟨hrd, hfr⟩, hB'⟩ := hB
    simp only [List.cons_append, vR] at hv
    obtain ⟨fr', v, hK, hf', hrun⟩ := jp_sound hf hr h1 (hpu i (by simp) o ho) hv
    have hgn : o.guard = none := by
      have := hpu i (by simp) o ho
      unfold pureOp at this
      rw [Bool.and_eq_true] at this
      simpa using this.1
    rw [List.length_cons, show is.length + 1 + f = (is.length + f) + 1 by omega]
    exact wpAny_take ho hsel hfr hrd (fun c a w h => absurd h (hnp _ _ _)) (.inl ⟨wanted_none hgn _, hrun⟩)
      (lates_sound hnp hsel is js' rest _ h2 (fun k hk => hpu k (by simp [hk])) hB' fr' _ K hf' hr hK hL)
end
end Go.W
