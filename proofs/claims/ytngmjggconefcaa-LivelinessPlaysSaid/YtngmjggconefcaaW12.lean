/- The W library, part 12: calls. -/
import Derived.Test.YtngmjggconefcaaW11
namespace Go.W

def mergeE : List Nat → Es → Es → Es
  | [], E, E' => E ++ E'
  | n :: σ, E, E' => mergeE σ (E.set n (E'.headD (g00, .dead))) E'.tail
theorem hp_merge : ∀ (σ : List Nat) (E E' : Es), hp (mergeE σ E E') = mergeH σ (hp E) (hp E')
  | [], E, E' => by simp [mergeE, mergeH, hp]
  | n :: σ, E, E' => by
    simp only [mergeE, mergeH]
    rw [hp_merge σ]
    congr 1
    · cases E' <;> simp [hp, List.map_set]
    · cases E' <;> simp [hp]
theorem mergeE_old : ∀ (σ : List Nat) (E E' : Es) {n : Nat}, n ∉ σ → n < E.length → (mergeE σ E E')[n]? = E[n]?
  | [], E, E', n, h, hl => by simp only [mergeE]; rw [List.getElem?_append_left hl]
  | k :: σ, E, E', n, h, hl => by
    simp only [List.mem_cons, not_or] at h
    simp only [mergeE]
    rw [mergeE_old σ _ _ h.2 (by rw [List.length_set]; exact hl), List.getElem?_set, if_neg (fun e => h.1 e.symm)]
theorem mergeE_new : ∀ (σ : List Nat) (E E' : Es), σ.Nodup → (∀ n ∈ σ, n < E.length) → σ.length ≤ E'.length → ∀ (j : Nat) (e : Gb × B), E'[j]? = some e → ∃ n, back σ E.length j = some n ∧ (mergeE σ E E')[n]? = some e
  | [], E, E', _, _, _, j, e, hj => ⟨E.length + j, by simp [back], by simp only [mergeE]; rw [List.getElem?_append_right (by omega)]; simpa using hj⟩
  | k :: σ, E, [], _, _, hl, j, e, hj => by simp at hl
  | k :: σ, E, e0 :: E', hd, hlt, hl, j, e, hj => by
    simp only [List.nodup_cons] at hd
    simp only [mergeE, List.headD_cons, List.tail_cons]
    cases j with
    | zero =>
      simp only [List.getElem?_cons_zero, Option.some.injEq] at hj
      subst hj
      have hk := hlt k (by simp)
      exact ⟨k, by simp [back], by rw [mergeE_old σ _ _ hd.1 (by rw [List.length_set]; exact hk), List.getElem?_set, if_pos rfl, if_pos hk]⟩
    | succ j =>
      obtain ⟨n, h1, h2⟩ := mergeE_new σ (E.set k e0) E' hd.2 (fun n hn => by rw [List.length_set]; exact hlt n (by simp [hn])) (by simpa using hl) j e (by simpa using hj)
      refine ⟨n, ?_, h2⟩
      rw [List.length_set] at h1
      rw [← h1]
      simp [back]
theorem mergeE_get : ∀ (σ : List Nat) (E E' : Es) (n : Nat) (e : Gb × B), (mergeE σ E E')[n]? = some e →
    (n ∉ σ ∧ n < E.length ∧ E[n]? = some e) ∨ (∃ j, E'[j]? = some e ∧ some n = back σ E.length j) ∨ e = (g00, .dead)
  | [], H, H', n, e, h => by
    simp only [mergeE, List.getElem?_append] at h
    split at h
    · exact .inl ⟨by simp, by assumption, h⟩
    · exact .inr (.inl ⟨_, h, by simp [back]; omega⟩)
  | k :: σ, H, H', n, e, h => by
    simp only [mergeE] at h
    have ih := mergeE_get σ _ _ n e h
    rw [List.length_set] at ih
    rcases ih with ⟨h1, h2, h3⟩ | ⟨j, h1, h2⟩ | h1
    · rw [List.getElem?_set] at h3
      split at h3
      · rename_i hk
        subst hk
        have h4 : H'.headD (g00, .dead) = e := by
          have h3' : some (H'.headD (g00, .dead)) = some e := by simpa [h2] using h3
          exact Option.some.inj h3'
        cases H' with
        | nil => exact .inr (.inr h4.symm)
        | cons y r => exact .inr (.inl ⟨0, by simpa using h4, rfl⟩)
      · rename_i hk
        exact .inl ⟨by simp; exact ⟨fun e => hk e.symm, h1⟩, h2, h3⟩
    · refine .inr (.inl ⟨j + 1, ?_, ?_⟩)
      · cases H' with
        | nil => simp at h1
        | cons y r => simpa using h1
      · rw [h2]; simp [back]
    · exact .inr (.inr h1)

section
variable {P : Program} {o : Oper} {N : Nat} {fr : Fr} {a : Act} {E : Es} {γ : List Gb} {ro : RO} {X : Ctx} {w : World} {nw : Bool} {Γ : Env} {ops : Array Oper}

theorem Rel.here (h : Rel X E ro w) : Rel ⟨w, blks E, ro, gm E⟩ E ro w :=
  ⟨h.own, h.inj, h.apart, h.rd, Ext.refl _, fun _ _ _ h => .inl h, fun n b g blk hn en hl => .inr (mem_blks.2 ⟨n, g, blk, hn, en, hl⟩), GExt.refl _, Nat.le_refl _, fun _ _ _ => rfl, rfl, rfl, rfl⟩

/-- Behind a call that was handed the blocks σ. -/
theorem Rel.back (h : Rel X E ro w) {σ : List Nat} (hnd : σ.Nodup) (hlt : ∀ n ∈ σ, n < E.length) {El E' : Es} (hEl : El = mapB (B.ren (loc σ)) (pickE E σ)) {ro' : RO} {w' : World}
    (k : Rel ⟨w, blks El, ro, gm El⟩ E' ro' w') : Rel X (mergeE σ E (mapB (B.ren (W.back σ E.length)) E')) ro' w' ∧ GExt (gm E) (gm (mergeE σ E (mapB (B.ren (W.back σ E.length)) E'))) ∧
      ∀ (n m : Nat) (g : Gb), W.back σ E.length n = some m → (gm E')[n]? = some g → (gm (mergeE σ E (mapB (B.ren (W.back σ E.length)) E')))[m]? = some g := by
  have hEll : El.length = σ.length := by rw [hEl]; simp [mapB, pickE]
  have hel : ∀ (j n : Nat), σ[j]? = some n → ∃ g blk, E[n]? = some (g, blk) ∧ El[j]? = some (g, blk.ren (loc σ)) := by
    intro j n hj
    have hn := hlt n (List.mem_of_getElem? hj)
    refine ⟨(E[n]).1, (E[n]).2, by rw [List.getElem?_eq_getElem hn], ?_⟩
    rw [hEl]
    simp [mapB, pickE, hj, List.getElem?_eq_getElem hn]
  have hbl : ∀ b, b ∈ blks El → ∃ (n : Nat) (g : Gb) (blk : B), n ∈ σ ∧ E[n]? = some (g, blk) ∧ g.ob = some b ∧ B.live blk = true := by
    intro b hb
    obtain ⟨j, g, blk, hj, hgb, hl⟩ := mem_blks.1 hb
    have hjl : j < σ.length := by rw [← hEll]; exact (List.getElem?_eq_some_iff.1 hj).1
    obtain ⟨g', blk', h1, h2⟩ := hel j _ (List.getElem?_eq_getElem hjl)
    rw [h2] at hj
    simp only [Option.some.injEq, Prod.mk.injEq] at hj
    obtain ⟨rfl, rfl⟩ := hj
    exact ⟨_, _, blk', List.getElem_mem hjl, h1, hgb, by rw [B.live_ren] at hl; exact hl⟩
  have hlen' : σ.length ≤ E'.length := by
    rcases Nat.lt_or_ge E'.length σ.length with hc | hc
    · have hg := (hel _ _ (List.getElem?_eq_getElem hc))
      obtain ⟨g, blk, _, h2⟩ := hg
      obtain ⟨g', h3, _⟩ := k.gx _ g (gm_get h2)
      have := (List.getElem?_eq_some_iff.1 h3).1
      rw [gm_len] at this
      omega
    · exact hc
  have hlenb : σ.length ≤ (mapB (B.ren (W.back σ E.length)) E').length := by simpa [mapB] using hlen'
  have fwd : ∀ (n m : Nat) (g : Gb), W.back σ E.length n = some m → (gm E')[n]? = some g → (gm (mergeE σ E (mapB (B.ren (W.back σ E.length)) E')))[m]? = some g := by
    intro n m g h1 h2
    obtain ⟨blk, h3⟩ := gm_inv h2
    obtain ⟨n', h4, h5⟩ := mergeE_new σ E (mapB (B.ren (W.back σ E.length)) E') hnd hlt hlenb n (g, blk.ren (W.back σ E.length)) (by simp [mapB, h3])
    rw [h1] at h4
    simp only [Option.some.injEq] at h4
    subst h4
    exact gm_get h5
  have gx2 : GExt (gm E) (gm (mergeE σ E (mapB (B.ren (W.back σ E.length)) E'))) := by
    intro n g hn
    obtain ⟨blk, hE⟩ := gm_inv hn
    by_cases hs : n ∈ σ
    · obtain ⟨j, hj⟩ := List.mem_iff_getElem?.1 hs
      obtain ⟨g1, b1, h1, h2⟩ := hel j n hj
      rw [hE] at h1
      simp only [Option.some.injEq, Prod.mk.injEq] at h1
      obtain ⟨rfl, rfl⟩ := h1
      obtain ⟨g', h3, h4⟩ := k.gx j g (gm_get h2)
      exact ⟨g', fwd j n g' (by simp [W.back, hj]) h3, h4⟩
    · exact ⟨g, by simp only [gm, List.getElem?_map]; rw [mergeE_old σ _ _ hs (List.getElem?_eq_some_iff.1 hE).1, hE]; rfl, g.le_refl⟩
  have hlb : ∀ (n b : Nat) (g : Gb) (blk : B), n ∈ σ → E[n]? = some (g, blk) → g.ob = some b → B.live blk = true → b ∈ blks El := by
    intro n b g blk hn hE hb hl
    obtain ⟨j, hj⟩ := List.mem_iff_getElem?.1 hn
    obtain ⟨g1, b1, h1, h2⟩ := hel j n hj
    rw [hE] at h1
    simp only [Option.some.injEq, Prod.mk.injEq] at h1
    obtain ⟨rfl, rfl⟩ := h1
    exact mem_blks.2 ⟨j, g, _, h2, hb, by rw [B.live_ren]; exact hl⟩
  -- an old block that was not handed over
  have hold : ∀ (n b : Nat) (g : Gb) (blk : B), n ∉ σ → E[n]? = some (g, blk) → g.ob = some b → B.live blk = true → b < w.heap.size ∧ b ∉ blks El := by
    intro n b g blk hn hE hgb hl
    refine ⟨(h.own n _ blk hE).lt hl hgb, fun hb => ?_⟩
    obtain ⟨m, gm', bk, hm, hEm, hgm, hlm⟩ := hbl b hb
    have := h.inj n m g gm' blk bk b hE hEm hgb hgm hl hlm
    subst this
    exact hn hm
  have hget : ∀ (n : Nat) (g : Gb) (blk : B), (mergeE σ E (mapB (B.ren (W.back σ E.length)) E'))[n]? = some (g, blk) → blk.live = true →
      (n ∉ σ ∧ E[n]? = some (g, blk)) ∨ (∃ (j : Nat) (bk : B), E'[j]? = some (g, bk) ∧ bk.live = true ∧ blk = bk.ren (W.back σ E.length) ∧ some n = W.back σ E.length j) := by
    intro n g blk hn hl
    rcases mergeE_get _ _ _ _ _ hn with ⟨h1, _, h2⟩ | ⟨j, h1, h2⟩ | h1
    · exact .inl ⟨h1, h2⟩
    · simp only [mapB, List.getElem?_map] at h1
      cases hj : E'[j]? with
      | none => rw [hj] at h1; cases h1
      | some y =>
        rw [hj] at h1
        simp only [Option.map_some, Option.some.injEq, Prod.mk.injEq] at h1
        obtain ⟨h1a, h1b⟩ := h1
        subst h1b
        exact .inr ⟨j, y.2, by rw [hj, ← h1a], by rw [B.live_ren] at hl; exact hl, rfl, h2⟩
    · simp only [Prod.mk.injEq] at h1; rw [h1.2] at hl; cases hl
  have hext : Ext ro ro' := k.ro0
  refine ⟨⟨fun n g blk hn => ?_, fun n m gn gm' bn bm b hn hm en em ln lm => ?_, fun b off c hc n g blk hn en => ?_, k.rd, h.ro0.trans hext, fun b off c hc => ?_, fun n b g blk hn en hl => ?_, h.gx.trans gx2, Nat.le_trans h.sz k.sz, fun b hb hp => ?_, k.os.trans h.os, k.tape.trans h.tape, k.output.trans h.output⟩, gx2, fwd⟩
  · by_cases hl : blk.live = true
    · rcases hget n g blk hn hl with ⟨h1, h2⟩ | ⟨j, bk, h1, h2, rfl, h4⟩
      · refine (h.own n g blk h2).same gx2 hext fun b hb => ?_
        obtain ⟨h3, h4⟩ := hold n b g blk h1 h2 hb hl
        exact k.keep b h3 h4
      · exact B.On_ren fwd (k.own j g bk h1)
    · cases blk <;> simp [B.live] at hl; trivial
  · rcases hget n _ bn hn ln with ⟨h1, h2⟩ | ⟨j, bk, h1, h2, h3, h4⟩ <;> rcases hget m _ bm hm lm with ⟨k1, k2⟩ | ⟨j', bk', k1, k2, k3, k4⟩
    · exact h.inj n m gn gm' bn bm b h2 k2 en em ln lm
    · obtain ⟨q1, q2⟩ := hold n b gn bn h1 h2 en ln
      rcases k.par j' b gm' bk' k1 em k2 with q | q
      · simp only at q; omega
      · exact absurd q q2
    · obtain ⟨q1, q2⟩ := hold m b gm' bm k1 k2 em lm
      rcases k.par j b gn bk h1 en h2 with q | q
      · simp only at q; omega
      · exact absurd q q2
    · have := k.inj j j' gn gm' bk bk' b h1 k1 en em h2 k2
      subst this
      rw [← k4] at h4
      exact Option.some.inj h4
  · by_cases hl : blk.live = true
    · rcases hget n _ blk hn hl with ⟨h1, h2⟩ | ⟨j, bk, h1, h2, h3, h4⟩
      · obtain ⟨q1, q2⟩ := hold n b g blk h1 h2 en hl
        rcases k.rob b off c hc with q | q | q
        · have := h.apart b off c q n g blk h2 en; rw [hl] at this; cases this
        · simp only at q; omega
        · exact absurd q q2
      · have := k.apart b off c hc j g bk h1 en; rw [h2] at this; cases this
    · simpa using hl
  · rcases k.rob b off c hc with q | q | q
    · exact h.rob b off c q
    · simp only at q; have := h.sz; exact .inr (.inl (by omega))
    · obtain ⟨n, g, blk, hn, hE, hgb, hl⟩ := hbl b q
      exact .inr (h.par n b g blk hE hgb hl)
  · rcases hget n _ blk hn hl with ⟨h1, h2⟩ | ⟨j, bk, h1, h2, h3, h4⟩
    · exact h.par n b g blk h2 en hl
    · rcases k.par j b g bk h1 en h2 with q | q
      · simp only at q; have := h.sz; exact .inl (by omega)
      · obtain ⟨n', g', blk', hn', hE, hgb, hl'⟩ := hbl b q
        exact h.par n' b g' blk' hE hgb hl'
  · rw [k.keep b (by have := h.sz; simp only; omega) (fun hb' => ?_)]
    · exact h.keep b hb hp
    · obtain ⟨n, g, blk, hn, hE, hgb, hl⟩ := hbl b hb'
      rcases h.par n b g blk hE hgb hl with q | q
      · omega
      · exact hp q

theorem run_enter {f : FuncId} (he : enters P f = true) (args : Array Value) (w : World) : (callFunc f args).run P w = .ok (.enter f args) w := by
  unfold enters at he
  cases hf : P.funcs[f]? with
  | none => simp [hf] at he
  | some fn =>
    simp only [hf, Bool.and_eq_true, Bool.not_eq_true'] at he
    cases hb : fn.body with
    | none => simp [hb] at he
    | some c =>
      have hn := he.2
      simp only [callFunc, Sem.run_bind, run_program, Result.andThen_ok, hf, hn, hb]
      simp

/-- A call, once it is known what is entered with what. -/
theorem call_core (hr : Rel X E ro w) (hm : MeetsAll P Γ) {f : FuncId} {as : List S} {vs : List Value} (hl : as.length = vs.length) (hrel : ∀ (i : Nat) (x : S) (v : Value), as[i]? = some x → vs[i]? = some v → x.rel (gm E) ro v)
    (hrun : enters P f = true → (execOp a.eval o).run P w = .ok (.enter f vs.toArray) w) {σ : List Nat} {R : S → Hp → Prop} (hv : callP Γ (hp E) f as σ R) : EDoes P o a w X E ro R := by
  intro next Q hK
  obtain ⟨⟨hnd, hlt⟩, hsp⟩ := hv
  obtain ⟨s, hmem, hs⟩ := sp_mem hsp
  rw [hp_len] at hlt
  have gxl : ∀ (n m : Nat) (g : Gb), loc σ n = some m → (gm E)[n]? = some g → (gm (mapB (B.ren (loc σ)) (pickE E σ)))[m]? = some g := fun n m g h1 h2 => by rw [gm_mapB]; exact loc_gm n m g h1 h2
  have hloc : Rel ⟨w, blks (mapB (B.ren (loc σ)) (pickE E σ)), ro, gm (mapB (B.ren (loc σ)) (pickE E σ))⟩ (mapB (B.ren (loc σ)) (pickE E σ)) ro w := by
    have h0 : Rel ⟨w, blks E, ro, []⟩ E ro w := ⟨hr.own, hr.inj, hr.apart, hr.rd, Ext.refl _, fun _ _ _ h => .inl h, fun n b g blk hn en hl => .inr (mem_blks.2 ⟨n, g, blk, hn, en, hl⟩), fun n g hn => by simp at hn, Nat.le_refl _, fun _ _ _ => rfl, rfl, rfl, rfl⟩
    exact (h0.sel hnd hlt (fun n g hn => by simp at hn)).here
  obtain ⟨hent, hmeets⟩ := (hm f s hmem).1
  have hcall := hmeets (as.map fun s => s.nf.ren (loc σ)) vs (mapB (B.ren (loc σ)) (pickE E σ)) ro w _ (by simpa using hl) (fun i x v hx hv => by
    rw [List.getElem?_map] at hx
    cases hi : as[i]? with
    | none => rw [hi] at hx; cases hx
    | some y =>
      rw [hi] at hx
      simp only [Option.map_some, Option.some.injEq] at hx
      subst hx
      exact S.rel_ren gxl (S.rel_nf (hrel i y v hi hv))) hloc (by rw [hp_mapB, hp_pick]; exact hs)
  unfold Oper.wp
  rw [hrun hent, Oper.upon_enter]
  refine hcall.mono ?_
  rintro e w' ⟨r, v, E', ro', rfl, hrv, hR, hrel'⟩
  obtain ⟨q1, q2, q3⟩ := hr.back hnd hlt rfl hrel'
  refine hK _ v _ ro' w' ?_ (S.rel_ren q3 hrv) q2 hrel'.ro0 q1
  rw [hp_merge, hp_mapB]
  rw [hp_len] at hR
  exact hR

theorem gds_sls : ∀ {xs : List O}, gds fr (O.sls xs) → ∀ x ∈ xs, gds fr x.sl
  | [], _, x, hx => by simp at hx
  | y :: r, h, x, hx => by
    simp only [O.sls] at h
    have hsplit : ∀ {l1 l2 : List Nat}, gds fr (l1 ++ l2) → gds fr l1 ∧ gds fr l2 := by
      intro l1
      induction l1 with
      | nil => intro l2 h; exact ⟨trivial, h⟩
      | cons i r ih => intro l2 h; exact ⟨⟨h.1, (ih h.2).1⟩, (ih h.2).2⟩
    rcases List.mem_cons.1 hx with rfl | hx
    · exact (hsplit h).1
    · exact gds_sls (hsplit h).2 x hx

theorem gds_app : ∀ {l1 l2 : List Nat}, gds fr (l1 ++ l2) → gds fr l1 ∧ gds fr l2
  | [], l2, h => ⟨trivial, h⟩
  | i :: r, l2, h => by obtain ⟨h1, h2⟩ := gds_app (l1 := r) h.2; exact ⟨⟨h.1, h1⟩, h2⟩
theorem arg_rel (hf : FRel N γ ro fr a) {xs : List Operand} (hg : gds fr (O.sls (xs.map trO))) : ∀ (i : Nat) (x : S) (v : Value), ((xs.map trO).map fun o => ev (fst fr) o)[i]? = some x → (xs.map a.eval)[i]? = some v → x.rel γ ro v := by
  intro i x v hx hv
  rw [List.map_map, List.getElem?_map] at hx
  rw [List.getElem?_map] at hv
  cases hi : xs[i]? with
  | none => rw [hi] at hx; cases hx
  | some y =>
    rw [hi] at hx hv
    simp only [Option.map_some, Function.comp, Option.some.injEq] at hx hv
    subst hx; subst hv
    have hgy := gds_sls hg (trO y) (List.mem_map.2 ⟨y, List.mem_of_getElem? hi, rfl⟩)
    rw [ev_congr (fst_res hgy)]
    exact ev_rel hf.res y

theorem cl_sound (hf : FRel N (gm E) ro fr a) (hr : Rel X E ro w) (hm : MeetsAll P Γ) {f : FuncId} {c : Call} (ho : o.op = .call c) (hc : c.callee = .value (.func f)) {σ : List Nat} {R : S → Hp → Prop}
    (hv : vI Γ fr (hp E) R (.cl f (c.args.toList.map trO) σ)) : EDoes P o a w X E ro R := by
  obtain ⟨hg, hv⟩ := hv
  refine call_core (vs := c.args.toList.map a.eval) hr hm (by simp) (arg_rel hf hg) (fun hent => ?_) hv
  have he' := run_enter hent (c.args.map a.eval) w
  have harr : c.args.map a.eval = (c.args.toList.map a.eval).toArray := by rw [← Array.toList_map, Array.toArray_toList]
  rw [harr] at he'
  simp [execOp, ho, resolve, hc, Act.eval, Deferred.ofValue, invoke, harr, he']

theorem ca_sound (hf : FRel N (gm E) ro fr a) (hr : Rel X E ro w) (hm : MeetsAll P Γ) {t : Nat} {c : Call} (ho : o.op = .call c) (hc : c.callee = .value (.tmp t)) {σ : List Nat} {R : S → Hp → Prop}
    (hv : vI Γ fr (hp E) R (.ca (.t t) (c.args.toList.map trO) σ)) : EDoes P o a w X E ro R := by
  obtain ⟨hg, hv⟩ := hv
  obtain ⟨hg1, hg2⟩ := gds_app hg
  split at hv
  · rename_i f ns hx
    have h1 : (C.fn f ns).rel (gm E) ro (a.eval (.tmp t)) := by
      have := ev_rel hf.res (.tmp t)
      simp only [trO] at this
      rw [← ev_congr (fr := fst fr) (fst_res hg1), hx] at this
      exact this
    obtain ⟨bs, h2, h3⟩ := h1
    refine call_core (vs := c.args.toList.map a.eval ++ bs.map fun b => Value.pointer (some ⟨b, 0, none⟩)) hr hm (by simp [h3.1]) (fun i x v hxx hvv => ?_) (fun hent => ?_) hv
    · rw [List.getElem?_append] at hxx hvv
      simp only [List.length_map] at hxx hvv
      split at hxx
      · rename_i hlt
        rw [if_pos hlt] at hvv
        exact arg_rel hf hg2 i x v hxx hvv
      · rename_i hlt
        rw [if_neg hlt] at hvv
        rw [List.getElem?_map] at hxx hvv
        cases hn : ns[i - c.args.toList.length]? with
        | none => rw [hn] at hxx; cases hxx
        | some n =>
          cases hb : bs[i - c.args.toList.length]? with
          | none => rw [hb] at hvv; cases hvv
          | some b =>
            rw [hn] at hxx; rw [hb] at hvv
            simp only [Option.map_some, Option.some.injEq] at hxx hvv
            subst hxx; subst hvv
            obtain ⟨g, q1, q2, q3⟩ := h3.2 _ n b hn hb
            exact ⟨g, b, q1, q2, q3, rfl⟩
    · have harr : c.args.map a.eval ++ (bs.map fun b => Value.pointer (some ⟨b, 0, none⟩)).toArray = (c.args.toList.map a.eval ++ bs.map fun b => Value.pointer (some ⟨b, 0, none⟩)).toArray := by
        apply Array.ext'; simp
      have he' := run_enter hent (c.args.map a.eval ++ (bs.map fun b => Value.pointer (some ⟨b, 0, none⟩)).toArray) w
      simp only [Act.eval] at h2
      rw [← harr]
      simp [execOp, ho, resolve, hc, Act.eval, h2, Deferred.ofValue, invoke] at he' ⊢
      exact he'
  · exact hv.elim

end
end Go.W
