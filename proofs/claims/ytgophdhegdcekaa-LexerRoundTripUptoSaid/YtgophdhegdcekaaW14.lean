/- The W library, part 14: code, and whole functions. -/
import Derived.Test.YtgophdhegdcekaaW13
import Derived.Deep.LoopGhost
namespace Go.W

def Ex.to : Ex → Exit
  | .n => .normal
  | .e id => .exit id
  | .r => .ret

inductive RV where
  | mv (o : O)
  | ld (i : LI)
/-- The results of a function. -/
def trRV (P : Program) : ResultVar → Option RV
  | .tmp t => some (.mv (.t t))
  | .cell c t => match aggT P t, szT P t with
    | some true, some n => some (.ld (.ldn n (.t c)))
    | some false, some _ => some (.ld (.ld1 (.t c)))
    | _, _ => none
def trRVs (P : Program) : List ResultVar → Option (List RV)
  | [] => some []
  | r :: l => match trRV P r, trRVs P l with
    | some i, some l => some (i :: l)
    | _, _ => none

def vRs (fr : Fr) (H : Hp) : List RV → (List A → Prop) → Prop
  | [], K => K []
  | .mv o :: r, K => match ev (fst fr) o with
    | .va a => gds fr o.sl ∧ vRs fr H r fun l => K (a :: l)
    | _ => False
  | .ld i :: r, K => gds fr i.sl ∧ vL (fst fr) H i fun s => match s with
    | .va a => vRs fr H r fun l => K (a :: l)
    | _ => False
def tup : List A → S
  | [a] => .va a
  | l => .tu l

/-- What is to be shown where a function returns. -/
def retK (k0 : Nat) (rs : List RV) (K : S → Hp → Prop) : Ex → Fr → Hp → Prop
  | .e _, _, _ => False
  | _, fr, H => vRs fr H rs fun l => Fin k0 K (tup l).nf H

def fr0 (as : List S) : Fr := fun i => as.getD i .un

section
variable {P : Program} {N : Nat} {nw : Bool} {X : Ctx} {Γ : Env}

theorem trR_split {ops : Array Oper} {h : Nat → CH} : ∀ (n : Nat) {l : List Oper} {k : Nat} {js : List J}, trR P nw N ops h k l = some js →
    trR P nw N ops h k (l.take n) = some (js.take n) ∧ trR P nw N ops h (k + n) (l.drop n) = some (js.drop n)
  | 0, l, k, js, hj => ⟨rfl, by simpa using hj⟩
  | n + 1, [], k, js, hj => by simp only [trR, Option.some.injEq] at hj; subst hj; exact ⟨rfl, rfl⟩
  | n + 1, o :: l, k, js, hj => by
    obtain ⟨j, js', rfl, h1, h2⟩ := trR_cons hj
    obtain ⟨h3, h4⟩ := trR_split n h2
    refine ⟨?_, ?_⟩
    · simp only [List.take_succ_cons, trR, h1, h3]
    · simp only [List.drop_succ_cons]; rw [← h4]; congr 1; omega

theorem trR_length {ops : Array Oper} {h : Nat → CH} : ∀ {l : List Oper} {k : Nat} {js : List J}, trR P nw N ops h k l = some js → js.length = l.length
  | [], k, js, hj => by simp only [trR, Option.some.injEq] at hj; subst hj; rfl
  | o :: l, k, js, hj => by
    obtain ⟨j, js', rfl, h1, h2⟩ := trR_cons hj
    simp [trR_length h2]

theorem head_quiet : ∀ (js : List J), ∀ j ∈ js.take (headLen js), j.quiet = true
  | [], j, h => by simp at h
  | k :: r, j, h => by
    simp only [headLen] at h
    split at h
    · rename_i hk
      simp only [List.take_succ_cons, List.mem_cons] at h
      rcases h with rfl | h
      · exact hk
      · exact head_quiet r j h
    · simp at h

theorem reg_sound (hm : MeetsAll P Γ) {id : Nat} {ops : Array Oper} {draw : Bool} {h : Nat → CH} {js : List J} (hj : trR P nw N ops h 0 ops.toList = some js)
    (hd : draw = true → (P.follows .mixedOrders && (if js.all J.quietC then Region.lexB .any ops else Region.lexTailB .any ops (headLen js))) = true)
    {fr : Fr} {E : Es} {ro : RO} {a : Act} {w : World} {K : Fr → Hp → Prop} (hf : FRel N (gm E) ro fr a) (hr : Rel X E ro w) (hv : vR Γ js fr (hp E) K) {Q : Exit → Act → World → Prop}
    (hQ : ∀ fr E ro a w, K fr (hp E) → FRel N (gm E) ro fr a → Rel X E ro w → Q .normal a w) : (Code.region id ops draw).wp P Q a w := by
  cases draw with
  | false => exact wp_region_list (r_sound hm hQ _ _ _ hj _ _ _ _ _ hf hr hv)
  | true =>
    have hd := hd rfl
    simp only [Bool.and_eq_true] at hd
    obtain ⟨hmix, hB⟩ := hd
    split at hB
    · rename_i hl
      refine wp_region_quiet (C := Rel X E ro) hmix hB hr.drew ?_
      exact quiet_sound (X := X) hm w ops.toList 0 js hj (fun j hj' => List.all_eq_true.1 hl j hj') fr E ro a K hf hr hv fun fr' a' hf' hK w' hr' => hQ _ _ _ _ _ hK hf' hr'
    · rename_i hl
      have hops : ops = ops.toList.toArray := by simp
      rw [hops] at hB ⊢
      refine wp_region_still_tail (headLen js) hmix hB ?_
      obtain ⟨h1, h2⟩ := trR_split (headLen js) hj
      rw [Nat.zero_add] at h2
      rw [hops] at h1 h2
      refine head_sound (Y := X) _ 0 _ (js.drop (headLen js)) h1 (head_quiet js) fr E ro a K hf hr.drew (by rw [List.take_append_drop]; exact hv) fun fr' a' hf' hK => ?_
      exact r_sound (X := X) hm hQ _ _ _ h2 _ _ _ _ _ hf' hr.drew hK

theorem code_sound (hm : MeetsAll P Γ) {h : Hint} {k0 : Nat} (hk0 : X.g0.length = k0) : ∀ (c : Code) (pc : PC), tr P nw N h c = some pc → ∀ (fr : Fr) (E : Es) (ro : RO) (a : Act) (w : World) (K : Ex → Fr → Hp → Prop), FRel N (gm E) ro fr a → Rel X E ro w → vc Γ k0 pc fr (hp E) K →
    ∀ (Q : Exit → Act → World → Prop), (∀ ex fr' E' ro' a' w', K ex fr' (hp E') → FRel N (gm E') ro' fr' a' → Rel X E' ro' w' → Q ex.to a' w') → c.wp P Q a w := by
  intro c
  induction c with
  | skip => intro pc hpc fr E ro a w K hf hr hv Q hQ; simp only [tr, Option.some.injEq] at hpc; subst hpc; exact wp_skip (hQ .n _ _ _ _ _ hv hf hr)
  | exit id => intro pc hpc fr E ro a w K hf hr hv Q hQ; simp only [tr, Option.some.injEq] at hpc; subst hpc; exact wp_exit (hQ (.e id) _ _ _ _ _ hv hf hr)
  | ret => intro pc hpc fr E ro a w K hf hr hv Q hQ; simp only [tr, Option.some.injEq] at hpc; subst hpc; exact wp_ret (hQ .r _ _ _ _ _ hv hf hr)
  | seq x y ihx ihy =>
    intro pc hpc fr E ro a w K hf hr hv Q hQ
    simp only [tr] at hpc
    split at hpc
    · rename_i px py hx hy
      simp only [Option.some.injEq] at hpc
      subst hpc
      simp only [vc] at hv
      refine wp_seq (ihx px hx fr E ro a w _ hf hr hv _ ?_)
      intro ex fr' E' ro' a' w' hK hf' hr'
      cases ex with
      | n => exact ihy py hy fr' E' ro' a' w' K hf' hr' hK Q hQ
      | e id => exact hQ (.e id) _ _ _ _ _ hK hf' hr'
      | r => exact hQ .r _ _ _ _ _ hK hf' hr'
    · cases hpc
  | cond o x y ihx ihy =>
    intro pc hpc fr E ro a w K hf hr hv Q hQ
    simp only [tr] at hpc
    split at hpc
    · rename_i px py hx hy
      simp only [Option.some.injEq] at hpc
      subst hpc
      simp only [vc] at hv
      split at hv
      · rename_i b hb
        obtain ⟨hg, h1, h2⟩ := hv
        have he : a.eval o = .bool b := by
          have := ev_rel hf.res o
          rw [← ev_congr (fst_res hg), hb] at this
          exact this
        exact wp_cond_split he (fun hb => ihx px hx fr E ro a w K hf hr (h1 hb) Q hQ) (fun hb => ihy py hy fr E ro a w K hf hr (h2 hb) Q hQ)
      · exact hv.elim
    · cases hpc
  | block id x ihx =>
    intro pc hpc fr E ro a w K hf hr hv Q hQ
    simp only [tr] at hpc
    split at hpc
    · rename_i px hx
      simp only [Option.some.injEq] at hpc
      subst hpc
      simp only [vc] at hv
      refine wp_block (ihx px hx fr E ro a w _ hf hr hv _ ?_)
      intro ex fr' E' ro' a' w' hK hf' hr'
      cases ex with
      | n => exact hQ .n _ _ _ _ _ hK hf' hr'
      | e j =>
        simp only [Ex.to, Exit.inBlock]
        simp only at hK
        split at hK
        · rename_i hj; rw [if_pos hj]; exact hQ .n _ _ _ _ _ hK hf' hr'
        · rename_i hj; rw [if_neg hj]; exact hQ (.e j) _ _ _ _ _ hK hf' hr'
      | r => exact hQ .r _ _ _ _ _ hK hf' hr'
    · cases hpc
  | loop x ihx =>
    intro pc hpc fr E ro a w K hf hr hv Q hQ
    simp only [tr] at hpc
    split at hpc
    · rename_i px hx
      simp only [Option.some.injEq] at hpc
      subst hpc
      simp only [vc] at hv
      obtain ⟨Inv, h0, hround⟩ := hv
      obtain ⟨fr1, E1, ro1, ⟨m, hI⟩, hf1, hr1⟩ := gh_sound hk0 h0 rfl hf hr
      refine wp_loop_ghost (fun m a w => ∃ fr E ro, Inv m fr (hp E) ∧ FRel N (gm E) ro fr a ∧ Rel X E ro w) m ⟨_, _, _, hI, hf1, hr1⟩ ?_
      rintro n a w ⟨fr2, E2, ro2, hI2, hf2, hr2⟩
      refine ihx px hx fr2 E2 ro2 a w _ hf2 hr2 (hround n fr2 _ hI2) _ ?_
      intro ex fr' E' ro' a' w' hK hf' hr'
      cases ex with
      | n =>
        obtain ⟨fr3, E3, ro3, ⟨m', hlt, hI3⟩, hf3, hr3⟩ := gh_sound hk0 hK rfl hf' hr'
        exact ⟨m', hlt, _, _, _, hI3, hf3, hr3⟩
      | e id => exact hQ (.e id) _ _ _ _ _ hK hf' hr'
      | r => exact hQ .r _ _ _ _ _ hK hf' hr'
    · cases hpc
  | region id ops draw =>
    intro pc hpc fr E ro a w K hf hr hv Q hQ
    simp only [tr] at hpc
    split at hpc
    · rename_i js hj
      have hd : draw = true → (P.follows .mixedOrders && (if js.all J.quietC then Region.lexB .any ops else Region.lexTailB .any ops (headLen js))) = true := by
        intro hd
        rw [if_pos hd] at hpc
        by_cases hB : (P.follows .mixedOrders && (if js.all J.quietC then Region.lexB .any ops else Region.lexTailB .any ops (headLen js))) = true
        · exact hB
        · rw [if_neg hB] at hpc; cases hpc
      have hpc' : pc = (if h.gh id then .gh (.reg js) else .reg js) := by
        by_cases hdr : draw = true
        · rw [if_pos hdr, if_pos (hd hdr)] at hpc; exact (Option.some.inj hpc).symm
        · rw [if_neg hdr] at hpc; exact (Option.some.inj hpc).symm
      subst hpc'
      split at hv
      · simp only [vc] at hv
        obtain ⟨fr1, E1, ro1, hv1, hf1, hr1⟩ := gh_sound hk0 hv rfl hf hr
        exact reg_sound hm hj hd hf1 hr1 hv1 fun fr E ro a w hK hf hr => hQ .n _ _ _ _ _ hK hf hr
      · simp only [vc] at hv
        exact reg_sound hm hj hd hf hr hv fun fr E ro a w hK hf hr => hQ .n _ _ _ _ _ hK hf hr
    · cases hpc
  | rangeFunc f ps x y => intro pc hpc; simp [tr] at hpc
  | scope x => intro pc hpc; simp [tr] at hpc
  | label l => intro pc hpc; simp [tr] at hpc
  | goto l => intro pc hpc; simp [tr] at hpc
  | refuse s => intro pc hpc fr E ro a w K hf hr hv Q hQ; simp only [tr, Option.some.injEq] at hpc; subst hpc; exact hv.elim

def rvF (tmps : Array Value) (r : ResultVar) : Sem Value :=
  match r with
  | .tmp t => pure (tmps.getD t undef)
  | .cell c t => do loadVar t (← asAddr (tmps.getD c undef))

theorem results_rvF (fn : Func) (tmps : Array Value) : results fn tmps = (do let vs ← fn.results.mapM (rvF tmps); pure (if h : vs.size = 1 then vs[0] else .tuple vs)) := rfl

theorem rvs_sound {fr : Fr} {a : Act} {E : Es} {ro : RO} {w : World} (hf : FRel N (gm E) ro fr a) (hr : Rel X E ro w) : ∀ {rvs : List ResultVar} {rs : List RV} {K : List A → Prop}, trRVs P rvs = some rs → vRs fr (hp E) rs K →
    ∃ l vs, K l ∧ (rvs.mapM (rvF a.tmps)).run P w = .ok vs w ∧ All2 (A.rel (gm E) ro) l vs
  | [], rs, K, h1, h2 => by
    simp only [trRVs, Option.some.injEq] at h1
    subst h1
    exact ⟨[], [], h2, by simp, .nil⟩
  | rv :: rvs, rs, K, h1, h2 => by
    simp only [trRVs] at h1
    split at h1
    · rename_i i rs' hi hrs
      simp only [Option.some.injEq] at h1
      subst h1
      have fin : ∀ {y : A} {v : Value}, (rvF a.tmps rv).run P w = .ok v w → y.rel (gm E) ro v → vRs fr (hp E) rs' (fun l => K (y :: l)) → ∃ l vs, K l ∧ ((rv :: rvs).mapM (rvF a.tmps)).run P w = .ok vs w ∧ All2 (A.rel (gm E) ro) l vs := by
        intro y v hv hy hr'
        obtain ⟨l, vs, k1, k2, k3⟩ := rvs_sound hf hr hrs hr'
        exact ⟨_, v :: vs, k1, by simp only [List.mapM_cons, Sem.run_bind, hv, Result.andThen_ok, k2]; simp, .cons hy k3⟩
      cases rv with
      | tmp t =>
        simp only [trRV, Option.some.injEq] at hi
        subst hi
        simp only [vRs] at h2
        split at h2
        · rename_i y hy
          obtain ⟨hg, h2⟩ := h2
          have h3 := ev_rel hf.res (.tmp t)
          simp only [trO] at h3
          rw [← ev_congr (fr := fst fr) (fst_res hg), hy] at h3
          exact fin (v := a.tmps.getD t undef) (by simp [rvF]) h3 h2
        · exact h2.elim
      | cell c t =>
        have hld : ∀ {v : Value}, (execOp a.eval { dst := none, op := .load t (.tmp c), type := t, pos := "", after := #[], guard := none }).run P w = .ok (.value v) w → (rvF a.tmps (.cell c t)).run P w = .ok v w := by
          intro v hv
          simp only [execOp, Instr.loadAt, Act.eval] at hv
          simp only [rvF]
          cases hp : a.tmps.getD c undef with
          | pointer p =>
            cases p with
            | none => rw [hp] at hv; simp [Instr.sureAddr] at hv
            | some ad =>
              rw [hp] at hv
              simp only [Instr.sureAddr, asAddr] at hv ⊢
              simp only [pure_bind, Sem.run_bind] at hv ⊢
              cases hl : (loadVar t ad).run P w with
              | ok x w' => rw [hl] at hv; simpa using hv
              | halt x w' => rw [hl] at hv; simp at hv
          | _ => rw [hp] at hv; simp [Instr.sureAddr] at hv
        have hcase : ∃ li, i = .ld li ∧ trL P (.load t (.tmp c)) = some li := by
          simp only [trRV] at hi
          simp only [trL]
          split at hi <;> simp only [Option.some.injEq, reduceCtorEq] at hi <;> subst hi <;> simp_all [trO]
        obtain ⟨li, rfl, hli⟩ := hcase
        obtain ⟨hg, h2⟩ := h2
        rw [l_congr (fst_res hg)] at h2
        obtain ⟨s, hK, v, hv, hrun⟩ := l_sound (P := P) (o := { dst := none, op := .load t (.tmp c), type := t, pos := "", after := #[], guard := none }) hf.res hr hli h2
        cases s with
        | va y => exact fin (hld (hrun X w hr)) hv hK
        | _ => exact hK.elim
    · cases h1

/-- A FUNCTION MEETS ITS SPECIFICATION. -/
theorem meets_of {f : FuncId} {fn : Func} {c : Code} {pc : PC} {rs : List RV} {h : Hint} (hf : P.funcs[f]? = some fn) (hb : fn.body = some c) (hnm : (fn.name == "runtime.NumGoroutine") = false) (hN : fn.ntmps = N) (hpc : tr P nw N h c = some pc) (hrs : trRVs P fn.results.toList = some rs)
    (hm : MeetsAll P Γ) {s : Spec} (hlen : ∀ as H K, s as H K → as.length ≤ N) (hs : ∀ as H K, s as H K → vc Γ H.length pc (fr0 as) H (retK H.length rs K)) : Meets P f s := by
  refine ⟨by simp [enters, hf, hb, hnm], ?_⟩
  intro as vs E ro w K hl hrel hr hsp
  have hlN := hlen as (hp E) K hsp
  refine calls_of_wp hf hb ?_
  have hfr : FRel N (gm E) ro (fr0 as) { tmps := vs.toArray ++ Array.replicate (fn.ntmps - vs.toArray.size) undef, defers := [] } := by
    refine ⟨by simp [hN]; omega, fun i => ?_, rfl⟩
    unfold fr0
    rw [List.getD_eq_getElem?_getD]
    cases hi : as[i]? with
    | none => trivial
    | some x =>
      have hlt : i < vs.length := by rw [← hl]; exact (List.getElem?_eq_some_iff.1 hi).1
      have hv : vs[i]? = some vs[i] := List.getElem?_eq_getElem hlt
      have := hrel i x _ hi hv
      simp only [Option.getD_some]
      have he : (vs.toArray ++ Array.replicate (fn.ntmps - vs.toArray.size) undef).getD i undef = vs[i] := by
        rw [Array.getD_eq_getD_getElem?, Array.getElem?_append_left (by simpa using hlt)]
        simp [hlt]
      simp only [he]
      exact this
  have hk0 : (Ctx.mk w (blks E) ro (gm E)).g0.length = (hp E).length := by simp [gm, hp]
  refine code_sound hm hk0 c pc hpc _ _ _ _ _ _ hfr hr (hs as (hp E) K hsp) _ ?_
  have fin : ∀ fr' E' ro' a' w', vRs fr' (hp E') rs (fun l => Fin (hp E).length K (tup l).nf (hp E')) → FRel N (gm E') ro' fr' a' → Rel ⟨w, blks E, ro, gm E⟩ E' ro' w' →
      a'.defers = [] ∧ ∃ v, (results fn a'.tmps).run P w' = .ok v w' ∧ ∃ r v' E'' ro'', Ending.returned v = .returned v' ∧ S.rel (gm E'') ro'' r v' ∧ K r (hp E'') ∧ Rel ⟨w, blks E, ro, gm E⟩ E'' ro'' w' := by
    intro fr' E' ro' a' w' h1 h4 h5
    obtain ⟨l, us, h3, hrun, hus⟩ := rvs_sound h4 h5 hrs h1
    refine ⟨h4.defers, (if h : us.toArray.size = 1 then us.toArray[0] else .tuple us.toArray), ?_, ?_⟩
    · simp only [results_rvF, Array.mapM_eq_mapM_toList, Sem.run_bind, Sem.run_map, hrun, Result.andThen_ok, Sem.run_pure]
    · have hrel : (tup l).rel (gm E') ro' (if h : us.toArray.size = 1 then us.toArray[0] else .tuple us.toArray) := by
        match l, us, hus with
        | [], us, hus => have := hus.nil_inv; subst this; exact ⟨[], rfl, .nil⟩
        | [y], us, hus =>
          obtain ⟨u, m', rfl, hy, hm'⟩ := hus.cons_inv
          have := hm'.nil_inv
          subst this
          exact hy
        | y :: z :: r, us, hus =>
          have : ¬ us.toArray.size = 1 := by have := hus.1; simp at this ⊢; omega
          rw [dif_neg this]
          exact ⟨us, rfl, hus⟩
      obtain ⟨r', E'', ro'', hK, hr', hR⟩ := fin_sound hk0 h3 rfl (S.rel_nf hrel) h5
      exact ⟨r', _, E'', ro'', rfl, hr', hK, hR⟩
  intro ex fr' E' ro' a' w' hK h4 h5
  cases ex with
  | n => exact fin fr' E' ro' a' w' hK h4 h5
  | r => exact fin fr' E' ro' a' w' hK h4 h5
  | e id => exact hK.elim

end

def trFn (P : Program) (nw : Bool) (h : Hint) (fn : Func) : Option (PC × List RV) :=
  if fn.name == "runtime.NumGoroutine" then none else
  match fn.body with
  | some c => match tr P nw fn.ntmps h c, trRVs P fn.results.toList with
    | some pc, some rs => some (pc, rs)
    | _, _ => none
  | none => none

theorem meets_fn {P : Program} {nw : Bool} {Γ : Env} {f : FuncId} {fn : Func} {pc : PC} {rs : List RV} {h : Hint} (hf : P.funcs[f]? = some fn) (hpc : trFn P nw h fn = some (pc, rs)) (n : Nat) (hn : n ≤ fn.ntmps)
    (hm : MeetsAll P Γ) {s : Spec} (hlen : ∀ as H K, s as H K → as.length = n) (hs : ∀ as H K, s as H K → vc Γ H.length pc (fr0 as) H (retK H.length rs K)) : Meets P f s := by
  unfold trFn at hpc
  split at hpc
  · cases hpc
  · rename_i hnm
    split at hpc
    · rename_i c hc
      split at hpc
      · rename_i pc' rs' h1 h2
        simp only [Option.some.injEq, Prod.mk.injEq] at hpc
        obtain ⟨rfl, rfl⟩ := hpc
        exact meets_of hf hc (by simpa using hnm) rfl h1 h2 hm (fun as H K hh => by rw [hlen as H K hh]; exact hn) hs
      · cases hpc
    · cases hpc

/-! ### Places where what is told may be made less, ahead of a tail of the code -/
def PC.hgh : PC → Bool
  | .gh _ => true
  | .seq x _ => x.hgh
  | _ => false
def PC.ungh : PC → PC
  | .gh x => x
  | .seq x y => .seq x.ungh y
  | x => x
theorem vc_head {Γ : Env} {k0 : Nat} : ∀ {pc : PC} {fr : Fr} {H : Hp} {K : Ex → Fr → Hp → Prop}, pc.hgh = true → Gh k0 (fun fr' H' => vc Γ k0 pc.ungh fr' H' K) fr H → vc Γ k0 pc fr H K
  | .gh x, fr, H, K, _, h => h
  | .seq x y, fr, H, K, hg, h => vc_head (pc := x) (K := fun e fr' H' => match e with | .n => vc Γ k0 y fr' H' K | e => K e fr' H') hg h
/-- What carries a Tag of a term keeps simp from going into that term. -/
structure Tag {α : Type} (a : α) : Type where
def vcn (Γ : Env) (k0 : Nat) (x : PC) (fr : Fr) (H : Hp) (K : Ex → Fr → Hp → Prop) (_ : Tag (Γ, x, fr, K)) : Prop := vc Γ k0 x fr H K
end Go.W
