/- The W library, part 8: append; every instruction that makes or writes memory. -/
import Derived.Test.YtngmjggconefcaaW7
namespace Go.W
section
variable {P : Program} {o : Oper} {N : Nat} {fr : Fr} {a : Act} {E : Es} {ro : RO} {X : Ctx} {w : World} {R : S → Hp → Prop}

/-- What is appended, and that the builtin appends it. -/
structure Src (P : Program) (a : Act) (ro : RO) (w : World) (t t2 ty e : TypeId) (y : Operand) (ys : List (List C)) (sz bytes : Nat) where
  news : List Value
  hl : news.length = ys.length * sz
  hz : ∀ r ∈ ys, r.length = sz
  hsh : shutss ys
  hrel : All2 (C.fv ro) ys.flatten news
  zero : ys = [] → ∀ (base : Option Addr) (n cap : Nat), n ≤ cap → (Builtin.append_ #[t, t2] ty #[.slice base n cap, a.eval y]).run P w = .ok (.slice base n cap) w
  told : ys ≠ [] → ∀ (ob : Option Nat) (n cap : Nat) (xs : List Value), w.ownsRow 0 e sz (.slice (obA ob 0) n cap) n xs → (n + ys.length) * bytes ≤ 140737488355328 →
    ∃ ob' cap' w', (Builtin.append_ #[t, t2] ty #[.slice (obA ob 0) n cap, a.eval y]).run P w = .ok (.slice (obA ob' 0) (n + ys.length) cap') w' ∧
      w'.ownsRow 0 e sz (.slice (obA ob' 0) (n + ys.length) cap') (n + ys.length) (xs ++ news) ∧ w.heap.size ≤ w'.heap.size ∧ w'.os = w.os ∧ w'.tape = w.tape ∧ w'.output = w.output ∧
      ((ob' = ob ∧ ∀ k, some k ≠ ob → w'.heap[k]? = w.heap[k]?) ∨ (ob' = some w.heap.size ∧ ∀ k, k < w.heap.size → w'.heap[k]? = w.heap[k]?)) ∧ n + ys.length ≤ cap'

theorem src_one {ro : RO} {ys : List (List C)} {news : List Value} (hsh : shutss ys) (hrel : All2 (C.fv ro) ys.flatten news) : ∀ u ∈ news, u.oneCell' = true := by
  intro u hu
  obtain ⟨j, hj⟩ := List.mem_iff_getElem?.1 hu
  obtain ⟨c, hc, hr⟩ := hrel.get' hj
  obtain ⟨r, h1, h2⟩ := List.mem_flatten.1 (List.mem_of_getElem? hc)
  obtain ⟨h3, h4⟩ := hsh r h1 c h2
  exact C.one_rel (γ := []) h4 ((C.rel_shut h3).2 hr)

/-- A slice that is read. -/
def Src.slice {t ty e : TypeId} {y : Operand} {i : TypeInfo} {z : Value} (ht : P.underlying t = some (.slice e)) (hi : P.info? e = some i) (hz0 : i.zero = some z) (hzs : z.cells.size = i.size) (hsz : 0 < i.size) (hby : 0 < i.bytes) {ys : List (List C)}
    (sa : Option Addr) (c : Nat) (news : List Value) (hy : a.eval y = .slice sa ys.length c) (hl : news.length = ys.length * i.size) (hz : ∀ r ∈ ys, r.length = i.size) (hsh : shutss ys) (hrel : All2 (C.fv ro) ys.flatten news)
    (hc : ∀ ad, sa = some ad → ∀ (j : Nat) (u : Value), news[j]? = some u → w.cell? (ad.add j) = some u) (hn : sa = none → ys = []) : Src P a ro w t t ty e y ys i.size i.bytes where
  news := news
  hl := hl
  hz := hz
  hsh := hsh
  hrel := hrel
  zero := fun h base n cap hle => by
    subst h
    rw [hy]
    exact run_append_zero ht hi hle
  told := fun h ob n cap xs hown hb => by
    cases hsa : sa with
    | none => exact absurd (hn hsa) h
    | some ad =>
      obtain ⟨ob', cap', w', hrun, r1, r2, r3, r4, r5, r6, r7, _⟩ := run_append_told (w := w) (P := P) (ty := ty) (c := c) ht hi hz0 hzs hsz hown hl (hc ad hsa) (src_one hsh hrel) hby hb
      exact ⟨ob', cap', w', by rw [hy, hsa]; exact hrun, r1, r2, r3, r4, r5, r6, r7⟩

theorem flat_one (l : List C) : (l.map fun c => [c]).flatten = l := by
  induction l with
  | nil => rfl
  | cons c l ih => simp only [List.map_cons, List.flatten_cons, ih]; rfl
theorem all2_fvl (l : List Value) : All2 (C.fv ro) (l.map C.vl) l := by
  refine ⟨by simp, fun i x y hx hy => ?_⟩
  rw [List.getElem?_map, hy] at hx
  simp at hx; subst hx; rfl
/-- A string. -/
def Src.str {t u ty e : TypeId} {y : Operand} {i : TypeInfo} (ht : P.underlying t = some (.slice e)) (hu : P.underlying u = some .string) (hi : P.info? e = some i) (hz0 : i.zero = some (.int .u8 0)) (hs1 : i.size = 1) (hb1 : i.bytes = 1)
    (s : ByteArray) (hy : a.eval y = .string s) : Src P a ro w t u ty e y ((bl s).map fun c => [.vl (.int .u8 c.toNat)]) 1 1 where
  news := Lib.strCells s
  hl := by rw [Lib.strCells_length, List.length_map, ← size_bl, Nat.mul_one]
  hz := fun r hr => by
    obtain ⟨c, _, rfl⟩ := List.mem_map.1 hr
    rfl
  hsh := fun r hr c hc => by
    obtain ⟨d, _, rfl⟩ := List.mem_map.1 hr
    simp only [List.mem_cons, List.not_mem_nil, or_false] at hc
    subst hc
    exact ⟨rfl, rfl⟩
  hrel := by
    have e1 : ((bl s).map fun c => [C.vl (.int .u8 c.toNat)]) = ((Lib.strCells s).map C.vl).map fun c => [c] := by
      simp only [Lib.strCells, bl, List.map_map]; rfl
    rw [e1, flat_one]
    exact all2_fvl _
  zero := fun h base n cap hle => by
    rw [hy]
    refine run_append_zero_string ht hu hi hle s ?_
    rw [size_bl]
    have := congrArg List.length h
    simpa using this
  told := fun h ob n cap xs hown hb => by
    rw [List.length_map, ← size_bl] at *
    rw [hy]
    exact run_append_told_string ht hu hi hz0 hs1 hb1 hown s (fun e => h (by rw [size_bl] at e; rw [List.eq_nil_of_length_eq_zero e]; rfl)) (by omega)

theorem ap_own (hf : FRel N (gm E) ro fr a) (hr : Rel X E ro w) {t t2 e : TypeId} {x y : Operand} (ho : o.op = .call { callee := .builtin .append, args := #[x, y], argTypes := #[t, t2] })
    {ys : List (List C)} {sz bytes : Nat} (s : Src P a ro w t t2 o.type e y ys sz bytes)
    (hv : vA fr (hp E) e sz bytes (trO x) ys R) : EDoes P o a w X E ro R := by
  intro next Q hK
  have h1 := ev_rel hf x
  have hshf : ∀ c ∈ ys.flatten, c.shut = true := fun c hc => by
    obtain ⟨r, h1, h2⟩ := List.mem_flatten.1 hc
    exact (s.hsh r h1 c h2).1
  unfold vA at hv
  split at hv
  · rename_i hx
    obtain ⟨hb, hR⟩ := hv
    rw [hx] at h1
    have h1' : a.eval x = .slice none 0 0 := h1
    rw [hp_len] at hR
    by_cases hm : ys = []
    · subst hm
      have hrun : (execOp a.eval o).run P w = .ok (.value (.slice none 0 0)) w := by
        have := s.zero rfl none 0 0 (Nat.le_refl _)
        simp only [execOp, ho, resolve]
        simp [h1', invoke, builtin, this]
      unfold Oper.wp
      rw [hrun, Oper.upon_value]
      let g : Gb := ⟨none, true, 0, 0, e, []⟩
      exact hK (.va (.c1 (.sl E.length 0))) _ (E ++ [(g, .row [] e sz)]) ro _ (by rw [hp_app]; exact hR) ⟨g, by simp [gm], rfl, Nat.le_refl _, ⟨_, _, _, rfl⟩, fun _ => rfl⟩ (gext_app _) (Ext.refl _)
        (hr.new (g := g) (blk := .row [] e sz) (fun _ _ => rfl) (Nat.le_refl _) rfl rfl rfl (.inl rfl) ⟨rfl, rfl, by simp, by simp, World.ownsRow_nil w 0 e sz, .nil, fun b hb => by simp [g] at hb⟩)
    · have hown : w.ownsRow 0 e sz (.slice (obA none 0) 0 0) 0 [] := World.ownsRow_nil w 0 e sz
      obtain ⟨ob', cap', w', hrun, hown', hszw, e1, e2, e3, hc, hcap⟩ := s.told hm none 0 0 [] hown (by simpa using hb)
      have hob : ob' = none ∨ ob' = some w.heap.size := by rcases hc with ⟨h, _⟩ | ⟨h, _⟩ <;> simp [h]
      have hkeep : ∀ k, k < w.heap.size → w'.heap[k]? = w.heap[k]? := by
        rcases hc with ⟨_, h⟩ | ⟨_, h⟩
        · exact fun k _ => h k (by simp)
        · exact h
      unfold Oper.wp
      have hrun2 : (execOp a.eval o).run P w = .ok (.value (.slice (obA ob' 0) ys.length cap')) w' := by
        have h3 : (none : Option Addr) = obA none 0 := rfl
        simp only [Nat.zero_add] at hrun
        rw [h3] at h1'
        simp only [execOp, ho, resolve, Array.map]
        simp [h1', invoke, builtin, hrun]
      rw [hrun2, Oper.upon_value]
      simp only [Nat.zero_add, List.nil_append] at hown' hcap
      let g : Gb := ⟨ob', true, ys.length, cap', e, s.news⟩
      exact hK (.va (.c1 (.sl E.length ys.length))) _ (E ++ [(g, .row ys e sz)]) ro _ (by rw [hp_app]; exact hR) ⟨g, by simp [gm], rfl, Nat.le_refl _, ⟨_, _, _, rfl⟩, fun _ => rfl⟩ (gext_app _) (Ext.refl _)
        (hr.new (g := g) (blk := .row ys e sz) hkeep hszw e1 e2 e3 hob ⟨rfl, rfl, s.hz, hshf, hown', s.hrel, fun _ _ => Nat.lt_of_lt_of_le (List.length_pos_iff.2 hm) hcap⟩)
  · rename_i n len hx
    rw [hx] at h1
    split at hv
    case h_2 => exact hv.elim
    rename_i xs T1 sz1 hH
    obtain ⟨⟨hxl, rfl, rfl⟩, hb, hR⟩ := hv
    obtain ⟨g, hE⟩ := hp_inv hH
    obtain ⟨hrow, hglen, hxs1, hxsh, hown, hrel, _⟩ := hr.own n _ _ hE
    obtain ⟨g', k1, k2, k3, k4, k5⟩ := h1
    have : g' = g := by have := gm_get hE; rw [k1] at this; exact (Option.some.inj this)
    subst this
    have h1' := k5 (by omega)
    have hlecap : len ≤ g'.cap := by
      rcases hown.2 with ⟨hv, hn⟩ | ⟨b, cap0, cur, hv, _, _, hnc, _⟩
      · omega
      · simp only [Value.slice.injEq] at hv; omega
    by_cases hm : ys = []
    · subst hm
      have hrun : (execOp a.eval o).run P w = .ok (.value (.slice (obA g'.ob 0) len g'.cap)) w := by
        have := s.zero rfl (obA g'.ob 0) len g'.cap hlecap
        simp only [execOp, ho, resolve]
        simp [h1', invoke, builtin, this]
      unfold Oper.wp
      rw [hrun, Oper.upon_value]
      simp only [List.append_nil, List.length_nil, Nat.add_zero] at hR
      have hset : (hp E).set n (.row xs T1 sz1) = hp E := by
        apply List.ext_getElem?
        intro j
        rw [List.getElem?_set]
        split
        · rename_i hj; subst hj; rw [if_pos (List.getElem?_eq_some_iff.1 hH).1, hH]
        · rfl
      rw [hset] at hR
      exact hK _ _ E ro _ hR ⟨g', k1, k2, k3, ⟨_, _, _, rfl⟩, fun _ => rfl⟩ (GExt.refl _) (Ext.refl _) hr
    · rw [hxl] at hown
      have hpos : 0 < ys.length := List.length_pos_iff.2 hm
      obtain ⟨ob', cap', w', hrun, hown', hszw, e1, e2, e3, hc, hcap⟩ := s.told hm g'.ob len g'.cap g'.vs hown hb
      unfold Oper.wp
      have hrun2 : (execOp a.eval o).run P w = .ok (.value (.slice (obA ob' 0) (len + ys.length) cap')) w' := by
        simp only [execOp, ho, resolve]
        simp [h1', invoke, builtin, hrun]
      rw [hrun2, Oper.upon_value]
      let g2 : Gb := ⟨ob', true, len + ys.length, cap', T1, g'.vs ++ s.news⟩
      have hle : g'.le g2 := ⟨hrow.symm, .inr ⟨hrow, by show g'.len < len + ys.length; omega⟩⟩
      refine hK (.va (.c1 (.sl n (len + ys.length)))) _ (E.set n (g2, .row (xs ++ ys) T1 sz1)) ro _ (by rw [hp_set]; exact hR) ⟨g2, ?_, rfl, Nat.le_refl _, ⟨_, _, _, rfl⟩, fun _ => rfl⟩ (gext_set hE hle) (Ext.refl _)
        (hr.swap (g' := g2) (blk' := .row (xs ++ ys) T1 sz1) hE rfl hle hszw e1 e2 e3 ⟨rfl, ?_, ?_, ?_, ?_, ?_, fun _ _ => by show 0 < cap'; omega⟩ hc)
      · simp [gm, (List.getElem?_eq_some_iff.1 hE).1]
      · show len + ys.length = _; rw [List.length_append]; omega
      · intro r hr'
        rcases List.mem_append.1 hr' with hr' | hr'
        · exact hxs1 r hr'
        · exact s.hz r hr'
      · intro c hc
        rw [List.flatten_append] at hc
        rcases List.mem_append.1 hc with hc | hc
        · exact hxsh c hc
        · exact hshf c hc
      · rw [List.length_append, hxl]; exact hown'
      · rw [List.flatten_append]; exact hrel.app s.hrel
  · exact hv.elim

theorem e_ap (hf : FRel N (gm E) ro fr a) (hr : Rel X E ro w) {t e : TypeId} {x y : Operand} {i : TypeInfo} {z : Value} (ho : o.op = .call { callee := .builtin .append, args := #[x, y], argTypes := #[t, t] })
    (ht : P.underlying t = some (.slice e)) (hi : P.info? e = some i) (hz : i.zero = some z) (hzs : z.cells.size = i.size) (hsz : 0 < i.size) (hby : 0 < i.bytes)
    (hv : vE fr (hp E) R (.ap e i.size i.bytes (trO x) (trO y))) : EDoes P o a w X E ro R := by
  have h2 := ev_rel hf y
  simp only [vE] at hv
  split at hv
  · rename_i m k hy
    rw [hy] at h2
    split at hv
    case h_2 => exact hv.elim
    rename_i ys T2 sz2 hH
    obtain ⟨⟨hk, rfl, hsh⟩, hv⟩ := hv
    obtain ⟨g, hE⟩ := hp_inv hH
    obtain ⟨hrow, hglen, hys1, hysh, hown, hrel, _⟩ := hr.own m _ _ hE
    obtain ⟨g', k1, k2, k3, k4, k5⟩ := h2
    have : g' = g := by have := gm_get hE; rw [k1] at this; exact (Option.some.inj this)
    subst this
    have h2' := k5 (by omega)
    subst hk
    refine ap_own hf hr ho (Src.slice ht hi hz hzs hsz hby (obA g'.ob 0) g'.cap g'.vs h2' hown.1 hys1 hsh hrel (fun ad had => ?_) (fun hn => ?_)) hv
    · cases hob : g'.ob with
      | none => rw [hob] at had; simp [obA] at had
      | some b =>
        rw [hob] at had hown
        simp only [obA, Option.map_some, Option.some.injEq] at had
        subst had
        exact World.ownsRow.cells (h := hown) (g := b) rfl
    · rcases hown.2 with ⟨hv, h0⟩ | ⟨b, cap0, cur, hv, _⟩
      · exact List.eq_nil_of_length_eq_zero h0
      · rw [hn] at hv; simp at hv
  · rename_i ys hy
    rw [hy] at h2
    obtain ⟨⟨hys, hsh⟩, hv⟩ := hv
    have h2' : FzR ro ys (a.eval y) := h2
    generalize hev : a.eval y = v at h2'
    obtain ⟨_, sz', ob, cap, vs, k1, k2, k3, k4, k5, k6, k7⟩ := h2'
    refine ap_own hf hr ho (Src.slice ht hi hz hzs hsz hby (roA ob 0) cap ((List.range ys.flatten.length).map vs) hev (by rw [List.length_map, List.length_range, flat_len _ hys]) hys hsh ⟨by simp, fun j c u h1 h2 => ?_⟩ (fun ad had j u hu => ?_) (fun hn => ?_)) hv
    · have hj : j < ys.flatten.length := (List.getElem?_eq_some_iff.1 h1).1
      rw [List.getElem?_map, List.getElem?_range hj] at h2
      simp only [Option.map_some, Option.some.injEq] at h2
      subst h2
      have hs := k7 c (List.mem_of_getElem? h1)
      cases c with
      | vl u => exact k5 _ u h1
      | fz zs => exact k6 _ zs h1
      | _ => simp [C.shut] at hs
    · cases ob with
      | none => simp [roA] at had
      | some p =>
        simp only [roA, Option.map_some, Option.some.injEq, Nat.add_zero] at had
        subst had
        have hj : j < ys.flatten.length := by have := (List.getElem?_eq_some_iff.1 hu).1; simpa using this
        rw [List.getElem?_map, List.getElem?_range hj] at hu
        simp only [Option.map_some, Option.some.injEq] at hu
        subst hu
        rw [addr_add0]
        exact hr.rd _ _ _ (by simpa using k4 j _ (List.getElem?_eq_getElem hj))
    · cases ob with
      | none =>
        by_cases hne : ys = []
        · exact hne
        · have := k3 hne; simp at this
      | some p => simp [roA] at hn
  · rename_i u c hy
    rw [hy] at h2
    have h2' : a.eval y = .slice u 0 c := h2
    exact ap_own hf hr ho (Src.slice ht hi hz hzs hsz hby (ys := []) u c [] h2' (by simp) (by simp) (fun r hr => by simp at hr) .nil (fun ad _ j u hu => by simp at hu) (fun _ => rfl)) hv
  · exact hv.elim

theorem e_aps (hf : FRel N (gm E) ro fr a) (hr : Rel X E ro w) {t u e : TypeId} {x y : Operand} {i : TypeInfo} (ho : o.op = .call { callee := .builtin .append, args := #[x, y], argTypes := #[t, u] })
    (ht : P.underlying t = some (.slice e)) (hu : P.underlying u = some .string) (hi : P.info? e = some i) (hz : i.zero = some (.int .u8 0)) (hs1 : i.size = 1) (hb1 : i.bytes = 1)
    (hv : vE fr (hp E) R (.aps e (trO x) (trO y))) : EDoes P o a w X E ro R := by
  have h2 := ev_rel hf y
  simp only [vE] at hv
  split at hv
  · rename_i s hy
    rw [hy] at h2
    exact ap_own hf hr ho (Src.str ht hu hi hz hs1 hb1 s h2) hv
  · exact hv.elim

theorem e_us (hf : FRel N (gm E) ro fr a) (hr : Rel X E ro w) {t t' e : TypeId} {x y : Operand} (ho : o.op = .call { callee := .builtin .unsafeString, args := #[x, y], argTypes := #[t, t'] })
    (ht : P.underlying t = some (.pointer e)) (hce : P.cellsOf e = 1) (hv : vE fr (hp E) R (.us e (trO x) (trO y))) : EDoes P o a w X E ro R := by
  intro next Q hK
  have h1 := ev_rel hf x; have h2 := ev_rel hf y
  simp only [vE] at hv
  split at hv
  case h_2 => exact hv.elim
  rename_i n len k hx hy
  rw [hx] at h1; rw [hy] at h2
  have h2' : a.eval y = .int .i64 k := h2
  split at hv <;> try exact hv.elim
  rename_i xs T sz hH
  obtain ⟨⟨rfl, rfl, hlen, rfl, hby, hbig⟩, hR⟩ := hv
  obtain ⟨g, hE⟩ := hp_inv hH
  obtain ⟨hrow, hgl, hz, hsh, hown, hrel, _⟩ := hr.own n g _ hE
  obtain ⟨g', k1, k2, k3, _, k5⟩ := h1
  have : g' = g := by have := gm_get hE; rw [k1] at this; exact (Option.some.inj this)
  subst this
  have h1' := k5 (by omega)
  let l := rowB xs
  have hll : l.length = len := by simp [l, rowB, hlen]
  have hcells : ∀ (j : Nat) (c : UInt8), l[j]? = some c → g'.vs[j]? = some (.int .u8 c.toNat) := by
    intro j c hj
    have hj2 : j < xs.length := by have := (List.getElem?_eq_some_iff.1 hj).1; omega
    obtain ⟨c', hc'⟩ := hby _ (List.getElem_mem hj2)
    have hjc : l[j]? = some c' := by
      simp only [l, rowB, List.getElem?_map, List.getElem?_eq_getElem hj2, Option.map_some, hc']
      simp [C.gi]
    rw [hjc] at hj
    simp only [Option.some.injEq] at hj
    subst hj
    have hfl : xs.flatten[j]? = some (.vl (.int .u8 c'.toNat)) := by
      have := flat_get hz (i := j) (j := 0) hj2 (by omega)
      simp only [Nat.mul_one, Nat.add_zero] at this
      rw [this, List.getElem?_eq_getElem hj2, hc']
      rfl
    obtain ⟨u, hu, hrr⟩ := hrel.get hfl
    have hrr' : u = .int .u8 c'.toNat := hrr
    rw [hu, hrr']
  have dead : ∀ {w' : World}, w.heap.size ≤ w'.heap.size → w'.os = w.os → w'.tape = w.tape → w'.output = w.output → (∀ k, some k ≠ g'.ob → w'.heap[k]? = w.heap[k]?) → Rel X (E.set n (g', .dead)) ro w' :=
    fun h1 h2 h3 h4 h5 => hr.swap (g' := g') (blk' := .dead) hE rfl g'.le_refl h1 h2 h3 h4 trivial (.inl ⟨rfl, h5⟩)
  have fin : ∀ {w' : World}, (execOp a.eval o).run P w = .ok (.value (.string (mk l))) w' → w.heap.size ≤ w'.heap.size → w'.os = w.os → w'.tape = w.tape → w'.output = w.output → (∀ k, some k ≠ g'.ob → w'.heap[k]? = w.heap[k]?) → o.wp P a w next Q := by
    intro w' hrun h1 h2 h3 h4 h5
    unfold Oper.wp
    rw [hrun, Oper.upon_value]
    exact hK (tS (mk l)) _ (E.set n (g', .dead)) ro w' (by rw [hp_set]; exact hR) rfl (gext_set hE g'.le_refl) (Ext.refl _) (dead h1 h2 h3 h4 h5)
  by_cases h0 : len = 0
  · subst h0
    have hl0 : l = [] := List.eq_nil_of_length_eq_zero hll
    refine fin (w' := w) ?_ (Nat.le_refl _) rfl rfl rfl (fun _ _ => rfl)
    have hr0 : ∀ (p : Option Addr), (Builtin.unsafeString_ #[t, t'] o.type #[.pointer p, .int .i64 0]).run P w = .ok (.string .empty) w := fun p => by cases p <;> rfl
    simp only [execOp, ho, resolve]
    simp [h1', h2', invoke, builtin, hr0, hl0]
    rfl
  · cases hob : g'.ob with
    | none =>
      rw [hob] at hown
      rcases hown.2 with ⟨_, h⟩ | ⟨b, c', cur, hv, _⟩
      · omega
      · simp [obA] at hv
    | some b =>
      rw [hob] at hown h1'
      rcases hown.2 with ⟨hv, _⟩ | ⟨b2, cap, cur, hv, _, hh, hnc, _, hcs, _⟩
      · simp [obA] at hv
      · simp only [obA, Option.map_some, Value.slice.injEq, Option.some.injEq, Addr.mk.injEq, true_and, and_true] at hv
        obtain ⟨rfl, hcap⟩ := hv
        have hcell : ∀ (j : Nat) (c : UInt8), l[j]? = some c → w.cell? ((⟨b, 0, none⟩ : Addr).add j) = some (.int .u8 c.toNat) := fun j c hj => World.ownsRow.cells (h := hown) (g := b) rfl j _ (hcells j c hj)
        have hus := Lib.run_unsafeString_row (P := P) w t t' o.type _ ht hce b cur.size (by simp [World.shape?, hh]) l (fun e => h0 (by rw [← hll, e]; rfl)) (by rw [hll, hcs]; omega) (by omega) hcell
        refine fin (w' := w.freeze ⟨b, 0, none⟩ l.length) ?_ ?_ ?_ ?_ ?_ ?_
        · rw [hll] at hus
          simp only [execOp, ho, resolve]
          simp only [Array.map, obA, Option.map_some] at h1' ⊢
          simp [h1', h2', invoke, builtin, hus, hll]
          rfl
        · unfold World.freeze; split <;> simp
        · unfold World.freeze; split <;> rfl
        · unfold World.freeze; split <;> rfl
        · unfold World.freeze; split <;> rfl
        · intro k hk
          rw [hob] at hk
          unfold World.freeze
          split
          · rfl
          · simp only [Array.getElem?_modify]
            rw [if_neg (fun e => hk (by rw [e]))]
/-- EVERY INSTRUCTION THAT MAKES OR WRITES MEMORY. -/
theorem e_sound (hf : FRel N (gm E) ro fr a) (hr : Rel X E ro w) {i : EI} (hi : trE P o.op = some i) (hv : vE fr (hp E) R i) : EDoes P o a w X E ro R := by
  cases ho : o.op <;> rw [ho] at hi <;> simp only [trE, reduceCtorEq, Option.some.injEq] at hi
  case alloc t =>
    split at hi <;> simp only [Option.some.injEq, reduceCtorEq] at hi
    rename_i z hz
    subst hi
    cases hinf : P.info? t with
    | none => simp [hinf] at hz
    | some inf => simp only [hinf, Option.map_some, Option.some.injEq] at hz; exact e_al hr ho hinf hz hv
  case box t x => subst hi; exact e_bx hf hr ho hv
  case store t x y =>
    split at hi <;> simp only [Option.some.injEq, reduceCtorEq] at hi
    rename_i n h1 hn
    subst hi; exact e_st hf hr ho hn hv
  case buildSlice t len parts =>
    split at hi <;> try (cases hi; done)
    rename_i e ht
    split at hi <;> try (cases hi; done)
    rename_i inf hinf
    split at hi <;> try (cases hi; done)
    rename_i z hz
    split at hi <;> simp only [Option.some.injEq, reduceCtorEq] at hi
    rename_i hc
    obtain ⟨c1, c2, c3, c4, c5, c6⟩ := hc
    subst hi
    exact e_bsl hf hr ho ht hinf hz c1 c2 c3 c4 c5 c6 hv
  case call c =>
    obtain ⟨cl, args, ats⟩ := c
    simp only at hi
    split at hi
    · rename_i x y t t' ha hat
      obtain rfl : args = #[x, y] := by rw [← Array.toArray_toList (xs := args), ha]
      obtain rfl : ats = #[t, t'] := by rw [← Array.toArray_toList (xs := ats), hat]
      split at hi <;> try (cases hi; done)
      rename_i e ht
      split at hi <;> try (cases hi; done)
      rename_i inf hinf
      split at hi <;> try (cases hi; done)
      rename_i z hz
      split at hi
      · rename_i hc
        simp only [Option.some.injEq] at hi
        obtain ⟨c1, c2, rfl, c4⟩ := hc
        subst hi
        exact e_ap hf hr ho ht hinf hz c1 c2 c4 hv
      · split at hi <;> try (cases hi; done)
        rename_i hc
        obtain ⟨c1, c2, c3⟩ := hc
        split at hi <;> simp only [Option.some.injEq, reduceCtorEq] at hi
        rename_i hu
        subst hi
        exact e_aps hf hr ho ht hu hinf (by rw [hz, isZ8_eq c1]) c2 c3 hv
    · rename_i x y t t' ha hat
      obtain rfl : args = #[x, y] := by rw [← Array.toArray_toList (xs := args), ha]
      obtain rfl : ats = #[t, t'] := by rw [← Array.toArray_toList (xs := ats), hat]
      split at hi <;> try (cases hi; done)
      rename_i e ht
      split at hi <;> try (cases hi; done)
      split at hi <;> simp only [Option.some.injEq, reduceCtorEq] at hi
      rename_i hce
      subst hi
      exact e_us hf hr ho ht hce hv
    · cases hi

end
end Go.W
