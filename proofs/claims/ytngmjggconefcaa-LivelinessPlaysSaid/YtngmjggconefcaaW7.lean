/- The W library, part 7: the instructions that make or write memory do what part 6 says. -/
import Derived.Test.YtngmjggconefcaaW6
import Derived.Lib.AppendStr
namespace Go.W

def EDoes (P : Program) (o : Oper) (a : Act) (w : World) (X : Ctx) (E : Es) (ro : RO) (R : S → Hp → Prop) : Prop :=
  ∀ next Q, (∀ s v E' ro' w', R s (hp E') → s.rel (gm E') ro' v → GExt (gm E) (gm E') → Ext ro ro' → Rel X E' ro' w' → next (a.put o.dst v) w') → o.wp P a w next Q

theorem one_all {R : List Gb} {ro : RO} {cs : List C} {us : List Value} (h : All2 (C.rel R ro) cs us) (h1 : ∀ c ∈ cs, c.one) : ∀ v ∈ us, v.oneCell' = true := by
  intro v hv
  obtain ⟨i, hi⟩ := List.mem_iff_getElem?.1 hv
  obtain ⟨c, hc, hr⟩ := h.get' hi
  exact C.one_rel (h1 c (List.mem_of_getElem? hc)) hr

theorem flatten_splice {xs : List (List C)} {sz : Nat} (h : ∀ x ∈ xs, x.length = sz) : ∀ {i j : Nat} {vs : List C}, i < xs.length → j + vs.length ≤ sz →
    (xs.set i (splice (xs.getD i []) j vs)).flatten = splice xs.flatten (i * sz + j) vs := by
  induction xs with
  | nil => intro i j vs hi; simp at hi
  | cons x r ih =>
    intro i j vs hi hj
    have hx : x.length = sz := h x (by simp)
    cases i with
    | zero =>
      simp only [List.set_cons_zero, List.getD_cons_zero, List.flatten_cons, splice, Nat.zero_mul, Nat.zero_add]
      rw [List.take_append_of_le_length (by omega), List.drop_append_of_le_length (by omega)]
      simp
    | succ i =>
      have := ih (fun z hz => h z (by simp [hz])) (i := i) (j := j) (vs := vs) (by simpa using hi) hj
      rw [List.set_cons_succ, List.getD_cons_succ, List.flatten_cons, this]
      simp only [splice, Nat.succ_mul, List.flatten_cons]
      have e1 : (x ++ r.flatten).take (i * sz + sz + j) = x ++ r.flatten.take (i * sz + j) := by
        rw [List.take_append, hx, List.take_of_length_le (by omega), show i * sz + sz + j - sz = i * sz + j by omega]
      have e2 : (x ++ r.flatten).drop (i * sz + sz + j + vs.length) = r.flatten.drop (i * sz + j + vs.length) := by
        rw [List.drop_append, hx, List.drop_of_length_le (by omega), show i * sz + sz + j + vs.length - sz = i * sz + j + vs.length by omega, List.nil_append]
      rw [e1, e2]
      simp

theorem flat_len {sz : Nat} : ∀ (l : List (List C)), (∀ x ∈ l, x.length = sz) → (l.flatten).length = l.length * sz
  | [], _ => by simp
  | x :: r, h => by simp [h x (by simp), flat_len r (fun y hy => h y (by simp [hy])), Nat.succ_mul]; omega

theorem take_splice {cur V : List Value} {p L : Nat} (h : p + V.length ≤ L) (hL : L ≤ cur.length) : (cur.take p ++ V ++ cur.drop (p + V.length)).take L = (cur.take L).take p ++ V ++ (cur.take L).drop (p + V.length) := by
  have e0 : (cur.take p ++ V).length = p + V.length := by simp; omega
  rw [List.take_append, e0, List.take_of_length_le (by omega), List.take_take, Nat.min_eq_left (by omega), List.drop_take]

theorem flatten_set {xs : List (List C)} {sz : Nat} (h : ∀ x ∈ xs, x.length = sz) {i j : Nat} {vs r : List C} (hr : xs[i]? = some r) (hj : j + vs.length ≤ sz) :
    (xs.set i (splice r j vs)).flatten = splice xs.flatten (i * sz + j) vs := by
  have := flatten_splice h (vs := vs) (List.getElem?_eq_some_iff.1 hr).1 hj
  rwa [List.getD_eq_getElem?_getD, hr] at this
section
variable {P : Program} {o : Oper} {N : Nat} {fr : Fr} {a : Act} {E : Es} {ro : RO} {X : Ctx} {w : World} {R : S → Hp → Prop}

theorem hp_set (E : Es) (n : Nat) (g : Gb) (blk : B) : hp (E.set n (g, blk)) = (hp E).set n blk := by simp [hp, List.map_set]
theorem hp_app (E : Es) (g : Gb) (blk : B) : hp (E ++ [(g, blk)]) = hp E ++ [blk] := by simp [hp]

theorem e_st (hf : FRel N (gm E) ro fr a) (hr : Rel X E ro w) {t : TypeId} {x y : Operand} {n : Nat} (ho : o.op = .store t x y) (hz : szT P t = some n) (hv : vE fr (hp E) R (.st n (trO x) (trO y))) : EDoes P o a w X E ro R := by
  intro next Q hK
  have h1 := ev_rel hf x; have h2 := ev_rel hf y
  simp only [vE] at hv
  split at hv
  case h_2 => exact hv.elim
  rename_i px py hx hy
  rw [hx] at h1; rw [hy] at h2
  have h2' : py.rel (gm E) ro (a.eval y) := h2
  have h1' : px.rel (gm E) ro (a.eval x) := h1
  obtain ⟨⟨hok, hone, hlen⟩, hv⟩ := hv
  have hcells := A.cells_rel h2' hok
  generalize hus : (a.eval y).cells.toList = us at hcells
  have hul : us.length = n := by rw [← hcells.1]; exact hlen
  have hsize : (a.eval y).cells.size = n := by rw [← hul, ← hus]; simp
  have hcs : (a.eval y).cells = us.toArray := by rw [← hus]
  have h1o := one_all hcells hone
  have hstore : ∀ (b k : Nat) (cur : Array Value) (T : TypeId), a.eval x = .pointer (some ⟨b, k, none⟩) → w.heap[b]? = some (.cells cur T (0, 0)) → k + us.length ≤ cur.size →
      (execOp a.eval o).run P w = .ok .skip (w.setRow b (cur.toList.take k ++ us ++ cur.toList.drop (k + us.length)).toArray) := by
    intro b k cur T hp hh hk
    have hs := run_storeCells_at P b k T us 0 cur w hh (by simpa using hk) h1o
    simp only [Nat.add_zero] at hs
    simp only [execOp, ho, hp]
    simp [Instr.storeAt, Instr.sureAddr, storeVar, run_sizeT hz, hcs, hs, hul]
  cases px with
  | pt nm off =>
    simp only at hv
    split at hv
    case h_2 => exact hv.elim
    rename_i cs T hH
    obtain ⟨hle, hR⟩ := hv
    obtain ⟨g, hE⟩ := hp_inv hH
    obtain ⟨hrow, b', hb', hh, hrel⟩ := hr.own nm _ _ hE
    obtain ⟨g', b, k1, k2, k3, k4⟩ := h1'
    have : g' = g := by have := gm_get hE; rw [k1] at this; exact (Option.some.inj this)
    subst this
    rw [hb'] at k3
    simp only [Option.some.injEq] at k3
    subst k3
    have hbnd : off + us.length ≤ g'.vs.toArray.size := by rw [List.size_toArray, ← hrel.1, ← hcells.1]; exact hle
    have hrun := hstore b' off _ T k4 hh hbnd
    have hoth := fun k (hk : k ≠ b') => setRow_other w b' k ((g'.vs.toArray.toList.take off ++ us ++ g'.vs.toArray.toList.drop (off + us.length)).toArray) hk
    have hnew := setRow_heap w b' _ (g'.vs.toArray.toList.take off ++ us ++ g'.vs.toArray.toList.drop (off + us.length)).toArray T _ hh
    unfold Oper.wp
    rw [hrun, Oper.upon_skip]
    have hle' : g'.le { g' with vs := g'.vs.take off ++ us ++ g'.vs.drop (off + us.length) } := ⟨rfl, .inl ⟨rfl, rfl, rfl⟩⟩
    have hext := gext_set (blk' := .cells (splice cs off py.cells) T) hE hle'
    refine hK .un undef (E.set nm ({ g' with vs := g'.vs.take off ++ us ++ g'.vs.drop (off + us.length) }, .cells (splice cs off py.cells) T)) ro _ (by rw [hp_set]; exact hR) trivial hext (Ext.refl _)
      (hr.swap hE rfl hle' (by simp [World.setRow]) rfl rfl rfl ⟨hrow, b', hb', by simpa using hnew, ?_⟩ (.inl ⟨rfl, fun k hk => hoth k fun e => hk (by rw [hb', e])⟩))
    exact all2_splice (hrel.imp fun _ _ => C.rel_mono hext (Ext.refl _)) (hcells.imp fun _ _ => C.rel_mono hext (Ext.refl _))
  | qt nm len sz i j =>
    simp only at hv
    split at hv
    case h_2 => exact hv.elim
    rename_i xs T sz' hH
    obtain ⟨⟨c0, rfl, hi, hle, hsh⟩, hR⟩ := hv
    obtain ⟨g, b, xs', T', hE, hl, hb, hv'⟩ := qt_cur hr h1' (by unfold rowAt; rw [hH]; exact ⟨c0, rfl⟩)
    have hH2 := hp_get hE
    rw [hH] at hH2
    simp only [Option.some.injEq, B.row.injEq, and_true] at hH2
    obtain ⟨rfl, rfl⟩ := hH2
    have hri := List.getElem?_eq_getElem hi
    have hR := hR _ hri
    obtain ⟨hrow, hglen, hxl, hshx, ⟨hvl, hown⟩, hrel, hpos⟩ := hr.own nm _ _ hE
    rw [hb] at hown
    rcases hown with ⟨hv, hn⟩ | ⟨b2, cap', cur, hv, hg0, hh, hncap, hcm, hsz, htake⟩
    · omega
    obtain ⟨rfl, hcapeq⟩ : b = b2 ∧ g.cap = cap' := by simpa [obA] using hv
    subst hcapeq
    have hmul : (i + 1) * sz' ≤ xs.length * sz' := Nat.mul_le_mul_right _ hi
    have hmul2 : xs.length * sz' ≤ g.cap * sz' := Nat.mul_le_mul_right _ hncap
    rw [Nat.succ_mul] at hmul
    have hxi : (xs[i]).length = sz' := hxl _ (List.getElem_mem hi)
    have hle2 : j + us.length ≤ sz' := by rw [← hcells.1]; exact hle
    have hrun := hstore b (i * sz' + j) cur T hv' hh (by rw [hsz]; exact Nat.le_trans (by omega) (Nat.le_trans hmul hmul2))
    have hoth := fun k (hk : k ≠ b) => setRow_other w b k ((cur.toList.take (i * sz' + j) ++ us ++ cur.toList.drop (i * sz' + j + us.length)).toArray) hk
    have hnew := setRow_heap w b cur ((cur.toList.take (i * sz' + j) ++ us ++ cur.toList.drop (i * sz' + j + us.length)).toArray) T _ hh
    unfold Oper.wp
    rw [hrun, Oper.upon_skip]
    have hspl : (splice xs[i] j py.cells).length = sz' := by simp only [splice, List.length_append, List.length_take, List.length_drop]; omega
    have hle' : g.le { g with vs := g.vs.take (i * sz' + j) ++ us ++ g.vs.drop (i * sz' + j + us.length) } := ⟨rfl, .inl ⟨rfl, rfl, rfl⟩⟩
    have hvl2 : g.vs.length = xs.length * sz' := hvl
    have hmem : ∀ x ∈ xs.set i (splice xs[i] j py.cells), x.length = sz' := by
      intro x hx
      rcases List.mem_or_eq_of_mem_set hx with hx | hx
      · exact hxl x hx
      · rw [hx, hspl]
    have hflat := flatten_set hxl hri hle
    refine hK .un undef (E.set nm ({ g with vs := g.vs.take (i * sz' + j) ++ us ++ g.vs.drop (i * sz' + j + us.length) }, .row (xs.set i (splice xs[i] j py.cells)) T sz')) ro _ (by rw [hp_set]; exact hR) trivial (gext_set hE hle') (Ext.refl _)
      (hr.swap hE rfl hle' (by simp [World.setRow]) rfl rfl rfl ⟨hrow, by rw [List.length_set]; exact hglen, hmem, ?_, ⟨?_, .inr ⟨b, g.cap, _, ?_, Nat.zero_le _, hnew, ?_, hcm, ?_, ?_⟩⟩, ?_, hpos⟩ (.inl ⟨rfl, fun k hk => hoth k fun e => hk (by rw [hb, e])⟩))
    · intro c hc
      rw [hflat] at hc
      simp only [splice, List.mem_append] at hc
      rcases hc with (hc | hc) | hc
      · exact hshx c (List.mem_of_mem_take hc)
      · exact hsh c hc
      · exact hshx c (List.mem_of_mem_drop hc)
    · simp only [List.length_append, List.length_take, List.length_drop, List.length_set]; omega
    · rw [List.length_set]; simp [obA, hb]
    · simpa using hncap
    · have : i * sz' + j + us.length ≤ cur.size := by rw [hsz]; exact Nat.le_trans (by omega) (Nat.le_trans hmul hmul2)
      simp only [List.size_toArray, List.length_append, List.length_take, List.length_drop, Array.length_toList]
      rw [← hsz]
      omega
    · rw [List.length_set, ← htake, List.toList_toArray]
      exact take_splice (by omega) (by simp; rw [hsz]; exact hmul2)
    · rw [hflat]
      refine all2_splice hrel ⟨hcells.1, fun k c u hc hu => ?_⟩
      exact (C.rel_shut (hsh c (List.mem_of_getElem? hc))).1 (hcells.2 k c u hc hu)
  | _ => exact hv.elim

theorem alloc_old (w : World) (o : Obj) : ∀ k, k < w.heap.size → (w.alloc o).heap[k]? = w.heap[k]? := fun k hk => RowKit.Below.heap_alloc w o k hk
theorem alloc_size (w : World) (o : Obj) : w.heap.size ≤ (w.alloc o).heap.size := by simp


theorem e_al (hr : Rel X E ro w) {t : TypeId} {i : TypeInfo} {z : Value} (ho : o.op = .alloc t) (hi : P.info? t = some i) (hz : i.zero = some z) (hv : vE fr (hp E) R (.al z t)) : EDoes P o a w X E ro R := by
  intro next Q hK
  simp only [vE] at hv
  unfold Oper.wp
  have hrun : (execOp a.eval o).run P w = .ok (.value (.pointer (some ⟨w.heap.size, 0, none⟩))) (w.alloc (.cells z.cells t)) := by
    simp [execOp, ho, Instr.alloc, zeroValue, typeInfo, hi, hz, newVar, newRow]
  rw [hrun, Oper.upon_value]
  let g : Gb := ⟨some w.heap.size, false, 0, 0, t, z.cells.toList⟩
  rw [hp_len] at hv
  refine hK (.va (.c1 (.pt E.length 0))) _ (E ++ [(g, .cells (z.cells.toList.map C.vl) t)]) ro _ (by rw [hp_app]; exact hv) ⟨g, w.heap.size, by simp [gm], rfl, rfl, rfl⟩ (gext_app _) (Ext.refl _) (hr.new (g := g) (blk := .cells (z.cells.toList.map C.vl) t) (alloc_old w _) (alloc_size w _) rfl rfl rfl (.inr rfl) ⟨rfl, w.heap.size, rfl, ?_, all2_vl _⟩)
  rw [heap_alloc_new]

theorem e_bx (hf : FRel N (gm E) ro fr a) (hr : Rel X E ro w) {t : TypeId} {x : Operand} (ho : o.op = .box t x) (hv : vE fr (hp E) R (.bx t (trO x))) : EDoes P o a w X E ro R := by
  intro next Q hK
  have h1 := ev_rel hf x
  simp only [vE] at hv
  split at hv
  case h_2 => exact hv.elim
  rename_i y hy
  rw [hy] at h1
  have h1' : y.rel (gm E) ro (a.eval x) := h1
  obtain ⟨hok, hv⟩ := hv
  have hc := A.cells_rel h1' hok
  unfold Oper.wp
  have hrun : (execOp a.eval o).run P w = .ok (.value (.pointer (some ⟨w.heap.size, 0, none⟩))) (w.alloc (.cells (a.eval x).cells t)) := by
    simp [execOp, ho, Instr.box, newVar, newRow]
  rw [hrun, Oper.upon_value]
  let g : Gb := ⟨some w.heap.size, false, 0, 0, t, (a.eval x).cells.toList⟩
  rw [hp_len] at hv
  refine hK (.va (.c1 (.pt E.length 0))) _ (E ++ [(g, .cells y.cells t)]) ro _ (by rw [hp_app]; exact hv) ⟨g, w.heap.size, by simp [gm], rfl, rfl, rfl⟩ (gext_app _) (Ext.refl _) (hr.new (g := g) (blk := .cells y.cells t) (alloc_old w _) (alloc_size w _) rfl rfl rfl (.inr rfl) ⟨rfl, w.heap.size, rfl, ?_, hc.imp fun _ _ => C.rel_mono (gext_app _) (Ext.refl _)⟩)
  rw [heap_alloc_new]

theorem rows_spec (hf : FRel N (gm E) ro fr a) : ∀ {xs : List Operand} {l : List (List C)}, rows fr (xs.map trO) = some l → oks fr (xs.map trO) → l.length = xs.length ∧ ∀ (j : Nat) (x : Operand) (y : List C), xs[j]? = some x → l[j]? = some y → All2 (C.rel (gm E) ro) y (a.eval x).cells.toList
  | [], l, h, _ => by simp [rows] at h; subst h; exact ⟨rfl, fun j x y hx => by simp at hx⟩
  | x :: xs, l, h, hok => by
    simp only [List.map_cons, rows] at h
    simp only [List.map_cons, oks] at hok
    have h1 := ev_rel hf x
    split at h
    · rename_i y r hy hrs
      simp only [Option.some.injEq] at h
      subst h
      rw [hy] at h1 hok
      have h1' : y.rel (gm E) ro (a.eval x) := h1
      obtain ⟨hl, hg⟩ := rows_spec hf hrs hok.2
      refine ⟨by simp [hl], fun j x' y' hx hy' => ?_⟩
      cases j with
      | zero =>
        simp only [List.getElem?_cons_zero, Option.some.injEq] at hx hy'
        subst hx; subst hy'
        exact A.cells_rel h1' hok.1
      | succ j => exact hg j x' y' (by simpa using hx) (by simpa using hy')
    · cases h

theorem fill_seq {sz : Nat} : ∀ (vs : List Value) (rs : List (List Value)) (k : Nat) (pre rest : List Value), vs.length = rs.length → pre.length = k * sz → rest.length = rs.length * sz → (∀ r ∈ rs, r.length = sz) →
    (∀ (j : Nat) (v : Value) (r : List Value), vs[j]? = some v → rs[j]? = some r → v.cells = r.toArray) →
    Instr.fill (fun i => some (i * sz, sz)) (pre ++ rest).toArray ((List.range' k vs.length).zip vs) = some (pre ++ rs.flatten).toArray
  | [], rs, k, pre, rest, hl, hp, hrl, hs, hg => by
    have : rs = [] := List.eq_nil_of_length_eq_zero (by simpa using hl.symm)
    subst this
    have : rest = [] := List.eq_nil_of_length_eq_zero (by simpa using hrl)
    subst this
    simp [Instr.fill]
  | v :: vs, [], k, pre, rest, hl, hp, hrl, hs, hg => by simp at hl
  | v :: vs, r :: rs, k, pre, rest, hl, hp, hrl, hs, hg => by
    have hr := hs r (by simp)
    have hv := hg 0 v r rfl rfl
    simp only [List.length_cons, Nat.succ_mul] at hrl
    have ih := fill_seq (sz := sz) vs rs (k + 1) (pre ++ r) (rest.drop sz) (by simpa using hl) (by simp [hp, hr, Nat.succ_mul]) (by simp; omega) (fun y hy => hs y (by simp [hy]))
      (fun j v' r' h1 h2 => hg (j + 1) v' r' (by simpa using h1) (by simpa using h2))
    simp only [List.length_cons, List.range'_succ, List.zip_cons_cons, Instr.fill, hv]
    rw [if_neg (by simp [hr]; omega)]
    have hfs := fold_set (k * sz) r 0 (pre ++ rest) (by simp [hr]; omega)
    simp only [Nat.add_zero, hr] at hfs
    rw [← Array.foldl_toList, Array.toList_zipIdx, List.toList_toArray, hfs]
    have e1 : (pre ++ rest).take (k * sz) = pre := by rw [List.take_append_of_le_length (by omega), List.take_of_length_le (by omega)]
    have e2 : (pre ++ rest).drop (k * sz + sz) = rest.drop sz := by rw [List.drop_append, List.drop_of_length_le (by omega), hp]; simp
    rw [e1, e2, ih]
    simp

theorem all2_flatten {R : C → Value → Prop} : ∀ (l : List (List C)) (rs : List (List Value)), l.length = rs.length → (∀ (j : Nat) (y : List C) (r : List Value), l[j]? = some y → rs[j]? = some r → All2 R y r) → All2 R l.flatten rs.flatten
  | [], rs, h, _ => by have : rs = [] := List.eq_nil_of_length_eq_zero (by simpa using h.symm); subst this; exact .nil
  | y :: l, [], h, _ => by simp at h
  | y :: l, r :: rs, h, hg => by
    simp only [List.flatten_cons]
    exact (hg 0 y r rfl rfl).app (all2_flatten l rs (by simpa using h) fun j y' r' h1 h2 => hg (j + 1) y' r' (by simpa using h1) (by simpa using h2))

theorem e_bsl (hf : FRel N (gm E) ro fr a) (hr : Rel X E ro w) {t e : TypeId} {len : Nat} {parts : Array (Nat × Operand)} {i : TypeInfo} {z : Value} (ho : o.op = .buildSlice t len parts) (ht : P.underlying t = some (.slice e))
    (hi : P.info? e = some i) (hz : i.zero = some z) (hzs : z.cells.size = i.size) (hsz : 0 < i.size) (hb : len * i.size ≤ 16777216) (hl0 : 0 < len) (hlm : len ≤ maxLen) (hp' : parts.toList.map (·.1) = List.range len)
    (hv : vE fr (hp E) R (.bsl e i.size (parts.toList.map fun p => trO p.2))) : EDoes P o a w X E ro R := by
  intro next Q hK
  simp only [vE] at hv
  split at hv
  case h_2 => exact hv.elim
  rename_i l hl
  obtain ⟨⟨hok, hlen, hsh⟩, hv⟩ := hv
  have hmap : (parts.toList.map fun p => trO p.2) = ((parts.toList.map (·.2)).map trO) := by simp
  rw [hmap] at hl hok
  obtain ⟨hll, hg⟩ := rows_spec hf hl hok
  have hpl : parts.toList.length = len := by have := congrArg List.length hp'; simpa using this
  have hll' : l.length = len := by rw [hll]; simpa using hpl
  let rs : List (List Value) := parts.toList.map fun p => (a.eval p.2).cells.toList
  have hrsl : rs.length = len := by simpa [rs] using hpl
  have hall : ∀ (j : Nat) (y : List C) (r : List Value), l[j]? = some y → rs[j]? = some r → All2 (C.rel (gm E) ro) y r := by
    intro j y r h1 h2
    simp only [rs, List.getElem?_map] at h2
    cases hpj : parts.toList[j]? with
    | none => simp [hpj] at h2
    | some p => simp only [hpj, Option.map_some, Option.some.injEq] at h2; subst h2; exact hg j p.2 y (by simp [hpj]) h1
  have hrs : ∀ r ∈ rs, r.length = i.size := by
    intro r hr
    obtain ⟨j, hj⟩ := List.mem_iff_getElem?.1 hr
    have hjl : j < l.length := by rw [hll', ← hrsl]; exact (List.getElem?_eq_some_iff.1 hj).1
    have := (hall j _ r (List.getElem?_eq_getElem hjl) hj).1
    rw [← this]; exact hlen _ (List.getElem_mem hjl)
  have hflr : rs.flatten.length = len * i.size := by
    have : ∀ (q : List (List Value)), (∀ r ∈ q, r.length = i.size) → q.flatten.length = q.length * i.size := by
      intro q
      induction q with
      | nil => intro _; simp
      | cons r q ih =>
        intro h
        have h1 := ih (fun y hy => h y (by simp [hy]))
        rw [List.flatten_cons, List.length_append, h1, h r (by simp), List.length_cons, Nat.succ_mul]; omega
    rw [this rs hrs, hrsl]
  have hzip : (parts.map fun (x : Nat × Operand) => (x.1, a.eval x.2)).toList = (List.range' 0 (parts.toList.map fun p => a.eval p.2).length).zip (parts.toList.map fun p => a.eval p.2) := by
    rw [← List.range_eq_range', List.length_map, hpl, ← hp']
    simp [List.zip_map']
  have hfill := fill_seq (sz := i.size) (parts.toList.map fun p => a.eval p.2) rs 0 [] ((Array.range (len * i.size)).map (fun j => z.cells[j % z.cells.size]!)).toList (by simp [rs]) (by simp) (by simp [hrsl]) hrs
    (fun j v r h1 h2 => by
      simp only [rs, List.getElem?_map] at h1 h2
      cases hpj : parts.toList[j]? with
      | none => simp [hpj] at h1
      | some p =>
        simp only [hpj, Option.map_some, Option.some.injEq] at h1 h2
        subst h1; subst h2
        simp)
  simp only [List.nil_append, Array.toArray_toList] at hfill
  rw [← hzip] at hfill
  unfold Oper.wp
  have hrun : (execOp a.eval o).run P w = .ok (.value (.slice (some ⟨w.heap.size, 0, none⟩) len len)) (w.alloc (.cells rs.flatten.toArray e)) := by
    have h1 : ¬ (len * i.size > 2 ^ 24) := by omega
    have h2 : ¬ (len * i.size = 0) := by have := Nat.mul_pos hl0 hsz; omega
    simp only [execOp, ho, Instr.buildSlice]
    simp only [Sem.run_bind, underlying, run_program, Result.andThen_ok, ht, Sem.run_pure, sizeOf, typeInfo, hi, zeroValue, hz, h1, h2, if_false]
    rw [hfill]
    simp [newRow]
  rw [hrun, Oper.upon_value]
  let g : Gb := ⟨some w.heap.size, true, len, len, e, rs.flatten⟩
  rw [hp_len] at hv
  have hflat := all2_flatten l rs (by rw [hll', hrsl]) hall
  have hshf : ∀ c ∈ l.flatten, c.shut = true := fun c hc => by
    obtain ⟨r, h1, h2⟩ := List.mem_flatten.1 hc
    exact (hsh r h1 c h2).1
  refine hK (.va (.c1 (.sl E.length l.length))) _ (E ++ [(g, .row l e i.size)]) ro _ (by rw [hp_app]; exact hv) ⟨g, by simp [gm], rfl, by rw [hll']; exact Nat.le_refl _, ⟨_, _, _, rfl⟩, fun _ => by rw [hll']; rfl⟩ (gext_app _) (Ext.refl _)
    (hr.new (g := g) (blk := .row l e i.size) (alloc_old w _) (alloc_size w _) rfl rfl rfl (.inr rfl) ⟨rfl, hll'.symm, hlen, hshf, ⟨by rw [hflr, hll'], .inr ⟨w.heap.size, len, _, by rw [hll']; rfl, Nat.zero_le _, heap_alloc_new w _, by rw [hll']; exact Nat.le_refl _, hlm, ?_, ?_⟩⟩, ?_, fun _ _ => hl0⟩)
  · rw [List.size_toArray, hflr]
  · rw [List.toList_toArray, List.take_of_length_le (by rw [hflr, hll']; exact Nat.le_refl _)]
  · exact ⟨hflat.1, fun k c u h1 h2 => (C.rel_shut (hshf c (List.mem_of_getElem? h1))).1 (hflat.2 k c u h1 h2)⟩

/-- An append, told to the block: in place, or into a new block. -/
theorem run_append_told {t ty e : TypeId} {i : TypeInfo} {z : Value} (ht : P.underlying t = some (.slice e)) (hi : P.info? e = some i) (hz : i.zero = some z) (hzs : z.cells.size = i.size) (hsz : 0 < i.size)
    {ob : Option Nat} {n cap : Nat} {xs : List Value} (hown : w.ownsRow 0 e i.size (.slice (obA ob 0) n cap) n xs) {ad : Addr} {m c : Nat} {news : List Value} (hl : news.length = m * i.size)
    (hnews : ∀ j u, news[j]? = some u → w.cell? (ad.add j) = some u) (h1 : ∀ u ∈ news, u.oneCell' = true) (hby : 0 < i.bytes) (hbytes : (n + m) * i.bytes ≤ 140737488355328) :
    ∃ ob' cap' w', (Builtin.append_ #[t, t] ty #[.slice (obA ob 0) n cap, .slice (some ad) m c]).run P w = .ok (.slice (obA ob' 0) (n + m) cap') w' ∧
      w'.ownsRow 0 e i.size (.slice (obA ob' 0) (n + m) cap') (n + m) (xs ++ news) ∧ w.heap.size ≤ w'.heap.size ∧ w'.os = w.os ∧ w'.tape = w.tape ∧ w'.output = w.output ∧
      ((ob' = ob ∧ ∀ k, some k ≠ ob → w'.heap[k]? = w.heap[k]?) ∨ (ob' = some w.heap.size ∧ ∀ k, k < w.heap.size → w'.heap[k]? = w.heap[k]?)) ∧ n + m ≤ cap' ∧ (m = 0 → ob' = ob ∧ cap' = cap) := by
  have hsm : n + m ≤ 140737488355328 := Nat.le_trans (Nat.le_mul_of_pos_right _ hby) hbytes
  have h63 : n + m ≤ maxLen := by unfold maxLen; omega
  have hlen : (xs ++ news).length = (n + m) * i.size := by rw [List.length_append, hown.1, hl, Nat.add_mul]
  have grown : ∀ (old : Nat), old < n + m →
      (w.drew.alloc (.cells (xs.toArray ++ news.toArray ++ Builtin.zeroCells z.cells (grownCap w (n + m) old e - (n + m))) e)).ownsRow 0 e i.size
        (.slice (obA (some w.heap.size) 0) (n + m) (grownCap w (n + m) old e)) (n + m) (xs ++ news) := by
    intro old ho
    have hge := grownCap_ge w (n + m) old e
    have hcm : grownCap w (n + m) old e ≤ maxLen := grownCap_le_maxLen w (n + m) old e h63
    refine ⟨hlen, .inr ⟨w.heap.size, _, _, rfl, Nat.zero_le _, heap_alloc_new w.drew _, hge, hcm, ?_, ?_⟩⟩
    · simp only [Array.size_append, List.size_toArray, size_zeroCells, hzs, hown.1, hl, ← Nat.add_mul]
      congr 1
      omega
    · simp only [Array.toList_append, List.append_assoc]
      rw [← List.append_assoc, ← hlen]
      exact List.take_left
  have hold : ∀ (o : Obj) (k : Nat), k < w.heap.size → (w.drew.alloc o).heap[k]? = w.heap[k]? := fun o k hk => RowKit.Below.heap_alloc w.drew o k hk
  rcases hown.2 with ⟨hv, hn⟩ | ⟨g, cap0, cur, hv, hbg, hg, hnc, hcm, hcs, htake⟩
  · simp only [Value.slice.injEq] at hv
    obtain ⟨hob, hn0, hc0⟩ := hv
    have hobn : ob = none := by cases ob <;> simp [obA] at hob; rfl
    subst hobn hn0 hc0
    have hx : xs = [] := List.eq_nil_of_length_eq_zero (by simpa using hown.1)
    subst hx
    by_cases hm : m = 0
    · subst hm
      have hn' : news = [] := List.eq_nil_of_length_eq_zero (by simpa using hl)
      subst hn'
      refine ⟨none, 0, w, ?_, World.ownsRow_nil w 0 e i.size, Nat.le_refl _, rfl, rfl, rfl, .inl ⟨rfl, fun _ _ => rfl⟩, Nat.le_refl _, fun _ => ⟨rfl, rfl⟩⟩
      simp [Builtin.append_, run_underlying ht, sizeOf, typeInfo, hi, Builtin.lenOf, Builtin.firstCells, loadCells, loadCellsFrom, obA]
    · have hr := run_append_nil (P := P) w t ty e i z ht hi hz ad m c news hl hnews (by omega) (by omega) (by have hb := hbytes; simp only [Nat.zero_add] at hb; omega)
      have hgr := grown 0 (by omega)
      simp only [Nat.zero_add, List.nil_append, Array.empty_append] at hgr ⊢
      refine ⟨some w.heap.size, _, _, hr, hgr, by simp, rfl, rfl, rfl, .inr ⟨rfl, fun k hk => hold _ k hk⟩, grownCap_ge w m 0 e, fun h => absurd h hm⟩
  · simp only [Value.slice.injEq, true_and] at hv
    obtain ⟨hob, rfl⟩ := hv
    have hobg : ob = some g := by cases ob <;> simp [obA] at hob; rw [hob]
    subst hobg
    by_cases hroom : n + m ≤ cap
    · have hfit : n * i.size + news.length ≤ cur.size := by rw [hl, hcs, ← Nat.add_mul]; exact Nat.mul_le_mul_right _ hroom
      have hr := run_append_room (P := P) w t ty e i ht hi g n cap cur hg ad m c news hl hnews h1 hroom hfit
      refine ⟨some g, cap, _, hr, ⟨hlen, .inr ⟨g, cap, _, rfl, hbg, setRow_heap w g cur _ e _ hg, hroom, hcm, ?_, ?_⟩⟩, by simp, rfl, rfl, rfl, .inl ⟨rfl, fun k hk => setRow_other w g k _ (fun e => hk (by rw [e]))⟩, hroom, fun _ => ⟨rfl, rfl⟩⟩
      · simp only [List.size_toArray, List.length_append, List.length_take, List.length_drop, Array.length_toList]
        omega
      · rw [htake, ← hlen]
        exact List.take_left
    · have holds : ∀ j u, xs[j]? = some u → w.cell? ((⟨g, 0, none⟩ : Addr).add j) = some u := hown.cells (g := g) rfl
      have hr := run_append_grow (P := P) w t ty e i z ht hi hz ⟨g, 0, none⟩ n cap xs hown.1 holds ad m c news hl hnews (by omega) (by omega) (growslice_fits (by omega) hbytes)
      have hgr := grown cap (by omega)
      exact ⟨some w.heap.size, _, _, hr, hgr, by simp, rfl, rfl, rfl, .inr ⟨rfl, fun k hk => hold _ k hk⟩, grownCap_ge w (n + m) cap e, fun h => absurd hnc (by omega)⟩


/-- The same, of a string. -/
theorem run_append_told_string {t u ty e : TypeId} {i : TypeInfo} (ht : P.underlying t = some (.slice e)) (hu : P.underlying u = some .string) (hi : P.info? e = some i) (hz : i.zero = some (.int .u8 0)) (hs1 : i.size = 1) (hb1 : i.bytes = 1)
    {ob : Option Nat} {n cap : Nat} {xs : List Value} (hown : w.ownsRow 0 e 1 (.slice (obA ob 0) n cap) n xs) (s : ByteArray) (hm : s.size ≠ 0) (hbytes : n + s.size ≤ 140737488355328) :
    ∃ ob' cap' w', (Builtin.append_ #[t, u] ty #[.slice (obA ob 0) n cap, .string s]).run P w = .ok (.slice (obA ob' 0) (n + s.size) cap') w' ∧
      w'.ownsRow 0 e 1 (.slice (obA ob' 0) (n + s.size) cap') (n + s.size) (xs ++ Lib.strCells s) ∧ w.heap.size ≤ w'.heap.size ∧ w'.os = w.os ∧ w'.tape = w.tape ∧ w'.output = w.output ∧
      ((ob' = ob ∧ ∀ k, some k ≠ ob → w'.heap[k]? = w.heap[k]?) ∨ (ob' = some w.heap.size ∧ ∀ k, k < w.heap.size → w'.heap[k]? = w.heap[k]?)) ∧ n + s.size ≤ cap' := by
  have h63 : n + s.size ≤ maxLen := by unfold maxLen; omega
  have hxl : xs.length = n := by simpa using hown.1
  have hlen : (xs ++ Lib.strCells s).length = (n + s.size) * 1 := by rw [List.length_append, hxl, Lib.strCells_length, Nat.mul_one]
  have grown : ∀ (old : Nat), old < n + s.size →
      (w.drew.alloc (.cells (xs.toArray ++ (Lib.strCells s).toArray ++ Builtin.zeroCells (Value.int .u8 0).cells (grownCap w (n + s.size) old e - (n + s.size))) e)).ownsRow 0 e 1
        (.slice (obA (some w.heap.size) 0) (n + s.size) (grownCap w (n + s.size) old e)) (n + s.size) (xs ++ Lib.strCells s) := by
    intro old ho
    have hge := grownCap_ge w (n + s.size) old e
    have hcm : grownCap w (n + s.size) old e ≤ maxLen := grownCap_le_maxLen w (n + s.size) old e h63
    refine ⟨hlen, .inr ⟨w.heap.size, _, _, rfl, Nat.zero_le _, heap_alloc_new w.drew _, hge, hcm, ?_, ?_⟩⟩
    · have hz1 : (Value.int IntKind.u8 0).cells.size = 1 := rfl
      simp only [Array.size_append, List.size_toArray, size_zeroCells, hz1, hxl, Lib.strCells_length]
      omega
    · simp only [Array.toList_append, List.append_assoc]
      rw [← List.append_assoc, ← hlen]
      exact List.take_left
  have hold : ∀ (o : Obj) (k : Nat), k < w.heap.size → (w.drew.alloc o).heap[k]? = w.heap[k]? := fun o k hk => RowKit.Below.heap_alloc w.drew o k hk
  rcases hown.2 with ⟨hv, hn⟩ | ⟨g, cap0, cur, hv, hbg, hg, hnc, hcm, hcs, htake⟩
  · simp only [Value.slice.injEq] at hv
    obtain ⟨hob, hn0, hc0⟩ := hv
    have hobn : ob = none := by cases ob <;> simp [obA] at hob; rfl
    subst hobn hn0 hc0
    have hx : xs = [] := List.eq_nil_of_length_eq_zero hxl
    subst hx
    have hr := run_append_nil_string (P := P) w t u ty e i (.int .u8 0) ht hu hi hz s (by omega) (by omega) (by rw [hb1]; omega)
    have hgr := grown 0 (by omega)
    simp only [Nat.zero_add, List.nil_append, Array.empty_append] at hgr ⊢
    have e1 : (s.data.map fun b => Value.int .u8 b.toNat) = (Lib.strCells s).toArray := by
      apply Array.ext'
      simp [Lib.strCells]
    rw [e1] at hr
    exact ⟨some w.heap.size, _, _, hr, hgr, by simp, rfl, rfl, rfl, .inr ⟨rfl, fun k hk => hold _ k hk⟩, grownCap_ge w s.size 0 e⟩
  · simp only [Value.slice.injEq, true_and] at hv
    obtain ⟨hob, rfl⟩ := hv
    have hobg : ob = some g := by cases ob <;> simp [obA] at hob; rw [hob]
    subst hobg
    by_cases hroom : n + s.size ≤ cap
    · have hcs' : cur.size = cap := by simpa using hcs
      have hr := Lib.run_append_room_string (P := P) w t u ty e i ht hu hi hs1 g n cap cur hg s hroom (by omega)
      refine ⟨some g, cap, _, hr, ⟨hlen, .inr ⟨g, cap, _, rfl, hbg, setRow_heap w g cur _ e _ hg, hroom, hcm, ?_, ?_⟩⟩, by simp, rfl, rfl, rfl, .inl ⟨rfl, fun k hk => setRow_other w g k _ (fun e => hk (by rw [e]))⟩, hroom⟩
      · simp only [List.size_toArray, List.length_append, List.length_take, List.length_drop, Array.length_toList, Lib.strCells_length]
        omega
      · have ht' : cur.toList.take n = xs := by simpa using htake
        rw [ht', ← hlen]
        exact List.take_left
    · have holds : ∀ j u, xs[j]? = some u → w.cell? ((⟨g, 0, none⟩ : Addr).add j) = some u := hown.cells (g := g) rfl
      have hr := Lib.run_append_grow_string (P := P) w t u ty e i (.int .u8 0) ht hu hi hz ⟨g, 0, none⟩ n cap xs (by rw [hs1]; simpa using hxl) holds s (by omega) (by omega) (by rw [hb1]; exact growslice_fits (by omega) (by omega))
      have hgr := grown cap (by omega)
      exact ⟨some w.heap.size, _, _, hr, hgr, by simp, rfl, rfl, rfl, .inr ⟨rfl, fun k hk => hold _ k hk⟩, grownCap_ge w (n + s.size) cap e⟩

theorem run_append_zero_string {t u ty e : TypeId} {i : TypeInfo} (ht : P.underlying t = some (.slice e)) (hu : P.underlying u = some .string) (hi : P.info? e = some i) {base : Option Addr} {n cap : Nat} (hn : n ≤ cap) (s : ByteArray) (hm : s.size = 0) :
    (Builtin.append_ #[t, u] ty #[.slice base n cap, .string s]).run P w = .ok (.slice base n cap) w := by
  have hf := Lib.run_firstCells_string (P := P) w i.size s
  have hc : Lib.strCells s = [] := List.eq_nil_of_length_eq_zero (by rw [Lib.strCells_length]; exact hm)
  rw [hm, hc] at hf
  cases base <;> simp [Builtin.append_, run_underlying ht, run_underlying hu, sizeOf, typeInfo, hi, Builtin.lenOf, hm, hf, hn, storeCells]

theorem run_append_zero {t ty e : TypeId} {i : TypeInfo} (ht : P.underlying t = some (.slice e)) (hi : P.info? e = some i) {base sa : Option Addr} {n cap c : Nat} (hn : n ≤ cap) :
    (Builtin.append_ #[t, t] ty #[.slice base n cap, .slice sa 0 c]).run P w = .ok (.slice base n cap) w := by
  cases base <;> cases sa <;> simp [Builtin.append_, run_underlying ht, sizeOf, typeInfo, hi, Builtin.lenOf, Builtin.firstCells, loadCells, loadCellsFrom, hn, storeCells]
end
end Go.W
