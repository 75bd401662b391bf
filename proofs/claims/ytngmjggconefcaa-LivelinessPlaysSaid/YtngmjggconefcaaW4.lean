/- The W library, part 4: quiet instructions do what part 2 says. -/
import Derived.Test.YtngmjggconefcaaW3
namespace Go.W
section
variable {P : Program} {o : Oper} {N : Nat} {fr : Fr} {a : Act} {E : Es} {ro : RO} {s : S} {nw : Bool} {X0 : Ctx} {w0 : World}

theorem q_mv (hf : FRel N (gm E) ro fr a) {x : Operand} (ho : o.op = .move x ∨ o.op = .assign x) : QOk P o E ro a (ev fr (trO x)) :=
  ⟨a.eval x, ev_rel hf x, fun X w _ => by rcases ho with ho | ho <;> simp [execOp, ho]⟩

theorem q_binI (hf : FRel N (gm E) ro fr a) {op : BinOp} {t t' : TypeId} {x y : Operand} (ho : o.op = .binOp op t x y t') {k k' : IntKind} {m n : Int}
    (hx : ev fr (trO x) = iS k m) (hy : ev fr (trO y) = iS k' n) (h : binI op nw k m n = some s) (hc : binIc op nw k k' m n) : QOk P o E ro a s := by
  have h1 := ev_rel hf x; have h2 := ev_rel hf y
  rw [hx] at h1; rw [hy] at h2
  have h1' : a.eval x = .int k m := h1
  have h2' : a.eval y = .int k' n := h2
  obtain ⟨v, hv, hr⟩ := run_binI (P := P) (t := t) h hc
  exact ⟨v, hv _ _, fun X w _ => by simp only [execOp, ho, h1', h2']; simp [hr, eqGuard]⟩

theorem q_binS (hf : FRel N (gm E) ro fr a) {op : BinOp} {t t' : TypeId} {x y : Operand} (ho : o.op = .binOp op t x y t') {m n : ByteArray}
    (hx : ev fr (trO x) = tS m) (hy : ev fr (trO y) = tS n) (h : binS op m n = some s) (hc : binSc op m n) : QOk P o E ro a s := by
  have h1 := ev_rel hf x; have h2 := ev_rel hf y
  rw [hx] at h1; rw [hy] at h2
  have h1' : a.eval x = .string m := h1
  have h2' : a.eval y = .string n := h2
  obtain ⟨v, hv, hr⟩ := run_binS (P := P) (t := t) h hc
  exact ⟨v, hv _ _, fun X w _ => by simp only [execOp, ho, h1', h2']; simp [hr, eqGuard]⟩

theorem q_eqB (hf : FRel N (gm E) ro fr a) {neg : Bool} {t t' : TypeId} {x y : Operand} (ho : o.op = .binOp (if neg then .neq else .eql) t x y t') (ht : P.underlying t = some .bool) {m n : Bool}
    (hx : ev fr (trO x) = bS m) (hy : ev fr (trO y) = bS n) : QOk P o E ro a (bS (bif neg then !(m == n) else m == n)) := by
  have h1 := ev_rel hf x; have h2 := ev_rel hf y
  rw [hx] at h1; rw [hy] at h2
  have h1' : a.eval x = .bool m := h1
  have h2' : a.eval y = .bool n := h2
  refine ⟨_, rfl, fun X w _ => ?_⟩
  have he : (Op.equal t (.bool m) (.bool n)).run P w = .ok (m == n) w := by
    rw [Op.equal, show Op.maxDepth = 9999 + 1 from rfl, Op.equalIn]
    simp [underlying, ht]
  cases neg <;> simp only [execOp, ho, h1', h2'] <;> simp [eqGuard, binOp, he]

theorem q_not (hf : FRel N (gm E) ro fr a) {t : TypeId} {x : Operand} (ho : o.op = .unOp .not t x) {m : Bool} (hx : ev fr (trO x) = bS m) : QOk P o E ro a (bS (!m)) := by
  have h1 := ev_rel hf x
  rw [hx] at h1
  have h1' : a.eval x = .bool m := h1
  exact ⟨_, rfl, fun X w _ => by simp [execOp, ho, h1', Op.unary]⟩

theorem q_neg (hf : FRel N (gm E) ro fr a) {t : TypeId} {x : Operand} (ho : o.op = .unOp .neg t x) {k : IntKind} {m : Int} (hx : ev fr (trO x) = iS k m) (hc : nw = true → inr k (0 - m)) :
    QOk P o E ro a (iS k (wr k nw (0 - m))) := by
  have h1 := ev_rel hf x
  rw [hx] at h1
  have h1' : a.eval x = .int k m := h1
  exact ⟨_, rfl, fun X w _ => by rw [wr_eq hc]; simp [execOp, ho, h1', Op.unary, Op.intArith]⟩

theorem q_cvt (hf : FRel N (gm E) ro fr a) {t u : TypeId} {x : Operand} (ho : o.op = .convert t u x) {k0 k' k : IntKind} (ht : P.underlying t = some (.int k0)) (hu : P.underlying u = some (.int k')) {m : Int} (hx : ev fr (trO x) = iS k m) :
    QOk P o E ro a (iS k' (k'.wrap m)) := by
  have h1 := ev_rel hf x
  rw [hx] at h1
  have h1' : a.eval x = .int k m := h1
  exact ⟨_, rfl, fun X w _ => by simp [execOp, ho, h1', convert, underlying, ht, hu, Conv.intToInt]⟩

theorem q_ex (hf : FRel N (gm E) ro fr a) {i : Nat} {x : Operand} (ho : o.op = .extract x i) {l : List A} (hx : ev fr (trO x) = .tu l) {y : A} (hy : l[i]? = some y) : QOk P o E ro a (.va y) := by
  have h1 := ev_rel hf x
  rw [hx] at h1
  obtain ⟨vs, h1', h2⟩ := h1
  obtain ⟨v, hv, hr⟩ := h2.get hy
  exact ⟨v, hr, fun X w _ => by simp [execOp, ho, h1', Instr.extract, hv]⟩

theorem q_lnS (hf : FRel N (gm E) ro fr a) {t : TypeId} {x : Operand} (ho : o.op = .call { callee := .builtin .len, args := #[x], argTypes := #[t] })
    (ht : P.underlying t = some .string) (hs : qv fr (hp E) (.lnS (trO x)) = some s) : QOk P o E ro a s := by
  have h1 := ev_rel hf x
  simp only [qv] at hs
  split at hs <;> simp only [Option.some.injEq, reduceCtorEq] at hs
  rename_i l he
  subst hs
  rw [he] at h1
  have h1' : a.eval x = .string l := h1
  refine ⟨_, rfl, fun X w _ => ?_⟩
  simp [execOp, ho, h1', resolve, invoke, builtin, Builtin.len_, underlying, ht, goInt, size_bl]

theorem q_lnL (hf : FRel N (gm E) ro fr a) (hr0 : Rel X0 E ro w0) {t e : TypeId} {x : Operand} (ho : o.op = .call { callee := .builtin .len, args := #[x], argTypes := #[t] })
    (ht : P.underlying t = some (.slice e)) (hs : qv fr (hp E) (.lnL (trO x)) = some s) (hc : qc fr (hp E) (.lnL (trO x))) : QOk P o E ro a s := by
  have h1 := ev_rel hf x
  simp only [qv] at hs
  simp only [qc] at hc
  have key : ∀ {u : Option Addr} {n c : Nat}, a.eval x = .slice u n c → QOk P o E ro a (iS .i64 n) := fun {u n c} h => by
    refine ⟨_, rfl, fun X w _ => ?_⟩
    simp [execOp, ho, h, resolve, invoke, builtin, Builtin.len_, underlying, ht, goInt]
  split at hs <;> simp only [Option.some.injEq, reduceCtorEq] at hs
  · rename_i n len he
    subst hs
    rw [he] at h1 hc
    obtain ⟨g, h2, h3, h4, ⟨u, m, c, h5⟩, h6⟩ := h1
    simp only at hc
    split at hc
    · rename_i xs T sz hH
      obtain ⟨g', hE⟩ := hp_inv hH
      obtain ⟨_, hl, _⟩ := hr0.own n g' _ hE
      have : g' = g := by have := gm_get hE; rw [h2] at this; exact (Option.some.inj this).symm
      subst this
      exact key (h6 (by omega))
    · exact hc.elim
  · rename_i xs he
    subst hs
    rw [he] at h1
    have h1' : FzR ro xs (a.eval x) := h1
    generalize hv : a.eval x = v at h1'
    cases h1'
    exact key hv
  · rename_i u n c he
    subst hs
    rw [he] at h1
    have h1' : a.eval x = .slice u n c := h1
    exact key h1'

theorem run_sizeT {t : TypeId} {n : Nat} (h : szT P t = some n) (w : World) : (sizeOf t).run P w = .ok n w := by
  unfold szT at h
  cases hi : P.info? t with
  | none => simp [hi] at h
  | some i => simp [hi] at h; simp [sizeOf, typeInfo, hi, h]

theorem run_isAggT {t : TypeId} {b : Bool} (h : aggT P t = some b) (w : World) : (isAgg t).run P w = .ok b w := by
  unfold aggT at h
  cases hi : P.underlying t with
  | none => simp [hi] at h
  | some d => cases d <;> simp [hi] at h <;> subst h <;> simp [isAgg, underlying, hi]

theorem addr_add0 (b k n : Nat) : (⟨b, k, none⟩ : Addr).add n = ⟨b, k + n, none⟩ := by
  unfold Addr.add; split
  · simp_all
  · rfl

theorem qt_cur (hr0 : Rel X0 E ro w0) {n len sz i j : Nat} {v : Value} (h : C.rel (gm E) ro (.qt n len sz i j) v) (hH : rowAt (hp E) n len sz) : ∃ g b xs T, E[n]? = some (g, .row xs T sz) ∧ xs.length = len ∧ g.ob = some b ∧ v = .pointer (some ⟨b, i * sz + j, none⟩) := by
  obtain ⟨g, h2, h3, h4, h5, h6⟩ := h
  unfold rowAt at hH
  split at hH
  · rename_i xs T sz' hH'
    obtain ⟨hl, rfl⟩ := hH
    obtain ⟨g', hE⟩ := hp_inv hH'
    obtain ⟨_, hl2, _⟩ := hr0.own n g' _ hE
    have : g' = g := by have := gm_get hE; rw [h2] at this; exact (Option.some.inj this).symm
    subst this
    obtain ⟨b, hb, hv⟩ := h6 (by omega)
    exact ⟨g', b, xs, T, hE, hl, hb, hv⟩
  · exact hH.elim

theorem q_fa (hf : FRel N (gm E) ro fr a) (hr0 : Rel X0 E ro w0) {t : TypeId} {x : Operand} {f : Nat} (ho : o.op = .fieldAddr t x f) {fs : Array Field} (ht : P.underlying t = some (.struct fs)) {fd : Field} (hfd : fs[f]? = some fd)
    {k : Nat} (hk : szT P fd.type = some (k + 1)) (hs : qv fr (hp E) (.fa fd.offset (trO x)) = some s) (hc : qc fr (hp E) (.fa fd.offset (trO x))) : QOk P o E ro a s := by
  have h1 := ev_rel hf x
  simp only [qv] at hs
  simp only [qc] at hc
  have key : ∀ {b q : Nat}, a.eval x = .pointer (some ⟨b, q, none⟩) → ∀ X w, Rel X E ro w → (execOp a.eval o).run P w = .ok (.value (.pointer (some ⟨b, q + fd.offset, none⟩))) w := fun {b q} h X w _ => by
    simp [execOp, ho, h, Instr.fieldAt, underlying, ht, hfd, Instr.sureAddr, fieldPlace, run_sizeT hk, addr_add0]
  split at hs <;> simp only [Option.some.injEq, reduceCtorEq] at hs <;> rename_i he <;> subst hs <;> rw [he] at h1
  · obtain ⟨g, b, h2, h3, h4, h5⟩ := h1
    exact ⟨_, ⟨g, b, h2, h3, h4, rfl⟩, key h5⟩
  · rename_i n len sz i j
    rw [he] at hc
    obtain ⟨g, b, xs, T, hE, hl, hb, hv⟩ := qt_cur hr0 h1 hc
    obtain ⟨g', h2, h3, h4, h5, h6⟩ := h1
    have : g' = g := by have := gm_get hE; rw [h2] at this; exact (Option.some.inj this)
    subst this
    exact ⟨_, ⟨g', h2, h3, h4, ⟨_, rfl⟩, fun _ => ⟨b, hb, by rw [← Nat.add_assoc]⟩⟩, key hv⟩
  · obtain ⟨b, off, h2, h3⟩ := h1
    exact ⟨_, ⟨b, off, by rw [← Nat.add_assoc], h3⟩, key h2⟩

theorem q_fld1 (hf : FRel N (gm E) ro fr a) {t : TypeId} {x : Operand} {f : Nat} (ho : o.op = .field t x f) {fs : Array Field} (ht : P.underlying t = some (.struct fs)) {fd : Field} (hfd : fs[f]? = some fd)
    (hk : aggT P fd.type = some false) (hs : qv fr (hp E) (.fld1 fd.offset (trO x)) = some s) : QOk P o E ro a s := by
  have h1 := ev_rel hf x
  simp only [qv] at hs
  split at hs <;> simp only [Option.map_eq_some_iff, reduceCtorEq] at hs
  rename_i cs he
  obtain ⟨c, hcs, rfl⟩ := hs
  rw [he] at h1
  obtain ⟨vs, h1', h2⟩ := h1
  obtain ⟨v, hv, hr⟩ := h2.get hcs
  refine ⟨v, hr, fun X w _ => ?_⟩
  simp [execOp, ho, h1', Instr.field, underlying, ht, hfd, part, run_isAggT hk, asAgg, hv]

theorem q_fldn (hf : FRel N (gm E) ro fr a) {t : TypeId} {x : Operand} {f : Nat} (ho : o.op = .field t x f) {fs : Array Field} (ht : P.underlying t = some (.struct fs)) {fd : Field} (hfd : fs[f]? = some fd)
    (hk : aggT P fd.type = some true) {n : Nat} (hz : szT P fd.type = some n) (hs : qv fr (hp E) (.fldn fd.offset n (trO x)) = some s) : QOk P o E ro a s := by
  have h1 := ev_rel hf x
  simp only [qv] at hs
  split at hs <;> simp only [Option.some.injEq, reduceCtorEq] at hs
  rename_i cs he
  subst hs
  rw [he] at h1
  obtain ⟨vs, h1', h2⟩ := h1
  refine ⟨.agg ((vs.drop fd.offset).take n).toArray, ⟨_, rfl, (h2.drop _).take _⟩, fun X w _ => ?_⟩
  simp [execOp, ho, h1', Instr.field, underlying, ht, hfd, part, run_isAggT hk, run_sizeT hz, asAgg]

theorem q_nc (hf : FRel N (gm E) ro fr a) (hr0 : Rel X0 E ro w0) {x : Operand} (ho : o.op = .nilCheck x) (hs : qv fr (hp E) (.nc (trO x)) = some s) (hc : qc fr (hp E) (.nc (trO x))) : QOk P o E ro a s := by
  have h1 := ev_rel hf x
  simp only [qv] at hs
  simp only [qc] at hc
  split at hs <;> simp only [Option.some.injEq, reduceCtorEq] at hs <;> rename_i he <;> subst hs <;> rw [he] at h1
  · refine ⟨_, h1, fun X w _ => ?_⟩
    obtain ⟨g, b, h2, h3, h4, h5⟩ := h1
    simp [execOp, ho, h5]
  · refine ⟨_, h1, fun X w _ => ?_⟩
    rw [he] at hc
    obtain ⟨g, b, xs, T, hE, hl, hb, hv⟩ := qt_cur hr0 h1 hc
    simp [execOp, ho, hv]
  · refine ⟨_, h1, fun X w _ => ?_⟩
    obtain ⟨b, off, h2, h3⟩ := h1
    simp [execOp, ho, h2]
  · refine ⟨_, h1, fun X w _ => ?_⟩
    obtain ⟨bs, h2, h3⟩ := h1
    simp [execOp, ho, h2]

theorem q_eqP (hf : FRel N (gm E) ro fr a) {neg : Bool} {t t' e : TypeId} {x y : Operand} (ho : o.op = .binOp (if neg then .neq else .eql) t x y t') (ht : P.underlying t = some (.pointer e)) (hinf : (P.info? e).isNone = false)
    (hs : qv fr (hp E) (.eqP neg (trO x) (trO y)) = some s) : QOk P o E ro a s := by
  have h1 := ev_rel hf x; have h2 := ev_rel hf y
  have he : ∀ (p : Option Addr) (w : World), (Op.equal t (.pointer p) (.pointer none)).run P w = .ok p.isNone w := fun p w => by
    rw [Op.equal, show Op.maxDepth = 9999 + 1 from rfl, Op.equalIn]
    cases p <;> simp [underlying, ht]
  have he2 : ∀ (p : Addr) (w : World), (Op.equal t (.pointer (some p)) (.pointer (some p))).run P w = .ok true w := fun p w => by
    have key : ∀ d : Nat, (Op.equalIn (d + 1) t (.pointer (some p)) (.pointer (some p))).run P w = .ok true w := fun d => by
      cases hj : P.info? e with
      | none => simp [hj] at hinf
      | some j => simp [Op.equalIn, run_underlying ht, sizeOf, typeInfo, hj, run_sameAddr_same]
    simp [Op.equal, Op.maxDepth, key 9999]
  simp only [qv] at hs
  split at hs <;> try simp only [Option.some.injEq, reduceCtorEq] at hs
  · rename_i hex hey
    subst hs
    rw [hex] at h1; rw [hey] at h2
    obtain ⟨g, b, _, _, _, h1'⟩ := h1
    have h2' : a.eval y = .pointer none := h2
    exact ⟨_, rfl, fun X w _ => by cases neg <;> simp [execOp, ho, h1', h2', eqGuard, binOp, he]⟩
  · rename_i p hex hey
    subst hs
    rw [hex] at h1; rw [hey] at h2
    have h1' : a.eval x = .pointer p := h1
    have h2' : a.eval y = .pointer none := h2
    exact ⟨_, rfl, fun X w _ => by cases neg <;> simp [execOp, ho, h1', h2', eqGuard, binOp, he]⟩
  · rename_i n o1 m o2 hex hey
    split at hs <;> simp only [Option.some.injEq, reduceCtorEq] at hs
    rename_i hnm
    obtain ⟨rfl, rfl⟩ := hnm
    subst hs
    rw [hex] at h1; rw [hey] at h2
    obtain ⟨g, b, k1, _, k3, h1'⟩ := h1
    obtain ⟨g2, b2, l1, _, l3, h2'⟩ := h2
    rw [k1] at l1
    simp only [Option.some.injEq] at l1
    subst l1
    rw [k3] at l3
    simp only [Option.some.injEq] at l3
    subst l3
    exact ⟨_, rfl, fun X w _ => by cases neg <;> simp [execOp, ho, h1', h2', eqGuard, binOp, he2]⟩

theorem bnd_rel (hf : FRel N (gm E) ro fr a) {d : Int} {x : Option Operand} {l : Int} (h : bnd fr d (x.map trO) = some l) : (x = none ∧ l = d) ∨ ∃ y k, x = some y ∧ a.eval y = .int k l := by
  cases x with
  | none => simp [bnd] at h; exact .inl ⟨rfl, h.symm⟩
  | some y =>
    simp only [Option.map_some, bnd] at h
    split at h <;> simp only [Option.some.injEq, reduceCtorEq] at h
    rename_i k i he
    subst h
    have h1 := ev_rel hf y
    rw [he] at h1
    exact .inr ⟨y, k, rfl, h1⟩

theorem q_ss (hf : FRel N (gm E) ro fr a) {t : TypeId} {x : Operand} {lo hi : Option Operand} (ho : o.op = .slice t x lo hi none) (ht : P.underlying t = some .string)
    (hs : qv fr (hp E) (.ss (trO x) (lo.map trO) (hi.map trO)) = some s) (hc : qc fr (hp E) (.ss (trO x) (lo.map trO) (hi.map trO))) : QOk P o E ro a s := by
  have h1 := ev_rel hf x
  simp only [qv] at hs
  simp only [qc] at hc
  split at hs <;> first | (simp only [reduceCtorEq] at hs; done) | skip
  rename_i str he
  split at hs <;> simp only [Option.some.injEq, reduceCtorEq] at hs
  rename_i l h hl hh
  subst hs
  rw [he] at h1 hc
  simp only [hl, hh] at hc
  have h1' : a.eval x = .string str := h1
  obtain ⟨c0, c1, c2⟩ := hc
  refine ⟨_, rfl, fun X w _ => ?_⟩
  have hx : ∀ i j, str.extract i j = mk (((bl str).take j).drop i) := fun i j => by
    apply ByteArray.ext
    apply Array.ext'
    simp [mk, bl, ByteArray.data_extract, List.extract_eq_take_drop, List.drop_take]
  have hsz : str.size = (bl str).length := size_bl str
  have hh0 : 0 ≤ h := by omega
  rcases bnd_rel hf hl with ⟨rfl, rfl⟩ | ⟨yl, kl, rfl, hyl⟩ <;> rcases bnd_rel hf hh with ⟨rfl, rfl⟩ | ⟨yh, kh, rfl, hyh⟩ <;>
    simp [execOp, Instr.sliceAt, Instr.slice, Instr.sliceBounds, Instr.sliceBound, asIntOf, underlying, *]
  all_goals (intro hn; omega)

theorem q_bin (hf : FRel N (gm E) ro fr a) {op : BinOp} {t t' : TypeId} {x y : Operand} (ho : o.op = .binOp op t x y t') (hs : qv fr (hp E) (.bin op nw (trO x) (trO y)) = some s) (hc : qc fr (hp E) (.bin op nw (trO x) (trO y))) :
    QOk P o E ro a s := by
  simp only [qv] at hs
  simp only [qc] at hc
  split at hs
  · rename_i k m k' n hx hy
    rw [hx, hy] at hc
    exact q_binI hf ho hx hy hs hc
  · rename_i m n hx hy
    rw [hx, hy] at hc
    exact q_binS hf ho hx hy hs hc
  · cases hs

end
end Go.W
