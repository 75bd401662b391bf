/- The W library, part 5: quiet instructions, continued: structs, bytes, frozen slices, memory. -/
import Derived.Test.YtngmjggconefcaaW4
namespace Go.W
theorem all2_splice {R : C → Value → Prop} {cs vs : List C} {cur us : List Value} {off : Nat} (h : All2 R cs cur) (k : All2 R vs us) : All2 R (splice cs off vs) (cur.take off ++ us ++ cur.drop (off + us.length)) := by
  unfold splice
  rw [k.1]
  exact ((h.take _).app k).app (h.drop _)
section
variable {P : Program} {o : Oper} {N : Nat} {fr : Fr} {a : Act} {E : Es} {ro : RO} {s : S} {nw : Bool} {X0 : Ctx} {w0 : World}

theorem bdP_spec {fs : Array Field} : ∀ {l : List (Nat × Operand)} {l' : List (Nat × Nat × O)}, bdP P fs l = some l' →
    ∀ {places : Array (Nat × Nat)}, (∀ (i : Nat) (f : Field) (n : Nat), fs[i]? = some f → szT P f.type = some n → places[i]? = some (f.offset, n)) →
    ∀ (cs : List C) (cur : List Value), All2 (C.rel (gm E) ro) cs cur → bdC fr cs.length l' → ∀ {r : List C}, FRel N (gm E) ro fr a → bdV fr cs l' = some r →
    ∃ res, Instr.fill (places[·]?) cur.toArray (l.map fun x => (x.1, a.eval x.2)) = some (List.toArray res) ∧ All2 (C.rel (gm E) ro) r res
  | [], l', h, places, hp, cs, cur, hcc, hc, r, hf, hv => by
    simp only [bdP, Option.some.injEq] at h
    subst h
    simp only [bdV, Option.some.injEq] at hv
    subst hv
    exact ⟨cur, rfl, hcc⟩
  | (i, x) :: l, l', h, places, hp, cs, cur, hcc, hc, r, hf, hv => by
    simp only [bdP] at h
    split at h
    · rename_i f hfi
      split at h
      · rename_i n l2 hn hl2
        simp only [Option.some.injEq] at h
        subst h
        simp only [bdV] at hv
        simp only [bdC] at hc
        have hx := ev_rel hf x
        split at hv
        · rename_i y hy
          rw [hy] at hx hc
          have hx' : y.rel (gm E) ro (a.eval x) := hx
          simp only at hc
          obtain ⟨⟨hok, hlen, hle⟩, hc2⟩ := hc
          have hcv := A.cells_rel hx' hok
          have hl3 : (a.eval x).cells.toList.length = n := by rw [← hcv.1]; exact hlen
          have hl4 : (a.eval x).cells.size = n := by simpa using hl3
          have hspl : (splice cs f.offset y.cells).length = cs.length := by simp [splice]; omega
          rw [← hspl] at hc2
          obtain ⟨res, ih, ihr⟩ := bdP_spec hl2 hp (splice cs f.offset y.cells) _ (all2_splice hcc hcv) hc2 hf hv
          refine ⟨res, ?_, ihr⟩
          simp only [List.map_cons, Instr.fill, hp i f n hfi hn]
          rw [if_neg (by have := hcc.1; simp; omega)]
          rw [← ih]
          congr 1
          have := fold_set f.offset (a.eval x).cells.toList 0 cur (by have := hcc.1; simp at hl3 ⊢; omega)
          simp only [Nat.add_zero] at this
          rw [← Array.foldl_toList, Array.toList_zipIdx, this]
        · cases hv
      · cases h
    · cases h

theorem placesOf_get : ∀ {fs : List Field} {pl : List (Nat × Nat)}, placesOf P fs = some pl → ∀ (i : Nat) (f : Field) (n : Nat), fs[i]? = some f → szT P f.type = some n → pl[i]? = some (f.offset, n)
  | [], pl, h, i, f, n, hf, hn => by simp at hf
  | g :: fs, pl, h, i, f, n, hf, hn => by
    simp only [placesOf, List.mapM_cons, Option.bind_eq_bind, Option.pure_def, Option.bind_eq_some_iff] at h
    obtain ⟨y, hy, r, hr, hpl⟩ := h
    simp only [Option.some.injEq] at hpl
    subst hpl
    cases i with
    | zero =>
      simp only [List.getElem?_cons_zero, Option.some.injEq] at hf
      subst hf
      unfold szT at hn
      cases hi : P.info? g.type with
      | none => simp [hi] at hy
      | some i => simp [hi] at hy hn; subst hn; simp [← hy]
    | succ i => simpa using placesOf_get (fs := fs) (pl := r) hr i f n (by simpa using hf) hn

theorem q_bd (hf : FRel N (gm E) ro fr a) {t : TypeId} {parts : Array (Nat × Operand)} (ho : o.op = .build t parts) {fs : Array Field} (ht : P.underlying t = some (.struct fs)) {i : TypeInfo} (hi : P.info? t = some i)
    {z : Value} (hz : i.zero = some z) {pl : List (Nat × Nat)} (hp' : placesOf P fs.toList = some pl) {l : List (Nat × Nat × O)} (hl : bdP P fs parts.toList = some l)
    (hs : qv fr (hp E) (.bd z.cells.toList l) = some s) (hc : qc fr (hp E) (.bd z.cells.toList l)) : QOk P o E ro a s := by
  simp only [qv, Option.map_eq_some_iff] at hs
  obtain ⟨cs, hcs, rfl⟩ := hs
  simp only [qc] at hc
  obtain ⟨res, hfill, hres⟩ := bdP_spec (places := pl.toArray) hl (fun i f n h1 h2 => by simpa using placesOf_get hp' i f n (by simpa using h1) h2) (z.cells.toList.map C.vl) z.cells.toList (all2_vl _) (by simpa using hc) hf hcs
  refine ⟨.agg res.toArray, ⟨res, rfl, hres⟩, fun X w _ => ?_⟩
  rw [Array.toArray_toList] at hfill
  simp only [execOp, ho, Instr.build]
  simp [underlying, ht, typeInfo, zeroValue, hi, hz, Array.mapM_eq_mapM_toList, run_places w _ _ hp']
  have e2 : (fun (x : Nat) => pl.toArray[x]?) = (fun x => pl[x]?) := by funext x; simp
  rw [e2] at hfill
  have e3 : (List.map (fun x => (x.1, a.eval x.2)) parts.toList) = List.map (fun x => (x.fst, a.eval x.snd)) parts.toList := rfl
  simp only [hfill] 
  simp

theorem sh1_spec {t : TypeId} {sh : Sh} (h : sh1 P t = some sh) : (∀ k, sh = .int k → P.underlying t = some (.int k)) ∧ (sh = .str → P.underlying t = some .string) ∧ (sh = .bool → P.underlying t = some .bool) := by
  unfold sh1 at h
  split at h <;> simp only [Option.some.injEq, reduceCtorEq] at h <;> subst h <;> simp_all

theorem equalIn_run (w : World) {d : Nat} {t : TypeId} {sh : Sh} (h : sh1 P t = some sh) {c e : C} {u v : Value} (hu : c.rel (gm E) ro u) (hv : e.rel (gm E) ro v) {x : Bool} (hx : eqC sh c e = some x) : (Op.equalIn (d + 1) t u v).run P w = .ok x w := by
  obtain ⟨h1, h2, h3⟩ := sh1_spec h
  unfold eqC at hx
  split at hx
  · rename_i k k1 a1 k2 b1
    have hu' : u = .int k1 a1 := hu
    have hv' : v = .int k2 b1 := hv
    subst hu'; subst hv'
    split at hx
    · rename_i hk; simp only [Option.some.injEq] at hx; subst hx; subst hk; exact run_equalIn_int w d _ _ _ _ _ (h1 _ rfl)
    · cases hx
  · rename_i a1 b1
    have hu' : u = .string a1 := hu
    have hv' : v = .string b1 := hv
    subst hu'; subst hv'
    simp only [Option.some.injEq] at hx; subst hx; exact (run_equalIn_string w d _ _ _ (h2 rfl)).trans (by rw [toList_bl, toList_bl])
  · rename_i a1 b1
    have hu' : u = .bool a1 := hu
    have hv' : v = .bool b1 := hv
    subst hu'; subst hv'
    simp only [Option.some.injEq] at hx; subst hx; exact run_equalIn_bool' w d _ _ _ (h3 rfl)
  · cases hx

theorem eqF_run (w : World) {d : Nat} {cs ds : List C} {us vs : List Value} (hu : All2 (C.rel (gm E) ro) cs us) (hv : All2 (C.rel (gm E) ro) ds vs) : ∀ {fs : List Field} {l : List (Nat × Sh)} {b : Bool}, eqPl P fs = some l → eqF cs ds l = some b →
    (Op.eqFields (d + 1) us.toArray vs.toArray fs).run P w = .ok b w
  | [], l, b, h, hb => by
    simp only [eqPl, Option.some.injEq] at h
    subst h
    simp only [eqF, Option.some.injEq] at hb
    subst hb
    simp [Op.eqFields]
  | f :: fs, l, b, h, hb => by
    simp only [eqPl] at h
    split at h
    · rename_i sh l' hsh hag hl'
      split at h
      · rename_i hc
        simp only [Option.some.injEq] at h
        subst h
        simp only [Bool.not_eq_true', beq_eq_false_iff_ne] at hc
        simp only [eqF] at hb
        split at hb
        · rename_i c e hce hde
          split at hb
          · rename_i x y hx hy
            simp only [Option.some.injEq] at hb
            subst hb
            have ih := eqF_run w (d := d) hu hv hl' hy
            obtain ⟨u, hu1, hu2⟩ := hu.get hce
            obtain ⟨v, hv1, hv2⟩ := hv.get hde
            have hp1 : (part f.type us.toArray f.offset).run P w = .ok u w := by simp [part, run_isAggT hag, hu1]
            have hp2 : (part f.type vs.toArray f.offset).run P w = .ok v w := by simp [part, run_isAggT hag, hv1]
            have hq := equalIn_run w (d := d) hsh hu2 hv2 hx
            simp only [Op.eqFields, ne_eq, hc, not_false_eq_true, if_true, Sem.run_bind, hp1, hp2, hq, Result.andThen_ok]
            cases x
            · simp
            · simp only [Bool.not_true, Bool.false_eq_true, if_false, Bool.true_and]; exact ih
          · cases hb
        · cases hb
      · cases h
    · cases h

theorem q_eqT (hf : FRel N (gm E) ro fr a) {neg : Bool} {t t' : TypeId} {x y : Operand} (ho : o.op = .binOp (if neg then .neq else .eql) t x y t') {fs : Array Field} (ht : P.underlying t = some (.struct fs)) (hp' : P.stoodInHeld t = false)
    (hg : P.eqGuardType P.depth t = false) {l : List (Nat × Sh)} (hl : eqPl P fs.toList = some l) (hs : qv fr (hp E) (.eqT neg l (trO x) (trO y)) = some s) : QOk P o E ro a s := by
  have h1 := ev_rel hf x; have h2 := ev_rel hf y
  simp only [qv] at hs
  split at hs
  · rename_i cs ds hx hy
    simp only [Option.map_eq_some_iff] at hs
    obtain ⟨b, hb, rfl⟩ := hs
    rw [hx] at h1; rw [hy] at h2
    obtain ⟨us, h1', h3⟩ := h1
    obtain ⟨vs, h2', h4⟩ := h2
    refine ⟨_, rfl, fun X w _ => ?_⟩
    have hfo : P.fieldsOf t = fs := by simp [Program.fieldsOf, ht]
    have he : (Op.equalIn 10000 t (.agg us.toArray) (.agg vs.toArray)).run P w = .ok b w := by
      rw [show (10000 : Nat) = 9998 + 1 + 1 from rfl, run_equalIn_struct w _ t _ _ (by rw [hfo]; exact ht) hp', hfo]
      exact eqF_run w h3 h4 hl hb
    cases neg
    · simp only [execOp, ho, h1', h2', Bool.false_eq_true, if_false, Sem.run_bind, run_eqGuard_agg w _ _ _ _ _ _ hg, Result.andThen_ok, run_eql_struct, he]
      simp
    · simp only [execOp, ho, h1', h2', if_true, Sem.run_bind, run_eqGuard_agg w _ _ _ _ _ _ hg, Result.andThen_ok, run_neq_struct, he]
      simp
  · cases hs

theorem q_b2s (hf : FRel N (gm E) ro fr a) (hr0 : Rel X0 E ro w0) {t u e : TypeId} {x : Operand} (ho : o.op = .convert t u x) (ht : P.underlying t = some (.slice e)) (he : P.underlying e = some (.int .u8)) (hu : P.underlying u = some .string)
    (hs : qv fr (hp E) (.b2s (trO x)) = some s) (hc : qc fr (hp E) (.b2s (trO x))) : QOk P o E ro a s := by
  have h1 := ev_rel hf x
  simp only [qv] at hs
  simp only [qc] at hc
  split at hs
  · rename_i len cap hx
    simp only [Option.some.injEq] at hs
    subst hs
    rw [hx] at h1
    have h1' : a.eval x = .slice none len cap := h1
    refine ⟨_, rfl, fun X w _ => ?_⟩
    have hr : (convert t u (.slice none len cap)).run P w = .ok (.string .empty) w := by
      rw [run_convert_bytes_string w t u e _ _ _ ht he hu]; rfl
    simp only [execOp, ho, h1', Sem.run_bind, hr, Result.andThen_ok]
    rfl
  · rename_i n len hx
    rw [hx] at h1 hc
    simp only at hc
    split at hs <;> simp only [Option.some.injEq, reduceCtorEq] at hs
    rename_i xs T sz hH
    subst hs
    simp only [hH] at hc
    obtain ⟨hlen, rfl, hrow⟩ := hc
    obtain ⟨g, hE⟩ := hp_inv hH
    obtain ⟨g', k2, k3, k4, _, k6⟩ := h1
    obtain ⟨_, hl2, _⟩ := hr0.own n g _ hE
    have : g' = g := by have := gm_get hE; rw [k2] at this; exact (Option.some.inj this)
    subst this
    have h1' := k6 (by omega)
    refine ⟨_, rfl, fun X w hr => ?_⟩
    obtain ⟨_, _, hx1, _, hown, hrel, _⟩ := hr.own n _ _ hE
    let ns : List Int := xs.map fun r => C.gi (r[0]?)
    have hflat : g'.vs = ns.map (Value.int .u8) := by
      have e1 : xs.flatten = ns.map fun n => C.vl (.int .u8 n) := by
        have : ∀ (l : List (List C)), (∀ r ∈ l, r = [.vl (.int .u8 (C.gi (r[0]?)))]) → l.flatten = (l.map fun r => C.gi (r[0]?)).map fun n => C.vl (.int .u8 n) := by
          intro l
          induction l with
          | nil => intro _; rfl
          | cons r l ih =>
            intro h
            have hr0 := h r (by simp)
            simp only [List.flatten_cons, List.map_cons, ih (fun y hy => h y (by simp [hy]))]
            conv => lhs; rw [hr0]
            rfl
        exact this xs hrow
      rw [e1] at hrel
      apply List.ext_getElem?
      intro i
      cases hi : g'.vs[i]? with
      | none =>
        rw [List.getElem?_eq_none_iff] at hi
        rw [eq_comm, List.getElem?_eq_none_iff]
        have := hrel.1; simp at this ⊢; omega
      | some v =>
        obtain ⟨c, hc1, hc2⟩ := hrel.get' hi
        rw [List.getElem?_map] at hc1 ⊢
        cases hn : ns[i]? with
        | none => simp [hn] at hc1
        | some m => simp [hn] at hc1; subst hc1; simp only [C.fv] at hc2; simp [hc2]
    have hfold : ∀ (l : List Int) (b : ByteArray), l.foldl (fun r n => r.push (UInt8.ofNat n.toNat)) b = mk (bl b ++ l.map fun n => UInt8.ofNat n.toNat) := by
      intro l
      induction l with
      | nil => intro b; simp
      | cons n l ih =>
        intro b
        rw [List.foldl_cons, ih]
        congr 1
        simp [bl]
    have hres : (convert t u (.slice (obA g'.ob 0) len g'.cap)).run P w = .ok (.string (mk (rowB xs))) w := by
      rw [run_convert_bytes_string w t u e _ _ _ ht he hu]
      cases hob : g'.ob with
      | none =>
        rw [hob] at hown
        rcases hown.2 with ⟨_, h0⟩ | ⟨g, c', cur, hv, _⟩
        · have : xs = [] := List.eq_nil_of_length_eq_zero h0
          subst this
          rfl
        · simp [obA] at hv
      | some b =>
        rw [hob] at hown
        have hcell := World.ownsRow.cells (h := hown) (g := b) rfl
        have hload : (loadCells ⟨b, 0, none⟩ len).run P w = .ok (ns.map (Value.int .u8)).toArray w := by
          have := run_loadCells_list (P := P) w ⟨b, 0, none⟩ (ns.map (Value.int .u8)) (fun j v hv => hcell j v (by rw [hflat]; exact hv))
          rw [List.length_map, List.length_map, hlen] at this
          exact this
        have := run_bytesToString (P := P) w ⟨b, 0, none⟩ len g'.cap ns hload
        simp only [obA, Option.map_some]
        rw [this, hfold]
        congr 2
        simp only [rowB, ns, bl, List.map_map]
        rfl
    rw [hlen] at *
    simp only [execOp, ho, h1', Sem.run_bind, hres, Result.andThen_ok]
    rfl
  · cases hs

theorem q_sf (hf : FRel N (gm E) ro fr a) {t e : TypeId} {x : Operand} {lo hi : Option Operand} (ho : o.op = .slice t x lo hi none) (ht : P.underlying t = some (.slice e)) {sz : Nat} (hz : szT P e = some sz)
    (hs : qv fr (hp E) (.sf sz (trO x) (lo.map trO) (hi.map trO)) = some s) (hc : qc fr (hp E) (.sf sz (trO x) (lo.map trO) (hi.map trO))) : QOk P o E ro a s := by
  have h1 := ev_rel hf x
  simp only [qv] at hs
  simp only [qc] at hc
  split at hs <;> first | (simp only [reduceCtorEq] at hs; done) | skip
  rename_i xs he
  split at hs <;> simp only [Option.some.injEq, reduceCtorEq] at hs
  rename_i l h hl hh
  subst hs
  rw [he] at h1 hc
  simp only [hl, hh] at hc
  obtain ⟨⟨c0, c1, c2⟩, c3, c4⟩ := hc
  have h1' : FzR ro xs (a.eval x) := h1
  generalize hv : a.eval x = v at h1'
  obtain ⟨_, sz', ob, cap, vs, k1, k2, k3, k4, k5, k6, k7⟩ := h1'
  have hh0 : 0 ≤ h := by omega
  have hlen : ((xs.take h.toNat).drop l.toNat).length = h.toNat - l.toNat := by simp; omega
  have hflat : ∀ (ys : List (List C)), (∀ r ∈ ys, r.length = sz) → ∀ n, (ys.drop n).flatten = ys.flatten.drop (n * sz) := by
    intro ys
    induction ys with
    | nil => intro _ n; simp
    | cons r ys ih =>
      intro hr n
      cases n with
      | zero => simp
      | succ n =>
        have hrl := hr r (by simp)
        simp only [List.drop_succ_cons, List.flatten_cons]
        rw [ih (fun y hy => hr y (by simp [hy])), List.drop_append, show List.drop ((n + 1) * sz) r = [] from List.drop_eq_nil_iff.2 (by rw [hrl, Nat.succ_mul]; omega), hrl, Nat.succ_mul]
        simp
  have hpre : ∀ (k : Nat) (c : C), ((xs.take h.toNat).drop l.toNat).flatten[k]? = some c → xs.flatten[l.toNat * sz + k]? = some c := by
    intro k c hk
    rw [hflat _ (fun r hr => c4 r (List.mem_of_mem_take hr)), List.getElem?_drop] at hk
    have : (xs.take h.toNat).flatten <+: xs.flatten := by
      conv => rhs; rw [← List.take_append_drop h.toNat xs]
      rw [List.flatten_append]; exact List.prefix_append _ _
    obtain ⟨r, hr⟩ := this
    rw [← hr]
    rw [List.getElem?_append_left (List.getElem?_eq_some_iff.1 hk).1]
    exact hk
  have hrun : ∀ X w, Rel X E ro w → (execOp a.eval o).run P w = .ok (.value (.slice (if cap = l.toNat then roA ob 0 else (roA ob 0).map (·.add (l.toNat * sz))) (h.toNat - l.toNat) (cap - l.toNat))) w := by
    intro X w _
    rcases bnd_rel hf hl with ⟨rfl, rfl⟩ | ⟨yl, kl, rfl, hyl⟩ <;> rcases bnd_rel hf hh with ⟨rfl, rfl⟩ | ⟨yh, kh, rfl, hyh⟩
    · simp [execOp, ho, hv, Instr.sliceAt, Instr.slice, Instr.sliceBounds, underlying, ht, run_sizeT hz]
    · have q1 : h ≤ cap := by omega
      simp [execOp, ho, hv, Instr.sliceAt, Instr.slice, Instr.sliceBounds, Instr.sliceBound, asIntOf, underlying, ht, run_sizeT hz, hyh, hh0, q1]
    · have q1 : l ≤ (xs.length : Int) := by omega
      simp [execOp, ho, hv, Instr.sliceAt, Instr.slice, Instr.sliceBounds, Instr.sliceBound, asIntOf, underlying, ht, run_sizeT hz, hyl, c0, q1]
    · have q1 : h ≤ cap := by omega
      have q2 : l ≤ max h 0 := by omega
      simp [execOp, ho, hv, Instr.sliceAt, Instr.slice, Instr.sliceBounds, Instr.sliceBound, asIntOf, underlying, ht, run_sizeT hz, hyl, hyh, hh0, q1, q2, c0]
  refine ⟨_, ?_, hrun⟩
  show FzR ro _ _
  rw [← hlen]
  have mem : ∀ r ∈ (xs.take h.toNat).drop l.toNat, r ∈ xs := fun r hr => List.mem_of_mem_take (List.mem_of_mem_drop hr)
  by_cases hcl : cap = l.toNat
  · rw [if_pos hcl]
    have hnil : (xs.take h.toNat).drop l.toNat = [] := List.eq_nil_of_length_eq_zero (by rw [hlen]; omega)
    rw [hnil]
    exact .mk [] sz ob _ (fun _ => undef) (by simp) (by simp) (by simp) (by simp) (by simp) (by simp) (by simp)
  · rw [if_neg hcl]
    have hsz : ∀ r ∈ xs, sz' = sz := fun r hr => by rw [← k1 r hr, c4 r hr]
    have hmap : (roA ob 0).map (·.add (l.toNat * sz)) = roA (ob.map fun y => (y.1, y.2 + l.toNat * sz)) 0 := by
      cases ob <;> simp [roA, addr_add0]
    rw [hmap]
    refine .mk _ sz _ _ (fun k => vs (l.toNat * sz + k)) (fun r hr => c4 r (mem r hr)) (by rw [hlen]; omega) (fun hne => ?_) (fun k c hk => ?_) (fun k u hk => ?_) (fun k ys hk => ?_) (fun c hc => ?_)
    · have : xs ≠ [] := fun e => by subst e; simp at hne
      have := k3 this
      cases ob <;> simp at this ⊢
    · have := k4 _ c (hpre k c hk)
      have hob : ob.isSome = true := k3 (fun e => by subst e; simp at hk)
      cases ob with
      | none => simp at hob
      | some y => simpa [Nat.add_assoc] using this
    · exact k5 _ u (hpre k _ hk)
    · exact k6 _ ys (hpre k _ hk)
    · obtain ⟨r, hr, hcr⟩ := List.mem_flatten.1 hc
      exact k7 c (List.mem_flatten.2 ⟨r, mem r hr, hcr⟩)

theorem cell_block (hr0 : Rel X0 E ro w0) {n o : Nat} {v : Value} (h : C.rel (gm E) ro (.pt n o) v) {cs : List C} {T : TypeId} (hH : (hp E)[n]? = some (.cells cs T)) :
    ∃ b, v = .pointer (some ⟨b, o, none⟩) ∧ ∀ X w, Rel X E ro w → w.shape? b = some (T, cs.length) := by
  obtain ⟨g, b, k1, k2, k3, k4⟩ := h
  obtain ⟨g', hE⟩ := hp_inv hH
  have : g = g' := by have := gm_get hE; rw [k1] at this; exact (Option.some.inj this)
  subst this
  refine ⟨b, k4, fun X w hr => ?_⟩
  obtain ⟨_, b', hb', hh, hrel⟩ := hr.own n g _ hE
  rw [k3] at hb'
  simp only [Option.some.injEq] at hb'
  subst hb'
  simp [World.shape?, hh, hrel.1]
theorem q_cu (hf : FRel N (gm E) ro fr a) (hr0 : Rel X0 E ro w0) {t u e : TypeId} {x : Operand} (ho : o.op = .convert t u x) (ht : P.underlying t = some (.pointer e)) (hu : P.underlying u = some .unsafePointer) {k : Nat} (hz : szT P e = some (k + 1))
    (hs : qv fr (hp E) (.cu (trO x)) = some s) (hc : qc fr (hp E) (.cu (trO x))) : QOk P o E ro a s := by
  have h1 := ev_rel hf x
  simp only [qv] at hs
  simp only [qc] at hc
  split at hs <;> simp only [Option.some.injEq, reduceCtorEq] at hs
  rename_i n off he
  subst hs
  rw [he] at h1 hc
  simp only at hc
  split at hc <;> try exact hc.elim
  rename_i cs T hH
  obtain ⟨b, hv, hsh⟩ := cell_block hr0 h1 hH
  refine ⟨_, h1, fun X w hr => ?_⟩
  unfold szT at hz
  cases hj : P.info? e with
  | none => simp [hj] at hz
  | some j =>
    simp [hj] at hz
    have := Lib.run_to_unsafe (P := P) (w := w) (src := t) (dst := u) ⟨b, off, none⟩ ht hu hj (by omega) (hsh X w hr) hc
    simp only [execOp, ho, hv]
    simp [this]
theorem q_c4u (hf : FRel N (gm E) ro fr a) (hr0 : Rel X0 E ro w0) {t u e : TypeId} {x : Operand} (ho : o.op = .convert t u x) (ht : P.underlying t = some .unsafePointer) (hu : P.underlying u = some (.pointer e)) {k : Nat} (hz : szT P e = some k)
    (hl : liesAt P P.depth e (k / P.cellsOf e) 0 e 1 = true) (hs : qv fr (hp E) (.c4u e k (trO x)) = some s) (hc : qc fr (hp E) (.c4u e k (trO x))) : QOk P o E ro a s := by
  have h1 := ev_rel hf x
  simp only [qv] at hs
  simp only [qc] at hc
  split at hs <;> simp only [Option.some.injEq, reduceCtorEq] at hs
  rename_i n off he
  subst hs
  rw [he] at h1 hc
  simp only at hc
  split at hc <;> try exact hc.elim
  rename_i cs T hH
  obtain ⟨rfl, rfl, rfl⟩ := hc
  obtain ⟨b, hv, hsh⟩ := cell_block hr0 h1 hH
  refine ⟨_, h1, fun X w hr => ?_⟩
  unfold szT at hz
  cases hj : P.info? T with
  | none => simp [hj] at hz
  | some j =>
    have := Lib.run_from_unsafe (P := P) (w := w) (src := t) (dst := u) ⟨b, 0, none⟩ ht hu hj (hsh X w hr) hl
    simp only [execOp, ho, hv]
    simp [this]
theorem q_usd (hf : FRel N (gm E) ro fr a) (hr0 : Rel X0 E ro w0) {t e : TypeId} {x : Operand} (ho : o.op = .call { callee := .builtin .unsafeSliceData, args := #[x], argTypes := #[t] })
    (ht : P.underlying t = some (.slice e)) (hs : qv fr (hp E) (.usd (trO x)) = some s) (hc : qc fr (hp E) (.usd (trO x))) : QOk P o E ro a s := by
  have h1 := ev_rel hf x
  simp only [qv] at hs
  simp only [qc] at hc
  split at hs <;> simp only [Option.some.injEq, reduceCtorEq] at hs
  rename_i n len he
  subst hs
  rw [he] at h1 hc
  simp only at hc
  split at hc <;> try exact hc.elim
  rename_i xs T sz hH
  obtain ⟨g', hE⟩ := hp_inv hH
  obtain ⟨_, hl, _, _, _, _, hpos⟩ := hr0.own n g' _ hE
  obtain ⟨g, h2, h3, h4, _, h6⟩ := h1
  have : g' = g := by have := gm_get hE; rw [h2] at this; exact (Option.some.inj this).symm
  subst this
  have hv := h6 (by omega)
  refine ⟨.pointer (obA g'.ob 0), ⟨g', h2, h3, h4, ⟨_, rfl⟩, fun _ => rfl⟩, fun X w _ => ?_⟩
  cases hob : g'.ob with
  | none =>
    rw [hob] at hv
    have hr : ∀ ty l c, (Builtin.unsafeSliceData_ #[t] ty #[.slice none l c]).run P w = .ok (.pointer none) w := fun _ _ _ => rfl
    simp [execOp, ho, hv, resolve, invoke, builtin, hr, obA]
  | some b =>
    rw [hob] at hv
    have := hpos b hob
    have hne : g'.cap ≠ 0 := by omega
    have hr : ∀ ty l c, c ≠ 0 → (Builtin.unsafeSliceData_ #[t] ty #[.slice (some ⟨b, 0, none⟩) l c]).run P w = .ok (.pointer (some ⟨b, 0, none⟩)) w := fun ty l c h => by
      have : Builtin.unsafeSliceData_ #[t] ty #[.slice (some ⟨b, 0, none⟩) l c] = (if c ≠ 0 then pure (.pointer (some ⟨b, 0, none⟩)) else _) := rfl
      rw [this, if_pos h]; rfl
    simp [execOp, ho, hv, resolve, invoke, builtin, hr _ _ _ hne, obA]
theorem ne1 : Extern.allGenericRows.lookup "internal/abi.NoEscape" = none := by kernel_rfl
theorem ne2 : Extern.allTypedRows.lookup "internal/abi.NoEscape" = none := by kernel_rfl
theorem ne3 : Extern.allRows.lookup "internal/abi.NoEscape" = some Extern.AbiNoEscape.same := by kernel_rfl
theorem ne4 : Extern.allNextRows.lookup "internal/abi.NoEscape" = none := by kernel_rfl
theorem ne5 : Extern.allNextRows.lookup "" = none := by kernel_rfl
theorem q_ne (hf : FRel N (gm E) ro fr a) {f : FuncId} {t : TypeId} {x : Operand} (ho : o.op = .call { callee := .value (.func f), args := #[x], argTypes := #[t] }) {fn : Func} (hfn : P.funcs[f]? = some fn)
    (h1 : fn.name = "internal/abi.NoEscape") (h2 : fn.origin = "") (h3 : fn.body.isNone = true) : QOk P o E ro a (ev fr (trO x)) := by
  refine ⟨a.eval x, ev_rel hf x, fun X w _ => ?_⟩
  have := run_callFunc_extern (P := P) (f := f) (e := Extern.AbiNoEscape.same) hfn (by rw [h1]; decide) h3 (by simp [Extern.findNext, h1, h2, ne4, ne5]) (by simp [Extern.find, h1, ne1, ne2, ne3]) #[a.eval x] w
  simp only [execOp, ho, resolve]
  simp [Act.eval, Deferred.ofValue, invoke] at this ⊢
  rw [this]
  rfl

/-- EVERY QUIET INSTRUCTION WHOSE VALUE IS RECKONED. -/
theorem q_sound (hf : FRel N (gm E) ro fr a) (hr0 : Rel X0 E ro w0) {i : QI} (hi : trQ P nw o.op = some i) (hs : qv fr (hp E) i = some s) (hc : qc fr (hp E) i) : QOk P o E ro a s := by
  cases ho : o.op <;> rw [ho] at hi <;> simp only [trQ, reduceCtorEq, Option.some.injEq] at hi
  case move x => subst hi; simp only [qv, Option.some.injEq] at hs; subst hs; exact q_mv hf (.inl ho)
  case assign x => subst hi; simp only [qv, Option.some.injEq] at hs; subst hs; exact q_mv hf (.inr ho)
  case binOp op t x y t' =>
    split at hi
    · simp only [Option.some.injEq] at hi; subst hi; exact q_bin hf ho hs hc
    · simp only [Option.some.injEq] at hi; subst hi; exact q_bin hf ho hs hc
    · rename_i ht
      split at hi <;> simp only [Option.some.injEq, reduceCtorEq] at hi <;> subst hi <;> simp only [qv] at hs <;> split at hs <;> simp only [Option.some.injEq, reduceCtorEq] at hs <;> subst hs
      · rename_i hx hy; exact q_eqB (neg := false) hf ho ht hx hy
      · rename_i hx hy; exact q_eqB (neg := true) hf ho ht hx hy
    · rename_i e ht
      split at hi
      · cases hi
      · rename_i hinf
        have hinf : (P.info? e).isNone = false := by cases hj : P.info? e <;> simp_all
        split at hi <;> simp only [Option.some.injEq, reduceCtorEq] at hi <;> subst hi
        · exact q_eqP (neg := false) hf ho ht hinf hs
        · exact q_eqP (neg := true) hf ho ht hinf hs
    · rename_i fs ht
      split at hi
      · rename_i hcc
        simp only [Bool.and_eq_true, Bool.not_eq_true'] at hcc
        split at hi <;> simp only [Option.some.injEq, reduceCtorEq] at hi <;> rename_i hl <;> subst hi
        · exact q_eqT (neg := false) hf ho ht hcc.1 hcc.2 hl hs
        · exact q_eqT (neg := true) hf ho ht hcc.1 hcc.2 hl hs
      · cases hi
    · cases hi
  case unOp op t x =>
    cases op <;> simp only [Option.some.injEq, reduceCtorEq] at hi <;> subst hi
    · simp only [qv] at hs; simp only [qc] at hc
      split at hs
      · rename_i k m hx; rw [hx] at hc; simp only [binI, Option.some.injEq] at hs; subst hs; exact q_neg hf ho hx hc
      · cases hs
    · simp only [qv] at hs
      split at hs <;> simp only [Option.some.injEq, reduceCtorEq] at hs
      rename_i b hx; subst hs; exact q_not hf ho hx
  case convert t u x =>
    split at hi
    · rename_i ht hu
      simp only [Option.some.injEq] at hi
      subst hi
      simp only [qv] at hs
      split at hs <;> simp only [Option.some.injEq, reduceCtorEq] at hs
      rename_i k m hx; subst hs; exact q_cvt hf ho ht hu hx
    · rename_i e ht hu
      split at hi <;> simp only [Option.some.injEq, reduceCtorEq] at hi
      rename_i k hz; subst hi; exact q_cu hf hr0 ho ht hu hz hs hc
    · rename_i e ht hu
      split at hi
      · rename_i k hz
        split at hi <;> simp only [Option.some.injEq, reduceCtorEq] at hi
        rename_i hl; subst hi; exact q_c4u hf hr0 ho ht hu hz hl hs hc
      · cases hi
    · rename_i e ht hu
      split at hi <;> simp only [Option.some.injEq, reduceCtorEq] at hi
      rename_i he; subst hi; exact q_b2s hf hr0 ho ht he hu hs hc
    · cases hi
  case fieldAddr t x f =>
    split at hi
    · rename_i fs ht
      split at hi
      · rename_i fd hfd
        split at hi <;> simp only [Option.some.injEq, reduceCtorEq] at hi
        rename_i k hk; subst hi; exact q_fa hf hr0 ho ht hfd hk hs hc
      · cases hi
    · cases hi
  case field t x f =>
    split at hi
    · rename_i fs ht
      split at hi
      · rename_i fd hfd
        split at hi <;> simp only [Option.some.injEq, reduceCtorEq] at hi
        · rename_i n hk hz; subst hi; exact q_fldn hf ho ht hfd hk hz hs
        · rename_i hk hz; subst hi; exact q_fld1 hf ho ht hfd hk hs
      · cases hi
    · cases hi
  case extract x j =>
    subst hi
    simp only [qv] at hs
    split at hs
    · rename_i l hx; simp only [Option.map_eq_some_iff] at hs; obtain ⟨y, hy, rfl⟩ := hs; exact q_ex hf ho hx hy
    · cases hs
  case nilCheck x => subst hi; exact q_nc hf hr0 ho hs hc
  case build t parts =>
    split at hi
    · rename_i fs i ht hi'
      split at hi
      · rename_i z pl hz hp
        simp only [Option.map_eq_some_iff] at hi
        obtain ⟨l, hl, rfl⟩ := hi
        exact q_bd hf ho ht hi' hz hp hl hs hc
      · cases hi
    · cases hi
  case slice t x lo hi' mx =>
    split at hi
    · rename_i ht
      simp only [Option.some.injEq] at hi
      subst hi
      exact q_ss hf ho ht hs hc
    · rename_i e ht
      split at hi <;> simp only [Option.some.injEq, reduceCtorEq] at hi
      rename_i n hz
      subst hi
      exact q_sf hf ho ht hz hs hc
    · cases hi
  case call c =>
    obtain ⟨cl, args, ats⟩ := c
    simp only [trCallQ] at hi
    split at hi
    · rename_i x t ha hat
      obtain rfl : args = #[x] := by rw [← Array.toArray_toList (xs := args), ha]
      obtain rfl : ats = #[t] := by rw [← Array.toArray_toList (xs := ats), hat]
      split at hi <;> simp only [Option.some.injEq, reduceCtorEq] at hi
      · rename_i ht; subst hi; exact q_lnS hf ho ht hs
      · rename_i e ht; subst hi; exact q_lnL hf hr0 ho ht hs hc
    · rename_i x t ha hat
      obtain rfl : args = #[x] := by rw [← Array.toArray_toList (xs := args), ha]
      obtain rfl : ats = #[t] := by rw [← Array.toArray_toList (xs := ats), hat]
      split at hi <;> simp only [Option.some.injEq, reduceCtorEq] at hi
      rename_i e ht; subst hi; exact q_usd hf hr0 ho ht hs hc
    · rename_i f x t ha hat
      obtain rfl : args = #[x] := by rw [← Array.toArray_toList (xs := args), ha]
      obtain rfl : ats = #[t] := by rw [← Array.toArray_toList (xs := ats), hat]
      split at hi
      · rename_i fn hfn
        split at hi <;> simp only [Option.some.injEq, reduceCtorEq] at hi
        rename_i hc3
        simp only [Bool.and_eq_true, beq_iff_eq] at hc3
        subst hi
        simp only [qv, Option.some.injEq] at hs
        subst hs
        exact q_ne hf ho hfn hc3.1.1 hc3.1.2 hc3.2
      · cases hi
    · cases hi

theorem x_sound (hf : FRel N (gm E) ro fr a) {x y : O} (hi : trX P o.op = some (x, y)) {l : ByteArray} {k : IntKind} {n : Int} (hx : ev fr x = tS l) (hy : ev fr y = iS k n) (hc : 0 ≤ n ∧ n < (bl l).length) :
    ∃ c : UInt8, (bl l)[n.toNat]? = some c ∧ QOk P o E ro a (iS .u8 c.toNat) := by
  unfold trX at hi
  split at hi
  · rename_i t x' i' ho
    split at hi <;> simp only [Option.some.injEq, Prod.mk.injEq, reduceCtorEq] at hi
    rename_i ht
    obtain ⟨rfl, rfl⟩ := hi
    have h1 := ev_rel hf x'; have h2 := ev_rel hf i'
    rw [hx] at h1; rw [hy] at h2
    have h1' : a.eval x' = .string l := h1
    have h2' : a.eval i' = .int k n := h2
    have hlt : n.toNat < l.size := by rw [size_bl]; omega
    have hlt2 : n.toNat < (bl l).length := by omega
    have hg : l[n.toNat]? = some (bl l)[n.toNat] := by rw [getElem?_pos l n.toNat hlt]; rfl
    refine ⟨(bl l)[n.toNat], List.getElem?_eq_getElem hlt2, _, rfl, fun X w _ => ?_⟩
    simp [execOp, ho, h1', h2', Instr.index, asIntOf, underlying, ht, hc.1, hg]
  · cases hi

/-! ### Looking into memory -/
theorem fz_row {xs : List (List C)} {v : Value} (h : FzR ro xs v) {i sz : Nat} {r : List C} (hr : xs[i]? = some r) (hz : r.length = sz) :
    ∃ b off cap, v = .slice (some ⟨b, off, none⟩) xs.length cap ∧ ∀ k c, r[k]? = some c → ∃ u, ro b (off + i * sz + k) = some u ∧ c.fv ro u := by
  obtain ⟨_, sz', ob, cap, vs, k1, k2, k3, k4, k5, k6, k7⟩ := h
  have hi : i < xs.length := (List.getElem?_eq_some_iff.1 hr).1
  have hob := k3 (fun e => by subst e; simp at hi)
  have hmem := List.mem_of_getElem? hr
  have hs : sz' = sz := by rw [← k1 r hmem, hz]
  subst hs
  cases ob with
  | none => simp at hob
  | some y =>
    refine ⟨y.1, y.2, _, rfl, fun k c hk => ?_⟩
    have hklt : k < sz' := by rw [← hz]; exact (List.getElem?_eq_some_iff.1 hk).1
    have hfl : xs.flatten[i * sz' + k]? = some c := by rw [flat_get k1 hi hklt, hr]; exact hk
    refine ⟨vs (i * sz' + k), by have := k4 _ c hfl; simpa [Nat.add_assoc] using this, ?_⟩
    have hsh := k7 c (List.mem_of_getElem? hfl)
    cases c with
    | vl u => exact k5 _ u hfl
    | fz ys => exact k6 _ ys hfl
    | _ => simp [C.shut] at hsh

theorem l_ia (hf : FRel N (gm E) ro fr a) (hr0 : Rel X0 E ro w0) {t e : TypeId} {x i : Operand} {n : Nat} (ho : o.op = .indexAddr t x i) (ht : P.underlying t = some (.slice e)) (hz : szT P e = some n) {K : S → Prop}
    (hv : vL fr (hp E) (.ia n (trO x) (trO i)) K) : ∃ s, K s ∧ QOk P o E ro a s := by
  have h1 := ev_rel hf x; have h2 := ev_rel hf i
  simp only [vL] at hv
  split at hv
  · rename_i nm len k m hex hei
    rw [hex] at h1; rw [hei] at h2
    obtain ⟨⟨⟨c0, c1⟩, c2⟩, hK⟩ := hv
    refine ⟨_, hK, ?_⟩
    have h2' : a.eval i = .int k m := h2
    obtain ⟨g, h3, h4, h5, h6, h7⟩ := h1
    unfold rowAt at c2
    split at c2
    · rename_i xs T sz' hH
      obtain ⟨hl, rfl⟩ := c2
      obtain ⟨g', hE⟩ := hp_inv hH
      obtain ⟨_, hl2, _, _, hown, _⟩ := hr0.own nm g' _ hE
      have : g = g' := by have := gm_get hE; rw [h3] at this; exact (Option.some.inj this)
      subst this
      have h1' := h7 (by omega)
      rcases hown.2 with ⟨_, h0⟩ | ⟨b, cap'', cur, hv', _⟩
      · omega
      · have hob : g.ob = some b := by
          cases hg : g.ob with
          | none => rw [hg] at hv'; simp [obA] at hv'
          | some b' => rw [hg] at hv'; simp [obA] at hv'; simp [hv'.1]
        rw [hob] at h1'
        refine ⟨.pointer (some ⟨b, m.toNat * sz' + 0, none⟩), ⟨g, h3, h4, h5, ⟨_, rfl⟩, fun _ => ⟨b, hob, rfl⟩⟩, fun X w _ => ?_⟩
        simp [execOp, ho, h1', h2', Instr.indexAt, asIntOf, underlying, ht, c0, c1, run_sizeT hz, obA, addr_add0]
    · exact c2.elim
  · rename_i xs k m hex hei
    rw [hex] at h1; rw [hei] at h2
    obtain ⟨⟨⟨c0, c1⟩, c2⟩, hK⟩ := hv
    have h2' : a.eval i = .int k m := h2
    have h1' : FzR ro xs (a.eval x) := h1
    have hlt : m.toNat < xs.length := by omega
    have hr := List.getElem?_eq_getElem hlt
    refine ⟨_, hK _ hr, ?_⟩
    obtain ⟨b, off, cap, h3, h4⟩ := fz_row h1' hr (c2 _ hr)
    refine ⟨.pointer (some ⟨b, off + m.toNat * n + 0, none⟩), ⟨b, off + m.toNat * n, rfl, h4⟩, fun X w _ => ?_⟩
    simp [execOp, ho, h3, h2', Instr.indexAt, asIntOf, underlying, ht, c0, c1, run_sizeT hz, addr_add0]
  · exact hv.elim

/-- The cells behind a pointer, all at once. -/
theorem ptr_cells (hr0 : Rel X0 E ro w0) {n len sz i j b : Nat} {g : Gb} {xs : List (List C)} {T : TypeId} (hE : E[n]? = some (g, .row xs T sz)) (hb : g.ob = some b) {r : List C} (hr : xs[i]? = some r) :
    ∀ k c, r[k]? = some c → ∃ u, c.rel (gm E) ro u ∧ g.vs[i * sz + k]? = some u ∧ ∀ X w, Rel X E ro w → w.cell? ⟨b, i * sz + k, none⟩ = some u := by
  intro k c hk
  obtain ⟨_, hl2, hx1, hsh, hown, hrel, _⟩ := hr0.own n g _ hE
  have hi : i < xs.length := (List.getElem?_eq_some_iff.1 hr).1
  have hkl : k < sz := by rw [← hx1 r (List.mem_of_getElem? hr)]; exact (List.getElem?_eq_some_iff.1 hk).1
  have hfl : xs.flatten[i * sz + k]? = some c := by rw [flat_get hx1 hi hkl, hr]; exact hk
  obtain ⟨u, hu1, hu2⟩ := hrel.get hfl
  refine ⟨u, (C.rel_shut (hsh c (List.mem_of_getElem? hfl))).2 hu2, hu1, fun X w hr => ?_⟩
  obtain ⟨_, _, _, _, hown', _, _⟩ := hr.own n g _ hE
  rw [hb] at hown'
  have := World.ownsRow.cells (h := hown') (g := b) rfl (i * sz + k) u hu1
  rwa [addr_add0, Nat.zero_add] at this

theorem l_ld1 (hf : FRel N (gm E) ro fr a) (hr0 : Rel X0 E ro w0) {t : TypeId} {x : Operand} (ho : o.op = .load t x) (ht : aggT P t = some false) {K : S → Prop} (hv : vL fr (hp E) (.ld1 (trO x)) K) : ∃ s, K s ∧ QOk P o E ro a s := by
  have h1 := ev_rel hf x
  have key : ∀ {b q : Nat} {u : Value} {c : C}, a.eval x = .pointer (some ⟨b, q, none⟩) → c.rel (gm E) ro u → (∀ X w, Rel X E ro w → w.cell? ⟨b, q, none⟩ = some u) → QOk P o E ro a (.va (.c1 c)) := fun {b q u c} h hc hw => by
    refine ⟨u, hc, fun X w hr => ?_⟩
    simp [execOp, ho, h, Instr.loadAt, Instr.sureAddr, loadVar, run_isAggT ht, hw X w hr]
  simp only [vL] at hv
  split at hv
  · rename_i n off hex
    rw [hex] at h1
    split at hv <;> try exact hv.elim
    rename_i cs T hH
    split at hv <;> try exact hv.elim
    rename_i c hc
    refine ⟨_, hv, ?_⟩
    obtain ⟨g, hE⟩ := hp_inv hH
    obtain ⟨_, b, hb, hh, hrel⟩ := hr0.own n g _ hE
    obtain ⟨g', b', k1, k2, k3, k4⟩ := h1
    have : g' = g := by have := gm_get hE; rw [k1] at this; exact (Option.some.inj this)
    subst this
    rw [hb] at k3
    simp only [Option.some.injEq] at k3
    subst k3
    obtain ⟨u, hu1, hu2⟩ := hrel.get hc
    refine key k4 hu2 fun X w hr => ?_
    obtain ⟨_, b2, hb2, hh2, _⟩ := hr.own n g' _ hE
    rw [hb] at hb2
    simp only [Option.some.injEq] at hb2
    subst hb2
    simp [World.cell?, hh2, hu1]
  · rename_i n len sz i j hex
    rw [hex] at h1
    split at hv <;> try exact hv.elim
    rename_i xs T sz' hH
    obtain ⟨⟨c0, rfl, c2⟩, hK⟩ := hv
    obtain ⟨g, b, xs', T', hE, hl, hb, hv'⟩ := qt_cur hr0 h1 (by unfold rowAt; rw [hH]; exact ⟨c0, rfl⟩)
    have hH2 := hp_get hE
    rw [hH] at hH2
    simp only [Option.some.injEq, B.row.injEq, and_true] at hH2
    obtain ⟨rfl, rfl⟩ := hH2
    have hr := List.getElem?_eq_getElem c2
    have hK := hK _ hr
    split at hK <;> try exact hK.elim
    rename_i c hc
    refine ⟨_, hK, ?_⟩
    obtain ⟨u, hu1, hu2, hu3⟩ := ptr_cells (len := len) (j := j) hr0 hE hb hr j c hc
    exact key hv' hu1 hu3
  · rename_i r j hex
    rw [hex] at h1
    split at hv <;> try exact hv.elim
    rename_i c hc
    refine ⟨_, hv, ?_⟩
    obtain ⟨b, off, k1, k2⟩ := h1
    obtain ⟨u, hu1, hu2⟩ := k2 j c hc
    have hsh : c.shut = true := by cases c <;> first | rfl | exact hu2.elim
    exact key k1 ((C.rel_shut hsh).2 hu2) fun X w hr => hr.rd _ _ _ hu1
  · exact hv.elim

theorem l_ldn (hf : FRel N (gm E) ro fr a) (hr0 : Rel X0 E ro w0) {t : TypeId} {x : Operand} (ho : o.op = .load t x) (ht : aggT P t = some true) {n : Nat} (hz : szT P t = some n) {K : S → Prop} (hv : vL fr (hp E) (.ldn n (trO x)) K) : ∃ s, K s ∧ QOk P o E ro a s := by
  have h1 := ev_rel hf x
  have key : ∀ {b q : Nat} {cs : List C}, cs.length = n → a.eval x = .pointer (some ⟨b, q, none⟩) → (∀ k c, cs[k]? = some c → ∃ u, c.rel (gm E) ro u ∧ ∀ X w, Rel X E ro w → w.cell? ⟨b, q + k, none⟩ = some u) → QOk P o E ro a (.va (.gs cs)) := fun {b q cs} hl h hc => by
    have : ∃ us : List Value, us.length = n ∧ ∀ k c u, cs[k]? = some c → us[k]? = some u → c.rel (gm E) ro u ∧ ∀ X w, Rel X E ro w → w.cell? ⟨b, q + k, none⟩ = some u := by
      subst hl
      clear h ho ht hz hv h1
      induction cs generalizing q with
      | nil => exact ⟨[], rfl, fun k c u h => by simp at h⟩
      | cons c cs ih =>
        obtain ⟨u, hu1, hu2⟩ := hc 0 c rfl
        obtain ⟨us, hus, hus2⟩ := ih (q := q + 1) (fun k c' hk => by
          obtain ⟨u', h1, h2⟩ := hc (k + 1) c' (by simpa using hk)
          exact ⟨u', h1, fun X w hr => by have := h2 X w hr; rwa [show q + (k + 1) = q + 1 + k by omega] at this⟩)
        refine ⟨u :: us, by simp [hus], fun k c' u' h1 h2 => ?_⟩
        cases k with
        | zero => simp at h1 h2; subst h1; subst h2; exact ⟨hu1, hu2⟩
        | succ k =>
          obtain ⟨q1, q2⟩ := hus2 k c' u' (by simpa using h1) (by simpa using h2)
          exact ⟨q1, fun X w hr => by have := q2 X w hr; rwa [show q + 1 + k = q + (k + 1) by omega] at this⟩
    obtain ⟨us, hus, hus2⟩ := this
    refine ⟨.agg us.toArray, ⟨us, rfl, by omega, fun k c u h1 h2 => (hus2 k c u h1 h2).1⟩, fun X w hr => ?_⟩
    have hload : (loadCells ⟨b, q, none⟩ n).run P w = .ok us.toArray w := by
      have := run_loadCells_list (P := P) w ⟨b, q, none⟩ us (fun j v hv => by
        have hj : j < cs.length := by rw [hl, ← hus]; exact (List.getElem?_eq_some_iff.1 hv).1
        rw [addr_add0]
        exact (hus2 j _ v (List.getElem?_eq_getElem hj) hv).2 X w hr)
      rwa [hus] at this
    simp [execOp, ho, h, Instr.loadAt, Instr.sureAddr, loadVar, run_isAggT ht, run_sizeT hz, hload]
  have sub : ∀ {cs : List C} {off : Nat}, off + n ≤ cs.length → ((cs.drop off).take n).length = n ∧ ∀ k c, ((cs.drop off).take n)[k]? = some c → cs[off + k]? = some c := fun {cs off} hle => by
    refine ⟨by simp; omega, fun k c hk => ?_⟩
    rw [List.getElem?_take] at hk
    split at hk
    · rwa [List.getElem?_drop] at hk
    · cases hk
  simp only [vL] at hv
  split at hv
  · rename_i m off hex
    rw [hex] at h1
    split at hv <;> try exact hv.elim
    rename_i cs T hH
    obtain ⟨hle, hK⟩ := hv
    refine ⟨_, hK, ?_⟩
    obtain ⟨g, hE⟩ := hp_inv hH
    obtain ⟨_, b, hb, hh, hrel⟩ := hr0.own m g _ hE
    obtain ⟨g', b', k1, k2, k3, k4⟩ := h1
    have : g' = g := by have := gm_get hE; rw [k1] at this; exact (Option.some.inj this)
    subst this
    rw [hb] at k3
    simp only [Option.some.injEq] at k3
    subst k3
    obtain ⟨s1, s2⟩ := sub hle
    refine key s1 k4 fun k c hk => ?_
    obtain ⟨u, hu1, hu2⟩ := hrel.get (s2 k c hk)
    refine ⟨u, hu2, fun X w hr => ?_⟩
    obtain ⟨_, b2, hb2, hh2, _⟩ := hr.own m g' _ hE
    rw [hb] at hb2
    simp only [Option.some.injEq] at hb2
    subst hb2
    simp [World.cell?, hh2, hu1]
  · rename_i m len sz i j hex
    rw [hex] at h1
    split at hv <;> try exact hv.elim
    rename_i xs T sz' hH
    obtain ⟨⟨c0, rfl, c2⟩, hK⟩ := hv
    obtain ⟨g, b, xs', T', hE, hl, hb, hv'⟩ := qt_cur hr0 h1 (by unfold rowAt; rw [hH]; exact ⟨c0, rfl⟩)
    have hH2 := hp_get hE
    rw [hH] at hH2
    simp only [Option.some.injEq, B.row.injEq, and_true] at hH2
    obtain ⟨rfl, rfl⟩ := hH2
    have hr := List.getElem?_eq_getElem c2
    obtain ⟨hle, hK⟩ := hK _ hr
    refine ⟨_, hK, ?_⟩
    obtain ⟨s1, s2⟩ := sub hle
    refine key s1 hv' fun k c hk => ?_
    obtain ⟨u, hu1, hu2, hu3⟩ := ptr_cells (len := len) (j := j) hr0 hE hb hr (j + k) c (s2 k c hk)
    exact ⟨u, hu1, fun X w hr => by have := hu3 X w hr; rwa [← Nat.add_assoc] at this⟩
  · rename_i r j hex
    rw [hex] at h1
    obtain ⟨hle, hK⟩ := hv
    refine ⟨_, hK, ?_⟩
    obtain ⟨b, off, k1, k2⟩ := h1
    obtain ⟨s1, s2⟩ := sub hle
    refine key s1 k1 fun k c hk => ?_
    obtain ⟨u, hu1, hu2⟩ := k2 (j + k) c (s2 k c hk)
    have hsh : c.shut = true := by cases c <;> first | rfl | exact hu2.elim
    exact ⟨u, (C.rel_shut hsh).2 hu2, fun X w hr => by have := hr.rd _ _ _ hu1; rwa [← Nat.add_assoc] at this⟩
  · exact hv.elim

/-- EVERY INSTRUCTION THAT LOOKS INTO MEMORY. -/
theorem l_sound (hf : FRel N (gm E) ro fr a) (hr0 : Rel X0 E ro w0) {i : LI} (hi : trL P o.op = some i) {K : S → Prop} (hv : vL fr (hp E) i K) : ∃ s, K s ∧ QOk P o E ro a s := by
  cases ho : o.op <;> rw [ho] at hi <;> simp only [trL, reduceCtorEq] at hi
  case load t x =>
    split at hi <;> simp only [Option.some.injEq, reduceCtorEq] at hi
    · rename_i n ht hn; subst hi; exact l_ldn hf hr0 ho ht hn hv
    · rename_i n ht hn; subst hi; exact l_ld1 hf hr0 ho ht hv
  case indexAddr t x y =>
    split at hi
    · rename_i e ht
      split at hi <;> simp only [Option.some.injEq, reduceCtorEq] at hi
      rename_i n hn; subst hi; exact l_ia hf hr0 ho ht hn hv
    · cases hi
end
end Go.W
