/- Arguments as frozen memory; what was handed over reads as before. -/
import Derived.Test.YtngmjggconefcaaW16
import Derived.ChangeStays
import Derived.Deep.Slices
import Derived.JoinedCond
namespace Go.W
open Go.RowKit
/-- All that stands in memory, as frozen memory. -/
def roW (W : World) : RO := fun b off => W.cell? ⟨b, off, none⟩
theorem roW_ok (W : World) : ∀ (b off : Nat) (v : Value), roW W b off = some v → W.cell? ⟨b, off, none⟩ = some v := fun _ _ _ h => h
theorem fz_nil (ro : RO) : FzR ro [] (.slice none 0 0) :=
  FzR.mk [] 1 none 0 (fun _ => .bool true) (by simp) (by simp) (by simp) (by simp) (by simp) (by simp) (by simp)
/-- A slice of rows of plain cells that stands in memory. -/
theorem fz_rows {W : World} {b off len cap sz : Nat} (hsz : 0 < sz) (R : Nat → List Value) (hl : ∀ i, i < len → (R i).length = sz) (hc : len ≤ cap)
    (h : ∀ i, i < len → ∀ j, j < sz → W.cell? ⟨b, off + (i * sz + j), none⟩ = (R i)[j]?) :
    FzR (roW W) ((List.range len).map fun i => (R i).map C.vl) (.slice (some ⟨b, off, none⟩) len cap) := by
  let xs : List (List C) := (List.range len).map fun i => (R i).map C.vl
  have hz : ∀ x ∈ xs, x.length = sz := fun x hx => by
    obtain ⟨i, hi, rfl⟩ := List.mem_map.1 hx
    rw [List.length_map]; exact hl i (List.mem_range.1 hi)
  have hfl : ∀ k c, xs.flatten[k]? = some c → ∃ v, c = .vl v ∧ W.cell? ⟨b, off + k, none⟩ = some v := fun k c hk => by
    have hkl : k < len * sz := by
      have h1 := (List.getElem?_eq_some_iff.1 hk).1
      rw [flat_len _ hz] at h1
      simpa [xs] using h1
    have hi : k / sz < len := (Nat.div_lt_iff_lt_mul hsz).2 hkl
    have hj := Nat.mod_lt k hsz
    have hg := flat_get hz (i := k / sz) (j := k % sz) (by simpa [xs] using hi) hj
    rw [Nat.mul_comm, Nat.div_add_mod, hk] at hg
    have hxi : xs[k / sz]? = some ((R (k / sz)).map C.vl) := by simp [xs, hi]
    rw [hxi, Option.bind_some, List.getElem?_map] at hg
    obtain ⟨v, hv, hcv⟩ := Option.map_eq_some_iff.1 hg.symm
    have := h (k / sz) hi (k % sz) hj
    rw [Nat.mul_comm, Nat.div_add_mod, hv] at this
    exact ⟨v, hcv.symm, this⟩
  have hr := FzR.mk (ro := roW W) xs sz (some (b, off)) cap (fun k => (W.cell? ⟨b, off + k, none⟩).getD undef) hz (by simpa [xs] using hc) (fun _ => rfl)
    (fun k c hk => by
      obtain ⟨v, _, h2⟩ := hfl k c hk
      simp [roW, h2])
    (fun k v hk => by
      obtain ⟨u, h1, h2⟩ := hfl k _ hk
      cases h1
      simp [h2])
    (fun k ys hk => by obtain ⟨u, h1, _⟩ := hfl k _ hk; cases h1)
    (fun c hc => by
      obtain ⟨k, hk⟩ := List.mem_iff_getElem?.1 hc
      obtain ⟨u, rfl, _⟩ := hfl k c hk
      rfl)
  simpa [roA, xs] using hr
/-- A slice argument of plain rows: 'row': an element's cells; 'Q': what an element's reading says. -/
theorem open_rows {H : Type} {enc : TypeId × Value → H} {P : Program} {W : World} {t e : TypeId} {fuel sz : Nat} {v : Value} {x : DataW H × List MemPlace} {r : Reach} {b0 : Nat} {α : Type} (row : α → List Value) (Q : DataW H → α → Prop)
    (ht : P.underlying t = some (.slice e)) (hce : P.cellsOf e = sz) (hpos : 0 < sz)
    (hel : ∀ n cs y, DataW.trod enc P W 0 (fun _ => true) true n e cs = some y → ∃ a, cs = row a ∧ Q y.1 a)
    (hx : DataW.trod enc P W 0 (fun _ => true) true fuel t v.cells.toList = some x) (hval : Value.okWide P W r b0 t v) :
    (v = .slice none 0 0 ∧ x.1 = .nil) ∨ ∃ (xs : List α) (els spr : List (DataW H)), x.1 = .slice els spr ∧ FzR (roW W) (xs.map fun a => (row a).map C.vl) v ∧ xs.length = els.length ∧
      ∀ (i : Nat) (a : α), xs[i]? = some a → ∃ d, els[i]? = some d ∧ Q d a := by
  obtain ⟨oa, l, c, rfl⟩ := Go.WideShapes.okWide_slice ht hval
  have hcs : (Value.slice oa l c).cells.toList = [.slice oa l c] := rfl
  rw [hcs] at hx
  rcases Go.Deep.open_slice ht hx with ⟨h1, rfl⟩ | ⟨a, len, cap, m, n, D, Pl, h1, _, hl, hm, hmm, rfl, hi⟩
  · cases h1
    exact .inl ⟨rfl, rfl⟩
  · right
    cases h1
    have hsp : a.spot = none := by
      simp [Value.okWide, Cell.okWide, Cell.ok, World.has, ht] at hval
      exact hval.2.2.2.1
    obtain ⟨b, off, spot⟩ := a
    obtain rfl : spot = none := hsp
    have hlm : l ≤ m := by rw [hmm]; split <;> omega
    have hall : ∀ i, i < l → ∃ a : α, (∀ j, j < sz → W.cell? ⟨b, off + (i * sz + j), none⟩ = (row a)[j]?) ∧ (row a).length = sz ∧ Q (D i) a := fun i hil => by
      obtain ⟨cs', h2, h3⟩ := hi i (by omega)
      obtain ⟨a, rfl, hq⟩ := hel _ _ _ h3
      rw [hce] at h2
      obtain ⟨_, h4, h5⟩ := World.cells?_some h2
      refine ⟨a, fun j hj => ?_, h4, hq⟩
      rw [← h5 j hj, Go.WideShapes.add_plain, Go.WideShapes.add_plain, Nat.add_assoc]
    by_cases h0 : l = 0
    · subst h0
      exact ⟨[], [], _, rfl, fz_rows hpos (fun _ => []) (fun i hi => by omega) (Nat.zero_le _) (fun i hi => by omega), rfl, fun i a h => by simp at h⟩
    · obtain ⟨a0, _⟩ := hall 0 (by omega)
      haveI : Inhabited α := ⟨a0⟩
      obtain ⟨A, hA⟩ := Go.Deep.choose_lt (p := fun i (a : α) => (∀ j, j < sz → W.cell? ⟨b, off + (i * sz + j), none⟩ = (row a)[j]?) ∧ (row a).length = sz ∧ Q (D i) a) hall
      refine ⟨(List.range l).map A, (List.range l).map D, _, rfl, ?_, by simp, fun i a h => ?_⟩
      · rw [List.map_map]
        exact fz_rows hpos (fun i => row (A i)) (fun i hi => (hA i hi).2.1) hl (fun i hi => (hA i hi).1)
      · have hil := (List.getElem?_eq_some_iff.1 h).1
        rw [List.length_map, List.length_range] at hil
        rw [List.getElem?_map, List.getElem?_range hil] at h
        cases h
        exact ⟨D i, by rw [List.getElem?_map, List.getElem?_range hil]; rfl, (hA i hil).2.2⟩
/-- Every slice's elements take room. -/
def slicesRoom (P : Program) : Bool := (List.range P.types.size).all fun t => match P.underlying t with | some (.slice e) => decide (0 < P.cellsOf e) | _ => true
section
variable {H : Type} {enc : TypeId × Value → H} {P : Program}
theorem stay_same {W W' : World} (h : Stay W W') {p : MemPlace} (hp : p.block < W.heap.size) : W.sameAt W' p := by
  cases p with
  | cell b off => exact h.cell (a := ⟨b, off, none⟩) hp
  | map b => exact h.keep b hp
theorem trodAll_stay {W W' : World} {sp : Nat → Bool} (hl : laidOutB P = true) (hm : mapsRowed P = true) (hs : slicesRoom P = true) (hst : Stay W W') :
    ∀ {ts : List TypeId} {vs : List Value} {ds : List (DataW H)} {ps : List MemPlace}, (∀ t ∈ ts, t < P.types.size) → DataW.TrodAll enc P W 0 (fun _ => true) true ts vs ds ps → (∀ p ∈ ps, p.block < W.heap.size) → (∀ p ∈ ps, sp p.block = true) →
      DataW.TrodAll enc P W' 0 sp true ts vs ds ps
  | [], [], [], ps, _, h, _, _ => h
  | t :: ts, v :: vs, d :: ds, ps, ht, h, hb, hp => by
    obtain ⟨p, q, ⟨n, h1⟩, h2, rfl⟩ := h
    have hsz : ∀ {t e : TypeId}, t < P.types.size → P.underlying t = some (.slice e) → 0 < P.cellsOf e := fun {t e} ht hu => by
      have := List.all_eq_true.1 hs t (List.mem_range.2 ht)
      rw [hu] at this
      simpa using this
    exact ⟨p, q, ⟨n, DataW.trod_stays (T := (· < P.types.size)) (kids_rows hl hm) hsz (fun h => by cases h) (ht t (by simp)) h1 (fun x hx => stay_same hst (hb x (by simp [hx]))) (fun x hx => hp x (by simp [hx]))⟩,
      trodAll_stay hl hm hs hst (fun u hu => ht u (by simp [hu])) h2 (fun x hx => hb x (by simp [hx])) (fun x hx => hp x (by simp [hx])), rfl⟩
  | [], _ :: _, _, _, _, h, _, _ => h.elim
  | [], [], _ :: _, _, _, h, _, _ => h.elim
  | _ :: _, [], _, _, _, h, _, _ => h.elim
  | _ :: _, _ :: _, [], _, _, h, _, _ => h.elim
/-- A law's call that returns true and leaves what stood: the row's after-state. -/
theorem law_post {f : Func} {s : ChangeSpec} {apart fresh handsOn again : Bool} {W W' : World} {args : Array Value} {ds gs : List (DataW H)} {before : List MemPlace} {tb : TypeId}
    (hl : laidOutB P = true) (hm : mapsRowed P = true) (hsr : slicesRoom P = true) (hps : ∀ t ∈ f.params.toList, t < P.types.size) (hrt : f.resultTypes = #[tb]) (htb : P.underlying tb = some .bool)
    (hvars : s.vars = []) (hW : DataW.Whole enc P f.params.toList s.vars apart W args.toList ds gs before) (hfn : s.fn H (ds ++ gs) = { results := [.lit (.bool true)], args := ds, vars := [] }) (hst : Stay W W') :
    s.post enc P f apart fresh handsOn again W args (.bool true) W' := by
  have hlt : ∀ p ∈ before, p.block < W.heap.size := fun p hp => hW.lt p hp
  obtain ⟨p, q, hA, hV, hb, _, _⟩ := id hW
  have hq : q = [] := by
    rw [hvars] at hV
    cases gs with
    | nil => exact hV
    | cons g gs => exact hV.elim
  subst hq
  have hbp : before = p := by rw [hb]; simp
  refine post_of_stay (pa := p) (pv := []) hW (fun b sp hd => ?_) (fun sp hsp => ?_) (fun sp hsp => ?_) hb hst ?_
  · rw [hrt, hfn]
    exact ⟨[], [], ⟨1, by simp [DataW.trod, Value.cells, htb]⟩, rfl, rfl⟩
  · rw [hfn]
    rw [hbp] at hlt hsp
    exact trodAll_stay hl hm hsr hst hps hA hlt hsp
  · rw [hfn, hvars]; rfl
  · intro j t r h1 h2
    rw [hrt] at h1 h2
    match j with
    | 0 =>
      cases h1
      cases h2
      simp [Value.okWide, Cell.okWide, Cell.ok, htb]
    | j + 1 => cases h1
end
end Go.W
