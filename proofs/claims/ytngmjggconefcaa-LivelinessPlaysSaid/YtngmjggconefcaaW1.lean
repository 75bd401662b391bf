/- The W library, part 1: abstract values without addresses, own blocks, frozen memory, and what they say of a world. No program. -/
import Derived.WalkKit
namespace Go.W

/-- A cell's worth of value. no: nothing known · vl: a plain value · pt: pointer into an own block of cells · sl: an own row as a slice (as it stands, if the length is the row's)
  qt: pointer to cell j of element i of an own row · fz: a slice of frozen memory, by its elements · fp: pointer to cell j of a frozen element
  fn: a function, with pointers to own blocks for its captured variables -/
inductive C where
  | no
  | vl (v : Value)
  | pt (n off : Nat)
  | sl (n len : Nat)
  | qt (n len sz i j : Nat)
  | fz (xs : List (List C))
  | fp (r : List C) (j : Nat)
  | fn (f : FuncId) (ns : List Nat)
  | dp (n len : Nat)

/-- Two lists, place by place. -/
def All2 {α β : Type} (R : α → β → Prop) (l : List α) (m : List β) : Prop := l.length = m.length ∧ ∀ (i : Nat) (x : α) (y : β), l[i]? = some x → m[i]? = some y → R x y
section
variable {α β : Type} {R : α → β → Prop}
theorem All2.nil : All2 R [] [] := ⟨rfl, fun i x y h => by simp at h⟩
theorem All2.cons {x : α} {y : β} {l : List α} {m : List β} (h : R x y) (k : All2 R l m) : All2 R (x :: l) (y :: m) := by
  refine ⟨by simp [k.1], fun i a b ha hb => ?_⟩
  cases i with
  | zero => simp at ha hb; subst ha; subst hb; exact h
  | succ i => exact k.2 i a b (by simpa using ha) (by simpa using hb)
theorem All2.get {l : List α} {m : List β} (h : All2 R l m) {i : Nat} {x : α} (hx : l[i]? = some x) : ∃ y, m[i]? = some y ∧ R x y := by
  have hi : i < m.length := by rw [← h.1]; exact (List.getElem?_eq_some_iff.1 hx).1
  exact ⟨m[i], List.getElem?_eq_getElem hi, h.2 i x _ hx (List.getElem?_eq_getElem hi)⟩
theorem All2.get' {l : List α} {m : List β} (h : All2 R l m) {i : Nat} {y : β} (hy : m[i]? = some y) : ∃ x, l[i]? = some x ∧ R x y := by
  have hi : i < l.length := by rw [h.1]; exact (List.getElem?_eq_some_iff.1 hy).1
  exact ⟨l[i], List.getElem?_eq_getElem hi, h.2 i _ y (List.getElem?_eq_getElem hi) hy⟩
theorem All2.imp {S : α → β → Prop} (hi : ∀ x y, R x y → S x y) {l : List α} {m : List β} (h : All2 R l m) : All2 S l m := ⟨h.1, fun i x y hx hy => hi _ _ (h.2 i x y hx hy)⟩
theorem All2.map {γ : Type} {S : γ → β → Prop} {f : α → γ} (hi : ∀ x y, R x y → S (f x) y) {l : List α} {m : List β} (h : All2 R l m) : All2 S (l.map f) m := by
  refine ⟨by simp [h.1], fun i x y hx hy => ?_⟩
  rw [List.getElem?_map] at hx
  cases hl : l[i]? with
  | none => simp [hl] at hx
  | some z => simp [hl] at hx; subst hx; exact hi _ _ (h.2 i z y hl hy)
theorem All2.app {l l' : List α} {m m' : List β} (h : All2 R l m) (k : All2 R l' m') : All2 R (l ++ l') (m ++ m') := by
  refine ⟨by simp [h.1, k.1], fun i x y hx hy => ?_⟩
  rw [List.getElem?_append] at hx hy
  rw [← h.1] at hy
  split at hx
  · rename_i hlt; rw [if_pos hlt] at hy; exact h.2 i x y hx hy
  · rename_i hlt; rw [if_neg hlt] at hy; exact k.2 _ x y hx hy
theorem All2.take {l : List α} {m : List β} (h : All2 R l m) (k : Nat) : All2 R (l.take k) (m.take k) := by
  refine ⟨by simp [h.1], fun i x y hx hy => ?_⟩
  rw [List.getElem?_take] at hx hy
  split at hx
  · rename_i hlt; rw [if_pos hlt] at hy; exact h.2 i x y hx hy
  · cases hx
theorem All2.drop {l : List α} {m : List β} (h : All2 R l m) (k : Nat) : All2 R (l.drop k) (m.drop k) := by
  refine ⟨by simp [h.1], fun i x y hx hy => ?_⟩
  rw [List.getElem?_drop] at hx hy
  exact h.2 _ x y hx hy
theorem All2.nil_inv {m : List β} (h : All2 R [] m) : m = [] := List.eq_nil_of_length_eq_zero h.1.symm
theorem All2.cons_inv {x : α} {l : List α} {m : List β} (h : All2 R (x :: l) m) : ∃ y m', m = y :: m' ∧ R x y ∧ All2 R l m' := by
  cases m with
  | nil => have := h.1; simp at this
  | cons y m' => exact ⟨y, m', rfl, h.2 0 x y rfl rfl, by simpa using h.1, fun i a b ha hb => h.2 (i + 1) a b (by simpa using ha) (by simpa using hb)⟩
end

/-- The ghost of an own block: where it lies, whether it is a row, its length, its values. -/
structure Gb where
  ob : Option Nat
  row : Bool
  len : Nat
  cap : Nat
  T : TypeId
  vs : List Value

abbrev RO := Nat → Nat → Option Value
def roA (o : Option (Nat × Nat)) (k : Nat) : Option Addr := o.map fun x => ⟨x.1, x.2 + k, none⟩
def obA (o : Option Nat) (k : Nat) : Option Addr := o.map fun b => ⟨b, k, none⟩

/-- Frozen or plain. -/
def C.shut : C → Bool
  | .vl _ | .fz _ => true
  | _ => false

inductive FzR (ro : RO) : List (List C) → Value → Prop
  | mk (xs : List (List C)) (sz : Nat) (o : Option (Nat × Nat)) (cap : Nat) (vs : Nat → Value) (hz : ∀ x ∈ xs, x.length = sz) (hc : xs.length ≤ cap) (ho : xs ≠ [] → o.isSome = true)
      (h1 : ∀ k c, xs.flatten[k]? = some c → ro (o.getD (0, 0)).1 ((o.getD (0, 0)).2 + k) = some (vs k)) (h2 : ∀ k v, xs.flatten[k]? = some (.vl v) → vs k = v)
      (h3 : ∀ k ys, xs.flatten[k]? = some (.fz ys) → FzR ro ys (vs k)) (h4 : ∀ c ∈ xs.flatten, c.shut = true) : FzR ro xs (.slice (roA o 0) xs.length cap)

/-- A frozen cell's value. -/
def C.fv (ro : RO) : C → Value → Prop
  | .vl v, u => u = v
  | .fz xs, u => FzR ro xs u
  | _, _ => False

def C.rel (γ : List Gb) (ro : RO) : C → Value → Prop
  | .no, _ => True
  | .vl v, u => u = v
  | .pt n off, u => ∃ g b, γ[n]? = some g ∧ g.row = false ∧ g.ob = some b ∧ u = .pointer (some ⟨b, off, none⟩)
  | .sl n len, u => ∃ g, γ[n]? = some g ∧ g.row = true ∧ len ≤ g.len ∧ (∃ o m c, u = .slice o m c) ∧ (len = g.len → u = .slice (obA g.ob 0) len g.cap)
  | .qt n len sz i j, u => ∃ g, γ[n]? = some g ∧ g.row = true ∧ len ≤ g.len ∧ (∃ o, u = .pointer o) ∧ (len = g.len → ∃ b, g.ob = some b ∧ u = .pointer (some ⟨b, i * sz + j, none⟩))
  | .fz xs, u => FzR ro xs u
  | .fp r j, u => ∃ b off, u = .pointer (some ⟨b, off + j, none⟩) ∧ ∀ k c, r[k]? = some c → ∃ v, ro b (off + k) = some v ∧ c.fv ro v
  | .dp n len, u => ∃ g, γ[n]? = some g ∧ g.row = true ∧ len ≤ g.len ∧ (∃ o, u = .pointer o) ∧ (len = g.len → u = .pointer (obA g.ob 0))
  | .fn f ns, u => ∃ bs : List Nat, u = .func (.func f) #[] (bs.map fun b => Value.pointer (some ⟨b, 0, none⟩)).toArray ∧ All2 (fun n b => ∃ g : Gb, γ[n]? = some g ∧ g.row = false ∧ g.ob = some b) ns bs

theorem C.rel_shut {γ : List Gb} {ro : RO} {c : C} (h : c.shut = true) {v : Value} : c.rel γ ro v ↔ c.fv ro v := by
  cases c <;> simp [C.shut] at h <;> exact Iff.rfl

def Ext (ro ro' : RO) : Prop := ∀ b off v, ro b off = some v → ro' b off = some v
theorem Ext.refl (ro : RO) : Ext ro ro := fun _ _ _ h => h
theorem Ext.trans {a b c : RO} (h : Ext a b) (k : Ext b c) : Ext a c := fun _ _ _ e => k _ _ _ (h _ _ _ e)

/-- A ghost later: the same, or a longer row. -/
def Gb.le (g g' : Gb) : Prop := g'.row = g.row ∧ ((g'.ob = g.ob ∧ g'.len = g.len ∧ g'.cap = g.cap) ∨ (g.row = true ∧ g.len < g'.len))
theorem Gb.le_refl (g : Gb) : g.le g := ⟨rfl, .inl ⟨rfl, rfl, rfl⟩⟩
theorem Gb.le_trans {a b c : Gb} (h : a.le b) (k : b.le c) : a.le c := by
  obtain ⟨h1, h2⟩ := h; obtain ⟨k1, k2⟩ := k
  refine ⟨k1.trans h1, ?_⟩
  rcases h2 with ⟨p, q, r⟩ | ⟨p, q⟩ <;> rcases k2 with ⟨p', q', r'⟩ | ⟨p', q'⟩
  · exact .inl ⟨p'.trans p, q'.trans q, r'.trans r⟩
  · exact .inr ⟨by rw [← h1]; exact p', by omega⟩
  · exact .inr ⟨p, by omega⟩
  · exact .inr ⟨p, by omega⟩
def GExt (γ γ' : List Gb) : Prop := ∀ (n : Nat) (g : Gb), γ[n]? = some g → ∃ g', γ'[n]? = some g' ∧ g.le g'
theorem GExt.refl (γ : List Gb) : GExt γ γ := fun _ g h => ⟨g, h, g.le_refl⟩
theorem GExt.trans {a b c : List Gb} (h : GExt a b) (k : GExt b c) : GExt a c := fun n g e => by
  obtain ⟨g1, h1, h2⟩ := h n g e
  obtain ⟨g2, k1, k2⟩ := k n g1 h1
  exact ⟨g2, k1, Gb.le_trans h2 k2⟩

theorem FzR.mono {ro ro' : RO} (he : Ext ro ro') {xs : List (List C)} {v : Value} (h : FzR ro xs v) : FzR ro' xs v := by
  induction h with
  | mk xs sz o cap vs hz hc ho h1 h2 h3 h4 ih => exact .mk xs sz o cap vs hz hc ho (fun k c hk => he _ _ _ (h1 k c hk)) h2 ih h4
theorem C.fv_mono {ro ro' : RO} (he : Ext ro ro') {c : C} {v : Value} (h : c.fv ro v) : c.fv ro' v := by
  cases c <;> first | exact h | exact FzR.mono he h
theorem C.rel_mono {γ γ' : List Gb} {ro ro' : RO} (hg : GExt γ γ') (he : Ext ro ro') {c : C} {v : Value} (h : c.rel γ ro v) : c.rel γ' ro' v := by
  cases c with
  | no => trivial
  | vl u => exact h
  | pt n off =>
    obtain ⟨g, b, h1, h2, h3, h4⟩ := h
    obtain ⟨g', k1, k2, k3⟩ := hg n g h1
    rcases k3 with ⟨p, q, r⟩ | ⟨p, q⟩
    · exact ⟨g', b, k1, k2.trans h2, p.trans h3, h4⟩
    · rw [h2] at p; cases p
  | sl n len =>
    obtain ⟨g, h1, h2, h3, h4, h5⟩ := h
    obtain ⟨g', k1, k2, k3⟩ := hg n g h1
    refine ⟨g', k1, k2.trans h2, ?_, h4, ?_⟩
    · rcases k3 with ⟨p, q, r⟩ | ⟨p, q⟩ <;> omega
    · intro e
      rcases k3 with ⟨p, q, r⟩ | ⟨p, q⟩
      · rw [p, r]; exact h5 (e.trans q)
      · omega
  | qt n len sz i j =>
    obtain ⟨g, h1, h2, h3, h4, h5⟩ := h
    obtain ⟨g', k1, k2, k3⟩ := hg n g h1
    refine ⟨g', k1, k2.trans h2, ?_, h4, ?_⟩
    · rcases k3 with ⟨p, q, r⟩ | ⟨p, q⟩ <;> omega
    · intro e
      rcases k3 with ⟨p, q, r⟩ | ⟨p, q⟩
      · rw [p]; exact h5 (e.trans q)
      · omega
  | dp n len =>
    obtain ⟨g, h1, h2, h3, h4, h5⟩ := h
    obtain ⟨g', k1, k2, k3⟩ := hg n g h1
    refine ⟨g', k1, k2.trans h2, ?_, h4, ?_⟩
    · rcases k3 with ⟨p, q, r⟩ | ⟨p, q⟩ <;> omega
    · intro e
      rcases k3 with ⟨p, q, r⟩ | ⟨p, q⟩
      · rw [p]; exact h5 (e.trans q)
      · omega
  | fz xs => exact FzR.mono he h
  | fp r j =>
    obtain ⟨b, off, h1, h2⟩ := h
    exact ⟨b, off, h1, fun k c hk => by obtain ⟨v, p, q⟩ := h2 k c hk; exact ⟨v, he _ _ _ p, C.fv_mono he q⟩⟩
  | fn f ns =>
    obtain ⟨bs, h1, h2⟩ := h
    refine ⟨bs, h1, h2.imp fun n b ⟨g, k1, k2, k3⟩ => ?_⟩
    obtain ⟨g', l1, l2, l3⟩ := hg n g k1
    rcases l3 with ⟨p, q, r⟩ | ⟨p, q⟩
    · exact ⟨g', l1, l2.trans k2, p.trans k3⟩
    · rw [k2] at p; cases p

inductive A where
  | c1 (c : C)
  | gs (cs : List C)
def A.rel (γ : List Gb) (ro : RO) : A → Value → Prop
  | .c1 c, u => c.rel γ ro u
  | .gs cs, u => ∃ vs : List Value, u = .agg vs.toArray ∧ All2 (C.rel γ ro) cs vs
def A.ofV : Value → A
  | .agg cs => .gs (cs.toList.map C.vl)
  | v => .c1 (.vl v)
def A.cells : A → List C
  | .c1 c => [c]
  | .gs cs => cs

/-- A cell holds no struct and no tuple. -/
def C.one : C → Prop
  | .no => False
  | .vl v => v.oneCell' = true
  | _ => True
theorem FzR.slice {ro : RO} {xs : List (List C)} {v : Value} (h : FzR ro xs v) : ∃ o m c, v = .slice o m c := by cases h; exact ⟨_, _, _, rfl⟩
theorem C.one_rel {γ : List Gb} {ro : RO} {c : C} {v : Value} (h : c.one) (hr : c.rel γ ro v) : v.oneCell' = true := by
  cases c with
  | no => exact h.elim
  | vl u => have hr' : v = u := hr; subst hr'; exact h
  | pt n off => obtain ⟨g, b, _, _, _, rfl⟩ := hr; rfl
  | sl n len => obtain ⟨g, _, _, _, ⟨o, m, c, rfl⟩, _⟩ := hr; rfl
  | qt n len sz i j => obtain ⟨g, _, _, _, ⟨o, rfl⟩, _⟩ := hr; rfl
  | fz xs => obtain ⟨o, m, c, rfl⟩ := FzR.slice hr; rfl
  | fp r j => obtain ⟨b, off, rfl, _⟩ := hr; rfl
  | fn f ns => obtain ⟨bs, rfl, _⟩ := hr; rfl
  | dp n len => obtain ⟨g, _, _, _, ⟨o, rfl⟩, _⟩ := hr; rfl
def A.ok : A → Prop
  | .c1 c => c.one
  | .gs _ => True
/-- The value's cells are the cells' values. -/
theorem A.cells_rel {γ : List Gb} {ro : RO} {a : A} {v : Value} (hr : a.rel γ ro v) (h : a.ok) : All2 (C.rel γ ro) a.cells v.cells.toList := by
  cases a with
  | c1 c =>
    have h1 := C.one_rel h hr
    have : v.cells.toList = [v] := by cases v <;> simp_all [Value.cells, Value.oneCell']
    rw [this]
    exact .cons hr .nil
  | gs cs =>
    obtain ⟨vs, rfl, h1⟩ := hr
    simpa [A.cells, Value.cells] using h1

/-- What stands in a slot: a value, a tuple of values, a value if a guard held, or nothing known. -/
inductive S where
  | va (a : A)
  | tu (l : List A)
  | cn (g : Bool) (a : A)
  | un
def S.rel (γ : List Gb) (ro : RO) : S → Value → Prop
  | .va a, v => a.rel γ ro v
  | .tu l, v => ∃ vs : List Value, v = .tuple vs.toArray ∧ All2 (A.rel γ ro) l vs
  | .cn g a, v => (g = true → a.rel γ ro v) ∧ (g = false → v = undef)
  | .un, _ => True
def S.ofV : Value → S
  | .tuple vs => .tu (vs.toList.map A.ofV)
  | v => .va (.ofV v)

section
variable {γ γ' : List Gb} {ro ro' : RO}
theorem A.rel_mono (hg : GExt γ γ') (he : Ext ro ro') {a : A} {v : Value} (h : a.rel γ ro v) : a.rel γ' ro' v := by
  cases a with
  | c1 c => exact C.rel_mono hg he h
  | gs cs => obtain ⟨vs, h1, h2⟩ := h; exact ⟨vs, h1, h2.imp fun _ _ => C.rel_mono hg he⟩
theorem S.rel_mono (hg : GExt γ γ') (he : Ext ro ro') {s : S} {v : Value} (h : s.rel γ ro v) : s.rel γ' ro' v := by
  cases s with
  | va a => exact A.rel_mono hg he h
  | tu l => obtain ⟨vs, h1, h2⟩ := h; exact ⟨vs, h1, h2.imp fun _ _ => A.rel_mono hg he⟩
  | cn g a => exact ⟨fun e => A.rel_mono hg he (h.1 e), h.2⟩
  | un => trivial
theorem all2_vl (vs : List Value) : All2 (C.rel γ ro) (vs.map C.vl) vs := by
  refine ⟨by simp, fun i x y hx hy => ?_⟩
  rw [List.getElem?_map, hy] at hx
  simp at hx; subst hx; rfl
theorem A.rel_ofV (v : Value) : (A.ofV v).rel γ ro v := by
  unfold A.ofV
  split
  · rename_i cs; exact ⟨cs.toList, by simp, all2_vl _⟩
  · rfl
theorem S.rel_ofV (v : Value) : (S.ofV v).rel γ ro v := by
  unfold S.ofV
  split
  · rename_i vs
    refine ⟨vs.toList, by simp, by simp, fun i x y hx hy => ?_⟩
    rw [List.getElem?_map, hy] at hx
    simp at hx; subst hx; exact A.rel_ofV _
  · exact A.rel_ofV v
end

/-- An own block: cells written out; a row (the elements that the slice shows; spare capacity is not told; its cells frozen or plain); or given up. -/
inductive B where
  | cells (cs : List C) (T : TypeId)
  | row (xs : List (List C)) (T : TypeId) (sz : Nat)
  | dead
def B.live : B → Bool
  | .dead => false
  | _ => true

abbrev Hp := List B
abbrev Es := List (Gb × B)
abbrev Fr := Nat → S
def gm (E : Es) : List Gb := E.map (·.1)
def hp (E : Es) : Hp := E.map (·.2)
theorem gm_get {E : Es} {n : Nat} {g : Gb} {blk : B} (h : E[n]? = some (g, blk)) : (gm E)[n]? = some g := by simp [gm, h]
theorem hp_get {E : Es} {n : Nat} {g : Gb} {blk : B} (h : E[n]? = some (g, blk)) : (hp E)[n]? = some blk := by simp [hp, h]
theorem hp_inv {E : Es} {n : Nat} {blk : B} (h : (hp E)[n]? = some blk) : ∃ g, E[n]? = some (g, blk) := by
  simp only [hp, List.getElem?_map] at h
  cases he : E[n]? with
  | none => simp [he] at h
  | some y => simp [he] at h; exact ⟨y.1, by rw [← h]⟩
theorem gm_inv {E : Es} {n : Nat} {g : Gb} (h : (gm E)[n]? = some g) : ∃ blk, E[n]? = some (g, blk) := by
  simp only [gm, List.getElem?_map] at h
  cases he : E[n]? with
  | none => simp [he] at h
  | some y => simp [he] at h; exact ⟨y.2, by rw [← h]⟩
theorem hp_len (E : Es) : (hp E).length = E.length := by simp [hp]
theorem gm_len (E : Es) : (gm E).length = E.length := by simp [gm]

/-- What an own block says of the world. -/
def B.On (γ : List Gb) (ro : RO) (w : World) (g : Gb) : B → Prop
  | .cells cs T => g.row = false ∧ ∃ b, g.ob = some b ∧ w.heap[b]? = some (.cells g.vs.toArray T (0, 0)) ∧ All2 (C.rel γ ro) cs g.vs
  | .row xs T sz => g.row = true ∧ g.len = xs.length ∧ (∀ x ∈ xs, x.length = sz) ∧ (∀ c ∈ xs.flatten, c.shut = true) ∧ w.ownsRow 0 T sz (.slice (obA g.ob 0) xs.length g.cap) xs.length g.vs ∧ All2 (C.fv ro) xs.flatten g.vs ∧ (∀ b, g.ob = some b → 0 < g.cap)
  | .dead => True

/-- What a call may count on, and must keep: the world as it began, the own blocks that came in, the frozen memory that came in. -/
structure Ctx where
  w0 : World
  pb : List Nat
  ro0 : RO
  g0 : List Gb

structure Rel (X : Ctx) (E : Es) (ro : RO) (w : World) : Prop where
  own : ∀ (n : Nat) (g : Gb) (blk : B), E[n]? = some (g, blk) → blk.On (gm E) ro w g
  inj : ∀ (n m : Nat) (gn gm : Gb) (bn bm : B) (b : Nat), E[n]? = some (gn, bn) → E[m]? = some (gm, bm) → gn.ob = some b → gm.ob = some b → bn.live = true → bm.live = true → n = m
  apart : ∀ (b off : Nat) (v : Value), ro b off = some v → ∀ (n : Nat) (g : Gb) (blk : B), E[n]? = some (g, blk) → g.ob = some b → blk.live = false
  rd : ∀ (b off : Nat) (v : Value), ro b off = some v → w.cell? ⟨b, off, none⟩ = some v
  ro0 : Ext X.ro0 ro
  rob : ∀ (b off : Nat) (v : Value), ro b off = some v → X.ro0 b off = some v ∨ X.w0.heap.size ≤ b ∨ b ∈ X.pb
  par : ∀ (n b : Nat) (g : Gb) (blk : B), E[n]? = some (g, blk) → g.ob = some b → blk.live = true → X.w0.heap.size ≤ b ∨ b ∈ X.pb
  gx : GExt X.g0 (gm E)
  sz : X.w0.heap.size ≤ w.heap.size
  keep : ∀ b : Nat, b < X.w0.heap.size → b ∉ X.pb → w.heap[b]? = X.w0.heap[b]?
  os : w.os = X.w0.os
  tape : w.tape = X.w0.tape
  output : w.output = X.w0.output

theorem Rel.drew {X : Ctx} {E : Es} {ro : RO} {w : World} (h : Rel X E ro w) : Rel X E ro { w with drawn := w.drawn + 1 } :=
  ⟨h.own, h.inj, h.apart, h.rd, h.ro0, h.rob, h.par, h.gx, h.sz, h.keep, h.os, h.tape, h.output⟩

/-- A frame. -/
structure FRel (N : Nat) (γ : List Gb) (ro : RO) (fr : Fr) (a : Act) : Prop where
  size : a.tmps.size = N
  slot : ∀ i : Nat, (fr i).rel γ ro (a.tmps.getD i undef)
  defers : a.defers = []
theorem FRel.mono {N : Nat} {γ γ' : List Gb} {ro ro' : RO} (hg : GExt γ γ') (he : Ext ro ro') {fr : Fr} {a : Act} (h : FRel N γ ro fr a) : FRel N γ' ro' fr a :=
  ⟨h.size, fun i => S.rel_mono hg he (h.slot i), h.defers⟩

def put (fr : Fr) (d : Option Nat) (s : S) : Fr :=
  match d with
  | some d => fun i => if i = d then s else fr i
  | none => fr

theorem FRel.put {N : Nat} {γ : List Gb} {ro : RO} {fr : Fr} {a : Act} (h : FRel N γ ro fr a) {d : Option Nat} (hd : ∀ k, d = some k → k < N) {s : S} {v : Value} (hs : s.rel γ ro v) : FRel N γ ro (W.put fr d s) (a.put d v) := by
  cases d with
  | none => exact h
  | some d =>
    have hdN := hd d rfl
    refine ⟨by simp [Act.put, h.size], fun i => ?_, h.defers⟩
    simp only [W.put, Act.put]
    by_cases hi : i = d
    · subst hi
      rw [if_pos rfl, Array.getD_eq_getD_getElem?, Array.getElem?_setIfInBounds_self_of_lt (by rw [h.size]; exact hdN)]
      exact hs
    · rw [if_neg hi]
      have := h.slot i
      rw [Array.getD_eq_getD_getElem?, Array.getElem?_setIfInBounds_ne (by omega)]
      rw [Array.getD_eq_getD_getElem?] at this
      exact this

/-- Operands. -/
inductive O where
  | t (i : Nat)
  | k (v : Value)
  | f (n : FuncId)
def trO : Operand → O
  | .tmp t => .t t
  | .const v => .k v
  | .func f => .f f
  | .global g => .k (.pointer (some ⟨g, 0, none⟩))
def ev (fr : Fr) : O → S
  | .t i => fr i
  | .k v => S.ofV v
  | .f n => .va (.c1 (.fn n []))
theorem ev_rel {N : Nat} {γ : List Gb} {ro : RO} {fr : Fr} {a : Act} (h : FRel N γ ro fr a) (x : Operand) : (ev fr (trO x)).rel γ ro (a.eval x) := by
  cases x with
  | tmp t => exact h.slot t
  | const v => exact S.rel_ofV v
  | global g => exact S.rel_ofV (.pointer (some ⟨g, 0, none⟩))
  | func f => exact ⟨[], rfl, .nil⟩

end Go.W
