/- The W library, part 6: instructions that make or write memory of the call's own. -/
import Derived.Test.YtngmjggconefcaaW5
namespace Go.W

inductive EI where
  | st (n : Nat) (x y : O)
  | al (zero : Value) (T : TypeId)
  | bx (T : TypeId) (x : O)
  | bsl (T : TypeId) (sz : Nat) (xs : List O)
  | ap (T : TypeId) (sz bytes : Nat) (x y : O)
  | aps (T : TypeId) (x y : O)
  | us (T : TypeId) (x y : O)

def rows (fr : Fr) : List O → Option (List (List C))
  | [] => some []
  | o :: r => match ev fr o, rows fr r with
    | .va a, some l => some (a.cells :: l)
    | _, _ => none

def okS : S → Prop
  | .va a => a.ok
  | _ => False

def oks (fr : Fr) : List O → Prop
  | [] => True
  | o :: r => okS (ev fr o) ∧ oks fr r

def shuts (l : List C) : Prop := ∀ c ∈ l, c.shut = true ∧ c.one
def shutss (l : List (List C)) : Prop := ∀ r ∈ l, shuts r

def vA (fr : Fr) (H : Hp) (T : TypeId) (sz bytes : Nat) (x : O) (ys : List (List C)) (K : S → Hp → Prop) : Prop :=
  match ev fr x with
  | .va (.c1 (.vl (.slice none 0 0))) => ys.length * bytes ≤ 140737488355328 ∧ K (.va (.c1 (.sl H.length ys.length))) (H ++ [.row ys T sz])
  | .va (.c1 (.sl n len)) => (match H[n]? with
    | some (.row xs T1 sz1) => (xs.length = len ∧ T1 = T ∧ sz1 = sz) ∧ (len + ys.length) * bytes ≤ 140737488355328 ∧ K (.va (.c1 (.sl n (len + ys.length)))) (H.set n (.row (xs ++ ys) T sz))
    | _ => False)
  | _ => False

def vE (fr : Fr) (H : Hp) (K : S → Hp → Prop) : EI → Prop
  | .st n x y => match ev fr x, ev fr y with
    | .va (.c1 x), .va y => (y.ok ∧ (∀ c ∈ y.cells, c.one) ∧ y.cells.length = n) ∧ (match x with
      | .pt nm off => match H[nm]? with
        | some (.cells cs T) => off + y.cells.length ≤ cs.length ∧ K .un (H.set nm (.cells (splice cs off y.cells) T))
        | _ => False
      | .qt nm len sz i j => match H[nm]? with
        | some (.row xs T sz') => (xs.length = len ∧ sz' = sz ∧ i < xs.length ∧ j + y.cells.length ≤ sz ∧ ∀ c ∈ y.cells, c.shut = true) ∧ ∀ r, xs[i]? = some r → K .un (H.set nm (.row (xs.set i (splice r j y.cells)) T sz))
        | _ => False
      | _ => False)
    | _, _ => False
  | .al zero T => K (.va (.c1 (.pt H.length 0))) (H ++ [.cells (zero.cells.toList.map C.vl) T])
  | .bx T x => match ev fr x with
    | .va a => a.ok ∧ K (.va (.c1 (.pt H.length 0))) (H ++ [.cells a.cells T])
    | _ => False
  | .bsl T sz xs => match rows fr xs with
    | some l => (oks fr xs ∧ (∀ x ∈ l, x.length = sz) ∧ shutss l) ∧ K (.va (.c1 (.sl H.length l.length))) (H ++ [.row l T sz])
    | none => False
  | .ap T sz bytes x y => match ev fr y with
    | .va (.c1 (.sl m k)) => (match H[m]? with
      | some (.row ys _ sz2) => (ys.length = k ∧ sz2 = sz ∧ shutss ys) ∧ vA fr H T sz bytes x ys K
      | _ => False)
    | .va (.c1 (.fz ys)) => ((∀ r ∈ ys, r.length = sz) ∧ shutss ys) ∧ vA fr H T sz bytes x ys K
    | .va (.c1 (.vl (.slice _ 0 _))) => vA fr H T sz bytes x [] K
    | _ => False
  | .aps T x y => match ev fr y with
    | .va (.c1 (.vl (.string s))) => vA fr H T 1 1 x ((bl s).map fun c => [.vl (.int .u8 c.toNat)]) K
    | _ => False
  | .us T x y => match ev fr x, ev fr y with
    | .va (.c1 (.dp n len)), .va (.c1 (.vl (.int .i64 k))) => (match H[n]? with
      | some (.row xs T' sz) => (T' = T ∧ k = len ∧ xs.length = len ∧ sz = 1 ∧ (∀ r ∈ xs, ∃ c : UInt8, r = [.vl (.int .u8 c.toNat)]) ∧ len ≤ 140737488355328) ∧ K (tS (mk (rowB xs))) (H.set n .dead)
      | _ => False)
    | _, _ => False

def isZ8 : Value → Bool
  | .int .u8 n => n == 0
  | _ => false
theorem isZ8_eq {z : Value} (h : isZ8 z = true) : z = .int .u8 0 := by
  unfold isZ8 at h
  split at h
  · simp at h; rw [h]
  · cases h

def trE (P : Program) (op : Op) : Option EI :=
  match op with
  | .store t x y => match aggT P t, szT P t with
    | some _, some n => some (.st n (trO x) (trO y))
    | _, _ => none
  | .alloc t => match (P.info? t).map (·.zero) with
    | some (some z) => some (.al z t)
    | _ => none
  | .box t x => some (.bx t (trO x))
  | .buildSlice t len parts => match P.underlying t with
    | some (.slice e) => match P.info? e with
      | some i => match i.zero with
        | some z => if z.cells.size = i.size ∧ 0 < i.size ∧ len * i.size ≤ 16777216 ∧ 0 < len ∧ len ≤ maxLen ∧ parts.toList.map (·.1) = List.range len then some (.bsl e i.size (parts.toList.map fun p => trO p.2)) else none
        | none => none
      | none => none
    | _ => none
  | .call c => match c.callee, c.args.toList, c.argTypes.toList with
    | .builtin .append, [x, y], [t, t'] => match P.underlying t with
      | some (.slice e) => match P.info? e with
        | some i => match i.zero with
          | some z => if z.cells.size = i.size ∧ 0 < i.size ∧ t = t' ∧ 0 < i.bytes then some (.ap e i.size i.bytes (trO x) (trO y))
            else if isZ8 z = true ∧ i.size = 1 ∧ i.bytes = 1 then (match P.underlying t' with
              | some .string => some (.aps e (trO x) (trO y))
              | _ => none) else none
          | none => none
        | none => none
      | _ => none
    | .builtin .unsafeString, [x, y], [t, _] => match P.underlying t with
      | some (.pointer e) => match P.underlying e with
        | some (.int .u8) => if P.cellsOf e = 1 then some (.us e (trO x) (trO y)) else none
        | _ => none
      | _ => none
    | _, _, _ => none
  | _ => none

/-! ### Worlds that differ in one own block, or have one block more -/

theorem B.On.same {γ γ' : List Gb} {ro ro' : RO} {w w' : World} {g : Gb} {blk : B} (h : blk.On γ ro w g) (hg : GExt γ γ') (hr : Ext ro ro') (he : ∀ k, g.ob = some k → w'.heap[k]? = w.heap[k]?) : blk.On γ' ro' w' g := by
  cases blk with
  | cells cs T =>
    obtain ⟨h1, b, hb, hh, h2⟩ := h
    exact ⟨h1, b, hb, by rw [he b hb]; exact hh, h2.imp fun _ _ => C.rel_mono hg hr⟩
  | row xs T sz =>
    obtain ⟨h0, h1, h2, h3, ⟨h4, h5⟩, h6, h7⟩ := h
    refine ⟨h0, h1, h2, h3, ⟨h4, ?_⟩, h6.imp fun _ _ => C.fv_mono hr, h7⟩
    rcases h5 with h5 | ⟨b, cap', cur, hv, hb, hh, r⟩
    · exact .inl h5
    · have hob : g.ob = some b := by
        cases hgo : g.ob with
        | none => rw [hgo] at hv; simp [obA] at hv
        | some b' => rw [hgo] at hv; simp [obA] at hv; simp [hv.1]
      exact .inr ⟨b, cap', cur, hv, hb, by rw [he b hob]; exact hh, r⟩
  | dead => trivial

section
variable {X : Ctx} {E : Es} {ro : RO} {w w' : World}

theorem Rel.cell_lt (h : Rel X E ro w) {b off : Nat} {c : Value} (hc : ro b off = some c) : b < w.heap.size := by
  have := h.rd b off c hc
  simp only [World.cell?] at this
  rcases Nat.lt_or_ge b w.heap.size with hb | hb
  · exact hb
  · rw [Array.getElem?_eq_none hb] at this; cases this

theorem B.On.lt {γ : List Gb} {g : Gb} {blk : B} (h : blk.On γ ro w g) (hl : blk.live = true) {b : Nat} (hb : g.ob = some b) : b < w.heap.size := by
  cases blk with
  | cells cs T =>
    obtain ⟨_, b', hb', hh, _⟩ := h
    rw [hb] at hb'
    simp only [Option.some.injEq] at hb'
    subst hb'
    exact (Array.getElem?_eq_some_iff.1 hh).1
  | row xs T sz =>
    obtain ⟨_, _, _, _, ⟨_, h3⟩, _⟩ := h
    rw [hb] at h3
    rcases h3 with ⟨h3, _⟩ | ⟨g, cap', cur, hv, hg, hh, r⟩
    · simp [obA] at h3
    · simp [obA] at hv
      rw [hv.1]
      exact (Array.getElem?_eq_some_iff.1 hh).1
  | dead => simp [B.live] at hl

theorem gext_set {n : Nat} {g g' : Gb} {blk blk' : B} (hn : E[n]? = some (g, blk)) (hle : g.le g') : GExt (gm E) (gm (E.set n (g', blk'))) := by
  intro m gg hm
  obtain ⟨bk, hE⟩ := gm_inv hm
  by_cases hnm : n = m
  · subst hnm
    rw [hn] at hE
    simp only [Option.some.injEq, Prod.mk.injEq] at hE
    obtain ⟨rfl, rfl⟩ := hE
    refine ⟨g', ?_, hle⟩
    simp [gm, (List.getElem?_eq_some_iff.1 hn).1]
  · exact ⟨gg, by simp [gm, hnm, hE], gg.le_refl⟩
theorem gext_app (l : Es) : GExt (gm E) (gm (E ++ l)) := by
  intro m gg hm
  refine ⟨gg, ?_, gg.le_refl⟩
  simp only [gm, List.map_append]
  rw [List.getElem?_append_left (by simpa [gm] using (List.getElem?_eq_some_iff.1 hm).1)]
  exact hm

/-- The live block under a name is replaced, at the same or at a new place. -/
theorem Rel.swap (h : Rel X E ro w) {n : Nat} {g g' : Gb} {blk blk' : B} (hn : E[n]? = some (g, blk)) (hl : blk.live = true) (hle : g.le g') (hsz : w.heap.size ≤ w'.heap.size)
    (h1 : w'.os = w.os) (h2 : w'.tape = w.tape) (h3 : w'.output = w.output) (hon : blk'.On (gm (E.set n (g', blk'))) ro w' g')
    (hc : (g'.ob = g.ob ∧ ∀ k, some k ≠ g.ob → w'.heap[k]? = w.heap[k]?) ∨ (g'.ob = some w.heap.size ∧ ∀ k, k < w.heap.size → w'.heap[k]? = w.heap[k]?)) : Rel X (E.set n (g', blk')) ro w' := by
  have hlt : n < E.length := (List.getElem?_eq_some_iff.1 hn).1
  have hext := gext_set (blk' := blk') hn hle
  have hget : ∀ (j : Nat) (y : Gb × B), (E.set n (g', blk'))[j]? = some y → (j = n ∧ y = (g', blk')) ∨ (j ≠ n ∧ E[j]? = some y) := by
    intro j y hy
    rw [List.getElem?_set] at hy
    split at hy
    · rename_i he; subst he; exact .inl ⟨rfl, by first | exact (Option.some.inj hy).symm | (rw [if_pos hlt] at hy; exact (Option.some.inj hy).symm)⟩
    · rename_i he; exact .inr ⟨fun e => he e.symm, hy⟩
  have old : ∀ (j k : Nat) (gj : Gb) (bk : B), E[j]? = some (gj, bk) → gj.ob = some k → bk.live = true → k < w.heap.size := fun j k gj bk hy hk hl => (h.own j _ bk hy).lt hl hk
  have keep : ∀ (j k : Nat) (gj : Gb) (bk : B), j ≠ n → E[j]? = some (gj, bk) → gj.ob = some k → bk.live = true → w'.heap[k]? = w.heap[k]? := by
    intro j k gj bk hj hy hgk hlv
    rcases hc with ⟨_, hk⟩ | ⟨_, hk⟩
    · exact hk k fun e => hj (h.inj j n gj g bk blk k hy hn hgk e.symm hlv hl)
    · exact hk k (old j k gj bk hy hgk hlv)
  have ne : ∀ (j k : Nat) (gj : Gb) (bk : B), j ≠ n → E[j]? = some (gj, bk) → gj.ob = some k → bk.live = true → g'.ob ≠ some k := by
    intro j k gj bk hj hy hgk hlv e
    rcases hc with ⟨e2, _⟩ | ⟨e2, _⟩
    · exact hj (h.inj j n gj g bk blk k hy hn hgk (by rw [← e2]; exact e) hlv hl)
    · have := old j k gj bk hy hgk hlv; rw [e2] at e; simp at e; omega
  refine ⟨fun j g1 bk hy => ?_, fun j m gj gm bj bm k hy hz ej em lj lm => ?_, fun k off c hcc j gj bk hy ej => ?_, fun k off c hcc => ?_, h.ro0, h.rob, fun j k gj bk hy ej lj => ?_, h.gx.trans hext, Nat.le_trans h.sz hsz, fun k hk hp => ?_, by rw [h1]; exact h.os, by rw [h2]; exact h.tape, by rw [h3]; exact h.output⟩
  · rcases hget j _ hy with ⟨rfl, he⟩ | ⟨hne, hy'⟩
    · simp only [Prod.mk.injEq] at he; obtain ⟨rfl, rfl⟩ := he; exact hon
    · by_cases hlv : bk.live = true
      · exact (h.own j g1 bk hy').same hext (Ext.refl _) fun k hk => keep j k g1 bk hne hy' hk hlv
      · cases bk <;> simp [B.live] at hlv; trivial
  · rcases hget j _ hy with ⟨rfl, he⟩ | ⟨hne, hy'⟩ <;> rcases hget m _ hz with ⟨rfl, he2⟩ | ⟨hne2, hz'⟩
    · rfl
    · simp only [Prod.mk.injEq] at he; obtain ⟨rfl, rfl⟩ := he; exact absurd ej (ne m k gm bm hne2 hz' em lm)
    · simp only [Prod.mk.injEq] at he2; obtain ⟨rfl, rfl⟩ := he2; exact absurd em (ne j k gj bj hne hy' ej lj)
    · exact h.inj j m gj gm bj bm k hy' hz' ej em lj lm
  · rcases hget j _ hy with ⟨rfl, he⟩ | ⟨hne, hy'⟩
    · simp only [Prod.mk.injEq] at he
      obtain ⟨rfl, rfl⟩ := he
      rcases hc with ⟨e2, _⟩ | ⟨e2, _⟩
      · have := h.apart k off c hcc j g blk hn (by rw [← e2]; exact ej); rw [hl] at this; cases this
      · rw [e2] at ej; simp only [Option.some.injEq] at ej; have := h.cell_lt hcc; omega
    · exact h.apart k off c hcc j gj bk hy' ej
  · have hs : w'.heap[k]? = w.heap[k]? := by
      rcases hc with ⟨_, hk⟩ | ⟨_, hk⟩
      · exact hk k fun e => by have := h.apart k off c hcc n g blk hn e.symm; rw [hl] at this; cases this
      · exact hk k (h.cell_lt hcc)
    have := h.rd k off c hcc
    rw [← this]
    simp only [World.cell?, hs]
  · rcases hget j _ hy with ⟨rfl, he⟩ | ⟨hne, hy'⟩
    · simp only [Prod.mk.injEq] at he
      obtain ⟨rfl, rfl⟩ := he
      rcases hc with ⟨e2, _⟩ | ⟨e2, _⟩
      · exact h.par j k g blk hn (by rw [← e2]; exact ej) hl
      · rw [e2] at ej; simp only [Option.some.injEq] at ej; have := h.sz; omega
    · exact h.par j k gj bk hy' ej lj
  · have hs : w'.heap[k]? = w.heap[k]? := by
      rcases hc with ⟨_, hk'⟩ | ⟨_, hk'⟩
      · exact hk' k fun e => by rcases h.par n k g blk hn e.symm hl with h' | h' <;> first | omega | exact hp h'
      · exact hk' k (by have := h.sz; omega)
    rw [hs]
    exact h.keep k hk hp

/-- One own block more, in a block that is new. -/
theorem Rel.new (h : Rel X E ro w) {blk : B} {g : Gb} (hb : ∀ k, k < w.heap.size → w'.heap[k]? = w.heap[k]?) (hsz : w.heap.size ≤ w'.heap.size)
    (h1 : w'.os = w.os) (h2 : w'.tape = w.tape) (h3 : w'.output = w.output) (hob : g.ob = none ∨ g.ob = some w.heap.size) (hon : blk.On (gm (E ++ [(g, blk)])) ro w' g) : Rel X (E ++ [(g, blk)]) ro w' := by
  have hext : GExt (gm E) (gm (E ++ [(g, blk)])) := gext_app _
  have hget : ∀ (n : Nat) (y : Gb × B), (E ++ [(g, blk)])[n]? = some y → (n = E.length ∧ y = (g, blk)) ∨ (n < E.length ∧ E[n]? = some y) := by
    intro n y hy
    rw [List.getElem?_append] at hy
    split at hy
    · exact .inr ⟨by assumption, hy⟩
    · rename_i hge
      have : n - E.length = 0 := by
        rcases Nat.eq_zero_or_pos (n - E.length) with h0 | h0
        · exact h0
        · rw [List.getElem?_eq_none (by simp; omega)] at hy; cases hy
      rw [this] at hy
      exact .inl ⟨by omega, by simpa using hy.symm⟩
  have old : ∀ (n k : Nat) (gn : Gb) (bk : B), E[n]? = some (gn, bk) → gn.ob = some k → bk.live = true → k < w.heap.size := fun n k gn bk hy hk hl => (h.own n _ bk hy).lt hl hk
  refine ⟨fun n g' bk hy => ?_, fun n m gn gm bn bm k hy hz en em ln lm => ?_, fun k off c hc n gn bk hy en => ?_, fun k off c hc => ?_, h.ro0, h.rob, fun n k gn bk hy en ln => ?_, h.gx.trans hext, Nat.le_trans h.sz hsz, fun k hk hp => ?_, by rw [h1]; exact h.os, by rw [h2]; exact h.tape, by rw [h3]; exact h.output⟩
  · rcases hget n _ hy with ⟨rfl, he⟩ | ⟨hlt, hy'⟩
    · simp only [Prod.mk.injEq] at he; obtain ⟨rfl, rfl⟩ := he; exact hon
    · by_cases hlv : bk.live = true
      · exact (h.own n g' bk hy').same hext (Ext.refl _) fun k hk => hb k (old n k g' bk hy' hk hlv)
      · cases bk <;> simp [B.live] at hlv; trivial
  · rcases hget n _ hy with ⟨rfl, he⟩ | ⟨hlt, hy'⟩ <;> rcases hget m _ hz with ⟨rfl, he2⟩ | ⟨hlt2, hz'⟩
    · rfl
    · simp only [Prod.mk.injEq] at he; obtain ⟨rfl, rfl⟩ := he; have := old m k gm bm hz' em lm; rcases hob with hob | hob <;> rw [hob] at en <;> simp at en; omega
    · simp only [Prod.mk.injEq] at he2; obtain ⟨rfl, rfl⟩ := he2; have := old n k gn bn hy' en ln; rcases hob with hob | hob <;> rw [hob] at em <;> simp at em; omega
    · exact h.inj n m gn gm bn bm k hy' hz' en em ln lm
  · rcases hget n _ hy with ⟨rfl, he⟩ | ⟨hlt, hy'⟩
    · simp only [Prod.mk.injEq] at he; obtain ⟨rfl, rfl⟩ := he; have := h.cell_lt hc; rcases hob with hob | hob <;> rw [hob] at en <;> simp at en; omega
    · exact h.apart k off c hc n gn bk hy' en
  · have := h.rd k off c hc
    rw [← this]
    simp only [World.cell?, hb k (h.cell_lt hc)]
  · rcases hget n _ hy with ⟨rfl, he⟩ | ⟨hlt, hy'⟩
    · simp only [Prod.mk.injEq] at he; obtain ⟨rfl, rfl⟩ := he; rcases hob with hob | hob <;> rw [hob] at en <;> simp at en; have := h.sz; omega
    · exact h.par n k gn bk hy' en ln
  · rw [hb k (by have := h.sz; omega)]
    exact h.keep k hk hp
end
end Go.W
