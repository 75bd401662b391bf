/- The W library, part 10: steps of telling, and selection at a return, are sound. -/
import Derived.Test.YtngmjggconefcaaW9
namespace Go.W

theorem mapM_get {f : Nat → Option Nat} : ∀ {ns ms : List Nat}, ns.mapM f = some ms → ns.length = ms.length ∧ ∀ (i n : Nat), ns[i]? = some n → ∃ m, f n = some m ∧ ms[i]? = some m
  | [], ms, h => by simp at h; subst h; exact ⟨rfl, fun i n h => by simp at h⟩
  | n :: ns, ms, h => by
    simp only [List.mapM_cons, Option.bind_eq_bind, Option.bind_eq_some_iff, Option.pure_def, Option.some.injEq] at h
    obtain ⟨m, hm, ms', hms, rfl⟩ := h
    obtain ⟨h1, h2⟩ := mapM_get hms
    refine ⟨by simp [h1], fun i k hk => ?_⟩
    cases i with
    | zero => simp at hk; subst hk; exact ⟨m, hm, rfl⟩
    | succ i => simpa using h2 i k (by simpa using hk)

section
variable {γ γ' : List Gb} {ro ro' : RO} {f : Nat → Option Nat}
theorem C.rel_ren (hf : ∀ (n m : Nat) (g : Gb), f n = some m → γ[n]? = some g → γ'[m]? = some g) {c : C} {v : Value} (h : c.rel γ ro v) : (c.ren f).rel γ' ro v := by
  cases c with
  | no => trivial
  | vl u => exact h
  | pt n off =>
    simp only [C.ren]
    split
    · rename_i m hm; obtain ⟨g, b, h1, h2⟩ := h; exact ⟨g, b, hf n m g hm h1, h2⟩
    · trivial
  | sl n len =>
    simp only [C.ren]
    split
    · rename_i m hm; obtain ⟨g, h1, h2⟩ := h; exact ⟨g, hf n m g hm h1, h2⟩
    · trivial
  | qt n len sz i j =>
    simp only [C.ren]
    split
    · rename_i m hm; obtain ⟨g, h1, h2⟩ := h; exact ⟨g, hf n m g hm h1, h2⟩
    · trivial
  | fz xs => exact h
  | fp r j => exact h
  | dp n len =>
    simp only [C.ren]
    split
    · rename_i m hm; obtain ⟨g, h1, h2⟩ := h; exact ⟨g, hf n m g hm h1, h2⟩
    · trivial
  | fn g ns =>
    simp only [C.ren]
    split
    · rename_i ms hm
      obtain ⟨bs, h1, h2, h3⟩ := h
      obtain ⟨k1, k2⟩ := mapM_get hm
      refine ⟨bs, h1, by omega, fun i m b hm hb => ?_⟩
      have hi : i < ns.length := by rw [k1]; exact (List.getElem?_eq_some_iff.1 hm).1
      obtain ⟨m', hm', hms⟩ := k2 i _ (List.getElem?_eq_getElem hi)
      rw [hms] at hm
      simp only [Option.some.injEq] at hm
      subst hm
      obtain ⟨g, q1, q2⟩ := h3 i _ b (List.getElem?_eq_getElem hi) hb
      exact ⟨g, hf _ _ g hm' q1, q2⟩
    · trivial
theorem A.rel_ren (hf : ∀ (n m : Nat) (g : Gb), f n = some m → γ[n]? = some g → γ'[m]? = some g) {a : A} {v : Value} (h : a.rel γ ro v) : (a.ren f).rel γ' ro v := by
  cases a with
  | c1 c => exact C.rel_ren hf h
  | gs cs => obtain ⟨vs, h1, h2⟩ := h; exact ⟨vs, h1, h2.map (f := C.ren f) fun _ _ => C.rel_ren hf⟩
theorem S.rel_ren (hf : ∀ (n m : Nat) (g : Gb), f n = some m → γ[n]? = some g → γ'[m]? = some g) {s : S} {v : Value} (h : s.rel γ ro v) : (s.ren f).rel γ' ro v := by
  cases s with
  | va a => exact A.rel_ren hf h
  | tu l => obtain ⟨vs, h1, h2⟩ := h; exact ⟨vs, h1, h2.map (f := A.ren f) fun _ _ => A.rel_ren hf⟩
  | cn g a => exact ⟨fun e => A.rel_ren hf (h.1 e), h.2⟩
  | un => trivial
theorem B.On_ren (hf : ∀ (n m : Nat) (g : Gb), f n = some m → γ[n]? = some g → γ'[m]? = some g) {w : World} {g : Gb} {blk : B} (h : blk.On γ ro w g) : (blk.ren f).On γ' ro w g := by
  cases blk with
  | cells cs T => obtain ⟨h1, b, h2, h3, h4⟩ := h; exact ⟨h1, b, h2, h3, h4.map (f := C.ren f) fun _ _ => C.rel_ren hf⟩
  | row xs T sz => exact h
  | dead => trivial
theorem B.live_ren (f : Nat → Option Nat) (blk : B) : (blk.ren f).live = blk.live := by cases blk <;> rfl

/-! ### nil -/
theorem FzR.nil (ro : RO) : FzR ro [] (.slice none 0 0) :=
  .mk [] 0 none 0 (fun _ => undef) (by simp) (Nat.le_refl _) (by simp) (by simp) (by simp) (by simp) (by simp)
theorem C.rel_nf {c : C} {v : Value} (h : c.rel γ ro v) : c.nf.rel γ ro v := by
  unfold C.nf
  split
  · have h' : v = .slice none 0 0 := h
    subst h'
    exact FzR.nil ro
  · exact h
theorem A.rel_nf {a : A} {v : Value} (h : a.rel γ ro v) : a.nf.rel γ ro v := by
  cases a with
  | c1 c => exact C.rel_nf h
  | gs cs => obtain ⟨vs, h1, h2⟩ := h; exact ⟨vs, h1, h2.map (f := C.nf) fun _ _ => C.rel_nf⟩
theorem S.rel_nf {s : S} {v : Value} (h : s.rel γ ro v) : s.nf.rel γ ro v := by
  cases s with
  | va a => exact A.rel_nf h
  | tu l => obtain ⟨vs, h1, h2⟩ := h; exact ⟨vs, h1, h2.map (f := A.nf) fun _ _ => A.rel_nf⟩
  | cn g a => exact ⟨fun e => A.rel_nf (h.1 e), h.2⟩
  | un => trivial

/-! ### Giving a row over to frozen memory -/
theorem C.rel_pub {n : Nat} {g : Gb} {xs : List (List C)} (hext : Ext ro ro') (hn : γ[n]? = some g) (hl : g.len = xs.length) (hfz : FzR ro' xs (.slice (obA g.ob 0) xs.length g.cap)) {c : C} {v : Value} (h : c.rel γ ro v) : (c.pub n xs).rel γ ro' v := by
  have hm := C.rel_mono (GExt.refl γ) hext h
  cases c with
  | sl m l =>
    simp only [C.pub]
    split
    · rename_i he
      subst he
      split
      · rename_i hlen
        obtain ⟨g', h1, h2, h3, h4, h5⟩ := h
        rw [hn] at h1
        simp only [Option.some.injEq] at h1
        subst h1
        have := h5 (by omega)
        subst this
        show FzR ro' xs _
        rw [hlen]
        exact hfz
      · trivial
    · exact hm
  | qt m l sz i j =>
    simp only [C.pub]
    split
    · trivial
    · exact hm
  | dp m l =>
    simp only [C.pub]
    split
    · trivial
    · exact hm
  | _ => exact hm
theorem A.rel_pub {n : Nat} {g : Gb} {xs : List (List C)} (hext : Ext ro ro') (hn : γ[n]? = some g) (hl : g.len = xs.length) (hfz : FzR ro' xs (.slice (obA g.ob 0) xs.length g.cap)) {a : A} {v : Value} (h : a.rel γ ro v) : (a.pub n xs).rel γ ro' v := by
  cases a with
  | c1 c => exact C.rel_pub hext hn hl hfz h
  | gs cs => obtain ⟨vs, h1, h2⟩ := h; exact ⟨vs, h1, h2.map (f := C.pub n xs) fun _ _ => C.rel_pub hext hn hl hfz⟩
theorem S.rel_pub {n : Nat} {g : Gb} {xs : List (List C)} (hext : Ext ro ro') (hn : γ[n]? = some g) (hl : g.len = xs.length) (hfz : FzR ro' xs (.slice (obA g.ob 0) xs.length g.cap)) {s : S} {v : Value} (h : s.rel γ ro v) : (s.pub n xs).rel γ ro' v := by
  cases s with
  | va a => exact A.rel_pub hext hn hl hfz h
  | tu l => obtain ⟨vs, h1, h2⟩ := h; exact ⟨vs, h1, h2.map (f := A.pub n xs) fun _ _ => A.rel_pub hext hn hl hfz⟩
  | cn g a => exact ⟨fun e => A.rel_pub hext hn hl hfz (h.1 e), h.2⟩
  | un => trivial
end

def g00 : Gb := ⟨none, false, 0, 0, 0, []⟩
def pickE (E : Es) (σ : List Nat) : Es := σ.map fun n => E.getD n (g00, .dead)
theorem hp_pick (E : Es) (σ : List Nat) : hp (pickE E σ) = pickH (hp E) σ := by
  simp only [hp, pickE, pickH, List.map_map]
  apply List.map_congr_left
  intro n _
  simp only [Function.comp, List.getD_eq_getElem?_getD, List.getElem?_map]
  cases E[n]? <;> rfl
theorem loc_spec : ∀ {σ : List Nat} {n j : Nat}, loc σ n = some j → σ[j]? = some n
  | [], n, j, h => by simp [loc] at h
  | m :: σ, n, j, h => by
    simp only [loc] at h
    split at h
    · rename_i he; simp only [Option.some.injEq] at h; subst h; subst he; rfl
    · simp only [Option.map_eq_some_iff] at h
      obtain ⟨k, hk, rfl⟩ := h
      simpa using loc_spec hk
theorem loc_gm {E : Es} {σ : List Nat} (n m : Nat) (g : Gb) (h : loc σ n = some m) (hg : (gm E)[n]? = some g) : (gm (pickE E σ))[m]? = some g := by
  have hs := loc_spec h
  obtain ⟨blk, hE⟩ := gm_inv hg
  simp [gm, pickE, hs, hE]
def mapB (f : B → B) (E : Es) : Es := E.map fun e => (e.1, f e.2)
theorem gm_mapB (f : B → B) (E : Es) : gm (mapB f E) = gm E := by simp [gm, mapB, List.map_map, Function.comp_def]
theorem hp_mapB (f : B → B) (E : Es) : hp (mapB f E) = (hp E).map f := by simp [hp, mapB, List.map_map, Function.comp_def]

section
variable {N : Nat} {fr : Fr} {a : Act} {E : Es} {ro : RO} {X : Ctx} {w : World}

/-- Fewer, or renamed, or otherwise told own blocks. -/
theorem Rel.sub (h : Rel X E ro w) {E' : Es} (μ : Nat → Nat) (hg : ∀ (n : Nat) (g : Gb) (blk : B), E'[n]? = some (g, blk) → blk.live = true → ∃ bk, E[μ n]? = some (g, bk) ∧ bk.live = true ∧ (bk.On (gm E) ro w g → blk.On (gm E') ro w g))
    (hi : ∀ (n m : Nat), n < E'.length → m < E'.length → μ n = μ m → n = m) (gx : GExt X.g0 (gm E')) : Rel X E' ro w := by
  have lt : ∀ {n : Nat} {e : Gb × B}, E'[n]? = some e → n < E'.length := fun h => (List.getElem?_eq_some_iff.1 h).1
  refine ⟨fun n g blk hn => ?_, fun n m gn gm bn bm b hn hm en em ln lm => ?_, fun b off c hc n g blk hn en => ?_, h.rd, h.ro0, h.rob, fun n b g blk hn en ln => ?_, gx, h.sz, h.keep, h.os, h.tape, h.output⟩
  · by_cases hl : blk.live = true
    · obtain ⟨bk, h1, h2, h3⟩ := hg n g blk hn hl
      exact h3 (h.own _ g bk h1)
    · cases blk <;> simp [B.live] at hl; trivial
  · obtain ⟨bk, h1, h2, _⟩ := hg n _ _ hn ln
    obtain ⟨bk', k1, k2, _⟩ := hg m _ _ hm lm
    exact hi n m (lt hn) (lt hm) (h.inj _ _ gn gm bk bk' b h1 k1 en em h2 k2)
  · by_cases hl : blk.live = true
    · obtain ⟨bk, h1, h2, _⟩ := hg n g blk hn hl
      have := h.apart b off c hc _ g bk h1 en
      rw [h2] at this; cases this
    · simpa using hl
  · obtain ⟨bk, h1, h2, _⟩ := hg n g blk hn ln
    exact h.par _ b g bk h1 en h2

theorem Rel.cut (h : Rel X E ro w) {k : Nat} (hk : X.g0.length ≤ k) : Rel X (mapB (B.ren (san k)) (E.take k)) ro w := by
  have hren : ∀ (n m : Nat) (g : Gb), san k n = some m → (gm E)[n]? = some g → (gm (mapB (B.ren (san k)) (E.take k)))[m]? = some g := by
    intro n m g h1 h2
    unfold san at h1
    split at h1
    · rename_i hlt
      simp only [Option.some.injEq] at h1
      subst h1
      rw [gm_mapB, gm, List.map_take, List.getElem?_take, if_pos hlt]
      exact h2
    · cases h1
  refine h.sub id (fun n g blk hn hl => ?_) (fun n m _ _ e => e) ?_
  · simp only [mapB, List.getElem?_map, List.getElem?_take] at hn
    split at hn
    · cases hE : E[n]? with
      | none => simp [hE] at hn
      | some e =>
        simp only [hE, Option.map_some, Option.some.injEq, Prod.mk.injEq] at hn
        obtain ⟨rfl, rfl⟩ := hn
        exact ⟨e.2, hE, by rw [B.live_ren] at hl; exact hl, B.On_ren hren⟩
    · simp at hn
  · intro n g hn
    obtain ⟨g', h1, h2⟩ := h.gx n g hn
    have hlt : n < k := Nat.lt_of_lt_of_le (List.getElem?_eq_some_iff.1 hn).1 hk
    exact ⟨g', hren n n g' (by simp [san, hlt]) h1, h2⟩

theorem Rel.kill (h : Rel X E ro w) {n : Nat} {g0 : Gb} {bk0 : B} (hn : E[n]? = some (g0, bk0)) : Rel X (E.set n (g0, .dead)) ro w := by
  have hgm : gm (E.set n (g0, .dead)) = gm E := by
    apply List.ext_getElem?
    intro j
    simp only [gm, List.getElem?_map, List.getElem?_set]
    split
    · rename_i hj; subst hj; rw [if_pos (List.getElem?_eq_some_iff.1 hn).1, hn]; rfl
    · rfl
  refine h.sub id (fun m g blk hm hl => ?_) (fun n m _ _ e => e) (by rw [hgm]; exact h.gx)
  rw [List.getElem?_set] at hm
  split at hm
  · rw [if_pos (by rename_i e; subst e; exact (List.getElem?_eq_some_iff.1 hn).1)] at hm; simp only [Option.some.injEq, Prod.mk.injEq] at hm; rw [← hm.2] at hl; simp [B.live] at hl
  · exact ⟨blk, hm, hl, fun h => by rw [hgm]; exact h⟩
theorem gm_kill {n : Nat} {g0 : Gb} {bk0 blk : B} (hn : E[n]? = some (g0, bk0)) : gm (E.set n (g0, blk)) = gm E := by
  apply List.ext_getElem?
  intro j
  simp only [gm, List.getElem?_map, List.getElem?_set]
  split
  · rename_i hj; subst hj; rw [if_pos (List.getElem?_eq_some_iff.1 hn).1, hn]; rfl
  · rfl

theorem Rel.sel (h : Rel X E ro w) {ns : List Nat} (hd : ns.Nodup) (hlt : ∀ n ∈ ns, n < E.length) (gx : GExt X.g0 (gm (pickE E ns))) : Rel X (mapB (B.ren (loc ns)) (pickE E ns)) ro w := by
  refine h.sub (fun n => ns.getD n 0) (fun n g blk hn hl => ?_) (fun n m hn hm e => ?_) (by rw [gm_mapB]; exact gx)
  · simp only [mapB, List.getElem?_map, pickE] at hn
    cases hns : ns[n]? with
    | none => simp [hns] at hn
    | some m =>
      simp only [hns, Option.map_some, Option.some.injEq, Prod.mk.injEq, List.getD_eq_getElem?_getD] at hn
      obtain ⟨h1, h2⟩ := hn
      cases hE : E[m]? with
      | none => have := hlt m (List.mem_of_getElem? hns); rw [List.getElem?_eq_none_iff] at hE; omega
      | some e =>
        rw [hE] at h1 h2
        simp only [Option.getD_some] at h1 h2
        subst h1 h2
        refine ⟨e.2, by simp [hns, hE], by rw [B.live_ren] at hl; exact hl, fun ho => B.On_ren (fun n m g k1 k2 => ?_) ho⟩
        rw [gm_mapB]; exact loc_gm n m g k1 k2
  · simp only [mapB, pickE, List.length_map] at hn hm
    simp only [List.getD_eq_getElem?_getD, List.getElem?_eq_getElem hn, List.getElem?_eq_getElem hm, Option.getD_some] at e
    exact (List.getElem_inj hd).1 e

theorem Rel.push (h : Rel X E ro w) (T sz : Nat) : Rel X (E ++ [(⟨none, true, 0, 0, T, []⟩, .row [] T sz)]) ro w :=
  h.new (fun k _ => rfl) (Nat.le_refl _) rfl rfl rfl (.inl rfl) ⟨rfl, rfl, fun x hx => by simp at hx, by simp, World.ownsRow_nil w 0 T sz, .nil, fun b hb => by simp at hb⟩

theorem row_fz (h : Rel X E ro w) {n : Nat} {g : Gb} {xs : List (List C)} {T sz : Nat} (hn : E[n]? = some (g, .row xs T sz)) {ro' : RO} (hext : Ext ro ro') (hro : ∀ b, g.ob = some b → ∀ off v, g.vs[off]? = some v → ro' b off = some v) :
    FzR ro' xs (.slice (obA g.ob 0) xs.length g.cap) := by
  obtain ⟨hrow, hglen, hxl, hsh, ⟨hfl, hown⟩, hrel, _⟩ := h.own n _ _ hn
  have hob : roA (g.ob.map fun b => (b, 0)) 0 = obA g.ob 0 := by cases g.ob <;> simp [roA, obA]
  rw [← hob]
  have hne : xs ≠ [] → g.ob.isSome = true ∧ True := fun hne => by
    rcases hown with ⟨_, h0⟩ | ⟨b, cap', cur, hv, _⟩
    · exact absurd (List.eq_nil_of_length_eq_zero h0) hne
    · cases hgo : g.ob with
      | none => rw [hgo] at hv; simp [obA] at hv
      | some b => simp
  refine .mk xs sz _ g.cap (fun k => g.vs.getD k undef) hxl ?_ (fun h => by have := (hne h).1; cases hg : g.ob <;> simp [hg] at this ⊢) (fun k c hk => ?_) (fun k v hk => ?_) (fun k ys hk => ?_) hsh
  · rcases hown with ⟨hv, h0⟩ | ⟨b, cap', cur, hv, _, _, hnc, _⟩
    · omega
    · simp only [Value.slice.injEq] at hv; omega
  · obtain ⟨v, hv, _⟩ := hrel.get hk
    have hs := (hne (fun e => by subst e; simp at hk)).1
    cases hgo : g.ob with
    | none => rw [hgo] at hs; simp at hs
    | some b => simp [hv, hro b hgo k v hv]
  · obtain ⟨u, hu, hr⟩ := hrel.get hk
    have hr' : u = v := hr
    simp [hu, hr']
  · obtain ⟨u, hu, hr⟩ := hrel.get hk
    have hr' : FzR ro ys u := hr
    simp only [List.getD_eq_getElem?_getD, hu, Option.getD_some]
    exact hr'.mono hext

/-- A row is given over to frozen memory. -/
theorem Rel.pubR (h : Rel X E ro w) {n : Nat} {g : Gb} {xs : List (List C)} {T sz : Nat} (hn : E[n]? = some (g, .row xs T sz)) :
    ∃ ro', Ext ro ro' ∧ FzR ro' xs (.slice (obA g.ob 0) xs.length g.cap) ∧ g.len = xs.length ∧ Rel X (mapB (B.pub n xs) (E.set n (g, .dead))) ro' w := by
  obtain ⟨hrow, hglen, hxl, hsh, hown, hrel, _⟩ := h.own n _ _ hn
  have hk := h.kill hn
  let ro' : RO := fun b' off => if g.ob = some b' then g.vs[off]? else ro b' off
  have hnb : ∀ b, g.ob = some b → ∀ off c, ro b off ≠ some c := fun b hb off c hc => by have := h.apart b off c hc n g _ hn hb; simp [B.live] at this
  have hext : Ext ro ro' := by
    intro b' off c hc
    simp only [ro']
    rw [if_neg (fun e => hnb b' e off c hc)]
    exact hc
  have hro : ∀ b, g.ob = some b → ∀ off v, g.vs[off]? = some v → ro' b off = some v := fun b hb off v hv => by simp only [ro', hb, if_true]; exact hv
  have hfz := row_fz h hn hext hro
  have hcell : ∀ b, g.ob = some b → ∀ off v, g.vs[off]? = some v → w.cell? ⟨b, off, none⟩ = some v := by
    intro b hb off v hv
    rw [hb] at hown
    have := World.ownsRow.cells (h := hown) (g := b) rfl off v hv
    rwa [addr_add0, Nat.zero_add] at this
  have hgm : gm (mapB (B.pub n xs) (E.set n (g, .dead))) = gm E := by rw [gm_mapB, gm_kill hn]
  have hgn : (gm E)[n]? = some g := gm_get hn
  have hlt : n < E.length := (List.getElem?_eq_some_iff.1 hn).1
  have get : ∀ (j : Nat) (gj : Gb) (blk : B), (mapB (B.pub n xs) (E.set n (g, .dead)))[j]? = some (gj, blk) → blk.live = true → j ≠ n ∧ ∃ bk, E[j]? = some (gj, bk) ∧ blk = bk.pub n xs ∧ bk.live = true := by
    intro j gj blk hj hl
    simp only [mapB, List.getElem?_map, List.getElem?_set] at hj
    split at hj
    · rename_i e
      subst e
      simp only [Option.map_some, Option.some.injEq, Prod.mk.injEq, B.pub] at hj
      rw [← hj.2] at hl; simp [B.live] at hl
    · rename_i e
      cases hE : E[j]? with
      | none => simp [hE] at hj
      | some y =>
        simp only [hE, Option.map_some, Option.some.injEq, Prod.mk.injEq] at hj
        obtain ⟨rfl, rfl⟩ := hj
        exact ⟨fun e2 => e e2.symm, y.2, rfl, rfl, by cases hy : y.2 <;> simp_all [B.pub, B.live]⟩
  refine ⟨ro', hext, hfz, hglen, ⟨fun j gj blk hj => ?_, fun j m gj gm' bj bm b hj hm ej em lj lm => ?_, fun b off c hc j gj blk hj ej => ?_, fun b off c hc => ?_, h.ro0.trans hext, fun b off c hc => ?_, fun j b gj blk hj ej lj => ?_, by rw [hgm]; exact h.gx, h.sz, h.keep, h.os, h.tape, h.output⟩⟩
  · by_cases hl : blk.live = true
    · obtain ⟨_, bk, h1, rfl, h3⟩ := get j gj blk hj hl
      have := h.own j gj bk h1
      rw [hgm]
      cases bk with
      | cells cs T =>
        obtain ⟨q1, b, q2, q3, q4⟩ := this
        exact ⟨q1, b, q2, q3, q4.map (f := C.pub n xs) fun _ _ => C.rel_pub hext hgn hglen hfz⟩
      | row ys T' sz' =>
        obtain ⟨q0, q1, q2, q3, q4, q5, q6⟩ := this
        exact ⟨q0, q1, q2, q3, q4, q5.imp fun _ _ => C.fv_mono hext, q6⟩
      | dead => trivial
    · cases blk <;> simp [B.live] at hl; trivial
  · obtain ⟨_, bk, h1, _, h3⟩ := get j _ _ hj lj
    obtain ⟨_, bk', k1, _, k3⟩ := get m _ _ hm lm
    exact h.inj j m gj gm' bk bk' b h1 k1 ej em h3 k3
  · by_cases hl : blk.live = true
    · obtain ⟨hne, bk, h1, _, h3⟩ := get j gj blk hj hl
      simp only [ro'] at hc
      split at hc
      · rename_i he
        exact absurd (h.inj n j g gj _ bk b hn h1 he ej rfl h3).symm hne
      · have := h.apart b off c hc j gj bk h1 ej
        rw [h3] at this; cases this
    · simpa using hl
  · simp only [ro'] at hc
    split at hc
    · rename_i he; exact hcell b he off c hc
    · exact h.rd b off c hc
  · simp only [ro'] at hc
    split at hc
    · rename_i he; exact .inr (h.par n b g _ hn he rfl)
    · exact h.rob b off c hc
  · obtain ⟨_, bk, h1, _, h3⟩ := get j _ _ hj lj
    exact h.par j b gj bk h1 ej h3

theorem hp_kill {n : Nat} {g : Gb} : hp (E.set n (g, .dead)) = (hp E).set n .dead := hp_set E n g .dead
theorem set_oob {n : Nat} (h : E[n]? = none) : (hp E).set n .dead = hp E := by
  rw [List.set_eq_of_length_le]
  rw [hp_len]; exact List.getElem?_eq_none_iff.1 h

theorem gh_sound {k0 : Nat} (hk0 : X.g0.length = k0) {H : Hp} {Q : Fr → Hp → Prop} (h : Gh k0 Q fr H) : ∀ {E : Es} {ro : RO}, H = hp E → FRel N (gm E) ro fr a → Rel X E ro w → ∃ fr' E' ro', Q fr' (hp E') ∧ FRel N (gm E') ro' fr' a ∧ Rel X E' ro' w := by
  induction h with
  | done h => intro E ro he hf hr; subst he; exact ⟨_, _, _, h, hf, hr⟩
  | wk fr' hw _ ih =>
    intro E ro he hf hr
    refine ih he ⟨hf.size, fun i => ?_, hf.defers⟩ hr
    rcases hw i with e | e
    · rw [e]; exact hf.slot i
    · rw [e]; trivial
  | cut k hk _ ih =>
    intro E ro he hf hr
    subst he
    refine ih (E := mapB (B.ren (san k)) (E.take k)) (by rw [hp_mapB]; simp [hp, List.map_take]) ⟨hf.size, fun i => ?_, hf.defers⟩ (hr.cut (by omega))
    refine S.rel_ren (fun n m g h1 h2 => ?_) (hf.slot i)
    unfold san at h1
    split at h1
    · rename_i hlt
      simp only [Option.some.injEq] at h1
      subst h1
      rw [gm_mapB, gm, List.map_take, List.getElem?_take, if_pos hlt]
      exact h2
    · cases h1
  | sel ns hd hl hk _ ih =>
    intro E ro he hf hr
    subst he
    refine ih (E := mapB (B.ren (loc ns)) (pickE E ns)) (by rw [hp_mapB, hp_pick]) ⟨hf.size, fun i => S.rel_ren (fun n m g h1 h2 => by rw [gm_mapB]; exact loc_gm n m g h1 h2) (hf.slot i), hf.defers⟩ (hr.sel hd (fun n hn => by have := hl n hn; rwa [hp_len] at this) fun n g hn => ?_)
    obtain ⟨g', h1, h2⟩ := hr.gx n g hn
    refine ⟨g', ?_, h2⟩
    have hlt : n < k0 := by rw [← hk0]; exact (List.getElem?_eq_some_iff.1 hn).1
    have hns : ns[n]? = some n := by
      have := congrArg (·[n]?) hk
      simpa [List.getElem?_take, hlt, List.getElem?_range] using this
    obtain ⟨blk, hE⟩ := gm_inv h1
    simp [gm, pickE, hns, hE]
  | kill n _ ih =>
    intro E ro he hf hr
    subst he
    cases hE : E[n]? with
    | none => exact ih (set_oob hE) hf hr
    | some y =>
      obtain ⟨g, blk⟩ := y
      exact ih (E := E.set n (g, .dead)) hp_kill.symm (by rw [gm_kill hE]; exact hf) (hr.kill hE)
  | nil sl T sz hsl _ ih =>
    intro E ro he hf hr
    subst he
    refine ih (E := E ++ [((⟨none, true, 0, 0, T, []⟩ : Gb), B.row [] T sz)]) (by rw [hp_app]) ⟨hf.size, fun i => ?_, hf.defers⟩ (hr.push T sz)
    simp only [W.put]
    split
    · rename_i hi
      subst hi
      have := hf.slot i
      rw [hsl] at this
      have h' : a.tmps.getD i undef = .slice none 0 0 := this
      rw [h']
      exact ⟨⟨none, true, 0, 0, T, []⟩, by simp [gm, hp_len], rfl, Nat.le_refl _, ⟨_, _, _, rfl⟩, fun _ => rfl⟩
    · exact S.rel_mono (gext_app _) (Ext.refl _) (hf.slot i)
  | @nilc fr H nm k T sz cs T' hnm hk _ ih =>
    intro E ro he hf hr
    subst he
    obtain ⟨g, hE⟩ := hp_inv hnm
    have hp1 := hr.push T sz
    have hlt := (List.getElem?_eq_some_iff.1 hE).1
    have hE1 : (E ++ [((⟨none, true, 0, 0, T, []⟩ : Gb), B.row [] T sz)])[nm]? = some (g, .cells cs T') := by rw [List.getElem?_append_left hlt]; exact hE
    obtain ⟨q1, b, q2, q3, q4⟩ := hp1.own nm _ _ hE1
    have hle := gext_set (E := E ++ [((⟨none, true, 0, 0, T, []⟩ : Gb), B.row [] T sz)]) (blk' := .cells (cs.set k (.sl (hp E).length 0)) T') hE1 g.le_refl
    have hgm := gm_kill (E := E ++ [((⟨none, true, 0, 0, T, []⟩ : Gb), B.row [] T sz)]) (blk := .cells (cs.set k (.sl (hp E).length 0)) T') hE1
    have h2 := hp1.swap (w' := w) (blk' := .cells (cs.set k (.sl (hp E).length 0)) T') hE1 rfl g.le_refl (Nat.le_refl _) rfl rfl rfl (by
      rw [hgm]
      refine ⟨q1, b, q2, q3, by rw [List.length_set]; exact q4.1, fun i c v h1 h2 => ?_⟩
      rw [List.getElem?_set] at h1
      split at h1
      · rename_i hi
        subst hi
        rw [if_pos (List.getElem?_eq_some_iff.1 hk).1] at h1
        simp only [Option.some.injEq] at h1
        subst h1
        have h' : v = .slice none 0 0 := q4.2 k _ v hk h2
        subst h'
        exact ⟨⟨none, true, 0, 0, T, []⟩, by simp [gm, hp_len], rfl, Nat.le_refl _, ⟨_, _, _, rfl⟩, fun _ => rfl⟩
      · exact q4.2 i c v h1 h2) (.inl ⟨rfl, fun _ _ => rfl⟩)
    refine ih (E := (E ++ [((⟨none, true, 0, 0, T, []⟩ : Gb), B.row [] T sz)]).set nm (g, .cells (cs.set k (.sl (hp E).length 0)) T')) ?_ (by rw [hgm]; exact hf.mono (gext_app _) (Ext.refl _)) h2
    rw [hp_set, hp_app, List.set_append_left _ _ (by rw [hp_len]; exact hlt)]
  | nf sl _ ih =>
    intro E ro he hf hr
    refine ih he ⟨hf.size, fun i => ?_, hf.defers⟩ hr
    simp only [W.put]
    split
    · rename_i hi; subst hi; exact S.rel_nf (hf.slot i)
    · exact hf.slot i
  | pub n xs T sz hn _ ih =>
    intro E ro he hf hr
    subst he
    obtain ⟨g, hE⟩ := hp_inv hn
    obtain ⟨ro', hext, hfz, hglen, hr'⟩ := hr.pubR hE
    refine ih (E := mapB (B.pub n xs) (E.set n (g, .dead))) (by rw [hp_mapB, hp_kill]; rfl) ⟨hf.size, fun i => ?_, hf.defers⟩ hr'
    rw [gm_mapB, gm_kill hE]
    exact S.rel_pub hext (gm_get hE) hglen hfz (hf.slot i)

theorem fin_sound {k0 : Nat} (hk0 : X.g0.length = k0) {H : Hp} {K : S → Hp → Prop} {r : S} (h : Fin k0 K r H) {v : Value} : ∀ {E : Es} {ro : RO}, H = hp E → r.rel (gm E) ro v → Rel X E ro w → ∃ r' E' ro', K r' (hp E') ∧ r'.rel (gm E') ro' v ∧ Rel X E' ro' w := by
  induction h with
  | done h => intro E ro he hf hr; subst he; exact ⟨_, _, _, h, hf, hr⟩
  | sel ns hd hl hk _ ih =>
    intro E ro he hf hr
    subst he
    refine ih (E := mapB (B.ren (loc ns)) (pickE E ns)) (by rw [hp_mapB, hp_pick]) (S.rel_ren (fun n m g h1 h2 => by rw [gm_mapB]; exact loc_gm n m g h1 h2) hf) (hr.sel hd (fun n hn => by have := hl n hn; rwa [hp_len] at this) fun n g hn => ?_)
    obtain ⟨g', h1, h2⟩ := hr.gx n g hn
    refine ⟨g', ?_, h2⟩
    have hlt : n < k0 := by rw [← hk0]; exact (List.getElem?_eq_some_iff.1 hn).1
    have hns : ns[n]? = some n := by
      have := congrArg (·[n]?) hk
      simpa [List.getElem?_take, hlt, List.getElem?_range] using this
    obtain ⟨blk, hE⟩ := gm_inv h1
    simp [gm, pickE, hns, hE]
  | kill n _ ih =>
    intro E ro he hf hr
    subst he
    cases hE : E[n]? with
    | none => exact ih (set_oob hE) hf hr
    | some y =>
      obtain ⟨g, blk⟩ := y
      exact ih (E := E.set n (g, .dead)) hp_kill.symm (by rw [gm_kill hE]; exact hf) (hr.kill hE)
  | @nilc r H nm k T sz cs T' hnm hk _ ih =>
    intro E ro he hf hr
    subst he
    obtain ⟨g, hE⟩ := hp_inv hnm
    have hp1 := hr.push T sz
    have hlt := (List.getElem?_eq_some_iff.1 hE).1
    have hE1 : (E ++ [((⟨none, true, 0, 0, T, []⟩ : Gb), B.row [] T sz)])[nm]? = some (g, .cells cs T') := by rw [List.getElem?_append_left hlt]; exact hE
    obtain ⟨q1, b, q2, q3, q4⟩ := hp1.own nm _ _ hE1
    have hle := gext_set (E := E ++ [((⟨none, true, 0, 0, T, []⟩ : Gb), B.row [] T sz)]) (blk' := .cells (cs.set k (.sl (hp E).length 0)) T') hE1 g.le_refl
    have hgm := gm_kill (E := E ++ [((⟨none, true, 0, 0, T, []⟩ : Gb), B.row [] T sz)]) (blk := .cells (cs.set k (.sl (hp E).length 0)) T') hE1
    have h2 := hp1.swap (w' := w) (blk' := .cells (cs.set k (.sl (hp E).length 0)) T') hE1 rfl g.le_refl (Nat.le_refl _) rfl rfl rfl (by
      rw [hgm]
      refine ⟨q1, b, q2, q3, by rw [List.length_set]; exact q4.1, fun i c v h1 h2 => ?_⟩
      rw [List.getElem?_set] at h1
      split at h1
      · rename_i hi
        subst hi
        rw [if_pos (List.getElem?_eq_some_iff.1 hk).1] at h1
        simp only [Option.some.injEq] at h1
        subst h1
        have h' : v = .slice none 0 0 := q4.2 k _ v hk h2
        subst h'
        exact ⟨⟨none, true, 0, 0, T, []⟩, by simp [gm, hp_len], rfl, Nat.le_refl _, ⟨_, _, _, rfl⟩, fun _ => rfl⟩
      · exact q4.2 i c v h1 h2) (.inl ⟨rfl, fun _ _ => rfl⟩)
    refine ih (E := (E ++ [((⟨none, true, 0, 0, T, []⟩ : Gb), B.row [] T sz)]).set nm (g, .cells (cs.set k (.sl (hp E).length 0)) T')) ?_ (by rw [hgm]; exact S.rel_mono (gext_app _) (Ext.refl _) hf) h2
    rw [hp_set, hp_app, List.set_append_left _ _ (by rw [hp_len]; exact hlt)]
  | pub n xs T sz hn _ ih =>
    intro E ro he hf hr
    subst he
    obtain ⟨g, hE⟩ := hp_inv hn
    obtain ⟨ro', hext, hfz, hglen, hr'⟩ := hr.pubR hE
    refine ih (E := mapB (B.pub n xs) (E.set n (g, .dead))) (by rw [hp_mapB, hp_kill]; rfl) ?_ hr'
    rw [gm_mapB, gm_kill hE]
    exact S.rel_pub hext (gm_get hE) hglen hfz hf
end
end Go.W
