/- From Meets to a call in a world without own blocks; the row's after-state. -/
import Derived.Test.YtngmjggconefcaaW15
import Derived.ProofKit
import Derived.OpenShut
namespace Go.W
open Go.RowKit
/-- What stood before stands as it was. -/
structure Stay (w w' : World) : Prop where
  os : w'.os = w.os
  out : w'.output = w.output
  size : w.heap.size ≤ w'.heap.size
  keep : ∀ b : Nat, b < w.heap.size → w'.heap[b]? = w.heap[b]?
theorem Stay.kept {w w' : World} (h : Stay w w') (may : MemPlace → Prop) : w.keptBut w' may := by
  refine ⟨h.os, h.out, fun i hi => ?_⟩
  rw [h.keep i hi]
  split
  · rename_i h1 h2; rw [h1] at h2; cases h2; exact ⟨rfl, rfl, rfl, fun _ _ => rfl⟩
  · rename_i h1 h2; rw [h1] at h2; cases h2; exact Or.inr ⟨rfl, rfl⟩
  · rfl
theorem Stay.frozen {w w' : World} (h : Stay w w') {a : Addr} (ha : a.block < w.heap.size) : w'.frozen? a = w.frozen? a := by
  unfold World.frozen?; rw [h.keep _ ha]
theorem Stay.cell {w w' : World} (h : Stay w w') {a : Addr} (ha : a.block < w.heap.size) : w'.cell? a = w.cell? a := by
  unfold World.cell?; rw [h.keep _ ha]
theorem rel_nil {w : World} {ro : RO} (h : ∀ (b off : Nat) (v : Value), ro b off = some v → w.cell? ⟨b, off, none⟩ = some v) : Rel ⟨w, blks [], ro, gm []⟩ [] ro w where
  own := fun n g blk h => by simp at h
  inj := fun n m gn gm bn bm b h => by simp at h
  apart := fun b off v _ n g blk h => by simp at h
  rd := h
  ro0 := fun _ _ _ h => h
  rob := fun b off v h => .inl h
  par := fun n b g blk h => by simp at h
  gx := .refl _
  sz := Nat.le_refl _
  keep := fun b _ _ => rfl
  os := rfl
  tape := rfl
  output := rfl
/-- A function without own blocks, called. -/
theorem Meets.run {P : Program} {f : FuncId} {s : Fun} (hm : Meets P f s.sp) {av : List S} {vs : List Value} {ro : RO} {w : World} {x : A} (hpre : s.pre av) (hval : s.val av = x) (hl : av.length = vs.length)
    (hrel : ∀ (i : Nat) (x : S) (v : Value), av[i]? = some x → vs[i]? = some v → x.rel (gm []) ro v) (hro : ∀ (b off : Nat) (v : Value), ro b off = some v → w.cell? ⟨b, off, none⟩ = some v) :
    Calls P f vs.toArray w fun e w' => ∃ v γ ro', e = .returned v ∧ S.rel γ ro' (.va x) v ∧ Stay w w' := by
  subst hval
  refine (hm.2 av vs [] ro w (fun r H => r = .va (s.val av) ∧ H = []) hl hrel (rel_nil hro) ⟨⟨hpre, rfl⟩, rfl, rfl⟩).mono ?_
  rintro e w' ⟨r, v, E', ro', rfl, h1, ⟨rfl, h2⟩, h3⟩
  exact ⟨v, _, ro', rfl, h1, h3.os, h3.output, h3.sz, fun b hb => h3.keep b hb (by simp [blks])⟩
theorem Meets.yes {P : Program} {f : FuncId} {s : Fun} (hm : Meets P f s.sp) {av : List S} {vs : List Value} {ro : RO} {w : World} (hpre : s.pre av) (hval : s.val av = .c1 (.vl (.bool true))) (hl : av.length = vs.length)
    (hrel : ∀ (i : Nat) (x : S) (v : Value), av[i]? = some x → vs[i]? = some v → x.rel (gm []) ro v) (hro : ∀ (b off : Nat) (v : Value), ro b off = some v → w.cell? ⟨b, off, none⟩ = some v) :
    Calls P f vs.toArray w fun e w' => e = .returned (.bool true) ∧ Stay w w' := by
  refine (hm.run hpre hval hl hrel hro).mono ?_
  rintro e w' ⟨v, γ, ro', rfl, h1, h2⟩
  have : v = .bool true := h1
  exact ⟨by rw [this], h2⟩
section
variable {H : Type} {enc : TypeId × Value → H} {P : Program}
/-- The after-state of a call that changes nothing that stood before. -/
theorem post_of_stay {f : Func} {s : ChangeSpec} {apart fresh handsOn again : Bool} {W W' : World} {args : Array Value} {v : Value} {ds gs : List (DataW H)} {before pa pv : List MemPlace}
    (hW : DataW.Whole enc P f.params.toList s.vars apart W args.toList ds gs before)
    (hres : ∀ (b : Nat) (sp : Nat → Bool) (hd : Bool), DataW.TrodAll enc P W' b sp hd f.resultTypes.toList (v.resultList f.resultTypes.size) (s.fn H (ds ++ gs)).results [])
    (hargs : ∀ sp : Nat → Bool, (∀ p ∈ before, sp p.block = true) → DataW.TrodAll enc P W' 0 sp true f.params.toList args.toList (s.fn H (ds ++ gs)).args pa)
    (hvars : ∀ sp : Nat → Bool, (∀ p ∈ before, sp p.block = true) → DataW.TrodVars enc P W' sp s.vars (s.fn H (ds ++ gs)).vars pv)
    (hps : before = pa ++ pv) (hs : Stay W W')
    (hok : ∀ (j : Nat) (t : TypeId) (r : Value), f.resultTypes[j]? = some t → (v.resultList f.resultTypes.size)[j]? = some r → Value.okWide P W' .any 0 t r) :
    s.post enc P f apart fresh handsOn again W args v W' := by
  have hlt : ∀ p ∈ before, p.block < W.heap.size := fun p hp => hW.lt p hp
  have hsp : ∀ p ∈ before, (fun b => decide (b < W.heap.size)) p.block = true := fun p hp => by simpa using hlt p hp
  have hall : ∀ p ∈ before, (fun _ : Nat => true) p.block = true := fun _ _ => rfl
  obtain ⟨_, _, _, _, _, hz, hn⟩ := id hW
  refine ⟨ds, gs, before, [], pa, pv, hW, hres _ _ _, hargs _ hsp, hvars _ hsp, World.keptBut_mono (fun p hp => ⟨hp, .inr ?_⟩) (hs.kept (· ∈ before)), fun _ => ⟨hok, _, _, ([] ++ pa) ++ pv,
    ⟨[] ++ pa, pv, ChangeShapes.trodAll_append (hargs _ hall) (hres _ _ _), hvars _ hall, rfl, fun b off hp => ?_, fun ha => ?_⟩, fun p hp _ => ?_⟩⟩
  · rw [hps, List.mem_append] at hp; exact hp
  · have hb : MemPlace.cell b off ∈ before := by rw [hps]; simpa using hp
    rw [hs.frozen (hlt _ hb)]
    exact hz b off hb
  · have := hn ha
    rw [hps] at this
    simpa using this
  · rw [hps]
    simpa using hp
end
end Go.W
