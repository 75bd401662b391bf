/- Lemmas and walks for the proof. -/
import Derived.Test.YtpfmkfafagiicaaOc
import Derived.Test.YtpfmkfafagiicaaProg
import Derived.ProofKit
import Derived.OpenShut
import Derived.ChangeStays
import Derived.Deep.Slices
import Derived.JoinedCond
namespace Go.Proofs.Ytpfmkfafagiicaa
open Go.W
def dpSp : W.Spec := fun av H K => ∃ (ss : List St) (D : ByteArray → Int) (r : ByteArray → Nat) (t : St) (ks : List Value) (vs : List St) (ks' : List Value) (vs' : List En), av = [ixV, .va (.gs (stC t))] ∧ H = ixH ks vs ks' vs' ∧
  IxS ks vs ss ∧ Dp ss D r ∧ fS ss t.nm = some t ∧ K (iS .i64 (D t.nm)) (ixH ks vs ks' vs')
theorem dp_use {ss : List St} {D : ByteArray → Int} {r : ByteArray → Nat} {t : St} {ks : List Value} {vs : List St} {ks' : List Value} {vs' : List En} {K : S → Hp → Prop} (h1 : IxS ks vs ss) (h2 : Dp ss D r) (h3 : fS ss t.nm = some t) (hK : K (iS .i64 (D t.nm)) (ixH ks vs ks' vs')) :
    dpSp [ixV, .va (.gs (stC t))] (ixH ks vs ks' vs') K := ⟨ss, D, r, t, ks, vs, ks', vs', rfl, rfl, h1, h2, h3, hK⟩
set_option maxRecDepth 100000 in
theorem mDepth : Meets Try.prog 51 dpSp := by
  refine meets_all 0 (t := fun N => fun av H K => ∃ (ss : List St) (D : ByteArray → Int) (r : ByteArray → Nat) (t : St) (ks : List Value) (vs : List St) (ks' : List Value) (vs' : List En), av = [ixV, .va (.gs (stC t))] ∧ H = ixH ks vs ks' vs' ∧
    IxS ks vs ss ∧ Dp ss D r ∧ fS ss t.nm = some t ∧ r t.nm < N ∧ K (iS .i64 (D t.nm)) (ixH ks vs ks' vs')) (fun N => ?_) fun av H K ⟨ss, D, r, t, ks, vs, ks', vs', e1, e2, h1, h2, h3, hK⟩ => ⟨r t.nm + 1, ss, D, r, t, ks, vs, ks', vs', e1, e2, h1, h2, h3, Nat.lt_succ_self _, hK⟩
  refine meets_fn Try.func51 ok51 2 (by rw [Try.ntmps51]; decide) (meetsAll_s (mDep N) (meetsAll_nil _)) (fun av H K h => by obtain ⟨_, _, _, _, _, _, _, _, rfl, _⟩ := h; rfl) ?_
  rintro av H K ⟨ss, D, r, t, ks, vs, ks', vs', rfl, rfl, h1, h2, ht, hr, hK⟩
  simp -dsimp only [go_sem, stC, pc51, rs51]
  refine ⟨ss, D, r, t, ks, vs, ks', vs', [], [], rfl, rfl, h1, h2, ht, hr, ⟨rfl, fun n v h => by cases h⟩, fun ms ds _ => ?_⟩
  simp -dsimp only [go_sem]
  exact .sel [0, 1] (by simp) (by simp) rfl (.done (by simp -dsimp only [go_sem]; exact hK))
end Go.Proofs.Ytpfmkfafagiicaa
namespace Go.Proofs.Ytpfmkfafagiicaa
open Go.W
def refT (t : St) (b : ByteArray) : Prop := ∃ f ∈ t.fs, isNamed f.ty = true ∧ nmOf f.ty = b
def isRef (ss : List St) (a b : ByteArray) : Prop := refT ((fS ss a).getD default) b
inductive Reach (ss : List St) : ByteArray → ByteArray → Prop
  | one {a b : ByteArray} : isRef ss a b → Reach ss a b
  | more {a b c : ByteArray} : Reach ss a b → isRef ss b c → Reach ss a c
theorem Reach.head {ss : List St} {a b c : ByteArray} (h : isRef ss a b) (r : Reach ss b c) : Reach ss a c := by
  induction r with
  | one h2 => exact .more (.one h) h2
  | more _ h2 ih => exact .more ih h2
theorem Reach.trans {ss : List St} {a b c : ByteArray} (h : Reach ss a b) (r : Reach ss b c) : Reach ss a c := by
  induction r with
  | one h2 => exact .more h h2
  | more _ h2 ih => exact .more ih h2
theorem Reach.first {ss : List St} {a c : ByteArray} (r : Reach ss a c) : ∃ b, isRef ss a b ∧ (c = b ∨ Reach ss b c) := by
  induction r with
  | one h => exact ⟨_, h, .inl rfl⟩
  | more _ h2 ih =>
    obtain ⟨b, h3, h4⟩ := ih
    refine ⟨b, h3, .inr ?_⟩
    rcases h4 with rfl | h4
    · exact .one h2
    · exact .more h4 h2
theorem not_inB {o : List ByteArray} {n : ByteArray} : inB o n = false ↔ n ∉ o := by
  rw [← Bool.not_eq_true, inB_iff]
theorem vstep_cl (ss : List St) {N : Nat} (ih : ∀ t o, fresh ss o < N → (∀ b, refT t b → b ∈ vis ss N t o) ∧ ∀ x ∈ vis ss N t o, x ∉ o → ∀ y, isRef ss x y → y ∈ vis ss N t o) (o : List ByteArray) (f : Fl) (h : fresh ss o < N + 1) :
    (isNamed f.ty = true → nmOf f.ty ∈ vStep (vis ss N) ss o f) ∧ ∀ x ∈ vStep (vis ss N) ss o f, x ∉ o → ∀ y, isRef ss x y → y ∈ vStep (vis ss N) ss o f := by
  cases c1 : isNamed f.ty with
  | false =>
    have : vStep (vis ss N) ss o f = o := by unfold vStep; rw [c1]; rfl
    rw [this]; exact ⟨fun h => by simp at h, fun x hx hn => absurd hx hn⟩
  | true =>
  cases c2 : inB o (nmOf f.ty) with
  | true =>
    have : vStep (vis ss N) ss o f = o := by unfold vStep; rw [c1, c2]; rfl
    rw [this]; exact ⟨fun _ => (inB_iff _ _).1 c2, fun x hx hn => absurd hx hn⟩
  | false =>
    cases hs : fS ss (nmOf f.ty) with
    | none =>
      have : vStep (vis ss N) ss o f = o ++ [nmOf f.ty] := by unfold vStep; rw [c1, c2, hs]; rfl
      rw [this]
      refine ⟨fun _ => by simp, fun x hx hn y hy => ?_⟩
      have : x = nmOf f.ty := by simpa [hn] using hx
      subst this
      unfold isRef at hy; rw [hs] at hy
      obtain ⟨g, hg, _⟩ := hy; cases hg
    | some d =>
      have : vStep (vis ss N) ss o f = vis ss N d (o ++ [nmOf f.ty]) := by unfold vStep; rw [c1, c2, hs]; rfl
      rw [this]
      have hl := fresh_lt c2 hs
      obtain ⟨i1, i2⟩ := ih d (o ++ [nmOf f.ty]) (by omega)
      obtain ⟨q, hq⟩ := vis_pfx ss N d (o ++ [nmOf f.ty])
      refine ⟨fun _ => by rw [hq]; simp, fun x hx hn y hy => ?_⟩
      by_cases hxn : x = nmOf f.ty
      · subst hxn
        unfold isRef at hy; rw [hs] at hy
        exact i1 y hy
      · exact i2 x hx (by simp [hn, hxn]) y hy
theorem vfold_cl (ss : List St) {N : Nat} (ih : ∀ t o, fresh ss o < N → (∀ b, refT t b → b ∈ vis ss N t o) ∧ ∀ x ∈ vis ss N t o, x ∉ o → ∀ y, isRef ss x y → y ∈ vis ss N t o) : ∀ (l : List Fl) (o : List ByteArray), fresh ss o < N + 1 →
    (∀ f ∈ l, isNamed f.ty = true → nmOf f.ty ∈ l.foldl (vStep (vis ss N) ss) o) ∧ ∀ x ∈ l.foldl (vStep (vis ss N) ss) o, x ∉ o → ∀ y, isRef ss x y → y ∈ l.foldl (vStep (vis ss N) ss) o
  | [], o, _ => ⟨fun f h => (List.not_mem_nil h).elim, fun x hx hn => absurd hx hn⟩
  | f :: l, o, h => by
    obtain ⟨s1, s2⟩ := vstep_cl ss ih o f h
    have hp := vStep_pfx (vis_pfx ss N) ss o f
    obtain ⟨r1, r2⟩ := vfold_cl ss ih l (vStep (vis ss N) ss o f) (by have := hp.fresh (ss := ss); omega)
    obtain ⟨q, hq⟩ := fold_pfx (fun o f => vStep_pfx (vis_pfx ss N) ss o f) l (vStep (vis ss N) ss o f)
    have hin : ∀ x, x ∈ vStep (vis ss N) ss o f → x ∈ l.foldl (vStep (vis ss N) ss) (vStep (vis ss N) ss o f) := fun x hx => by rw [hq]; simp [hx]
    rw [List.foldl_cons]
    refine ⟨fun g hg hn => ?_, fun x hx hn y hy => ?_⟩
    · rcases List.mem_cons.1 hg with rfl | hg
      · exact hin _ (s1 hn)
      · exact r1 g hg hn
    · by_cases hx2 : x ∈ vStep (vis ss N) ss o f
      · exact hin _ (s2 x hx2 hn y hy)
      · exact r2 x hx hx2 y hy
theorem vis_cl (ss : List St) : ∀ (N : Nat) (t : St) (o : List ByteArray), fresh ss o < N → (∀ b, refT t b → b ∈ vis ss N t o) ∧ ∀ x ∈ vis ss N t o, x ∉ o → ∀ y, isRef ss x y → y ∈ vis ss N t o
  | 0, _, _, h => absurd h (Nat.not_lt_zero _)
  | N + 1, t, o, h => by
    obtain ⟨r1, r2⟩ := vfold_cl ss (vis_cl ss N) t.fs o h
    exact ⟨fun b ⟨f, hf, hn, hb⟩ => hb ▸ r1 f hf hn, r2⟩
theorem vis_sound (ss : List St) : ∀ (N : Nat) (t : St) (o : List ByteArray), ∀ x ∈ vis ss N t o, x ∈ o ∨ ∃ b, refT t b ∧ (x = b ∨ Reach ss b x)
  | 0, _, o => fun x hx => .inl hx
  | N + 1, t, o => by
    have step : ∀ (o : List ByteArray) (f : Fl), ∀ x ∈ vStep (vis ss N) ss o f, x ∈ o ∨ (isNamed f.ty = true ∧ (x = nmOf f.ty ∨ Reach ss (nmOf f.ty) x)) := fun o f x hx => by
      cases c1 : isNamed f.ty with
      | false =>
        have : vStep (vis ss N) ss o f = o := by unfold vStep; rw [c1]; rfl
        rw [this] at hx; exact .inl hx
      | true =>
      cases c2 : inB o (nmOf f.ty) with
      | true =>
        have : vStep (vis ss N) ss o f = o := by unfold vStep; rw [c1, c2]; rfl
        rw [this] at hx; exact .inl hx
      | false =>
        cases hs : fS ss (nmOf f.ty) with
        | none =>
          have : vStep (vis ss N) ss o f = o ++ [nmOf f.ty] := by unfold vStep; rw [c1, c2, hs]; rfl
          rw [this] at hx
          rcases List.mem_append.1 hx with h | h
          · exact .inl h
          · exact .inr ⟨rfl, .inl (by simpa using h)⟩
        | some d =>
          have : vStep (vis ss N) ss o f = vis ss N d (o ++ [nmOf f.ty]) := by unfold vStep; rw [c1, c2, hs]; rfl
          rw [this] at hx
          rcases vis_sound ss N d _ x hx with h | ⟨b, hb, h⟩
          · rcases List.mem_append.1 h with h | h
            · exact .inl h
            · exact .inr ⟨rfl, .inl (by simpa using h)⟩
          · have hr : isRef ss (nmOf f.ty) b := by unfold isRef; rw [hs]; exact hb
            refine .inr ⟨rfl, .inr ?_⟩
            rcases h with rfl | h
            · exact .one hr
            · exact .head hr h
    have fold : ∀ (l : List Fl) (o : List ByteArray), ∀ x ∈ l.foldl (vStep (vis ss N) ss) o, x ∈ o ∨ ∃ f ∈ l, isNamed f.ty = true ∧ (x = nmOf f.ty ∨ Reach ss (nmOf f.ty) x) := by
      intro l
      induction l with
      | nil => exact fun o x hx => .inl hx
      | cons f l ih =>
        intro o x hx
        rw [List.foldl_cons] at hx
        rcases ih _ x hx with h | ⟨g, hg, h⟩
        · rcases step o f x h with h | h
          · exact .inl h
          · exact .inr ⟨f, List.mem_cons_self, h⟩
        · exact .inr ⟨g, List.mem_cons_of_mem _ hg, h⟩
    intro x hx
    rcases fold t.fs o x hx with h | ⟨f, hf, hn, h⟩
    · exact .inl h
    · exact .inr ⟨nmOf f.ty, ⟨f, hf, hn, rfl⟩, h⟩
theorem vis_nodup (ss : List St) : ∀ (N : Nat) (t : St) (o : List ByteArray), o.Nodup → (vis ss N t o).Nodup
  | 0, _, _ => id
  | N + 1, t, o => by
    have step : ∀ (o : List ByteArray) (f : Fl), o.Nodup → (vStep (vis ss N) ss o f).Nodup := fun o f ho => by
      have app : inB o (nmOf f.ty) = false → (o ++ [nmOf f.ty]).Nodup := fun c2 => by
        rw [not_inB] at c2
        rw [List.nodup_append]
        exact ⟨ho, by simp, fun a ha b hb => by simp at hb; subst hb; exact fun e => c2 (e ▸ ha)⟩
      unfold vStep
      cases c1 : isNamed f.ty with
      | false => exact ho
      | true =>
      cases c2 : inB o (nmOf f.ty) with
      | true => exact ho
      | false =>
        cases hs : fS ss (nmOf f.ty) with
        | none => exact app c2
        | some d => exact vis_nodup ss N d _ (app c2)
    show o.Nodup → (t.fs.foldl (vStep (vis ss N) ss) o).Nodup
    generalize t.fs = l
    induction l generalizing o with
    | nil => exact id
    | cons f l ih => exact fun h => ih _ (step o f h)
theorem mem_visAll (ss : List St) (n x : ByteArray) : x ∈ visAll ss n ↔ Reach ss n x := by
  unfold visAll
  constructor
  · intro h
    rcases vis_sound ss _ _ _ x h with h | ⟨b, hb, h⟩
    · cases h
    · rcases h with rfl | h
      · exact .one hb
      · exact .head hb h
  · intro h
    obtain ⟨c1, c2⟩ := vis_cl ss (ss.length + 1) ((fS ss n).getD default) [] (Nat.lt_succ_of_le (fresh_le ss []))
    induction h with
    | one h => exact c1 _ h
    | more _ h2 ih => exact c2 _ ih (by simp) _ h2
theorem visAll_nodup (ss : List St) (n : ByteArray) : (visAll ss n).Nodup := vis_nodup ss _ _ _ .nil
theorem mem_srtB {l : List ByteArray} {x : ByteArray} : x ∈ srtB l ↔ x ∈ l := by
  unfold srtB
  rw [List.mem_map]
  constructor
  · rintro ⟨y, hy, rfl⟩
    rw [List.mem_mergeSort, List.mem_map] at hy
    obtain ⟨z, hz, rfl⟩ := hy
    rw [mk_bl]; exact hz
  · intro h
    exact ⟨bl x, by rw [List.mem_mergeSort]; exact List.mem_map_of_mem h, mk_bl x⟩
theorem mem_usesF {ss : List St} {n x : ByteArray} : x ∈ usesF ss n ↔ Reach ss n x := by unfold usesF; rw [mem_srtB, mem_visAll]
theorem usesF_len (ss : List St) (n : ByteArray) : (usesF ss n).length = (visAll ss n).length := srtB_len _
end Go.Proofs.Ytpfmkfafagiicaa
namespace Go.Proofs.Ytpfmkfafagiicaa
open Go.W
structure Gd (ss : List St) (es : List En) : Prop where
  ok : ∀ s ∈ ss, s.ok
  n : ss.length ≤ 16
  m : es.length ≤ 16
  val : ∀ s ∈ ss, ∀ f ∈ s.fs, valF ss es f.ty = true
  lv : ∀ s ∈ ss, ∀ f ∈ s.fs, (lvT f.ty).1 ≤ 1000000000
  nd : ∀ s ∈ ss, fS ss s.nm = some s
def Acy (ss : List St) : Prop := ∀ s ∈ ss, inB (usesF ss s.nm) s.nm = false
theorem val_list {ss : List St} {es : List En} {s : Int} {n : ByteArray} {e : List Ty} (h : valF ss es (.mk 5 s n e) = true) : ∃ u, e = [u] ∧ valF ss es u = true := by
  rw [valF] at h
  simp only [show ((5 : Int) == 1) = false from rfl, show ((5 : Int) == 2) = false from rfl, show ((5 : Int) == 3) = false from rfl, show ((5 : Int) == 4) = false from rfl, show ((5 : Int) == 5) = true from rfl, Bool.cond_true, Bool.cond_false, Bool.and_eq_true] at h
  obtain ⟨_, h⟩ := h
  match e, h with
  | [], h => simp [valFs] at h
  | [u], h => exact ⟨u, rfl, by simpa [valFs] using h⟩
  | u :: v :: r, h => simp [valFs] at h
theorem val_lv (ss : List St) (es : List En) : ∀ (N : Nat) (t : Ty), t.h ≤ N → valF ss es t = true → LOk t ∧ namedT t = (lvT t).2 ∧ ((namedT t).k == 5) = false ∧ valF ss es (namedT t) = true
  | 0, t, h, _ => absurd h (by have := t.h_pos; omega)
  | N + 1, .mk k s n e, h, hv => by
    cases k5 : k == 5 with
    | true =>
      obtain rfl : k = 5 := by simpa using k5
      obtain ⟨u, rfl, hu⟩ := val_list hv
      obtain ⟨i1, i2, i3, i4⟩ := val_lv ss es N u (by rw [Ty.h, Ty.hs, Ty.hs] at h; omega) hu
      rw [named_one]
      exact ⟨.list i1, by rw [i2]; simp [lvT, lvL], i3, i4⟩
    | false =>
      have h1 : namedT (.mk k s n e) = .mk k s n e := named_stop (by rw [k5]; rfl)
      rw [h1]
      exact ⟨.stop k5, by rw [lvT, k5]; rfl, k5, hv⟩
theorem val_nm {ss : List St} {es : List En} {t : Ty} (hv : valF ss es t = true) (hn : isNamed t = true) : hasS ss (nmOf t) = true ∨ hasE es (nmOf t) = true := by
  obtain ⟨_, _, _, h⟩ := val_lv ss es t.h t (Nat.le_refl _) hv
  unfold isNamed at hn
  unfold nmOf
  revert h hn
  generalize namedT t = u
  cases u with
  | mk k s n e =>
  intro hn h
  simp only [Ty.k, Bool.or_eq_true, beq_iff_eq] at hn
  rcases hn with rfl | rfl
  · left; rw [valF] at h; simp at h; exact h.1.1
  · right; rw [valF] at h; simp at h; exact h.1.1
theorem val_str {ss : List St} {es : List En} {t : Ty} (hv : valF ss es t = true) (hk : ((lvT t).2.k == 6) = true) : isNamed t = true ∧ nmOf t = (lvT t).2.n ∧ hasS ss (lvT t).2.n = true ∧ LOk t := by
  obtain ⟨h1, h2, _, h⟩ := val_lv ss es t.h t (Nat.le_refl _) hv
  unfold isNamed nmOf
  rw [h2] at h ⊢
  refine ⟨by rw [hk]; rfl, rfl, ?_, h1⟩
  revert h hk
  generalize (lvT t).2 = u
  cases u with
  | mk k s n e =>
  intro hk h
  obtain rfl : k = 6 := by simpa [Ty.k] using hk
  rw [valF] at h; simp at h; exact h.1.1
theorem fS_mem {ss : List St} {n : ByteArray} {t : St} (h : fS ss n = some t) : t ∈ ss ∧ t.nm = n := ⟨List.mem_of_find?_eq_some h, by have := List.find?_some h; simpa using this⟩
theorem fEn_mem {ss : List En} {n : ByteArray} {t : En} (h : fEn ss n = some t) : t ∈ ss ∧ t.nm = n := ⟨List.mem_of_find?_eq_some h, by have := List.find?_some h; simpa using this⟩
theorem ref_mem {ss : List St} {a b : ByteArray} (h : isRef ss a b) : ∃ t f, fS ss a = some t ∧ t ∈ ss ∧ f ∈ t.fs ∧ isNamed f.ty = true ∧ nmOf f.ty = b := by
  obtain ⟨f, hf, hn, hb⟩ := h
  cases hs : fS ss a with
  | none => rw [hs] at hf; cases hf
  | some t => rw [hs] at hf; exact ⟨t, f, rfl, (fS_mem hs).1, hf, hn, hb⟩
theorem reach_nm {ss : List St} {es : List En} (g : Gd ss es) {a b : ByteArray} (h : Reach ss a b) : hasS ss b = true ∨ hasE es b = true := by
  have : ∃ c, isRef ss c b := by cases h with
    | one h => exact ⟨_, h⟩
    | more _ h => exact ⟨_, h⟩
  obtain ⟨c, h⟩ := this
  obtain ⟨t, f, _, ht, hf, hn, rfl⟩ := ref_mem h
  exact val_nm (g.val t ht f hf) hn
theorem nodup_sub {α : Type} [DecidableEq α] : ∀ {l m : List α}, l.Nodup → (∀ x ∈ l, x ∈ m) → l.length ≤ m.length
  | [], _, _, _ => Nat.zero_le _
  | x :: l, m, h, hs => by
    have h2 := List.nodup_cons.1 h
    have hx := hs x List.mem_cons_self
    have := nodup_sub (m := m.erase x) h2.2 fun y hy => (List.mem_erase_of_ne (fun e => h2.1 (by rw [← e]; exact hy))).2 (hs y (List.mem_cons_of_mem _ hy))
    rw [List.length_erase_of_mem hx] at this
    have hp := List.length_pos_of_mem hx
    simp only [List.length_cons]; omega
theorem Gd.vlen {ss : List St} {es : List En} (g : Gd ss es) (n : ByteArray) : (visAll ss n).length ≤ 32 := by
  have h := nodup_sub (m := ss.map (·.nm) ++ es.map (·.nm)) (visAll_nodup ss n) fun x hx => by
    rw [mem_visAll] at hx
    rw [List.mem_append, List.mem_map, List.mem_map]
    rcases reach_nm g hx with h | h
    · left; unfold hasS at h; rw [List.any_eq_true] at h; obtain ⟨t, h1, h2⟩ := h; exact ⟨t, h1, of_decide_eq_true h2⟩
    · right; unfold hasE at h; rw [List.any_eq_true] at h; obtain ⟨t, h1, h2⟩ := h; exact ⟨t, h1, of_decide_eq_true h2⟩
  have h1 := g.n
  have h2 := g.m
  simp only [List.length_append, List.length_map] at h
  omega
def rank (ss : List St) (n : ByteArray) : Nat := ss.countP fun s => inB (visAll ss n) s.nm
theorem countP_lt {α : Type} {p q : α → Bool} : ∀ {l : List α}, (∀ x ∈ l, p x = true → q x = true) → (∃ x ∈ l, q x = true ∧ p x = false) → l.countP p < l.countP q
  | [], _, ⟨_, h, _⟩ => by cases h
  | y :: l, h, ⟨x, hx, h1, h2⟩ => by
    have hm := List.countP_mono_left fun z hz => h z (List.mem_cons_of_mem _ hz)
    have hy := h y List.mem_cons_self
    rw [List.countP_cons, List.countP_cons]
    rcases List.mem_cons.1 hx with rfl | hx
    · rw [h1, h2]; simp; omega
    · have := countP_lt (fun z hz => h z (List.mem_cons_of_mem _ hz)) ⟨x, hx, h1, h2⟩
      cases hp : p y with
      | true => rw [hy hp]; simp; exact this
      | false => cases q y <;> simp <;> omega
theorem rank_le (ss : List St) (n : ByteArray) : rank ss n ≤ ss.length := List.countP_le_length
theorem rank_lt {ss : List St} {n m : ByteArray} {u : St} (h : isRef ss n m) (hu : fS ss m = some u) (ha : Acy ss) : rank ss m < rank ss n := by
  obtain ⟨h1, h2⟩ := fS_mem hu
  refine countP_lt (fun s _ hs => ?_) ⟨u, h1, ?_, ?_⟩
  · rw [inB_iff, mem_visAll] at hs ⊢; exact .head h hs
  · rw [inB_iff, mem_visAll, h2]; exact .one h
  · rw [not_inB, mem_visAll, ← mem_usesF, ← not_inB]
    have := ha u h1
    rw [h2] at this ⊢; exact this
theorem maxF_le {dp : ByteArray → Int} {B : Int} (hB : 0 ≤ B) {l : List Fl} (h : ∀ f ∈ l, fdep dp f.ty ≤ B) : maxF dp l ≤ B := by
  have key : ∀ (l : List Fl) (m : Int), m ≤ B → (∀ f ∈ l, fdep dp f.ty ≤ B) → l.foldl (gF dp) m ≤ B := by
    intro l
    induction l with
    | nil => exact fun m hm _ => hm
    | cons f l ih => exact fun m hm h => ih _ (by have := h f List.mem_cons_self; show max m (fdep dp f.ty) ≤ B; omega) fun g hg => h g (List.mem_cons_of_mem _ hg)
  exact key l 0 hB h
theorem maxF_nonneg (dp : ByteArray → Int) (l : List Fl) : 0 ≤ maxF dp l := gF_le dp l 0
theorem maxF_ge {dp : ByteArray → Int} {l : List Fl} {f : Fl} (h : f ∈ l) : fdep dp f.ty ≤ maxF dp l := by
  have key : ∀ (l : List Fl) (m : Int), f ∈ l → fdep dp f.ty ≤ l.foldl (gF dp) m := by
    intro l
    induction l with
    | nil => exact fun m h => by cases h
    | cons g l ih =>
      intro m h
      rcases List.mem_cons.1 h with rfl | h
      · refine Int.le_trans ?_ (gF_le dp l (max m (fdep dp f.ty)))
        omega
      · exact ih _ h
  exact key l 0 h
theorem maxF_congr {dp dq : ByteArray → Int} {l : List Fl} (h : ∀ f ∈ l, fdep dp f.ty = fdep dq f.ty) : maxF dp l = maxF dq l := by
  have key : ∀ (l : List Fl) (m : Int), (∀ f ∈ l, fdep dp f.ty = fdep dq f.ty) → l.foldl (gF dp) m = l.foldl (gF dq) m := by
    intro l
    induction l with
    | nil => exact fun _ _ => rfl
    | cons f l ih => exact fun m h => by rw [List.foldl_cons, List.foldl_cons, gF, h f List.mem_cons_self]; exact ih _ fun g hg => h g (List.mem_cons_of_mem _ hg)
  exact key l 0 h
def dK : Nat := 99
def dD (ss : List St) (n : ByteArray) : Int := dN ss (dK + 1) n
theorem dN_succ (ss : List St) (N : Nat) (n : ByteArray) : dN ss (N + 1) n = maxF (dN ss N) ((fS ss n).getD default).fs + 1 := rfl
theorem dK_eq : dK = 99 := rfl
theorem dD_def (ss : List St) (n : ByteArray) : dD ss n = dN ss (dK + 1) n := rfl
attribute [irreducible] dK
theorem dN_pos (ss : List St) : ∀ (N : Nat) (n : ByteArray), 1 ≤ dN ss N n
  | 0, _ => Int.le_refl _
  | N + 1, n => by have := maxF_nonneg (dN ss N) ((fS ss n).getD default).fs; rw [dN]; omega
theorem dN_hi {ss : List St} {es : List En} (g : Gd ss es) : ∀ (N : Nat) (n : ByteArray), dN ss N n ≤ 1 + N * 1000000001
  | 0, _ => by rw [dN]; omega
  | N + 1, n => by
    have : maxF (dN ss N) ((fS ss n).getD default).fs ≤ 1000000001 + N * 1000000001 := by
      refine maxF_le (by omega) fun f hf => ?_
      cases hs : fS ss n with
      | none => rw [hs] at hf; cases hf
      | some t =>
        rw [hs] at hf
        have h1 := g.lv t (fS_mem hs).1 f hf
        have h2 := dN_hi g N (lvT f.ty).2.n
        unfold fdep
        cases (lvT f.ty).2.k == 6 <;> simp only [Bool.cond_true, Bool.cond_false] <;> omega
    rw [dN]; omega
theorem str_ref {ss : List St} {es : List En} (g : Gd ss es) {n : ByteArray} {t : St} (hs : fS ss n = some t) {f : Fl} (hf : f ∈ t.fs) (hk : ((lvT f.ty).2.k == 6) = true) : isRef ss n (lvT f.ty).2.n ∧ ∃ u, fS ss (lvT f.ty).2.n = some u := by
  obtain ⟨h1, h2, h3, _⟩ := val_str (g.val t (fS_mem hs).1 f hf) hk
  refine ⟨⟨f, by rw [hs]; exact hf, h1, h2⟩, ?_⟩
  rw [← fS_has] at h3
  exact Option.isSome_iff_exists.1 h3
theorem dN_stable {ss : List St} {es : List En} (g : Gd ss es) (ha : Acy ss) : ∀ (N : Nat) (n : ByteArray), rank ss n < N → dN ss (N + 1) n = dN ss N n
  | 0, _, h => absurd h (Nat.not_lt_zero _)
  | N + 1, n, h => by
    rw [dN, dN]
    congr 1
    refine maxF_congr fun f hf => ?_
    cases hs : fS ss n with
    | none => rw [hs] at hf; cases hf
    | some t =>
      rw [hs] at hf
      unfold fdep
      cases hk : (lvT f.ty).2.k == 6 with
      | false => rfl
      | true =>
        obtain ⟨h1, u, h2⟩ := str_ref g hs hf hk
        have := rank_lt h1 h2 ha
        rw [dN_stable g ha N _ (by omega)]
theorem dD_lo (ss : List St) (n : ByteArray) : 0 ≤ dD ss n := Int.le_trans (by decide) (dN_pos ss (dK + 1) n)
theorem dD_hi {ss : List St} {es : List En} (g : Gd ss es) (n : ByteArray) : dD ss n ≤ 1000000000000 := by
  refine Int.le_trans (dN_hi g (dK + 1) n) ?_
  have := dK_eq
  generalize dK = k at *
  subst this
  decide
theorem dD_fd {ss : List St} {es : List En} (g : Gd ss es) (ha : Acy ss) (f : Fl) : fdep (dN ss dK) f.ty = fdep (dD ss) f.ty := by
  have h2 := rank_le ss (lvT f.ty).2.n
  have h3 := g.n
  have h4 := dK_eq
  have h5 := dN_stable g ha dK (lvT f.ty).2.n (by omega)
  unfold fdep
  rw [dD_def, h5]
theorem dD_eq {ss : List St} {es : List En} (g : Gd ss es) (ha : Acy ss) {n : ByteArray} {t : St} (hs : fS ss n = some t) : dD ss n = maxF (dD ss) t.fs + 1 := by
  have h1 := dN_succ ss dK n
  have h2 : maxF (dN ss dK) t.fs = maxF (dD ss) t.fs := maxF_congr fun f _ => dD_fd g ha f
  rw [hs, Option.getD_some, h2] at h1
  rw [dD_def]
  exact h1
theorem Gd.dp {ss : List St} {es : List En} (g : Gd ss es) (ha : Acy ss) : Dp ss (dD ss) (rank ss) := by
  refine ⟨g.ok, fun n t hs => dD_eq g ha hs, dD_lo ss, dD_hi g, fun n t hs f hf => (val_lv ss es _ _ (Nat.le_refl _) (g.val t (fS_mem hs).1 f hf)).1, fun n t hs f hf hk => ?_⟩
  obtain ⟨h1, u, h2⟩ := str_ref g hs hf hk
  exact ⟨u, h2, rank_lt h1 h2 ha⟩
end Go.Proofs.Ytpfmkfafagiicaa
namespace Go.Proofs.Ytpfmkfafagiicaa
open Go.W
def nestF (ss : List St) : Int := bif ss.any (fun t => inB (usesF ss t.nm) t.nm) then 19 else bif ss.any (fun t => decide (6 < dD ss t.nm)) then 9 else 0
def neSp : W.Spec := fun av H K => ∃ (s : Sc) (ks : List Value) (vs : List St) (ks' : List Value) (vs' : List En), av = [.va (.gs (scC s)), ixV] ∧ H = ixH ks vs ks' vs' ∧
  IxS ks vs s.ss ∧ Gd s.ss s.es ∧ s.ok ∧ K (iS .i64 (nestF s.ss)) (ixH ks vs ks' vs')
theorem ne_use {s : Sc} {ks : List Value} {vs : List St} {ks' : List Value} {vs' : List En} {K : S → Hp → Prop} (h1 : IxS ks vs s.ss) (h2 : Gd s.ss s.es) (h3 : s.ok) (hK : K (iS .i64 (nestF s.ss)) (ixH ks vs ks' vs')) :
    neSp [.va (.gs (scC s)), ixV] (ixH ks vs ks' vs') K := ⟨s, ks, vs, ks', vs', rfl, rfl, h1, h2, h3, hK⟩
theorem any_false {α : Type} {l : List α} {p : α → Bool} (h : l.any p = false) : ∀ x ∈ l, p x = false := fun x hx => by
  rw [List.any_eq_false] at h; simpa using h x hx
set_option maxRecDepth 100000 in
theorem mNesting : Meets Try.prog 43 neSp := by
  refine meets_fn Try.func43 ok43 2 (by rw [Try.ntmps43]; decide) (meetsAll_s mUses (meetsAll_f mContainsS (meetsAll_s mDepth (meetsAll_nil _)))) (fun av H K h => by obtain ⟨_, _, _, _, _, rfl, _⟩ := h; rfl) ?_
  rintro av H K ⟨s, ks, vs, ks', vs', rfl, rfl, h1, hg, hs, hK⟩
  have fin : ∀ (x : Int) (R : Hp), nestF s.ss = x → W.Fin 2 K (iS .i64 x) (.map .string ks (vs.map stA) :: .map .string ks' (vs'.map enA) :: R) := fun x R h => by
    rw [h] at hK
    exact .sel [0, 1] (by simp) (by simp) rfl (.done (by simp -dsimp only [go_sem]; simpa using hK))
  obtain ⟨_, _, hls, _, hss⟩ := hs
  simp -dsimp only [go_sem, scC, pc43, rs43]
  refine vc_loop (α := Nat) (fun i => [(2, .va (.c1 (.pt 2 0))), (3, .va (.c1 (.pt 3 0))), (10, .va (.c1 (.fz (s.ss.map stC)))), (11, iS .i64 s.ss.length), (12, iS .i64 i)]) (fun _ => [.map .string ks (vs.map stA), .map .string ks' (vs'.map enA), .cells (scC s) 25, .cells [.mp 0, .mp 1] 69])
    (fun i => i ≤ s.ss.length ∧ (s.ss.drop i).any (fun t => inB (usesF s.ss t.nm) t.nm) = s.ss.any (fun t => inB (usesF s.ss t.nm) t.nm)) (fun i => s.ss.length - i) 0 4 ⟨Nat.zero_le _, rfl⟩ ?_ ?_ ?_
  · simp -dsimp only [go_sem] <;> simp
  · simp -dsimp only [go_sem, scC] <;> simp
  rintro i ⟨hi, ho⟩
  rcases Nat.lt_or_ge i s.ss.length with hlt | hge
  · have hgi : decide ((i : Int) < (s.ss.length : Int)) = true := by simp; omega
    obtain ⟨t, hx⟩ : ∃ t, s.ss[i]? = some t := ⟨_, List.getElem?_eq_getElem hlt⟩
    have q1 := row_rg' (row := stC) hx
    rw [any_step hx] at ho
    have hv := hg.vlen t.nm
    have hbs : isBs ((usesF s.ss t.nm).map stR) := isBs_mk (by rw [usesF_len]; omega)
    simp (maxSteps := 1000000) -dsimp only [go_sem, hgi, ↓q1, stC, scC]
    refine ⟨by omega, us_use h1 hss (by omega) ?_⟩
    simp (maxSteps := 1000000) -dsimp only [go_sem, hbs]
    cases hc : inB (usesF s.ss t.nm) t.nm with
    | true =>
      rw [hc, Bool.true_or] at ho
      simp -dsimp only [go_sem]
      exact fin 19 _ (by unfold nestF; rw [← ho]; rfl)
    | false =>
      rw [hc, Bool.false_or] at ho
      simp -dsimp only [go_sem]
      refine ⟨by omega, loop_next (i + 1) 4 ⟨by omega, ho⟩ (by omega) ?_ ?_⟩
      · simp -dsimp only [go_sem] <;> simp
      · simp -dsimp only [go_sem, scC] <;> simp
  · have hgi : decide ((i : Int) < (s.ss.length : Int)) = false := by simp; omega
    obtain rfl : i = s.ss.length := by omega
    rw [any_end] at ho
    have ha : Acy s.ss := fun t ht => any_false ho.symm t ht
    have hD := hg.dp ha
    have hF : nestF s.ss = bif s.ss.any (fun t => decide (6 < dD s.ss t.nm)) then 9 else 0 := by unfold nestF; rw [← ho]; rfl
    simp -dsimp only [go_sem, hgi, scC]
    refine vc_loop (α := Nat) (fun i => [(3, .va (.c1 (.pt 3 0))), (25, .va (.c1 (.fz (s.ss.map stC)))), (26, iS .i64 s.ss.length), (27, iS .i64 i)]) (fun _ => [.map .string ks (vs.map stA), .map .string ks' (vs'.map enA), .cells (scC s) 25, .cells [.mp 0, .mp 1] 69])
      (fun i => i ≤ s.ss.length ∧ (s.ss.drop i).any (fun t => decide (6 < dD s.ss t.nm)) = s.ss.any (fun t => decide (6 < dD s.ss t.nm))) (fun i => s.ss.length - i) 0 4 ⟨Nat.zero_le _, rfl⟩ ?_ ?_ ?_
    · simp -dsimp only [go_sem] <;> simp
    · simp -dsimp only [go_sem, scC] <;> simp
    clear ho
    rintro i ⟨hi, ho⟩
    rcases Nat.lt_or_ge i s.ss.length with hlt | hge
    · have hgi : decide ((i : Int) < (s.ss.length : Int)) = true := by simp; omega
      obtain ⟨t, hx⟩ : ∃ t, s.ss[i]? = some t := ⟨_, List.getElem?_eq_getElem hlt⟩
      have q1 := row_rg' (row := stC) hx
      rw [any_step hx] at ho
      have hnd := hg.nd t (List.mem_of_getElem? hx)
      simp (maxSteps := 1000000) -dsimp only [go_sem, hgi, ↓q1, stC, scC]
      refine ⟨by omega, dp_use h1 hD hnd ?_⟩
      simp (maxSteps := 1000000) -dsimp only [go_sem]
      cases hc : decide (6 < dD s.ss t.nm) with
      | true =>
        rw [hc, Bool.true_or] at ho
        simp -dsimp only [go_sem]
        exact fin 9 _ (by rw [hF, ← ho]; rfl)
      | false =>
        rw [hc, Bool.false_or] at ho
        simp -dsimp only [go_sem]
        refine ⟨by omega, loop_next (i + 1) 4 ⟨by omega, ho⟩ (by omega) ?_ ?_⟩
        · simp -dsimp only [go_sem] <;> simp
        · simp -dsimp only [go_sem, scC] <;> simp
    · have hgi : decide ((i : Int) < (s.ss.length : Int)) = false := by simp; omega
      obtain rfl : i = s.ss.length := by omega
      rw [any_end] at ho
      simp -dsimp only [go_sem, hgi, scC]
      exact fin 0 _ (by rw [hF, ← ho]; rfl)
end Go.Proofs.Ytpfmkfafagiicaa
namespace Go.Proofs.Ytpfmkfafagiicaa
open Go.W
def enAt (s : Sc) (i : Nat) : Int := match s.es[i]? with
  | some e => bif !(tnB (bl e.nm)) then 5 else bif hasE (s.es.take i) e.nm then 7 else ceF e
  | none => 0
def stAt (s : Sc) (i : Nat) : Int := match s.ss[i]? with
  | some t => bif cnF s i t.nm != 0 then cnF s i t.nm else cfF s.ss s.es t
  | none => 0
def enF (s : Sc) : Int := fE (enAt s) (s.es.length - 0) 0
def stF (s : Sc) : Int := fE (stAt s) (s.ss.length - 0) 0
def checkF (s : Sc) : Int := bif decide (s.ver < 1) || decide (999 < s.ver) then 4 else bif largeF s then 3 else bif enF s != 0 then enF s else bif stF s != 0 then stF s else nestF s.ss
inductive TySm : Ty → Prop
  | mk {k s : Int} {n : ByteArray} {e : List Ty} : e.length ≤ 1000000000 → (∀ t ∈ e, TySm t) → TySm (.mk k s n e)
structure Sc.fit (s : Sc) : Prop where
  ok : s.ok
  lv : ∀ t ∈ s.ss, ∀ f ∈ t.fs, (lvT f.ty).1 ≤ 1000000000
  sm : ∀ t ∈ s.ss, t.fs.length ≤ 1000000000 ∧ ∀ f ∈ t.fs, TySm f.ty
  en : ∀ e ∈ s.es, e.ns.length ≤ 1000000000 ∧ e.vs.length ≤ 1000000000
theorem fE_all {f : Nat → Int} {m : Nat} : ∀ (k i : Nat), i + k = m → fE f (m - i) i = 0 → ∀ j, i ≤ j → j < m → f j = 0
  | 0, i, h, _ => fun j h1 h2 => by omega
  | k + 1, i, h, h0 => fun j h1 h2 => by
    have hi : i < m := by omega
    by_cases e : f i = 0
    · rw [fE_ok hi e] at h0
      rcases Nat.lt_or_ge i j with h3 | h3
      · exact fE_all k (i + 1) (by omega) h0 j h3 h2
      · obtain rfl : i = j := by omega
        exact e
    · rw [fE_err hi e] at h0; exact absurd h0 e
theorem fE_zero {f : Nat → Int} {m : Nat} (h : fE f (m - 0) 0 = 0) : ∀ j, j < m → f j = 0 := fun j hj => fE_all m 0 (by omega) h j (Nat.zero_le _) hj
theorem fS_first {ss : List St} {i : Nat} {t : St} (hx : ss[i]? = some t) (h : hasS (ss.take i) t.nm = false) : fS ss t.nm = some t := by
  obtain ⟨hl, ht⟩ := List.getElem?_eq_some_iff.1 hx
  have h1 : (ss.take i).find? (fun s => decide (s.nm = t.nm)) = none := by
    rw [List.find?_eq_none]
    intro x hx
    have := any_false h x hx
    simpa using this
  have h2 : ss = ss.take i ++ (t :: ss.drop (i + 1)) := by rw [← ht, ← List.drop_eq_getElem_cons hl, List.take_append_drop]
  unfold fS
  rw [h2, List.find?_append, h1]
  simp
theorem cf_zero {ss : List St} {es : List En} {t : St} (h : cfF ss es t = 0) : ∀ f ∈ t.fs, (1 ≤ f.num ∧ f.num ≤ 127) ∧ isNm (bl f.nm) = true ∧ valF ss es f.ty = true := fun f hf => by
  obtain ⟨i, hi⟩ := List.mem_iff_getElem?.1 hf
  have := fE_zero h i (List.getElem?_eq_some_iff.1 hi).1
  unfold cfAt at this
  rw [hi] at this
  simp only at this
  cases c1 : decide (f.num < 1) || decide (127 < f.num) with
  | true => rw [c1] at this; simp at this
  | false =>
  rw [c1] at this
  simp only [Bool.cond_false] at this
  revert this
  generalize (decide (0 < (i : Int)) && (match t.fs[i - 1]? with | some g => decide (f.num ≤ g.num) | none => false)) = b
  intro this
  cases b with
  | true => simp at this
  | false =>
  simp only [Bool.cond_false] at this
  simp only [Bool.or_eq_false_iff, decide_eq_false_iff_not] at c1
  refine ⟨by omega, ?_⟩
  cases c2 : isNm (bl f.nm) with
  | false => rw [c2] at this; simp at this
  | true =>
  rw [c2] at this
  cases c3 : (t.fs.take i).any (fun g => decide (g.nm = f.nm)) with
  | true => rw [c3] at this; simp at this
  | false =>
  rw [c3] at this
  cases c4 : valF ss es f.ty with
  | false => rw [c4] at this; simp at this
  | true => exact ⟨rfl, rfl⟩
theorem cn_zero {s : Sc} {i : Nat} {n : ByteArray} (h : cnF s i n = 0) : tnB (bl n) = true ∧ hasE s.es n = false ∧ hasS (s.ss.take i) n = false := by
  unfold cnF at h
  cases c1 : tnB (bl n) with
  | false => rw [c1] at h; simp at h
  | true =>
  rw [c1] at h
  cases c2 : hasE s.es n with
  | true => rw [c2] at h; simp at h
  | false =>
  rw [c2] at h
  cases c3 : hasS (s.ss.take i) n with
  | true => rw [c3] at h; simp at h
  | false => exact ⟨rfl, rfl, rfl⟩
theorem st_zero {s : Sc} {i : Nat} {t : St} (hx : s.ss[i]? = some t) (h : stAt s i = 0) : cnF s i t.nm = 0 ∧ cfF s.ss s.es t = 0 := by
  unfold stAt at h
  rw [hx] at h
  simp only at h
  by_cases e : cnF s i t.nm = 0
  · rw [e] at h; exact ⟨e, by simpa using h⟩
  · rw [show (cnF s i t.nm != 0) = true by simpa using e] at h
    exact absurd h e
theorem en_zero {s : Sc} {i : Nat} {t : En} (hx : s.es[i]? = some t) (h : enAt s i = 0) : tnB (bl t.nm) = true ∧ hasE (s.es.take i) t.nm = false ∧ ceF t = 0 := by
  unfold enAt at h
  rw [hx] at h
  simp only at h
  cases c1 : tnB (bl t.nm) with
  | false => rw [c1] at h; simp at h
  | true =>
  rw [c1] at h
  cases c2 : hasE (s.es.take i) t.nm with
  | true => rw [c2] at h; simp at h
  | false =>
  rw [c2] at h
  exact ⟨rfl, rfl, by simpa using h⟩
theorem large_false {s : Sc} (h : largeF s = false) : s.es.length ≤ 16 ∧ s.es.length + s.ss.length ≤ 16 ∧ (∀ e ∈ s.es, e.ns.length ≤ 16) ∧ ∀ t ∈ s.ss, t.fs.length ≤ 16 := by
  unfold largeF at h
  simp only [Bool.or_eq_false_iff, decide_eq_false_iff_not] at h
  obtain ⟨⟨⟨h1, h2⟩, h3⟩, h4⟩ := h
  refine ⟨by omega, by omega, fun e he => ?_, fun t ht => ?_⟩
  · have := any_false h3 e he; simp at this; exact this
  · have := any_false h4 t ht; simp at this; exact this
theorem good_of {s : Sc} (hf : s.fit) (h1 : largeF s = false) (h2 : stF s = 0) : Gd s.ss s.es := by
  obtain ⟨l1, l2, l3, l4⟩ := large_false h1
  have key : ∀ t ∈ s.ss, ∃ i, s.ss[i]? = some t ∧ cnF s i t.nm = 0 ∧ cfF s.ss s.es t = 0 := fun t ht => by
    obtain ⟨i, hi⟩ := List.mem_iff_getElem?.1 ht
    exact ⟨i, hi, st_zero hi (fE_zero h2 i (List.getElem?_eq_some_iff.1 hi).1)⟩
  refine ⟨hf.ok.ss, by omega, by omega, fun t ht f hm => ?_, hf.lv, fun t ht => ?_⟩
  · obtain ⟨i, hi, c1, c2⟩ := key t ht
    exact (cf_zero c2 f hm).2.2
  · obtain ⟨i, hi, c1, c2⟩ := key t ht
    exact fS_first hi (cn_zero c1).2.2
end Go.Proofs.Ytpfmkfafagiicaa
namespace Go.Proofs.Ytpfmkfafagiicaa
open Go.W
def isScF (r : List C) : Prop := ∃ s : Sc, r = scC s ∧ s.fit
theorem isScF_mk {s : Sc} (h : s.fit) : isScF (scC s) := ⟨s, rfl, h⟩
noncomputable def ckFn : Fun := gFn isScF C.sc fun s => .int .i64 (checkF s)
attribute [go_sem] ckFn
theorem cond_err {a b : Int} (h : a ≠ 0) : (bif a != 0 then a else b) = a := by rw [bne, beq_eq_false_iff_ne.2 h]; rfl
theorem cond_ok {a b : Int} (h : a = 0) : (bif a != 0 then a else b) = b := by rw [h]; rfl
set_option maxRecDepth 100000 in
set_option maxHeartbeats 2000000 in
theorem mCheck : Meets Try.prog 12 ckFn.sp := by
  refine meets_fn Try.func12 ok12 1 (by rw [Try.ntmps12]; decide) (meetsAll_f mLarge (meetsAll_f mTypeName (meetsAll_f mCheckEnum (meetsAll_s mIndexOf (meetsAll_f mCheckName (meetsAll_s mCheckFields (meetsAll_s mNesting (meetsAll_nil _)))))))) gFn_len ?_
  rintro av H K ⟨⟨h, rfl⟩, hK⟩
  obtain ⟨_, rfl, s, rfl, hs⟩ := gPre_open h
  have hK : K (iS .i64 (checkF s)) [] := by
    have : ckFn.val [.va (.gs (scC s))] = iA .i64 (checkF s) := by simp -dsimp only [go_sem]
    rw [this] at hK; exact hK
  clear h
  have hfit := hs
  have hsc : isSc (scC s) := isSc_mk hs.ok
  obtain ⟨⟨hv, hle, hls, hes, hss⟩, hlv, _, _⟩ := hs
  have fin : ∀ (x : Int) (R : Hp), checkF s = x → W.Fin 0 K (iS .i64 x) R := fun x R h1 => by
    rw [h1] at hK
    exact .sel [] (by simp) (by simp) rfl (.done (by simpa [go_sem] using hK))
  have hsc' := hsc
  simp only [scC] at hsc'
  have hdec : C.sc [.vl (.int .i64 s.ver), .fz (s.es.map enC), .fz (s.ss.map stC)] = s := sc_dec s
  simp (maxSteps := 1000000) -dsimp only [go_sem, scC, pc12, rs12, hsc', hdec]
  refine ⟨fun h1 => fin 4 _ (by unfold checkF; rw [h1]; rfl), fun c1 => ⟨fun h1 => fin 3 _ (by unfold checkF; rw [c1, h1]; rfl), fun c2 => ?_⟩⟩
  have hF : checkF s = bif enF s != 0 then enF s else bif stF s != 0 then stF s else nestF s.ss := by unfold checkF; rw [c1, c2]; rfl
  refine vc_loop (α := Nat) (fun i => [(1, .va (.c1 (.pt 0 0))), (24, .va (.c1 (.fz (s.es.map enC)))), (25, iS .i64 s.es.length), (26, iS .i64 i)]) (fun _ => [.cells (scC s) 25])
    (fun i => i ≤ s.es.length ∧ fE (enAt s) (s.es.length - i) i = enF s) (fun i => s.es.length - i) 0 1 ⟨Nat.zero_le _, rfl⟩ ?_ ?_ ?_
  · simp -dsimp only [go_sem] <;> simp
  · simp -dsimp only [go_sem, scC] <;> simp
  rintro i ⟨hi, ho⟩
  rcases Nat.lt_or_ge i s.es.length with hlt | hge
  · have hg : decide ((i : Int) < (s.es.length : Int)) = true := by simp; omega
    obtain ⟨e, hx⟩ : ∃ e, s.es[i]? = some e := ⟨_, List.getElem?_eq_getElem hlt⟩
    have q1 := row_rg' (row := enC) hx
    have he : e.ok := hes e (List.mem_of_getElem? hx)
    have hie : isEn (enC e) := isEn_mk he
    have hie' := hie
    simp only [enC] at hie'
    have hed : C.en [.vl (.string e.nm), .fz (e.ns.map stR), .fz (e.vs.map inR)] = e := en_dec e
    have hA : enAt s i = bif !(tnB (bl e.nm)) then 5 else bif hasE (s.es.take i) e.nm then 7 else ceF e := by unfold enAt; rw [hx]
    have fin' : ∀ (x : Int) (R : Hp), enAt s i = x → x ≠ 0 → W.Fin 0 K (iS .i64 x) R := fun x R h1 h2 => fin x R (by
      rw [hF, ← ho, fE_err hlt (by rw [h1]; exact h2), h1]; exact cond_err h2)
    have nxt : enAt s i = 0 → fE (enAt s) (s.es.length - (i + 1)) (i + 1) = enF s := fun h1 => by rw [← ho, fE_ok hlt h1]
    simp (maxSteps := 1000000) -dsimp only [go_sem, hg, ↓q1, enC, scC]
    refine ⟨by omega, fun h1 => fin' 5 _ (by rw [hA, h1]; rfl) (by decide), fun c3 => ?_⟩
    rw [c3] at hA
    simp only [Bool.cond_false] at hA
    have hlj := len_take s.es i
    simp -dsimp only [all_rows enC_len]
    refine ⟨by simp; omega, ?_⟩
    generalize hm : s.es.take i = m at *
    refine vc_loop (α := Nat) (fun j => [(1, .va (.c1 (.pt 0 0))), (4, .va (.c1 (.pt 1 0))), (24, .va (.c1 (.fz (s.es.map enC)))), (25, iS .i64 s.es.length), (26, iS .i64 i), (38, .va (.c1 (.fz (m.map enC)))), (39, iS .i64 m.length), (40, iS .i64 j)]) (fun _ => [.cells (scC s) 25, .cells (enC e) 47])
      (fun j => j ≤ m.length ∧ hasE (m.drop j) e.nm = hasE m e.nm) (fun j => m.length - j) 0 2 ⟨Nat.zero_le _, rfl⟩ ?_ ?_ ?_
    · simp -dsimp only [go_sem] <;> simp
      rw [← hm]; exact ⟨List.map_take.symm, by simp⟩
    · simp -dsimp only [go_sem, scC, enC] <;> simp
    rintro j ⟨hj, ho2⟩
    rcases Nat.lt_or_ge j m.length with hjt | hjg
    · have hgj : decide ((j : Int) < (m.length : Int)) = true := by simp; omega
      obtain ⟨d, hd⟩ : ∃ e, m[j]? = some e := ⟨_, List.getElem?_eq_getElem hjt⟩
      have q5 := row_rg' (row := enC) hd
      rw [hasE, any_step hd] at ho2
      simp (maxSteps := 1000000) -dsimp only [go_sem, hgj, ↓q5, enC, scC, bl_beq]
      and_intros
      all_goals first
        | omega
        | skip
      · intro hc
        rw [hc, Bool.true_or] at ho2
        exact fin' 7 _ (by rw [hA, ← ho2]; rfl) (by decide)
      · intro hc
        rw [hc, Bool.false_or] at ho2
        refine ⟨by omega, loop_next (j + 1) 2 ⟨by omega, ho2⟩ (by omega) ?_ ?_⟩
        · simp -dsimp only [go_sem] <;> simp
        · simp -dsimp only [go_sem, scC, enC] <;> simp
    · have hgj : decide ((j : Int) < (m.length : Int)) = false := by simp; omega
      obtain rfl : j = m.length := by omega
      rw [hasE, any_end] at ho2
      rw [← ho2] at hA
      simp only [Bool.cond_false] at hA
      simp (maxSteps := 1000000) -dsimp only [go_sem, hgj, enC, scC, hie', hed]
      refine ⟨fun h1 => fin' _ _ hA (by simpa using h1), fun h1 => ?_⟩
      refine ⟨by omega, loop_next (i + 1) 1 ⟨by omega, nxt (by rw [hA]; simpa using h1)⟩ (by omega) ?_ ?_⟩
      · simp -dsimp only [go_sem] <;> simp
      · simp -dsimp only [go_sem, scC] <;> simp
  · have hg : decide ((i : Int) < (s.es.length : Int)) = false := by simp; omega
    obtain rfl : i = s.es.length := by omega
    rw [fE_end] at ho
    rw [cond_ok ho.symm] at hF
    simp (maxSteps := 1000000) -dsimp only [go_sem, hg, scC]
    refine io_use hfit.ok fun ks vs ks' vs' x1 x2 => ?_
    simp (maxSteps := 1000000) -dsimp only [go_sem]
    clear hi hge hg
    refine vc_loop (α := Nat) (fun i => [(1, .va (.c1 (.pt 0 0))), (8, .va (.c1 (.pt 3 0))), (59, .va (.c1 (.fz (s.ss.map stC)))), (60, iS .i64 s.ss.length), (61, iS .i64 i)]) (fun _ => [.cells (scC s) 25, .map .string ks (vs.map stA), .map .string ks' (vs'.map enA), .cells [.mp 1, .mp 2] 69])
      (fun i => i ≤ s.ss.length ∧ fE (stAt s) (s.ss.length - i) i = stF s) (fun i => s.ss.length - i) 0 4 ⟨Nat.zero_le _, rfl⟩ ?_ ?_ ?_
    · simp -dsimp only [go_sem] <;> simp
    · simp -dsimp only [go_sem, scC] <;> simp
    clear ho
    rintro i ⟨hi, ho⟩
    rcases Nat.lt_or_ge i s.ss.length with hlt | hge
    · have hg : decide ((i : Int) < (s.ss.length : Int)) = true := by simp; omega
      obtain ⟨t, hx⟩ : ∃ e, s.ss[i]? = some e := ⟨_, List.getElem?_eq_getElem hlt⟩
      have q1 := row_rg' (row := stC) hx
      have ht : t.ok := hss t (List.mem_of_getElem? hx)
      have hA : stAt s i = bif cnF s i t.nm != 0 then cnF s i t.nm else cfF s.ss s.es t := by unfold stAt; rw [hx]
      have fin' : ∀ (x : Int) (R : Hp), stAt s i = x → x ≠ 0 → W.Fin 0 K (iS .i64 x) R := fun x R h1 h2 => fin x R (by
        rw [hF, ← ho, fE_err hlt (by rw [h1]; exact h2), h1]; exact cond_err h2)
      have nxt : stAt s i = 0 → fE (stAt s) (s.ss.length - (i + 1)) (i + 1) = stF s := fun h1 => by rw [← ho, fE_ok hlt h1]
      have q0 : decide (0 ≤ (i : Int)) = true := by simp
      simp (maxSteps := 1000000) -dsimp only [go_sem, hg, ↓q1, stC, scC, hsc', hdec, Int.toNat_natCast]
      refine ⟨by omega, ⟨by omega, by omega⟩, fun h1 => fin' _ _ (by rw [hA]; exact cond_err (by simpa using h1)) (by simpa using h1), fun h1 => ?_⟩
      have h1 : cnF s i t.nm = 0 := by simpa using h1
      rw [cond_ok h1] at hA
      refine cf_use x1 x2 ht ?_
      simp (maxSteps := 1000000) -dsimp only [go_sem]
      refine ⟨fun h1 => fin' _ _ hA (by simpa using h1), fun h1 => ?_⟩
      refine ⟨by omega, loop_next (i + 1) 4 ⟨by omega, nxt (by rw [hA]; simpa using h1)⟩ (by omega) ?_ ?_⟩
      · simp -dsimp only [go_sem] <;> simp
      · simp -dsimp only [go_sem, scC] <;> simp
    · have hg : decide ((i : Int) < (s.ss.length : Int)) = false := by simp; omega
      obtain rfl : i = s.ss.length := by omega
      rw [fE_end] at ho
      rw [cond_ok ho.symm] at hF
      simp (maxSteps := 1000000) -dsimp only [go_sem, hg, scC]
      refine ne_use x1 (good_of hfit c2 ho.symm) hfit.ok ?_
      simp (maxSteps := 1000000) -dsimp only [go_sem]
      exact fin _ _ hF
end Go.Proofs.Ytpfmkfafagiicaa
namespace Go.Proofs.Ytpfmkfafagiicaa
open Go.W
def faSp : W.Spec := fun av H K => ∃ (s : Sc) (n : ByteArray), av = [.va (.gs (scC s)), tS n] ∧ H = [] ∧ s.fit ∧ (checkF s ≠ 0 → K (.tu [.gs [.vl (.map none), .vl (.map none)], bA false]) []) ∧
  (checkF s = 0 → ∀ ks vs ks' vs', IxS ks vs s.ss → IxE ks' vs' s.es → K (.tu [.gs [.mp 0, .mp 1], bA (hasS s.ss n)]) (ixH ks vs ks' vs'))
theorem fa_use {s : Sc} {n : ByteArray} {K : S → Hp → Prop} (h : s.fit) (h1 : checkF s ≠ 0 → K (.tu [.gs [.vl (.map none), .vl (.map none)], bA false]) []) (h2 : checkF s = 0 → ∀ ks vs ks' vs', IxS ks vs s.ss → IxE ks' vs' s.es → K (.tu [.gs [.mp 0, .mp 1], bA (hasS s.ss n)]) (ixH ks vs ks' vs')) :
    faSp [.va (.gs (scC s)), tS n] [] K := ⟨s, n, rfl, rfl, h, h1, h2⟩
set_option maxRecDepth 100000 in
theorem mFound : Meets Try.prog 50 faSp := by
  refine meets_fn Try.func50 ok50 2 (by rw [Try.ntmps50]; decide) (meetsAll_f mCheck (meetsAll_s mIndexOf (meetsAll_nil _))) (fun av H K h => by obtain ⟨_, _, rfl, _⟩ := h; rfl) ?_
  rintro av H K ⟨s, n, rfl, rfl, hs, k1, k2⟩
  have hsc := isScF_mk hs
  simp only [scC] at hsc
  have hdec : C.sc [.vl (.int .i64 s.ver), .fz (s.es.map enC), .fz (s.ss.map stC)] = s := sc_dec s
  simp (maxSteps := 1000000) -dsimp only [go_sem, scC, pc50, rs50, hsc, hdec]
  refine ⟨fun h => ?_, fun h => ?_⟩
  · exact .sel [] (by simp) (by simp) rfl (.done (by simp -dsimp only [go_sem]; exact k1 (by simpa using h)))
  · refine io_use hs.ok fun ks vs ks' vs' x1 x2 => ?_
    have hx := x1 n
    have k2 := k2 (by simpa using h) ks vs ks' vs' x1 x2
    cases hf : fS s.ss n with
    | none =>
      rw [hf] at hx
      simp only [Option.map_none] at hx
      rw [← fS_has, hf] at k2
      simp (maxSteps := 1000000) -dsimp only [go_sem, hx]
      exact .sel [2, 3] (by simp) (by simp) rfl (.done (by simp -dsimp only [go_sem]; exact k2))
    | some t =>
      rw [hf] at hx
      simp only [Option.map_some] at hx
      rw [← fS_has, hf] at k2
      simp (maxSteps := 1000000) -dsimp only [go_sem, hx, stC]
      exact .sel [2, 3] (by simp) (by simp) rfl (.done (by simp -dsimp only [go_sem]; exact k2))
def snPre (p : List C → Prop) : List S → Prop := fun av => match av with
  | [.va (.gs r), .va (.c1 (.vl (.string _)))] => p r
  | _ => False
theorem snPre_open {p : List C → Prop} {av : List S} (h : snPre p av) : ∃ r n, av = [.va (.gs r), tS n] ∧ p r := by
  unfold snPre at h
  split at h
  · exact ⟨_, _, rfl, h⟩
  · exact h.elim
def snVal {α : Type} (d : List C → α) (f : α → ByteArray → A) : List S → A := fun av => match av with
  | [.va (.gs r), .va (.c1 (.vl (.string n)))] => f (d r) n
  | _ => .gs []
noncomputable def snFn {α : Type} (p : List C → Prop) (d : List C → α) (f : α → ByteArray → A) (hf : ∀ a n, (f a n).flat) : Fun := ⟨snPre p, snVal d f, fun av h => by obtain ⟨r, n, rfl, _⟩ := snPre_open h; exact hf _ _⟩
theorem snFn_len {α : Type} {p : List C → Prop} {d : List C → α} {f : α → ByteArray → A} {hf : ∀ a n, (f a n).flat} : ∀ av H K, (snFn p d f hf).sp av H K → av.length = 2 := fun av H K h => by obtain ⟨r, n, rfl, _⟩ := snPre_open h.1.1; rfl
attribute [go_sem] snFn snPre snVal
def okS (s : Sc) (n : ByteArray) : Bool := checkF s == 0 && hasS s.ss n
def dpF (s : Sc) (n : ByteArray) : Int := bif okS s n then dD s.ss n else 0
def usL (s : Sc) (n : ByteArray) : List ByteArray := bif okS s n then usesF s.ss n else []
theorem check_good {s : Sc} (hf : s.fit) (h : checkF s = 0) : Gd s.ss s.es ∧ Acy s.ss ∧ enF s = 0 ∧ stF s = 0 ∧ largeF s = false ∧ 1 ≤ s.ver ∧ s.ver ≤ 999 ∧ ∀ t ∈ s.ss, dD s.ss t.nm ≤ 6 := by
  unfold checkF at h
  cases c1 : decide (s.ver < 1) || decide (999 < s.ver) with
  | true => rw [c1] at h; simp at h
  | false =>
  rw [c1] at h
  cases c2 : largeF s with
  | true => rw [c2] at h; simp at h
  | false =>
  rw [c2] at h
  simp only [Bool.cond_false] at h
  by_cases e1 : enF s = 0
  · rw [cond_ok e1] at h
    by_cases e2 : stF s = 0
    · rw [cond_ok e2] at h
      have g := good_of hf c2 e2
      unfold nestF at h
      cases c3 : s.ss.any (fun t => inB (usesF s.ss t.nm) t.nm) with
      | true => rw [c3] at h; simp at h
      | false =>
      rw [c3] at h
      cases c4 : s.ss.any (fun t => decide (6 < dD s.ss t.nm)) with
      | true => rw [c4] at h; simp at h
      | false =>
      simp only [Bool.or_eq_false_iff, decide_eq_false_iff_not] at c1
      refine ⟨g, any_false c3, e1, e2, rfl, by omega, by omega, fun t ht => ?_⟩
      have := any_false c4 t ht
      simpa using this
    · rw [cond_err e2] at h; exact absurd h e2
  · rw [cond_err e1] at h; exact absurd h e1
noncomputable def dpFn : Fun := snFn isScF C.sc (fun s n => iA .i64 (dpF s n)) (fun _ _ => trivial)
attribute [go_sem] dpFn
set_option maxRecDepth 100000 in
theorem mDepthP : Meets Try.prog 14 dpFn.sp := by
  refine meets_fn Try.func14 ok14 2 (by rw [Try.ntmps14]; decide) (meetsAll_s mFound (meetsAll_s mDepth (meetsAll_nil _))) snFn_len ?_
  rintro av H K ⟨⟨h, rfl⟩, hK⟩
  obtain ⟨_, n, rfl, s, rfl, hs⟩ := snPre_open h
  have hK : K (iS .i64 (dpF s n)) [] := by
    have : dpFn.val [.va (.gs (scC s)), tS n] = iA .i64 (dpF s n) := by simp -dsimp only [go_sem]
    rw [this] at hK; exact hK
  clear h
  have fin : ∀ (x : Int) (R : Hp), dpF s n = x → W.Fin 0 K (iS .i64 x) R := fun x R h1 => by
    rw [h1] at hK
    exact .sel [] (by simp) (by simp) rfl (.done (by simpa [go_sem] using hK))
  simp -dsimp only [go_sem, scC, pc14, rs14]
  refine fa_use hs (fun h => ?_) fun h ks vs ks' vs' x1 x2 => ?_
  · simp (maxSteps := 1000000) -dsimp only [go_sem]
    exact fin 0 _ (by unfold dpF okS; rw [beq_eq_false_iff_ne.2 h]; rfl)
  · have hx := x1 n
    obtain ⟨g, ha, _⟩ := check_good hs h
    rw [← fS_has]
    cases hf : fS s.ss n with
    | none =>
      simp (maxSteps := 1000000) -dsimp only [go_sem, Option.isSome_none]
      exact fin 0 _ (by unfold dpF okS; rw [← fS_has, hf]; simp)
    | some t =>
      rw [hf] at hx
      simp only [Option.map_some] at hx
      obtain ⟨ht, rfl⟩ := fS_mem hf
      simp (maxSteps := 1000000) -dsimp only [go_sem, Option.isSome_some, hx, stC]
      refine dp_use x1 (g.dp ha) hf ?_
      simp (maxSteps := 1000000) -dsimp only [go_sem]
      exact fin _ _ (by unfold dpF okS; rw [← fS_has, hf, h]; rfl)
def usSpP : W.Spec := fun av H K => ∃ (s : Sc) (n : ByteArray), av = [.va (.gs (scC s)), tS n] ∧ H = [] ∧ s.fit ∧ K (.va (.c1 (.fz ((usL s n).map stR)))) []
theorem usp_use {s : Sc} {n : ByteArray} {K : S → Hp → Prop} (h : s.fit) (hK : K (.va (.c1 (.fz ((usL s n).map stR)))) []) : usSpP [.va (.gs (scC s)), tS n] [] K := ⟨s, n, rfl, rfl, h, hK⟩
set_option maxRecDepth 100000 in
theorem mUsesP : Meets Try.prog 17 usSpP := by
  refine meets_fn Try.func17 ok17 2 (by rw [Try.ntmps17]; decide) (meetsAll_s mFound (meetsAll_s mUses (meetsAll_nil _))) (fun av H K h => by obtain ⟨_, _, rfl, _⟩ := h; rfl) ?_
  rintro av H K ⟨s, n, rfl, rfl, hs, hK⟩
  have fin : ∀ (x : List ByteArray) (R : Hp), usL s n = x → W.Fin 0 K (.va (.c1 (.fz (x.map stR)))) R := fun x R h1 => by
    rw [h1] at hK
    exact .sel [] (by simp) (by simp) rfl (.done (by simpa [go_sem] using hK))
  simp -dsimp only [go_sem, scC, pc17, rs17]
  refine fa_use hs (fun h => ?_) fun h ks vs ks' vs' x1 x2 => ?_
  · simp (maxSteps := 1000000) -dsimp only [go_sem]
    exact fin [] _ (by unfold usL okS; rw [beq_eq_false_iff_ne.2 h]; rfl)
  · obtain ⟨g, ha, _⟩ := check_good hs h
    cases hf : hasS s.ss n with
    | false =>
      simp (maxSteps := 1000000) -dsimp only [go_sem]
      exact fin [] _ (by unfold usL okS; rw [hf]; simp)
    | true =>
      simp (maxSteps := 1000000) -dsimp only [go_sem]
      refine us_use x1 hs.ok.ss (by have := g.vlen n; omega) ?_
      simp (maxSteps := 1000000) -dsimp only [go_sem]
      exact fin _ _ (by unfold usL okS; rw [hf, h]; rfl)
end Go.Proofs.Ytpfmkfafagiicaa
namespace Go.Proofs.Ytpfmkfafagiicaa
open Go.W
def ctSp (N : Nat) : W.Spec := fun av H K => ∃ t : Ty, av = [.va (.gs (tyC t))] ∧ H = [] ∧ TyOk t ∧ TySm t ∧ t.h ≤ N ∧ K (.va (.gs (tyC t))) []
theorem ct_use {N : Nat} {t : Ty} {K : S → Hp → Prop} (h1 : TyOk t) (h2 : TySm t) (h3 : t.h ≤ N) (hK : K (.va (.gs (tyC t))) []) : ctSp N [.va (.gs (tyC t))] [] K := ⟨t, rfl, rfl, h1, h2, h3, hK⟩
theorem take_next {α : Type} {l : List α} {i : Nat} {x : α} (h : l[i]? = some x) : l.take (i + 1) = l.take i ++ [x] := by rw [List.take_add_one, h]; rfl
theorem tyC_ss (t : Ty) : ∀ c ∈ tyC t, c.shut = true ∧ c.one := by rw [tyC_eq]; simp [go_sem, C.shut]
set_option maxRecDepth 100000 in
theorem mCopyType : ∀ N, Meets Try.prog 77 (ctSp N)
  | 0 => ⟨by kernel_rfl, by rintro xs vs E ro w K _ _ _ ⟨t, _, _, _, _, h, _⟩; have := t.h_pos; omega⟩
  | N + 1 => by
    refine meets_fn Try.func77 ok77 1 (by rw [Try.ntmps77]; decide) (meetsAll_s (mCopyType N) (meetsAll_nil _)) (fun av H K h => by obtain ⟨_, rfl, _⟩ := h; rfl) ?_
    rintro av H K ⟨⟨k, s, n, e⟩, rfl, rfl, h1, h2, h3, hK⟩
    have hle := h1.len
    have hoe := h1.e
    obtain ⟨hl, hse⟩ : e.length ≤ 1000000000 ∧ ∀ t ∈ e, TySm t := by cases h2; exact ⟨by assumption, by assumption⟩
    simp only [Ty.e] at hle hoe
    simp (maxSteps := 1000000) -dsimp only [go_sem, tyC, tysC_map, pc77, rs77]
    refine vc_loop_gh (α := Nat) (fun i => [(2, .va (.c1 (.pt 1 0))), (3, .va (.c1 (.pt 2 0))), (14, .va (.c1 (.fz (e.map tyC)))), (15, iS .i64 e.length), (16, iS .i64 i)]) (fun i => [.cells (tyC (.mk k s n e)) 40, .cells [.vl (.int .i64 0), .vl (.int .i64 0), .vl (.string (mk [])), .vl (.slice none 0 0)] 40, .cells [.vl (.int .i64 k), .vl (.int .i64 s), .vl (.string n), .sl 3 i] 40, .row ((e.take i).map tyC) 40 4])
      (fun i => i ≤ e.length) (fun i => e.length - i) (.nilc 2 3 40 4 [.vl (.int .i64 k), .vl (.int .i64 s), .vl (.string n), .vl (.slice none 0 0)] 40 rfl rfl (gh_at 0 4 (Nat.zero_le _) ?_ ?_)) ?_
    · simp -dsimp only [go_sem] <;> simp
    · simp -dsimp only [go_sem, tyC, tysC_map] <;> simp
    intro i hi
    have hz : (e.take i).length = i := by rw [List.length_take]; omega
    rcases Nat.lt_or_ge i e.length with hlt | hge
    · have hg : decide ((i : Int) < (e.length : Int)) = true := by simp; omega
      obtain ⟨u, hx⟩ : ∃ t, e[i]? = some t := ⟨_, List.getElem?_eq_getElem hlt⟩
      have q1 := row_rg' (row := tyC) hx
      have hu := List.mem_of_getElem? hx
      simp (maxSteps := 1000000) -dsimp only [go_sem, hg, ↓q1, tyC_len]
      refine ⟨by omega, tyC_one u, ct_use (hoe u hu) (hse u hu) ?_ ?_⟩
      · have := Ty.hs_mem hu; rw [Ty.h] at h3; omega
      simp (maxSteps := 1000000) -dsimp only [go_sem, tyC_len]
      refine ⟨tyC_ss u, tyC_ss u, hz, by omega, by omega, loop_next (i + 1) 4 (by omega) (by omega) ?_ ?_⟩
      · simp -dsimp only [go_sem] <;> simp
      · simp -dsimp only [go_sem, tyC, tysC_map, take_next hx] <;> simp
    · have hg : decide ((i : Int) < (e.length : Int)) = false := by simp; omega
      obtain rfl : i = e.length := by omega
      rw [List.take_length]
      simp (maxSteps := 1000000) -dsimp only [go_sem, hg]
      refine .pub 3 _ _ _ rfl (.sel [] (by simp) (by simp [pubH]) rfl (.done ?_))
      simp -dsimp only [go_sem, pubH]
      simpa [tyC, tysC_map] using hK
end Go.Proofs.Ytpfmkfafagiicaa
namespace Go.Proofs.Ytpfmkfafagiicaa
open Go.W
def cdSp : W.Spec := fun av H K => ∃ f : Fl, av = [.va (.gs (flC f))] ∧ H = [] ∧ f.ok ∧ TySm f.ty ∧ K (.va (.gs (flC f))) []
theorem cd_use {f : Fl} {K : S → Hp → Prop} (h1 : f.ok) (h2 : TySm f.ty) (hK : K (.va (.gs (flC f))) []) : cdSp [.va (.gs (flC f))] [] K := ⟨f, rfl, rfl, h1, h2, hK⟩
set_option maxRecDepth 100000 in
theorem mCopyField : Meets Try.prog 59 cdSp := by
  refine meets_all 0 (t := fun N => fun av H K => ∃ f : Fl, av = [.va (.gs (flC f))] ∧ H = [] ∧ f.ok ∧ TySm f.ty ∧ f.ty.h = N ∧ K (.va (.gs (flC f))) []) (fun N => ?_) fun av H K ⟨f, e1, e2, h1, h2, hK⟩ => ⟨f.ty.h, f, e1, e2, h1, h2, rfl, hK⟩
  refine meets_fn Try.func59 ok59 1 (by rw [Try.ntmps59]; decide) (meetsAll_s (mCopyType N) (meetsAll_nil _)) (fun av H K h => by obtain ⟨_, rfl, _⟩ := h; rfl) ?_
  rintro av H K ⟨f, rfl, rfl, h1, h2, rfl, hK⟩
  simp (maxSteps := 1000000) -dsimp only [go_sem, flC, pc59, rs59, fl_ty]
  refine ct_use h1.ty h2 (Nat.le_refl _) ?_
  simp (maxSteps := 1000000) -dsimp only [go_sem, tyC_eq]
  exact .sel [] (by simp) (by simp) rfl (.done (by simpa [go_sem, flC] using hK))
def csSp' : W.Spec := fun av H K => ∃ t : St, av = [.va (.gs (stC t))] ∧ H = [] ∧ t.ok ∧ (t.fs.length ≤ 1000000000 ∧ ∀ f ∈ t.fs, TySm f.ty) ∧ K (.va (.gs (stC t))) []
theorem cs_use {t : St} {K : S → Hp → Prop} (h1 : t.ok) (h2 : t.fs.length ≤ 1000000000 ∧ ∀ f ∈ t.fs, TySm f.ty) (hK : K (.va (.gs (stC t))) []) : csSp' [.va (.gs (stC t))] [] K := ⟨t, rfl, rfl, h1, h2, hK⟩
set_option maxRecDepth 100000 in
theorem mCopyStruct : Meets Try.prog 56 csSp' := by
  refine meets_fn Try.func56 ok56 1 (by rw [Try.ntmps56]; decide) (meetsAll_s mCopyField (meetsAll_nil _)) (fun av H K h => by obtain ⟨_, rfl, _⟩ := h; rfl) ?_
  rintro av H K ⟨⟨n, l⟩, rfl, rfl, h1, ⟨hl, hse⟩, hK⟩
  obtain ⟨hn, _, hfs⟩ := h1
  simp only at hn hl hse hfs
  simp (maxSteps := 1000000) -dsimp only [go_sem, stC, pc56, rs56]
  refine vc_loop_gh (α := Nat) (fun i => [(2, .va (.c1 (.pt 1 0))), (3, .va (.c1 (.pt 2 0))), (10, .va (.c1 (.fz (l.map flC)))), (11, iS .i64 l.length), (12, iS .i64 i)]) (fun i => [.cells (stC ⟨n, l⟩) 32, .cells [.vl (.string (mk [])), .vl (.slice none 0 0)] 32, .cells [.vl (.string n), .sl 3 i] 32, .row ((l.take i).map flC) 53 7])
    (fun i => i ≤ l.length) (fun i => l.length - i) (.nilc 2 1 53 7 [.vl (.string n), .vl (.slice none 0 0)] 32 rfl rfl (gh_at 0 4 (Nat.zero_le _) ?_ ?_)) ?_
  · simp -dsimp only [go_sem] <;> simp
  · simp -dsimp only [go_sem, stC] <;> simp
  intro i hi
  have hz : (l.take i).length = i := by rw [List.length_take]; omega
  rcases Nat.lt_or_ge i l.length with hlt | hge
  · have hg : decide ((i : Int) < (l.length : Int)) = true := by simp; omega
    obtain ⟨u, hx⟩ : ∃ t, l[i]? = some t := ⟨_, List.getElem?_eq_getElem hlt⟩
    have q1 := row_rg' (row := flC) hx
    have hu := List.mem_of_getElem? hx
    have hcd : flC u = [.vl (.int .i64 u.num), .vl (.string u.nm), .vl (.int .i64 u.ty.k), .vl (.int .i64 u.ty.s), .vl (.string u.ty.n), .fz (u.ty.e.map tyC), .vl (.bool u.opt)] := rfl
    simp (maxSteps := 1000000) -dsimp only [go_sem, hg, ↓q1, flC]
    refine ⟨by omega, cd_use (hfs u hu) (hse u hu) ?_⟩
    simp (maxSteps := 1000000) -dsimp only [go_sem, flC]
    refine ⟨hz, by omega, by omega, loop_next (i + 1) 4 (by omega) (by omega) ?_ ?_⟩
    · simp -dsimp only [go_sem] <;> simp
    · simp -dsimp only [go_sem, stC, take_next hx] <;> simp [flC]
  · have hg : decide ((i : Int) < (l.length : Int)) = false := by simp; omega
    obtain rfl : i = l.length := by omega
    rw [List.take_length]
    simp (maxSteps := 1000000) -dsimp only [go_sem, hg]
    refine .pub 3 _ _ _ rfl (.sel [] (by simp) (by simp [pubH]) rfl (.done ?_))
    simp -dsimp only [go_sem, pubH]
    simpa [stC] using hK
theorem fnd_step {α : Type} {l : List α} {i : Nat} {x : α} (hx : l[i]? = some x) (p : α → Bool) : (l.drop i).find? p = bif p x then some x else (l.drop (i + 1)).find? p := by
  obtain ⟨h, rfl⟩ := List.getElem?_eq_some_iff.1 hx
  rw [List.drop_eq_getElem_cons h, List.find?_cons]
  cases p l[i] <;> rfl
def stSpP : W.Spec := fun av H K => ∃ (s : Sc) (n : ByteArray), av = [.va (.gs (scC s)), tS n] ∧ H = [] ∧ s.fit ∧ K (.tu [.gs (stC ((fS s.ss n).getD default)), bA (hasS s.ss n)]) []
theorem stp_use {s : Sc} {n : ByteArray} {K : S → Hp → Prop} (h : s.fit) (hK : K (.tu [.gs (stC ((fS s.ss n).getD default)), bA (hasS s.ss n)]) []) : stSpP [.va (.gs (scC s)), tS n] [] K := ⟨s, n, rfl, rfl, h, hK⟩
theorem stC_def : stC default = [.vl (.string (mk [])), .fz []] := rfl
theorem flC_def : flC default = [.vl (.int .i64 0), .vl (.string (mk [])), .vl (.int .i64 0), .vl (.int .i64 0), .vl (.string (mk [])), .fz [], .vl (.bool false)] := rfl
set_option maxRecDepth 100000 in
theorem mStructP : Meets Try.prog 22 stSpP := by
  refine meets_fn Try.func22 ok22 2 (by rw [Try.ntmps22]; decide) (meetsAll_s mCopyStruct (meetsAll_nil _)) (fun av H K h => by obtain ⟨_, _, rfl, _⟩ := h; rfl) ?_
  rintro av H K ⟨s, n, rfl, rfl, hs, hK⟩
  rw [← fS_has] at hK
  have hl := hs.ok.ls
  simp -dsimp only [go_sem, scC, pc22, rs22]
  refine vc_loop (α := Nat) (fun i => [(1, tS n), (2, .va (.c1 (.pt 0 0))), (4, .va (.c1 (.pt 1 0))), (9, .va (.c1 (.fz (s.ss.map stC)))), (10, iS .i64 s.ss.length), (11, iS .i64 i)]) (fun _ => [.cells (scC s) 25, .cells [.vl (.string (mk [])), .vl (.slice none 0 0)] 32])
    (fun i => i ≤ s.ss.length ∧ fS (s.ss.drop i) n = fS s.ss n) (fun i => s.ss.length - i) 0 2 ⟨Nat.zero_le _, rfl⟩ ?_ ?_ ?_
  · simp [go_sem]
  · simp [go_sem, scC]
  rintro i ⟨hi, ho⟩
  rcases Nat.lt_or_ge i s.ss.length with hlt | hge
  · have hg : decide ((i : Int) < (s.ss.length : Int)) = true := by simp; omega
    obtain ⟨t, hx⟩ : ∃ e, s.ss[i]? = some e := ⟨_, List.getElem?_eq_getElem hlt⟩
    have q2 := row_rg' (row := stC) hx
    have htm := List.mem_of_getElem? hx
    rw [fS, fnd_step hx] at ho
    cases hc : decide (t.nm = n) with
    | true =>
      rw [hc, Bool.cond_true] at ho
      rw [← ho] at hK
      simp (maxSteps := 1000000) -dsimp only [go_sem, hg, ↓q2, stC, scC, bl_beq, hc]
      refine ⟨by omega, cs_use (hs.ok.ss t htm) (hs.sm t htm) ?_⟩
      simp (maxSteps := 1000000) -dsimp only [go_sem, stC]
      exact .sel [] (by simp) (by simp) rfl (.done (by simpa [go_sem, stC] using hK))
    | false =>
      rw [hc, Bool.cond_false] at ho
      simp (maxSteps := 1000000) -dsimp only [go_sem, hg, ↓q2, stC, scC, bl_beq, hc]
      refine ⟨by omega, by omega, loop_next (i + 1) 2 ⟨by omega, ho⟩ (by omega) ?_ ?_⟩
      · simp [go_sem]
      · simp [go_sem, scC]
  · have hg : decide ((i : Int) < (s.ss.length : Int)) = false := by simp; omega
    obtain rfl : i = s.ss.length := by omega
    rw [List.drop_length] at ho
    rw [← ho] at hK
    simp -dsimp only [go_sem, hg, scC]
    exact .sel [] (by simp) (by simp) rfl (.done (by simpa [go_sem, fS, stC_def] using hK))
def fF (l : List Fl) (k : Int) : Option Fl := l.find? fun f => decide (f.num = k)
def foSpP : W.Spec := fun av H K => ∃ (t : St) (k : Int), av = [.va (.gs (stC t)), iS .i64 k] ∧ H = [] ∧ t.ok ∧ (∀ f ∈ t.fs, TySm f.ty) ∧ K (.tu [.gs (flC ((fF t.fs k).getD default)), bA (fF t.fs k).isSome]) []
theorem fop_use {t : St} {k : Int} {K : S → Hp → Prop} (h : t.ok) (h2 : ∀ f ∈ t.fs, TySm f.ty) (hK : K (.tu [.gs (flC ((fF t.fs k).getD default)), bA (fF t.fs k).isSome]) []) : foSpP [.va (.gs (stC t)), iS .i64 k] [] K := ⟨t, k, rfl, rfl, h, h2, hK⟩
set_option maxRecDepth 100000 in
theorem mFieldOfP : Meets Try.prog 28 foSpP := by
  refine meets_fn Try.func28 ok28 2 (by rw [Try.ntmps28]; decide) (meetsAll_s mCopyField (meetsAll_nil _)) (fun av H K h => by obtain ⟨_, _, rfl, _⟩ := h; rfl) ?_
  rintro av H K ⟨s, n, rfl, rfl, hs, hsm, hK⟩
  have hl := hs.len
  simp -dsimp only [go_sem, stC, pc28, rs28]
  refine vc_loop (α := Nat) (fun i => [(1, iS .i64 n), (2, .va (.c1 (.pt 0 0))), (4, .va (.c1 (.pt 1 0))), (9, .va (.c1 (.fz (s.fs.map flC)))), (10, iS .i64 s.fs.length), (11, iS .i64 i)]) (fun _ => [.cells (stC s) 32, .cells [.vl (.int .i64 0), .vl (.string (mk [])), .vl (.int .i64 0), .vl (.int .i64 0), .vl (.string (mk [])), .vl (.slice none 0 0), .vl (.bool false)] 53])
    (fun i => i ≤ s.fs.length ∧ fF (s.fs.drop i) n = fF s.fs n) (fun i => s.fs.length - i) 0 2 ⟨Nat.zero_le _, rfl⟩ ?_ ?_ ?_
  · simp [go_sem]
  · simp [go_sem, stC]
  rintro i ⟨hi, ho⟩
  rcases Nat.lt_or_ge i s.fs.length with hlt | hge
  · have hg : decide ((i : Int) < (s.fs.length : Int)) = true := by simp; omega
    obtain ⟨t, hx⟩ : ∃ e, s.fs[i]? = some e := ⟨_, List.getElem?_eq_getElem hlt⟩
    have q2 := row_rg' (row := flC) hx
    have htm := List.mem_of_getElem? hx
    rw [fF, fnd_step hx] at ho
    have hq : (t.num == n) = decide (t.num = n) := rfl
    cases hc : decide (t.num = n) with
    | true =>
      rw [hc, Bool.cond_true] at ho
      rw [← ho] at hK
      simp (maxSteps := 1000000) -dsimp only [go_sem, hg, ↓q2, flC, stC, hq, hc]
      refine ⟨by omega, cd_use (hs.fs t htm) (hsm t htm) ?_⟩
      simp (maxSteps := 1000000) -dsimp only [go_sem, flC]
      exact .sel [] (by simp) (by simp) rfl (.done (by simpa [go_sem, flC] using hK))
    | false =>
      rw [hc, Bool.cond_false] at ho
      simp (maxSteps := 1000000) -dsimp only [go_sem, hg, ↓q2, flC, stC, hq, hc]
      refine ⟨by omega, by omega, loop_next (i + 1) 2 ⟨by omega, ho⟩ (by omega) ?_ ?_⟩
      · simp [go_sem]
      · simp [go_sem, stC]
  · have hg : decide ((i : Int) < (s.fs.length : Int)) = false := by simp; omega
    obtain rfl : i = s.fs.length := by omega
    rw [List.drop_length] at ho
    rw [← ho] at hK
    simp -dsimp only [go_sem, hg, stC]
    exact .sel [] (by simp) (by simp) rfl (.done (by simpa [go_sem, fF, flC_def] using hK))
end Go.Proofs.Ytpfmkfafagiicaa
namespace Go.Proofs.Ytpfmkfafagiicaa
open Go.W
@[go_sem] theorem tyC_bor (t : Ty) (H : Hp) : (tyC t).map (C.bor H) = tyC t := by rw [tyC_eq]; rfl
end Go.Proofs.Ytpfmkfafagiicaa
namespace Go.Proofs.Ytpfmkfafagiicaa
open Go.W
set_option maxRecDepth 100000 in
set_option maxHeartbeats 4000000 in
theorem mRIsName : Meets Try.prog 69 (strFn fun l => .bool (isNm l)).sp := by
  refine meets_fn Try.func69 ok69 1 (by rw [Try.ntmps69]; decide) (meetsAll_nil _) strFn_len ?_
  rintro xs H K ⟨⟨h, rfl⟩, hK⟩
  obtain ⟨s, rfl⟩ := strPre_open h
  simp -dsimp only [go_sem, pc69, rs69] at hK ⊢
  refine ⟨fun h1 => ?_, fun h1 => ?_⟩
  · refine fin_eq hK ?_
    have : isNm (bl s) = false := by
      simp at h1
      rcases h1 with h1 | h1
      · have : bl s = [] := List.length_eq_zero_iff.1 (by omega)
        rw [this]; rfl
      · exact isNm_long (by omega)
    rw [this]
  · have hlen : 0 < (bl s).length ∧ (bl s).length ≤ 16 := by simp at h1; omega
    obtain ⟨hl0, hl⟩ := hlen
    refine vc_loop (α := Nat) (fun i => [(0, tS s), (3, iS .i64 i)]) (fun i => []) (fun i => i ≤ (bl s).length ∧ (∀ (j : Nat) (x : UInt8), j < i → (bl s)[j]? = some x → wordB x = true) ∧ (0 < i → ∀ x, (bl s)[0]? = some x → isLet x.toNat = true)) (fun i => (bl s).length - i) 0 0 ⟨by omega, by omega, by omega⟩ ?_ ?_ ?_
    · simp -dsimp only [go_sem]; simp
    · simp [go_sem]
    rintro i ⟨hi, ha, hb⟩
    rcases Nat.lt_or_ge i (bl s).length with hlt | hge
    · have hg : decide ((i : Int) < ((bl s).length : Int)) = true := by simp; omega
      obtain ⟨c, hc⟩ : ∃ c, (bl s)[i]? = some c := ⟨_, List.getElem?_eq_getElem hlt⟩
      have bad : (i = 0 ∧ isLet c.toNat = false) ∨ wordB c = false → W.Fin 0 K (bS false) [] := fun h => fin_eq hK (by
        rcases h with ⟨rfl, h⟩ | h
        · rw [isNm_first hc h]
        · rw [isNm_at hc h])
      have nxt : wordB c = true → (i = 0 → isLet c.toNat = true) → (i + 1 ≤ (bl s).length ∧ (∀ (j : Nat) (x : UInt8), j < i + 1 → (bl s)[j]? = some x → wordB x = true) ∧ (0 < i + 1 → ∀ x, (bl s)[0]? = some x → isLet x.toNat = true)) := fun h1 h2 => ⟨by omega, fun j x hj hx => by
        rcases Nat.lt_or_ge j i with h4 | h4
        · exact ha j x h4 hx
        · obtain rfl : j = i := by omega
          rw [hc] at hx; obtain rfl := Option.some.inj hx; exact h1, fun _ x hx => by
        rcases Nat.eq_zero_or_pos i with h0 | h0
        · subst h0; rw [hc] at hx; obtain rfl := Option.some.inj hx; exact h2 rfl
        · exact hb h0 x hx⟩
      have hb255 := c.toNat_lt
      have hcs : (0 ≤ (c.toNat : Int) ∧ (c.toNat : Int) ≤ 47) ∨ (48 ≤ (c.toNat : Int) ∧ (c.toNat : Int) ≤ 57) ∨ (58 ≤ (c.toNat : Int) ∧ (c.toNat : Int) ≤ 64) ∨ (65 ≤ (c.toNat : Int) ∧ (c.toNat : Int) ≤ 90) ∨ (91 ≤ (c.toNat : Int) ∧ (c.toNat : Int) ≤ 94) ∨ (95 ≤ (c.toNat : Int) ∧ (c.toNat : Int) ≤ 95) ∨ (96 ≤ (c.toNat : Int) ∧ (c.toNat : Int) ≤ 96) ∨ (97 ≤ (c.toNat : Int) ∧ (c.toNat : Int) ≤ 122) ∨ (123 ≤ (c.toNat : Int) ∧ (c.toNat : Int) ≤ 255) := by omega
      rcases hcs with h2 | h2 | h2 | h2 | h2 | h2 | h2 | h2 | h2
      · have d1 : decide (97 ≤ (c.toNat : Int)) = false := decide_eq_false (by omega)
        have d2 : decide ((c.toNat : Int) ≤ 122) = true := decide_eq_true (by omega)
        have d3 : decide (65 ≤ (c.toNat : Int)) = false := decide_eq_false (by omega)
        have d4 : decide ((c.toNat : Int) ≤ 90) = true := decide_eq_true (by omega)
        have d5 : ((c.toNat : Int) == 95) = false := by simp; omega
        have d6 : decide (48 ≤ (c.toNat : Int)) = false := decide_eq_false (by omega)
        have d7 : decide ((c.toNat : Int) ≤ 57) = true := decide_eq_true (by omega)
        have hL : isLet c.toNat = false := by unfold isLet; rw [d1, d2, d3, d4]; rfl
        have hW : wordB c = false := by unfold wordB isWord isDig; rw [hL, d5, d6, d7]; rfl
        rcases Nat.eq_zero_or_pos i with h0 | h0
        · have hz : ((i : Int) == 0) = true := by simp; omega
          simp (maxSteps := 1000000) -dsimp only [go_sem, hg, hc, Option.some.injEq, forall_eq', Int.toNat_natCast, d1, d3, d5, d6, hz, Bool.true_and, Bool.and_true, Bool.false_and, Bool.and_false, Bool.not_true, Bool.not_false]
          repeat' first | intro _ | apply And.intro
          all_goals first | omega | (rename_i h9; simp at h9; done) | skip
          all_goals exact bad (by rw [hL, hW]; exact .inl ⟨h0, rfl⟩)
        · have hz : ((i : Int) == 0) = false := by simp; omega
          simp (maxSteps := 1000000) -dsimp only [go_sem, hg, hc, Option.some.injEq, forall_eq', Int.toNat_natCast, d1, d3, d5, d6, hz, Bool.true_and, Bool.and_true, Bool.false_and, Bool.not_false]
          repeat' first | intro _ | apply And.intro
          all_goals first | omega | (rename_i h9; simp at h9; done) | skip
          all_goals exact bad (by rw [hL, hW]; exact .inr rfl)
      · have d1 : decide (97 ≤ (c.toNat : Int)) = false := decide_eq_false (by omega)
        have d2 : decide ((c.toNat : Int) ≤ 122) = true := decide_eq_true (by omega)
        have d3 : decide (65 ≤ (c.toNat : Int)) = false := decide_eq_false (by omega)
        have d4 : decide ((c.toNat : Int) ≤ 90) = true := decide_eq_true (by omega)
        have d5 : ((c.toNat : Int) == 95) = false := by simp; omega
        have d6 : decide (48 ≤ (c.toNat : Int)) = true := decide_eq_true (by omega)
        have d7 : decide ((c.toNat : Int) ≤ 57) = true := decide_eq_true (by omega)
        have hL : isLet c.toNat = false := by unfold isLet; rw [d1, d2, d3, d4]; rfl
        have hW : wordB c = true := by unfold wordB isWord isDig; rw [hL, d5, d6, d7]; rfl
        rcases Nat.eq_zero_or_pos i with h0 | h0
        · have hz : ((i : Int) == 0) = true := by simp; omega
          simp (maxSteps := 1000000) -dsimp only [go_sem, hg, hc, Option.some.injEq, forall_eq', Int.toNat_natCast, d1, d3, d5, d6, hz, Bool.true_and, Bool.and_true, Bool.false_and, Bool.and_false, Bool.not_true, Bool.not_false]
          repeat' first | intro _ | apply And.intro
          all_goals first | omega | (rename_i h9; simp at h9; done) | skip
          all_goals exact bad (by rw [hL, hW]; exact .inl ⟨h0, rfl⟩)
        · have hz : ((i : Int) == 0) = false := by simp; omega
          simp (maxSteps := 1000000) -dsimp only [go_sem, hg, hc, Option.some.injEq, forall_eq', Int.toNat_natCast, d1, d3, d5, d6, d7, hz, Bool.true_and, Bool.and_true, Bool.false_and, Bool.not_false]
          repeat' first | intro _ | apply And.intro
          all_goals first | omega | (rename_i h9; simp at h9; done) | skip
          all_goals exact loop_next (i + 1) 0 (nxt (by rw [hW]) (fun h3 => by omega)) (by omega) (by simp -dsimp only [go_sem]; simp) (by simp [go_sem])
      · have d1 : decide (97 ≤ (c.toNat : Int)) = false := decide_eq_false (by omega)
        have d2 : decide ((c.toNat : Int) ≤ 122) = true := decide_eq_true (by omega)
        have d3 : decide (65 ≤ (c.toNat : Int)) = false := decide_eq_false (by omega)
        have d4 : decide ((c.toNat : Int) ≤ 90) = true := decide_eq_true (by omega)
        have d5 : ((c.toNat : Int) == 95) = false := by simp; omega
        have d6 : decide (48 ≤ (c.toNat : Int)) = true := decide_eq_true (by omega)
        have d7 : decide ((c.toNat : Int) ≤ 57) = false := decide_eq_false (by omega)
        have hL : isLet c.toNat = false := by unfold isLet; rw [d1, d2, d3, d4]; rfl
        have hW : wordB c = false := by unfold wordB isWord isDig; rw [hL, d5, d6, d7]; rfl
        rcases Nat.eq_zero_or_pos i with h0 | h0
        · have hz : ((i : Int) == 0) = true := by simp; omega
          simp (maxSteps := 1000000) -dsimp only [go_sem, hg, hc, Option.some.injEq, forall_eq', Int.toNat_natCast, d1, d3, d5, d6, hz, Bool.true_and, Bool.and_true, Bool.false_and, Bool.and_false, Bool.not_true, Bool.not_false]
          repeat' first | intro _ | apply And.intro
          all_goals first | omega | (rename_i h9; simp at h9; done) | skip
          all_goals exact bad (by rw [hL, hW]; exact .inl ⟨h0, rfl⟩)
        · have hz : ((i : Int) == 0) = false := by simp; omega
          simp (maxSteps := 1000000) -dsimp only [go_sem, hg, hc, Option.some.injEq, forall_eq', Int.toNat_natCast, d1, d3, d5, d6, d7, hz, Bool.true_and, Bool.and_true, Bool.false_and, Bool.not_false]
          repeat' first | intro _ | apply And.intro
          all_goals first | omega | (rename_i h9; simp at h9; done) | skip
          all_goals exact bad (by rw [hL, hW]; exact .inr rfl)
      · have d1 : decide (97 ≤ (c.toNat : Int)) = false := decide_eq_false (by omega)
        have d2 : decide ((c.toNat : Int) ≤ 122) = true := decide_eq_true (by omega)
        have d3 : decide (65 ≤ (c.toNat : Int)) = true := decide_eq_true (by omega)
        have d4 : decide ((c.toNat : Int) ≤ 90) = true := decide_eq_true (by omega)
        have d5 : ((c.toNat : Int) == 95) = false := by simp; omega
        have d6 : decide (48 ≤ (c.toNat : Int)) = true := decide_eq_true (by omega)
        have d7 : decide ((c.toNat : Int) ≤ 57) = false := decide_eq_false (by omega)
        have hL : isLet c.toNat = true := by unfold isLet; rw [d1, d2, d3, d4]; rfl
        have hW : wordB c = true := by unfold wordB isWord isDig; rw [hL, d5, d6, d7]; rfl
        rcases Nat.eq_zero_or_pos i with h0 | h0
        · have hz : ((i : Int) == 0) = true := by simp; omega
          simp (maxSteps := 1000000) -dsimp only [go_sem, hg, hc, Option.some.injEq, forall_eq', Int.toNat_natCast, d1, d3, d4, d5, d6, hz, Bool.true_and, Bool.and_true, Bool.false_and, Bool.and_false, Bool.not_true, Bool.not_false]
          repeat' first | intro _ | apply And.intro
          all_goals first | omega | (rename_i h9; simp at h9; done) | skip
          all_goals exact loop_next (i + 1) 0 (nxt (by rw [hW]) (fun h3 => by rw [hL])) (by omega) (by simp -dsimp only [go_sem]; simp) (by simp [go_sem])
        · have hz : ((i : Int) == 0) = false := by simp; omega
          simp (maxSteps := 1000000) -dsimp only [go_sem, hg, hc, Option.some.injEq, forall_eq', Int.toNat_natCast, d1, d3, d4, d5, d6, d7, hz, Bool.true_and, Bool.and_true, Bool.false_and, Bool.not_false]
          repeat' first | intro _ | apply And.intro
          all_goals first | omega | (rename_i h9; simp at h9; done) | skip
          all_goals exact loop_next (i + 1) 0 (nxt (by rw [hW]) (fun h3 => by rw [hL])) (by omega) (by simp -dsimp only [go_sem]; simp) (by simp [go_sem])
      · have d1 : decide (97 ≤ (c.toNat : Int)) = false := decide_eq_false (by omega)
        have d2 : decide ((c.toNat : Int) ≤ 122) = true := decide_eq_true (by omega)
        have d3 : decide (65 ≤ (c.toNat : Int)) = true := decide_eq_true (by omega)
        have d4 : decide ((c.toNat : Int) ≤ 90) = false := decide_eq_false (by omega)
        have d5 : ((c.toNat : Int) == 95) = false := by simp; omega
        have d6 : decide (48 ≤ (c.toNat : Int)) = true := decide_eq_true (by omega)
        have d7 : decide ((c.toNat : Int) ≤ 57) = false := decide_eq_false (by omega)
        have hL : isLet c.toNat = false := by unfold isLet; rw [d1, d2, d3, d4]; rfl
        have hW : wordB c = false := by unfold wordB isWord isDig; rw [hL, d5, d6, d7]; rfl
        rcases Nat.eq_zero_or_pos i with h0 | h0
        · have hz : ((i : Int) == 0) = true := by simp; omega
          simp (maxSteps := 1000000) -dsimp only [go_sem, hg, hc, Option.some.injEq, forall_eq', Int.toNat_natCast, d1, d3, d4, d5, d6, hz, Bool.true_and, Bool.and_true, Bool.false_and, Bool.and_false, Bool.not_true, Bool.not_false]
          repeat' first | intro _ | apply And.intro
          all_goals first | omega | (rename_i h9; simp at h9; done) | skip
          all_goals exact bad (by rw [hL, hW]; exact .inl ⟨h0, rfl⟩)
        · have hz : ((i : Int) == 0) = false := by simp; omega
          simp (maxSteps := 1000000) -dsimp only [go_sem, hg, hc, Option.some.injEq, forall_eq', Int.toNat_natCast, d1, d3, d4, d5, d6, d7, hz, Bool.true_and, Bool.and_true, Bool.false_and, Bool.not_false]
          repeat' first | intro _ | apply And.intro
          all_goals first | omega | (rename_i h9; simp at h9; done) | skip
          all_goals exact bad (by rw [hL, hW]; exact .inr rfl)
      · have d1 : decide (97 ≤ (c.toNat : Int)) = false := decide_eq_false (by omega)
        have d2 : decide ((c.toNat : Int) ≤ 122) = true := decide_eq_true (by omega)
        have d3 : decide (65 ≤ (c.toNat : Int)) = true := decide_eq_true (by omega)
        have d4 : decide ((c.toNat : Int) ≤ 90) = false := decide_eq_false (by omega)
        have d5 : ((c.toNat : Int) == 95) = true := by simp; omega
        have d6 : decide (48 ≤ (c.toNat : Int)) = true := decide_eq_true (by omega)
        have d7 : decide ((c.toNat : Int) ≤ 57) = false := decide_eq_false (by omega)
        have hL : isLet c.toNat = false := by unfold isLet; rw [d1, d2, d3, d4]; rfl
        have hW : wordB c = true := by unfold wordB isWord isDig; rw [hL, d5, d6, d7]; rfl
        rcases Nat.eq_zero_or_pos i with h0 | h0
        · have hz : ((i : Int) == 0) = true := by simp; omega
          simp (maxSteps := 1000000) -dsimp only [go_sem, hg, hc, Option.some.injEq, forall_eq', Int.toNat_natCast, d1, d3, d4, d5, hz, Bool.true_and, Bool.and_true, Bool.false_and, Bool.and_false, Bool.not_true, Bool.not_false]
          repeat' first | intro _ | apply And.intro
          all_goals first | omega | (rename_i h9; simp at h9; done) | skip
          all_goals exact bad (by rw [hL, hW]; exact .inl ⟨h0, rfl⟩)
        · have hz : ((i : Int) == 0) = false := by simp; omega
          simp (maxSteps := 1000000) -dsimp only [go_sem, hg, hc, Option.some.injEq, forall_eq', Int.toNat_natCast, d1, d3, d4, d5, hz, Bool.true_and, Bool.and_true, Bool.false_and, Bool.not_true, Bool.not_false]
          repeat' first | intro _ | apply And.intro
          all_goals first | omega | (rename_i h9; simp at h9; done) | skip
          all_goals exact loop_next (i + 1) 0 (nxt (by rw [hW]) (fun h3 => by omega)) (by omega) (by simp -dsimp only [go_sem]; simp) (by simp [go_sem])
      · have d1 : decide (97 ≤ (c.toNat : Int)) = false := decide_eq_false (by omega)
        have d2 : decide ((c.toNat : Int) ≤ 122) = true := decide_eq_true (by omega)
        have d3 : decide (65 ≤ (c.toNat : Int)) = true := decide_eq_true (by omega)
        have d4 : decide ((c.toNat : Int) ≤ 90) = false := decide_eq_false (by omega)
        have d5 : ((c.toNat : Int) == 95) = false := by simp; omega
        have d6 : decide (48 ≤ (c.toNat : Int)) = true := decide_eq_true (by omega)
        have d7 : decide ((c.toNat : Int) ≤ 57) = false := decide_eq_false (by omega)
        have hL : isLet c.toNat = false := by unfold isLet; rw [d1, d2, d3, d4]; rfl
        have hW : wordB c = false := by unfold wordB isWord isDig; rw [hL, d5, d6, d7]; rfl
        rcases Nat.eq_zero_or_pos i with h0 | h0
        · have hz : ((i : Int) == 0) = true := by simp; omega
          simp (maxSteps := 1000000) -dsimp only [go_sem, hg, hc, Option.some.injEq, forall_eq', Int.toNat_natCast, d1, d3, d4, d5, d6, hz, Bool.true_and, Bool.and_true, Bool.false_and, Bool.and_false, Bool.not_true, Bool.not_false]
          repeat' first | intro _ | apply And.intro
          all_goals first | omega | (rename_i h9; simp at h9; done) | skip
          all_goals exact bad (by rw [hL, hW]; exact .inl ⟨h0, rfl⟩)
        · have hz : ((i : Int) == 0) = false := by simp; omega
          simp (maxSteps := 1000000) -dsimp only [go_sem, hg, hc, Option.some.injEq, forall_eq', Int.toNat_natCast, d1, d3, d4, d5, d6, d7, hz, Bool.true_and, Bool.and_true, Bool.false_and, Bool.not_false]
          repeat' first | intro _ | apply And.intro
          all_goals first | omega | (rename_i h9; simp at h9; done) | skip
          all_goals exact bad (by rw [hL, hW]; exact .inr rfl)
      · have d1 : decide (97 ≤ (c.toNat : Int)) = true := decide_eq_true (by omega)
        have d2 : decide ((c.toNat : Int) ≤ 122) = true := decide_eq_true (by omega)
        have d3 : decide (65 ≤ (c.toNat : Int)) = true := decide_eq_true (by omega)
        have d4 : decide ((c.toNat : Int) ≤ 90) = false := decide_eq_false (by omega)
        have d5 : ((c.toNat : Int) == 95) = false := by simp; omega
        have d6 : decide (48 ≤ (c.toNat : Int)) = true := decide_eq_true (by omega)
        have d7 : decide ((c.toNat : Int) ≤ 57) = false := decide_eq_false (by omega)
        have hL : isLet c.toNat = true := by unfold isLet; rw [d1, d2, d3, d4]; rfl
        have hW : wordB c = true := by unfold wordB isWord isDig; rw [hL, d5, d6, d7]; rfl
        rcases Nat.eq_zero_or_pos i with h0 | h0
        · have hz : ((i : Int) == 0) = true := by simp; omega
          simp (maxSteps := 1000000) -dsimp only [go_sem, hg, hc, Option.some.injEq, forall_eq', Int.toNat_natCast, d1, d2, d5, d6, hz, Bool.true_and, Bool.and_true, Bool.false_and, Bool.and_false, Bool.not_true, Bool.not_false]
          repeat' first | intro _ | apply And.intro
          all_goals first | omega | (rename_i h9; simp at h9; done) | skip
          all_goals exact loop_next (i + 1) 0 (nxt (by rw [hW]) (fun h3 => by rw [hL])) (by omega) (by simp -dsimp only [go_sem]; simp) (by simp [go_sem])
        · have hz : ((i : Int) == 0) = false := by simp; omega
          simp (maxSteps := 1000000) -dsimp only [go_sem, hg, hc, Option.some.injEq, forall_eq', Int.toNat_natCast, d1, d2, d5, d6, d7, hz, Bool.true_and, Bool.and_true, Bool.false_and, Bool.not_true, Bool.not_false]
          repeat' first | intro _ | apply And.intro
          all_goals first | omega | (rename_i h9; simp at h9; done) | skip
          all_goals exact loop_next (i + 1) 0 (nxt (by rw [hW]) (fun h3 => by rw [hL])) (by omega) (by simp -dsimp only [go_sem]; simp) (by simp [go_sem])
      · have d1 : decide (97 ≤ (c.toNat : Int)) = true := decide_eq_true (by omega)
        have d2 : decide ((c.toNat : Int) ≤ 122) = false := decide_eq_false (by omega)
        have d3 : decide (65 ≤ (c.toNat : Int)) = true := decide_eq_true (by omega)
        have d4 : decide ((c.toNat : Int) ≤ 90) = false := decide_eq_false (by omega)
        have d5 : ((c.toNat : Int) == 95) = false := by simp; omega
        have d6 : decide (48 ≤ (c.toNat : Int)) = true := decide_eq_true (by omega)
        have d7 : decide ((c.toNat : Int) ≤ 57) = false := decide_eq_false (by omega)
        have hL : isLet c.toNat = false := by unfold isLet; rw [d1, d2, d3, d4]; rfl
        have hW : wordB c = false := by unfold wordB isWord isDig; rw [hL, d5, d6, d7]; rfl
        rcases Nat.eq_zero_or_pos i with h0 | h0
        · have hz : ((i : Int) == 0) = true := by simp; omega
          simp (maxSteps := 1000000) -dsimp only [go_sem, hg, hc, Option.some.injEq, forall_eq', Int.toNat_natCast, d1, d2, d3, d4, d5, d6, hz, Bool.true_and, Bool.and_true, Bool.and_false, Bool.not_true, Bool.not_false]
          repeat' first | intro _ | apply And.intro
          all_goals first | omega | (rename_i h9; simp at h9; done) | skip
          all_goals exact bad (by rw [hL, hW]; exact .inl ⟨h0, rfl⟩)
        · have hz : ((i : Int) == 0) = false := by simp; omega
          simp (maxSteps := 1000000) -dsimp only [go_sem, hg, hc, Option.some.injEq, forall_eq', Int.toNat_natCast, d1, d2, d3, d4, d5, d6, d7, hz, Bool.true_and, Bool.and_true, Bool.not_false]
          repeat' first | intro _ | apply And.intro
          all_goals first | omega | (rename_i h9; simp at h9; done) | skip
          all_goals exact bad (by rw [hL, hW]; exact .inr rfl)
    · have hg : decide ((i : Int) < ((bl s).length : Int)) = false := by simp; omega
      obtain rfl : i = (bl s).length := by omega
      obtain ⟨c, hc⟩ : ∃ c, (bl s)[0]? = some c := ⟨_, List.getElem?_eq_getElem hl0⟩
      simp (maxSteps := 1000000) -dsimp only [go_sem, hg]
      refine fin_eq hK ?_
      rw [isNm_true hc hl (hb hl0 c hc) fun j x hx => ha j x (List.getElem?_eq_some_iff.1 hx).1 hx]
end Go.Proofs.Ytpfmkfafagiicaa
namespace Go.Proofs.Ytpfmkfafagiicaa
open Go.W
set_option maxRecDepth 100000 in
theorem mRIsType : Meets Try.prog 68 (strFn fun l => .bool (tnB l)).sp := by
  refine meets_fn Try.func68 ok68 1 (by rw [Try.ntmps68]; decide) (meetsAll_f mRIsName (meetsAll_nil _)) strFn_len ?_
  rintro xs H K ⟨⟨h, rfl⟩, hK⟩
  obtain ⟨s, rfl⟩ := strPre_open h
  have hK' : K (.va (.c1 (.vl (.bool (tnB (bl s)))))) [] := hK
  clear hK h
  unfold tnB at hK'
  cases hn : isNm (bl s) with
  | false =>
    rw [hn] at hK'
    simp -dsimp only [go_sem, pc68, rs68, hn]
    exact .done hK'
  | true =>
    cases hl : bl s with
    | nil => rw [hl] at hn; cases hn
    | cons c r =>
      rw [hl] at hn hK'
      rw [hn] at hK'
      simp -dsimp only [go_sem, pc68, rs68, hl, hn]
      refine ⟨by omega, fun d hd => ⟨fun _ => by omega, fun e he => ?_⟩⟩
      subst hd
      cases hc : decide (65 ≤ (c.toNat : Int)) with
      | false => simp only [hc, Bool.true_and, Bool.false_and] at hK'; exact .done hK'
      | true =>
        obtain rfl := he hc
        simp only [hc, Bool.true_and] at hK'; exact .done hK'
set_option maxRecDepth 100000 in
theorem mRPlain : Meets Try.prog 87 (gFn isTy C.ty fun t => .bool ((t.e.length : Int) == 0)).sp := by
  refine meets_fn Try.func87 ok87 1 (by rw [Try.ntmps87]; decide) (meetsAll_nil _) gFn_len ?_
  rintro av H K ⟨⟨h, rfl⟩, hK⟩
  obtain ⟨_, rfl, t, rfl, ht⟩ := gPre_open h
  have hK : K (bS ((t.e.length : Int) == 0)) [] := by
    have : (gFn isTy C.ty fun t => .bool ((t.e.length : Int) == 0)).val [.va (.gs (tyC t))] = bA ((t.e.length : Int) == 0) := by simp -dsimp only [go_sem]
    rw [this] at hK; exact hK
  simp (maxSteps := 1000000) -dsimp only [go_sem, tyC_eq, pc87, rs87]
  exact .sel [] (by simp) (by simp) rfl (.done (by simpa [go_sem] using hK))
def inPre : List S → Prop := fun av => match av with
  | [.va (.c1 (.fz rs)), .va (.c1 (.vl (.int .i64 k))), .va (.c1 (.vl (.string _)))] => isBs rs ∧ 0 ≤ k ∧ k ≤ 9223372036854775807
  | _ => False
theorem inPre_open {av : List S} (h : inPre av) : ∃ (l : List ByteArray) (n : Nat) (x : ByteArray), av = [.va (.c1 (.fz (l.map stR))), iS .i64 n, tS x] ∧ l.length ≤ 9223372036854775807 ∧ (n : Int) ≤ 9223372036854775807 := by
  unfold inPre at h
  split at h
  · obtain ⟨⟨l, rfl, h1⟩, h2, h3⟩ := h
    rename_i k x
    exact ⟨l, k.toNat, x, by rw [Int.toNat_of_nonneg h2], h1, by omega⟩
  · exact h.elim
noncomputable def inVal : List S → A := fun av => match av with
  | [.va (.c1 (.fz rs)), .va (.c1 (.vl (.int .i64 k))), .va (.c1 (.vl (.string x)))] => bA (inB ((rs.map C.bs).take k.toNat) x)
  | _ => .gs []
noncomputable def inFn : Fun := ⟨inPre, inVal, fun av h => by obtain ⟨l, n, x, rfl, _⟩ := inPre_open h; trivial⟩
theorem inFn_len : ∀ av H K, inFn.sp av H K → av.length = 3 := fun av H K h => by obtain ⟨l, n, x, rfl, _⟩ := inPre_open h.1.1; rfl
attribute [go_sem] inFn inPre inVal
set_option maxRecDepth 100000 in
theorem mRIn : Meets Try.prog 48 inFn.sp := by
  refine meets_fn Try.func48 ok48 3 (by rw [Try.ntmps48]; decide) (meetsAll_nil _) inFn_len ?_
  rintro av H K ⟨⟨h, rfl⟩, hK⟩
  obtain ⟨l, n, x, rfl, hl, hn⟩ := inPre_open h
  have hK : K (bS (inB (l.take n) x)) [] := by
    have : inFn.val [.va (.c1 (.fz (l.map stR))), iS .i64 n, tS x] = bA (inB (l.take n) x) := by simp -dsimp only [go_sem, Int.toNat_natCast]
    rw [this] at hK; exact hK
  clear h
  simp (maxSteps := 1000000) -dsimp only [go_sem, pc48, rs48]
  refine vc_loop (α := Nat) (fun i => [(0, .va (.c1 (.fz (l.map stR)))), (1, iS .i64 n), (2, tS x), (7, iS .i64 i)]) (fun _ => [])
    (fun i => i ≤ (l.take n).length ∧ inB ((l.take n).drop i) x = inB (l.take n) x) (fun i => l.length - i) 0 0 ⟨Nat.zero_le _, rfl⟩ ?_ ?_ ?_
  · simp [go_sem]
  · simp [go_sem]
  rintro i ⟨hi, ho⟩
  have hlt0 : (l.take n).length = min n l.length := by simp
  rcases Nat.lt_or_ge i (l.take n).length with hlt | hge
  · have g1 : decide ((i : Int) < (n : Int)) = true := by simp; omega
    have g2 : decide ((i : Int) < (l.length : Int)) = true := by simp; omega
    obtain ⟨y, hx⟩ : ∃ y, l[i]? = some y := ⟨_, List.getElem?_eq_getElem (by omega)⟩
    have hx' : (l.take n)[i]? = some y := by rw [List.getElem?_take, if_pos (by omega)]; exact hx
    have q2 := row_rg' (row := stR) hx
    rw [inB, any_step hx'] at ho
    simp (maxSteps := 1000000) -dsimp only [go_sem, g1, g2, ↓q2, bl_beq]
    have hsy : decide (y = x) = decide (x = y) := by simp [eq_comm]
    refine ⟨by omega, fun hc => ?_, fun hc => ⟨by omega, loop_next (i + 1) 0 ⟨by omega, ?_⟩ (by omega) ?_ ?_⟩⟩
    · rw [← hsy, hc, Bool.true_or] at ho
      rw [← ho] at hK
      exact .done hK
    · rw [← hsy, hc, Bool.false_or] at ho
      exact ho
    · simp [go_sem]
    · simp [go_sem]
  · obtain rfl : i = (l.take n).length := by omega
    rw [inB, any_end] at ho
    rw [← ho] at hK
    generalize hm : (l.take n).length = m at *
    rcases Nat.lt_or_ge m n with h1 | h1
    · have g1 : decide ((m : Int) < (n : Int)) = true := by simp; omega
      have g2 : decide ((m : Int) < (l.length : Int)) = false := by simp; omega
      simp (maxSteps := 1000000) -dsimp only [go_sem, g1, g2]
      exact .done hK
    · have g1 : decide ((m : Int) < (n : Int)) = false := by simp; omega
      simp (maxSteps := 1000000) -dsimp only [go_sem, g1]
      exact .done hK
set_option maxRecDepth 100000 in
theorem mRStruct : Meets Try.prog 23 stSpP := by
  refine meets_fn Try.func23 ok23 2 (by rw [Try.ntmps23]; decide) (meetsAll_nil _) (fun av H K h => by obtain ⟨_, _, rfl, _⟩ := h; rfl) ?_
  rintro av H K ⟨s, n, rfl, rfl, hs, hK⟩
  rw [← fS_has] at hK
  have hl := hs.ok.ls
  simp -dsimp only [go_sem, scC, pc23, rs23]
  refine vc_loop (α := Nat) (fun i => [(1, tS n), (2, .va (.c1 (.pt 0 0))), (4, .va (.c1 (.pt 1 0))), (6, iS .i64 i)]) (fun _ => [.cells (scC s) 25, .cells [.vl (.string (mk [])), .vl (.slice none 0 0)] 32])
    (fun i => i ≤ s.ss.length ∧ fS (s.ss.drop i) n = fS s.ss n) (fun i => s.ss.length - i) 0 2 ⟨Nat.zero_le _, rfl⟩ ?_ ?_ ?_
  · simp [go_sem]
  · simp [go_sem, scC]
  rintro i ⟨hi, ho⟩
  rcases Nat.lt_or_ge i s.ss.length with hlt | hge
  · have hg : decide ((i : Int) < (s.ss.length : Int)) = true := by simp; omega
    obtain ⟨t, hx⟩ : ∃ e, s.ss[i]? = some e := ⟨_, List.getElem?_eq_getElem hlt⟩
    have q2 := row_rg' (row := stC) hx
    rw [fS, fnd_step hx] at ho
    cases hc : decide (t.nm = n) with
    | true =>
      rw [hc, Bool.cond_true] at ho
      rw [← ho] at hK
      simp (maxSteps := 1000000) -dsimp only [go_sem, hg, ↓q2, stC, scC, bl_beq, hc]
      refine ⟨by omega, by omega, .sel [] (by simp) (by simp) rfl (.done (by simpa [go_sem, stC] using hK))⟩
    | false =>
      rw [hc, Bool.cond_false] at ho
      simp (maxSteps := 1000000) -dsimp only [go_sem, hg, ↓q2, stC, scC, bl_beq, hc]
      refine ⟨by omega, by omega, loop_next (i + 1) 2 ⟨by omega, ho⟩ (by omega) ?_ ?_⟩
      · simp [go_sem]
      · simp [go_sem, scC]
  · have hg : decide ((i : Int) < (s.ss.length : Int)) = false := by simp; omega
    obtain rfl : i = s.ss.length := by omega
    rw [List.drop_length] at ho
    rw [← ho] at hK
    simp -dsimp only [go_sem, hg, scC]
    exact .sel [] (by simp) (by simp) rfl (.done (by simpa [go_sem, fS, stC_def] using hK))
def enSpP : W.Spec := fun av H K => ∃ (s : Sc) (n : ByteArray), av = [.va (.gs (scC s)), tS n] ∧ H = [] ∧ s.fit ∧ K (.tu [.gs (enC ((fEn s.es n).getD default)), bA (hasE s.es n)]) []
theorem enp_use {s : Sc} {n : ByteArray} {K : S → Hp → Prop} (h : s.fit) (hK : K (.tu [.gs (enC ((fEn s.es n).getD default)), bA (hasE s.es n)]) []) : enSpP [.va (.gs (scC s)), tS n] [] K := ⟨s, n, rfl, rfl, h, hK⟩
theorem enC_def : enC default = [.vl (.string (mk [])), .fz [], .fz []] := rfl
set_option maxRecDepth 100000 in
theorem mREnum : Meets Try.prog 25 enSpP := by
  refine meets_fn Try.func25 ok25 2 (by rw [Try.ntmps25]; decide) (meetsAll_nil _) (fun av H K h => by obtain ⟨_, _, rfl, _⟩ := h; rfl) ?_
  rintro av H K ⟨s, n, rfl, rfl, hs, hK⟩
  rw [← fEn_has] at hK
  have hl := hs.ok.le
  simp -dsimp only [go_sem, scC, pc25, rs25]
  refine vc_loop (α := Nat) (fun i => [(1, tS n), (2, .va (.c1 (.pt 0 0))), (4, .va (.c1 (.pt 1 0))), (6, iS .i64 i)]) (fun _ => [.cells (scC s) 25, .cells [.vl (.string (mk [])), .vl (.slice none 0 0), .vl (.slice none 0 0)] 47])
    (fun i => i ≤ s.es.length ∧ fEn (s.es.drop i) n = fEn s.es n) (fun i => s.es.length - i) 0 2 ⟨Nat.zero_le _, rfl⟩ ?_ ?_ ?_
  · simp [go_sem]
  · simp [go_sem, scC]
  rintro i ⟨hi, ho⟩
  rcases Nat.lt_or_ge i s.es.length with hlt | hge
  · have hg : decide ((i : Int) < (s.es.length : Int)) = true := by simp; omega
    obtain ⟨t, hx⟩ : ∃ e, s.es[i]? = some e := ⟨_, List.getElem?_eq_getElem hlt⟩
    have q2 := row_rg' (row := enC) hx
    rw [fEn, fnd_step hx] at ho
    cases hc : decide (t.nm = n) with
    | true =>
      rw [hc, Bool.cond_true] at ho
      rw [← ho] at hK
      simp (maxSteps := 1000000) -dsimp only [go_sem, hg, ↓q2, enC, scC, bl_beq, hc]
      refine ⟨by omega, by omega, .sel [] (by simp) (by simp) rfl (.done (by simpa [go_sem, enC] using hK))⟩
    | false =>
      rw [hc, Bool.cond_false] at ho
      simp (maxSteps := 1000000) -dsimp only [go_sem, hg, ↓q2, enC, scC, bl_beq, hc]
      refine ⟨by omega, by omega, loop_next (i + 1) 2 ⟨by omega, ho⟩ (by omega) ?_ ?_⟩
      · simp [go_sem]
      · simp [go_sem, scC]
  · have hg : decide ((i : Int) < (s.es.length : Int)) = false := by simp; omega
    obtain rfl : i = s.es.length := by omega
    rw [List.drop_length] at ho
    rw [← ho] at hK
    simp -dsimp only [go_sem, hg, scC]
    exact .sel [] (by simp) (by simp) rfl (.done (by simpa [go_sem, fEn, enC_def] using hK))
end Go.Proofs.Ytpfmkfafagiicaa
namespace Go.Proofs.Ytpfmkfafagiicaa
open Go.W
noncomputable def eqB {α : Type} (a b : α) : Bool := @decide (a = b) (Classical.propDecidable _)
end Go.Proofs.Ytpfmkfafagiicaa
namespace Go.Proofs.Ytpfmkfafagiicaa
open Go.W
theorem list_ext_lt {α : Type} {a b : List α} (hl : a.length = b.length) (h : ∀ j, j < a.length → a[j]? = b[j]?) : a = b := List.ext_getElem? fun j => by
  rcases Nat.lt_or_ge j a.length with h4 | h4
  · exact h j h4
  · rw [List.getElem?_eq_none h4, List.getElem?_eq_none (by omega)]
set_option maxRecDepth 100000 in
theorem mRLong : Meets Try.prog 44 (gFn isSc C.sc fun s => .bool (largeF s)).sp := by
  refine meets_fn Try.func44 ok44 1 (by rw [Try.ntmps44]; decide) (meetsAll_nil _) gFn_len ?_
  rintro av H K ⟨⟨h, rfl⟩, hK⟩
  obtain ⟨_, rfl, s, rfl, hs⟩ := gPre_open h
  have hK : K (bS (largeF s)) [] := by
    have : (gFn isSc C.sc fun s => .bool (largeF s)).val [.va (.gs (scC s))] = bA (largeF s) := by simp -dsimp only [go_sem]
    rw [this] at hK; exact hK
  obtain ⟨hv, hle, hls, hes, hss⟩ := hs
  have big : largeF s = true → ∀ R : Hp, W.Fin 0 K (bS true) R := fun h R => by
    rw [h] at hK
    exact .sel [] (by simp) (by simp) rfl (.done (by simpa [go_sem] using hK))
  cases d1 : decide (16 < (s.es.length : Int)) with
  | true =>
    simp (maxSteps := 1000000) -dsimp only [go_sem, scC, pc44, rs44, d1]
    exact big (by unfold largeF; rw [show decide (16 < s.es.length) = true by simp at d1 ⊢; omega]; simp) _
  | false =>
  cases d2 : decide (16 < (s.ss.length : Int)) with
  | true =>
    simp (maxSteps := 1000000) -dsimp only [go_sem, scC, pc44, rs44, d1, d2]
    exact big (by unfold largeF; rw [show decide (16 < s.es.length + s.ss.length) = true by simp at d2 ⊢; omega]; simp) _
  | false =>
  cases d3 : decide (16 < (s.es.length : Int) + (s.ss.length : Int)) with
  | true =>
    simp (maxSteps := 1000000) -dsimp only [go_sem, scC, pc44, rs44, d1, d2, d3]
    exact ⟨by simp at d1 d2; omega, big (by unfold largeF; rw [show decide (16 < s.es.length + s.ss.length) = true by simp at d3 ⊢; omega]; simp) _⟩
  | false =>
  simp (maxSteps := 1000000) -dsimp only [go_sem, scC, pc44, rs44, d1, d2, d3]
  simp only [decide_eq_false_iff_not] at d1 d2 d3
  refine ⟨by omega, ?_⟩
  have hL : largeF s = (s.es.any (fun e => decide (16 < e.ns.length)) || s.ss.any (fun t => decide (16 < t.fs.length))) := by
    unfold largeF; rw [decide_eq_false (by omega), decide_eq_false (by omega)]; rfl
  refine vc_loop (α := Nat) (fun i => [(1, .va (.c1 (.pt 0 0))), (3, iS .i64 i)]) (fun _ => [.cells (scC s) 25])
    (fun i => i ≤ s.es.length ∧ (s.es.drop i).any (fun e => decide (16 < e.ns.length)) = s.es.any (fun e => decide (16 < e.ns.length))) (fun i => s.es.length - i) 0 1 ⟨Nat.zero_le _, rfl⟩ ?_ ?_ ?_
  · simp [go_sem]
  · simp [go_sem, scC]
  rintro i ⟨hi, ho⟩
  rcases Nat.lt_or_ge i s.es.length with hlt | hge
  · have hg : decide ((i : Int) < (s.es.length : Int)) = true := by simp; omega
    obtain ⟨e, hx⟩ : ∃ e, s.es[i]? = some e := ⟨_, List.getElem?_eq_getElem hlt⟩
    have q2 := row_rg' (row := enC) hx
    rw [any_step hx] at ho
    simp (maxSteps := 1000000) -dsimp only [go_sem, hg, ↓q2, enC, scC]
    and_intros
    all_goals first
      | omega
      | skip
    · intro hc
      have hc' : decide (16 < e.ns.length) = true := by simp at hc; simp; omega
      have : largeF s = true := by simp only [hL, ← ho, hc', Bool.true_or]
      rw [this] at hK
      exact .sel [] (by simp) (by simp) rfl (.done (by simpa [go_sem] using hK))
    · intro hc
      refine ⟨by omega, loop_next (i + 1) 1 ⟨by omega, ?_⟩ (by omega) ?_ ?_⟩
      · have hc' : decide (16 < e.ns.length) = false := by simp at hc; simp; omega
        rw [← ho, hc', Bool.false_or]
      · simp [go_sem]
      · simp [go_sem, scC]
  · have hg : decide ((i : Int) < (s.es.length : Int)) = false := by simp; omega
    obtain rfl : i = s.es.length := by omega
    rw [any_end] at ho
    rw [← ho, Bool.false_or] at hL
    simp (maxSteps := 1000000) -dsimp only [go_sem, hg, scC]
    refine vc_loop (α := Nat) (fun i => [(1, .va (.c1 (.pt 0 0))), (4, iS .i64 i)]) (fun _ => [.cells (scC s) 25])
      (fun i => i ≤ s.ss.length ∧ (s.ss.drop i).any (fun e => decide (16 < e.fs.length)) = s.ss.any (fun e => decide (16 < e.fs.length))) (fun i => s.ss.length - i) 0 1 ⟨Nat.zero_le _, rfl⟩ ?_ ?_ ?_
    · simp [go_sem]
    · simp [go_sem, scC]
    clear hi ho hge hg
    rintro i ⟨hi, ho⟩
    rcases Nat.lt_or_ge i s.ss.length with hlt | hge
    · have hg : decide ((i : Int) < (s.ss.length : Int)) = true := by simp; omega
      obtain ⟨e, hx⟩ : ∃ e, s.ss[i]? = some e := ⟨_, List.getElem?_eq_getElem hlt⟩
      have q2 := row_rg' (row := stC) hx
      rw [any_step hx] at ho
      simp (maxSteps := 1000000) -dsimp only [go_sem, hg, ↓q2, stC, scC]
      and_intros
      all_goals first
        | omega
        | skip
      · intro hc
        have hc' : decide (16 < e.fs.length) = true := by simp at hc; simp; omega
        have : largeF s = true := by simp only [hL, ← ho, hc', Bool.true_or]
        rw [this] at hK
        exact .sel [] (by simp) (by simp) rfl (.done (by simpa [go_sem] using hK))
      · intro hc
        refine ⟨by omega, loop_next (i + 1) 1 ⟨by omega, ?_⟩ (by omega) ?_ ?_⟩
        · have hc' : decide (16 < e.fs.length) = false := by simp at hc; simp; omega
          rw [← ho, hc', Bool.false_or]
        · simp [go_sem]
        · simp [go_sem, scC]
    · have hg : decide ((i : Int) < (s.ss.length : Int)) = false := by simp; omega
      obtain rfl : i = s.ss.length := by omega
      rw [any_end] at ho
      simp (maxSteps := 1000000) -dsimp only [go_sem, hg, scC]
      rw [hL, ← ho] at hK
      exact .sel [] (by simp) (by simp) rfl (.done (by simpa [go_sem] using hK))
end Go.Proofs.Ytpfmkfafagiicaa
namespace Go.Proofs.Ytpfmkfafagiicaa
open Go.W
def siPre (len : Sc → Nat) : List S → Prop := fun av => match av with
  | [.va (.gs r), .va (.c1 (.vl (.int .i64 i)))] => isScF r ∧ 0 ≤ i ∧ i < (len (C.sc r) : Int)
  | _ => False
theorem siPre_open {len : Sc → Nat} {av : List S} (h : siPre len av) : ∃ (s : Sc) (i : Nat), av = [.va (.gs (scC s)), iS .i64 i] ∧ s.fit ∧ i < len s := by
  unfold siPre at h
  split at h
  · obtain ⟨⟨a, rfl, ha⟩, h1, h2⟩ := h
    rw [sc_dec] at h2
    rename_i i
    exact ⟨a, i.toNat, by rw [Int.toNat_of_nonneg h1], ha, by omega⟩
  · exact h.elim
noncomputable def siVal (f : Sc → Nat → Int) : List S → A := fun av => match av with
  | [.va (.gs r), .va (.c1 (.vl (.int .i64 i)))] => iA .i64 (f (C.sc r) i.toNat)
  | _ => .gs []
noncomputable def siFn (len : Sc → Nat) (f : Sc → Nat → Int) : Fun := ⟨siPre len, siVal f, fun av h => by obtain ⟨a, b, rfl, _⟩ := siPre_open h; trivial⟩
theorem siFn_len {len : Sc → Nat} {f : Sc → Nat → Int} : ∀ av H K, (siFn len f).sp av H K → av.length = 2 := fun av H K h => by obtain ⟨a, b, rfl, _⟩ := siPre_open h.1.1; rfl
attribute [go_sem] siFn siPre siVal
set_option maxRecDepth 100000 in
set_option maxHeartbeats 4000000 in
theorem mREnumE : Meets Try.prog 45 (siFn (fun s => s.es.length) enAt).sp := by
  refine meets_fn Try.func45 ok45 2 (by rw [Try.ntmps45]; decide) (meetsAll_f mRIsType (meetsAll_f mRIsName (meetsAll_f mRIn (meetsAll_nil _)))) siFn_len ?_
  rintro av H K ⟨⟨h, rfl⟩, hK⟩
  obtain ⟨s, i, rfl, hs, hi⟩ := siPre_open (len := fun s => s.es.length) h
  have hK : K (iS .i64 (enAt s i)) [] := by
    have : (siFn (fun s => s.es.length) enAt).val [.va (.gs (scC s)), iS .i64 i] = iA .i64 (enAt s i) := by simp -dsimp only [go_sem, Int.toNat_natCast]
    rw [this] at hK; exact hK
  clear h
  have hle := hs.ok.le
  have fin : ∀ (x : Int) (R : Hp), enAt s i = x → W.Fin 0 K (iS .i64 x) R := fun x R h => by
    rw [h] at hK
    exact .sel [] (by simp) (by simp) rfl (.done (by simpa [go_sem] using hK))
  obtain ⟨e, hx⟩ : ∃ e, s.es[i]? = some e := ⟨_, List.getElem?_eq_getElem hi⟩
  have q1 := row_rg' (row := enC) hx
  obtain ⟨_, hln, hlv, _, _⟩ := hs.ok.es e (List.mem_of_getElem? hx)
  have hA : enAt s i = bif !(tnB (bl e.nm)) then 5 else bif hasE (s.es.take i) e.nm then 7 else ceF e := by unfold enAt; rw [hx]
  simp (maxSteps := 1000000) -dsimp only [go_sem, scC, pc45, rs45, ↓q1, enC]
  refine ⟨by omega, fun h1 => fin 5 _ (by rw [hA, h1]; rfl), fun h1 => ?_⟩
  rw [h1] at hA
  simp only [Bool.cond_false] at hA
  refine vc_loop (α := Nat) (fun j => [(1, iS .i64 i), (2, .va (.c1 (.pt 0 0))), (5, .va (.c1 (.pt 1 0))), (6, iS .i64 j)]) (fun _ => [.cells (scC s) 25, .cells (enC e) 47])
    (fun j => j ≤ i ∧ hasE ((s.es.take i).drop j) e.nm = hasE (s.es.take i) e.nm) (fun j => i - j) 0 2 ⟨Nat.zero_le _, rfl⟩ ?_ ?_ ?_
  · simp [go_sem]
  · simp [go_sem, scC, enC]
  have hti : (s.es.take i).length = i := by rw [List.length_take]; omega
  rintro j ⟨hj, ho⟩
  rcases Nat.lt_or_ge j i with hlt | hge
  · have hg : decide ((j : Int) < (i : Int)) = true := by simp; omega
    obtain ⟨d, hd⟩ : ∃ d, s.es[j]? = some d := ⟨_, List.getElem?_eq_getElem (by omega)⟩
    have hd' : (s.es.take i)[j]? = some d := by rw [List.getElem?_take, if_pos hlt]; exact hd
    have q2 := row_rg' (row := enC) hd
    rw [hasE, any_step hd'] at ho
    simp (maxSteps := 1000000) -dsimp only [go_sem, hg, ↓q2, enC, scC, bl_beq]
    refine ⟨by omega, fun hc => ?_, fun hc => ?_⟩
    · rw [hc, Bool.true_or] at ho
      exact fin 7 _ (by rw [hA, ← ho]; rfl)
    · rw [hc, Bool.false_or] at ho
      refine ⟨by omega, loop_next (j + 1) 2 ⟨by omega, ho⟩ (by omega) ?_ ?_⟩
      · simp [go_sem]
      · simp [go_sem, scC, enC]
  · obtain rfl : j = i := by omega
    have hg : decide ((j : Int) < (j : Int)) = false := by simp
    rw [List.drop_eq_nil_of_le (by omega)] at ho
    rw [← ho] at hA
    replace hA : enAt s j = ceF e := hA
    clear ho hti
    simp (maxSteps := 1000000) -dsimp only [go_sem, hg, enC, scC]
    refine ⟨fun h1 => ?_, fun h1 => ?_⟩
    · refine fin 2 _ ?_
      rw [hA]
      unfold ceF
      have : (decide (e.ns.length = 0) || decide (e.ns.length ≠ e.vs.length)) = true := by
        simp only [Bool.or_eq_true, beq_iff_eq, bne_iff_ne, decide_eq_true_eq] at h1 ⊢; omega
      rw [this]; rfl
    simp only [Bool.or_eq_false_iff, beq_eq_false_iff_ne, bne_eq_false_iff_eq, ne_eq] at h1
    have hl : e.ns.length = e.vs.length := by omega
    have hF : enAt s j = fE (ceAt e) (e.ns.length - 0) 0 := by
      rw [hA]; unfold ceF; rw [decide_eq_false (by omega), decide_eq_false (by omega)]; rfl
    clear hA hg hge hj
    refine vc_loop (α := Nat) (fun k => [(5, .va (.c1 (.pt 1 0))), (7, iS .i64 k)]) (fun _ => [.cells (scC s) 25, .cells (enC e) 47])
      (fun k => k ≤ e.ns.length ∧ fE (ceAt e) (e.ns.length - k) k = fE (ceAt e) (e.ns.length - 0) 0) (fun k => e.ns.length - k) 0 2 ⟨Nat.zero_le _, rfl⟩ ?_ ?_ ?_
    · simp [go_sem]
    · simp [go_sem, scC, enC]
    rintro k ⟨hk, ho⟩
    rcases Nat.lt_or_ge k e.ns.length with hlt | hge
    · have hg : decide ((k : Int) < (e.ns.length : Int)) = true := by simp; omega
      obtain ⟨nm, hx2⟩ : ∃ nm, e.ns[k]? = some nm := ⟨_, List.getElem?_eq_getElem hlt⟩
      obtain ⟨n, hy⟩ : ∃ nm, e.vs[k]? = some nm := ⟨_, List.getElem?_eq_getElem (by omega)⟩
      have q2 := row_rg' (row := stR) hx2
      have q3 := row_rg' (row := inR) hy
      have hbs : isBs (e.ns.map stR) := isBs_mk hln
      have hk0 : (0 ≤ (k : Int)) = True := by simp
      have hk1 : ((k : Int) ≤ 9223372036854775807) = True := by simp; omega
      have hA : ceAt e k = bif !(isNm (bl nm)) then (5 : Int) else bif inB (e.ns.take k) nm then 7 else bif decide (n < 0) || decide (127 < n) then 4 else
        bif (decide ((k : Int) = 0) && decide (n ≠ 0)) || (decide (0 < (k : Int)) && match e.vs[k - 1]? with | some m => decide (n ≤ m) | none => false) then 2 else 0 := by
        unfold ceAt; rw [hx2, hy]; rfl
      have fin' : ∀ (x : Int) (R : Hp), ceAt e k = x → x ≠ 0 → W.Fin 0 K (iS .i64 x) R := fun x R h1 h2 => fin x R (by
        rw [hF, ← ho, fE_err hlt (by rw [h1]; exact h2), h1])
      have nxt : ceAt e k = 0 → fE (ceAt e) (e.ns.length - (k + 1)) (k + 1) = fE (ceAt e) (e.ns.length - 0) 0 := fun h1 => by rw [← ho, fE_ok hlt h1]
      cases hc1 : isNm (bl nm) with
      | false =>
        simp (maxSteps := 1000000) -dsimp only [go_sem, hg, ↓q2, enC, scC, hc1]
        exact ⟨by omega, fin' 5 _ (by rw [hA, hc1]; rfl) (by decide)⟩
      | true =>
        cases hc2 : inB (e.ns.take k) nm with
        | true =>
          simp (maxSteps := 1000000) -dsimp only [go_sem, hg, ↓q2, enC, scC, hc1, hc2, hbs, hk0, hk1, Int.toNat_natCast]
          exact ⟨by omega, by omega, fin' 7 _ (by rw [hA, hc1, hc2]; rfl) (by decide)⟩
        | false =>
          cases hc3 : decide (n < 0) with
          | true =>
            simp (maxSteps := 1000000) -dsimp only [go_sem, hg, ↓q2, ↓q3, enC, scC, hc1, hc2, hbs, hk0, hk1, Int.toNat_natCast, hc3]
            exact ⟨by omega, by omega, by omega, fin' 4 _ (by rw [hA, hc1, hc2, hc3]; rfl) (by decide)⟩
          | false =>
          cases hc4 : decide (127 < n) with
          | true =>
            simp (maxSteps := 1000000) -dsimp only [go_sem, hg, ↓q2, ↓q3, enC, scC, hc1, hc2, hbs, hk0, hk1, Int.toNat_natCast, hc3, hc4]
            exact ⟨by omega, by omega, by omega, by omega, fin' 4 _ (by rw [hA, hc1, hc2, hc3, hc4]; rfl) (by decide)⟩
          | false =>
          have hA2 : ceAt e k = bif (decide ((k : Int) = 0) && decide (n ≠ 0)) || (decide (0 < (k : Int)) && match e.vs[k - 1]? with | some m => decide (n ≤ m) | none => false) then 2 else 0 := by rw [hA, hc1, hc2, hc3, hc4]; rfl
          clear hA
          rcases Nat.eq_zero_or_pos k with h0 | h0
          · have g0 : ((k : Int) == 0) = true := by simp; omega
            have g1 : decide (0 < (k : Int)) = false := by simp; omega
            have g2 : decide ((k : Int) = 0) = true := g0
            cases hn : (n != 0) with
            | true =>
              simp (maxSteps := 1000000) -dsimp only [go_sem, hg, ↓q2, ↓q3, enC, scC, hc1, hc2, hbs, hk0, hk1, Int.toNat_natCast, hc3, hc4, g0, g1, hn, Bool.and_false]
              and_intros
              all_goals first
                | omega
                | exact fin' 2 _ (by rw [hA2, g1, g2]; simp at hn; simp [hn]) (by decide)
            | false =>
              simp (maxSteps := 1000000) -dsimp only [go_sem, hg, ↓q2, ↓q3, enC, scC, hc1, hc2, hbs, hk0, hk1, Int.toNat_natCast, hc3, hc4, g0, g1, hn, Bool.and_false]
              and_intros
              all_goals first
                | omega
                | exact loop_next (k + 1) 2 ⟨by omega, nxt (by rw [hA2, g1]; simp at hn; simp [hn])⟩ (by omega) (by simp [go_sem]) (by simp [go_sem, scC, enC])
          · have g0 : ((k : Int) == 0) = false := by simp; omega
            have g1 : decide (0 < (k : Int)) = true := by simp; omega
            have g2 : decide ((k : Int) = 0) = false := g0
            obtain ⟨m, hm⟩ : ∃ m, e.vs[k - 1]? = some m := ⟨_, List.getElem?_eq_getElem (by omega)⟩
            have q4 : ((k : Int) - 1).toNat = k - 1 := by omega
            have q5 := row_rg (row := inR) hm
            cases hn : decide (n ≤ m) with
            | true =>
              simp (maxSteps := 1000000) -dsimp only [go_sem, hg, ↓q2, ↓q3, enC, scC, hc1, hc2, hbs, hk0, hk1, Int.toNat_natCast, Option.some.injEq, forall_eq', hc3, hc4, g0, g1, q4, hm, hn, Bool.and_true]
              and_intros
              all_goals first
                | omega
                | exact fin' 2 _ (by rw [hA2, hm, g1]; simp only [hn]; simp) (by decide)
            | false =>
              simp (maxSteps := 1000000) -dsimp only [go_sem, hg, ↓q2, ↓q3, enC, scC, hc1, hc2, hbs, hk0, hk1, Int.toNat_natCast, Option.some.injEq, forall_eq', hc3, hc4, g0, g1, q4, hm, hn, Bool.and_true]
              and_intros
              all_goals first
                | omega
                | exact loop_next (k + 1) 2 ⟨by omega, nxt (by rw [hA2, hm, g1, g2]; simp only [hn]; rfl)⟩ (by omega) (by simp [go_sem]) (by simp [go_sem, scC, enC])
    · have hg : decide ((k : Int) < (e.ns.length : Int)) = false := by simp; omega
      obtain rfl : k = e.ns.length := by omega
      rw [fE_end] at ho
      simp (maxSteps := 1000000) -dsimp only [go_sem, hg, enC]
      exact fin 0 _ (by rw [hF, ← ho])
end Go.Proofs.Ytpfmkfafagiicaa
namespace Go.Proofs.Ytpfmkfafagiicaa
open Go.W
def rtPre (N : Nat) : List S → Prop := fun av => match av with
  | [.va (.gs r), .va (.gs q)] => isScF r ∧ isTy q ∧ (C.ty q).h ≤ N
  | _ => False
theorem rtPre_open {N : Nat} {av : List S} (h : rtPre N av) : ∃ s t, av = [.va (.gs (scC s)), .va (.gs (tyC t))] ∧ s.fit ∧ TyOk t ∧ t.h ≤ N := by
  unfold rtPre at h
  split at h
  · obtain ⟨⟨a, rfl, ha⟩, ⟨b, rfl, hb⟩, hh⟩ := h
    rw [ty_dec] at hh
    exact ⟨a, b, rfl, ha, hb, hh⟩
  · exact h.elim
noncomputable def rtVal : List S → A := fun av => match av with
  | [.va (.gs r), .va (.gs q)] => bA (valF (C.sc r).ss (C.sc r).es (C.ty q))
  | _ => .gs []
noncomputable def rtFn (N : Nat) : Fun := ⟨rtPre N, rtVal, fun av h => by obtain ⟨a, b, rfl, _⟩ := rtPre_open h; trivial⟩
theorem rtFn_len {N : Nat} : ∀ av H K, (rtFn N).sp av H K → av.length = 2 := fun av H K h => by obtain ⟨a, b, rfl, _⟩ := rtPre_open h.1.1; rfl
attribute [go_sem] rtFn rtPre rtVal
theorem val6 {ss : List St} {es : List En} {s : Int} {n : ByteArray} {e : List Ty} : valF ss es (.mk 6 s n e) = (hasS ss n && s == 0 && (e.length : Int) == 0) := by
  rw [valF]; rfl
theorem val7 {ss : List St} {es : List En} {s : Int} {n : ByteArray} {e : List Ty} : valF ss es (.mk 7 s n e) = (hasE es n && s == 0 && (e.length : Int) == 0) := by
  rw [valF]; rfl
set_option maxRecDepth 100000 in
set_option maxHeartbeats 4000000 in
theorem mRight : ∀ N, Meets Try.prog 70 (rtFn N).sp
  | 0 => ⟨by kernel_rfl, by rintro xs vs E ro w K _ _ _ ⟨⟨h, _⟩, _⟩; obtain ⟨_, a, _, _, _, h⟩ := rtPre_open h; have := a.h_pos; omega⟩
  | N + 1 => by
    refine meets_fn Try.func70 ok70 2 (by rw [Try.ntmps70]; decide) (meetsAll_f (mRight N) (meetsAll_f mRPlain (meetsAll_s mRStruct (meetsAll_s mREnum (meetsAll_nil _))))) rtFn_len ?_
    rintro av H K ⟨⟨h, rfl⟩, hK⟩
    obtain ⟨sc, t, rfl, hs, ht, hh⟩ := rtPre_open h
    have hK : K (bS (valF sc.ss sc.es t)) [] := by
      have : (rtFn (N + 1)).val [.va (.gs (scC sc)), .va (.gs (tyC t))] = bA (valF sc.ss sc.es t) := by simp -dsimp only [go_sem]
      rw [this] at hK; exact hK
    clear h
    have fin : ∀ (b : Bool) (R : Hp), valF sc.ss sc.es t = b → W.Fin 0 K (bS b) R := fun b R h => by
      rw [h] at hK
      exact .sel [] (by simp) (by simp) rfl (.done (by simp -dsimp only [go_sem]; simpa using hK))
    have hit : isTy (tyC t) := isTy_mk ht
    cases t with
    | mk k s n e =>
    have hcd := ty_dec (.mk k s n e)
    rw [tyC, tysC_map] at hcd hit
    have hcl : (Ty.mk k s n e).e.length = e.length := rfl
    by_cases k1 : (k == 1) = true
    · have hF := valF.eq_1 sc.ss sc.es k s n e
      rw [k1] at hF
      simp only [Bool.cond_true] at hF
      simp (maxSteps := 1000000) -dsimp only [go_sem, scC, tyC, tysC_map, pc70, rs70, k1, hit, hcd, hcl]
      exact fin _ _ hF
    rw [Bool.not_eq_true] at k1
    by_cases k2 : (k == 2) = true
    · have hF := valF.eq_1 sc.ss sc.es k s n e
      rw [k1, k2] at hF
      simp only [Bool.cond_true, Bool.cond_false] at hF
      simp (maxSteps := 1000000) -dsimp only [go_sem, scC, tyC, tysC_map, pc70, rs70, k1, k2, hit, hcd, hcl]
      exact fin _ _ hF
    rw [Bool.not_eq_true] at k2
    by_cases k3 : (k == 3) = true
    · have hF := valF.eq_1 sc.ss sc.es k s n e
      rw [k1, k2, k3] at hF
      simp only [Bool.cond_true, Bool.cond_false, Bool.and_false, Bool.or_false] at hF
      simp (maxSteps := 1000000) -dsimp only [go_sem, scC, tyC, tysC_map, pc70, rs70, k1, k2, k3, hit, hcd, hcl]
      exact fin _ _ hF
    rw [Bool.not_eq_true] at k3
    by_cases k4 : (k == 4) = true
    · have hF := valF.eq_1 sc.ss sc.es k s n e
      rw [k1, k2, k3, k4] at hF
      simp only [Bool.cond_true, Bool.cond_false] at hF
      simp (maxSteps := 1000000) -dsimp only [go_sem, scC, tyC, tysC_map, pc70, rs70, k1, k2, k3, k4, hit, hcd, hcl]
      exact fin _ _ hF
    rw [Bool.not_eq_true] at k4
    by_cases k5 : (k == 5) = true
    · have hF := valF.eq_1 sc.ss sc.es k s n e
      rw [k1, k2, k3, k4, k5] at hF
      simp only [Bool.cond_true, Bool.cond_false] at hF
      cases hc : (decide (1 ≤ s) && decide (s ≤ 32) && bl n == [] && (e.length : Int) == 1) with
      | false =>
        have hF' : valF sc.ss sc.es (.mk k s n e) = false := by
          rw [hF]
          cases h0 : (decide (1 ≤ s) && decide (s ≤ 32) && bl n == []) with
          | false => rfl
          | true =>
            rw [h0, Bool.true_and] at hc
            match e, hc with
            | [], _ => rfl
            | [u], hc => simp at hc
            | u :: v :: r, _ => simp [valFs]
        simp (maxSteps := 1000000) -dsimp only [go_sem, scC, tyC, tysC_map, pc70, rs70, k1, k2, k3, k4, k5, hc]
        exact fin _ _ hF'
      | true =>
        obtain ⟨u, rfl⟩ : ∃ u, e = [u] := by
          simp only [Bool.and_eq_true, beq_iff_eq] at hc
          exact List.length_eq_one_iff.1 (by omega)
        have h0 : (decide (1 ≤ s) && decide (s ≤ 32) && bl n == []) = true := by
          simp only [Bool.and_eq_true] at hc ⊢; exact hc.1
        have hF' : valF sc.ss sc.es (.mk k s n [u]) = valF sc.ss sc.es u := by rw [hF, h0]; simp [valFs]
        have hu2 : u.h ≤ N := by rw [Ty.h, Ty.hs, Ty.hs] at hh; omega
        have hu : isTy (tyC u) := isTy_mk (ht.e u (by simp [Ty.e]))
        have hsf := isScF_mk hs
        rw [scC] at hsf
        have hsd := sc_dec sc
        rw [scC] at hsd
        have hc' : (decide (1 ≤ s) && decide (s ≤ 32) && bl n == [] && ((1 : Nat) : Int) == 1) = true := hc
        simp (maxSteps := 1000000) -dsimp only [go_sem, scC, tyC, tysC_map, pc70, rs70, k1, k2, k3, k4, k5, hc']
        refine ⟨⟨by omega, fun r hr => by subst hr; exact tyC_len u⟩, fun r hr => ?_⟩
        subst hr
        simp (maxSteps := 1000000) -dsimp only [go_sem, hsf, hsd, hu, tyC_len]
        exact ⟨hu2, fin _ _ hF'⟩
    rw [Bool.not_eq_true] at k5
    by_cases k6 : (k == 6) = true
    · obtain rfl : k = 6 := by simpa using k6
      have hF := val6 (ss := sc.ss) (es := sc.es) (s := s) (n := n) (e := e)
      simp (maxSteps := 1000000) -dsimp only [go_sem, scC, tyC, tysC_map, pc70, rs70, k1, k2, k3, k4, k5, k6]
      refine stp_use hs ?_
      cases hc : hasS sc.ss n with
      | false =>
        rw [hc] at hF
        simp (maxSteps := 1000000) -dsimp only [go_sem, stC, hit, hcd, hcl]
        exact fin _ _ hF
      | true =>
        rw [hc] at hF
        simp (maxSteps := 1000000) -dsimp only [go_sem, stC, hit, hcd, hcl]
        exact fin _ _ hF
    rw [Bool.not_eq_true] at k6
    by_cases k7 : (k == 7) = true
    · obtain rfl : k = 7 := by simpa using k7
      have hF := val7 (ss := sc.ss) (es := sc.es) (s := s) (n := n) (e := e)
      simp (maxSteps := 1000000) -dsimp only [go_sem, scC, tyC, tysC_map, pc70, rs70, k1, k2, k3, k4, k5, k6, k7]
      refine enp_use hs ?_
      cases hc : hasE sc.es n with
      | false =>
        rw [hc] at hF
        simp (maxSteps := 1000000) -dsimp only [go_sem, enC, hit, hcd, hcl]
        exact fin _ _ hF
      | true =>
        rw [hc] at hF
        simp (maxSteps := 1000000) -dsimp only [go_sem, enC, hit, hcd, hcl]
        exact fin _ _ hF
    rw [Bool.not_eq_true] at k7
    have hF := valF.eq_1 sc.ss sc.es k s n e
    rw [k1, k2, k3, k4, k5, k6, k7] at hF
    simp only [Bool.cond_false] at hF
    simp (maxSteps := 1000000) -dsimp only [go_sem, scC, tyC, tysC_map, pc70, rs70, k1, k2, k3, k4, k5, k6, k7]
    exact fin _ _ hF
end Go.Proofs.Ytpfmkfafagiicaa
namespace Go.Proofs.Ytpfmkfafagiicaa
open Go.W
def r0Pre : List S → Prop := fun av => match av with
  | [.va (.gs r), .va (.gs q)] => isScF r ∧ isTy q
  | _ => False
theorem r0Pre_open {av : List S} (h : r0Pre av) : ∃ s t, av = [.va (.gs (scC s)), .va (.gs (tyC t))] ∧ s.fit ∧ TyOk t := by
  unfold r0Pre at h
  split at h
  · obtain ⟨⟨a, rfl, ha⟩, ⟨b, rfl, hb⟩⟩ := h
    exact ⟨a, b, rfl, ha, hb⟩
  · exact h.elim
noncomputable def r0Fn : Fun := ⟨r0Pre, rtVal, fun av h => by obtain ⟨a, b, rfl, _⟩ := r0Pre_open h; trivial⟩
attribute [go_sem] r0Fn r0Pre
theorem mRight0 : Meets Try.prog 70 r0Fn.sp := meets_all 0 mRight fun av H K ⟨⟨h, e⟩, hK⟩ => by
  obtain ⟨a, b, rfl, ha, hb⟩ := r0Pre_open h
  exact ⟨b.h, ⟨⟨⟨isScF_mk ha, isTy_mk hb, by rw [ty_dec]; exact Nat.le_refl _⟩, e⟩, hK⟩⟩
set_option maxRecDepth 100000 in
set_option maxHeartbeats 4000000 in
theorem mRStructE : Meets Try.prog 46 (siFn (fun s => s.ss.length) stAt).sp := by
  refine meets_fn Try.func46 ok46 2 (by rw [Try.ntmps46]; decide) (meetsAll_f mRIsType (meetsAll_s mREnum (meetsAll_f mRIsName (meetsAll_f mRight0 (meetsAll_nil _))))) siFn_len ?_
  rintro av H K ⟨⟨h, rfl⟩, hK⟩
  obtain ⟨s, i, rfl, hs, hi⟩ := siPre_open (len := fun s => s.ss.length) h
  have hK : K (iS .i64 (stAt s i)) [] := by
    have : (siFn (fun s => s.ss.length) stAt).val [.va (.gs (scC s)), iS .i64 i] = iA .i64 (stAt s i) := by simp -dsimp only [go_sem, Int.toNat_natCast]
    rw [this] at hK; exact hK
  clear h
  have hls := hs.ok.ls
  have fin : ∀ (x : Int) (R : Hp), stAt s i = x → W.Fin 0 K (iS .i64 x) R := fun x R h => by
    rw [h] at hK
    exact .sel [] (by simp) (by simp) rfl (.done (by simpa [go_sem] using hK))
  obtain ⟨t, hx⟩ : ∃ e, s.ss[i]? = some e := ⟨_, List.getElem?_eq_getElem hi⟩
  have q1 := row_rg' (row := stC) hx
  obtain ⟨_, hlf, hfs⟩ := hs.ok.ss t (List.mem_of_getElem? hx)
  have hA : stAt s i = bif cnF s i t.nm != 0 then cnF s i t.nm else cfF s.ss s.es t := by unfold stAt; rw [hx]
  have hsf := isScF_mk hs
  rw [scC] at hsf
  have hsd := sc_dec s
  rw [scC] at hsd
  simp (maxSteps := 1000000) -dsimp only [go_sem, scC, pc46, rs46, ↓q1, stC]
  refine ⟨by omega, fun h1 => fin 5 _ (by rw [hA]; unfold cnF; rw [h1]; rfl), fun h1 => ?_⟩
  refine enp_use hs ?_
  simp (maxSteps := 1000000) -dsimp only [go_sem, enC]
  refine ⟨fun h2 => fin 7 _ (by rw [hA]; unfold cnF; rw [h1, h2]; rfl), fun h2 => ?_⟩
  have hC : cnF s i t.nm = bif hasS (s.ss.take i) t.nm then 7 else 0 := by unfold cnF; rw [h1, h2]; rfl
  generalize ((fEn s.es t.nm).getD default) = dflt
  refine vc_loop (α := Nat) (fun j => [(1, iS .i64 i), (2, .va (.c1 (.pt 0 0))), (5, .va (.c1 (.pt 1 0))), (8, iS .i64 j)]) (fun _ => [.cells (scC s) 25, .cells (stC t) 32])
    (fun j => j ≤ i ∧ hasS ((s.ss.take i).drop j) t.nm = hasS (s.ss.take i) t.nm) (fun j => i - j) 0 2 ⟨Nat.zero_le _, rfl⟩ ?_ ?_ ?_
  · simp [go_sem]
  · simp [go_sem, scC, stC]
  have hti : (s.ss.take i).length = i := by rw [List.length_take]; omega
  rintro j ⟨hj, ho⟩
  rcases Nat.lt_or_ge j i with hlt | hge
  · have hg : decide ((j : Int) < (i : Int)) = true := by simp; omega
    obtain ⟨d, hd⟩ : ∃ d, s.ss[j]? = some d := ⟨_, List.getElem?_eq_getElem (by omega)⟩
    have hd' : (s.ss.take i)[j]? = some d := by rw [List.getElem?_take, if_pos hlt]; exact hd
    have q2 := row_rg' (row := stC) hd
    rw [hasS, any_step hd'] at ho
    simp (maxSteps := 1000000) -dsimp only [go_sem, hg, ↓q2, stC, scC, bl_beq]
    refine ⟨by omega, fun hc => ?_, fun hc => ?_⟩
    · rw [hc, Bool.true_or] at ho
      exact fin 7 _ (by rw [hA, hC, ← ho]; rfl)
    · rw [hc, Bool.false_or] at ho
      refine ⟨by omega, loop_next (j + 1) 2 ⟨by omega, ho⟩ (by omega) ?_ ?_⟩
      · simp [go_sem]
      · simp [go_sem, scC, stC]
  · obtain rfl : j = i := by omega
    have hg : decide ((j : Int) < (j : Int)) = false := by simp
    rw [List.drop_eq_nil_of_le (by omega)] at ho
    have hF : stAt s j = cfF s.ss s.es t := by rw [hA, hC, ← ho]; rfl
    clear ho hti hA hC q1 hj hge
    simp (maxSteps := 1000000) -dsimp only [go_sem, hg, stC, scC]
    clear hg
    refine vc_loop (α := Nat) (fun k => [(2, .va (.c1 (.pt 0 0))), (5, .va (.c1 (.pt 1 0))), (9, iS .i64 k)]) (fun _ => [.cells (scC s) 25, .cells (stC t) 32])
      (fun k => k ≤ t.fs.length ∧ fE (cfAt s.ss s.es t) (t.fs.length - k) k = cfF s.ss s.es t) (fun k => t.fs.length - k) 0 2 ⟨Nat.zero_le _, rfl⟩ ?_ ?_ ?_
    · simp [go_sem]
    · simp [go_sem, scC, stC]
    rintro k ⟨hk, ho⟩
    rcases Nat.lt_or_ge k t.fs.length with hlt | hge
    · have hg : decide ((k : Int) < (t.fs.length : Int)) = true := by simp; omega
      obtain ⟨f, hx2⟩ : ∃ nm, t.fs[k]? = some nm := ⟨_, List.getElem?_eq_getElem hlt⟩
      have q2 := row_rg' (row := flC) hx2
      have hf : f.ok := hfs f (List.mem_of_getElem? hx2)
      have hit : isTy (tyC f.ty) := isTy_mk hf.ty
      have hA : cfAt s.ss s.es t k = bif decide (f.num < 1) || decide (127 < f.num) then (4 : Int) else bif decide (0 < (k : Int)) && (match t.fs[k - 1]? with | some g => decide (f.num ≤ g.num) | none => false) then 2 else
        bif !(isNm (bl f.nm)) then 5 else bif (t.fs.take k).any (fun g => decide (g.nm = f.nm)) then 7 else bif !(valF s.ss s.es f.ty) then 13 else 0 := by
        unfold cfAt; rw [hx2]; rfl
      have fin' : ∀ (x : Int) (R : Hp), cfAt s.ss s.es t k = x → x ≠ 0 → W.Fin 0 K (iS .i64 x) R := fun x R h1 h2 => fin x R (by
        rw [hF, ← ho, fE_err hlt (by rw [h1]; exact h2), h1])
      have nxt : cfAt s.ss s.es t k = 0 → fE (cfAt s.ss s.es t) (t.fs.length - (k + 1)) (k + 1) = cfF s.ss s.es t := fun h1 => by rw [← ho, fE_ok hlt h1]
      cases c0 : decide (f.num < 1) with
      | true =>
        rw [c0] at hA
        simp (maxSteps := 1000000) -dsimp only [go_sem, hg, ↓q2, flC, stC, scC, c0]
        exact ⟨by omega, fin' 4 _ hA (by decide)⟩
      | false =>
      cases c1 : decide (127 < f.num) with
      | true =>
        rw [c0, c1] at hA
        simp (maxSteps := 1000000) -dsimp only [go_sem, hg, ↓q2, flC, stC, scC, c0, c1]
        exact ⟨by omega, fin' 4 _ hA (by decide)⟩
      | false =>
      rw [c0, c1] at hA
      simp only [Bool.or_self, Bool.cond_false] at hA
      rcases Nat.eq_zero_or_pos k with h0 | h0
      · have g1 : decide (0 < (k : Int)) = false := by simp; omega
        rw [g1] at hA
        simp only [Bool.false_and, Bool.cond_false] at hA
        cases c3 : isNm (bl f.nm) with
        | false =>
          rw [c3] at hA
          simp (maxSteps := 1000000) -dsimp only [go_sem, hg, ↓q2, flC, stC, scC, c0, c1, c3, g1]
          exact ⟨by omega, fin' 5 _ hA (by decide)⟩
        | true =>
          rw [c3] at hA
          simp only [Bool.not_true, Bool.cond_false] at hA
          simp (maxSteps := 1000000) -dsimp only [go_sem, hg, ↓q2, flC, stC, scC, c0, c1, c3, g1]
          refine ⟨by omega, ?_⟩
          refine vc_loop (α := Nat) (fun j => [(2, .va (.c1 (.pt 0 0))), (5, .va (.c1 (.pt 1 0))), (9, iS .i64 k), (10, .va (.c1 (.pt 2 0))), (11, iS .i64 j)])
            (fun _ => [.cells (scC s) 25, .cells (stC t) 32, .cells (flC f) 53])
            (fun j => j ≤ k ∧ ((t.fs.take k).drop j).any (fun g => decide (g.nm = f.nm)) = (t.fs.take k).any (fun g => decide (g.nm = f.nm))) (fun j => k - j) 0 3 ⟨Nat.zero_le _, rfl⟩ ?_ ?_ ?_
          · simp [go_sem]
          · simp [go_sem, scC, stC, flC]
          have htk : (t.fs.take k).length = k := by rw [List.length_take]; omega
          rintro j ⟨hj, ho2⟩
          rcases Nat.lt_or_ge j k with hjt | hjg
          · have hgj : decide ((j : Int) < (k : Int)) = true := by simp; omega
            obtain ⟨d, hd⟩ : ∃ e, t.fs[j]? = some e := ⟨_, List.getElem?_eq_getElem (by omega)⟩
            have hd' : (t.fs.take k)[j]? = some d := by rw [List.getElem?_take, if_pos hjt]; exact hd
            have q5 := row_rg' (row := flC) hd
            rw [any_step hd'] at ho2
            simp (maxSteps := 1000000) -dsimp only [go_sem, hgj, ↓q5, flC, stC, scC, bl_beq]
            refine ⟨by omega, fun hc => ?_, fun hc => ?_⟩
            · rw [hc, Bool.true_or] at ho2
              rw [← ho2] at hA
              exact fin' 7 _ hA (by decide)
            · rw [hc, Bool.false_or] at ho2
              refine ⟨by omega, loop_next (j + 1) 3 ⟨by omega, ho2⟩ (by omega) ?_ ?_⟩
              · simp [go_sem]
              · simp [go_sem, scC, stC, flC]
          · obtain rfl : j = k := by omega
            have hgj : decide ((j : Int) < (j : Int)) = false := by simp
            rw [List.drop_eq_nil_of_le (by omega)] at ho2
            rw [← ho2] at hA
            simp only [List.any_nil, Bool.cond_false] at hA
            simp (maxSteps := 1000000) -dsimp only [go_sem, hgj, flC, stC, scC, fl_ty, hit, hsf, hsd]
            cases c5 : valF s.ss s.es f.ty with
            | true =>
              rw [c5] at hA
              simp (maxSteps := 1000000) -dsimp only [go_sem]
              refine ⟨by omega, loop_next (j + 1) 2 ⟨by omega, nxt hA⟩ (by omega) ?_ ?_⟩
              · simp [go_sem]
              · simp [go_sem, scC, stC]
            | false =>
              rw [c5] at hA
              simp (maxSteps := 1000000) -dsimp only [go_sem]
              exact fin' 13 _ hA (by decide)
      · have g1 : decide (0 < (k : Int)) = true := by simp; omega
        obtain ⟨g, hy⟩ : ∃ m, t.fs[k - 1]? = some m := ⟨_, List.getElem?_eq_getElem (by omega)⟩
        have q4 : ((k : Int) - 1).toNat = k - 1 := by omega
        have q6 := row_rg (row := flC) hy
        rw [g1, hy, Bool.true_and] at hA
        simp only at hA
        cases c2 : decide (f.num ≤ g.num) with
        | true =>
          rw [c2] at hA
          simp (maxSteps := 1000000) -dsimp only [go_sem, hg, ↓q2, flC, stC, scC, c0, c1, g1, q4, c2, hy, Option.some.injEq, forall_eq']
          exact ⟨by omega, by omega, by omega, fin' 2 _ hA (by decide)⟩
        | false =>
          rw [c2] at hA
          simp only [Bool.cond_false] at hA
          cases c3 : isNm (bl f.nm) with
          | false =>
            rw [c3] at hA
            simp (maxSteps := 1000000) -dsimp only [go_sem, hg, ↓q2, flC, stC, scC, c0, c1, c3, g1, q4, c2, hy, Option.some.injEq, forall_eq']
            exact ⟨by omega, by omega, by omega, fin' 5 _ hA (by decide)⟩
          | true =>
            rw [c3] at hA
            simp only [Bool.not_true, Bool.cond_false] at hA
            simp (maxSteps := 1000000) -dsimp only [go_sem, hg, ↓q2, flC, stC, scC, c0, c1, c3, g1, q4, c2, hy, Option.some.injEq, forall_eq']
            refine ⟨by omega, by omega, by omega, ?_⟩
            refine vc_loop (α := Nat) (fun j => [(2, .va (.c1 (.pt 0 0))), (5, .va (.c1 (.pt 1 0))), (9, iS .i64 k), (10, .va (.c1 (.pt 2 0))), (11, iS .i64 j)])
              (fun _ => [.cells (scC s) 25, .cells (stC t) 32, .cells (flC f) 53])
              (fun j => j ≤ k ∧ ((t.fs.take k).drop j).any (fun g => decide (g.nm = f.nm)) = (t.fs.take k).any (fun g => decide (g.nm = f.nm))) (fun j => k - j) 0 3 ⟨Nat.zero_le _, rfl⟩ ?_ ?_ ?_
            · simp [go_sem]
            · simp [go_sem, scC, stC, flC]
            have htk : (t.fs.take k).length = k := by rw [List.length_take]; omega
            rintro j ⟨hj, ho2⟩
            rcases Nat.lt_or_ge j k with hjt | hjg
            · have hgj : decide ((j : Int) < (k : Int)) = true := by simp; omega
              obtain ⟨d, hd⟩ : ∃ e, t.fs[j]? = some e := ⟨_, List.getElem?_eq_getElem (by omega)⟩
              have hd' : (t.fs.take k)[j]? = some d := by rw [List.getElem?_take, if_pos hjt]; exact hd
              have q5 := row_rg' (row := flC) hd
              rw [any_step hd'] at ho2
              simp (maxSteps := 1000000) -dsimp only [go_sem, hgj, ↓q5, flC, stC, scC, bl_beq]
              refine ⟨by omega, fun hc => ?_, fun hc => ?_⟩
              · rw [hc, Bool.true_or] at ho2
                rw [← ho2] at hA
                exact fin' 7 _ hA (by decide)
              · rw [hc, Bool.false_or] at ho2
                refine ⟨by omega, loop_next (j + 1) 3 ⟨by omega, ho2⟩ (by omega) ?_ ?_⟩
                · simp [go_sem]
                · simp [go_sem, scC, stC, flC]
            · obtain rfl : j = k := by omega
              have hgj : decide ((j : Int) < (j : Int)) = false := by simp
              rw [List.drop_eq_nil_of_le (by omega)] at ho2
              rw [← ho2] at hA
              simp only [List.any_nil, Bool.cond_false] at hA
              simp (maxSteps := 1000000) -dsimp only [go_sem, hgj, flC, stC, scC, fl_ty, hit, hsf, hsd]
              cases c5 : valF s.ss s.es f.ty with
              | true =>
                rw [c5] at hA
                simp (maxSteps := 1000000) -dsimp only [go_sem]
                refine ⟨by omega, loop_next (j + 1) 2 ⟨by omega, nxt hA⟩ (by omega) ?_ ?_⟩
                · simp [go_sem]
                · simp [go_sem, scC, stC]
              | false =>
                rw [c5] at hA
                simp (maxSteps := 1000000) -dsimp only [go_sem]
                exact fin' 13 _ hA (by decide)
    · have hg : decide ((k : Int) < (t.fs.length : Int)) = false := by simp; omega
      obtain rfl : k = t.fs.length := by omega
      rw [fE_end] at ho
      simp (maxSteps := 1000000) -dsimp only [go_sem, hg, stC]
      exact fin 0 _ (by rw [hF, ← ho])
end Go.Proofs.Ytpfmkfafagiicaa
namespace Go.Proofs.Ytpfmkfafagiicaa
open Go.W
mutual
def dirF : Ty → List ByteArray
  | .mk k _ n e => bif k == 6 || k == 7 then [n] else dirFs e
def dirFs : List Ty → List ByteArray
  | [] => []
  | t :: r => dirF t ++ dirFs r
end
theorem dirFs_app : ∀ (a b : List Ty), dirFs (a ++ b) = dirFs a ++ dirFs b
  | [], b => rfl
  | t :: r, b => by rw [List.cons_append, dirFs, dirFs, dirFs_app r b, List.append_assoc]
theorem dirFs_mem : ∀ {l : List Ty} {t : Ty}, t ∈ l → (dirF t).length ≤ (dirFs l).length
  | x :: l, t, h => by
    rw [dirFs, List.length_append]
    rcases List.mem_cons.1 h with rfl | h
    · omega
    · have := dirFs_mem h; omega
def diSp (N : Nat) : W.Spec := fun av H K => ∃ t : Ty, av = [.va (.gs (tyC t))] ∧ H = [] ∧ TyOk t ∧ t.h ≤ N ∧ (dirF t).length ≤ 1000000000 ∧ K (.va (.c1 (.fz ((dirF t).map stR)))) []
theorem di_use {N : Nat} {t : Ty} {K : S → Hp → Prop} (h1 : TyOk t) (h2 : t.h ≤ N) (h3 : (dirF t).length ≤ 1000000000) (hK : K (.va (.c1 (.fz ((dirF t).map stR)))) []) : diSp N [.va (.gs (tyC t))] [] K := ⟨t, rfl, rfl, h1, h2, h3, hK⟩
theorem stR_ss (l : List ByteArray) : ∀ r ∈ l.map stR, ∀ c ∈ r, c.shut = true ∧ c.one := fun r hr c hc => by
  obtain ⟨x, _, rfl⟩ := List.mem_map.1 hr
  simp at hc; subst hc; simp [go_sem, C.shut]
set_option maxRecDepth 100000 in
theorem mDirect : ∀ N, Meets Try.prog 71 (diSp N)
  | 0 => ⟨by kernel_rfl, by rintro xs vs E ro w K _ _ _ ⟨t, _, _, _, h, _⟩; have := t.h_pos; omega⟩
  | N + 1 => by
    refine meets_fn Try.func71 ok71 1 (by rw [Try.ntmps71]; decide) (meetsAll_s (mDirect N) (meetsAll_nil _)) (fun av H K h => by obtain ⟨_, rfl, _⟩ := h; rfl) ?_
    rintro av H K ⟨⟨k, s, n, e⟩, rfl, rfl, h1, h2, h3, hK⟩
    have hle := h1.len
    have hoe := h1.e
    simp only [Ty.e] at hle hoe
    have hD := dirF.eq_1 k s n e
    simp (maxSteps := 1000000) -dsimp only [go_sem, tyC, tysC_map, pc71, rs71]
    refine ⟨fun c1 => ?_, fun c1 => ?_⟩
    · rw [c1, Bool.cond_true] at hD
      rw [hD] at hK
      refine .pub 1 _ _ _ rfl (.sel [] (by simp) (by simp [pubH]) rfl (.done ?_))
      simp -dsimp only [go_sem, pubH]
      simpa using hK
    · rw [c1, Bool.cond_false] at hD
      rw [hD] at hK h3
      refine vc_loop_gh (α := Nat) (fun i => [(1, .va (.c1 (.pt 0 0))), (3, .va (.c1 (.sl 1 (dirFs (e.take i)).length))), (4, iS .i64 i)]) (fun i => [.cells (tyC (.mk k s n e)) 40, .row ((dirFs (e.take i)).map stR) 9 1])
        (fun i => i ≤ e.length) (fun i => e.length - i) (.nil 3 9 1 rfl (gh_at 0 2 (Nat.zero_le _) ?_ ?_)) ?_
      · simp -dsimp only [go_sem] <;> simp [dirFs]
      · simp -dsimp only [go_sem, tyC, tysC_map] <;> simp [dirFs]
      intro i hi
      rcases Nat.lt_or_ge i e.length with hlt | hge
      · have hg : decide ((i : Int) < (e.length : Int)) = true := by simp; omega
        obtain ⟨u, hx⟩ : ∃ t, e[i]? = some t := ⟨_, List.getElem?_eq_getElem hlt⟩
        have q1 := row_rg' (row := tyC) hx
        have hu := List.mem_of_getElem? hx
        have htn : dirFs (e.take (i + 1)) = dirFs (e.take i) ++ dirF u := by rw [take_next hx, dirFs_app]; simp [dirFs]
        have hb : (dirFs (e.take (i + 1))).length ≤ 1000000000 := by
          have := dirFs_app (e.take (i + 1)) (e.drop (i + 1))
          rw [List.take_append_drop] at this
          rw [this, List.length_append] at h3; omega
        rw [htn, List.length_append] at hb
        simp (maxSteps := 1000000) -dsimp only [go_sem, hg, ↓q1, tyC_len, tyC, tysC_map]
        refine ⟨by omega, di_use (hoe u hu) ?_ ?_ ?_⟩
        · have := Ty.hs_mem hu; rw [Ty.h] at h2; omega
        · have := dirFs_mem hu; omega
        simp (maxSteps := 1000000) -dsimp only [go_sem, all_rows stR_len]
        refine ⟨stR_ss _, by omega, by omega, loop_next (i + 1) 2 (by omega) (by omega) ?_ ?_⟩
        · simp -dsimp only [go_sem, htn] <;> simp
        · simp -dsimp only [go_sem, tyC, tysC_map, htn] <;> simp
      · have hg : decide ((i : Int) < (e.length : Int)) = false := by simp; omega
        obtain rfl : i = e.length := by omega
        rw [List.take_length]
        simp (maxSteps := 1000000) -dsimp only [go_sem, hg, tyC, tysC_map]
        rw [← List.length_map (f := stR)]
        refine .pub 1 _ _ _ rfl (.sel [] (by simp) (by simp [pubH]) rfl (.done ?_))
        simp -dsimp only [go_sem, pubH]
        simpa using hK
def diSp0 : W.Spec := fun av H K => ∃ t : Ty, av = [.va (.gs (tyC t))] ∧ H = [] ∧ TyOk t ∧ (dirF t).length ≤ 1000000000 ∧ K (.va (.c1 (.fz ((dirF t).map stR)))) []
theorem di_use0 {t : Ty} {K : S → Hp → Prop} (h1 : TyOk t) (h3 : (dirF t).length ≤ 1000000000) (hK : K (.va (.c1 (.fz ((dirF t).map stR)))) []) : diSp0 [.va (.gs (tyC t))] [] K := ⟨t, rfl, rfl, h1, h3, hK⟩
theorem mDirect0 : Meets Try.prog 71 diSp0 := meets_all 0 mDirect fun _av _H _K ⟨t, e1, e2, h1, h3, hK⟩ => ⟨t.h, t, e1, e2, h1, Nat.le_refl _, h3, hK⟩
def putG (x : ByteArray) : Bool → List ByteArray → List ByteArray
  | d, [] => bif d then [] else [x]
  | d, y :: r => bif !d && (Op.bytesLess (bl x) (bl y) || bl x == bl y) then (bif Op.bytesLess (bl x) (bl y) then x :: y :: putG x true r else y :: putG x true r) else y :: putG x d r
theorem putG_len (x : ByteArray) : ∀ (d : Bool) (l : List ByteArray), (putG x d l).length ≤ l.length + 1
  | d, [] => by cases d <;> simp [putG]
  | d, y :: r => by
    have h1 := putG_true x r
    have h2 := putG_len x d r
    rw [putG]
    cases d <;> cases Op.bytesLess (bl x) (bl y) <;> cases bl x == bl y <;> simp [h1] at h2 ⊢ <;> omega
where putG_true (x : ByteArray) : ∀ l, putG x true l = l
  | [] => rfl
  | y :: r => by rw [putG, putG_true x r]; rfl
def puSp : W.Spec := fun av H K => ∃ (l : List ByteArray) (x : ByteArray), av = [.va (.c1 (.fz (l.map stR))), tS x] ∧ H = [] ∧ l.length ≤ 1000000 ∧ K (.va (.c1 (.fz ((putG x false l).map stR)))) []
theorem pu_use {l : List ByteArray} {x : ByteArray} {K : S → Hp → Prop} (h : l.length ≤ 1000000) (hK : K (.va (.c1 (.fz ((putG x false l).map stR)))) []) : puSp [.va (.c1 (.fz (l.map stR))), tS x] [] K := ⟨l, x, rfl, rfl, h, hK⟩
set_option maxRecDepth 100000 in
theorem mPut : Meets Try.prog 72 puSp := by
  refine meets_fn Try.func72 ok72 2 (by rw [Try.ntmps72]; decide) (meetsAll_nil _) (fun av H K h => by obtain ⟨_, _, rfl, _⟩ := h; rfl) ?_
  rintro av H K ⟨l, x, rfl, rfl, hl, hK⟩
  have hlen := putG_len x false l
  simp (maxSteps := 1000000) -dsimp only [go_sem, pc72, rs72]
  refine vc_loop_gh (α := Nat × Bool × List ByteArray) (fun z => [(0, .va (.c1 (.fz (l.map stR)))), (1, tS x), (5, .va (.c1 (.sl 0 z.2.2.length))), (6, bS z.2.1), (7, iS .i64 z.1)]) (fun z => [.row (z.2.2.map stR) 9 1])
    (fun z => z.1 ≤ l.length ∧ z.2.2 ++ putG x z.2.1 (l.drop z.1) = putG x false l) (fun z => l.length - z.1) (.nil 5 9 1 rfl (gh_at (0, false, []) 1 ⟨Nat.zero_le _, rfl⟩ ?_ ?_)) ?_
  · simp -dsimp only [go_sem] <;> simp
  · simp -dsimp only [go_sem] <;> simp
  rintro ⟨i, d, o⟩ ⟨hi, ho⟩
  simp only at hi ho ⊢
  have hol : o.length ≤ l.length + 1 := by
    have := congrArg List.length ho
    rw [List.length_append] at this; omega
  rcases Nat.lt_or_ge i l.length with hlt | hge
  · have hg : decide ((i : Int) < (l.length : Int)) = true := by simp; omega
    obtain ⟨y, hx⟩ : ∃ t, l[i]? = some t := ⟨_, List.getElem?_eq_getElem hlt⟩
    have q1 := row_rg' (row := stR) hx
    have hdr : l.drop i = y :: l.drop (i + 1) := by
      obtain ⟨h, rfl⟩ := List.getElem?_eq_some_iff.1 hx
      exact List.drop_eq_getElem_cons h
    rw [hdr, putG] at ho
    have hst : ∀ (u : ByteArray), [[C.vl (.string u)]] = [u].map stR := fun _ => rfl
    cases d with
    | true =>
      simp only [Bool.not_true, Bool.false_and, Bool.cond_false] at ho
      simp (maxSteps := 1000000) -dsimp only [go_sem, hg, ↓q1]
      and_intros
      all_goals first
        | omega
        | skip
      refine loop_next (i + 1, true, o ++ [y]) 1 ⟨by simp only; omega, by simp only [List.append_assoc, List.singleton_append]; exact ho⟩ (by simp only; omega) ?_ ?_
      · simp -dsimp only [go_sem] <;> simp
      · simp -dsimp only [go_sem] <;> simp
    | false =>
      simp only [Bool.not_false, Bool.true_and] at ho
      cases c2 : Op.bytesLess (bl x) (bl y) with
      | true =>
        rw [c2] at ho
        simp only [Bool.true_or, Bool.cond_true] at ho
        simp (maxSteps := 1000000) -dsimp only [go_sem, hg, ↓q1, c2, Bool.true_or]
        and_intros
        all_goals first
          | omega
          | skip
        refine loop_next (i + 1, true, o ++ [x, y]) 1 ⟨by simp only; omega, by simp only [List.append_assoc, List.cons_append, List.nil_append]; exact ho⟩ (by simp only; omega) ?_ ?_
        · simp -dsimp only [go_sem] <;> simp
        · simp -dsimp only [go_sem] <;> simp
      | false =>
        rw [c2] at ho
        simp only [Bool.false_or, Bool.cond_false] at ho
        cases c3 : bl x == bl y with
        | true =>
          rw [c3] at ho
          simp only [Bool.cond_true] at ho
          simp (maxSteps := 1000000) -dsimp only [go_sem, hg, ↓q1, c2, c3, Bool.false_or]
          and_intros
          all_goals first
            | omega
            | skip
          refine loop_next (i + 1, true, o ++ [y]) 1 ⟨by simp only; omega, by simp only [List.append_assoc, List.singleton_append]; exact ho⟩ (by simp only; omega) ?_ ?_
          · simp -dsimp only [go_sem] <;> simp
          · simp -dsimp only [go_sem] <;> simp
        | false =>
          rw [c3] at ho
          simp only [Bool.cond_false] at ho
          simp (maxSteps := 1000000) -dsimp only [go_sem, hg, ↓q1, c2, c3, Bool.false_or]
          and_intros
          all_goals first
            | omega
            | skip
          refine loop_next (i + 1, false, o ++ [y]) 1 ⟨by simp only; omega, by simp only [List.append_assoc, List.singleton_append]; exact ho⟩ (by simp only; omega) ?_ ?_
          · simp -dsimp only [go_sem] <;> simp
          · simp -dsimp only [go_sem] <;> simp
  · have hg : decide ((i : Int) < (l.length : Int)) = false := by simp; omega
    obtain rfl : i = l.length := by omega
    rw [List.drop_length] at ho
    simp only [putG] at ho
    cases d with
    | true =>
      simp only [Bool.cond_true, List.append_nil] at ho
      rw [← ho] at hK
      simp (maxSteps := 1000000) -dsimp only [go_sem, hg]
      rw [← List.length_map (f := stR)]
      refine .pub 0 _ _ _ rfl (.sel [] (by simp) (by simp [pubH]) rfl (.done ?_))
      simp -dsimp only [go_sem, pubH]
      simpa using hK
    | false =>
      simp only [Bool.cond_false] at ho
      rw [← ho] at hK
      simp (maxSteps := 1000000) -dsimp only [go_sem, hg]
      refine ⟨by omega, ?_⟩
      have e1 : o.length + 1 = ((o ++ [x]).map stR).length := by simp
      have e2 : o.map stR ++ [[C.vl (.string x)]] = (o ++ [x]).map stR := by simp
      rw [e1, e2]
      refine .pub 0 _ _ _ rfl (.sel [] (by simp) (by simp [pubH]) rfl (.done ?_))
      simp -dsimp only [go_sem, pubH]
      simpa using hK
end Go.Proofs.Ytpfmkfafagiicaa
namespace Go.Proofs.Ytpfmkfafagiicaa
open Go.W
abbrev ltS (a b : ByteArray) : Prop := bl a < bl b
theorem blessL (x : List UInt8) : ∀ y : List UInt8, Op.bytesLess x y = decide (x < y) := by
  induction x with
  | nil => intro y; cases y <;> simp [Op.bytesLess]
  | cons a x ih =>
    intro y
    cases y with
    | nil => simp [Op.bytesLess]
    | cons b y =>
      have := ih y
      rw [Op.bytesLess, this, Bool.eq_iff_iff]
      simp [List.cons_lt_cons_iff]
theorem bless (a b : ByteArray) : Op.bytesLess (bl a) (bl b) = decide (ltS a b) := blessL _ _
theorem ltS_irrefl (a : ByteArray) : ¬ ltS a a := List.lt_irrefl _
theorem ltS_trans {a b c : ByteArray} (h : ltS a b) (h2 : ltS b c) : ltS a c := List.lt_trans h h2
theorem ltS_total {a b : ByteArray} (h : ¬ ltS a b) (h2 : a ≠ b) : ltS b a := by
  have h3 : bl b ≤ bl a := List.not_lt.1 h
  exact Std.lt_of_le_of_ne h3 (fun e => h2 (bl_inj e.symm))
def Asc (l : List ByteArray) : Prop := l.Pairwise ltS
theorem asc_ext : ∀ {a b : List ByteArray}, Asc a → Asc b → (∀ x, x ∈ a ↔ x ∈ b) → a = b
  | [], [], _, _, _ => rfl
  | [], y :: b, _, _, h => by have := (h y).2 List.mem_cons_self; cases this
  | x :: a, [], _, _, h => by have := (h x).1 List.mem_cons_self; cases this
  | x :: a, y :: b, h1, h2, h => by
    obtain ⟨p1, p2⟩ := List.pairwise_cons.1 h1
    obtain ⟨p3, p4⟩ := List.pairwise_cons.1 h2
    have e : x = y := by
      rcases List.mem_cons.1 ((h x).1 List.mem_cons_self) with e | e
      · exact e
      · rcases List.mem_cons.1 ((h y).2 List.mem_cons_self) with e2 | e2
        · exact e2.symm
        · exact absurd (ltS_trans (p1 y e2) (p3 x e)) (ltS_irrefl x)
    subst e
    rw [asc_ext p2 p4 fun z => ?_]
    constructor
    · intro hz
      rcases List.mem_cons.1 ((h z).1 (List.mem_cons_of_mem _ hz)) with e | e
      · exact absurd (p1 z hz) (by rw [e]; exact ltS_irrefl x)
      · exact e
    · intro hz
      rcases List.mem_cons.1 ((h z).2 (List.mem_cons_of_mem _ hz)) with e | e
      · exact absurd (p3 z hz) (by rw [e]; exact ltS_irrefl x)
      · exact e
theorem Asc.nodup {l : List ByteArray} (h : Asc l) : l.Nodup := by
  unfold List.Nodup
  refine List.Pairwise.imp ?_ h
  intro a b h e
  subst e
  exact ltS_irrefl a h
theorem putG_true (x : ByteArray) : ∀ l, putG x true l = l
  | [] => rfl
  | y :: r => by rw [putG, putG_true x r]; rfl
theorem putG_mem {x z : ByteArray} : ∀ {l : List ByteArray}, z ∈ putG x false l ↔ z = x ∨ z ∈ l
  | [] => by simp [putG]
  | y :: r => by
    rw [putG, putG_true]
    cases c1 : Op.bytesLess (bl x) (bl y) with
    | true => simp
    | false =>
      cases c2 : bl x == bl y with
      | true =>
        have : x = y := bl_inj (by simpa using c2)
        subst this
        simp
      | false =>
        have := putG_mem (x := x) (z := z) (l := r)
        simp [this]
        constructor
        · rintro (h | h | h)
          · exact .inr (.inl h)
          · exact .inl h
          · exact .inr (.inr h)
        · rintro (h | h | h)
          · exact .inr (.inl h)
          · exact .inl h
          · exact .inr (.inr h)
theorem putG_asc {x : ByteArray} : ∀ {l : List ByteArray}, Asc l → Asc (putG x false l)
  | [], _ => by simp [putG, Asc]
  | y :: r, h => by
    obtain ⟨p1, p2⟩ := List.pairwise_cons.1 h
    rw [putG, putG_true]
    cases c1 : Op.bytesLess (bl x) (bl y) with
    | true =>
      rw [bless] at c1
      have c1 := of_decide_eq_true c1
      simp only [Bool.not_false, Bool.true_or, Bool.and_true, Bool.cond_true]
      refine List.pairwise_cons.2 ⟨fun z hz => ?_, h⟩
      rcases List.mem_cons.1 hz with rfl | hz
      · exact c1
      · exact ltS_trans c1 (p1 z hz)
    | false =>
      cases c2 : bl x == bl y with
      | true => exact h
      | false =>
        rw [bless] at c1
        have c1 := of_decide_eq_false c1
        have c2 : x ≠ y := fun e => by subst e; simp at c2
        simp only [Bool.not_false, Bool.true_and, Bool.or_self, Bool.cond_false]
        refine List.pairwise_cons.2 ⟨fun z hz => ?_, putG_asc p2⟩
        rcases putG_mem.1 hz with rfl | hz
        · exact ltS_total c1 c2
        · exact p1 z hz
theorem asc_srtB {l : List ByteArray} (h : l.Nodup) : Asc (srtB l) := by
  have h1 : ((l.map bl).mergeSort fun x y => decide (x ≤ y)).Pairwise fun a b => decide (a ≤ b) = true :=
    List.pairwise_mergeSort (le := fun (x y : List UInt8) => decide (x ≤ y)) (fun (a b c : List UInt8) h1 h2 => decide_eq_true (List.le_trans (of_decide_eq_true h1) (of_decide_eq_true h2))) (fun (a b : List UInt8) => by
      rcases List.le_total a b with h | h <;> simp [h]) _
  have h2 : ((l.map bl).mergeSort fun x y => decide (x ≤ y)).Nodup := by
    rw [(List.mergeSort_perm _ _).nodup_iff]
    exact List.Pairwise.map bl (fun a b (hab : a ≠ b) e => hab (bl_inj e)) h
  unfold srtB Asc
  rw [List.pairwise_map]
  refine List.Pairwise.imp₂ (fun a b h1 h2 => ?_) h1 h2
  exact Std.lt_of_le_of_ne (of_decide_eq_true h1) h2
theorem usesF_asc (ss : List St) (n : ByteArray) : Asc (usesF ss n) := asc_srtB (visAll_nodup ss n)
theorem plain_nil {e : List Ty} (h : ((e.length : Int) == 0) = true) : e = [] := by simpa using h
theorem dir_val (ss : List St) (es : List En) : ∀ (N : Nat) (t : Ty), t.h ≤ N → valF ss es t = true → dirF t = bif isNamed t then [nmOf t] else []
  | 0, t, h, _ => absurd h (by have := t.h_pos; omega)
  | N + 1, .mk k s n e, h, hv => by
    cases k5 : k == 5 with
    | true =>
      obtain rfl : k = 5 := by simpa using k5
      obtain ⟨u, rfl, hu⟩ := val_list hv
      have := dir_val ss es N u (by rw [Ty.h, Ty.hs, Ty.hs] at h; omega) hu
      unfold isNamed nmOf
      rw [named_one]
      rw [dirF, dirFs, dirFs, List.append_nil, this]
      rfl
    | false =>
      have h1 : namedT (.mk k s n e) = .mk k s n e := named_stop (by rw [k5]; rfl)
      unfold isNamed nmOf
      rw [h1, dirF]
      simp only [Ty.k, Ty.n]
      cases k67 : (k == 6 || k == 7) with
      | true => rfl
      | false =>
        have he : e = [] := by
          rw [Bool.or_eq_false_iff] at k67
          rw [valF, k5, k67.1, k67.2] at hv
          cases k1 : k == 1 <;> cases k2 : k == 2 <;> cases k3 : k == 3 <;> cases k4 : k == 4 <;> rw [k1, k2, k3, k4] at hv <;> simp only [Bool.cond_true, Bool.cond_false, Bool.and_eq_true, reduceCtorEq] at hv <;> first | exact plain_nil hv.2 | exact absurd hv (by decide)
        subst he; rfl
theorem dir_valF {ss : List St} {es : List En} {t : Ty} (hv : valF ss es t = true) : dirF t = bif isNamed t then [nmOf t] else [] := dir_val ss es t.h t (Nat.le_refl _) hv
end Go.Proofs.Ytpfmkfafagiicaa
namespace Go.Proofs.Ytpfmkfafagiicaa
open Go.W
structure UI (ss : List St) (n : ByteArray) (i : Nat) (todo o : List ByteArray) : Prop where
  hd : ∃ r, todo = n :: r ∧ r.Nodup ∧ ∀ x, x ∈ o ↔ x ∈ r
  rc : ∀ x ∈ o, Reach ss n x
  dn : ∀ j a, j < i → todo[j]? = some a → ∀ y, isRef ss a y → y ∈ o
  asc : Asc o
theorem UI.init (ss : List St) (n : ByteArray) : UI ss n 0 [n] [] := ⟨⟨[], rfl, .nil, fun _x => Iff.rfl⟩, fun _x h => (List.not_mem_nil h).elim, fun _j _a h => absurd h (Nat.not_lt_zero _), List.Pairwise.nil⟩
theorem nm_len {ss : List St} {es : List En} (g : Gd ss es) {n : ByteArray} {l : List ByteArray} (h : l.Nodup) (hr : ∀ x ∈ l, Reach ss n x) : l.length ≤ 32 := Nat.le_trans (nodup_sub h fun x hx => (mem_visAll ss n x).2 (hr x hx)) (g.vlen n)
theorem UI.len {ss : List St} {es : List En} (g : Gd ss es) {n : ByteArray} {i : Nat} {todo o : List ByteArray} (h : UI ss n i todo o) : todo.length ≤ 33 ∧ o.length ≤ 32 := by
  obtain ⟨r, rfl, h1, h2⟩ := h.hd
  have := nm_len g h1 fun x hx => h.rc x ((h2 x).2 hx)
  have := nm_len g h.asc.nodup h.rc
  simp only [List.length_cons]; omega
theorem UI.rch {ss : List St} {n : ByteArray} {i k : Nat} {todo o : List ByteArray} (h : UI ss n i todo o) {a y : ByteArray} (ha : todo[k]? = some a) (hy : isRef ss a y) : Reach ss n y := by
  obtain ⟨r, rfl, h1, h2⟩ := h.hd
  cases k with
  | zero => simp at ha; subst ha; exact .one hy
  | succ k =>
    simp at ha
    exact .more (h.rc a ((h2 a).2 (List.mem_of_getElem? ha))) hy
theorem UI.add {ss : List St} {n : ByteArray} {i : Nat} {todo o : List ByteArray} (h : UI ss n i todo o) {y : ByteArray} (hr : Reach ss n y) (hy : y ∉ o) (hi : i ≤ todo.length) : UI ss n i (todo ++ [y]) (putG y false o) := by
  obtain ⟨r, rfl, h1, h2⟩ := h.hd
  refine ⟨⟨r ++ [y], by simp, ?_, fun x => ?_⟩, fun x hx => ?_, fun j a hj ha z hz => ?_, putG_asc h.asc⟩
  · rw [List.nodup_append]
    exact ⟨h1, by simp, fun a ha b hb => by simp at hb; subst hb; exact fun e => hy ((h2 b).2 (e ▸ ha))⟩
  · rw [putG_mem, h2]; simp [or_comm]
  · rcases putG_mem.1 hx with rfl | hx
    · exact hr
    · exact h.rc x hx
  · rw [List.getElem?_append_left (by omega)] at ha
    exact putG_mem.2 (.inr (h.dn j a hj ha z hz))
theorem UI.next {ss : List St} {n : ByteArray} {i : Nat} {todo o : List ByteArray} (h : UI ss n i todo o) {a : ByteArray} (ha : todo[i]? = some a) (hy : ∀ y, isRef ss a y → y ∈ o) : UI ss n (i + 1) todo o := by
  refine ⟨h.hd, h.rc, fun j b hj hb y hyb => ?_, h.asc⟩
  rcases Nat.lt_or_ge j i with h4 | h4
  · exact h.dn j b h4 hb y hyb
  · obtain rfl : j = i := by omega
    rw [ha] at hb; obtain rfl := Option.some.inj hb
    exact hy y hyb
theorem UI.fin {ss : List St} {n : ByteArray} {todo o : List ByteArray} (h : UI ss n todo.length todo o) : o = usesF ss n := by
  refine asc_ext h.asc (usesF_asc ss n) fun x => ?_
  rw [mem_usesF]
  refine ⟨h.rc x, fun hx => ?_⟩
  obtain ⟨r, e, h1, h2⟩ := h.hd
  have hn : ∀ y, isRef ss n y → y ∈ o := h.dn 0 n (by rw [e]; simp) (by rw [e]; rfl)
  induction hx with
  | one h => exact hn _ h
  | more _ h3 ih =>
    obtain ⟨j, hj⟩ := List.mem_iff_getElem?.1 ((h2 _).1 ih)
    rename_i b c _
    have hj2 : todo[j + 1]? = some b := by rw [e]; simpa using hj
    exact h.dn (j + 1) _ (List.getElem?_eq_some_iff.1 hj2).1 hj2 _ h3
def udSp : W.Spec := fun av H K => ∃ (s : Sc) (n : ByteArray), av = [.va (.gs (scC s)), tS n] ∧ H = [] ∧ s.fit ∧ Gd s.ss s.es ∧ K (.va (.c1 (.fz ((usesF s.ss n).map stR)))) []
theorem ud_use {s : Sc} {n : ByteArray} {K : S → Hp → Prop} (h : s.fit) (g : Gd s.ss s.es) (hK : K (.va (.c1 (.fz ((usesF s.ss n).map stR)))) []) : udSp [.va (.gs (scC s)), tS n] [] K := ⟨s, n, rfl, rfl, h, g, hK⟩
theorem dir_len {ss : List St} {es : List En} {t : Ty} (hv : valF ss es t = true) : (dirF t).length ≤ 1 := by
  rw [dir_valF hv]; cases isNamed t <;> simp
theorem dir_mem {ss : List St} {es : List En} {t : Ty} (hv : valF ss es t = true) {y : ByteArray} : y ∈ dirF t ↔ isNamed t = true ∧ nmOf t = y := by
  rw [dir_valF hv]; cases isNamed t <;> simp [eq_comm]
set_option maxRecDepth 100000 in
set_option maxHeartbeats 2000000 in
theorem mUsed : Meets Try.prog 47 udSp := by
  refine meets_fn Try.func47 ok47 2 (by rw [Try.ntmps47]; decide) (meetsAll_s mRStruct (meetsAll_s mDirect0 (meetsAll_f mRIn (meetsAll_s mPut (meetsAll_nil _))))) (fun av H K h => by obtain ⟨_, _, rfl, _⟩ := h; rfl) ?_
  rintro av H K ⟨s, n, rfl, rfl, hs, g, hK⟩
  simp (maxSteps := 1000000) -dsimp only [go_sem, scC, pc47, rs47]
  refine vc_loop_gh (α := Nat × List ByteArray × List ByteArray) (fun z => [(2, .va (.c1 (.pt 0 0))), (5, .va (.c1 (.fz (z.2.2.map stR)))), (6, .va (.c1 (.sl 1 z.2.1.length))), (7, iS .i64 z.1)]) (fun z => [.cells (scC s) 25, .row (z.2.1.map stR) 9 1])
    (fun z => z.1 ≤ z.2.1.length ∧ UI s.ss n z.1 z.2.1 z.2.2) (fun z => 34 - z.1) (.nf 5 (gh_at (0, [n], []) 2 ⟨Nat.zero_le _, UI.init _ _⟩ ?_ ?_)) ?_
  · simp -dsimp only [go_sem] <;> simp
  · simp -dsimp only [go_sem, scC] <;> simp
  rintro ⟨i, todo, o⟩ ⟨hi, hu⟩
  simp only at hi hu ⊢
  obtain ⟨htl, hol⟩ := hu.len g
  rcases Nat.lt_or_ge i todo.length with hlt | hge
  · have hg : decide ((i : Int) < (todo.length : Int)) = true := by simp; omega
    obtain ⟨a, ha⟩ : ∃ a, todo[i]? = some a := ⟨_, List.getElem?_eq_getElem hlt⟩
    have q1 := row_rg' (row := stR) ha
    simp (maxSteps := 1000000) -dsimp only [go_sem, hg, scC, ha, Option.some.injEq, forall_eq']
    refine ⟨by omega, hlt, stp_use hs ?_⟩
    generalize hx : (fS s.ss a).getD default = x
    have hxf : ∀ f ∈ x.fs, f.ok ∧ valF s.ss s.es f.ty = true := fun f hf => by
      cases hc : fS s.ss a with
      | none => rw [hc] at hx; subst hx; cases hf
      | some t =>
        rw [hc] at hx
        subst hx
        exact ⟨(hs.ok.ss _ (fS_mem hc).1).fs f hf, g.val _ (fS_mem hc).1 f hf⟩
    have hxl : x.fs.length ≤ 9223372036854775807 := by
      cases hc : fS s.ss a with
      | none => rw [hc] at hx; subst hx; exact Nat.zero_le _
      | some t => rw [hc] at hx; subst hx; exact (hs.ok.ss _ (fS_mem hc).1).len
    have hxr : ∀ y, isRef s.ss a y ↔ refT x y := fun y => by unfold isRef; rw [hx]
    simp (maxSteps := 1000000) -dsimp only [go_sem, stC]
    refine vc_loop (α := Nat × List ByteArray × List ByteArray) (fun z => [(2, .va (.c1 (.pt 0 0))), (5, .va (.c1 (.fz (z.2.2.map stR)))), (6, .va (.c1 (.sl 1 z.2.1.length))), (7, iS .i64 i), (8, .va (.c1 (.pt 2 0))), (10, iS .i64 z.1)]) (fun z => [.cells (scC s) 25, .row (z.2.1.map stR) 9 1, .cells (stC x) 32])
      (fun z => z.1 ≤ x.fs.length ∧ z.2.1[i]? = some a ∧ UI s.ss n i z.2.1 z.2.2 ∧ ∀ f ∈ x.fs.take z.1, isNamed f.ty = true → nmOf f.ty ∈ z.2.2) (fun z => x.fs.length - z.1) (0, todo, o) 3 ⟨Nat.zero_le _, ha, hu, fun f hf => by cases hf⟩ ?_ ?_ ?_
    · simp -dsimp only [go_sem] <;> simp
    · simp -dsimp only [go_sem, scC, stC] <;> simp
    clear hu ha hlt hi htl hol hg q1
    rintro ⟨k, td, o⟩ ⟨hk, ha, hu, hr⟩
    simp only at hk ha hu hr ⊢
    obtain ⟨htl, hol⟩ := hu.len g
    have hil := (List.getElem?_eq_some_iff.1 ha).1
    rcases Nat.lt_or_ge k x.fs.length with hlt | hge
    · have hg : decide ((k : Int) < (x.fs.length : Int)) = true := by simp; omega
      obtain ⟨f, hf⟩ : ∃ a, x.fs[k]? = some a := ⟨_, List.getElem?_eq_getElem hlt⟩
      have q1 := row_rg' (row := flC) hf
      obtain ⟨hfo, hfv⟩ := hxf f (List.mem_of_getElem? hf)
      simp (maxSteps := 1000000) -dsimp only [go_sem, hg, ↓q1, scC, stC, flC, fl_ty]
      have hdl := dir_len hfv
      refine ⟨by omega, di_use0 hfo.ty (by omega) ?_⟩
      simp (maxSteps := 1000000) -dsimp only [go_sem]
      have hdm : ∀ y ∈ dirF f.ty, Reach s.ss n y := fun y hy => by
        obtain ⟨h1, h2⟩ := (dir_mem hfv).1 hy
        exact hu.rch ha ((hxr y).2 ⟨f, List.mem_of_getElem? hf, h1, h2⟩)
      have hdf : (∀ o' : List ByteArray, (∀ y ∈ dirF f.ty, y ∈ o') → (∀ f ∈ x.fs.take k, isNamed f.ty = true → nmOf f.ty ∈ o') → ∀ f ∈ x.fs.take (k + 1), isNamed f.ty = true → nmOf f.ty ∈ o') := fun o' h1 h2 f' hf' hn => by
        rw [take_next hf] at hf'
        rcases List.mem_append.1 hf' with h | h
        · exact h2 f' h hn
        · obtain rfl : f' = f := by simpa using h
          exact h1 _ ((dir_mem hfv).2 ⟨hn, rfl⟩)
      generalize dirF f.ty = l at *
      refine vc_loop (α := Nat × List ByteArray × List ByteArray) (fun z => [(2, .va (.c1 (.pt 0 0))), (5, .va (.c1 (.fz (z.2.2.map stR)))), (6, .va (.c1 (.sl 1 z.2.1.length))), (7, iS .i64 i), (8, .va (.c1 (.pt 2 0))), (10, iS .i64 k), (11, .va (.c1 (.fz (l.map stR)))), (12, iS .i64 z.1)]) (fun z => [.cells (scC s) 25, .row (z.2.1.map stR) 9 1, .cells (stC x) 32])
        (fun z => z.1 ≤ l.length ∧ z.2.1[i]? = some a ∧ UI s.ss n i z.2.1 z.2.2 ∧ (∀ f ∈ x.fs.take k, isNamed f.ty = true → nmOf f.ty ∈ z.2.2) ∧ ∀ y ∈ l.take z.1, y ∈ z.2.2) (fun z => l.length - z.1) (0, td, o) 3 ⟨Nat.zero_le _, ha, hu, hr, fun f hf => by cases hf⟩ ?_ ?_ ?_
      · simp -dsimp only [go_sem] <;> simp
      · simp -dsimp only [go_sem, scC, stC] <;> simp
      clear hu ha hil htl hol hg q1 hr
      rintro ⟨j, td, o⟩ ⟨hj, ha, hu, hr, hjm⟩
      simp only at hj ha hu hr hjm ⊢
      obtain ⟨htl, hol⟩ := hu.len g
      have hil := (List.getElem?_eq_some_iff.1 ha).1
      rcases Nat.lt_or_ge j l.length with hjt | hjg
      · have hg : decide ((j : Int) < (l.length : Int)) = true := by simp; omega
        obtain ⟨y, hy⟩ : ∃ a, l[j]? = some a := ⟨_, List.getElem?_eq_getElem hjt⟩
        have q1 := row_rg' (row := stR) hy
        have hbs : isBs (o.map stR) := isBs_mk (by omega)
        have e0 : (0 ≤ (o.length : Int)) = True := by simp
        have e1 : ((o.length : Int) ≤ 9223372036854775807) = True := by simp; omega
        have hto : o.take o.length = o := List.take_length
        have hjm' : ∀ o' : List ByteArray, (∀ z ∈ o, z ∈ o') → y ∈ o' → ∀ z ∈ l.take (j + 1), z ∈ o' := fun o' h1 h2 z hz => by
          rw [take_next hy] at hz
          rcases List.mem_append.1 hz with h | h
          · exact h1 z (hjm z h)
          · obtain rfl : z = y := by simpa using h
            exact h2
        cases hc : inB o y with
        | true =>
          simp (maxSteps := 1000000) -dsimp only [go_sem, hg, ↓q1, scC, stC, hbs, e0, e1, Int.toNat_natCast, hto, hc]
          refine ⟨by omega, by omega, loop_next (j + 1, td, o) 3 ⟨by simp only; omega, ha, hu, hr, hjm' o (fun z h => h) ((inB_iff _ _).1 hc)⟩ (by simp only; omega) ?_ ?_⟩
          · simp -dsimp only [go_sem] <;> simp
          · simp -dsimp only [go_sem, scC, stC] <;> simp
        | false =>
          have hyo := not_inB.1 hc
          have hua := hu.add (hdm y (List.mem_of_getElem? hy)) hyo (by omega)
          have hmo : ∀ z ∈ o, z ∈ putG y false o := fun z hz => putG_mem.2 (.inr hz)
          have ha' : (td ++ [y])[i]? = some a := by rw [List.getElem?_append_left hil]; exact ha
          simp (maxSteps := 1000000) -dsimp only [go_sem, hg, ↓q1, scC, stC, hbs, e0, e1, Int.toNat_natCast, hto, hc]
          refine ⟨by omega, by omega, pu_use (by omega) ?_⟩
          simp (maxSteps := 1000000) -dsimp only [go_sem]
          and_intros
          all_goals first
            | omega
            | skip
          refine loop_next (j + 1, td ++ [y], putG y false o) 3 ⟨by simp only; omega, ha', hua, fun f hf hn => hmo _ (hr f hf hn), hjm' _ hmo (putG_mem.2 (.inl rfl))⟩ (by simp only; omega) ?_ ?_
          · simp -dsimp only [go_sem] <;> simp
          · simp -dsimp only [go_sem, scC, stC] <;> simp
      · have hg : decide ((j : Int) < (l.length : Int)) = false := by simp; omega
        obtain rfl : j = l.length := by omega
        rw [List.take_length] at hjm
        simp (maxSteps := 1000000) -dsimp only [go_sem, hg, scC, stC]
        refine ⟨by omega, loop_next (k + 1, td, o) 3 ⟨by simp only; omega, ha, hu, hdf o hjm hr⟩ (by simp only; omega) ?_ ?_⟩
        · simp -dsimp only [go_sem] <;> simp
        · simp -dsimp only [go_sem, scC, stC] <;> simp
    · have hg : decide ((k : Int) < (x.fs.length : Int)) = false := by simp; omega
      obtain rfl : k = x.fs.length := by omega
      rw [List.take_length] at hr
      simp (maxSteps := 1000000) -dsimp only [go_sem, hg, scC, stC]
      refine ⟨by omega, loop_next (i + 1, td, o) 2 ⟨by simp only; omega, hu.next ha fun y hy => ?_⟩ (by simp only; omega) ?_ ?_⟩
      · obtain ⟨f, h1, h2, rfl⟩ := (hxr y).1 hy
        exact hr f h1 h2
      · simp -dsimp only [go_sem] <;> simp
      · simp -dsimp only [go_sem, scC] <;> simp
  · have hg : decide ((i : Int) < (todo.length : Int)) = false := by simp; omega
    obtain rfl : i = todo.length := by omega
    obtain rfl := hu.fin
    simp (maxSteps := 1000000) -dsimp only [go_sem, hg, scC]
    exact .sel [] (by simp) (by simp) rfl (.done (by simpa [go_sem] using hK))
end Go.Proofs.Ytpfmkfafagiicaa
namespace Go.Proofs.Ytpfmkfafagiicaa
open Go.W
def dIx : List St → List Int → ByteArray → Int
  | s :: ss, d :: ds, n => bif decide (s.nm = n) then d else dIx ss ds n
  | _, _, _ => 0
theorem dIx_step {ss : List St} {ds : List Int} {i : Nat} {x : St} {d : Int} (hx : ss[i]? = some x) (hd : ds[i]? = some d) (n : ByteArray) : dIx (ss.drop i) (ds.drop i) n = bif decide (x.nm = n) then d else dIx (ss.drop (i + 1)) (ds.drop (i + 1)) n := by
  obtain ⟨h, rfl⟩ := List.getElem?_eq_some_iff.1 hx
  obtain ⟨h2, rfl⟩ := List.getElem?_eq_some_iff.1 hd
  rw [List.drop_eq_getElem_cons h, List.drop_eq_getElem_cons h2]; rfl
theorem dIx_end {ss : List St} {ds : List Int} (n : ByteArray) : dIx (ss.drop ss.length) ds n = 0 := by rw [List.drop_length]; simp [dIx]
theorem dIx_none {n : ByteArray} : ∀ {ss : List St} {ds : List Int}, fS ss n = none → dIx ss ds n = 0
  | [], _, _ => by simp [dIx]
  | s :: ss, [], _ => by simp [dIx]
  | s :: ss, d :: ds, h => by
    unfold fS at h
    rw [List.find?_cons] at h
    rw [dIx]
    cases hc : decide (s.nm = n) with
    | true => rw [hc] at h; simp at h
    | false => rw [hc] at h; exact dIx_none (ss := ss) h
theorem dIx_some {n : ByteArray} {u : St} : ∀ {ss : List St} {ds : List Int}, ss.length = ds.length → fS ss n = some u → ∃ j : Nat, ss[j]? = some u ∧ ds[j]? = some (dIx ss ds n)
  | [], _, _, h => by cases h
  | s :: ss, [], hl, _ => by simp at hl
  | s :: ss, d :: ds, hl, h => by
    unfold fS at h
    rw [List.find?_cons] at h
    rw [dIx]
    cases hc : decide (s.nm = n) with
    | true =>
      rw [hc] at h
      obtain rfl : s = u := by simpa using h
      exact ⟨0, rfl, rfl⟩
    | false =>
      rw [hc] at h
      obtain ⟨j, h1, h2⟩ := dIx_some (ss := ss) (ds := ds) (by simpa using hl) h
      exact ⟨j + 1, by simpa using h1, by simpa using h2⟩
def isIn (rs : List (List C)) : Prop := ∃ l : List Int, rs = l.map inR
def tdPre (N : Nat) : List S → Prop := fun av => match av with
  | [.va (.gs r), .va (.c1 (.fz ds)), .va (.gs q)] => isScF r ∧ (isIn ds ∧ ds.length = (C.sc r).ss.length ∧ ∀ d ∈ ds.map C.it, 0 ≤ d ∧ d ≤ 1000000000000) ∧ isTy q ∧ (lvT (C.ty q)).1 ≤ 1000000000 ∧ (C.ty q).h ≤ N
  | _ => False
theorem tdPre_open {N : Nat} {av : List S} (h : tdPre N av) : ∃ (s : Sc) (l : List Int) (t : Ty), av = [.va (.gs (scC s)), .va (.c1 (.fz (l.map inR))), .va (.gs (tyC t))] ∧ s.fit ∧ (l.length = s.ss.length ∧ ∀ d ∈ l, 0 ≤ d ∧ d ≤ 1000000000000) ∧ TyOk t ∧ (lvT t).1 ≤ 1000000000 ∧ t.h ≤ N := by
  unfold tdPre at h
  split at h
  · obtain ⟨⟨a, rfl, ha⟩, ⟨⟨l, rfl⟩, h1, h2⟩, ⟨b, rfl, hb⟩, h3, h4⟩ := h
    rw [ty_dec] at h3 h4
    rw [sc_dec] at h1
    rw [it_map] at h2
    exact ⟨a, l, b, rfl, ha, ⟨by simpa using h1, h2⟩, hb, h3, h4⟩
  · exact h.elim
noncomputable def tdVal : List S → A := fun av => match av with
  | [.va (.gs r), .va (.c1 (.fz ds)), .va (.gs q)] => iA .i64 (fdep (dIx (C.sc r).ss (ds.map C.it)) (C.ty q))
  | _ => .gs []
noncomputable def tdFn (N : Nat) : Fun := ⟨tdPre N, tdVal, fun av h => by obtain ⟨a, l, b, rfl, _⟩ := tdPre_open h; trivial⟩
theorem tdFn_len {N : Nat} : ∀ av H K, (tdFn N).sp av H K → av.length = 3 := fun av H K h => by obtain ⟨a, l, b, rfl, _⟩ := tdPre_open h.1.1; rfl
attribute [go_sem] tdFn tdPre tdVal
theorem lvT_cons {s : Int} {n : ByteArray} {u : Ty} {r : List Ty} : lvT (.mk 5 s n (u :: r)) = ((lvT u).1 + 1, (lvT u).2) := by simp [lvT, lvL]
theorem lvT_stop {k s : Int} {n : ByteArray} {e : List Ty} (h : (k == 5 && decide (0 < (e.length : Int))) = false) : lvT (.mk k s n e) = (0, .mk k s n e) := by
  rw [lvT]
  cases hk : k == 5 with
  | false => rfl
  | true =>
    rw [hk, Bool.true_and] at h
    have : e = [] := List.length_eq_zero_iff.1 (by simp at h; simp [h])
    subst this; rfl
theorem fdep_cons {dp : ByteArray → Int} {s : Int} {n : ByteArray} {u : Ty} {r : List Ty} : fdep dp (.mk 5 s n (u :: r)) = 1 + fdep dp u := by unfold fdep; rw [lvT_cons]; simp only; omega
set_option maxRecDepth 100000 in
set_option maxHeartbeats 4000000 in
theorem mTypeDepth' : ∀ N, Meets Try.prog 53 (tdFn N).sp
  | 0 => ⟨by kernel_rfl, by rintro xs vs E ro w K _ _ _ ⟨⟨h, _⟩, _⟩; obtain ⟨_, _, a, _, _, _, _, _, h⟩ := tdPre_open h; have := a.h_pos; omega⟩
  | N + 1 => by
    refine meets_fn Try.func53 ok53 3 (by rw [Try.ntmps53]; decide) (meetsAll_f (mTypeDepth' N) (meetsAll_nil _)) tdFn_len ?_
    rintro av H K ⟨⟨h, rfl⟩, hK⟩
    obtain ⟨sc, l, t, rfl, hs, ⟨hl, hb⟩, ht, hlv, hh⟩ := tdPre_open h
    have hK : K (iS .i64 (fdep (dIx sc.ss l) t)) [] := by
      have : (tdFn (N + 1)).val [.va (.gs (scC sc)), .va (.c1 (.fz (l.map inR))), .va (.gs (tyC t))] = iA .i64 (fdep (dIx sc.ss l) t) := by simp -dsimp only [go_sem, it_map]
      rw [this] at hK; exact hK
    clear h
    have hls := hs.ok.ls
    have fin : ∀ (b : Int) (R : Hp), fdep (dIx sc.ss l) t = b → W.Fin 0 K (iS .i64 b) R := fun b R h => by
      rw [h] at hK
      exact .sel [] (by simp) (by simp) rfl (.done (by simp -dsimp only [go_sem]; simpa using hK))
    have hsf := isScF_mk hs
    rw [scC] at hsf
    have hsd := sc_dec sc
    rw [scC] at hsd
    obtain ⟨k, s, n, e⟩ := t
    have hte := ht.e
    have hte2 := ht.len
    simp only [Ty.e] at hte hte2
    have hin : isIn (l.map inR) := ⟨l, rfl⟩
    have hr1 : ((l.map inR).length = sc.ss.length) = True := by simp [hl]
    have hr2 : (∀ d : Int, d ∈ l → 0 ≤ d ∧ d ≤ 1000000000000) = True := eq_true hb
    simp (maxSteps := 1000000) -dsimp only [go_sem, scC, tyC, tysC_map, pc53, rs53]
    cases c1 : (k == 5 && decide (0 < (e.length : Int))) with
    | true =>
      simp only [Bool.and_eq_true, beq_iff_eq, decide_eq_true_eq] at c1
      obtain ⟨rfl, c1⟩ := c1
      obtain ⟨u, r, rfl⟩ : ∃ u r, e = u :: r := by
        cases e with
        | nil => simp at c1
        | cons u r => exact ⟨u, r, rfl⟩
      rw [lvT_cons] at hlv
      have hux : (u :: r)[0]? = some u := rfl
      have q1 := row_rg (row := tyC) hux
      have hu : isTy (tyC u) := isTy_mk (hte u List.mem_cons_self)
      have huh : u.h ≤ N := by rw [Ty.h, Ty.hs] at hh; omega
      refine ⟨fun _ => ?_, fun h => by simp at h⟩
      have hul : ((lvT u).1 ≤ 1000000000) = True := eq_true (by simp only at hlv; omega)
      have huh' : (u.h ≤ N) = True := eq_true huh
      have hfb : fdep (dIx sc.ss l) u ≤ 1001000000000 ∧ 0 ≤ fdep (dIx sc.ss l) u := by
        have hd : dIx sc.ss l (lvT u).2.n ≤ 1000000000000 ∧ 0 ≤ dIx sc.ss l (lvT u).2.n := by
          cases hf : fS sc.ss (lvT u).2.n with
          | none => rw [dIx_none hf]; omega
          | some v =>
            obtain ⟨j, _, h2⟩ := dIx_some hl.symm hf
            have := hb _ (List.mem_of_getElem? h2); omega
        simp only at hlv
        unfold fdep
        cases (lvT u).2.k == 6 <;> simp only [Bool.cond_true, Bool.cond_false] <;> omega
      simp (maxSteps := 1000000) -dsimp only [go_sem, tyC_len]
      refine ⟨by omega, fun x hx => ?_⟩
      subst hx
      simp only [hsd]
      exact ⟨⟨hsf, ⟨hin, hl, hb⟩, hu, by simp only at hlv; omega, huh⟩, by omega, fin _ _ fdep_cons⟩
    | false =>
      have hst := lvT_stop (s := s) (n := n) c1
      have hfd : fdep (dIx sc.ss l) (.mk k s n e) = bif k == 6 then dIx sc.ss l n else 0 := by unfold fdep; rw [hst]; simp [Ty.k, Ty.n]
      refine ⟨fun h => by simp at h, fun _ => ?_⟩
      cases k6 : k == 6 with
      | false =>
        rw [k6, Bool.cond_false] at hfd
        refine vc_loop (α := Nat) (fun i => [(1, .va (.c1 (.fz (l.map inR)))), (3, .va (.c1 (.pt 0 0))), (5, .va (.c1 (.pt 1 0))), (7, iS .i64 i)]) (fun _ => [.cells (scC sc) 25, .cells (tyC (.mk k s n e)) 40])
          (fun i => i ≤ sc.ss.length) (fun i => sc.ss.length - i) 0 2 (Nat.zero_le _) ?_ ?_ ?_
        · simp -dsimp only [go_sem] <;> simp
        · simp -dsimp only [go_sem, scC, tyC, tysC_map] <;> simp
        intro i hi
        rcases Nat.lt_or_ge i sc.ss.length with hlt | hge
        · have hg : decide ((i : Int) < (sc.ss.length : Int)) = true := by simp; omega
          simp (maxSteps := 1000000) -dsimp only [go_sem, hg, scC, tyC, tysC_map, k6]
          and_intros
          all_goals first
            | omega
            | skip
          refine loop_next (i + 1) 2 (by omega) (by omega) ?_ ?_
          · simp -dsimp only [go_sem] <;> simp
          · simp -dsimp only [go_sem, scC, tyC, tysC_map] <;> simp
        · have hg : decide ((i : Int) < (sc.ss.length : Int)) = false := by simp; omega
          simp (maxSteps := 1000000) -dsimp only [go_sem, hg, scC, tyC, tysC_map]
          exact fin 0 _ hfd
      | true =>
        rw [k6, Bool.cond_true] at hfd
        refine vc_loop (α := Nat) (fun i => [(1, .va (.c1 (.fz (l.map inR)))), (3, .va (.c1 (.pt 0 0))), (5, .va (.c1 (.pt 1 0))), (7, iS .i64 i)]) (fun _ => [.cells (scC sc) 25, .cells (tyC (.mk k s n e)) 40])
          (fun i => i ≤ sc.ss.length ∧ dIx (sc.ss.drop i) (l.drop i) n = dIx sc.ss l n) (fun i => sc.ss.length - i) 0 2 ⟨Nat.zero_le _, rfl⟩ ?_ ?_ ?_
        · simp -dsimp only [go_sem] <;> simp
        · simp -dsimp only [go_sem, scC, tyC, tysC_map] <;> simp
        rintro i ⟨hi, ho⟩
        rcases Nat.lt_or_ge i sc.ss.length with hlt | hge
        · have hg : decide ((i : Int) < (sc.ss.length : Int)) = true := by simp; omega
          obtain ⟨t, hx⟩ : ∃ e, sc.ss[i]? = some e := ⟨_, List.getElem?_eq_getElem hlt⟩
          obtain ⟨d, hd⟩ : ∃ e, l[i]? = some e := ⟨_, List.getElem?_eq_getElem (by omega)⟩
          have q2 := row_rg' (row := stC) hx
          have q3 := row_rg' (row := inR) hd
          rw [dIx_step hx hd] at ho
          cases hc : decide (t.nm = n) with
          | true =>
            rw [hc, Bool.cond_true] at ho
            simp (maxSteps := 1000000) -dsimp only [go_sem, hg, ↓q2, ↓q3, stC, scC, tyC, tysC_map, bl_beq, hc, k6]
            and_intros
            all_goals first
              | omega
              | exact fin _ _ (by rw [hfd, ← ho])
          | false =>
            rw [hc, Bool.cond_false] at ho
            simp (maxSteps := 1000000) -dsimp only [go_sem, hg, ↓q2, stC, scC, tyC, tysC_map, bl_beq, hc, k6]
            and_intros
            all_goals first
              | omega
              | skip
            refine loop_next (i + 1) 2 ⟨by omega, ho⟩ (by omega) ?_ ?_
            · simp -dsimp only [go_sem] <;> simp
            · simp -dsimp only [go_sem, scC, tyC, tysC_map] <;> simp
        · have hg : decide ((i : Int) < (sc.ss.length : Int)) = false := by simp; omega
          obtain rfl : i = sc.ss.length := by omega
          rw [dIx_end] at ho
          simp (maxSteps := 1000000) -dsimp only [go_sem, hg, scC, tyC, tysC_map]
          exact fin 0 _ (by rw [hfd, ← ho])
def t0Pre : List S → Prop := fun av => match av with
  | [.va (.gs r), .va (.c1 (.fz ds)), .va (.gs q)] => isScF r ∧ (isIn ds ∧ ds.length = (C.sc r).ss.length ∧ ∀ d ∈ ds.map C.it, 0 ≤ d ∧ d ≤ 1000000000000) ∧ isTy q ∧ (lvT (C.ty q)).1 ≤ 1000000000
  | _ => False
theorem t0Pre_open {av : List S} (h : t0Pre av) : ∃ (s : Sc) (l : List Int) (t : Ty), av = [.va (.gs (scC s)), .va (.c1 (.fz (l.map inR))), .va (.gs (tyC t))] ∧ s.fit ∧ (l.length = s.ss.length ∧ ∀ d ∈ l, 0 ≤ d ∧ d ≤ 1000000000000) ∧ TyOk t ∧ (lvT t).1 ≤ 1000000000 := by
  unfold t0Pre at h
  split at h
  · obtain ⟨⟨a, rfl, ha⟩, ⟨⟨l, rfl⟩, h1, h2⟩, ⟨b, rfl, hb⟩, h3⟩ := h
    rw [ty_dec] at h3
    rw [sc_dec] at h1
    rw [it_map] at h2
    exact ⟨a, l, b, rfl, ha, ⟨by simpa using h1, h2⟩, hb, h3⟩
  · exact h.elim
noncomputable def t0Fn : Fun := ⟨t0Pre, tdVal, fun av h => by obtain ⟨a, l, b, rfl, _⟩ := t0Pre_open h; trivial⟩
attribute [go_sem] t0Fn t0Pre
theorem mTypeDepth : Meets Try.prog 53 t0Fn.sp := meets_all 0 mTypeDepth' fun av H K ⟨⟨h, e⟩, hK⟩ => by
  obtain ⟨a, l, b, rfl, ha, ⟨h1, h2⟩, hb, h3⟩ := t0Pre_open h
  refine ⟨b.h, ⟨⟨⟨isScF_mk ha, ⟨⟨l, rfl⟩, by rw [sc_dec]; simpa using h1, by rw [it_map]; exact h2⟩, isTy_mk hb, by rw [ty_dec]; exact h3, by rw [ty_dec]; exact Nat.le_refl _⟩, e⟩, hK⟩⟩
end Go.Proofs.Ytpfmkfafagiicaa
namespace Go.Proofs.Ytpfmkfafagiicaa
open Go.W
theorem maxF_mono {dp dq : ByteArray → Int} {l : List Fl} (h : ∀ f ∈ l, fdep dp f.ty ≤ fdep dq f.ty) : maxF dp l ≤ maxF dq l := maxF_le (maxF_nonneg _ _) fun f hf => Int.le_trans (h f hf) (maxF_ge hf)
structure DI (ss : List St) (r i : Nat) (d : List Int) : Prop where
  len : d.length = ss.length
  lo : ∀ (j : Nat) (t : St) (v : Int), ss[j]? = some t → d[j]? = some v → 0 ≤ v ∧ v ≤ dD ss t.nm ∧ (rank ss t.nm < r → v = dD ss t.nm) ∧ (j < i → rank ss t.nm < r + 1 → v = dD ss t.nm)
theorem DI.ix {ss : List St} {es : List En} (_g : Gd ss es) {r i : Nat} {d : List Int} (h : DI ss r i d) (n : ByteArray) : 0 ≤ dIx ss d n ∧ dIx ss d n ≤ dD ss n ∧ ((fS ss n).isSome = true → rank ss n < r → dIx ss d n = dD ss n) := by
  cases hf : fS ss n with
  | none =>
    rw [dIx_none hf]
    exact ⟨Int.le_refl _, dD_lo ss n, fun h => by simp at h⟩
  | some u =>
    obtain ⟨j, h1, h2⟩ := dIx_some h.len.symm hf
    obtain ⟨a1, a2, a3, _⟩ := h.lo j u _ h1 h2
    obtain ⟨_, rfl⟩ := fS_mem hf
    exact ⟨a1, a2, fun _ h => a3 h⟩
theorem DI.all {ss : List St} {es : List En} (g : Gd ss es) {r i : Nat} {d : List Int} (h : DI ss r i d) : ∀ v ∈ d, 0 ≤ v ∧ v ≤ 1000000000000 := fun v hv => by
  obtain ⟨j, hj⟩ := List.mem_iff_getElem?.1 hv
  have hl := (List.getElem?_eq_some_iff.1 hj).1
  obtain ⟨t, ht⟩ : ∃ t, ss[j]? = some t := ⟨_, List.getElem?_eq_getElem (by have := h.len; omega)⟩
  obtain ⟨h1, h2, _⟩ := h.lo j t v ht hj
  have := dD_hi g t.nm
  omega
theorem DI.fd {ss : List St} {es : List En} (g : Gd ss es) {r i : Nat} {d : List Int} (h : DI ss r i d) (t : Ty) : fdep (dIx ss d) t ≤ fdep (dD ss) t := by
  unfold fdep
  have := h.ix g (lvT t).2.n
  cases (lvT t).2.k == 6 <;> simp only [Bool.cond_true, Bool.cond_false] <;> omega
theorem DI.set {ss : List St} {es : List En} (g : Gd ss es) (ha : Acy ss) {r i : Nat} {d : List Int} (h : DI ss r i d) {t : St} (ht : ss[i]? = some t) : DI ss r (i + 1) (d.set i (1 + maxF (dIx ss d) t.fs)) := by
  have htm := List.mem_of_getElem? ht
  have hD := dD_eq g ha (g.nd t htm)
  have hle : maxF (dIx ss d) t.fs ≤ maxF (dD ss) t.fs := maxF_mono fun f _ => h.fd g f.ty
  have heq : rank ss t.nm < r + 1 → maxF (dIx ss d) t.fs = maxF (dD ss) t.fs := fun hr => maxF_congr fun f hf => by
    unfold fdep
    cases hk : (lvT f.ty).2.k == 6 with
    | false => rfl
    | true =>
      obtain ⟨h1, u, h2⟩ := str_ref g (g.nd t htm) hf hk
      have h3 := rank_lt h1 h2 ha
      rw [(h.ix g _).2.2 (by rw [h2]; rfl) (by omega)]
  have hn := maxF_nonneg (dIx ss d) t.fs
  refine ⟨by rw [List.length_set]; exact h.len, fun j u v hu hv => ?_⟩
  rw [List.getElem?_set] at hv
  by_cases e : i = j
  · subst e
    rw [ht] at hu; obtain rfl := Option.some.inj hu
    have hlt : i < d.length := by have := h.len; have := (List.getElem?_eq_some_iff.1 ht).1; omega
    simp [hlt] at hv
    subst hv
    exact ⟨by omega, by omega, fun hr => by rw [heq (by omega)]; omega, fun _ hr => by rw [heq hr]; omega⟩
  · rw [if_neg e] at hv
    obtain ⟨a1, a2, a3, a4⟩ := h.lo j u v hu hv
    exact ⟨a1, a2, a3, fun hj hr => a4 (by omega) hr⟩
theorem DI.up {ss : List St} {r : Nat} {d : List Int} (h : DI ss r ss.length d) : DI ss (r + 1) 0 d := ⟨h.len, fun j t v ht hv => by
  obtain ⟨a1, a2, _, a4⟩ := h.lo j t v ht hv
  exact ⟨a1, a2, fun hr => a4 (List.getElem?_eq_some_iff.1 ht).1 hr, fun h => absurd h (Nat.not_lt_zero _)⟩⟩
theorem DI.fin {ss : List St} {d : List Int} (h : DI ss (ss.length + 1) 0 d) : d = ss.map fun t => dD ss t.nm := by
  refine List.ext_getElem? fun j => ?_
  rw [List.getElem?_map]
  cases ht : ss[j]? with
  | none =>
    rw [List.getElem?_eq_none_iff] at ht
    rw [List.getElem?_eq_none (by rw [h.len]; exact ht)]; rfl
  | some t =>
    obtain ⟨v, hv⟩ : ∃ v, d[j]? = some v := ⟨_, List.getElem?_eq_getElem (by rw [h.len]; exact (List.getElem?_eq_some_iff.1 ht).1)⟩
    obtain ⟨_, _, a3, _⟩ := h.lo j t v ht hv
    rw [hv, a3 (Nat.lt_succ_of_le (rank_le _ _))]; rfl
theorem DI.init (ss : List St) : DI ss 0 0 (List.replicate ss.length 0) := ⟨by simp, fun j t v ht hv => by
  have : v = 0 := by
    have := List.mem_of_getElem? hv
    exact (List.mem_replicate.1 this).2
  subst this
  exact ⟨Int.le_refl _, dD_lo _ _, fun h => absurd h (Nat.not_lt_zero _), fun h => absurd h (Nat.not_lt_zero _)⟩⟩
def dsSp : W.Spec := fun av H K => ∃ s : Sc, av = [.va (.gs (scC s))] ∧ H = [] ∧ s.fit ∧ Gd s.ss s.es ∧ Acy s.ss ∧ K (.va (.c1 (.fz ((s.ss.map fun t => dD s.ss t.nm).map inR)))) []
theorem ds_use {s : Sc} {K : S → Hp → Prop} (h : s.fit) (g : Gd s.ss s.es) (ha : Acy s.ss) (hK : K (.va (.c1 (.fz ((s.ss.map fun t => dD s.ss t.nm).map inR)))) []) : dsSp [.va (.gs (scC s))] [] K := ⟨s, rfl, rfl, h, g, ha, hK⟩
theorem gF_take {D : ByteArray → Int} {l : List Fl} {i : Nat} {f : Fl} (hx : l[i]? = some f) : (l.take (i + 1)).foldl (gF D) 0 = max ((l.take i).foldl (gF D) 0) (fdep D f.ty) := by
  rw [take_next hx, List.foldl_append]; rfl
set_option maxRecDepth 100000 in
set_option maxHeartbeats 4000000 in
theorem mDepths : Meets Try.prog 49 dsSp := by
  refine meets_fn Try.func49 ok49 1 (by rw [Try.ntmps49]; decide) (meetsAll_f mTypeDepth (meetsAll_nil _)) (fun av H K h => by obtain ⟨_, rfl, _⟩ := h; rfl) ?_
  rintro av H K ⟨s, rfl, rfl, hs, g, ha, hK⟩
  have hls := g.n
  simp (maxSteps := 1000000) -dsimp only [go_sem, scC, pc49, rs49]
  refine ⟨⟨by omega, by omega, by omega⟩, fun h0 => ?_, fun h0 => ?_⟩
  · have hnil : s.ss = [] := List.length_eq_zero_iff.1 (by omega)
    have hlen : s.ss.length = 0 := by omega
    rw [hnil] at hK
    refine vc_loop (α := Nat) (fun i => [(1, .va (.c1 (.pt 0 0))), (3, .va (.c1 (.fz []))), (4, iS .i64 i)]) (fun _ => [.cells (scC s) 25])
      (fun i => i ≤ 1) (fun i => 1 - i) 0 1 (Nat.zero_le _) ?_ ?_ ?_
    · simp -dsimp only [go_sem] <;> simp
    · simp -dsimp only [go_sem, scC] <;> simp
    intro i hi
    rcases Nat.eq_zero_or_pos i with h1 | h1
    · have hg : decide ((i : Int) ≤ (s.ss.length : Int)) = true := by simp; omega
      simp (maxSteps := 1000000) -dsimp only [go_sem, hg, scC]
      refine vc_loop (α := Unit) (fun _ => [(1, .va (.c1 (.pt 0 0))), (3, .va (.c1 (.fz []))), (4, iS .i64 i), (5, iS .i64 0)]) (fun _ => [.cells (scC s) 25])
        (fun _ => True) (fun _ => 0) () 1 trivial ?_ ?_ ?_
      · simp -dsimp only [go_sem] <;> simp
      · simp -dsimp only [go_sem, scC] <;> simp
      intro _ _
      have hg : decide ((0 : Int) < (s.ss.length : Int)) = false := by simp; omega
      simp (maxSteps := 1000000) -dsimp only [go_sem, hg, scC]
      refine ⟨by omega, loop_next (i + 1) 1 (by omega) (by omega) ?_ ?_⟩
      · simp -dsimp only [go_sem] <;> simp
      · simp -dsimp only [go_sem, scC] <;> simp
    · have hg : decide ((i : Int) ≤ (s.ss.length : Int)) = false := by simp; omega
      simp (maxSteps := 1000000) -dsimp only [go_sem, hg, scC]
      exact .sel [] (by simp) (by simp) rfl (.done (by simpa [go_sem] using hK))
  · have hsf := isScF_mk hs
    rw [scC] at hsf
    have hsd := sc_dec s
    rw [scC] at hsd
    refine vc_loop (α := Nat × List Int) (fun z => [(1, .va (.c1 (.pt 0 0))), (3, .va (.c1 (.sl 1 s.ss.length))), (4, iS .i64 z.1)]) (fun z => [.cells (scC s) 25, .row (z.2.map inR) 3 1])
      (fun z => z.1 ≤ s.ss.length + 1 ∧ DI s.ss z.1 0 z.2) (fun z => s.ss.length + 1 - z.1) (0, List.replicate s.ss.length 0) 2 ⟨Nat.zero_le _, DI.init _⟩ ?_ ?_ ?_
    · simp -dsimp only [go_sem] <;> simp
    · simp -dsimp only [go_sem, scC] <;> simp
    rintro ⟨r, d⟩ ⟨hr, hd⟩
    simp only at hr hd ⊢
    rcases Nat.lt_or_ge r (s.ss.length + 1) with hlt | hge
    · have hg : decide ((r : Int) ≤ (s.ss.length : Int)) = true := by simp; omega
      simp (maxSteps := 1000000) -dsimp only [go_sem, hg, scC]
      refine vc_loop (α := Nat × List Int) (fun z => [(1, .va (.c1 (.pt 0 0))), (3, .va (.c1 (.sl 1 s.ss.length))), (4, iS .i64 r), (5, iS .i64 z.1)]) (fun z => [.cells (scC s) 25, .row (z.2.map inR) 3 1])
        (fun z => z.1 ≤ s.ss.length ∧ DI s.ss r z.1 z.2) (fun z => s.ss.length - z.1) (0, d) 2 ⟨Nat.zero_le _, hd⟩ ?_ ?_ ?_
      · simp -dsimp only [go_sem] <;> simp
      · simp -dsimp only [go_sem, scC] <;> simp
      clear hd hg
      rintro ⟨i, d⟩ ⟨hi, hd⟩
      simp only at hi hd ⊢
      rcases Nat.lt_or_ge i s.ss.length with hit | hig
      · have hg : decide ((i : Int) < (s.ss.length : Int)) = true := by simp; omega
        obtain ⟨t, hx⟩ : ∃ e, s.ss[i]? = some e := ⟨_, List.getElem?_eq_getElem hit⟩
        have htm := List.mem_of_getElem? hx
        obtain ⟨_, htl, hfs⟩ := hs.ok.ss t htm
        have q1 := row_rg' (row := stC) hx
        have hset := hd.set g ha hx
        have hmx : maxF (dIx s.ss d) t.fs ≤ 1000000000000 := by
          have h1 := maxF_mono (l := t.fs) fun f _ => hd.fd g f.ty
          have h2 := dD_eq g ha (g.nd t htm)
          have h3 := dD_hi g t.nm
          omega
        simp (maxSteps := 1000000) -dsimp only [go_sem, hg, scC]
        refine vc_loop (α := Nat) (fun k => [(1, .va (.c1 (.pt 0 0))), (3, .va (.c1 (.sl 1 s.ss.length))), (4, iS .i64 r), (5, iS .i64 i), (6, iS .i64 ((t.fs.take k).foldl (gF (dIx s.ss d)) 0)), (7, iS .i64 k)]) (fun _ => [.cells (scC s) 25, .row (d.map inR) 3 1])
          (fun k => k ≤ t.fs.length) (fun k => t.fs.length - k) 0 2 (Nat.zero_le _) ?_ ?_ ?_
        · simp -dsimp only [go_sem] <;> simp
        · simp -dsimp only [go_sem, scC] <;> simp
        intro k hk
        rcases Nat.lt_or_ge k t.fs.length with hkt | hkg
        · have hg : decide ((k : Int) < (t.fs.length : Int)) = true := by simp; omega
          obtain ⟨f, hf⟩ : ∃ e, t.fs[k]? = some e := ⟨_, List.getElem?_eq_getElem hkt⟩
          have hfm := List.mem_of_getElem? hf
          have q2 := row_rg' (row := flC) hf
          have hity : isTy (tyC f.ty) := isTy_mk (hfs f hfm).ty
          have hlv : ((lvT f.ty).1 ≤ 1000000000) = True := eq_true (g.lv t htm f hfm)
          have hin : isIn (d.map inR) := ⟨d, rfl⟩
          have hdl : d.length = s.ss.length := hd.len
          have hall : (∀ v : Int, v ∈ d → 0 ≤ v ∧ v ≤ 1000000000000) = True := eq_true (hd.all g)
          simp (maxSteps := 1000000) -dsimp only [go_sem, hg, ↓q1, stC, scC]
          simp (maxSteps := 1000000) -dsimp only [go_sem, flC, fl_ty, hsf, hsd, hity, hlv, hin, hall, hdl, hf, Option.some.injEq, forall_eq']
          refine ⟨by omega, by omega, by omega, by omega, loop_next (k + 1) 2 (by omega) (by omega) ?_ ?_⟩
          · simp -dsimp only [go_sem, gF_take hf] <;> simp
          · simp -dsimp only [go_sem, scC] <;> simp
        · have hg : decide ((k : Int) < (t.fs.length : Int)) = false := by simp; omega
          obtain rfl : k = t.fs.length := by omega
          have hmx2 : t.fs.foldl (gF (dIx s.ss d)) 0 = maxF (dIx s.ss d) t.fs := rfl
          rw [List.take_length, hmx2]
          have hn0 := maxF_nonneg (dIx s.ss d) t.fs
          have hdl : d.length = s.ss.length := hd.len
          obtain ⟨v0, hv0⟩ : ∃ e, d[i]? = some e := ⟨_, List.getElem?_eq_getElem (by omega)⟩
          simp (maxSteps := 1000000) -dsimp only [go_sem, hg, ↓q1, stC, scC]
          simp (maxSteps := 1000000) -dsimp only [go_sem, hv0, Option.some.injEq, forall_eq']
          refine ⟨by omega, by omega, ⟨by omega, hdl⟩, ⟨hdl, by omega⟩, by omega, loop_next (i + 1, d.set i (1 + maxF (dIx s.ss d) t.fs)) 2 ⟨by simp only; omega, hset⟩ (by simp only; omega) ?_ ?_⟩
          · simp -dsimp only [go_sem] <;> simp
          · simp -dsimp only [go_sem, scC] <;> simp [List.map_set]
      · have hg : decide ((i : Int) < (s.ss.length : Int)) = false := by simp; omega
        obtain rfl : i = s.ss.length := by omega
        simp (maxSteps := 1000000) -dsimp only [go_sem, hg, scC]
        refine ⟨by omega, loop_next (r + 1, d) 2 ⟨by simp only; omega, hd.up⟩ (by simp only; omega) ?_ ?_⟩
        · simp -dsimp only [go_sem] <;> simp
        · simp -dsimp only [go_sem, scC] <;> simp
    · have hg : decide ((r : Int) ≤ (s.ss.length : Int)) = false := by simp; omega
      obtain rfl : r = s.ss.length + 1 := by omega
      have hfin := hd.fin
      rw [← hfin] at hK
      simp (maxSteps := 1000000) -dsimp only [go_sem, hg, scC]
      have e1 : s.ss.length = (d.map inR).length := by rw [List.length_map]; exact hd.len.symm
      rw [e1]
      refine .pub 1 _ _ _ rfl (.sel [] (by simp) (by simp [pubH]) rfl (.done ?_))
      simp -dsimp only [go_sem, pubH]
      simpa using hK
end Go.Proofs.Ytpfmkfafagiicaa
namespace Go.Proofs.Ytpfmkfafagiicaa
open Go.W
set_option maxRecDepth 100000 in
set_option maxHeartbeats 4000000 in
theorem mRCheck : Meets Try.prog 13 ckFn.sp := by
  refine meets_fn Try.func13 ok13 1 (by rw [Try.ntmps13]; decide) (meetsAll_f mRLong (meetsAll_f mREnumE (meetsAll_f mRStructE (meetsAll_s mUsed (meetsAll_f mRIn (meetsAll_s mDepths (meetsAll_nil _))))))) gFn_len ?_
  rintro av H K ⟨⟨h, rfl⟩, hK⟩
  obtain ⟨_, rfl, s, rfl, hs⟩ := gPre_open h
  have hK : K (iS .i64 (checkF s)) [] := by
    have : ckFn.val [.va (.gs (scC s))] = iA .i64 (checkF s) := by simp -dsimp only [go_sem]
    rw [this] at hK; exact hK
  clear h
  have hfit := hs
  have hsc : isSc (scC s) := isSc_mk hs.ok
  have hsf : isScF (scC s) := isScF_mk hs
  obtain ⟨⟨hv, hle, hls, hes, hss⟩, hlv, _, _⟩ := hs
  have fin : ∀ (x : Int) (R : Hp), checkF s = x → W.Fin 0 K (iS .i64 x) R := fun x R h1 => by
    rw [h1] at hK
    exact .sel [] (by simp) (by simp) rfl (.done (by simpa [go_sem] using hK))
  have hsc' := hsc
  have hsf' := hsf
  simp only [scC] at hsc' hsf'
  have hdec : C.sc [.vl (.int .i64 s.ver), .fz (s.es.map enC), .fz (s.ss.map stC)] = s := sc_dec s
  simp (maxSteps := 1000000) -dsimp only [go_sem, scC, pc13, rs13, hsc', hdec]
  refine ⟨fun h1 => fin 4 _ (by unfold checkF; rw [h1]; rfl), fun c1 => ⟨fun h1 => fin 3 _ (by unfold checkF; rw [c1, h1]; rfl), fun c2 => ?_⟩⟩
  have hF : checkF s = bif enF s != 0 then enF s else bif stF s != 0 then stF s else nestF s.ss := by unfold checkF; rw [c1, c2]; rfl
  refine vc_loop (α := Nat) (fun i => [(1, .va (.c1 (.pt 0 0))), (3, iS .i64 i)]) (fun _ => [.cells (scC s) 25])
    (fun i => i ≤ s.es.length ∧ fE (enAt s) (s.es.length - i) i = enF s) (fun i => s.es.length - i) 0 1 ⟨Nat.zero_le _, rfl⟩ ?_ ?_ ?_
  · simp -dsimp only [go_sem] <;> simp
  · simp -dsimp only [go_sem, scC] <;> simp
  rintro i ⟨hi, ho⟩
  rcases Nat.lt_or_ge i s.es.length with hlt | hge
  · have hg : decide ((i : Int) < (s.es.length : Int)) = true := by simp; omega
    have fin' : ∀ (x : Int) (R : Hp), enAt s i = x → x ≠ 0 → W.Fin 0 K (iS .i64 x) R := fun x R h1 h2 => fin x R (by
      rw [hF, ← ho, fE_err hlt (by rw [h1]; exact h2), h1]; exact cond_err h2)
    have nxt : enAt s i = 0 → fE (enAt s) (s.es.length - (i + 1)) (i + 1) = enF s := fun h1 => by rw [← ho, fE_ok hlt h1]
    simp (maxSteps := 1000000) -dsimp only [go_sem, hg, scC, hsf', hdec, Int.toNat_natCast]
    refine ⟨⟨by omega, by omega⟩, fun h1 => fin' _ _ rfl (by simpa using h1), fun h1 => ?_⟩
    refine ⟨by omega, loop_next (i + 1) 1 ⟨by omega, nxt (by simpa using h1)⟩ (by omega) ?_ ?_⟩
    · simp -dsimp only [go_sem] <;> simp
    · simp -dsimp only [go_sem, scC] <;> simp
  · have hg : decide ((i : Int) < (s.es.length : Int)) = false := by simp; omega
    obtain rfl : i = s.es.length := by omega
    rw [fE_end] at ho
    rw [cond_ok ho.symm] at hF
    simp (maxSteps := 1000000) -dsimp only [go_sem, hg, scC]
    clear hi hge hg ho
    refine vc_loop (α := Nat) (fun i => [(1, .va (.c1 (.pt 0 0))), (5, iS .i64 i)]) (fun _ => [.cells (scC s) 25])
      (fun i => i ≤ s.ss.length ∧ fE (stAt s) (s.ss.length - i) i = stF s) (fun i => s.ss.length - i) 0 1 ⟨Nat.zero_le _, rfl⟩ ?_ ?_ ?_
    · simp -dsimp only [go_sem] <;> simp
    · simp -dsimp only [go_sem, scC] <;> simp
    rintro i ⟨hi, ho⟩
    rcases Nat.lt_or_ge i s.ss.length with hlt | hge
    · have hg : decide ((i : Int) < (s.ss.length : Int)) = true := by simp; omega
      have fin' : ∀ (x : Int) (R : Hp), stAt s i = x → x ≠ 0 → W.Fin 0 K (iS .i64 x) R := fun x R h1 h2 => fin x R (by
        rw [hF, ← ho, fE_err hlt (by rw [h1]; exact h2), h1]; exact cond_err h2)
      have nxt : stAt s i = 0 → fE (stAt s) (s.ss.length - (i + 1)) (i + 1) = stF s := fun h1 => by rw [← ho, fE_ok hlt h1]
      simp (maxSteps := 1000000) -dsimp only [go_sem, hg, scC, hsf', hdec, Int.toNat_natCast]
      refine ⟨⟨by omega, by omega⟩, fun h1 => fin' _ _ rfl (by simpa using h1), fun h1 => ?_⟩
      refine ⟨by omega, loop_next (i + 1) 1 ⟨by omega, nxt (by simpa using h1)⟩ (by omega) ?_ ?_⟩
      · simp -dsimp only [go_sem] <;> simp
      · simp -dsimp only [go_sem, scC] <;> simp
    · have hg : decide ((i : Int) < (s.ss.length : Int)) = false := by simp; omega
      obtain rfl : i = s.ss.length := by omega
      rw [fE_end] at ho
      rw [cond_ok ho.symm] at hF
      have g := good_of hfit c2 ho.symm
      simp (maxSteps := 1000000) -dsimp only [go_sem, hg, scC]
      clear hi hge hg ho
      refine vc_loop (α := Nat) (fun i => [(1, .va (.c1 (.pt 0 0))), (7, iS .i64 i)]) (fun _ => [.cells (scC s) 25])
        (fun i => i ≤ s.ss.length ∧ (s.ss.drop i).any (fun t => inB (usesF s.ss t.nm) t.nm) = s.ss.any (fun t => inB (usesF s.ss t.nm) t.nm)) (fun i => s.ss.length - i) 0 1 ⟨Nat.zero_le _, rfl⟩ ?_ ?_ ?_
      · simp -dsimp only [go_sem] <;> simp
      · simp -dsimp only [go_sem, scC] <;> simp
      rintro i ⟨hi, ho⟩
      rcases Nat.lt_or_ge i s.ss.length with hlt | hge
      · have hg : decide ((i : Int) < (s.ss.length : Int)) = true := by simp; omega
        obtain ⟨t, hx⟩ : ∃ t, s.ss[i]? = some t := ⟨_, List.getElem?_eq_getElem hlt⟩
        have q1 := row_rg' (row := stC) hx
        rw [any_step hx] at ho
        have hv := g.vlen t.nm
        have hul := usesF_len s.ss t.nm
        have hbs : isBs ((usesF s.ss t.nm).map stR) := isBs_mk (by rw [usesF_len]; omega)
        have e0 : (0 ≤ ((usesF s.ss t.nm).length : Int)) = True := by simp
        have e1 : (((usesF s.ss t.nm).length : Int) ≤ 9223372036854775807) = True := by rw [hul]; exact eq_true (by omega)
        have hto : (usesF s.ss t.nm).take (usesF s.ss t.nm).length = usesF s.ss t.nm := List.take_length
        simp (maxSteps := 1000000) -dsimp only [go_sem, hg, ↓q1, stC, scC]
        refine ⟨by omega, ud_use hfit g ?_⟩
        simp (maxSteps := 1000000) -dsimp only [go_sem, hbs, e0, e1, Int.toNat_natCast, hto]
        refine ⟨by omega, fun hc => ?_, fun hc => ?_⟩
        · rw [hc, Bool.true_or] at ho
          exact fin 19 _ (by rw [hF]; unfold nestF; rw [← ho]; rfl)
        · rw [hc, Bool.false_or] at ho
          refine ⟨by omega, loop_next (i + 1) 1 ⟨by omega, ho⟩ (by omega) ?_ ?_⟩
          · simp -dsimp only [go_sem] <;> simp
          · simp -dsimp only [go_sem, scC] <;> simp
      · have hg : decide ((i : Int) < (s.ss.length : Int)) = false := by simp; omega
        obtain rfl : i = s.ss.length := by omega
        rw [any_end] at ho
        have ha : Acy s.ss := fun t ht => any_false ho.symm t ht
        have hF2 : checkF s = bif s.ss.any (fun t => decide (6 < dD s.ss t.nm)) then 9 else 0 := by rw [hF]; unfold nestF; rw [← ho]; rfl
        simp (maxSteps := 1000000) -dsimp only [go_sem, hg, scC]
        refine ds_use hfit g ha ?_
        simp (maxSteps := 1000000) -dsimp only [go_sem]
        clear hi hge hg ho
        refine vc_loop (α := Nat) (fun i => [(9, .va (.c1 (.fz ((s.ss.map fun t => dD s.ss t.nm).map inR)))), (10, iS .i64 i)]) (fun _ => [.cells (scC s) 25])
          (fun i => i ≤ s.ss.length ∧ (s.ss.drop i).any (fun t => decide (6 < dD s.ss t.nm)) = s.ss.any (fun t => decide (6 < dD s.ss t.nm))) (fun i => s.ss.length - i) 0 1 ⟨Nat.zero_le _, rfl⟩ ?_ ?_ ?_
        · simp -dsimp only [go_sem] <;> simp
        · simp -dsimp only [go_sem, scC] <;> simp
        rintro i ⟨hi, ho⟩
        rcases Nat.lt_or_ge i s.ss.length with hlt | hge
        · have hg : decide ((i : Int) < (s.ss.length : Int)) = true := by simp; omega
          obtain ⟨t, hx⟩ : ∃ t, s.ss[i]? = some t := ⟨_, List.getElem?_eq_getElem hlt⟩
          have hd : (s.ss.map fun t => dD s.ss t.nm)[i]? = some (dD s.ss t.nm) := by rw [List.getElem?_map, hx]; rfl
          have q1 := row_rg' (row := inR) hd
          have hml : (s.ss.map fun t => dD s.ss t.nm).length = s.ss.length := by simp
          rw [any_step hx] at ho
          generalize (s.ss.map fun t => dD s.ss t.nm) = ds at *
          simp (maxSteps := 1000000) -dsimp only [go_sem, hml, hg, ↓q1, scC]
          refine ⟨by omega, fun hc => ?_, fun hc => ?_⟩
          · rw [hc, Bool.true_or] at ho
            exact fin 9 _ (by rw [hF2, ← ho]; rfl)
          · rw [hc, Bool.false_or] at ho
            refine ⟨by omega, loop_next (i + 1) 1 ⟨by omega, ho⟩ (by omega) ?_ ?_⟩
            · simp -dsimp only [go_sem] <;> simp
            · simp -dsimp only [go_sem, scC] <;> simp
        · have hg : decide ((i : Int) < (s.ss.length : Int)) = false := by simp; omega
          obtain rfl : i = s.ss.length := by omega
          rw [any_end] at ho
          have hml : (s.ss.map fun t => dD s.ss t.nm).length = s.ss.length := by simp
          generalize (s.ss.map fun t => dD s.ss t.nm) = ds at *
          simp (maxSteps := 1000000) -dsimp only [go_sem, hml, hg, scC]
          exact fin 0 _ (by rw [hF2, ← ho]; rfl)
end Go.Proofs.Ytpfmkfafagiicaa
namespace Go.Proofs.Ytpfmkfafagiicaa
open Go.W
theorem okS_true {s : Sc} {n : ByteArray} (h : okS s n = true) : checkF s = 0 ∧ hasS s.ss n = true := by unfold okS at h; simpa using h
theorem hasS_some {ss : List St} {n : ByteArray} (h : hasS ss n = true) : ∃ t, fS ss n = some t := by
  rw [← fS_has] at h; exact Option.isSome_iff_exists.1 h
end Go.Proofs.Ytpfmkfafagiicaa
namespace Go.Proofs.Ytpfmkfafagiicaa
open Go.W
def levF : Nat → Ty → Nat
  | 0, _ => 0
  | N + 1, t => t.e.foldl (fun m u => max m (1 + levF N u)) 0
abbrev lF (N : Nat) : Nat → Ty → Nat := fun m u => max m (1 + levF N u)
theorem lF_ge (N : Nat) : ∀ (l : List Ty) (m : Nat), m ≤ l.foldl (lF N) m
  | [], _ => Nat.le_refl _
  | u :: l, m => Nat.le_trans (Nat.le_max_left _ _) (lF_ge N l (max m (1 + levF N u)))
theorem lF_mem {N : Nat} {l : List Ty} {u : Ty} (h : u ∈ l) : ∀ m, 1 + levF N u ≤ l.foldl (lF N) m := by
  induction l with
  | nil => cases h
  | cons v l ih =>
    intro m
    rcases List.mem_cons.1 h with rfl | h
    · exact Nat.le_trans (Nat.le_max_right m _) (lF_ge N l _)
    · exact ih h _
theorem lF_le {N B : Nat} {l : List Ty} (h : ∀ u ∈ l, 1 + levF N u ≤ B) : ∀ m, m ≤ B → l.foldl (lF N) m ≤ B := by
  induction l with
  | nil => exact fun _ h => h
  | cons v l ih => exact fun m hm => ih (fun u hu => h u (List.mem_cons_of_mem _ hu)) _ (Nat.max_le.2 ⟨hm, h v List.mem_cons_self⟩)
theorem levF_le : ∀ (N : Nat) (t : Ty), levF N t ≤ N
  | 0, _ => Nat.le_refl _
  | N + 1, t => lF_le (fun u _ => by have := levF_le N u; omega) 0 (Nat.zero_le _)
theorem lev_h : ∀ (N : Nat) (t : Ty), levF N t < N → t.h ≤ levF N t + 1
  | 0, _, h => absurd h (Nat.not_lt_zero _)
  | N + 1, .mk k s n e, h => by
    have hu : ∀ u ∈ e, u.h ≤ levF (N + 1) (.mk k s n e) := fun u hu => by
      have h1 : 1 + levF N u ≤ levF (N + 1) (.mk k s n e) := lF_mem (N := N) (l := e) hu 0
      have := lev_h N u (by omega)
      omega
    rw [Ty.h]
    have : ∀ (l : List Ty), (∀ u ∈ l, u.h ≤ levF (N + 1) (.mk k s n e)) → Ty.hs l ≤ levF (N + 1) (.mk k s n e) := by
      intro l
      induction l with
      | nil => exact fun _ => Nat.zero_le _
      | cons v l ih =>
        intro h
        rw [Ty.hs]
        exact Nat.max_le.2 ⟨h v List.mem_cons_self, ih fun u hu => h u (List.mem_cons_of_mem _ hu)⟩
    have := this e hu
    omega
theorem levF_gF {N : Nat} {l : List Ty} {i : Nat} {u : Ty} (hx : l[i]? = some u) : (l.take (i + 1)).foldl (lF N) 0 = max ((l.take i).foldl (lF N) 0) (1 + levF N u) := by
  rw [take_next hx, List.foldl_append]; rfl
def lePre (N : Nat) : List S → Prop := fun av => match av with
  | [.va (.gs q), .va (.c1 (.vl (.int .i64 k)))] => isTy q ∧ k = (N : Int) ∧ N ≤ 1000
  | _ => False
theorem lePre_open {N : Nat} {av : List S} (h : lePre N av) : ∃ t : Ty, av = [.va (.gs (tyC t)), iS .i64 N] ∧ TyOk t ∧ N ≤ 1000 := by
  unfold lePre at h
  split at h
  · obtain ⟨⟨t, rfl, ht⟩, rfl, h⟩ := h
    exact ⟨t, rfl, ht, h⟩
  · exact h.elim
noncomputable def leVal (N : Nat) : List S → A := fun av => match av with
  | [.va (.gs q), .va (.c1 (.vl (.int .i64 _)))] => iA .i64 (levF N (C.ty q))
  | _ => .gs []
noncomputable def leFn (N : Nat) : Fun := ⟨lePre N, leVal N, fun av h => by obtain ⟨a, rfl, _⟩ := lePre_open h; trivial⟩
theorem leFn_len {N : Nat} : ∀ av H K, (leFn N).sp av H K → av.length = 2 := fun av H K h => by obtain ⟨a, rfl, _⟩ := lePre_open h.1.1; rfl
attribute [go_sem] leFn lePre leVal
set_option maxRecDepth 100000 in
set_option maxHeartbeats 1000000 in
theorem mLevel0 : Meets Try.prog 55 (leFn 0).sp := by
  refine meets_fn Try.func55 ok55 2 (by rw [Try.ntmps55]; decide) (meetsAll_nil _) leFn_len ?_
  rintro av H K ⟨⟨h, rfl⟩, hK⟩
  obtain ⟨t, rfl, ht, hN⟩ := lePre_open h
  have hK : K (iS .i64 0) [] := by
    have : (leFn 0).val [.va (.gs (tyC t)), iS .i64 ((0 : Nat) : Int)] = iA .i64 0 := by simp -dsimp only [go_sem]; rfl
    rw [this] at hK; exact hK
  clear h
  obtain ⟨k, s, n, e⟩ := t
  simp (maxSteps := 1000000) -dsimp only [go_sem, tyC, tysC_map, pc55, rs55]
  refine vc_loop (α := Unit) (fun i => [(1, iS .i64 0), (2, .va (.c1 (.pt 0 0))), (5, iS .i64 0), (6, iS .i64 0)]) (fun _ => [.cells (tyC (.mk k s n e)) 40])
    (fun i => True) (fun i => 0) () 1 trivial ?_ ?_ ?_
  · simp -dsimp only [go_sem]
    simp
  · simp -dsimp only [go_sem, tyC, tysC_map]
  intro _ _
  have hg2 : decide ((0 : Int) < 0) = false := rfl
  cases hg : decide ((0 : Int) < (e.length : Int)) with
  | true =>
    simp (maxSteps := 1000000) -dsimp only [go_sem, hg, hg2, tyC, tysC_map]
    exact .sel [] (by simp) (by simp) rfl (.done (by simp -dsimp only [go_sem]; exact hK))
  | false =>
    simp (maxSteps := 1000000) -dsimp only [go_sem, hg, hg2, tyC, tysC_map]
    exact .sel [] (by simp) (by simp) rfl (.done (by simp -dsimp only [go_sem]; exact hK))
set_option maxRecDepth 100000 in
set_option maxHeartbeats 1000000 in
theorem mLevel : ∀ N, Meets Try.prog 55 (leFn N).sp
  | 0 => mLevel0
  | N + 1 => by
    refine meets_fn Try.func55 ok55 2 (by rw [Try.ntmps55]; decide) (meetsAll_f (mLevel N) (meetsAll_nil _)) leFn_len ?_
    rintro av H K ⟨⟨h, rfl⟩, hK⟩
    obtain ⟨t, rfl, ht, hN⟩ := lePre_open h
    have hK : K (iS .i64 (levF (N + 1) t)) [] := by
      have : (leFn (N + 1)).val [.va (.gs (tyC t)), iS .i64 ((N + 1 : Nat) : Int)] = iA .i64 (levF (N + 1) t) := by simp -dsimp only [go_sem]
      rw [this] at hK; exact hK
    clear h
    obtain ⟨k, s, n, e⟩ := t
    have hte := ht.e
    have hte2 := ht.len
    simp only [Ty.e] at hte hte2
    have hK : K (iS .i64 ((e.foldl (lF N) 0 : Nat) : Int)) [] := hK
    simp (maxSteps := 1000000) -dsimp only [go_sem, tyC, tysC_map, pc55, rs55]
    refine vc_loop (α := Nat) (fun i => [(1, iS .i64 ((N + 1 : Nat) : Int)), (2, .va (.c1 (.pt 0 0))), (5, iS .i64 (((e.take i).foldl (lF N) 0 : Nat) : Int)), (6, iS .i64 i)]) (fun _ => [.cells (tyC (.mk k s n e)) 40])
      (fun i => i ≤ e.length) (fun i => e.length - i) 0 1 (Nat.zero_le _) ?_ ?_ ?_
    · simp -dsimp only [go_sem]
      simp
    · simp -dsimp only [go_sem, tyC, tysC_map]
    intro i hi
    rcases Nat.lt_or_ge i e.length with hlt | hge
    · have hg : decide ((i : Int) < (e.length : Int)) = true := by simp; omega
      have hg2 : decide (0 < ((N + 1 : Nat) : Int)) = true := decide_eq_true (by omega)
      obtain ⟨u, hx⟩ : ∃ t, e[i]? = some t := ⟨_, List.getElem?_eq_getElem hlt⟩
      have q1 := row_rg' (row := tyC) hx
      have hu : isTy (tyC u) := isTy_mk (hte u (List.mem_of_getElem? hx))
      have hn1 : ((N + 1 : Nat) : Int) - 1 = (N : Int) := by omega
      have hl := levF_le N u
      simp (maxSteps := 1000000) -dsimp only [go_sem, hg, hg2, ↓q1, tyC, tysC_map, tyC_len, hu, hn1]
      refine ⟨by omega, by omega, by omega, by omega, by omega, loop_next (i + 1) 1 (by omega) (by omega) ?_ ?_⟩
      · simp -dsimp only [go_sem, levF_gF hx] <;> simp <;> omega
      · simp -dsimp only [go_sem, tyC, tysC_map]
    · have hg : decide ((i : Int) < (e.length : Int)) = false := by simp; omega
      obtain rfl : i = e.length := by omega
      rw [List.take_length]
      simp (maxSteps := 1000000) -dsimp only [go_sem, hg, tyC, tysC_map]
      exact .sel [] (by simp) (by simp) rfl (.done (by simp -dsimp only [go_sem]; exact hK))
mutual
def fewT : Ty → Bool
  | .mk k s n e => bif decide (40 < (bl n).length) || decide (3 < e.length) || decide (8 < levF 20 (.mk k s n e)) then false else fewTs e
def fewTs : List Ty → Bool
  | [] => true
  | t :: r => fewT t && fewTs r
end
theorem fewTs_all : ∀ l : List Ty, fewTs l = l.all fewT
  | [] => rfl
  | t :: r => by rw [fewTs, fewTs_all r]; rfl
theorem few_e {k s : Int} {n : ByteArray} {e : List Ty} (h : fewT (.mk k s n e) = true) : ((bl n).length ≤ 40 ∧ e.length ≤ 3 ∧ levF 20 (.mk k s n e) ≤ 8) ∧ ∀ u ∈ e, fewT u = true := by
  rw [fewT] at h
  cases c : decide (40 < (bl n).length) || decide (3 < e.length) || decide (8 < levF 20 (.mk k s n e)) with
  | true => rw [c] at h; cases h
  | false =>
    rw [c] at h
    simp only [Bool.or_eq_false_iff, decide_eq_false_iff_not] at c
    refine ⟨by omega, fun u hu => ?_⟩
    simp only [Bool.cond_false, fewTs_all, List.all_eq_true] at h
    exact h u hu
theorem few_h {t : Ty} (h : fewT t = true) : t.h ≤ 9 := by
  obtain ⟨k, s, n, e⟩ := t
  have h1 := (few_e h).1.2.2
  have := lev_h 20 (.mk k s n e) (by omega)
  omega
theorem few_sm : ∀ (N : Nat) (t : Ty), t.h ≤ N → fewT t = true → TySm t
  | 0, t, h, _ => absurd h (by have := t.h_pos; omega)
  | N + 1, .mk k s n e, h, hf => by
    obtain ⟨⟨_, h2, _⟩, h3⟩ := few_e hf
    refine .mk (by omega) fun u hu => few_sm N u ?_ (h3 u hu)
    have := Ty.hs_mem hu; rw [Ty.h] at h; omega
theorem lv_h : ∀ (N : Nat) (t : Ty), t.h ≤ N → (lvT t).1 ≤ t.h
  | 0, t, h => absurd h (by have := t.h_pos; omega)
  | N + 1, .mk k s n e, h => by
    cases c : (k == 5 && decide (0 < (e.length : Int))) with
    | false => rw [lvT_stop c]; exact Nat.zero_le _
    | true =>
      simp only [Bool.and_eq_true, beq_iff_eq, decide_eq_true_eq] at c
      obtain ⟨rfl, c⟩ := c
      cases e with
      | nil => simp at c
      | cons u r =>
        rw [lvT_cons]
        have h2 := lv_h N u (by rw [Ty.h, Ty.hs] at h; omega)
        rw [Ty.h, Ty.hs]; simp only; omega
def ftPre (N : Nat) : List S → Prop := fun av => match av with
  | [.va (.gs q)] => isTy q ∧ (C.ty q).h ≤ N
  | _ => False
theorem ftPre_open {N : Nat} {av : List S} (h : ftPre N av) : ∃ t : Ty, av = [.va (.gs (tyC t))] ∧ TyOk t ∧ t.h ≤ N := by
  unfold ftPre at h
  split at h
  · obtain ⟨⟨t, rfl, ht⟩, h⟩ := h
    rw [ty_dec] at h
    exact ⟨t, rfl, ht, h⟩
  · exact h.elim
noncomputable def ftVal : List S → A := fun av => match av with
  | [.va (.gs q)] => bA (fewT (C.ty q))
  | _ => .gs []
noncomputable def ftFn (N : Nat) : Fun := ⟨ftPre N, ftVal, fun av h => by obtain ⟨a, rfl, _⟩ := ftPre_open h; trivial⟩
theorem ftFn_len {N : Nat} : ∀ av H K, (ftFn N).sp av H K → av.length = 1 := fun av H K h => by obtain ⟨a, rfl, _⟩ := ftPre_open h.1.1; rfl
attribute [go_sem] ftFn ftPre ftVal
set_option maxRecDepth 100000 in
set_option maxHeartbeats 1000000 in
theorem mFewType' : ∀ N, Meets Try.prog 19 (ftFn N).sp
  | 0 => ⟨by kernel_rfl, by rintro xs vs E ro w K _ _ _ ⟨⟨h, _⟩, _⟩; obtain ⟨a, _, _, h⟩ := ftPre_open h; have := a.h_pos; omega⟩
  | N + 1 => by
    refine meets_fn Try.func19 ok19 1 (by rw [Try.ntmps19]; decide) (meetsAll_f (mLevel 20) (meetsAll_f (mFewType' N) (meetsAll_nil _))) ftFn_len ?_
    rintro av H K ⟨⟨h, rfl⟩, hK⟩
    obtain ⟨t, rfl, ht, hN⟩ := ftPre_open h
    have hK : K (bS (fewT t)) [] := by
      have : (ftFn (N + 1)).val [.va (.gs (tyC t))] = bA (fewT t) := by simp -dsimp only [go_sem]
      rw [this] at hK; exact hK
    clear h
    have hit := isTy_mk ht
    obtain ⟨k, s, n, e⟩ := t
    have hte := ht.e
    have hte2 := ht.len
    simp only [Ty.e] at hte hte2
    have fin : ∀ (x : Bool) (R : Hp), fewT (.mk k s n e) = x → W.Fin 0 K (bS x) R := fun x R h1 => by
      rw [h1] at hK
      exact .sel [] (by simp) (by simp) rfl (.done (by simpa [go_sem] using hK))
    have hcd := ty_dec (.mk k s n e)
    have hF := fewT.eq_1 k s n e
    rw [tyC, tysC_map] at hit hcd
    generalize hlv : levF 20 (.mk k s n e) = lv at hF
    have hl20 := levF_le 20 (.mk k s n e)
    rw [hlv] at hl20
    have e20 : ((20 : Nat) : Int) = 20 := rfl
    have hb20 : (20 ≤ 1000) = True := by simp
    simp (maxSteps := 1000000) -dsimp only [go_sem, tyC, tysC_map, pc19, rs19, hit, hcd, hlv, e20, hb20]
    refine ⟨fun h1 => fin false _ ?_, fun h1 => ?_⟩
    · rw [hF]
      simp only [Bool.or_eq_true, decide_eq_true_eq] at h1
      rw [show (decide (40 < (bl n).length) || decide (3 < e.length) || decide (8 < lv)) = true by simp only [Bool.or_eq_true, decide_eq_true_eq]; omega]; rfl
    have hF2 : fewT (.mk k s n e) = e.all fewT := by
      simp only [Bool.or_eq_false_iff, decide_eq_false_iff_not] at h1
      rw [hF, show (decide (40 < (bl n).length) || decide (3 < e.length) || decide (8 < lv)) = false by simp only [Bool.or_eq_false_iff, decide_eq_false_iff_not]; omega, fewTs_all]; rfl
    refine vc_loop (α := Nat) (fun i => [(1, .va (.c1 (.pt 0 0))), (3, iS .i64 i)]) (fun i => [.cells (tyC (.mk k s n e)) 40])
      (fun i => i ≤ e.length ∧ ∀ u ∈ e.take i, fewT u = true) (fun i => e.length - i) 0 1 ⟨Nat.zero_le _, fun u hu => by cases hu⟩ ?_ ?_ ?_
    · simp -dsimp only [go_sem] <;> simp
    · simp -dsimp only [go_sem, tyC, tysC_map]
    rintro i ⟨hi, ho⟩
    rcases Nat.lt_or_ge i e.length with hlt | hge
    · have hg : decide ((i : Int) < (e.length : Int)) = true := by simp; omega
      obtain ⟨u, hx⟩ : ∃ t, e[i]? = some t := ⟨_, List.getElem?_eq_getElem hlt⟩
      have hum := List.mem_of_getElem? hx
      have q1 := row_rg' (row := tyC) hx
      have hu : isTy (tyC u) := isTy_mk (hte u hum)
      have huh : (u.h ≤ N) = True := eq_true (by have := Ty.hs_mem hum; rw [Ty.h] at hN; omega)
      simp (maxSteps := 1000000) -dsimp only [go_sem, hg, ↓q1, tyC, tysC_map, tyC_len, hu, huh]
      refine ⟨by omega, fun h1 => fin false _ ?_, fun h1 => ?_⟩
      · rw [hF2, List.all_eq_false]; exact ⟨u, hum, by simpa using h1⟩
      · refine ⟨by omega, loop_next (i + 1) 1 ⟨by omega, fun v hv => ?_⟩ (by omega) ?_ ?_⟩
        · rw [take_next hx] at hv
          rcases List.mem_append.1 hv with h | h
          · exact ho v h
          · obtain rfl : v = u := by simpa using h
            simpa using h1
        · simp -dsimp only [go_sem] <;> simp
        · simp -dsimp only [go_sem, tyC, tysC_map]
    · have hg : decide ((i : Int) < (e.length : Int)) = false := by simp; omega
      obtain rfl : i = e.length := by omega
      rw [List.take_length] at ho
      simp (maxSteps := 1000000) -dsimp only [go_sem, hg, tyC, tysC_map]
      exact fin true _ (by rw [hF2, List.all_eq_true]; exact ho)
noncomputable def f0Fn : Fun := gFn isTy C.ty fun t => .bool (fewT t)
attribute [go_sem] f0Fn
theorem mFewType : Meets Try.prog 19 f0Fn.sp := meets_all 0 mFewType' fun av H K ⟨⟨h, e⟩, hK⟩ => by
  obtain ⟨_, rfl, t, rfl, ht⟩ := gPre_open h
  exact ⟨t.h, ⟨⟨⟨isTy_mk ht, by rw [ty_dec]; exact Nat.le_refl _⟩, e⟩, hK⟩⟩
end Go.Proofs.Ytpfmkfafagiicaa
namespace Go.Proofs.Ytpfmkfafagiicaa
open Go.W
def fewE (e : En) : Bool := !(decide (40 < (bl e.nm).length) || decide (18 < e.ns.length) || decide (18 < e.vs.length)) && e.ns.all fun n => !(decide (40 < (bl n).length))
def fewFl (f : Fl) : Bool := !(decide (40 < (bl f.nm).length) || !(fewT f.ty))
def fewSt (t : St) : Bool := !(decide (40 < (bl t.nm).length) || decide (18 < t.fs.length)) && t.fs.all fewFl
def fewS (s : Sc) : Bool := !(decide (18 < s.es.length) || decide (18 < s.ss.length)) && (s.es.all fewE && s.ss.all fewSt)
theorem few_fit {s : Sc} (h : s.ok) (hf : fewS s = true) : s.fit := by
  unfold fewS at hf
  simp only [Bool.and_eq_true, List.all_eq_true, Bool.not_eq_true', Bool.or_eq_false_iff, decide_eq_false_iff_not] at hf
  obtain ⟨_, he, hs⟩ := hf
  have hfl : ∀ t ∈ s.ss, t.fs.length ≤ 18 ∧ ∀ f ∈ t.fs, fewT f.ty = true := fun t ht => by
    have := hs t ht
    unfold fewSt at this
    simp only [Bool.and_eq_true, List.all_eq_true, Bool.not_eq_true', Bool.or_eq_false_iff, decide_eq_false_iff_not] at this
    refine ⟨by omega, fun f hf => ?_⟩
    have := this.2 f hf
    unfold fewFl at this
    simp only [Bool.not_eq_true', Bool.or_eq_false_iff, Bool.not_eq_false'] at this
    exact this.2
  refine ⟨h, fun t ht f hf => ?_, fun t ht => ⟨by have := (hfl t ht).1; omega, fun f hf => few_sm _ _ (Nat.le_refl _) ((hfl t ht).2 f hf)⟩, fun e hm => ?_⟩
  · have h1 := few_h ((hfl t ht).2 f hf)
    have h2 := lv_h _ f.ty (Nat.le_refl _)
    omega
  · have := he e hm
    unfold fewE at this
    simp only [Bool.and_eq_true, List.all_eq_true, Bool.not_eq_true', Bool.or_eq_false_iff, decide_eq_false_iff_not] at this
    omega
theorem all_step {α : Type} {l : List α} {i : Nat} {x : α} (hx : l[i]? = some x) (p : α → Bool) : (l.drop i).all p = (p x && (l.drop (i + 1)).all p) := by
  obtain ⟨h, rfl⟩ := List.getElem?_eq_some_iff.1 hx
  rw [List.drop_eq_getElem_cons h, List.all_cons]
theorem all_end {α : Type} {l : List α} (p : α → Bool) : (l.drop l.length).all p = true := by rw [List.drop_length]; rfl
set_option maxRecDepth 100000 in
set_option maxHeartbeats 4000000 in
theorem mFew : Meets Try.prog 10 (gFn isSc C.sc fun s => .bool (fewS s)).sp := by
  refine meets_fn Try.func10 ok10 1 (by rw [Try.ntmps10]; decide) (meetsAll_f mFewType (meetsAll_nil _)) gFn_len ?_
  rintro av H K ⟨⟨h, rfl⟩, hK⟩
  obtain ⟨_, rfl, s, rfl, hs⟩ := gPre_open h
  have hK : K (bS (fewS s)) [] := by
    have : (gFn isSc C.sc fun s => .bool (fewS s)).val [.va (.gs (scC s))] = bA (fewS s) := by simp -dsimp only [go_sem]
    rw [this] at hK; exact hK
  clear h
  obtain ⟨hv, hle, hls, hes, hss⟩ := hs
  have fin : ∀ (x : Bool) (R : Hp), fewS s = x → W.Fin 0 K (bS x) R := fun x R h1 => by
    rw [h1] at hK
    exact .sel [] (by simp) (by simp) rfl (.done (by simpa [go_sem] using hK))
  simp (maxSteps := 1000000) -dsimp only [go_sem, scC, pc10, rs10]
  refine ⟨fun h1 => fin false _ ?_, fun h1 => ?_⟩
  · unfold fewS
    rw [show (decide (18 < s.es.length) || decide (18 < s.ss.length)) = true by simp only [Bool.or_eq_true, decide_eq_true_eq] at h1 ⊢; omega]; rfl
  have hF : fewS s = (s.es.all fewE && s.ss.all fewSt) := by
    unfold fewS
    rw [show (decide (18 < s.es.length) || decide (18 < s.ss.length)) = false by simp only [Bool.or_eq_false_iff, decide_eq_false_iff_not] at h1 ⊢; omega]; rfl
  refine vc_loop (α := Nat) (fun i => [(1, .va (.c1 (.pt 0 0))), (3, iS .i64 i)]) (fun _ => [.cells (scC s) 25])
    (fun i => i ≤ s.es.length ∧ (s.es.drop i).all fewE = s.es.all fewE) (fun i => s.es.length - i) 0 1 ⟨Nat.zero_le _, rfl⟩ ?_ ?_ ?_
  · simp -dsimp only [go_sem] <;> simp
  · simp -dsimp only [go_sem, scC] <;> simp
  rintro i ⟨hi, ho⟩
  rcases Nat.lt_or_ge i s.es.length with hlt | hge
  · have hg : decide ((i : Int) < (s.es.length : Int)) = true := by simp; omega
    obtain ⟨e, hx⟩ : ∃ e, s.es[i]? = some e := ⟨_, List.getElem?_eq_getElem hlt⟩
    have hem := List.mem_of_getElem? hx
    have q1 := row_rg' (row := enC) hx
    obtain ⟨_, hln, hlv, _, _⟩ := hes e hem
    rw [all_step hx] at ho
    have bad : fewE e = false → ∀ R, W.Fin 0 K (bS false) R := fun h R => fin false R (by rw [hF, ← ho, h]; rfl)
    have cst : ∀ (a b : Nat), decide ((a : Int) < (b : Int)) = decide (a < b) := fun a b => by simp
    have hE : fewE e = (!(decide (40 < ((bl e.nm).length : Int)) || decide (18 < (e.ns.length : Int)) || decide (18 < (e.vs.length : Int))) && e.ns.all fun n => !(decide (40 < ((bl n).length : Int)))) := by
      unfold fewE
      have c40 : ∀ b : Nat, decide (40 < (b : Int)) = decide (40 < b) := fun b => by simp; omega
      have c18 : ∀ b : Nat, decide (18 < (b : Int)) = decide (18 < b) := fun b => by simp; omega
      simp only [c40, c18]
    cases d1 : decide (40 < ((bl e.nm).length : Int)) with
    | true =>
      rw [d1] at hE
      simp (maxSteps := 1000000) -dsimp only [go_sem, hg, ↓q1, enC, scC, d1]
      exact ⟨by omega, bad hE _⟩
    | false =>
    cases d2 : decide (18 < (e.ns.length : Int)) with
    | true =>
      rw [d1, d2] at hE
      simp (maxSteps := 1000000) -dsimp only [go_sem, hg, ↓q1, enC, scC, d1, d2]
      exact ⟨by omega, by omega, bad hE _⟩
    | false =>
    cases d3 : decide (18 < (e.vs.length : Int)) with
    | true =>
      rw [d1, d2, d3] at hE
      simp (maxSteps := 1000000) -dsimp only [go_sem, hg, ↓q1, enC, scC, d1, d2, d3]
      exact ⟨by omega, by omega, by omega, bad hE _⟩
    | false =>
      rw [d1, d2, d3] at hE
      simp only [Bool.or_self, Bool.not_false, Bool.true_and] at hE
      simp (maxSteps := 1000000) -dsimp only [go_sem, hg, ↓q1, enC, scC, d1, d2, d3]
      refine ⟨by omega, by omega, by omega, ?_⟩
      refine vc_loop (α := Nat) (fun k => [(1, .va (.c1 (.pt 0 0))), (3, iS .i64 i), (4, iS .i64 k)]) (fun _ => [.cells (scC s) 25])
        (fun k => k ≤ e.ns.length ∧ ((e.ns.drop k).all fun n => !(decide (40 < ((bl n).length : Int)))) = e.ns.all fun n => !(decide (40 < ((bl n).length : Int)))) (fun k => e.ns.length - k) 0 1 ⟨Nat.zero_le _, rfl⟩ ?_ ?_ ?_
      · simp -dsimp only [go_sem] <;> simp
      · simp -dsimp only [go_sem, scC] <;> simp
      rintro k ⟨hk, ho2⟩
      rcases Nat.lt_or_ge k e.ns.length with hkt | hkg
      · have hgk : decide ((k : Int) < (e.ns.length : Int)) = true := by simp; omega
        obtain ⟨n, hn⟩ : ∃ n, e.ns[k]? = some n := ⟨_, List.getElem?_eq_getElem hkt⟩
        have q2 := row_rg' (row := stR) hn
        rw [all_step hn] at ho2
        simp (maxSteps := 1000000) -dsimp only [go_sem, ↓q1, enC, scC, hgk]
        simp (maxSteps := 1000000) -dsimp only [go_sem, hn, Option.some.injEq, forall_eq']
        refine ⟨by omega, by omega, by omega, fun h2 => bad (by rw [hE, ← ho2, h2]; rfl) _, fun h2 => ?_⟩
        rw [h2] at ho2
        refine ⟨by omega, loop_next (k + 1) 1 ⟨by omega, by simpa using ho2⟩ (by omega) ?_ ?_⟩
        · simp -dsimp only [go_sem] <;> simp
        · simp -dsimp only [go_sem, scC] <;> simp
      · have hgk : decide ((k : Int) < (e.ns.length : Int)) = false := by simp; omega
        obtain rfl : k = e.ns.length := by omega
        rw [all_end] at ho2
        rw [hE, ← ho2, Bool.true_and] at ho
        simp (maxSteps := 1000000) -dsimp only [go_sem, ↓q1, enC, scC, hgk]
        refine ⟨by omega, by omega, loop_next (i + 1) 1 ⟨by omega, ho⟩ (by omega) ?_ ?_⟩
        · simp -dsimp only [go_sem] <;> simp
        · simp -dsimp only [go_sem, scC] <;> simp
  · have hg : decide ((i : Int) < (s.es.length : Int)) = false := by simp; omega
    obtain rfl : i = s.es.length := by omega
    rw [all_end] at ho
    rw [← ho, Bool.true_and] at hF
    simp (maxSteps := 1000000) -dsimp only [go_sem, hg, scC]
    clear ho hi hge hg
    refine vc_loop (α := Nat) (fun i => [(1, .va (.c1 (.pt 0 0))), (5, iS .i64 i)]) (fun _ => [.cells (scC s) 25])
      (fun i => i ≤ s.ss.length ∧ (s.ss.drop i).all fewSt = s.ss.all fewSt) (fun i => s.ss.length - i) 0 1 ⟨Nat.zero_le _, rfl⟩ ?_ ?_ ?_
    · simp -dsimp only [go_sem] <;> simp
    · simp -dsimp only [go_sem, scC] <;> simp
    rintro i ⟨hi, ho⟩
    rcases Nat.lt_or_ge i s.ss.length with hlt | hge
    · have hg : decide ((i : Int) < (s.ss.length : Int)) = true := by simp; omega
      obtain ⟨e, hx⟩ : ∃ e, s.ss[i]? = some e := ⟨_, List.getElem?_eq_getElem hlt⟩
      have hem := List.mem_of_getElem? hx
      have q1 := row_rg' (row := stC) hx
      obtain ⟨_, hln, hfs⟩ := hss e hem
      rw [all_step hx] at ho
      have bad : fewSt e = false → ∀ R, W.Fin 0 K (bS false) R := fun h R => fin false R (by rw [hF, ← ho, h]; rfl)
      have hE : fewSt e = (!(decide (40 < ((bl e.nm).length : Int)) || decide (18 < (e.fs.length : Int))) && e.fs.all fewFl) := by
        unfold fewSt
        have c40 : ∀ b : Nat, decide (40 < (b : Int)) = decide (40 < b) := fun b => by simp; omega
        have c18 : ∀ b : Nat, decide (18 < (b : Int)) = decide (18 < b) := fun b => by simp; omega
        simp only [c40, c18]
      cases d1 : decide (40 < ((bl e.nm).length : Int)) with
      | true =>
        rw [d1] at hE
        simp (maxSteps := 1000000) -dsimp only [go_sem, hg, ↓q1, stC, scC, d1]
        exact ⟨by omega, bad hE _⟩
      | false =>
      cases d2 : decide (18 < (e.fs.length : Int)) with
      | true =>
        rw [d1, d2] at hE
        simp (maxSteps := 1000000) -dsimp only [go_sem, hg, ↓q1, stC, scC, d1, d2]
        exact ⟨by omega, by omega, bad hE _⟩
      | false =>
        rw [d1, d2] at hE
        simp only [Bool.or_self, Bool.not_false, Bool.true_and] at hE
        simp (maxSteps := 1000000) -dsimp only [go_sem, hg, ↓q1, stC, scC, d1, d2]
        refine ⟨by omega, by omega, ?_⟩
        refine vc_loop (α := Nat) (fun k => [(1, .va (.c1 (.pt 0 0))), (5, iS .i64 i), (6, iS .i64 k)]) (fun _ => [.cells (scC s) 25])
          (fun k => k ≤ e.fs.length ∧ (e.fs.drop k).all fewFl = e.fs.all fewFl) (fun k => e.fs.length - k) 0 1 ⟨Nat.zero_le _, rfl⟩ ?_ ?_ ?_
        · simp -dsimp only [go_sem] <;> simp
        · simp -dsimp only [go_sem, scC] <;> simp
        rintro k ⟨hk, ho2⟩
        rcases Nat.lt_or_ge k e.fs.length with hkt | hkg
        · have hgk : decide ((k : Int) < (e.fs.length : Int)) = true := by simp; omega
          obtain ⟨f, hn⟩ : ∃ n, e.fs[k]? = some n := ⟨_, List.getElem?_eq_getElem hkt⟩
          have q2 := row_rg' (row := flC) hn
          have hity : isTy (tyC f.ty) := isTy_mk (hfs f (List.mem_of_getElem? hn)).ty
          rw [all_step hn] at ho2
          have hFl : fewFl f = !(decide (40 < ((bl f.nm).length : Int)) || !(fewT f.ty)) := by
            unfold fewFl
            have c40 : ∀ b : Nat, decide (40 < (b : Int)) = decide (40 < b) := fun b => by simp; omega
            simp only [c40]
          cases d3 : decide (40 < ((bl f.nm).length : Int)) with
          | true =>
            rw [d3] at hFl
            simp (maxSteps := 1000000) -dsimp only [go_sem, ↓q1, stC, scC, hgk]
            simp (maxSteps := 1000000) -dsimp only [go_sem, flC, hn, Option.some.injEq, forall_eq', d3]
            refine ⟨by omega, by omega, by omega, bad (by rw [hE, ← ho2, hFl]; rfl) _⟩
          | false =>
            rw [d3] at hFl
            simp only [Bool.false_or, Bool.not_not] at hFl
            rw [hFl] at ho2
            simp (maxSteps := 1000000) -dsimp only [go_sem, ↓q1, stC, scC, hgk]
            simp (maxSteps := 1000000) -dsimp only [go_sem, flC, fl_ty, hity, hn, Option.some.injEq, forall_eq', d3]
            refine ⟨by omega, by omega, by omega, by omega, by omega, fun h2 => bad (by rw [hE, ← ho2, h2]; rfl) _, fun h2 => ?_⟩
            rw [show fewT f.ty = true by simpa using h2, Bool.true_and] at ho2
            refine ⟨by omega, loop_next (k + 1) 1 ⟨by omega, ho2⟩ (by omega) ?_ ?_⟩
            · simp -dsimp only [go_sem] <;> simp
            · simp -dsimp only [go_sem, scC] <;> simp
        · have hgk : decide ((k : Int) < (e.fs.length : Int)) = false := by simp; omega
          obtain rfl : k = e.fs.length := by omega
          rw [all_end] at ho2
          rw [hE, ← ho2, Bool.true_and] at ho
          simp (maxSteps := 1000000) -dsimp only [go_sem, ↓q1, stC, scC, hgk]
          refine ⟨by omega, by omega, loop_next (i + 1) 1 ⟨by omega, ho⟩ (by omega) ?_ ?_⟩
          · simp -dsimp only [go_sem] <;> simp
          · simp -dsimp only [go_sem, scC] <;> simp
    · have hg : decide ((i : Int) < (s.ss.length : Int)) = false := by simp; omega
      obtain rfl : i = s.ss.length := by omega
      rw [all_end] at ho
      simp (maxSteps := 1000000) -dsimp only [go_sem, hg, scC]
      exact fin true _ (by rw [hF, ← ho])
end Go.Proofs.Ytpfmkfafagiicaa
namespace Go.Proofs.Ytpfmkfafagiicaa
open Go.W
def pc11_6 : PC := .seq (.gh (.reg  [⟨some 30, none, .l (.ldn 3 (.t 1))⟩, ⟨some 31, none, .cq 12 [(.t 30)]⟩, ⟨some 32, none, .q (.bin .eql true (.t 31) (.k (.int .i64 0)))⟩, ⟨some 33, none, .q (.mv (.t 32))⟩, ⟨some 34, (some (33, true)), .l (.ldn 3 (.t 2))⟩, ⟨some 35, (some (33, true)), .cq 12 [(.t 34)]⟩, ⟨some 36, (some (33, true)), .q (.bin .eql true (.t 35) (.k (.int .i64 19)))⟩, ⟨some 37, none, .pick (.t 33) (.t 36) (.k (.bool false))⟩, ⟨some 38, none, .q (.mv (.t 37))⟩, ⟨some 39, (some (38, true)), .l (.ldn 3 (.t 1))⟩, ⟨some 40, (some (38, true)), .cl 17 [(.t 39), (.k (.string (mk [80, 111, 115, 101])))] []⟩, ⟨some 41, (some (38, true)), .e (.bsl 9 1 [(.k (.string (mk [77, 111, 100, 101]))), (.k (.string (mk [84, 97, 103])))])⟩, ⟨some 42, (some (38, true)), .cq 16 [(.t 40), (.t 41)]⟩, ⟨some 43, none, .pick (.t 38) (.t 42) (.k (.bool false))⟩, ⟨some 44, none, .q (.mv (.t 43))⟩, ⟨some 45, (some (44, true)), .l (.ldn 3 (.t 1))⟩, ⟨some 46, (some (44, true)), .cq 14 [(.t 45), (.k (.string (mk [84, 97, 103])))]⟩, ⟨some 47, (some (44, true)), .q (.bin .eql true (.t 46) (.k (.int .i64 1)))⟩, ⟨some 48, none, .pick (.t 44) (.t 47) (.k (.bool false))⟩, ⟨some 49, none, .q (.mv (.t 48))⟩, ⟨some 50, (some (49, true)), .l (.ldn 3 (.t 1))⟩, ⟨some 51, (some (49, true)), .cq 14 [(.t 50), (.k (.string (mk [80, 111, 115, 101])))]⟩, ⟨some 52, (some (49, true)), .q (.bin .eql true (.t 51) (.k (.int .i64 3)))⟩, ⟨some 53, none, .pick (.t 49) (.t 52) (.k (.bool false))⟩, ⟨some 54, none, .q (.mv (.t 53))⟩, ⟨some 55, (some (54, true)), .q (.mv (.t 4))⟩, ⟨some 56, none, .pick (.t 54) (.t 55) (.k (.bool false))⟩, ⟨some 57, none, .q (.mv (.t 56))⟩, ⟨some 58, (some (57, true)), .q (.fa 0 (.t 3))⟩, ⟨some 59, (some (57, true)), .l (.ld1 (.t 58))⟩, ⟨some 60, (some (57, true)), .q (.bin .eql true (.t 59) (.k (.string (mk [84, 97, 103]))))⟩, ⟨some 61, none, .pick (.t 57) (.t 60) (.k (.bool false))⟩, ⟨some 62, none, .q (.mv (.t 61))⟩, ⟨some 63, (some (62, true)), .q (.mv (.t 6))⟩, ⟨some 64, none, .pick (.t 62) (.t 63) (.k (.bool false))⟩, ⟨some 65, none, .q (.mv (.t 64))⟩, ⟨some 66, (some (65, true)), .q (.fa 1 (.t 5))⟩, ⟨some 67, (some (65, true)), .l (.ld1 (.t 66))⟩, ⟨some 68, (some (65, true)), .q (.bin .eql true (.t 67) (.k (.string (mk [116, 97, 103, 115]))))⟩, ⟨some 69, none, .pick (.t 65) (.t 68) (.k (.bool false))⟩, ⟨some 0, none, .q (.mv (.t 69))⟩])) (.ret)
@[go_sem ↓] theorem fold11_6 (Γ : Env) (k0 : Nat) (fr : Fr) (H : Hp) (K : Ex → Fr → Hp → Prop) : vc Γ k0 pc11_6 fr H K = vcn Γ k0 pc11_6 fr H K ⟨⟩ := rfl
def pc11_5 : PC := .seq (.gh (.reg  [⟨some 23, none, .q (.fa 2 (.t 1))⟩, ⟨some 24, none, .l (.ld1 (.t 23))⟩, ⟨some 25, none, .l (.ia 2 (.t 24) (.k (.int .i64 1)))⟩, ⟨some 26, none, .l (.ldn 2 (.t 25))⟩, ⟨some 27, none, .cl 28 [(.t 26), (.k (.int .i64 3))] []⟩, ⟨some 22, none, .q (.mv (.t 27))⟩, ⟨some 28, none, .q (.ex (.t 22) 0)⟩, ⟨some 29, none, .q (.ex (.t 22) 1)⟩, ⟨some 5, none, .e (.al (.agg #[(.int .i64 0), (.string (mk [])), (.int .i64 0), (.int .i64 0), (.string (mk [])), (.slice none 0 0), (.bool false)]) 53)⟩, ⟨none, none, .e (.st 7 (.t 5) (.t 28))⟩, ⟨some 6, none, .q (.mv (.t 29))⟩])) (pc11_6)
@[go_sem ↓] theorem fold11_5 (Γ : Env) (k0 : Nat) (fr : Fr) (H : Hp) (K : Ex → Fr → Hp → Prop) : vc Γ k0 pc11_5 fr H K = vcn Γ k0 pc11_5 fr H K ⟨⟩ := rfl
def pc11_4 : PC := .seq (.gh (.reg  [⟨some 18, none, .l (.ldn 3 (.t 1))⟩, ⟨some 19, none, .cl 22 [(.t 18), (.k (.string (mk [84, 97, 103])))] []⟩, ⟨some 17, none, .q (.mv (.t 19))⟩, ⟨some 20, none, .q (.ex (.t 17) 0)⟩, ⟨some 21, none, .q (.ex (.t 17) 1)⟩, ⟨some 3, none, .e (.al (.agg #[(.string (mk [])), (.slice none 0 0)]) 32)⟩, ⟨none, none, .e (.st 2 (.t 3) (.t 20))⟩, ⟨some 4, none, .q (.mv (.t 21))⟩])) (pc11_5)
@[go_sem ↓] theorem fold11_4 (Γ : Env) (k0 : Nat) (fr : Fr) (H : Hp) (K : Ex → Fr → Hp → Prop) : vc Γ k0 pc11_4 fr H K = vcn Γ k0 pc11_4 fr H K ⟨⟩ := rfl
def pc11 : PC := .seq (.reg  [⟨some 0, none, .q (.mv (.k (.bool false)))⟩]) (.seq (.reg  [⟨some 7, none, .cl 36 [] []⟩, ⟨some 1, none, .e (.al (.agg #[(.int .i64 0), (.slice none 0 0), (.slice none 0 0)]) 25)⟩, ⟨none, none, .e (.st 3 (.t 1) (.t 7))⟩]) (.seq (.reg  [⟨some 8, none, .cl 36 [] []⟩, ⟨some 2, none, .e (.al (.agg #[(.int .i64 0), (.slice none 0 0), (.slice none 0 0)]) 25)⟩, ⟨none, none, .e (.st 3 (.t 2) (.t 8))⟩]) (.seq (.reg  [⟨some 9, none, .q (.fa 2 (.t 2))⟩, ⟨some 10, none, .l (.ld1 (.t 9))⟩, ⟨some 11, none, .l (.ia 2 (.t 10) (.k (.int .i64 0)))⟩, ⟨some 12, none, .q (.fa 1 (.t 11))⟩, ⟨some 13, none, .l (.ld1 (.t 12))⟩, ⟨some 14, none, .q (.bd [(.int .i64 0), (.int .i64 0), (.string (mk [])), (.slice none 0 0)] [(0, 1, (.k (.int .i64 6))), (2, 1, (.k (.string (mk [80, 111, 115, 101]))))])⟩, ⟨some 15, none, .l (.ia 7 (.t 13) (.k (.int .i64 0)))⟩, ⟨some 16, none, .q (.fa 2 (.t 15))⟩, ⟨none, none, .e (.st 4 (.t 16) (.t 14))⟩]) (pc11_4))))
def rs11 : List RV := [.mv (.t 0)]
theorem ok11 : trFn Try.prog true ⟨fun r k => if r = 6 ∧ k = 1 then .q else if r = 6 ∧ k = 5 then .q else if r = 6 ∧ k = 12 then .q else if r = 6 ∧ k = 16 then .q else if r = 6 ∧ k = 21 then .q else .own [], fun r => [4, 5, 6].contains r⟩ Try.f11 = some (pc11, rs11) := by kernel_rfl
def pc16 : PC := .seq (.reg  [⟨some 4, none, .q (.mv (.k (.bool false)))⟩]) (.seq (.seq (.reg  [⟨some 6, none, .q (.mv (.t 0))⟩, ⟨some 7, none, .q (.lnL (.t 6))⟩, ⟨some 8, none, .q (.mv (.t 1))⟩, ⟨some 9, none, .q (.lnL (.t 8))⟩, ⟨some 10, none, .q (.bin .neq true (.t 7) (.t 9))⟩]) (.cond (.t 10) (.seq (.reg  [⟨some 4, none, .q (.mv (.k (.bool false)))⟩]) (.ret)) (.skip))) (.seq (.seq (.reg  [⟨some 5, none, .q (.mv (.k (.int .i64 0)))⟩]) (.block 0 (.loop (.seq (.seq (.reg  [⟨some 11, none, .q (.mv (.t 5))⟩, ⟨some 12, none, .q (.mv (.t 0))⟩, ⟨some 13, none, .q (.lnL (.t 12))⟩, ⟨some 14, none, .q (.bin .lss true (.t 11) (.t 13))⟩]) (.cond (.t 14) (.skip) (.exit 0))) (.seq (.block 1 (.seq (.reg  [⟨some 17, none, .q (.mv (.t 0))⟩, ⟨some 18, none, .q (.mv (.t 5))⟩, ⟨some 19, none, .l (.ia 1 (.t 17) (.t 18))⟩, ⟨some 20, none, .l (.ld1 (.t 19))⟩, ⟨some 21, none, .q (.mv (.t 1))⟩, ⟨some 22, none, .q (.mv (.t 5))⟩, ⟨some 23, none, .l (.ia 1 (.t 21) (.t 22))⟩, ⟨some 24, none, .l (.ld1 (.t 23))⟩, ⟨some 25, none, .q (.bin .neq true (.t 20) (.t 24))⟩]) (.cond (.t 25) (.seq (.reg  [⟨some 4, none, .q (.mv (.k (.bool false)))⟩]) (.ret)) (.skip)))) (.reg  [⟨some 15, none, .q (.mv (.t 5))⟩, ⟨some 16, none, .q (.bin .add true (.t 15) (.k (.int .i64 1)))⟩, ⟨some 5, none, .q (.mv (.t 16))⟩])))))) (.seq (.reg  [⟨some 4, none, .q (.mv (.k (.bool true)))⟩]) (.ret))))
def rs16 : List RV := [.mv (.t 4)]
theorem ok16 : trFn Try.prog true ⟨fun _ _ => .own [], fun _ => false⟩ Try.f16 = some (pc16, rs16) := by kernel_rfl
def pc36 : PC := .seq (.reg  [⟨some 0, none, .e (.al (.agg #[(.int .i64 0), (.slice none 0 0), (.slice none 0 0)]) 25)⟩]) (.seq (.reg  [⟨some 4, none, .q (.bd [(.int .i64 0), (.int .i64 0), (.string (mk [])), (.slice none 0 0)] [(0, 1, (.k (.int .i64 7))), (2, 1, (.k (.string (mk [77, 111, 100, 101]))))])⟩, ⟨some 5, none, .q (.bd [(.int .i64 0), (.string (mk [])), (.int .i64 0), (.int .i64 0), (.string (mk [])), (.slice none 0 0), (.bool false)] [(0, 1, (.k (.int .i64 1))), (1, 1, (.k (.string (mk [109, 111, 100, 101])))), (2, 4, (.t 4))])⟩, ⟨some 6, none, .e (.bsl 53 7 [(.t 5)])⟩, ⟨some 7, none, .q (.bd [(.string (mk [])), (.slice none 0 0)] [(0, 1, (.k (.string (mk [84, 97, 103])))), (1, 1, (.t 6))])⟩, ⟨some 1, none, .e (.al (.agg #[(.string (mk [])), (.slice none 0 0)]) 32)⟩, ⟨none, none, .e (.st 2 (.t 1) (.t 7))⟩]) (.seq (.reg  [⟨some 8, none, .q (.bd [(.int .i64 0), (.int .i64 0), (.string (mk [])), (.slice none 0 0)] [(0, 1, (.k (.int .i64 6))), (2, 1, (.k (.string (mk [84, 97, 103]))))])⟩, ⟨some 9, none, .e (.bsl 40 4 [(.t 8)])⟩, ⟨some 10, none, .q (.bd [(.int .i64 0), (.int .i64 0), (.string (mk [])), (.slice none 0 0)] [(0, 1, (.k (.int .i64 5))), (1, 1, (.k (.int .i64 4))), (3, 1, (.t 9))])⟩, ⟨some 2, none, .e (.al (.agg #[(.int .i64 0), (.int .i64 0), (.string (mk [])), (.slice none 0 0)]) 40)⟩, ⟨none, none, .e (.st 4 (.t 2) (.t 10))⟩]) (.seq (.reg  [⟨some 11, none, .q (.bd [(.int .i64 0), (.int .i64 0), (.string (mk [])), (.slice none 0 0)] [(0, 1, (.k (.int .i64 2))), (1, 1, (.k (.int .i64 32)))])⟩, ⟨some 12, none, .q (.bd [(.int .i64 0), (.string (mk [])), (.int .i64 0), (.int .i64 0), (.string (mk [])), (.slice none 0 0), (.bool false)] [(0, 1, (.k (.int .i64 1))), (1, 1, (.k (.string (mk [120])))), (2, 4, (.t 11))])⟩, ⟨some 13, none, .l (.ldn 4 (.t 2))⟩, ⟨some 14, none, .q (.bd [(.int .i64 0), (.string (mk [])), (.int .i64 0), (.int .i64 0), (.string (mk [])), (.slice none 0 0), (.bool false)] [(0, 1, (.k (.int .i64 3))), (1, 1, (.k (.string (mk [116, 97, 103, 115])))), (2, 4, (.t 13))])⟩, ⟨some 15, none, .e (.bslx 53 7 [(.t 12), (.t 14)])⟩, ⟨some 16, none, .q (.bd [(.string (mk [])), (.slice none 0 0)] [(0, 1, (.k (.string (mk [80, 111, 115, 101])))), (1, 1, (.t 15))])⟩, ⟨some 3, none, .e (.al (.agg #[(.string (mk [])), (.slice none 0 0)]) 32)⟩, ⟨none, none, .e (.st 2 (.t 3) (.t 16))⟩]) (.seq (.reg  [⟨some 17, none, .e (.bsl 9 1 [(.k (.string (mk [105, 100, 108, 101]))), (.k (.string (mk [114, 117, 110])))])⟩, ⟨some 18, none, .e (.bsl 3 1 [(.k (.int .i64 0)), (.k (.int .i64 1))])⟩, ⟨some 19, none, .q (.bd [(.string (mk [])), (.slice none 0 0), (.slice none 0 0)] [(0, 1, (.k (.string (mk [77, 111, 100, 101])))), (1, 1, (.t 17)), (2, 1, (.t 18))])⟩, ⟨some 20, none, .e (.bslx 47 3 [(.t 19)])⟩, ⟨some 21, none, .l (.ldn 2 (.t 1))⟩, ⟨some 22, none, .l (.ldn 2 (.t 3))⟩, ⟨some 23, none, .e (.bslx 32 2 [(.t 21), (.t 22)])⟩, ⟨some 24, none, .q (.bd [(.int .i64 0), (.slice none 0 0), (.slice none 0 0)] [(0, 1, (.k (.int .i64 1))), (1, 1, (.t 20)), (2, 1, (.t 23))])⟩, ⟨none, none, .e (.st 3 (.t 0) (.t 24))⟩]) (.ret)))))
def rs36 : List RV := [.ld (.ldn 3 (.t 0))]
theorem ok36 : trFn Try.prog true ⟨fun r k => if r = 3 ∧ k = 4 then .q else if r = 4 ∧ k = 3 then .q else if r = 4 ∧ k = 6 then .q else .own [], fun _ => false⟩ Try.f36 = some (pc36, rs36) := by kernel_rfl
end Go.Proofs.Ytpfmkfafagiicaa
namespace Go.Proofs.Ytpfmkfafagiicaa
open Go.W
abbrev nMode : ByteArray := mk [77, 111, 100, 101]
abbrev nTag : ByteArray := mk [84, 97, 103]
abbrev nPose : ByteArray := mk [80, 111, 115, 101]
def tyMode : Ty := .mk 7 0 nMode []
def tyTag : Ty := .mk 6 0 nTag []
def tyPose : Ty := .mk 6 0 nPose []
def tyList : Ty := .mk 5 4 (mk []) [tyTag]
def tyInt : Ty := .mk 2 32 (mk []) []
def flMode : Fl := ⟨1, mk [109, 111, 100, 101], tyMode, false⟩
def flRound : Fl := ⟨1, mk [109, 111, 100, 101], tyPose, false⟩
def flX : Fl := ⟨1, mk [120], tyInt, false⟩
def flTags : Fl := ⟨3, mk [116, 97, 103, 115], tyList, false⟩
def stTag : St := ⟨nTag, [flMode]⟩
def stPose : St := ⟨nPose, [flX, flTags]⟩
def stRound : St := ⟨nTag, [flRound]⟩
def enMode : En := ⟨nMode, [mk [105, 100, 108, 101], mk [114, 117, 110]], [0, 1]⟩
def exS : Sc := ⟨1, [enMode], [stTag, stPose]⟩
def rdS : Sc := ⟨1, [enMode], [stRound, stPose]⟩
def exSp : W.Spec := fun av H K => av = [] ∧ H = [] ∧ K (.va (.gs [.vl (.int .i64 1), .fz [enC enMode], .sl 0 2])) [.rowx [[.vl (.string nTag), .sl 1 1], stC stPose] 32 2, .row [flC flMode] 53 7]
set_option maxRecDepth 100000 in
set_option maxHeartbeats 2000000 in
theorem mExample : Meets Try.prog 36 exSp := by
  refine meets_fn Try.func36 ok36 0 (by rw [Try.ntmps36]; decide) (meetsAll_nil _) (fun av H K h => by obtain ⟨rfl, _⟩ := h; rfl) ?_
  rintro av H K ⟨rfl, rfl, hK⟩
  simp (maxSteps := 1000000) -dsimp only [go_sem, pc36, rs36]
  refine .opn 1 _ _ _ rfl (.nfr 1 _ _ _ rfl (.shu 1 _ _ _ rfl ?_ ?_))
  · simp [C.nf, C.shut]
  refine .opn 3 _ _ _ rfl (.nfr 3 _ _ _ rfl (.shu 3 _ _ _ rfl ?_ (.pub 3 _ _ _ rfl ?_)))
  · simp [C.nf, C.shut]
  simp -dsimp only [go_sem, pubH, C.nf, C.pub]
  refine .nfr 5 _ _ _ rfl (.shu 5 _ _ _ rfl ?_ (.pub 5 _ _ _ rfl ?_))
  · simp [C.nf, C.shut]
  simp -dsimp only [go_sem, pubH, C.nf, C.pub]
  refine .pub 7 _ _ _ rfl (.pub 8 _ _ _ rfl ?_)
  simp -dsimp only [go_sem, pubH, C.pub]
  refine .shu 9 _ _ _ rfl ?_ (.pub 9 _ _ _ rfl ?_)
  · simp [C.shut]
  simp -dsimp only [go_sem, pubH, C.pub]
  refine .sel [10, 1] (by simp) (by simp) rfl (.done ?_)
  simp -dsimp only [go_sem]
  exact hK
end Go.Proofs.Ytpfmkfafagiicaa
namespace Go.Proofs.Ytpfmkfafagiicaa
open Go.W
theorem ex_ok : ∀ t ∈ [tyMode, tyPose, tyInt, tyList], TyOk t := by
  have h : ∀ k s n, in64 k → in64 s → n.size ≤ 9223372036854775807 → TyOk (.mk k s n []) := fun k s n h1 h2 h3 => .mk h1 h2 h3 (Nat.zero_le _) (fun t h => by cases h)
  intro t ht
  simp only [List.mem_cons, List.not_mem_nil, or_false] at ht
  rcases ht with rfl | rfl | rfl | rfl
  · exact h _ _ _ (by unfold in64; omega) (by unfold in64; omega) (by decide)
  · exact h _ _ _ (by unfold in64; omega) (by unfold in64; omega) (by decide)
  · exact h _ _ _ (by unfold in64; omega) (by unfold in64; omega) (by decide)
  · refine .mk (by unfold in64; omega) (by unfold in64; omega) (by decide) (by decide) fun t ht => ?_
    simp only [List.mem_cons, List.not_mem_nil, or_false] at ht
    subst ht
    exact h _ _ _ (by unfold in64; omega) (by unfold in64; omega) (by decide)
theorem ex_sm : ∀ t ∈ [tyMode, tyPose, tyInt, tyList], TySm t := by
  have h : ∀ k s n, TySm (.mk k s n []) := fun k s n => .mk (Nat.zero_le _) (fun t h => by cases h)
  intro t ht
  simp only [List.mem_cons, List.not_mem_nil, or_false] at ht
  rcases ht with rfl | rfl | rfl | rfl
  · exact h _ _ _
  · exact h _ _ _
  · exact h _ _ _
  · refine .mk (by decide) fun t ht => ?_
    simp only [List.mem_cons, List.not_mem_nil, or_false] at ht
    subst ht
    exact h _ _ _
theorem fit_two {a b : St} (ha : a = stTag ∨ a = stRound) (hb : b = stPose) : (⟨1, [enMode], [a, b]⟩ : Sc).fit := by
  have hf : ∀ f ∈ [flMode, flRound, flX, flTags], f.ok ∧ (lvT f.ty).1 ≤ 1000000000 ∧ TySm f.ty := fun f hf => by
    simp only [List.mem_cons, List.not_mem_nil, or_false] at hf
    rcases hf with rfl | rfl | rfl | rfl
    · exact ⟨⟨by unfold in64; decide, by decide, ex_ok _ (by simp [flMode])⟩, by decide, ex_sm _ (by simp [flMode])⟩
    · exact ⟨⟨by unfold in64; decide, by decide, ex_ok _ (by simp [flRound])⟩, by decide, ex_sm _ (by simp [flRound])⟩
    · exact ⟨⟨by unfold in64; decide, by decide, ex_ok _ (by simp [flX])⟩, by decide, ex_sm _ (by simp [flX])⟩
    · exact ⟨⟨by unfold in64; decide, by decide, ex_ok _ (by simp [flTags])⟩, by decide, ex_sm _ (by simp [flTags])⟩
  have hs : ∀ t, (t = stTag ∨ t = stRound) ∨ t = stPose → t.nm.size ≤ 9223372036854775807 ∧ t.fs.length ≤ 2 ∧ ∀ f ∈ t.fs, f ∈ [flMode, flRound, flX, flTags] := fun t ht => by
    rcases ht with (rfl | rfl) | rfl
    · exact ⟨by decide, by decide, fun f hf => by simp [stTag] at hf; simp [hf]⟩
    · exact ⟨by decide, by decide, fun f hf => by simp [stRound] at hf; simp [hf]⟩
    · exact ⟨by decide, by decide, fun f hf => by simp [stPose] at hf; rcases hf with rfl | rfl <;> simp⟩
  have hm : ∀ t ∈ [a, b], (t = stTag ∨ t = stRound) ∨ t = stPose := fun t ht => by
    simp only [List.mem_cons, List.not_mem_nil, or_false] at ht
    rcases ht with rfl | rfl
    · exact .inl ha
    · exact .inr hb
  refine ⟨⟨⟨by show _ ≤ (1 : Int); omega, by show (1 : Int) ≤ _; omega⟩, by simp, by simp, fun e he => ?_, fun t ht => ?_⟩, fun t ht f hf' => (hf f ((hs t (hm t ht)).2.2 f hf')).2.1, fun t ht => ⟨by have := (hs t (hm t ht)).2.1; omega, fun f hf' => (hf f ((hs t (hm t ht)).2.2 f hf')).2.2⟩, fun e he => ?_⟩
  · simp only [List.mem_cons, List.not_mem_nil, or_false] at he
    subst he
    exact ⟨by decide, by decide, by decide, fun n hn => by simp [enMode] at hn; rcases hn with rfl | rfl <;> decide, fun n hn => by simp [enMode] at hn; rcases hn with rfl | rfl <;> (unfold in64; decide)⟩
  · obtain ⟨h1, h2, h3⟩ := hs t (hm t ht)
    exact ⟨h1, by omega, fun f hf' => (hf f (h3 f hf')).1⟩
  · simp only [List.mem_cons, List.not_mem_nil, or_false] at he
    subst he
    decide
theorem ex_fit : exS.fit := fit_two (.inl rfl) rfl
theorem rd_fit : rdS.fit := fit_two (.inr rfl) rfl
theorem ex_large : largeF exS = false := by decide +kernel
theorem rd_large : largeF rdS = false := by decide +kernel
theorem ex_en : enF exS = 0 := by decide +kernel
theorem rd_en : enF rdS = 0 := by decide +kernel
theorem ex_st : stF exS = 0 := by decide +kernel
theorem rd_st : stF rdS = 0 := by decide +kernel
theorem inB_uses (ss : List St) (n x : ByteArray) : inB (usesF ss n) x = inB (visAll ss n) x := by
  rw [Bool.eq_iff_iff, inB_iff, inB_iff, usesF, mem_srtB]
theorem ex_acy : exS.ss.any (fun t => inB (usesF exS.ss t.nm) t.nm) = false := by
  simp only [inB_uses]; decide +kernel
theorem rd_cyc : rdS.ss.any (fun t => inB (usesF rdS.ss t.nm) t.nm) = true := by
  simp only [inB_uses]; decide +kernel
theorem ex_vis : visAll exS.ss nPose = [nTag, nMode] := by decide +kernel
theorem ex_uses : usesF exS.ss nPose = [nMode, nTag] := by
  refine asc_ext (usesF_asc _ _) ?_ fun x => ?_
  · refine List.pairwise_cons.2 ⟨fun y hy => ?_, List.pairwise_cons.2 ⟨fun y hy => (List.not_mem_nil hy).elim, .nil⟩⟩
    obtain rfl : y = nTag := by simpa using hy
    show bl nMode < bl nTag
    decide
  · rw [usesF, mem_srtB, ex_vis]; simp [or_comm]
theorem ex_good : Gd exS.ss exS.es := good_of ex_fit ex_large ex_st
theorem ex_ac : Acy exS.ss := fun t ht => any_false ex_acy t ht
theorem ex_dTag : dD exS.ss nTag = 1 := by
  have h := dD_eq ex_good ex_ac (ex_good.nd stTag (by simp [exS]))
  rw [show nTag = stTag.nm from rfl, h]
  rfl
theorem ex_dPose : dD exS.ss nPose = 3 := by
  have h0 := dD_eq ex_good ex_ac (ex_good.nd stPose (by simp [exS]))
  rw [show nPose = stPose.nm from rfl, h0]
  have h : fdep (dD exS.ss) tyList = 1 + dD exS.ss nTag := by
    unfold fdep; rfl
  have h2 : fdep (dD exS.ss) tyInt = 0 := by unfold fdep; rfl
  have h3 : maxF (dD exS.ss) stPose.fs = max (max 0 (fdep (dD exS.ss) tyInt)) (fdep (dD exS.ss) tyList) := rfl
  rw [h3, h, h2, ex_dTag]; rfl
theorem ex_check : checkF exS = 0 := by
  have h : nestF exS.ss = 0 := by
    unfold nestF
    rw [ex_acy]
    have e : exS.ss.any (fun t => decide (6 < dD exS.ss t.nm)) = (decide (6 < dD exS.ss nTag) || (decide (6 < dD exS.ss nPose) || false)) := rfl
    rw [e, ex_dTag, ex_dPose]; rfl
  unfold checkF
  rw [ex_large, ex_en, ex_st, h]; rfl
theorem rd_check : checkF rdS = 19 := by
  have h : nestF rdS.ss = 19 := by unfold nestF; rw [rd_cyc]; rfl
  unfold checkF
  rw [rd_large, rd_en, rd_st, h]; rfl
theorem ex_depTag : dpF exS nTag = 1 := by
  unfold dpF okS; rw [ex_check, show hasS exS.ss nTag = true by decide +kernel, ex_dTag]; rfl
theorem ex_depPose : dpF exS nPose = 3 := by
  unfold dpF okS; rw [ex_check, show hasS exS.ss nPose = true by decide +kernel, ex_dPose]; rfl
theorem ex_usL : usL exS nPose = [nMode, nTag] := by
  unfold usL okS; rw [ex_check, show hasS exS.ss nPose = true by decide +kernel, ex_uses]; rfl
end Go.Proofs.Ytpfmkfafagiicaa
namespace Go.Proofs.Ytpfmkfafagiicaa
open Go.W
def nsPre : List S → Prop := fun av => match av with
  | [.va (.c1 (.fz r)), .va (.c1 (.fz q))] => isBs r ∧ isBs q
  | _ => False
theorem nsPre_open {av : List S} (h : nsPre av) : ∃ a b : List ByteArray, av = [.va (.c1 (.fz (a.map stR))), .va (.c1 (.fz (b.map stR)))] ∧ a.length ≤ 9223372036854775807 ∧ b.length ≤ 9223372036854775807 := by
  unfold nsPre at h
  split at h
  · obtain ⟨⟨a, rfl, h1⟩, ⟨b, rfl, h2⟩⟩ := h
    exact ⟨a, b, rfl, h1, h2⟩
  · exact h.elim
noncomputable def nsVal : List S → A := fun av => match av with
  | [.va (.c1 (.fz r)), .va (.c1 (.fz q))] => bA (decide (r.map C.bs = q.map C.bs))
  | _ => .gs []
noncomputable def nsFn : Fun := ⟨nsPre, nsVal, fun av h => by obtain ⟨a, b, rfl, _⟩ := nsPre_open h; trivial⟩
theorem nsFn_len : ∀ av H K, nsFn.sp av H K → av.length = 2 := fun av H K h => by obtain ⟨a, b, rfl, _⟩ := nsPre_open h.1.1; rfl
attribute [go_sem] nsFn nsPre nsVal
set_option maxRecDepth 100000 in
theorem mNames : Meets Try.prog 16 nsFn.sp := by
  refine meets_fn Try.func16 ok16 2 (by rw [Try.ntmps16]; decide) (meetsAll_nil _) nsFn_len ?_
  rintro av H K ⟨⟨h, rfl⟩, hK⟩
  obtain ⟨a, b, rfl, ha, hb⟩ := nsPre_open h
  have hK : K (bS (decide (a = b))) [] := by
    have : nsFn.val [.va (.c1 (.fz (a.map stR))), .va (.c1 (.fz (b.map stR)))] = bA (decide (a = b)) := by simp -dsimp only [go_sem]
    rw [this] at hK; exact hK
  clear h
  have fin : ∀ x : Bool, decide (a = b) = x → W.Fin 0 K (bS x) [] := fun x h => by
    rw [h] at hK; exact .done hK
  simp (maxSteps := 1000000) -dsimp only [go_sem, pc16, rs16]
  refine ⟨fun h1 => fin false (decide_eq_false fun e => by subst e; simp at h1), fun h1 => ?_⟩
  have hl : a.length = b.length := by simp at h1; omega
  refine vc_loop (α := Nat) (fun i => [(0, .va (.c1 (.fz (a.map stR)))), (1, .va (.c1 (.fz (b.map stR)))), (5, iS .i64 i)]) (fun _ => [])
    (fun i => i ≤ a.length ∧ ∀ j, j < i → a[j]? = b[j]?) (fun i => a.length - i) 0 0 ⟨Nat.zero_le _, fun j hj => by omega⟩ ?_ ?_ ?_
  · simp [go_sem]
  · simp [go_sem]
  rintro i ⟨hi, ho⟩
  rcases Nat.lt_or_ge i a.length with hlt | hge
  · have hg : decide ((i : Int) < (a.length : Int)) = true := by simp; omega
    obtain ⟨x, hx⟩ : ∃ x, a[i]? = some x := ⟨_, List.getElem?_eq_getElem hlt⟩
    obtain ⟨y, hy⟩ : ∃ x, b[i]? = some x := ⟨_, List.getElem?_eq_getElem (by omega)⟩
    have q1 := row_rg' (row := stR) hx
    have q2 := row_rg' (row := stR) hy
    simp (maxSteps := 1000000) -dsimp only [go_sem, hg, ↓q1, ↓q2, bl_beq]
    refine ⟨by omega, by omega, fun hc => ?_, fun hc => ⟨by omega, loop_next (i + 1) 0 ⟨by omega, fun j hj => ?_⟩ (by omega) ?_ ?_⟩⟩
    · refine fin false (decide_eq_false fun e => ?_)
      subst e
      rw [hx] at hy
      obtain rfl := Option.some.inj hy
      simp at hc
    · rcases Nat.lt_or_ge j i with h4 | h4
      · exact ho j h4
      · obtain rfl : j = i := by omega
        have : x = y := by simpa using hc
        rw [hx, hy, this]
    · simp [go_sem]
    · simp [go_sem]
  · have hg : decide ((i : Int) < (a.length : Int)) = false := by simp; omega
    obtain rfl : i = a.length := by omega
    simp (maxSteps := 1000000) -dsimp only [go_sem, hg]
    exact fin true (decide_eq_true (list_ext_lt hl ho))
end Go.Proofs.Ytpfmkfafagiicaa
namespace Go.Proofs.Ytpfmkfafagiicaa
open Go.W
theorem gh_tail {Γ : Env} {k0 : Nat} {x : PC} {fr : Fr} {H : Hp} {K : Ex → Fr → Hp → Prop} {up : List (Nat × S)} {Hs : Hp} (ns : List Nat) (h : vc Γ k0 x.ungh (puts up) Hs K) (h3 : ns.Nodup) (h4 : ∀ n ∈ ns, n < H.length) (h5 : ns.take k0 = List.range k0)
    (h1 : agree' ns fr up) (h2 : (pickH H ns).map (B.ren (loc ns)) = Hs) : Gh k0 (fun fr' H' => vc Γ k0 x.ungh fr' H' K) fr H :=
  .sel ns h3 h4 h5 (.wk _ (puts_wk' h1) (.done (by rw [h2]; exact h)))
def awFn : Fun := ⟨fun av => av = [], fun _ => bA true, fun _av _ => trivial⟩
attribute [go_sem] awFn
set_option maxRecDepth 100000 in
set_option maxHeartbeats 4000000 in
theorem mAwake : Meets Try.prog 11 awFn.sp := by
  refine meets_fn Try.func11 ok11 0 (by rw [Try.ntmps11]; decide) (meetsAll_s mExample (meetsAll_s mStructP (meetsAll_s mFieldOfP (meetsAll_f mCheck (meetsAll_s mUsesP (meetsAll_f mNames (meetsAll_f mDepthP (meetsAll_nil _)))))))) (fun av H K h => by obtain ⟨⟨rfl, _⟩, _⟩ := h; rfl) ?_
  rintro av H K ⟨⟨rfl, rfl⟩, hK⟩
  have hK : K (bS true) [] := hK
  simp (maxSteps := 1000000) -dsimp only [go_sem, pc11, rs11]
  have e1 : stC stPose = [.vl (.string nPose), .fz [flC flX, flC flTags]] := rfl
  have e2 : flC flMode = [.vl (.int .i64 1), .vl (.string (mk [109, 111, 100, 101])), .vl (.int .i64 7), .vl (.int .i64 0), .vl (.string nMode), .fz [], .vl (.bool false)] := rfl
  refine ⟨rfl, rfl, ?_⟩
  simp (maxSteps := 1000000) -dsimp only [go_sem]
  refine ⟨rfl, rfl, ?_⟩
  simp (maxSteps := 1000000) -dsimp only [go_sem, e1, e2]
  refine ⟨by omega, fun r hr => ?_⟩
  subst hr
  simp (maxSteps := 1000000) -dsimp only [go_sem]
  and_intros
  all_goals first
    | omega
    | skip
  intro r hr
  subst hr
  have e3 : stC stTag = [.vl (.string nTag), .fz [flC flMode]] := rfl
  have e4 : scC exS = [.vl (.int .i64 1), .fz [enC enMode], .fz [stC stTag, stC stPose]] := rfl
  have e5 : scC rdS = [.vl (.int .i64 1), .fz [enC enMode], .fz [stC stRound, stC stPose]] := rfl
  have e6 : stC stRound = [.vl (.string nTag), .fz [flC flRound]] := rfl
  have e7 : flC flRound = [.vl (.int .i64 1), .vl (.string (mk [109, 111, 100, 101])), .vl (.int .i64 6), .vl (.int .i64 0), .vl (.string nPose), .fz [], .vl (.bool false)] := rfl
  refine vc_head rfl (.pub 1 _ _ _ rfl (.shu 0 _ _ _ rfl ?_ (.pub 0 _ _ _ rfl (.opn 4 _ _ _ rfl (.nfr 4 _ _ _ rfl (.shu 4 _ _ _ rfl ?_ (.pub 4 _ _ _ rfl (.shu 3 _ _ _ rfl ?_ (.pub 3 _ _ _ rfl ?_)))))))))
  · simp [C.shut, C.pub]
  · simp [C.shut, C.nf]
  · simp [C.shut, C.pub]
  refine gh_tail (up := [(1, .va (.c1 (.pt 0 0))), (2, .va (.c1 (.pt 1 0)))]) (Hs := [.cells (scC exS) 25, .cells (scC rdS) 25]) [2, 5] ?_ (by simp) (by simp [pubH]) rfl ?_ ?_
  · have hs0 : fS exS.ss nTag = some stTag := ex_good.nd stTag (by simp [exS])
    have hs1 : hasS exS.ss nTag = true := by rw [← fS_has, hs0]; rfl
    have hf0 : fF stPose.fs 3 = some flTags := rfl
    have hsf := isScF_mk ex_fit
    have hrf := isScF_mk rd_fit
    have hsd := sc_dec exS
    have hrd := sc_dec rdS
    rw [e4] at hsf hsd
    rw [e5] at hrf hrd
    have l1 : (scC exS).length = 3 := rfl
    simp (maxSteps := 1000000) -dsimp only [go_sem, pc11_4, e4, e5]
    refine stp_use (s := exS) ex_fit ?_
    rw [hs0, hs1]
    simp (maxSteps := 1000000) -dsimp only [go_sem, Option.getD_some, e3]
    refine vc_tail (up := [(1, .va (.c1 (.pt 0 0))), (2, .va (.c1 (.pt 1 0))), (3, .va (.c1 (.pt 2 0))), (4, bS true)]) (Hs := [.cells (scC exS) 25, .cells (scC rdS) 25, .cells (stC stTag) 32]) 3 ?_ ?_ ?_
    · simp (maxSteps := 1000000) -dsimp only [go_sem, pc11_5, e4, e5, e3]
      refine ⟨⟨by omega, fun r hr => by subst hr; rfl⟩, fun r hr => ?_⟩
      subst hr
      simp (maxSteps := 1000000) -dsimp only [go_sem, e1]
      refine fop_use (t := stPose) (ex_fit.ok.ss stPose (by simp [exS])) (ex_fit.sm stPose (by simp [exS])).2 ?_
      rw [hf0]
      have e8 : flC flTags = [.vl (.int .i64 3), .vl (.string (mk [116, 97, 103, 115])), .vl (.int .i64 5), .vl (.int .i64 4), .vl (.string (mk [])), .fz [tyC tyTag], .vl (.bool false)] := rfl
      simp (maxSteps := 1000000) -dsimp only [go_sem, Option.getD_some, Option.isSome_some, e8]
      refine vc_tail (up := [(1, .va (.c1 (.pt 0 0))), (2, .va (.c1 (.pt 1 0))), (3, .va (.c1 (.pt 2 0))), (4, bS true), (5, .va (.c1 (.pt 3 0))), (6, bS true)]) (Hs := [.cells (scC exS) 25, .cells (scC rdS) 25, .cells (stC stTag) 32, .cells (flC flTags) 53]) 4 ?_ ?_ ?_
      · rw [e3] at hsf hsd
        have k1 : ((0 : Int) == 0) = true := rfl
        have k2 : ((19 : Int) == 19) = true := rfl
        have k3 : ((1 : Int) == 1) = true := rfl
        have k4 : ((3 : Int) == 3) = true := rfl
        have hb : isBs ([nMode, nTag].map stR) := isBs_mk (by simp)
        have hm : [nMode, nTag].map stR = [[.vl (.string nMode)], [.vl (.string nTag)]] := rfl
        rw [hm] at hb
        have hbs : [[C.vl (.string nMode)], [.vl (.string nTag)]].map C.bs = [nMode, nTag] := bs_map [nMode, nTag]
        simp (maxSteps := 1000000) -dsimp only [go_sem, pc11_6, e4, e5, e3, e8, hsf, hrf, hsd, hrd, ex_check, rd_check, k1, k2]
        refine usp_use (s := exS) (n := nPose) ex_fit ?_
        rw [ex_usL, hm]
        simp (maxSteps := 1000000) -dsimp only [go_sem, hb, hbs, ex_depTag, ex_depPose, k3, k4, Bool.and_true]
        rw [decide_true]
        exact .sel [] (by simp) (by simp) rfl (.done (by simpa [go_sem] using hK))
      · simp -dsimp only [go_sem] <;> simp
      · simp -dsimp only [go_sem, e1, e2, e3, e4, e5, e6, e7, e8] <;> simp
    · simp -dsimp only [go_sem] <;> simp
    · simp -dsimp only [go_sem, e1, e2, e3, e4, e5, e6, e7] <;> simp
  · simp -dsimp only [go_sem] <;> simp
  · simp -dsimp only [go_sem, pubH, e1, e2, e3, e4, e5, e6, e7] <;> simp
end Go.Proofs.Ytpfmkfafagiicaa
namespace Go.W
open Go.RowKit
structure Stay (w w' : World) : Prop where
  os : w'.os = w.os
  out : w'.output = w.output
  size : w.heap.size ≤ w'.heap.size
  keep : ∀ b : Nat, b < w.heap.size → w'.heap[b]? = w.heap[b]?
theorem Stay.kept {w w' : World} (h : Stay w w') (may : MemPlace → Prop) : w.keptBut w' may := by
  refine ⟨h.os, h.out, fun i hi => ?_⟩
  rw [h.keep i hi]
  split
  · rename_i h1 h2; rw [h1] at h2; cases h2; exact ⟨rfl, rfl, rfl, fun _ _ => rfl⟩
  · rename_i h1 h2; rw [h1] at h2; cases h2; exact Or.inr ⟨rfl, rfl⟩
  · rfl
theorem Stay.frozen {w w' : World} (h : Stay w w') {a : Addr} (ha : a.block < w.heap.size) : w'.frozen? a = w.frozen? a := by
  unfold World.frozen?; rw [h.keep _ ha]
theorem Stay.cell {w w' : World} (h : Stay w w') {a : Addr} (ha : a.block < w.heap.size) : w'.cell? a = w.cell? a := by
  unfold World.cell?; rw [h.keep _ ha]
theorem rel_nil {w : World} {ro : RO} (h : ∀ (b off : Nat) (v : Value), ro b off = some v → w.cell? ⟨b, off, none⟩ = some v) : Rel ⟨w, blks [], ro, gm []⟩ [] ro w where
  own := fun n g blk h => by simp at h
  inj := fun n m gn gm bn bm b h => by simp at h
  apart := fun b off v _ n g blk h => by simp at h
  rd := h
  ro0 := fun _ _ _ h => h
  rob := fun b off v h => .inl h
  par := fun n b g blk h => by simp at h
  gx := .refl _
  sz := Nat.le_refl _
  keep := fun b _ _ => rfl
  os := rfl
  tape := rfl
  output := rfl
theorem Meets.run {P : Program} {f : FuncId} {s : Fun} (hm : Meets P f s.sp) {av : List S} {vs : List Value} {ro : RO} {w : World} {x : A} (hpre : s.pre av) (hval : s.val av = x) (hl : av.length = vs.length)
    (hrel : ∀ (i : Nat) (x : S) (v : Value), av[i]? = some x → vs[i]? = some v → x.rel (gm []) ro v) (hro : ∀ (b off : Nat) (v : Value), ro b off = some v → w.cell? ⟨b, off, none⟩ = some v) :
    Calls P f vs.toArray w fun e w' => ∃ v γ ro', e = .returned v ∧ S.rel γ ro' (.va x) v ∧ Stay w w' := by
  subst hval
  refine (hm.2 av vs [] ro w (fun r H => r = .va (s.val av) ∧ H = []) hl hrel (rel_nil hro) ⟨⟨hpre, rfl⟩, rfl, rfl⟩).mono ?_
  rintro e w' ⟨r, v, E', ro', rfl, h1, ⟨rfl, h2⟩, h3⟩
  exact ⟨v, _, ro', rfl, h1, h3.os, h3.output, h3.sz, fun b hb => h3.keep b hb (by simp [blks])⟩
theorem Meets.yes {P : Program} {f : FuncId} {s : Fun} (hm : Meets P f s.sp) {av : List S} {vs : List Value} {ro : RO} {w : World} (hpre : s.pre av) (hval : s.val av = .c1 (.vl (.bool true))) (hl : av.length = vs.length)
    (hrel : ∀ (i : Nat) (x : S) (v : Value), av[i]? = some x → vs[i]? = some v → x.rel (gm []) ro v) (hro : ∀ (b off : Nat) (v : Value), ro b off = some v → w.cell? ⟨b, off, none⟩ = some v) :
    Calls P f vs.toArray w fun e w' => e = .returned (.bool true) ∧ Stay w w' := by
  refine (hm.run hpre hval hl hrel hro).mono ?_
  rintro e w' ⟨v, γ, ro', rfl, h1, h2⟩
  have : v = .bool true := h1
  exact ⟨by rw [this], h2⟩
section
variable {H : Type} {enc : TypeId × Value → H} {P : Program}
theorem post_of_stay {f : Func} {s : ChangeSpec} {apart fresh handsOn again : Bool} {W W' : World} {args : Array Value} {v : Value} {ds gs : List (DataW H)} {before pa pv : List MemPlace}
    (hW : DataW.Whole enc P f.params.toList s.vars apart W args.toList ds gs before)
    (hres : ∀ (b : Nat) (sp : Nat → Bool) (hd : Bool), DataW.TrodAll enc P W' b sp hd f.resultTypes.toList (v.resultList f.resultTypes.size) (s.fn H (ds ++ gs)).results [])
    (hargs : ∀ sp : Nat → Bool, (∀ p ∈ before, sp p.block = true) → DataW.TrodAll enc P W' 0 sp true f.params.toList args.toList (s.fn H (ds ++ gs)).args pa)
    (hvars : ∀ sp : Nat → Bool, (∀ p ∈ before, sp p.block = true) → DataW.TrodVars enc P W' sp s.vars (s.fn H (ds ++ gs)).vars pv)
    (hps : before = pa ++ pv) (hs : Stay W W')
    (hok : ∀ (j : Nat) (t : TypeId) (r : Value), f.resultTypes[j]? = some t → (v.resultList f.resultTypes.size)[j]? = some r → Value.okWide P W' .any 0 t r) :
    s.post enc P f apart fresh handsOn again W args v W' := by
  have hlt : ∀ p ∈ before, p.block < W.heap.size := fun p hp => hW.lt p hp
  have hsp : ∀ p ∈ before, (fun b => decide (b < W.heap.size)) p.block = true := fun p hp => by simpa using hlt p hp
  have hall : ∀ p ∈ before, (fun _ : Nat => true) p.block = true := fun _ _ => rfl
  obtain ⟨_, _, _, _, _, hz, hn⟩ := id hW
  refine ⟨ds, gs, before, [], pa, pv, hW, hres _ _ _, hargs _ hsp, hvars _ hsp, World.keptBut_mono (fun p hp => ⟨hp, .inr ?_⟩) (hs.kept (· ∈ before)), fun _ => ⟨hok, _, _, ([] ++ pa) ++ pv,
    ⟨[] ++ pa, pv, ChangeShapes.trodAll_append (hargs _ hall) (hres _ _ _), hvars _ hall, rfl, fun b off hp => ?_, fun ha => ?_⟩, fun p hp _ => ?_⟩⟩
  · rw [hps, List.mem_append] at hp; exact hp
  · have hb : MemPlace.cell b off ∈ before := by rw [hps]; simpa using hp
    rw [hs.frozen (hlt _ hb)]
    exact hz b off hb
  · have := hn ha
    rw [hps] at this
    simpa using this
  · rw [hps]
    simpa using hp
end
end Go.W
namespace Go.W
open Go.RowKit
def roW (W : World) : RO := fun b off => W.cell? ⟨b, off, none⟩
theorem roW_ok (W : World) : ∀ (b off : Nat) (v : Value), roW W b off = some v → W.cell? ⟨b, off, none⟩ = some v := fun _ _ _ h => h
theorem fz_nil (ro : RO) : FzR ro [] (.slice none 0 0) :=
  FzR.mk [] 1 none none (fun h => absurd rfl h) 0 (fun _ => .bool true) (by simp) (by simp) (by simp) (by simp) (by simp) (by simp) (by simp)
def slicesRoom (P : Program) : Bool := (List.range P.types.size).all fun t => match P.underlying t with | some (.slice e) => decide (0 < P.cellsOf e) | _ => true
section
variable {H : Type} {enc : TypeId × Value → H} {P : Program}
theorem stay_same {W W' : World} (h : Stay W W') {p : MemPlace} (hp : p.block < W.heap.size) : W.sameAt W' p := by
  cases p with
  | cell b off => exact h.cell (a := ⟨b, off, none⟩) hp
  | map b => exact h.keep b hp
theorem trodAll_stay {W W' : World} {sp : Nat → Bool} (hl : laidOutB P = true) (hm : mapsRowed P = true) (hs : slicesRoom P = true) (hst : Stay W W') :
    ∀ {ts : List TypeId} {vs : List Value} {ds : List (DataW H)} {ps : List MemPlace}, (∀ t ∈ ts, t < P.types.size) → DataW.TrodAll enc P W 0 (fun _ => true) true ts vs ds ps → (∀ p ∈ ps, p.block < W.heap.size) → (∀ p ∈ ps, sp p.block = true) →
      DataW.TrodAll enc P W' 0 sp true ts vs ds ps
  | [], [], [], ps, _, h, _, _ => h
  | t :: ts, v :: vs, d :: ds, ps, ht, h, hb, hp => by
    obtain ⟨p, q, ⟨n, h1⟩, h2, rfl⟩ := h
    have hsz : ∀ {t e : TypeId}, t < P.types.size → P.underlying t = some (.slice e) → 0 < P.cellsOf e := fun {t e} ht hu => by
      have := List.all_eq_true.1 hs t (List.mem_range.2 ht)
      rw [hu] at this
      simpa using this
    exact ⟨p, q, ⟨n, DataW.trod_stays (T := (· < P.types.size)) (kids_rows hl hm) hsz (fun h => by cases h) (ht t (by simp)) h1 (fun x hx => stay_same hst (hb x (by simp [hx]))) (fun x hx => hp x (by simp [hx]))⟩,
      trodAll_stay hl hm hs hst (fun u hu => ht u (by simp [hu])) h2 (fun x hx => hb x (by simp [hx])) (fun x hx => hp x (by simp [hx])), rfl⟩
  | [], _ :: _, _, _, _, h, _, _ => h.elim
  | [], [], _ :: _, _, _, h, _, _ => h.elim
  | _ :: _, [], _, _, _, h, _, _ => h.elim
  | _ :: _, _ :: _, [], _, _, h, _, _ => h.elim
theorem law_post {f : Func} {s : ChangeSpec} {apart fresh handsOn again : Bool} {W W' : World} {args : Array Value} {ds gs : List (DataW H)} {before : List MemPlace} {tb : TypeId}
    (hl : laidOutB P = true) (hm : mapsRowed P = true) (hsr : slicesRoom P = true) (hps : ∀ t ∈ f.params.toList, t < P.types.size) (hrt : f.resultTypes = #[tb]) (htb : P.underlying tb = some .bool)
    (hvars : s.vars = []) (hW : DataW.Whole enc P f.params.toList s.vars apart W args.toList ds gs before) (hfn : s.fn H (ds ++ gs) = { results := [.lit (.bool true)], args := ds, vars := [] }) (hst : Stay W W') :
    s.post enc P f apart fresh handsOn again W args (.bool true) W' := by
  have hlt : ∀ p ∈ before, p.block < W.heap.size := fun p hp => hW.lt p hp
  obtain ⟨p, q, hA, hV, hb, _, _⟩ := id hW
  have hq : q = [] := by
    rw [hvars] at hV
    cases gs with
    | nil => exact hV
    | cons g gs => exact hV.elim
  subst hq
  have hbp : before = p := by rw [hb]; simp
  refine post_of_stay (pa := p) (pv := []) hW (fun b sp hd => ?_) (fun sp hsp => ?_) (fun sp hsp => ?_) hb hst ?_
  · rw [hrt, hfn]
    exact ⟨[], [], ⟨1, by simp [DataW.trod, Value.cells, htb]⟩, rfl, rfl⟩
  · rw [hfn]
    rw [hbp] at hlt hsp
    exact trodAll_stay hl hm hsr hst hps hA hlt hsp
  · rw [hfn, hvars]; rfl
  · intro j t r h1 h2
    rw [hrt] at h1 h2
    match j with
    | 0 =>
      cases h1
      cases h2
      simp [Value.okWide, Cell.okWide, Cell.ok, htb]
    | j + 1 => cases h1
end
end Go.W
