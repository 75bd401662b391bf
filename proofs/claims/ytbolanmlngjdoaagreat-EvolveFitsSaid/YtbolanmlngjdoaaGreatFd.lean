/- Lemmas and walks for the proof. -/
import Derived.Test.YtbolanmlngjdoaaGreatFc
import Derived.Test.YtbolanmlngjdoaaGreatProg
import Derived.WalkKit
import Derived.Sort.Grow
import Derived.Lib.Bytealg
import Derived.Deep.Draws
import Derived.StillTail
import Derived.StillTactics
import Derived.Shelf.SlSortCmp.NoneTotal
import Derived.ProofKit
import Derived.OpenShut
import Derived.ChangeStays
import Derived.Deep.Slices
import Derived.JoinedCond
import Derived.Shelf.Small.Strs
import Derived.Shelf.Slices.Clone
namespace Go.Proofs.YtbolanmlngjdoaaGreat
open Go.W
def cdSp : W.Spec := fun av H K => ∃ f : Fl, av = [.va (.gs (flC f))] ∧ H = [] ∧ f.ok ∧ TySm f.ty ∧ K (.va (.gs (flC f))) []
theorem cd_use {f : Fl} {K : S → Hp → Prop} (h1 : f.ok) (h2 : TySm f.ty) (hK : K (.va (.gs (flC f))) []) : cdSp [.va (.gs (flC f))] [] K := ⟨f, rfl, rfl, h1, h2, hK⟩
set_option maxRecDepth 100000 in
theorem mCopyField : Meets Tryz.prog 94 cdSp := by
  refine meets_all 0 (t := fun N => fun av H K => ∃ f : Fl, av = [.va (.gs (flC f))] ∧ H = [] ∧ f.ok ∧ TySm f.ty ∧ f.ty.h = N ∧ K (.va (.gs (flC f))) []) (fun N => ?_) fun av H K ⟨f, e1, e2, h1, h2, hK⟩ => ⟨f.ty.h, f, e1, e2, h1, h2, rfl, hK⟩
  refine meets_fn Tryz.func94 ok94 1 (by rw [Tryz.ntmps94]; decide) (meetsAll_s (mCopyType N) (meetsAll_nil _)) (fun av H K h => by obtain ⟨_, rfl, _⟩ := h; rfl) ?_
  rintro av H K ⟨f, rfl, rfl, h1, h2, rfl, hK⟩
  simp (maxSteps := 1000000) -dsimp only [go_sem, flC, pc94, rs94, fl_ty]
  refine ct_use h1.ty h2 (Nat.le_refl _) ?_
  simp (maxSteps := 1000000) -dsimp only [go_sem, tyC_eq]
  exact .sel [] (by simp) (by simp) rfl (.done (by simpa [go_sem, flC] using hK))
theorem flC_ss (f : Fl) : ∀ c ∈ flC f, c.shut = true ∧ c.one := by simp [flC, go_sem, C.shut]
def csSp' : W.Spec := fun av H K => ∃ t : St, av = [.va (.gs (stC t))] ∧ H = [] ∧ t.ok ∧ (t.fs.length ≤ 1000000000 ∧ ∀ f ∈ t.fs, TySm f.ty) ∧ K (.va (.gs (stC t))) []
theorem cs_use {t : St} {K : S → Hp → Prop} (h1 : t.ok) (h2 : t.fs.length ≤ 1000000000 ∧ ∀ f ∈ t.fs, TySm f.ty) (hK : K (.va (.gs (stC t))) []) : csSp' [.va (.gs (stC t))] [] K := ⟨t, rfl, rfl, h1, h2, hK⟩
set_option maxRecDepth 100000 in
theorem mCopyStruct : Meets Tryz.prog 59 csSp' := by
  refine meets_fn Tryz.func59 ok59 1 (by rw [Tryz.ntmps59]; decide) (meetsAll_s mCopyField (meetsAll_nil _)) (fun av H K h => by obtain ⟨_, rfl, _⟩ := h; rfl) ?_
  rintro av H K ⟨⟨n, l⟩, rfl, rfl, h1, ⟨hl, hse⟩, hK⟩
  obtain ⟨hn, _, hfs⟩ := h1
  simp only at hn hl hse hfs
  simp (maxSteps := 1000000) -dsimp only [go_sem, stC, pc59, rs59]
  refine vc_loop_gh (α := Nat) (fun i => [(2, .va (.c1 (.pt 1 0))), (3, .va (.c1 (.pt 2 0))), (10, .va (.c1 (.fz (l.map flC)))), (11, iS .i64 l.length), (12, iS .i64 i)]) (fun i => [.cells (stC ⟨n, l⟩) 37, .cells [.vl (.string (mk [])), .vl (.slice none 0 0)] 37, .cells [.vl (.string n), .sl 3 i] 37, .row ((l.take i).map flC) 50 7])
    (fun i => i ≤ l.length) (fun i => l.length - i) (.nilc 2 1 50 7 [.vl (.string n), .vl (.slice none 0 0)] 37 rfl rfl (gh_at 0 4 (Nat.zero_le _) ?_ ?_)) ?_
  · simp -dsimp only [go_sem] <;> simp
  · simp -dsimp only [go_sem, stC] <;> simp
  intro i hi
  have hz : (l.take i).length = i := by rw [List.length_take]; omega
  rcases Nat.lt_or_ge i l.length with hlt | hge
  · have hg : decide ((i : Int) < (l.length : Int)) = true := by simp; omega
    obtain ⟨u, hx⟩ : ∃ t, l[i]? = some t := ⟨_, List.getElem?_eq_getElem hlt⟩
    have q1 := row_rg' (row := flC) hx
    have hu := List.mem_of_getElem? hx
    have hcd : flC u = [.vl (.int .i64 u.num), .vl (.string u.nm), .vl (.int .i64 u.ty.k), .vl (.int .i64 u.ty.s), .vl (.string u.ty.n), .fz (u.ty.e.map tyC), .vl (.bool u.opt)] := rfl
    simp (maxSteps := 1000000) -dsimp only [go_sem, hg, ↓q1, flC]
    refine ⟨by omega, cd_use (hfs u hu) (hse u hu) ?_⟩
    simp (maxSteps := 1000000) -dsimp only [go_sem, flC]
    refine ⟨hz, by omega, by omega, loop_next (i + 1) 4 (by omega) (by omega) ?_ ?_⟩
    · simp -dsimp only [go_sem] <;> simp
    · simp -dsimp only [go_sem, stC, take_next hx] <;> simp [flC]
  · have hg : decide ((i : Int) < (l.length : Int)) = false := by simp; omega
    obtain rfl : i = l.length := by omega
    rw [List.take_length]
    simp (maxSteps := 1000000) -dsimp only [go_sem, hg]
    refine .pub 3 _ _ _ rfl (.sel [] (by simp) (by simp [pubH]) rfl (.done ?_))
    simp -dsimp only [go_sem, pubH]
    simpa [stC] using hK
theorem fnd_step {α : Type} {l : List α} {i : Nat} {x : α} (hx : l[i]? = some x) (p : α → Bool) : (l.drop i).find? p = bif p x then some x else (l.drop (i + 1)).find? p := by
  obtain ⟨h, rfl⟩ := List.getElem?_eq_some_iff.1 hx
  rw [List.drop_eq_getElem_cons h, List.find?_cons]
  cases p l[i] <;> rfl
def stSpP : W.Spec := fun av H K => ∃ (s : Sc) (n : ByteArray), av = [.va (.gs (scC s)), tS n] ∧ H = [] ∧ s.fit ∧ K (.tu [.gs (stC ((fS s.ss n).getD default)), bA (hasS s.ss n)]) []
theorem stp_use {s : Sc} {n : ByteArray} {K : S → Hp → Prop} (h : s.fit) (hK : K (.tu [.gs (stC ((fS s.ss n).getD default)), bA (hasS s.ss n)]) []) : stSpP [.va (.gs (scC s)), tS n] [] K := ⟨s, n, rfl, rfl, h, hK⟩
theorem stC_def : stC default = [.vl (.string (mk [])), .fz []] := rfl
theorem flC_def : flC default = [.vl (.int .i64 0), .vl (.string (mk [])), .vl (.int .i64 0), .vl (.int .i64 0), .vl (.string (mk [])), .fz [], .vl (.bool false)] := rfl
set_option maxRecDepth 100000 in
theorem mStructP : Meets Tryz.prog 20 stSpP := by
  refine meets_fn Tryz.func20 ok20 2 (by rw [Tryz.ntmps20]; decide) (meetsAll_s mCopyStruct (meetsAll_nil _)) (fun av H K h => by obtain ⟨_, _, rfl, _⟩ := h; rfl) ?_
  rintro av H K ⟨s, n, rfl, rfl, hs, hK⟩
  rw [← fS_has] at hK
  have hl := hs.ok.ls
  simp -dsimp only [go_sem, scC, pc20, rs20]
  refine vc_loop (α := Nat) (fun i => [(1, tS n), (2, .va (.c1 (.pt 0 0))), (4, .va (.c1 (.pt 1 0))), (9, .va (.c1 (.fz (s.ss.map stC)))), (10, iS .i64 s.ss.length), (11, iS .i64 i)]) (fun _ => [.cells (scC s) 25, .cells [.vl (.string (mk [])), .vl (.slice none 0 0)] 37])
    (fun i => i ≤ s.ss.length ∧ fS (s.ss.drop i) n = fS s.ss n) (fun i => s.ss.length - i) 0 2 ⟨Nat.zero_le _, rfl⟩ ?_ ?_ ?_
  · simp [go_sem]
  · simp [go_sem, scC]
  rintro i ⟨hi, ho⟩
  rcases Nat.lt_or_ge i s.ss.length with hlt | hge
  · have hg : decide ((i : Int) < (s.ss.length : Int)) = true := by simp; omega
    obtain ⟨t, hx⟩ : ∃ e, s.ss[i]? = some e := ⟨_, List.getElem?_eq_getElem hlt⟩
    have q2 := row_rg' (row := stC) hx
    have htm := List.mem_of_getElem? hx
    rw [fS, fnd_step hx] at ho
    cases hc : decide (t.nm = n) with
    | true =>
      rw [hc, Bool.cond_true] at ho
      rw [← ho] at hK
      simp (maxSteps := 1000000) -dsimp only [go_sem, hg, ↓q2, stC, scC, bl_beq, hc]
      refine ⟨by omega, cs_use (hs.ok.ss t htm) (hs.sm t htm) ?_⟩
      simp (maxSteps := 1000000) -dsimp only [go_sem, stC]
      exact .sel [] (by simp) (by simp) rfl (.done (by simpa [go_sem, stC] using hK))
    | false =>
      rw [hc, Bool.cond_false] at ho
      simp (maxSteps := 1000000) -dsimp only [go_sem, hg, ↓q2, stC, scC, bl_beq, hc]
      refine ⟨by omega, by omega, loop_next (i + 1) 2 ⟨by omega, ho⟩ (by omega) ?_ ?_⟩
      · simp [go_sem]
      · simp [go_sem, scC]
  · have hg : decide ((i : Int) < (s.ss.length : Int)) = false := by simp; omega
    obtain rfl : i = s.ss.length := by omega
    rw [List.drop_length] at ho
    rw [← ho] at hK
    simp -dsimp only [go_sem, hg, scC]
    exact .sel [] (by simp) (by simp) rfl (.done (by simpa [go_sem, fS, stC_def] using hK))
def fF (l : List Fl) (k : Int) : Option Fl := l.find? fun f => decide (f.num = k)
def foSpP : W.Spec := fun av H K => ∃ (t : St) (k : Int), av = [.va (.gs (stC t)), iS .i64 k] ∧ H = [] ∧ t.ok ∧ (∀ f ∈ t.fs, TySm f.ty) ∧ K (.tu [.gs (flC ((fF t.fs k).getD default)), bA (fF t.fs k).isSome]) []
theorem fop_use {t : St} {k : Int} {K : S → Hp → Prop} (h : t.ok) (h2 : ∀ f ∈ t.fs, TySm f.ty) (hK : K (.tu [.gs (flC ((fF t.fs k).getD default)), bA (fF t.fs k).isSome]) []) : foSpP [.va (.gs (stC t)), iS .i64 k] [] K := ⟨t, k, rfl, rfl, h, h2, hK⟩
set_option maxRecDepth 100000 in
theorem mFieldOfP : Meets Tryz.prog 60 foSpP := by
  refine meets_fn Tryz.func60 ok60 2 (by rw [Tryz.ntmps60]; decide) (meetsAll_s mCopyField (meetsAll_nil _)) (fun av H K h => by obtain ⟨_, _, rfl, _⟩ := h; rfl) ?_
  rintro av H K ⟨s, n, rfl, rfl, hs, hsm, hK⟩
  have hl := hs.len
  simp -dsimp only [go_sem, stC, pc60, rs60]
  refine vc_loop (α := Nat) (fun i => [(1, iS .i64 n), (2, .va (.c1 (.pt 0 0))), (4, .va (.c1 (.pt 1 0))), (9, .va (.c1 (.fz (s.fs.map flC)))), (10, iS .i64 s.fs.length), (11, iS .i64 i)]) (fun _ => [.cells (stC s) 37, .cells [.vl (.int .i64 0), .vl (.string (mk [])), .vl (.int .i64 0), .vl (.int .i64 0), .vl (.string (mk [])), .vl (.slice none 0 0), .vl (.bool false)] 50])
    (fun i => i ≤ s.fs.length ∧ fF (s.fs.drop i) n = fF s.fs n) (fun i => s.fs.length - i) 0 2 ⟨Nat.zero_le _, rfl⟩ ?_ ?_ ?_
  · simp [go_sem]
  · simp [go_sem, stC]
  rintro i ⟨hi, ho⟩
  rcases Nat.lt_or_ge i s.fs.length with hlt | hge
  · have hg : decide ((i : Int) < (s.fs.length : Int)) = true := by simp; omega
    obtain ⟨t, hx⟩ : ∃ e, s.fs[i]? = some e := ⟨_, List.getElem?_eq_getElem hlt⟩
    have q2 := row_rg' (row := flC) hx
    have htm := List.mem_of_getElem? hx
    rw [fF, fnd_step hx] at ho
    have hq : (t.num == n) = decide (t.num = n) := rfl
    cases hc : decide (t.num = n) with
    | true =>
      rw [hc, Bool.cond_true] at ho
      rw [← ho] at hK
      simp (maxSteps := 1000000) -dsimp only [go_sem, hg, ↓q2, flC, stC, hq, hc]
      refine ⟨by omega, cd_use (hs.fs t htm) (hsm t htm) ?_⟩
      simp (maxSteps := 1000000) -dsimp only [go_sem, flC]
      exact .sel [] (by simp) (by simp) rfl (.done (by simpa [go_sem, flC] using hK))
    | false =>
      rw [hc, Bool.cond_false] at ho
      simp (maxSteps := 1000000) -dsimp only [go_sem, hg, ↓q2, flC, stC, hq, hc]
      refine ⟨by omega, by omega, loop_next (i + 1) 2 ⟨by omega, ho⟩ (by omega) ?_ ?_⟩
      · simp [go_sem]
      · simp [go_sem, stC]
  · have hg : decide ((i : Int) < (s.fs.length : Int)) = false := by simp; omega
    obtain rfl : i = s.fs.length := by omega
    rw [List.drop_length] at ho
    rw [← ho] at hK
    simp -dsimp only [go_sem, hg, stC]
    exact .sel [] (by simp) (by simp) rfl (.done (by simpa [go_sem, fF, flC_def] using hK))
end Go.Proofs.YtbolanmlngjdoaaGreat
namespace Go.Proofs.YtbolanmlngjdoaaGreat
open Go.W
@[go_sem] theorem tyC_bor (t : Ty) (H : Hp) : (tyC t).map (C.bor H) = tyC t := by rw [tyC_eq]; rfl
noncomputable def tyB (a b : Ty) : Bool := @decide (a = b) (Classical.propDecidable _)
theorem tyB_eq {a b : Ty} (h : a = b) : tyB a b = true := by unfold tyB; simp [h]
theorem tyB_ne {a b : Ty} (h : a ≠ b) : tyB a b = false := by unfold tyB; simp [h]
theorem tyB_iff {a b : Ty} : tyB a b = true ↔ a = b := by unfold tyB; simp
def saPre (N : Nat) : List S → Prop := fun av => match av with
  | [.va (.gs r), .va (.gs q)] => isTy r ∧ isTy q ∧ (C.ty r).h ≤ N
  | _ => False
theorem saPre_open {N : Nat} {av : List S} (h : saPre N av) : ∃ a b, av = [.va (.gs (tyC a)), .va (.gs (tyC b))] ∧ TyOk a ∧ TyOk b ∧ a.h ≤ N := by
  unfold saPre at h
  split at h
  · obtain ⟨⟨a, rfl, ha⟩, ⟨b, rfl, hb⟩, hh⟩ := h
    rw [ty_dec] at hh
    exact ⟨a, b, rfl, ha, hb, hh⟩
  · exact h.elim
noncomputable def saVal : List S → A := fun av => match av with
  | [.va (.gs r), .va (.gs q)] => bA (tyB (C.ty r) (C.ty q))
  | _ => .gs []
noncomputable def saFn (N : Nat) : Fun := ⟨saPre N, saVal, fun av h => by obtain ⟨a, b, rfl, _⟩ := saPre_open h; trivial⟩
theorem saFn_len {N : Nat} : ∀ av H K, (saFn N).sp av H K → av.length = 2 := fun av H K h => by obtain ⟨a, b, rfl, _⟩ := saPre_open h.1.1; rfl
attribute [go_sem] saFn saPre saVal
theorem mk_eq {k s k' s' : Int} {n n' : ByteArray} {e e' : List Ty} : (Ty.mk k s n e = Ty.mk k' s' n' e') ↔ (k = k' ∧ s = s' ∧ n = n' ∧ e = e') := by simp
set_option maxRecDepth 100000 in
theorem mSameP : ∀ N, Meets Tryz.prog 95 (saFn N).sp
  | 0 => ⟨by kernel_rfl, by rintro xs vs E ro w K _ _ _ ⟨⟨h, _⟩, _⟩; obtain ⟨a, _, _, _, _, h⟩ := saPre_open h; have := a.h_pos; omega⟩
  | N + 1 => by
    refine meets_fn Tryz.func95 ok95 2 (by rw [Tryz.ntmps95]; decide) (meetsAll_f (mSameP N) (meetsAll_nil _)) saFn_len ?_
    rintro av H K ⟨⟨h, rfl⟩, hK⟩
    obtain ⟨a, b, rfl, ha, hb, hh⟩ := saPre_open h
    have hK : K (bS (tyB a b)) [] := by
      have : (saFn (N + 1)).val [.va (.gs (tyC a)), .va (.gs (tyC b))] = bA (tyB a b) := by simp -dsimp only [go_sem]
      rw [this] at hK; exact hK
    clear h
    have fin : ∀ (x : Bool) (R : Hp), tyB a b = x → W.Fin 0 K (bS x) R := fun x R h => by
      rw [h] at hK
      exact .sel [] (by simp) (by simp) rfl (.done (by simpa [go_sem] using hK))
    obtain ⟨k, s, n, e⟩ := a
    obtain ⟨k', s', n', e'⟩ := b
    have hla := ha.len
    have hoa := ha.e
    have hob := hb.e
    simp only [Ty.e] at hla hoa hob
    simp (maxSteps := 1000000) -dsimp only [go_sem, tyC, tysC_map, pc95, rs95, bl_beq]
    refine ⟨fun h1 => fin false _ (tyB_ne fun he => ?_), fun h1 => ?_⟩
    · obtain ⟨rfl, rfl, rfl, rfl⟩ := mk_eq.1 he
      simp at h1
    simp only [Bool.or_eq_false_iff, bne_eq_false_iff_eq, Bool.not_eq_false', decide_eq_true_eq] at h1
    obtain ⟨⟨⟨rfl, rfl⟩, rfl⟩, hl⟩ := h1
    have hl : e.length = e'.length := by omega
    refine vc_loop (α := Nat) (fun i => [(2, .va (.c1 (.pt 0 0))), (3, .va (.c1 (.pt 1 0))), (36, iS .i64 e.length), (37, iS .i64 i)]) (fun i => [.cells (tyC (.mk k s n e)) 48, .cells (tyC (.mk k s n e')) 48])
      (fun i => i ≤ e.length ∧ ∀ j, j < i → e[j]? = e'[j]?) (fun i => e.length - i) 0 2 ⟨Nat.zero_le _, fun j hj => by omega⟩ ?_ ?_ ?_
    · simp -dsimp only [go_sem] <;> simp
    · simp -dsimp only [go_sem, tyC, tysC_map] <;> simp
    rintro i ⟨hi, ho⟩
    rcases Nat.lt_or_ge i e.length with hlt | hge
    · have hg : decide ((i : Int) < (e.length : Int)) = true := by simp; omega
      obtain ⟨u, hx⟩ : ∃ t, e[i]? = some t := ⟨_, List.getElem?_eq_getElem hlt⟩
      obtain ⟨v, hy⟩ : ∃ t, e'[i]? = some t := ⟨_, List.getElem?_eq_getElem (by omega)⟩
      have q1 := row_rg' (row := tyC) hx
      have q2 := row_rg' (row := tyC) hy
      have hu : isTy (tyC u) := isTy_mk (hoa u (List.mem_of_getElem? hx))
      have hv : isTy (tyC v) := isTy_mk (hob v (List.mem_of_getElem? hy))
      have huh : u.h ≤ N := by have := Ty.hs_mem (List.mem_of_getElem? hx); rw [Ty.h] at hh; omega
      simp (maxSteps := 1000000) -dsimp only [go_sem, hg, tyC, tysC_map]
      simp (maxSteps := 1000000) -dsimp only [go_sem, tyC_len, hu, hv, hx, hy, Option.some.injEq, forall_eq']
      refine ⟨by omega, by omega, huh, fun h1 => fin false _ (tyB_ne fun he => ?_), fun h1 => ?_⟩
      · obtain ⟨_, _, _, rfl⟩ := mk_eq.1 he
        rw [hx] at hy
        rw [tyB_eq (Option.some.inj hy)] at h1
        simp at h1
      · have h1 : u = v := tyB_iff.1 (by simpa using h1)
        subst h1
        refine ⟨by omega, loop_next (i + 1) 2 ⟨by omega, fun j hj => ?_⟩ (by omega) ?_ ?_⟩
        · rcases Nat.lt_or_ge j i with h4 | h4
          · exact ho j h4
          · obtain rfl : j = i := by omega
            rw [hx, hy]
        · simp -dsimp only [go_sem] <;> simp
        · simp -dsimp only [go_sem, tyC, tysC_map] <;> simp
    · have hg : decide ((i : Int) < (e.length : Int)) = false := by simp; omega
      obtain rfl : i = e.length := by omega
      simp (maxSteps := 1000000) -dsimp only [go_sem, hg]
      refine fin true _ (tyB_eq ?_)
      rw [mk_eq]
      refine ⟨rfl, rfl, rfl, List.ext_getElem? fun j => ?_⟩
      rcases Nat.lt_or_ge j e.length with h4 | h4
      · exact ho j h4
      · rw [List.getElem?_eq_none h4, List.getElem?_eq_none (by omega)]
def sPre : List S → Prop := fun av => match av with
  | [.va (.gs r), .va (.gs q)] => isTy r ∧ isTy q
  | _ => False
theorem sPre_open {av : List S} (h : sPre av) : ∃ a b, av = [.va (.gs (tyC a)), .va (.gs (tyC b))] ∧ TyOk a ∧ TyOk b := by
  unfold sPre at h
  split at h
  · obtain ⟨⟨a, rfl, ha⟩, ⟨b, rfl, hb⟩⟩ := h
    exact ⟨a, b, rfl, ha, hb⟩
  · exact h.elim
noncomputable def sFn : Fun := ⟨sPre, saVal, fun av h => by obtain ⟨a, b, rfl, _⟩ := sPre_open h; trivial⟩
attribute [go_sem] sFn sPre
theorem mSameS : Meets Tryz.prog 95 sFn.sp := meets_all 0 mSameP fun av H K ⟨⟨h, e⟩, hK⟩ => by
  obtain ⟨a, b, rfl, ha, hb⟩ := sPre_open h
  exact ⟨a.h, ⟨⟨⟨isTy_mk ha, isTy_mk hb, by rw [ty_dec]; exact Nat.le_refl _⟩, e⟩, hK⟩⟩
end Go.Proofs.YtbolanmlngjdoaaGreat
namespace Go.Proofs.YtbolanmlngjdoaaGreat
open Go.W
noncomputable def widN : Nat → Ty → Ty → Bool
  | 0, a, b => tyB a b
  | n + 1, a, b => tyB a b || (decide (a.k = b.k) && decide (a.n = b.n) && (bif decide (a.k = 5) then decide (a.e.length = 1) && decide (b.e.length = 1) && decide (a.s ≤ b.s) && widN n (a.e.headD default) (b.e.headD default)
      else (decide (a.k = 2) || decide (a.k = 3) || decide (a.k = 4)) && decide (a.s < b.s) && tyB a (.mk b.k a.s b.n b.e)))
noncomputable def widF (a b : Ty) : Bool := widN a.h a b
theorem h_pos (t : Ty) : 0 < t.h := by cases t; rw [Ty.h]; omega
theorem head_mem {l : List Ty} (h : l.length = 1) : l.headD default ∈ l := by
  match l, h with
  | [x], _ => simp
theorem widN_more : ∀ {n m : Nat} {a b : Ty}, a.h ≤ n → a.h ≤ m → widN n a b = widN m a b
  | 0, _, a, _, h, _ => by have := h_pos a; omega
  | _ + 1, 0, a, _, _, h => by have := h_pos a; omega
  | n + 1, m + 1, a, b, h1, h2 => by
    rw [widN, widN]
    by_cases hl : a.e.length = 1
    · have hh := Ty.h_e (head_mem hl)
      rw [widN_more (n := n) (m := m) (by omega) (by omega)]
    · simp [hl]
theorem widF_step (a b : Ty) : widF a b = (tyB a b || (decide (a.k = b.k) && decide (a.n = b.n) && (bif decide (a.k = 5) then decide (a.e.length = 1) && decide (b.e.length = 1) && decide (a.s ≤ b.s) && widF (a.e.headD default) (b.e.headD default)
      else (decide (a.k = 2) || decide (a.k = 3) || decide (a.k = 4)) && decide (a.s < b.s) && tyB a (.mk b.k a.s b.n b.e)))) := by
  obtain ⟨m, hm⟩ : ∃ m, a.h = m + 1 := ⟨a.h - 1, by have := h_pos a; omega⟩
  unfold widF
  rw [hm, widN]
  by_cases hl : a.e.length = 1
  · have hh := Ty.h_e (head_mem hl)
    rw [widN_more (n := m) (m := (a.e.headD default).h) (by omega) (Nat.le_refl _)]
  · simp [hl]
theorem widF_refl (a : Ty) : widF a a = true := by rw [widF_step, tyB_eq rfl, Bool.true_or]
theorem widF_iff {a b : Ty} : widF a b = true ↔ a = b ∨ (a.k = b.k ∧ a.n = b.n ∧ ((a.k = 5 ∧ a.e.length = 1 ∧ b.e.length = 1 ∧ a.s ≤ b.s ∧ widF (a.e.headD default) (b.e.headD default) = true) ∨ (a.k ≠ 5 ∧ (a.k = 2 ∨ a.k = 3 ∨ a.k = 4) ∧ a.s < b.s ∧ a.e = b.e))) := by
  rw [widF_step]
  have hx : tyB a (.mk b.k a.s b.n b.e) = true ↔ (a.k = b.k ∧ a.n = b.n ∧ a.e = b.e) := by
    rw [tyB_iff]
    cases a with
    | mk k s n e => simp [Ty.k, Ty.s, Ty.n, Ty.e]
  by_cases h5 : a.k = 5
  · simp only [Bool.or_eq_true, Bool.and_eq_true, decide_eq_true_eq, tyB_iff, h5, decide_true, Bool.cond_true, true_and, not_true, ne_eq, false_and, or_false]
    simp only [and_assoc]
  · simp only [Bool.or_eq_true, Bool.and_eq_true, decide_eq_true_eq, tyB_iff, h5, decide_false, Bool.cond_false, false_and, false_or, ne_eq, not_false_eq_true, true_and, hx]
    constructor
    · rintro (h | ⟨⟨h1, h2⟩, ⟨h3, h4⟩, h5, h6, h7⟩)
      · exact .inl h
      · exact .inr ⟨h1, h2, by omega, h4, h7⟩
    · rintro (h | ⟨h1, h2, h3, h4, h5⟩)
      · exact .inl h
      · exact .inr ⟨⟨h1, h2⟩, ⟨by omega, h4⟩, h1, h2, h5⟩
end Go.Proofs.YtbolanmlngjdoaaGreat
namespace Go.Proofs.YtbolanmlngjdoaaGreat
open Go.W
def enSpP : W.Spec := fun av H K => ∃ (s : Sc) (n : ByteArray), av = [.va (.gs (scC s)), tS n] ∧ H = [] ∧ s.fit ∧ K (.tu [.gs (enC ((fEn s.es n).getD default)), bA (hasE s.es n)]) []
theorem enp_use {s : Sc} {n : ByteArray} {K : S → Hp → Prop} (h : s.fit) (hK : K (.tu [.gs (enC ((fEn s.es n).getD default)), bA (hasE s.es n)]) []) : enSpP [.va (.gs (scC s)), tS n] [] K := ⟨s, n, rfl, rfl, h, hK⟩
theorem enC_def : enC default = [.vl (.string (mk [])), .fz [], .fz []] := rfl
end Go.Proofs.YtbolanmlngjdoaaGreat
namespace Go.Proofs.YtbolanmlngjdoaaGreat
open Go.W
noncomputable def eqB {α : Type} (a b : α) : Bool := @decide (a = b) (Classical.propDecidable _)
end Go.Proofs.YtbolanmlngjdoaaGreat
namespace Go.Proofs.YtbolanmlngjdoaaGreat
open Go.W
mutual
def dirF : Ty → List ByteArray
  | .mk k _ n e => bif k == 6 || k == 7 then [n] else dirFs e
def dirFs : List Ty → List ByteArray
  | [] => []
  | t :: r => dirF t ++ dirFs r
end
def putG (x : ByteArray) : Bool → List ByteArray → List ByteArray
  | d, [] => bif d then [] else [x]
  | d, y :: r => bif !d && (Op.bytesLess (bl x) (bl y) || bl x == bl y) then (bif Op.bytesLess (bl x) (bl y) then x :: y :: putG x true r else y :: putG x true r) else y :: putG x d r
end Go.Proofs.YtbolanmlngjdoaaGreat
namespace Go.Proofs.YtbolanmlngjdoaaGreat
open Go.W
abbrev ltS (a b : ByteArray) : Prop := bl a < bl b
theorem blessL (x : List UInt8) : ∀ y : List UInt8, Op.bytesLess x y = decide (x < y) := by
  induction x with
  | nil => intro y; cases y <;> simp [Op.bytesLess]
  | cons a x ih =>
    intro y
    cases y with
    | nil => simp [Op.bytesLess]
    | cons b y =>
      have := ih y
      rw [Op.bytesLess, this, Bool.eq_iff_iff]
      simp [List.cons_lt_cons_iff]
theorem bless (a b : ByteArray) : Op.bytesLess (bl a) (bl b) = decide (ltS a b) := blessL _ _
theorem ltS_irrefl (a : ByteArray) : ¬ ltS a a := List.lt_irrefl _
theorem ltS_trans {a b c : ByteArray} (h : ltS a b) (h2 : ltS b c) : ltS a c := List.lt_trans h h2
theorem ltS_total {a b : ByteArray} (h : ¬ ltS a b) (h2 : a ≠ b) : ltS b a := by
  have h3 : bl b ≤ bl a := List.not_lt.1 h
  exact Std.lt_of_le_of_ne h3 (fun e => h2 (bl_inj e.symm))
def Asc (l : List ByteArray) : Prop := l.Pairwise ltS
theorem asc_ext : ∀ {a b : List ByteArray}, Asc a → Asc b → (∀ x, x ∈ a ↔ x ∈ b) → a = b
  | [], [], _, _, _ => rfl
  | [], y :: b, _, _, h => by have := (h y).2 List.mem_cons_self; cases this
  | x :: a, [], _, _, h => by have := (h x).1 List.mem_cons_self; cases this
  | x :: a, y :: b, h1, h2, h => by
    obtain ⟨p1, p2⟩ := List.pairwise_cons.1 h1
    obtain ⟨p3, p4⟩ := List.pairwise_cons.1 h2
    have e : x = y := by
      rcases List.mem_cons.1 ((h x).1 List.mem_cons_self) with e | e
      · exact e
      · rcases List.mem_cons.1 ((h y).2 List.mem_cons_self) with e2 | e2
        · exact e2.symm
        · exact absurd (ltS_trans (p1 y e2) (p3 x e)) (ltS_irrefl x)
    subst e
    rw [asc_ext p2 p4 fun z => ?_]
    constructor
    · intro hz
      rcases List.mem_cons.1 ((h z).1 (List.mem_cons_of_mem _ hz)) with e | e
      · exact absurd (p1 z hz) (by rw [e]; exact ltS_irrefl x)
      · exact e
    · intro hz
      rcases List.mem_cons.1 ((h z).2 (List.mem_cons_of_mem _ hz)) with e | e
      · exact absurd (p3 z hz) (by rw [e]; exact ltS_irrefl x)
      · exact e
theorem Asc.nodup {l : List ByteArray} (h : Asc l) : l.Nodup := by
  unfold List.Nodup
  refine List.Pairwise.imp ?_ h
  intro a b h e
  subst e
  exact ltS_irrefl a h
theorem putG_true (x : ByteArray) : ∀ l, putG x true l = l
  | [] => rfl
  | y :: r => by rw [putG, putG_true x r]; rfl
theorem putG_mem {x z : ByteArray} : ∀ {l : List ByteArray}, z ∈ putG x false l ↔ z = x ∨ z ∈ l
  | [] => by simp [putG]
  | y :: r => by
    rw [putG, putG_true]
    cases c1 : Op.bytesLess (bl x) (bl y) with
    | true => simp
    | false =>
      cases c2 : bl x == bl y with
      | true =>
        have : x = y := bl_inj (by simpa using c2)
        subst this
        simp
      | false =>
        have := putG_mem (x := x) (z := z) (l := r)
        simp [this]
        constructor
        · rintro (h | h | h)
          · exact .inr (.inl h)
          · exact .inl h
          · exact .inr (.inr h)
        · rintro (h | h | h)
          · exact .inr (.inl h)
          · exact .inl h
          · exact .inr (.inr h)
theorem putG_asc {x : ByteArray} : ∀ {l : List ByteArray}, Asc l → Asc (putG x false l)
  | [], _ => by simp [putG, Asc]
  | y :: r, h => by
    obtain ⟨p1, p2⟩ := List.pairwise_cons.1 h
    rw [putG, putG_true]
    cases c1 : Op.bytesLess (bl x) (bl y) with
    | true =>
      rw [bless] at c1
      have c1 := of_decide_eq_true c1
      simp only [Bool.not_false, Bool.true_or, Bool.and_true, Bool.cond_true]
      refine List.pairwise_cons.2 ⟨fun z hz => ?_, h⟩
      rcases List.mem_cons.1 hz with rfl | hz
      · exact c1
      · exact ltS_trans c1 (p1 z hz)
    | false =>
      cases c2 : bl x == bl y with
      | true => exact h
      | false =>
        rw [bless] at c1
        have c1 := of_decide_eq_false c1
        have c2 : x ≠ y := fun e => by subst e; simp at c2
        simp only [Bool.not_false, Bool.true_and, Bool.or_self, Bool.cond_false]
        refine List.pairwise_cons.2 ⟨fun z hz => ?_, putG_asc p2⟩
        rcases putG_mem.1 hz with rfl | hz
        · exact ltS_total c1 c2
        · exact p1 z hz
theorem asc_srtB {l : List ByteArray} (h : l.Nodup) : Asc (srtB l) := by
  have h1 : ((l.map bl).mergeSort fun x y => decide (x ≤ y)).Pairwise fun a b => decide (a ≤ b) = true :=
    List.pairwise_mergeSort (le := fun (x y : List UInt8) => decide (x ≤ y)) (fun (a b c : List UInt8) h1 h2 => decide_eq_true (List.le_trans (of_decide_eq_true h1) (of_decide_eq_true h2))) (fun (a b : List UInt8) => by
      rcases List.le_total a b with h | h <;> simp [h]) _
  have h2 : ((l.map bl).mergeSort fun x y => decide (x ≤ y)).Nodup := by
    rw [(List.mergeSort_perm _ _).nodup_iff]
    exact List.Pairwise.map bl (fun a b (hab : a ≠ b) e => hab (bl_inj e)) h
  unfold srtB Asc
  rw [List.pairwise_map]
  refine List.Pairwise.imp₂ (fun a b h1 h2 => ?_) h1 h2
  exact Std.lt_of_le_of_ne (of_decide_eq_true h1) h2
theorem usesF_asc (ss : List St) (n : ByteArray) : Asc (usesF ss n) := asc_srtB (visAll_nodup ss n)
end Go.Proofs.YtbolanmlngjdoaaGreat
namespace Go.Proofs.YtbolanmlngjdoaaGreat
open Go.W
structure Is where
  k : Int
  n : Int
  t : ByteArray
instance : Inhabited Is := ⟨⟨0, 0, ByteArray.empty⟩⟩
theorem is_eq {a b : Is} : a = b ↔ (a.k = b.k ∧ a.n = b.n ∧ a.t = b.t) := by cases a; cases b; simp
instance : DecidableEq Is := fun _ _ => decidable_of_iff _ is_eq.symm
def isC (x : Is) : List C := [.vl (.int .i64 x.k), .vl (.int .i64 x.n), .vl (.string x.t)]
theorem isC_inj {a b : Is} (h : isC a = isC b) : a = b := by
  rw [is_eq]
  simpa [isC] using h
def addF (l : List Is) (x : Is) : List Is := bif l.any (fun y => decide (x = y)) then l else l ++ [x]
def addA (l xs : List Is) : List Is := xs.foldl addF l
theorem addA_app (l xs ys : List Is) : addA l (xs ++ ys) = addA (addA l xs) ys := List.foldl_append
theorem addA_nil (l : List Is) : addA l [] = l := rfl
theorem addA_one (l : List Is) (x : Is) : addA l [x] = addF l x := rfl
theorem hasI_iff {l : List Is} {x : Is} : l.any (fun y => decide (x = y)) = true ↔ x ∈ l := by
  rw [List.any_eq_true]
  constructor
  · rintro ⟨y, h1, h2⟩
    rw [of_decide_eq_true h2]; exact h1
  · intro h
    exact ⟨x, h, by simp⟩
theorem addF_mem {l : List Is} {x y : Is} : y ∈ addF l x ↔ y ∈ l ∨ y = x := by
  unfold addF
  cases h : l.any (fun y => decide (x = y)) with
  | true =>
    have := hasI_iff.1 h
    rw [Bool.cond_true]
    constructor
    · exact .inl
    · rintro (h | rfl)
      · exact h
      · exact this
  | false => simp
theorem addA_mem {y : Is} : ∀ {xs l : List Is}, y ∈ addA l xs ↔ y ∈ l ∨ y ∈ xs
  | [], l => by simp [addA]
  | x :: xs, l => by
    show y ∈ addA (addF l x) xs ↔ _
    rw [addA_mem, addF_mem, List.mem_cons, or_assoc]
theorem addF_nd {l : List Is} {x : Is} (h : l.Nodup) : (addF l x).Nodup := by
  unfold addF
  cases h1 : l.any (fun y => decide (x = y)) with
  | true => exact h
  | false =>
    have : x ∉ l := fun hx => by rw [hasI_iff.2 hx] at h1; cases h1
    rw [Bool.cond_false, List.nodup_append]
    exact ⟨h, by simp, fun a ha b hb e => by simp at hb; subst hb; subst e; exact this ha⟩
theorem addA_nd : ∀ {xs l : List Is}, l.Nodup → (addA l xs).Nodup
  | [], _, h => h
  | x :: xs, l, h => addA_nd (xs := xs) (l := addF l x) (addF_nd h)
theorem addF_len (l : List Is) (x : Is) : (addF l x).length ≤ l.length + 1 := by
  unfold addF
  cases l.any (fun y => decide (x = y)) <;> simp
theorem addA_len : ∀ (xs l : List Is), (addA l xs).length ≤ l.length + xs.length
  | [], l => Nat.le_refl _
  | x :: xs, l => by
    have h1 := addA_len xs (addF l x)
    have h2 := addF_len l x
    show (addA (addF l x) xs).length ≤ _
    rw [List.length_cons]; omega
def ltI (a b : Is) : Prop := ltS a.t b.t ∨ (a.t = b.t ∧ (a.k < b.k ∨ (a.k = b.k ∧ a.n < b.n)))
theorem ltI_irrefl (a : Is) : ¬ ltI a a := by
  rintro (h | ⟨_, h | ⟨_, h⟩⟩)
  · exact ltS_irrefl _ h
  · omega
  · omega
theorem ltI_trans {a b c : Is} (h : ltI a b) (h2 : ltI b c) : ltI a c := by
  rcases h with h | ⟨e, h⟩
  · rcases h2 with h2 | ⟨e2, h2⟩
    · exact .inl (ltS_trans h h2)
    · exact .inl (e2 ▸ h)
  · rcases h2 with h2 | ⟨e2, h2⟩
    · exact .inl (e ▸ h2)
    · exact .inr ⟨e.trans e2, by omega⟩
theorem ltI_total {a b : Is} (h : ¬ ltI a b) (h2 : a ≠ b) : ltI b a := by
  by_cases e : a.t = b.t
  · refine .inr ⟨e.symm, ?_⟩
    have h3 : ¬ (a.k < b.k ∨ (a.k = b.k ∧ a.n < b.n)) := fun h3 => h (.inr ⟨e, h3⟩)
    have h4 : ¬ (a.k = b.k ∧ a.n = b.n) := fun h4 => h2 (is_eq.2 ⟨h4.1, h4.2, e⟩)
    omega
  · exact .inl (ltS_total (fun h3 => h (.inl h3)) e)
noncomputable def ltIB (a b : Is) : Bool := @decide (ltI a b) (Classical.propDecidable _)
theorem ltIB_iff {a b : Is} : ltIB a b = true ↔ ltI a b := by unfold ltIB; simp
def AscI (l : List Is) : Prop := l.Pairwise ltI
theorem ascI_ext : ∀ {a b : List Is}, AscI a → AscI b → (∀ x, x ∈ a ↔ x ∈ b) → a = b
  | [], [], _, _, _ => rfl
  | [], y :: b, _, _, h => by have := (h y).2 List.mem_cons_self; cases this
  | x :: a, [], _, _, h => by have := (h x).1 List.mem_cons_self; cases this
  | x :: a, y :: b, h1, h2, h => by
    obtain ⟨p1, p2⟩ := List.pairwise_cons.1 h1
    obtain ⟨p3, p4⟩ := List.pairwise_cons.1 h2
    have e : x = y := by
      rcases List.mem_cons.1 ((h x).1 List.mem_cons_self) with e | e
      · exact e
      · rcases List.mem_cons.1 ((h y).2 List.mem_cons_self) with e2 | e2
        · exact e2.symm
        · exact absurd (ltI_trans (p1 y e2) (p3 x e)) (ltI_irrefl x)
    subst e
    rw [ascI_ext p2 p4 fun z => ?_]
    constructor
    · intro hz
      rcases List.mem_cons.1 ((h z).1 (List.mem_cons_of_mem _ hz)) with e | e
      · exact absurd (p1 z hz) (by rw [e]; exact ltI_irrefl x)
      · exact e
    · intro hz
      rcases List.mem_cons.1 ((h z).2 (List.mem_cons_of_mem _ hz)) with e | e
      · exact absurd (p3 z hz) (by rw [e]; exact ltI_irrefl x)
      · exact e
theorem ascI_of {l' l : List Is} (hp : l'.Perm l) (hn : l.Nodup) (hs : l'.Pairwise fun a b => ltIB b a = false) : AscI l' := by
  have hn' : l'.Nodup := hp.nodup_iff.2 hn
  refine List.Pairwise.imp₂ (fun a b h1 h2 => ?_) hs hn'
  have h3 : ¬ ltI b a := fun h => by rw [ltIB_iff.2 h] at h1; cases h1
  exact ltI_total h3 (fun e => h2 e.symm)
noncomputable def putJ (x : Is) : Bool → List Is → List Is
  | d, [] => bif d then [] else [x]
  | d, y :: r => bif !(d || decide (y = x)) && ltIB x y then x :: y :: putJ x true r else y :: putJ x (d || decide (y = x)) r
theorem putJ_true (x : Is) : ∀ l, putJ x true l = l
  | [] => rfl
  | y :: r => by rw [putJ, Bool.true_or, putJ_true x r]; rfl
theorem putJ_mem {x z : Is} : ∀ {l : List Is}, z ∈ putJ x false l ↔ z = x ∨ z ∈ l
  | [] => by simp [putJ]
  | y :: r => by
    rw [putJ, putJ_true, Bool.false_or]
    by_cases c2 : y = x
    · subst c2
      simp [putJ_true]
    · rw [decide_eq_false c2]
      cases c1 : ltIB x y with
      | true => simp
      | false =>
        have := putJ_mem (x := x) (z := z) (l := r)
        simp [this]
        constructor
        · rintro (h | h | h)
          · exact .inr (.inl h)
          · exact .inl h
          · exact .inr (.inr h)
        · rintro (h | h | h)
          · exact .inr (.inl h)
          · exact .inl h
          · exact .inr (.inr h)
theorem putJ_asc {x : Is} : ∀ {l : List Is}, AscI l → AscI (putJ x false l)
  | [], _ => by simp [putJ, AscI]
  | y :: r, h => by
    obtain ⟨p1, p2⟩ := List.pairwise_cons.1 h
    rw [putJ, putJ_true, Bool.false_or]
    by_cases c2 : y = x
    · rw [decide_eq_true c2, putJ_true]; exact h
    · rw [decide_eq_false c2]
      cases c1 : ltIB x y with
      | true =>
        have c1 := ltIB_iff.1 c1
        refine List.pairwise_cons.2 ⟨fun z hz => ?_, h⟩
        rcases List.mem_cons.1 hz with rfl | hz
        · exact c1
        · exact ltI_trans c1 (p1 z hz)
      | false =>
        have c1 : ¬ ltI x y := fun h => by rw [ltIB_iff.2 h] at c1; cases c1
        refine List.pairwise_cons.2 ⟨fun z hz => ?_, putJ_asc p2⟩
        rcases putJ_mem.1 hz with rfl | hz
        · exact ltI_total c1 (fun e => c2 e.symm)
        · exact p1 z hz
noncomputable def putA (l xs : List Is) : List Is := xs.foldl (fun l x => putJ x false l) l
theorem putA_mem {y : Is} : ∀ {xs l : List Is}, y ∈ putA l xs ↔ y ∈ l ∨ y ∈ xs
  | [], l => by simp [putA]
  | x :: xs, l => by
    show y ∈ putA (putJ x false l) xs ↔ _
    rw [putA_mem, putJ_mem, List.mem_cons, or_assoc, or_left_comm]
theorem putA_asc : ∀ {xs l : List Is}, AscI l → AscI (putA l xs)
  | [], _, h => h
  | x :: xs, l, h => putA_asc (xs := xs) (l := putJ x false l) (putJ_asc h)
end Go.Proofs.YtbolanmlngjdoaaGreat
namespace Go.Proofs.YtbolanmlngjdoaaGreat
open Go.W
structure UI (ss : List St) (n : ByteArray) (i : Nat) (todo o : List ByteArray) : Prop where
  hd : ∃ r, todo = n :: r ∧ r.Nodup ∧ ∀ x, x ∈ o ↔ x ∈ r
  rc : ∀ x ∈ o, Reach ss n x
  dn : ∀ j a, j < i → todo[j]? = some a → ∀ y, isRef ss a y → y ∈ o
  asc : Asc o
theorem nm_len {ss : List St} {es : List En} (g : Gd ss es) {n : ByteArray} {l : List ByteArray} (h : l.Nodup) (hr : ∀ x ∈ l, Reach ss n x) : l.length ≤ 32 := Nat.le_trans (nodup_sub h fun x hx => (mem_visAll ss n x).2 (hr x hx)) (g.vlen n)
theorem UI.len {ss : List St} {es : List En} (g : Gd ss es) {n : ByteArray} {i : Nat} {todo o : List ByteArray} (h : UI ss n i todo o) : todo.length ≤ 33 ∧ o.length ≤ 32 := by
  obtain ⟨r, rfl, h1, h2⟩ := h.hd
  have := nm_len g h1 fun x hx => h.rc x ((h2 x).2 hx)
  have := nm_len g h.asc.nodup h.rc
  simp only [List.length_cons]; omega
theorem UI.add {ss : List St} {n : ByteArray} {i : Nat} {todo o : List ByteArray} (h : UI ss n i todo o) {y : ByteArray} (hr : Reach ss n y) (hy : y ∉ o) (hi : i ≤ todo.length) : UI ss n i (todo ++ [y]) (putG y false o) := by
  obtain ⟨r, rfl, h1, h2⟩ := h.hd
  refine ⟨⟨r ++ [y], by simp, ?_, fun x => ?_⟩, fun x hx => ?_, fun j a hj ha z hz => ?_, putG_asc h.asc⟩
  · rw [List.nodup_append]
    exact ⟨h1, by simp, fun a ha b hb => by simp at hb; subst hb; exact fun e => hy ((h2 b).2 (e ▸ ha))⟩
  · rw [putG_mem, h2]; simp [or_comm]
  · rcases putG_mem.1 hx with rfl | hx
    · exact hr
    · exact h.rc x hx
  · rw [List.getElem?_append_left (by omega)] at ha
    exact putG_mem.2 (.inr (h.dn j a hj ha z hz))
theorem UI.next {ss : List St} {n : ByteArray} {i : Nat} {todo o : List ByteArray} (h : UI ss n i todo o) {a : ByteArray} (ha : todo[i]? = some a) (hy : ∀ y, isRef ss a y → y ∈ o) : UI ss n (i + 1) todo o := by
  refine ⟨h.hd, h.rc, fun j b hj hb y hyb => ?_, h.asc⟩
  rcases Nat.lt_or_ge j i with h4 | h4
  · exact h.dn j b h4 hb y hyb
  · obtain rfl : j = i := by omega
    rw [ha] at hb; obtain rfl := Option.some.inj hb
    exact hy y hyb
theorem UI.fin {ss : List St} {n : ByteArray} {todo o : List ByteArray} (h : UI ss n todo.length todo o) : o = usesF ss n := by
  refine asc_ext h.asc (usesF_asc ss n) fun x => ?_
  rw [mem_usesF]
  refine ⟨h.rc x, fun hx => ?_⟩
  obtain ⟨r, e, h1, h2⟩ := h.hd
  have hn : ∀ y, isRef ss n y → y ∈ o := h.dn 0 n (by rw [e]; simp) (by rw [e]; rfl)
  induction hx with
  | one h => exact hn _ h
  | more _ h3 ih =>
    obtain ⟨j, hj⟩ := List.mem_iff_getElem?.1 ((h2 _).1 ih)
    rename_i b c _
    have hj2 : todo[j + 1]? = some b := by rw [e]; simpa using hj
    exact h.dn (j + 1) _ (List.getElem?_eq_some_iff.1 hj2).1 hj2 _ h3
end Go.Proofs.YtbolanmlngjdoaaGreat
namespace Go.Proofs.YtbolanmlngjdoaaGreat
open Go.W
def dIx : List St → List Int → ByteArray → Int
  | s :: ss, d :: ds, n => bif decide (s.nm = n) then d else dIx ss ds n
  | _, _, _ => 0
theorem dIx_none {n : ByteArray} : ∀ {ss : List St} {ds : List Int}, fS ss n = none → dIx ss ds n = 0
  | [], _, _ => by simp [dIx]
  | s :: ss, [], _ => by simp [dIx]
  | s :: ss, d :: ds, h => by
    unfold fS at h
    rw [List.find?_cons] at h
    rw [dIx]
    cases hc : decide (s.nm = n) with
    | true => rw [hc] at h; simp at h
    | false => rw [hc] at h; exact dIx_none (ss := ss) h
theorem dIx_some {n : ByteArray} {u : St} : ∀ {ss : List St} {ds : List Int}, ss.length = ds.length → fS ss n = some u → ∃ j : Nat, ss[j]? = some u ∧ ds[j]? = some (dIx ss ds n)
  | [], _, _, h => by cases h
  | s :: ss, [], hl, _ => by simp at hl
  | s :: ss, d :: ds, hl, h => by
    unfold fS at h
    rw [List.find?_cons] at h
    rw [dIx]
    cases hc : decide (s.nm = n) with
    | true =>
      rw [hc] at h
      obtain rfl : s = u := by simpa using h
      exact ⟨0, rfl, rfl⟩
    | false =>
      rw [hc] at h
      obtain ⟨j, h1, h2⟩ := dIx_some (ss := ss) (ds := ds) (by simpa using hl) h
      exact ⟨j + 1, by simpa using h1, by simpa using h2⟩
theorem lvT_cons {s : Int} {n : ByteArray} {u : Ty} {r : List Ty} : lvT (.mk 5 s n (u :: r)) = ((lvT u).1 + 1, (lvT u).2) := by simp [lvT, lvL]
theorem lvT_stop {k s : Int} {n : ByteArray} {e : List Ty} (h : (k == 5 && decide (0 < (e.length : Int))) = false) : lvT (.mk k s n e) = (0, .mk k s n e) := by
  rw [lvT]
  cases hk : k == 5 with
  | false => rfl
  | true =>
    rw [hk, Bool.true_and] at h
    have : e = [] := List.length_eq_zero_iff.1 (by simp at h; simp [h])
    subst this; rfl
end Go.Proofs.YtbolanmlngjdoaaGreat
namespace Go.Proofs.YtbolanmlngjdoaaGreat
open Go.W
theorem maxF_mono {dp dq : ByteArray → Int} {l : List Fl} (h : ∀ f ∈ l, fdep dp f.ty ≤ fdep dq f.ty) : maxF dp l ≤ maxF dq l := maxF_le (maxF_nonneg _ _) fun f hf => Int.le_trans (h f hf) (maxF_ge hf)
structure DI (ss : List St) (r i : Nat) (d : List Int) : Prop where
  len : d.length = ss.length
  lo : ∀ (j : Nat) (t : St) (v : Int), ss[j]? = some t → d[j]? = some v → 0 ≤ v ∧ v ≤ dD ss t.nm ∧ (rank ss t.nm < r → v = dD ss t.nm) ∧ (j < i → rank ss t.nm < r + 1 → v = dD ss t.nm)
theorem DI.ix {ss : List St} {es : List En} (_g : Gd ss es) {r i : Nat} {d : List Int} (h : DI ss r i d) (n : ByteArray) : 0 ≤ dIx ss d n ∧ dIx ss d n ≤ dD ss n ∧ ((fS ss n).isSome = true → rank ss n < r → dIx ss d n = dD ss n) := by
  cases hf : fS ss n with
  | none =>
    rw [dIx_none hf]
    exact ⟨Int.le_refl _, dD_lo ss n, fun h => by simp at h⟩
  | some u =>
    obtain ⟨j, h1, h2⟩ := dIx_some h.len.symm hf
    obtain ⟨a1, a2, a3, _⟩ := h.lo j u _ h1 h2
    obtain ⟨_, rfl⟩ := fS_mem hf
    exact ⟨a1, a2, fun _ h => a3 h⟩
theorem DI.all {ss : List St} {es : List En} (g : Gd ss es) {r i : Nat} {d : List Int} (h : DI ss r i d) : ∀ v ∈ d, 0 ≤ v ∧ v ≤ 1000000000000 := fun v hv => by
  obtain ⟨j, hj⟩ := List.mem_iff_getElem?.1 hv
  have hl := (List.getElem?_eq_some_iff.1 hj).1
  obtain ⟨t, ht⟩ : ∃ t, ss[j]? = some t := ⟨_, List.getElem?_eq_getElem (by have := h.len; omega)⟩
  obtain ⟨h1, h2, _⟩ := h.lo j t v ht hj
  have := dD_hi g t.nm
  omega
theorem DI.fd {ss : List St} {es : List En} (g : Gd ss es) {r i : Nat} {d : List Int} (h : DI ss r i d) (t : Ty) : fdep (dIx ss d) t ≤ fdep (dD ss) t := by
  unfold fdep
  have := h.ix g (lvT t).2.n
  cases (lvT t).2.k == 6 <;> simp only [Bool.cond_true, Bool.cond_false] <;> omega
theorem DI.set {ss : List St} {es : List En} (g : Gd ss es) (ha : Acy ss) {r i : Nat} {d : List Int} (h : DI ss r i d) {t : St} (ht : ss[i]? = some t) : DI ss r (i + 1) (d.set i (1 + maxF (dIx ss d) t.fs)) := by
  have htm := List.mem_of_getElem? ht
  have hD := dD_eq g ha (g.nd t htm)
  have hle : maxF (dIx ss d) t.fs ≤ maxF (dD ss) t.fs := maxF_mono fun f _ => h.fd g f.ty
  have heq : rank ss t.nm < r + 1 → maxF (dIx ss d) t.fs = maxF (dD ss) t.fs := fun hr => maxF_congr fun f hf => by
    unfold fdep
    cases hk : (lvT f.ty).2.k == 6 with
    | false => rfl
    | true =>
      obtain ⟨h1, u, h2⟩ := str_ref g (g.nd t htm) hf hk
      have h3 := rank_lt h1 h2 ha
      rw [(h.ix g _).2.2 (by rw [h2]; rfl) (by omega)]
  have hn := maxF_nonneg (dIx ss d) t.fs
  refine ⟨by rw [List.length_set]; exact h.len, fun j u v hu hv => ?_⟩
  rw [List.getElem?_set] at hv
  by_cases e : i = j
  · subst e
    rw [ht] at hu; obtain rfl := Option.some.inj hu
    have hlt : i < d.length := by have := h.len; have := (List.getElem?_eq_some_iff.1 ht).1; omega
    simp [hlt] at hv
    subst hv
    exact ⟨by omega, by omega, fun hr => by rw [heq (by omega)]; omega, fun _ hr => by rw [heq hr]; omega⟩
  · rw [if_neg e] at hv
    obtain ⟨a1, a2, a3, a4⟩ := h.lo j u v hu hv
    exact ⟨a1, a2, a3, fun hj hr => a4 (by omega) hr⟩
theorem DI.up {ss : List St} {r : Nat} {d : List Int} (h : DI ss r ss.length d) : DI ss (r + 1) 0 d := ⟨h.len, fun j t v ht hv => by
  obtain ⟨a1, a2, _, a4⟩ := h.lo j t v ht hv
  exact ⟨a1, a2, fun hr => a4 (List.getElem?_eq_some_iff.1 ht).1 hr, fun h => absurd h (Nat.not_lt_zero _)⟩⟩
theorem DI.fin {ss : List St} {d : List Int} (h : DI ss (ss.length + 1) 0 d) : d = ss.map fun t => dD ss t.nm := by
  refine List.ext_getElem? fun j => ?_
  rw [List.getElem?_map]
  cases ht : ss[j]? with
  | none =>
    rw [List.getElem?_eq_none_iff] at ht
    rw [List.getElem?_eq_none (by rw [h.len]; exact ht)]; rfl
  | some t =>
    obtain ⟨v, hv⟩ : ∃ v, d[j]? = some v := ⟨_, List.getElem?_eq_getElem (by rw [h.len]; exact (List.getElem?_eq_some_iff.1 ht).1)⟩
    obtain ⟨_, _, a3, _⟩ := h.lo j t v ht hv
    rw [hv, a3 (Nat.lt_succ_of_le (rank_le _ _))]; rfl
end Go.Proofs.YtbolanmlngjdoaaGreat
namespace Go.Proofs.YtbolanmlngjdoaaGreat
open Go.W
theorem okS_true {s : Sc} {n : ByteArray} (h : okS s n = true) : checkF s = 0 ∧ hasS s.ss n = true := by
  unfold okS at h; simpa using h
theorem hasS_some {ss : List St} {n : ByteArray} (h : hasS ss n = true) : ∃ t, fS ss n = some t := by
  rw [← fS_has] at h; exact Option.isSome_iff_exists.1 h
end Go.Proofs.YtbolanmlngjdoaaGreat
namespace Go.Proofs.YtbolanmlngjdoaaGreat
open Go.W
theorem disj {s : Sc} (hf : s.fit) (h : checkF s = 0) {n : ByteArray} (hn : hasS s.ss n = true) : hasE s.es n = false := by
  obtain ⟨_, _, _, h2, _⟩ := check_good hf h
  obtain ⟨t, ht⟩ := hasS_some hn
  obtain ⟨htm, rfl⟩ := fS_mem ht
  obtain ⟨i, hi⟩ := List.mem_iff_getElem?.1 htm
  exact (cn_zero (st_zero hi (fE_zero h2 i (List.getElem?_eq_some_iff.1 hi).1)).1).2.1
theorem usL_len {s : Sc} (h : s.fit) (n : ByteArray) : (usL s n).length ≤ 32 := by
  unfold usL
  cases hok : okS s n with
  | false => exact Nat.zero_le _
  | true =>
    have := (check_good h (okS_true hok).1).1.vlen n
    rw [Bool.cond_true, usesF_len]; exact this
theorem usL_bs {s : Sc} (h : s.fit) (n : ByteArray) : isBs ((usL s n).map stR) := isBs_mk (by have := usL_len h n; omega)
theorem cf_next {ss : List St} {es : List En} {t : St} (h : cfF ss es t = 0) {i : Nat} {f g : Fl} (hf : t.fs[i]? = some f) (hg : t.fs[i + 1]? = some g) : f.num < g.num := by
  have := fE_zero h (i + 1) (List.getElem?_eq_some_iff.1 hg).1
  unfold cfAt at this
  rw [hg] at this
  simp only [Nat.add_sub_cancel, hf] at this
  cases c1 : decide (g.num < 1) || decide (127 < g.num) with
  | true => rw [c1] at this; simp at this
  | false =>
  rw [c1] at this
  simp only [Bool.cond_false] at this
  have c0 : decide (0 < ((i + 1 : Nat) : Int)) = true := decide_eq_true (by omega)
  rw [c0, Bool.true_and] at this
  by_cases c2 : g.num ≤ f.num
  · rw [decide_eq_true c2] at this; simp at this
  · omega
theorem cf_asc {ss : List St} {es : List En} {t : St} (h : cfF ss es t = 0) : t.fs.Pairwise fun f g => f.num < g.num := by
  rw [List.pairwise_iff_getElem]
  have key : ∀ d i (hi : i < t.fs.length) (hj : i + d + 1 < t.fs.length), t.fs[i].num < t.fs[i + d + 1].num := by
    intro d
    induction d with
    | zero => intro i hi hj; exact cf_next h (List.getElem?_eq_getElem hi) (List.getElem?_eq_getElem hj)
    | succ d ih =>
      intro i hi hj
      have h1 := ih i hi (by omega)
      have h2 := cf_next h (List.getElem?_eq_getElem (show i + d + 1 < t.fs.length by omega)) (List.getElem?_eq_getElem (show i + d + 1 + 1 < t.fs.length by omega))
      have : i + (d + 1) + 1 = i + d + 1 + 1 := by omega
      simp only [this]
      omega
  intro i j hi hj hij
  obtain ⟨d, rfl⟩ : ∃ d, j = i + d + 1 := ⟨j - i - 1, by omega⟩
  exact key d i hi hj
theorem fF_of_asc : ∀ {l : List Fl}, l.Pairwise (fun f g => f.num < g.num) → ∀ {f : Fl}, f ∈ l → fF l f.num = some f
  | [], _, f, h => by cases h
  | x :: l, h, f, hf => by
    obtain ⟨h1, h2⟩ := List.pairwise_cons.1 h
    unfold fF
    rw [List.find?_cons]
    rcases List.mem_cons.1 hf with rfl | hf
    · simp
    · have : decide (x.num = f.num) = false := by have := h1 f hf; simp; omega
      rw [this]
      exact fF_of_asc h2 hf
theorem fF_some {l : List Fl} {k : Int} {f : Fl} (h : fF l k = some f) : f ∈ l ∧ f.num = k := by
  refine ⟨List.mem_of_find?_eq_some h, ?_⟩
  have := List.find?_some h
  simpa using this
theorem str_good {s : Sc} (hf : s.fit) (h : checkF s = 0) {n : ByteArray} (hn : hasS s.ss n = true) : ∃ t, fS s.ss n = some t ∧ t ∈ s.ss ∧ t.nm = n ∧ t.fs.length ≤ 16 ∧ (∀ f ∈ t.fs, (1 ≤ f.num ∧ f.num ≤ 127) ∧ fF t.fs f.num = some f) := by
  obtain ⟨_, _, _, h2, hl, _⟩ := check_good hf h
  obtain ⟨t, ht⟩ := hasS_some hn
  obtain ⟨htm, hnm⟩ := fS_mem ht
  obtain ⟨i, hi⟩ := List.mem_iff_getElem?.1 htm
  have hc := (st_zero hi (fE_zero h2 i (List.getElem?_eq_some_iff.1 hi).1)).2
  exact ⟨t, ht, htm, hnm, (large_false hl).2.2.2 t htm, fun f hm => ⟨(cf_zero hc f hm).1, fF_of_asc (cf_asc hc) hm⟩⟩
theorem enu_good {s : Sc} (hf : s.fit) (h : checkF s = 0) {n : ByteArray} {e : En} (he : fEn s.es n = some e) : e.vs.length = e.ns.length ∧ e.ns.length ≤ 16 := by
  obtain ⟨_, _, h1, _, hl, _⟩ := check_good hf h
  obtain ⟨hem, _⟩ := fEn_mem he
  obtain ⟨i, hi⟩ := List.mem_iff_getElem?.1 hem
  have hc := (en_zero hi (fE_zero h1 i (List.getElem?_eq_some_iff.1 hi).1)).2.2
  unfold ceF at hc
  cases c : decide (e.ns.length = 0) || decide (e.ns.length ≠ e.vs.length) with
  | true => rw [c] at hc; simp at hc
  | false =>
    simp at c
    exact ⟨c.2.symm, (large_false hl).2.2.1 e hem⟩
theorem enu_vs {s : Sc} (hf : s.fit) (h : checkF s = 0) {n : ByteArray} {e : En} (he : fEn s.es n = some e) : ∀ v ∈ e.vs, 0 ≤ v ∧ v ≤ 127 := by
  intro v hv
  have hl := enu_good hf h he
  obtain ⟨_, _, h1, _, _, _⟩ := check_good hf h
  obtain ⟨hem, _⟩ := fEn_mem he
  obtain ⟨i, hi⟩ := List.mem_iff_getElem?.1 hem
  have hc := (en_zero hi (fE_zero h1 i (List.getElem?_eq_some_iff.1 hi).1)).2.2
  unfold ceF at hc
  cases c : decide (e.ns.length = 0) || decide (e.ns.length ≠ e.vs.length) with
  | true => rw [c] at hc; simp at hc
  | false =>
    rw [c, Bool.cond_false] at hc
    obtain ⟨k, hk⟩ := List.mem_iff_getElem?.1 hv
    have hkl := (List.getElem?_eq_some_iff.1 hk).1
    have hz := fE_zero (f := ceAt e) (m := e.ns.length) hc k (by omega)
    have hn : e.ns[k]? = some e.ns[k] := List.getElem?_eq_getElem (by omega)
    unfold ceAt at hz
    rw [hk, hn] at hz
    simp only at hz
    cases d1 : isNm (bl e.ns[k]) with
    | false => rw [d1] at hz; simp at hz
    | true =>
    rw [d1] at hz
    cases d2 : inB (e.ns.take k) e.ns[k] with
    | true => rw [d2] at hz; simp at hz
    | false =>
    rw [d2] at hz
    cases d3 : decide (v < 0) || decide (127 < v) with
    | true => rw [d3] at hz; simp at hz
    | false =>
      simp only [Bool.or_eq_false_iff, decide_eq_false_iff_not] at d3
      omega
noncomputable def isA (nm : ByteArray) (b : St) (f : Fl) : List Is := match fF b.fs f.num with
  | none => bif f.opt then [] else [⟨2, f.num, nm⟩]
  | some g => (bif widF f.ty g.ty then [] else [⟨1, f.num, nm⟩]) ++ (bif f.opt == g.opt then [] else [⟨3, f.num, nm⟩])
def isB (nm : ByteArray) (a : St) (g : Fl) : List Is := bif (fF a.fs g.num).isNone && !g.opt then [⟨2, g.num, nm⟩] else []
noncomputable def cmpS (nm : ByteArray) (a b : St) : List Is := a.fs.flatMap (isA nm b) ++ b.fs.flatMap (isB nm a)
def cmpV (nm : ByteArray) (vs : List Int) (e : En) : List Is := (vs.filter fun v => !(e.vs.any fun w => decide (v = w))).map fun v => ⟨4, v, nm⟩
def cmpE (nm : ByteArray) (d e : En) : List Is := cmpV nm d.vs e
noncomputable def cmpN (o n : Sc) (x : ByteArray) : List Is := bif hasS o.ss x != hasS n.ss x then [⟨5, 0, x⟩] else
  (bif hasS o.ss x then cmpS x ((fS o.ss x).getD default) ((fS n.ss x).getD default) else []) ++ (bif hasE o.es x && hasE n.es x then cmpE x ((fEn o.es x).getD default) ((fEn n.es x).getD default) else [])
def nmsF (o n : Sc) (x : ByteArray) : List ByteArray := x :: (usL o x).filter (inB (usL n x))
noncomputable def rawI (o n : Sc) (x : ByteArray) : List Is := (nmsF o n x).flatMap (cmpN o n)
noncomputable def issF (o n : Sc) (x : ByteArray) : List Is := bif (checkF o != 0) || (checkF n != 0) then [] else putA [] (rawI o n x)
noncomputable def coF (o n : Sc) (x : ByteArray) : Bool := bif (checkF o != 0) || (checkF n != 0) then false else hasS o.ss x && hasS n.ss x && (((issF o n x).length : Int) == 0)
theorem ascI_nil : AscI [] := .nil
theorem iss_sorted {raw l' : List Is} (hp : l'.Perm (addA [] raw)) (hs : l'.Pairwise fun a b => ltIB b a = false) : l' = putA [] raw := by
  refine ascI_ext (ascI_of hp (addA_nd .nil) hs) (putA_asc ascI_nil) fun x => ?_
  rw [hp.mem_iff, addA_mem, putA_mem]
theorem fm_le {α β : Type} {f : α → List β} {k : Nat} : ∀ {l : List α}, (∀ a ∈ l, (f a).length ≤ k) → (l.flatMap f).length ≤ l.length * k
  | [], _ => by simp
  | x :: l, h => by
    have h1 := fm_le fun a ha => h a (List.mem_cons_of_mem _ ha)
    have h2 := h x List.mem_cons_self
    rw [List.flatMap_cons, List.length_append, List.length_cons, Nat.succ_mul]; omega
theorem isA_len (nm : ByteArray) (b : St) (f : Fl) : (isA nm b f).length ≤ 2 := by
  unfold isA
  split
  · cases f.opt <;> simp
  · rename_i g _
    cases widF f.ty g.ty <;> cases (f.opt == g.opt) <;> simp
theorem isB_len (nm : ByteArray) (b : St) (f : Fl) : (isB nm b f).length ≤ 1 := by
  unfold isB
  cases (fF b.fs f.num).isNone && !f.opt <;> simp
end Go.Proofs.YtbolanmlngjdoaaGreat
namespace Go.Proofs.YtbolanmlngjdoaaGreat
open Go.W
def pcM38 : PC := .seq (.reg  [⟨some 2, none, .e (.bx 25 (.t 0))⟩, ⟨some 3, none, .e (.bx 25 (.t 1))⟩, ⟨some 4, none, .q (.mv (.k (.bool false)))⟩]) (.seq (.seq (.reg  [⟨some 9, none, .q (.fa 2 (.t 2))⟩, ⟨some 10, none, .l (.ld1 (.t 9))⟩, ⟨some 11, none, .q (.lnL (.t 10))⟩, ⟨some 12, none, .q (.mv (.k (.int .i64 0)))⟩]) (.block 0 (.loop (.seq (.reg  [⟨some 13, none, .q (.bin .lss true (.t 12) (.t 11))⟩]) (.seq (.cond (.t 13) (.skip) (.exit 0)) (.seq (.block 1 (.seq (.reg  [⟨some 14, none, .l (.ia 2 (.t 10) (.t 12))⟩, ⟨some 15, none, .l (.ldn 2 (.t 14))⟩, ⟨some 6, none, .e (.al (.agg #[(.string (mk [])), (.slice none 0 0)]) 37)⟩, ⟨none, none, .e (.st 2 (.t 6) (.t 15))⟩]) (.seq (.reg  [⟨some 17, none, .l (.ldn 3 (.t 3))⟩, ⟨some 18, none, .q (.fa 0 (.t 6))⟩, ⟨some 19, none, .l (.ld1 (.t 18))⟩, ⟨some 20, none, .cl 23 [(.t 17), (.t 19)] []⟩, ⟨some 16, none, .q (.mv (.t 20))⟩, ⟨some 21, none, .q (.ex (.t 16) 0)⟩, ⟨some 22, none, .q (.ex (.t 16) 1)⟩, ⟨some 7, none, .e (.al (.agg #[(.string (mk [])), (.slice none 0 0), (.slice none 0 0)]) 60)⟩, ⟨none, none, .e (.st 3 (.t 7) (.t 21))⟩, ⟨some 8, none, .q (.mv (.t 22))⟩]) (.seq (.reg  [⟨some 23, none, .q (.mv (.t 8))⟩]) (.cond (.t 23) (.seq (.reg  [⟨some 4, none, .q (.mv (.k (.bool true)))⟩]) (.ret)) (.skip)))))) (.reg  [⟨some 24, none, .q (.bin .add true (.t 12) (.k (.int .i64 1)))⟩, ⟨some 12, none, .q (.mv (.t 24))⟩]))))))) (.seq (.reg  [⟨some 4, none, .q (.mv (.k (.bool false)))⟩]) (.ret)))
def rsM38 : List RV := [.mv (.t 4)]
theorem okM38 : trFn Tryz.prog true ⟨fun _ _ => .own [], fun _ => false⟩ Tryz.f38 = some (pcM38, rsM38) := by kernel_rfl
def pcM39 : PC := .seq (.reg  [⟨some 2, none, .e (.bx 60 (.t 0))⟩, ⟨some 3, none, .e (.bx 60 (.t 1))⟩, ⟨some 4, none, .e (.al (.agg #[(.string (mk [])), (.slice none 0 0), (.slice none 0 0)]) 60)⟩, ⟨some 5, none, .q (.mv (.k (.bool false)))⟩]) (.seq (.reg  [⟨some 6, none, .q (.mv (.k (.slice none 0 0)))⟩]) (.seq (.seq (.reg  [⟨some 15, none, .q (.fa 2 (.t 2))⟩, ⟨some 16, none, .l (.ld1 (.t 15))⟩, ⟨some 17, none, .q (.lnL (.t 16))⟩, ⟨some 18, none, .q (.mv (.k (.int .i64 0)))⟩]) (.block 0 (.loop (.seq (.reg  [⟨some 19, none, .q (.bin .lss true (.t 18) (.t 17))⟩]) (.seq (.cond (.t 19) (.skip) (.exit 0)) (.seq (.block 1 (.seq (.reg  [⟨some 20, none, .q (.mv (.t 18))⟩, ⟨some 21, none, .l (.ia 1 (.t 16) (.t 18))⟩, ⟨some 22, none, .l (.ld1 (.t 21))⟩, ⟨some 7, none, .q (.mv (.t 20))⟩, ⟨some 8, none, .q (.mv (.t 22))⟩]) (.reg  [⟨some 23, none, .q (.mv (.t 6))⟩, ⟨some 24, none, .q (.mv (.t 8))⟩, ⟨some 25, none, .q (.fa 1 (.t 2))⟩, ⟨some 26, none, .l (.ld1 (.t 25))⟩, ⟨some 27, none, .q (.mv (.t 7))⟩, ⟨some 28, none, .l (.ia 1 (.t 26) (.t 27))⟩, ⟨some 29, none, .l (.ld1 (.t 28))⟩, ⟨some 30, none, .q (.bd [(.int .i64 0), (.string (mk []))] [(0, 1, (.t 24)), (1, 1, (.t 29))])⟩, ⟨some 31, none, .e (.bsl 111 2 [(.t 30)])⟩, ⟨some 32, none, .e (.ap 111 2 24 (.t 23) (.t 31))⟩, ⟨some 6, none, .q (.mv (.t 32))⟩]))) (.reg  [⟨some 33, none, .q (.bin .add true (.t 18) (.k (.int .i64 1)))⟩, ⟨some 18, none, .q (.mv (.t 33))⟩]))))))) (.seq (.seq (.reg  [⟨some 34, none, .q (.fa 2 (.t 3))⟩, ⟨some 35, none, .l (.ld1 (.t 34))⟩, ⟨some 36, none, .q (.lnL (.t 35))⟩, ⟨some 37, none, .q (.mv (.k (.int .i64 0)))⟩]) (.block 2 (.loop (.seq (.reg  [⟨some 38, none, .q (.bin .lss true (.t 37) (.t 36))⟩]) (.seq (.cond (.t 38) (.skip) (.exit 2)) (.seq (.block 3 (.seq (.reg  [⟨some 39, none, .q (.mv (.t 37))⟩, ⟨some 40, none, .l (.ia 1 (.t 35) (.t 37))⟩, ⟨some 41, none, .l (.ld1 (.t 40))⟩, ⟨some 9, none, .q (.mv (.t 39))⟩, ⟨some 10, none, .q (.mv (.t 41))⟩]) (.seq (.reg  [⟨some 42, none, .q (.mv (.t 10))⟩, ⟨some 43, none, .q (.fa 1 (.t 3))⟩, ⟨some 44, none, .l (.ld1 (.t 43))⟩, ⟨some 45, none, .q (.mv (.t 9))⟩, ⟨some 46, none, .l (.ia 1 (.t 44) (.t 45))⟩, ⟨some 47, none, .l (.ld1 (.t 46))⟩, ⟨some 48, none, .q (.bd [(.int .i64 0), (.string (mk []))] [(0, 1, (.t 42)), (1, 1, (.t 47))])⟩, ⟨some 11, none, .e (.al (.agg #[(.int .i64 0), (.string (mk []))]) 111)⟩, ⟨none, none, .e (.st 2 (.t 11) (.t 48))⟩]) (.seq (.seq (.reg  [⟨some 49, none, .q (.mv (.t 6))⟩, ⟨some 50, none, .l (.ldn 2 (.t 11))⟩, ⟨some 51, none, .cl 76 [(.t 49), (.t 50)] [3]⟩]) (.cond (.t 51) (.exit 3) (.skip))) (.seq (.seq (.reg  [⟨some 52, none, .q (.mv (.t 6))⟩, ⟨some 53, none, .q (.mf 78 [(.t 11)])⟩, ⟨some 54, none, .cl 77 [(.t 52), (.t 53)] [3, 4]⟩]) (.cond (.t 54) (.seq (.reg  [⟨some 55, none, .q (.bd [(.string (mk [])), (.slice none 0 0), (.slice none 0 0)] [])⟩, ⟨none, none, .e (.st 3 (.t 4) (.t 55))⟩, ⟨some 5, none, .q (.mv (.k (.bool false)))⟩]) (.ret)) (.skip))) (.reg  [⟨some 56, none, .q (.mv (.t 6))⟩, ⟨some 57, none, .l (.ldn 2 (.t 11))⟩, ⟨some 58, none, .e (.bsl 111 2 [(.t 57)])⟩, ⟨some 59, none, .e (.ap 111 2 24 (.t 56) (.t 58))⟩, ⟨some 6, none, .q (.mv (.t 59))⟩])))))) (.reg  [⟨some 60, none, .q (.bin .add true (.t 37) (.k (.int .i64 1)))⟩, ⟨some 37, none, .q (.mv (.t 60))⟩]))))))) (.seq (.reg  [⟨some 61, none, .q (.mv (.t 6))⟩, ⟨some 62, none, .cl 79 [(.t 61), (.f 80)] [3]⟩]) (.seq (.reg  [⟨some 63, none, .q (.fa 0 (.t 2))⟩, ⟨some 64, none, .l (.ld1 (.t 63))⟩, ⟨some 65, none, .q (.bd [(.string (mk [])), (.slice none 0 0), (.slice none 0 0)] [(0, 1, (.t 64))])⟩, ⟨some 12, none, .e (.al (.agg #[(.string (mk [])), (.slice none 0 0), (.slice none 0 0)]) 60)⟩, ⟨none, none, .e (.st 3 (.t 12) (.t 65))⟩]) (.seq (.seq (.reg  [⟨some 66, none, .q (.mv (.t 6))⟩, ⟨some 67, none, .q (.lnL (.t 66))⟩, ⟨some 68, none, .q (.mv (.k (.int .i64 0)))⟩]) (.block 4 (.loop (.seq (.reg  [⟨some 69, none, .q (.bin .lss true (.t 68) (.t 67))⟩]) (.seq (.cond (.t 69) (.skip) (.exit 4)) (.seq (.block 5 (.seq (.reg  [⟨some 70, none, .l (.ia 2 (.t 66) (.t 68))⟩, ⟨some 71, none, .l (.ldn 2 (.t 70))⟩, ⟨some 14, none, .e (.al (.agg #[(.int .i64 0), (.string (mk []))]) 111)⟩, ⟨none, none, .e (.st 2 (.t 14) (.t 71))⟩]) (.seq (.reg  [⟨some 72, none, .q (.fa 1 (.t 12))⟩, ⟨some 73, none, .l (.ld1 (.t 72))⟩, ⟨some 74, none, .q (.fa 1 (.t 14))⟩, ⟨some 75, none, .l (.ld1 (.t 74))⟩, ⟨some 76, none, .e (.bsl 9 1 [(.t 75)])⟩, ⟨some 77, none, .e (.ap 9 1 16 (.t 73) (.t 76))⟩, ⟨some 78, none, .q (.fa 1 (.t 12))⟩, ⟨none, none, .e (.st 1 (.t 78) (.t 77))⟩]) (.reg  [⟨some 79, none, .q (.fa 2 (.t 12))⟩, ⟨some 80, none, .l (.ld1 (.t 79))⟩, ⟨some 81, none, .q (.fa 0 (.t 14))⟩, ⟨some 82, none, .l (.ld1 (.t 81))⟩, ⟨some 83, none, .e (.bsl 3 1 [(.t 82)])⟩, ⟨some 84, none, .e (.ap 3 1 8 (.t 80) (.t 83))⟩, ⟨some 85, none, .q (.fa 2 (.t 12))⟩, ⟨none, none, .e (.st 1 (.t 85) (.t 84))⟩])))) (.reg  [⟨some 86, none, .q (.bin .add true (.t 68) (.k (.int .i64 1)))⟩, ⟨some 68, none, .q (.mv (.t 86))⟩]))))))) (.seq (.reg  [⟨some 87, none, .l (.ldn 3 (.t 12))⟩, ⟨none, none, .e (.st 3 (.t 4) (.t 87))⟩, ⟨some 5, none, .q (.mv (.k (.bool true)))⟩]) (.ret))))))))
def rsM39 : List RV := [.ld (.ldn 3 (.t 4)), .mv (.t 5)]
theorem okM39 : trFn Tryz.prog true ⟨fun r k => if r = 11 ∧ k = 2 then .own [3] else if r = 12 ∧ k = 2 then .own [3, 4] else if r = 16 ∧ k = 1 then .own [3] else .own [], fun _ => false⟩ Tryz.f39 = some (pcM39, rsM39) := by kernel_rfl
def pcM42 : PC := .seq (.reg  [⟨some 2, none, .e (.bx 37 (.t 0))⟩, ⟨some 3, none, .e (.bx 37 (.t 1))⟩, ⟨some 4, none, .e (.al (.agg #[(.string (mk [])), (.slice none 0 0)]) 37)⟩, ⟨some 5, none, .q (.mv (.k (.bool false)))⟩]) (.seq (.reg  [⟨some 16, none, .q (.fa 0 (.t 2))⟩, ⟨some 17, none, .l (.ld1 (.t 16))⟩, ⟨some 18, none, .q (.bd [(.string (mk [])), (.slice none 0 0)] [(0, 1, (.t 17))])⟩, ⟨some 6, none, .e (.al (.agg #[(.string (mk [])), (.slice none 0 0)]) 37)⟩, ⟨none, none, .e (.st 2 (.t 6) (.t 18))⟩]) (.seq (.seq (.reg  [⟨some 19, none, .q (.fa 1 (.t 2))⟩, ⟨some 20, none, .l (.ld1 (.t 19))⟩, ⟨some 21, none, .q (.lnL (.t 20))⟩, ⟨some 22, none, .q (.mv (.k (.int .i64 0)))⟩]) (.block 0 (.loop (.seq (.reg  [⟨some 23, none, .q (.bin .lss true (.t 22) (.t 21))⟩]) (.seq (.cond (.t 23) (.skip) (.exit 0)) (.seq (.block 1 (.seq (.reg  [⟨some 24, none, .l (.ia 7 (.t 20) (.t 22))⟩, ⟨some 25, none, .l (.ldn 7 (.t 24))⟩, ⟨some 8, none, .e (.al (.agg #[(.int .i64 0), (.string (mk [])), (.int .i64 0), (.int .i64 0), (.string (mk [])), (.slice none 0 0), (.bool false)]) 50)⟩, ⟨none, none, .e (.st 7 (.t 8) (.t 25))⟩]) (.seq (.reg  [⟨some 26, none, .q (.fa 6 (.t 8))⟩, ⟨some 27, none, .l (.ld1 (.t 26))⟩, ⟨some 9, none, .q (.mv (.t 27))⟩]) (.seq (.seq (.reg  [⟨some 29, none, .l (.ldn 2 (.t 3))⟩, ⟨some 30, none, .q (.fa 0 (.t 8))⟩, ⟨some 31, none, .l (.ld1 (.t 30))⟩, ⟨some 32, none, .cl 60 [(.t 29), (.t 31)] []⟩, ⟨some 28, none, .q (.mv (.t 32))⟩, ⟨some 33, none, .q (.ex (.t 28) 0)⟩, ⟨some 34, none, .q (.ex (.t 28) 1)⟩, ⟨some 10, none, .e (.al (.agg #[(.int .i64 0), (.string (mk [])), (.int .i64 0), (.int .i64 0), (.string (mk [])), (.slice none 0 0), (.bool false)]) 50)⟩, ⟨none, none, .e (.st 7 (.t 10) (.t 33))⟩, ⟨some 11, none, .q (.mv (.t 34))⟩]) (.seq (.reg  [⟨some 35, none, .q (.mv (.t 11))⟩]) (.cond (.t 35) (.reg  [⟨some 37, none, .l (.ldn 7 (.t 8))⟩, ⟨some 38, none, .l (.ldn 7 (.t 10))⟩, ⟨some 39, none, .cl 81 [(.t 37), (.t 38)] []⟩, ⟨some 36, none, .q (.mv (.t 39))⟩, ⟨some 40, none, .q (.ex (.t 36) 0)⟩, ⟨some 41, none, .q (.ex (.t 36) 1)⟩, ⟨none, none, .e (.st 7 (.t 8) (.t 40))⟩, ⟨some 9, none, .q (.mv (.t 41))⟩]) (.skip)))) (.seq (.seq (.reg  [⟨some 42, none, .q (.mv (.t 9))⟩, ⟨some 43, none, .q (.not (.t 42))⟩]) (.cond (.t 43) (.seq (.reg  [⟨some 44, none, .l (.ldn 2 (.t 6))⟩, ⟨none, none, .e (.st 2 (.t 4) (.t 44))⟩, ⟨some 5, none, .q (.mv (.k (.bool false)))⟩]) (.ret)) (.skip))) (.reg  [⟨some 45, none, .q (.fa 1 (.t 6))⟩, ⟨some 46, none, .l (.ld1 (.t 45))⟩, ⟨some 47, none, .l (.ldn 7 (.t 8))⟩, ⟨some 48, none, .e (.bsl 50 7 [(.t 47)])⟩, ⟨some 49, none, .e (.ap 50 7 88 (.t 46) (.t 48))⟩, ⟨some 50, none, .q (.fa 1 (.t 6))⟩, ⟨none, none, .e (.st 1 (.t 50) (.t 49))⟩])))))) (.reg  [⟨some 51, none, .q (.bin .add true (.t 22) (.k (.int .i64 1)))⟩, ⟨some 22, none, .q (.mv (.t 51))⟩]))))))) (.seq (.seq (.reg  [⟨some 52, none, .q (.fa 1 (.t 3))⟩, ⟨some 53, none, .l (.ld1 (.t 52))⟩, ⟨some 54, none, .q (.lnL (.t 53))⟩, ⟨some 55, none, .q (.mv (.k (.int .i64 0)))⟩]) (.block 2 (.loop (.seq (.reg  [⟨some 56, none, .q (.bin .lss true (.t 55) (.t 54))⟩]) (.seq (.cond (.t 56) (.skip) (.exit 2)) (.seq (.block 3 (.seq (.reg  [⟨some 57, none, .l (.ia 7 (.t 53) (.t 55))⟩, ⟨some 58, none, .l (.ldn 7 (.t 57))⟩, ⟨some 13, none, .e (.al (.agg #[(.int .i64 0), (.string (mk [])), (.int .i64 0), (.int .i64 0), (.string (mk [])), (.slice none 0 0), (.bool false)]) 50)⟩, ⟨none, none, .e (.st 7 (.t 13) (.t 58))⟩]) (.seq (.seq (.reg  [⟨some 60, none, .l (.ldn 2 (.t 2))⟩, ⟨some 61, none, .q (.fa 0 (.t 13))⟩, ⟨some 62, none, .l (.ld1 (.t 61))⟩, ⟨some 63, none, .cl 60 [(.t 60), (.t 62)] []⟩, ⟨some 59, none, .q (.mv (.t 63))⟩, ⟨some 64, none, .q (.ex (.t 59) 0)⟩, ⟨some 65, none, .q (.ex (.t 59) 1)⟩, ⟨some 14, none, .e (.al (.agg #[(.int .i64 0), (.string (mk [])), (.int .i64 0), (.int .i64 0), (.string (mk [])), (.slice none 0 0), (.bool false)]) 50)⟩, ⟨none, none, .e (.st 7 (.t 14) (.t 64))⟩, ⟨some 15, none, .q (.mv (.t 65))⟩]) (.seq (.reg  [⟨some 66, none, .q (.mv (.t 15))⟩]) (.cond (.t 66) (.exit 3) (.skip)))) (.seq (.seq (.reg  [⟨some 67, none, .q (.fa 6 (.t 13))⟩, ⟨some 68, none, .l (.ld1 (.t 67))⟩, ⟨some 69, none, .q (.not (.t 68))⟩]) (.cond (.t 69) (.seq (.reg  [⟨some 70, none, .l (.ldn 2 (.t 6))⟩, ⟨none, none, .e (.st 2 (.t 4) (.t 70))⟩, ⟨some 5, none, .q (.mv (.k (.bool false)))⟩]) (.ret)) (.skip))) (.reg  [⟨some 71, none, .q (.fa 1 (.t 6))⟩, ⟨some 72, none, .l (.ld1 (.t 71))⟩, ⟨some 73, none, .l (.ldn 7 (.t 13))⟩, ⟨some 74, none, .e (.bsl 50 7 [(.t 73)])⟩, ⟨some 75, none, .e (.ap 50 7 88 (.t 72) (.t 74))⟩, ⟨some 76, none, .q (.fa 1 (.t 6))⟩, ⟨none, none, .e (.st 1 (.t 76) (.t 75))⟩]))))) (.reg  [⟨some 77, none, .q (.bin .add true (.t 55) (.k (.int .i64 1)))⟩, ⟨some 55, none, .q (.mv (.t 77))⟩]))))))) (.seq (.reg  [⟨some 78, none, .q (.fa 1 (.t 6))⟩, ⟨some 79, none, .l (.ld1 (.t 78))⟩, ⟨some 80, none, .cl 82 [(.t 79), (.f 83)] [4]⟩]) (.seq (.reg  [⟨some 81, none, .l (.ldn 2 (.t 6))⟩, ⟨none, none, .e (.st 2 (.t 4) (.t 81))⟩, ⟨some 5, none, .q (.mv (.k (.bool true)))⟩]) (.ret))))))
def rsM42 : List RV := [.ld (.ldn 2 (.t 4)), .mv (.t 5)]
theorem okM42 : trFn Tryz.prog true ⟨fun r k => if r = 22 ∧ k = 2 then .own [4] else .own [], fun _ => false⟩ Tryz.f42 = some (pcM42, rsM42) := by kernel_rfl
def pcM43 : PC := .seq (.reg  [⟨some 1, none, .e (.bx 48 (.t 0))⟩, ⟨some 2, none, .e (.al (.agg #[(.int .i64 0), (.int .i64 0), (.string (mk [])), (.slice none 0 0)]) 48)⟩]) (.seq (.reg  [⟨some 6, none, .q (.fa 3 (.t 1))⟩, ⟨some 7, none, .l (.ld1 (.t 6))⟩, ⟨some 3, none, .q (.mv (.t 7))⟩]) (.seq (.reg  [⟨some 8, none, .q (.fa 3 (.t 1))⟩, ⟨none, none, .e (.st 1 (.t 8) (.k (.slice none 0 0)))⟩]) (.seq (.seq (.reg  [⟨some 9, none, .q (.mv (.t 3))⟩, ⟨some 10, none, .q (.lnL (.t 9))⟩, ⟨some 11, none, .q (.mv (.k (.int .i64 0)))⟩]) (.block 0 (.loop (.seq (.reg  [⟨some 12, none, .q (.bin .lss true (.t 11) (.t 10))⟩]) (.seq (.cond (.t 12) (.skip) (.exit 0)) (.seq (.block 1 (.seq (.reg  [⟨some 13, none, .l (.ia 4 (.t 9) (.t 11))⟩, ⟨some 14, none, .l (.ldn 4 (.t 13))⟩, ⟨some 5, none, .e (.al (.agg #[(.int .i64 0), (.int .i64 0), (.string (mk [])), (.slice none 0 0)]) 48)⟩, ⟨none, none, .e (.st 4 (.t 5) (.t 14))⟩]) (.ord  [.q ⟨some 15, none, .q (.fa 3 (.t 1))⟩, .q ⟨some 16, none, .l (.ld1 (.t 15))⟩, .q ⟨some 17, none, .l (.ldn 4 (.t 5))⟩, .m ⟨some 18, none, .cl 43 [(.t 17)] []⟩, .rc ⟨some 15, none, .q (.fa 3 (.t 1))⟩, .rc ⟨some 16, none, .l (.ld1 (.t 15))⟩, .m ⟨some 19, none, .e (.bsl 48 4 [(.t 18)])⟩, .rc ⟨some 15, none, .q (.fa 3 (.t 1))⟩, .rc ⟨some 16, none, .l (.ld1 (.t 15))⟩, .m ⟨some 20, none, .e (.ap 48 4 56 (.t 16) (.t 19))⟩, .q ⟨some 21, none, .q (.fa 3 (.t 1))⟩, .m ⟨none, none, .e (.st 1 (.t 21) (.t 20))⟩]))) (.reg  [⟨some 22, none, .q (.bin .add true (.t 11) (.k (.int .i64 1)))⟩, ⟨some 11, none, .q (.mv (.t 22))⟩]))))))) (.seq (.reg  [⟨some 23, none, .l (.ldn 4 (.t 1))⟩, ⟨none, none, .e (.st 4 (.t 2) (.t 23))⟩]) (.ret)))))
def rsM43 : List RV := [.ld (.ldn 4 (.t 2))]
theorem okM43 : trFn Tryz.prog true ⟨fun _ _ => .own [], fun _ => false⟩ Tryz.f43 = some (pcM43, rsM43) := by kernel_rfl
def pcM76 : PC := .seq (.reg  [⟨some 3, none, .e (.bx 111 (.t 1))⟩, ⟨some 4, none, .q (.mv (.k (.bool false)))⟩]) (.seq (.reg  [⟨some 5, none, .q (.mv (.t 0))⟩, ⟨some 6, none, .l (.ldn 2 (.t 3))⟩, ⟨some 7, none, .cl 108 [(.t 5), (.t 6)] [0]⟩, ⟨some 8, none, .q (.bin .geq true (.t 7) (.k (.int .i64 0)))⟩, ⟨some 4, none, .q (.mv (.t 8))⟩]) (.ret))
def rsM76 : List RV := [.mv (.t 4)]
theorem okM76 : trFn Tryz.prog true ⟨fun r k => if r = 1 ∧ k = 2 then .own [0] else .own [], fun _ => false⟩ Tryz.f76 = some (pcM76, rsM76) := by kernel_rfl
def pcM77 : PC := .seq (.reg  [⟨some 4, none, .q (.mv (.k (.bool false)))⟩]) (.seq (.reg  [⟨some 5, none, .q (.mv (.t 0))⟩, ⟨some 6, none, .q (.mv (.t 1))⟩, ⟨some 7, none, .cl 109 [(.t 5), (.t 6)] [0, 1]⟩, ⟨some 8, none, .q (.bin .geq true (.t 7) (.k (.int .i64 0)))⟩, ⟨some 4, none, .q (.mv (.t 8))⟩]) (.ret))
def rsM77 : List RV := [.mv (.t 4)]
theorem okM77 : trFn Tryz.prog true ⟨fun r k => if r = 1 ∧ k = 2 then .own [0, 1] else .own [], fun _ => false⟩ Tryz.f77 = some (pcM77, rsM77) := by kernel_rfl
def pcM78 : PC := .seq (.reg  [⟨some 2, none, .e (.bx 111 (.t 0))⟩, ⟨some 3, none, .q (.mv (.k (.bool false)))⟩]) (.seq (.reg  [⟨some 4, none, .q (.fa 0 (.t 2))⟩, ⟨some 5, none, .l (.ld1 (.t 4))⟩, ⟨some 6, none, .q (.fa 0 (.t 1))⟩, ⟨some 7, none, .l (.ld1 (.t 6))⟩, ⟨some 8, none, .q (.bin .eql true (.t 5) (.t 7))⟩, ⟨some 9, none, .q (.mv (.t 8))⟩, ⟨some 10, (some (9, false)), .q (.fa 1 (.t 2))⟩, ⟨some 11, (some (9, false)), .l (.ld1 (.t 10))⟩, ⟨some 12, (some (9, false)), .q (.fa 1 (.t 1))⟩, ⟨some 13, (some (9, false)), .l (.ld1 (.t 12))⟩, ⟨some 14, (some (9, false)), .q (.bin .eql true (.t 11) (.t 13))⟩, ⟨some 15, none, .pick (.t 9) (.k (.bool true)) (.t 14)⟩, ⟨some 3, none, .q (.mv (.t 15))⟩]) (.ret))
def rsM78 : List RV := [.mv (.t 3)]
theorem okM78 : trFn Tryz.prog true ⟨fun _ _ => .own [], fun _ => false⟩ Tryz.f78 = some (pcM78, rsM78) := by kernel_rfl
def pcM81 : PC := .seq (.reg  [⟨some 2, none, .e (.bx 50 (.t 0))⟩, ⟨some 3, none, .e (.bx 50 (.t 1))⟩, ⟨some 4, none, .e (.al (.agg #[(.int .i64 0), (.string (mk [])), (.int .i64 0), (.int .i64 0), (.string (mk [])), (.slice none 0 0), (.bool false)]) 50)⟩, ⟨some 5, none, .q (.mv (.k (.bool false)))⟩]) (.seq (.block 0 (.seq (.reg  [⟨some 7, none, .q (.fa 6 (.t 2))⟩, ⟨some 8, none, .l (.ld1 (.t 7))⟩, ⟨some 9, none, .q (.fa 6 (.t 3))⟩, ⟨some 10, none, .l (.ld1 (.t 9))⟩, ⟨some 11, none, .q (.eqB true (.t 8) (.t 10))⟩, ⟨some 6, none, .q (.mv (.t 11))⟩]) (.cond (.t 6) (.seq (.reg  [⟨some 12, none, .l (.ldn 7 (.t 2))⟩, ⟨none, none, .e (.st 7 (.t 4) (.t 12))⟩, ⟨some 5, none, .q (.mv (.k (.bool false)))⟩]) (.ret)) (.seq (.reg  [⟨some 14, none, .q (.fa 2 (.t 2))⟩, ⟨some 15, none, .l (.ldn 4 (.t 14))⟩, ⟨some 16, none, .q (.fa 2 (.t 3))⟩, ⟨some 17, none, .l (.ldn 4 (.t 16))⟩, ⟨some 18, none, .cq 61 [(.t 15), (.t 17)]⟩, ⟨some 13, none, .q (.mv (.t 18))⟩]) (.cond (.t 13) (.seq (.reg  [⟨some 19, none, .q (.fa 2 (.t 3))⟩, ⟨some 20, none, .l (.ldn 4 (.t 19))⟩, ⟨some 21, none, .q (.fa 2 (.t 2))⟩, ⟨none, none, .e (.st 4 (.t 21) (.t 20))⟩]) (.seq (.reg  [⟨some 22, none, .l (.ldn 7 (.t 2))⟩, ⟨none, none, .e (.st 7 (.t 4) (.t 22))⟩, ⟨some 5, none, .q (.mv (.k (.bool true)))⟩]) (.ret))) (.skip)))))) (.seq (.reg  [⟨some 23, none, .l (.ldn 7 (.t 2))⟩, ⟨some 24, none, .q (.fa 2 (.t 3))⟩, ⟨some 25, none, .l (.ldn 4 (.t 24))⟩, ⟨some 26, none, .q (.fa 2 (.t 2))⟩, ⟨some 27, none, .l (.ldn 4 (.t 26))⟩, ⟨some 28, none, .cq 61 [(.t 25), (.t 27)]⟩, ⟨none, none, .e (.st 7 (.t 4) (.t 23))⟩, ⟨some 5, none, .q (.mv (.t 28))⟩]) (.ret)))
def rsM81 : List RV := [.ld (.ldn 7 (.t 4)), .mv (.t 5)]
theorem okM81 : trFn Tryz.prog true ⟨fun r k => if r = 3 ∧ k = 4 then .q else if r = 6 ∧ k = 5 then .q else .own [], fun _ => false⟩ Tryz.f81 = some (pcM81, rsM81) := by kernel_rfl
def pcM108 : PC := .seq (.reg  [⟨some 3, none, .e (.bx 111 (.t 1))⟩, ⟨some 4, none, .q (.mv (.k (.int .i64 0)))⟩]) (.seq (.seq (.reg  [⟨some 6, none, .q (.mv (.t 0))⟩, ⟨some 7, none, .q (.lnL (.t 6))⟩, ⟨some 8, none, .q (.mv (.k (.int .i64 0)))⟩]) (.block 0 (.loop (.seq (.reg  [⟨some 9, none, .q (.bin .lss true (.t 8) (.t 7))⟩]) (.seq (.cond (.t 9) (.skip) (.exit 0)) (.seq (.block 1 (.seq (.reg  [⟨some 10, none, .q (.mv (.t 8))⟩, ⟨some 5, none, .q (.mv (.t 10))⟩]) (.seq (.reg  [⟨some 11, none, .l (.ldn 2 (.t 3))⟩, ⟨some 12, none, .q (.mv (.t 0))⟩, ⟨some 13, none, .q (.mv (.t 5))⟩, ⟨some 14, none, .l (.ia 2 (.t 12) (.t 13))⟩, ⟨some 15, none, .l (.ldn 2 (.t 14))⟩, ⟨some 16, none, .q (.eqT false [(0, .int .i64), (1, .str)] (.t 11) (.t 15))⟩]) (.cond (.t 16) (.seq (.reg  [⟨some 17, none, .q (.mv (.t 5))⟩, ⟨some 4, none, .q (.mv (.t 17))⟩]) (.ret)) (.skip))))) (.reg  [⟨some 18, none, .q (.bin .add true (.t 8) (.k (.int .i64 1)))⟩, ⟨some 8, none, .q (.mv (.t 18))⟩]))))))) (.seq (.reg  [⟨some 4, none, .q (.mv (.k (.int .i64 (-1))))⟩]) (.ret)))
def rsM108 : List RV := [.mv (.t 4)]
theorem okM108 : trFn Tryz.prog true ⟨fun _ _ => .own [], fun _ => false⟩ Tryz.f108 = some (pcM108, rsM108) := by kernel_rfl
def pcM109 : PC := .seq (.reg  [⟨some 4, none, .q (.mv (.k (.int .i64 0)))⟩]) (.seq (.seq (.reg  [⟨some 6, none, .q (.mv (.t 0))⟩, ⟨some 7, none, .q (.lnL (.t 6))⟩, ⟨some 8, none, .q (.mv (.k (.int .i64 0)))⟩]) (.block 0 (.loop (.seq (.reg  [⟨some 9, none, .q (.bin .lss true (.t 8) (.t 7))⟩]) (.seq (.cond (.t 9) (.skip) (.exit 0)) (.seq (.block 1 (.seq (.reg  [⟨some 10, none, .q (.mv (.t 8))⟩, ⟨some 5, none, .q (.mv (.t 10))⟩]) (.seq (.reg  [⟨some 11, none, .q (.mv (.t 1))⟩, ⟨some 12, none, .q (.mv (.t 0))⟩, ⟨some 13, none, .q (.mv (.t 5))⟩, ⟨some 14, none, .l (.ia 2 (.t 12) (.t 13))⟩, ⟨some 15, none, .l (.ldn 2 (.t 14))⟩, ⟨some 16, none, .ca (.t 11) [(.t 15)] [1]⟩]) (.cond (.t 16) (.seq (.reg  [⟨some 17, none, .q (.mv (.t 5))⟩, ⟨some 4, none, .q (.mv (.t 17))⟩]) (.ret)) (.skip))))) (.reg  [⟨some 18, none, .q (.bin .add true (.t 8) (.k (.int .i64 1)))⟩, ⟨some 8, none, .q (.mv (.t 18))⟩]))))))) (.seq (.reg  [⟨some 4, none, .q (.mv (.k (.int .i64 (-1))))⟩]) (.ret)))
def rsM109 : List RV := [.mv (.t 4)]
theorem okM109 : trFn Tryz.prog true ⟨fun r k => if r = 4 ∧ k = 5 then .own [1] else .own [], fun _ => false⟩ Tryz.f109 = some (pcM109, rsM109) := by kernel_rfl
end Go.Proofs.YtbolanmlngjdoaaGreat
namespace Go.Proofs.YtbolanmlngjdoaaGreat
open Go.W
structure Nd where
  n : Int
  nm : ByteArray
instance : Inhabited Nd := ⟨⟨0, ByteArray.empty⟩⟩
theorem nd_eq {a b : Nd} : a = b ↔ (a.n = b.n ∧ a.nm = b.nm) := by cases a; cases b; simp
instance : DecidableEq Nd := fun _ _ => decidable_of_iff _ nd_eq.symm
def ndC (x : Nd) : List C := [.vl (.int .i64 x.n), .vl (.string x.nm)]
theorem ndC_inj {a b : Nd} (h : ndC a = ndC b) : a = b := by
  rw [nd_eq]; simpa [ndC] using h
def fixP {α : Type} (p : α → Bool) : List α → Nat → Int
  | [], _ => -1
  | y :: l, i => bif p y then (i : Int) else fixP p l (i + 1)
theorem fixP_has {α : Type} (p : α → Bool) : ∀ (l : List α) (i : Nat), decide (0 ≤ fixP p l i) = l.any p
  | [], _ => rfl
  | y :: l, i => by
    rw [List.any_cons]
    simp only [fixP]
    by_cases h : p y = true
    · simp [h]
    · rw [Bool.not_eq_true] at h
      have := fixP_has p l (i + 1)
      simp only [h, Bool.cond_false, Bool.false_or]
      exact this
abbrev ndH (l : List Nd) : Hp := [.row (l.map ndC) 111 2]
def isN (x : Nd) : Nd → Bool := fun y => decide (x = y)
def clN (x : Nd) : Nd → Bool := fun y => y.n == x.n || decide (y.nm = x.nm)
def ixnSp : W.Spec := fun av H K => ∃ (l : List Nd) (x : Nd), av = [.va (.c1 (.sl 0 l.length)), .va (.gs (ndC x))] ∧ H = ndH l ∧ l.length ≤ 1000000 ∧ K (iS .i64 (fixP (isN x) l 0)) (ndH l)
theorem ixn_use {l : List Nd} {x : Nd} {K : S → Hp → Prop} (h : l.length ≤ 1000000) (hK : K (iS .i64 (fixP (isN x) l 0)) (ndH l)) : ixnSp [.va (.c1 (.sl 0 l.length)), .va (.gs (ndC x))] (ndH l) K := ⟨l, x, rfl, rfl, h, hK⟩
set_option maxRecDepth 100000 in
theorem mIndexN : Meets Tryz.prog 108 ixnSp := by
  refine meets_fn Tryz.func108 okM108 2 (by rw [Tryz.ntmps108]; decide) (meetsAll_nil _) (fun av H K h => by obtain ⟨_, _, rfl, _⟩ := h; rfl) ?_
  rintro av H K ⟨l, x, rfl, rfl, hl, hK⟩
  simp (maxSteps := 1000000) -dsimp only [go_sem, ndC, pcM108, rsM108]
  refine vc_loop (α := Nat) (fun i => [(0, .va (.c1 (.sl 0 l.length))), (3, .va (.c1 (.pt 1 0))), (7, iS .i64 l.length), (8, iS .i64 i)]) (fun _ => [.row (l.map ndC) 111 2, .cells (ndC x) 111])
    (fun i => i ≤ l.length ∧ fixP (isN x) (l.drop i) i = fixP (isN x) l 0) (fun i => l.length - i) 0 2 ⟨Nat.zero_le _, rfl⟩ ?_ ?_ ?_
  · simp -dsimp only [go_sem] <;> simp
  · simp -dsimp only [go_sem, ndC] <;> simp
  rintro i ⟨hi, ho⟩
  rcases Nat.lt_or_ge i l.length with hlt | hge
  · have hg : decide ((i : Int) < (l.length : Int)) = true := by simp; omega
    obtain ⟨y, hx⟩ : ∃ t, l[i]? = some t := ⟨_, List.getElem?_eq_getElem hlt⟩
    have hdr : l.drop i = y :: l.drop (i + 1) := by
      obtain ⟨h, rfl⟩ := List.getElem?_eq_some_iff.1 hx
      exact List.drop_eq_getElem_cons h
    rw [hdr] at ho
    simp only [fixP] at ho
    have hq : (x.n == y.n && bl x.nm == bl y.nm) = isN x y := by
      unfold isN
      rw [bl_beq, Bool.eq_iff_iff, decide_eq_true_eq, nd_eq]; simp
    simp (maxSteps := 1000000) -dsimp only [go_sem, hg, ndC, hx, Option.some.injEq, forall_eq', hq]
    refine ⟨by omega, hlt, fun h1 => ?_, fun h1 => ⟨by omega, loop_next (i + 1) 2 ⟨by omega, ?_⟩ (by omega) ?_ ?_⟩⟩
    · rw [h1, Bool.cond_true] at ho
      rw [← ho] at hK
      exact .sel [0] (by simp) (by simp) rfl (.done (by simpa [go_sem] using hK))
    · rw [h1, Bool.cond_false] at ho; exact ho
    · simp -dsimp only [go_sem] <;> simp
    · simp -dsimp only [go_sem, ndC] <;> simp
  · have hg : decide ((i : Int) < (l.length : Int)) = false := by simp; omega
    obtain rfl : i = l.length := by omega
    rw [List.drop_length] at ho
    have ho : -1 = fixP (isN x) l 0 := ho
    simp (maxSteps := 1000000) -dsimp only [go_sem, hg, ndC]
    rw [← ho] at hK
    exact .sel [0] (by simp) (by simp) rfl (.done (by simpa [go_sem] using hK))
def conSpN : W.Spec := fun av H K => ∃ (l : List Nd) (x : Nd), av = [.va (.c1 (.sl 0 l.length)), .va (.gs (ndC x))] ∧ H = ndH l ∧ l.length ≤ 1000000 ∧ K (bS (l.any (isN x))) (ndH l)
theorem conn_use {l : List Nd} {x : Nd} {K : S → Hp → Prop} (h : l.length ≤ 1000000) (hK : K (bS (l.any (isN x))) (ndH l)) : conSpN [.va (.c1 (.sl 0 l.length)), .va (.gs (ndC x))] (ndH l) K := ⟨l, x, rfl, rfl, h, hK⟩
set_option maxRecDepth 100000 in
theorem mContainsN : Meets Tryz.prog 76 conSpN := by
  refine meets_fn Tryz.func76 okM76 2 (by rw [Tryz.ntmps76]; decide) (meetsAll_s mIndexN (meetsAll_nil _)) (fun av H K h => by obtain ⟨_, _, rfl, _⟩ := h; rfl) ?_
  rintro av H K ⟨l, x, rfl, rfl, hl, hK⟩
  simp (maxSteps := 1000000) -dsimp only [go_sem, ndC, pcM76, rsM76]
  refine ixn_use (x := x) hl ?_
  simp (maxSteps := 1000000) -dsimp only [go_sem, fixP_has]
  exact .sel [0] (by simp) (by simp) rfl (.done (by simpa [go_sem] using hK))
abbrev cxV : S := .va (.c1 (.fn 78 [(false, [.pt 1 0])]))
def c1Sp : W.Spec := fun av H K =>
  match av, H with
  | [.va (.gs yc), .va (.c1 (.pt 0 0))], [.cells xc 111] => ∃ y x : Nd, yc = ndC y ∧ xc = ndC x ∧ K (bS (clN x y)) [.cells (ndC x) 111]
  | _, _ => False
theorem c1Sp_open {av : List S} {H : Hp} {K : S → Hp → Prop} (h : c1Sp av H K) : ∃ y x : Nd, av = [.va (.gs (ndC y)), .va (.c1 (.pt 0 0))] ∧ H = [.cells (ndC x) 111] ∧ K (bS (clN x y)) [.cells (ndC x) 111] := by
  unfold c1Sp at h
  split at h
  · obtain ⟨y, x, rfl, rfl, hK⟩ := h
    exact ⟨y, x, rfl, rfl, hK⟩
  · exact h.elim
theorem c1_use {y x : Nd} {K : S → Hp → Prop} (hK : K (bS (clN x y)) [.cells (ndC x) 111]) : c1Sp [.va (.gs (ndC y)), .va (.c1 (.pt 0 0))] [.cells (ndC x) 111] K := ⟨y, x, rfl, rfl, hK⟩
set_option maxRecDepth 100000 in
theorem mClash : Meets Tryz.prog 78 c1Sp := by
  refine meets_fn Tryz.func78 okM78 2 (by rw [Tryz.ntmps78]; decide) (meetsAll_nil _) (fun av H K h => by obtain ⟨_, _, rfl, _⟩ := c1Sp_open h; rfl) ?_
  intro av H K h
  obtain ⟨y, x, rfl, rfl, hK⟩ := c1Sp_open h
  simp (maxSteps := 1000000) -dsimp only [go_sem, ndC, pcM78, rsM78, bl_beq]
  exact .sel [0] (by simp) (by simp) rfl (.done (by simpa [go_sem, ndC, clN] using hK))
abbrev nxH (l : List Nd) (x : Nd) : Hp := [.row (l.map ndC) 111 2, .cells (ndC x) 111]
def ifnSp : W.Spec := fun av H K => ∃ (l : List Nd) (x : Nd), av = [.va (.c1 (.sl 0 l.length)), cxV] ∧ H = nxH l x ∧ l.length ≤ 1000000 ∧ K (iS .i64 (fixP (clN x) l 0)) (nxH l x)
theorem ifn_use {l : List Nd} {x : Nd} {K : S → Hp → Prop} (h : l.length ≤ 1000000) (hK : K (iS .i64 (fixP (clN x) l 0)) (nxH l x)) : ifnSp [.va (.c1 (.sl 0 l.length)), cxV] (nxH l x) K := ⟨l, x, rfl, rfl, h, hK⟩
set_option maxRecDepth 100000 in
theorem mIndexF : Meets Tryz.prog 109 ifnSp := by
  refine meets_fn Tryz.func109 okM109 2 (by rw [Tryz.ntmps109]; decide) (meetsAll_s mClash (meetsAll_nil _)) (fun av H K h => by obtain ⟨_, _, rfl, _⟩ := h; rfl) ?_
  rintro av H K ⟨l, x, rfl, rfl, hl, hK⟩
  simp (maxSteps := 1000000) -dsimp only [go_sem, pcM109, rsM109]
  refine vc_loop (α := Nat) (fun i => [(0, .va (.c1 (.sl 0 l.length))), (1, cxV), (7, iS .i64 l.length), (8, iS .i64 i)]) (fun _ => nxH l x)
    (fun i => i ≤ l.length ∧ fixP (clN x) (l.drop i) i = fixP (clN x) l 0) (fun i => l.length - i) 0 2 ⟨Nat.zero_le _, rfl⟩ ?_ ?_ ?_
  · simp -dsimp only [go_sem] <;> simp
  · simp -dsimp only [go_sem, ndC] <;> simp [ndC]
  rintro i ⟨hi, ho⟩
  rcases Nat.lt_or_ge i l.length with hlt | hge
  · have hg : decide ((i : Int) < (l.length : Int)) = true := by simp; omega
    obtain ⟨y, hx⟩ : ∃ t, l[i]? = some t := ⟨_, List.getElem?_eq_getElem hlt⟩
    have hdr : l.drop i = y :: l.drop (i + 1) := by
      obtain ⟨h, rfl⟩ := List.getElem?_eq_some_iff.1 hx
      exact List.drop_eq_getElem_cons h
    rw [hdr] at ho
    simp only [fixP] at ho
    simp (maxSteps := 1000000) -dsimp only [go_sem, hg, ndC, hx, Option.some.injEq, forall_eq']
    refine ⟨by omega, hlt, c1_use (y := y) (x := x) ?_⟩
    cases hc : clN x y with
    | true =>
      rw [hc, Bool.cond_true] at ho
      rw [← ho] at hK
      simp (maxSteps := 1000000) -dsimp only [go_sem, ndC]
      exact .done hK
    | false =>
      rw [hc, Bool.cond_false] at ho
      simp (maxSteps := 1000000) -dsimp only [go_sem, ndC]
      refine ⟨by omega, loop_next (i + 1) 2 ⟨by omega, ho⟩ (by omega) ?_ ?_⟩
      · simp -dsimp only [go_sem] <;> simp
      · simp -dsimp only [go_sem] <;> simp [ndC]
  · have hg : decide ((i : Int) < (l.length : Int)) = false := by simp; omega
    obtain rfl : i = l.length := by omega
    rw [List.drop_length] at ho
    have ho : -1 = fixP (clN x) l 0 := ho
    simp (maxSteps := 1000000) -dsimp only [go_sem, hg]
    exact .done (by rw [show (-1 : Int) = fixP (clN x) l 0 from ho]; exact hK)
def cofSp : W.Spec := fun av H K => ∃ (l : List Nd) (x : Nd), av = [.va (.c1 (.sl 0 l.length)), cxV] ∧ H = nxH l x ∧ l.length ≤ 1000000 ∧ K (bS (l.any (clN x))) (nxH l x)
theorem cof_use {l : List Nd} {x : Nd} {K : S → Hp → Prop} (h : l.length ≤ 1000000) (hK : K (bS (l.any (clN x))) (nxH l x)) : cofSp [.va (.c1 (.sl 0 l.length)), cxV] (nxH l x) K := ⟨l, x, rfl, rfl, h, hK⟩
set_option maxRecDepth 100000 in
theorem mContainsF : Meets Tryz.prog 77 cofSp := by
  refine meets_fn Tryz.func77 okM77 2 (by rw [Tryz.ntmps77]; decide) (meetsAll_s mIndexF (meetsAll_nil _)) (fun av H K h => by obtain ⟨_, _, rfl, _⟩ := h; rfl) ?_
  rintro av H K ⟨l, x, rfl, rfl, hl, hK⟩
  simp (maxSteps := 1000000) -dsimp only [go_sem, pcM77, rsM77]
  refine ifn_use hl ?_
  simp (maxSteps := 1000000) -dsimp only [go_sem, fixP_has]
  exact .done hK
end Go.Proofs.YtbolanmlngjdoaaGreat
namespace Go.Proofs.YtbolanmlngjdoaaGreat
open Go.RowKit
def orI (a b c : Int) : Int := if a ≠ 0 then a else if b ≠ 0 then b else c
set_option maxRecDepth 1000000 in
theorem walkOr3 (a b c : Int) (bk cap : Nat) (w : World) (h0 : w.cell? ⟨bk, 0, none⟩ = some (.int .i64 a)) (h1 : w.cell? ⟨bk, 1, none⟩ = some (.int .i64 b)) (h2 : w.cell? ⟨bk, 2, none⟩ = some (.int .i64 c)) :
    Calls Tryz.prog 27 #[.slice (some ⟨bk, 0, none⟩) 3 cap] w fun e w' => e = .returned (.int .i64 (orI a b c)) ∧ w' = w := by
  go_enter Tryz.func27, Tryz.ntmps27
  go_wp2
  go_loopw [8] (fun i w' => ∃ (k : Nat), i = .int .i64 k ∧ w' = w ∧ k ≤ 3 ∧ (1 ≤ k → a = 0) ∧ (2 ≤ k → b = 0) ∧ (3 ≤ k → c = 0)) (fun i _ => match i with | .int _ k => 3 - k.toNat | _ => 0)
  case atStart => exact ⟨0, rfl, rfl, by omega, by omega, by omega, by omega⟩
  case round =>
    obtain ⟨k, rfl, rfl, hk, e1, e2, e3⟩ := hrel
    match k, hk with
    | 0, _ =>
      by_cases ha : a = 0
      · subst ha
        go_wp2
        refine ⟨⟨1, by simp, trivial, by omega, fun _ => by simp, fun h => absurd h (by omega), fun h => absurd h (by omega)⟩, by decide⟩
      · go_wp2
        go_ret
        exact ⟨by simp [orI, ha], rfl⟩
    | 1, _ =>
      obtain rfl := e1 (by omega)
      by_cases hb : b = 0
      · subst hb
        go_wp2
        refine ⟨⟨2, by simp, trivial, by omega, fun _ => by simp, fun _ => by simp, fun h => absurd h (by omega)⟩, by decide⟩
      · go_wp2
        go_ret
        exact ⟨by simp [orI, hb], rfl⟩
    | 2, _ =>
      obtain rfl := e1 (by omega)
      obtain rfl := e2 (by omega)
      by_cases hc : c = 0
      · subst hc
        go_wp2
        refine ⟨⟨3, by simp, trivial, by omega, fun _ => by simp, fun _ => by simp, fun _ => by simp⟩, by decide⟩
      · go_wp2
        go_ret
        exact ⟨by simp [orI], rfl⟩
    | 3, _ =>
      obtain rfl := e1 (by omega)
      obtain rfl := e2 (by omega)
      obtain rfl := e3 (by omega)
      go_wp2
      go_ret
      exact ⟨by simp [orI], rfl⟩
theorem cell_new3 (W : World) (x y z : Value) (t : TypeId) : (W.drew.alloc (.cells #[x, y, z] t)).cell? ⟨W.heap.size, 0, none⟩ = some x ∧ (W.drew.alloc (.cells #[x, y, z] t)).cell? ⟨W.heap.size, 1, none⟩ = some y ∧ (W.drew.alloc (.cells #[x, y, z] t)).cell? ⟨W.heap.size, 2, none⟩ = some z := by
  refine ⟨?_, ?_, ?_⟩ <;> (show (W.drew.alloc _).cell? ⟨W.drew.heap.size, _, none⟩ = _; rw [World.cell?_alloc_mark]; rfl)
set_option maxHeartbeats 1000000 in
set_option maxRecDepth 1000000 in
theorem walkCmp (hc : ∀ (a b : ByteArray) (w : World), Calls Tryz.prog 28 #[.string a, .string b] w fun e w' => e = .returned (.int .i64 (Lib.compareBytes a.data.toList b.data.toList)) ∧ w' = w) (k n k' n' : Int) (t t' : ByteArray) (hk : -1000 ≤ k ∧ k ≤ 1000) (hn : -1000 ≤ n ∧ n ≤ 1000) (hk' : -1000 ≤ k' ∧ k' ≤ 1000) (hn' : -1000 ≤ n' ∧ n' ≤ 1000) (w : World) :
    Calls Tryz.prog 26 #[.agg #[.int .i64 k, .int .i64 n, .string t], .agg #[.int .i64 k', .int .i64 n', .string t']] w fun e w' => e = .returned (.int .i64 (orI (Lib.compareBytes t.data.toList t'.data.toList) (k - k') (n - n'))) ∧ ∃ q os', w' = Sort.grow (w.drewN q) os' := by
  go_enter Tryz.func26, Tryz.ntmps26
  go_wp2
  have c0 : ((w.alloc (.cells #[.int .i64 k, .int .i64 n, .string t] 33)).alloc (.cells #[.int .i64 k', .int .i64 n', .string t'] 33)).cell? ⟨w.heap.size, 0, none⟩ = some (.int .i64 k) := by go_simp
  have c1 : ((w.alloc (.cells #[.int .i64 k, .int .i64 n, .string t] 33)).alloc (.cells #[.int .i64 k', .int .i64 n', .string t'] 33)).cell? ⟨w.heap.size, 1, none⟩ = some (.int .i64 n) := by go_simp
  have c2 : ((w.alloc (.cells #[.int .i64 k, .int .i64 n, .string t] 33)).alloc (.cells #[.int .i64 k', .int .i64 n', .string t'] 33)).cell? ⟨w.heap.size, 2, none⟩ = some (.string t) := by go_simp
  have d0 : ((w.alloc (.cells #[.int .i64 k, .int .i64 n, .string t] 33)).alloc (.cells #[.int .i64 k', .int .i64 n', .string t'] 33)).cell? ⟨w.heap.size + 1, 0, none⟩ = some (.int .i64 k') := by go_simp
  have d1 : ((w.alloc (.cells #[.int .i64 k, .int .i64 n, .string t] 33)).alloc (.cells #[.int .i64 k', .int .i64 n', .string t'] 33)).cell? ⟨w.heap.size + 1, 1, none⟩ = some (.int .i64 n') := by go_simp
  have d2 : ((w.alloc (.cells #[.int .i64 k, .int .i64 n, .string t] 33)).alloc (.cells #[.int .i64 k', .int .i64 n', .string t'] 33)).cell? ⟨w.heap.size + 1, 2, none⟩ = some (.string t') := by go_simp
  generalize hW : (w.alloc (.cells #[.int .i64 k, .int .i64 n, .string t] 33)).alloc (.cells #[.int .i64 k', .int .i64 n', .string t'] 33) = W at c0 c1 c2 d0 d1 d2 ⊢
  refine wp_region_still_tail 15 (by kernel_rfl) (by kernel_rfl) ?_
  simp only [List.take_succ_cons, List.take_zero, List.drop_succ_cons, List.drop_zero]
  change wpStill _ _ W.drew _ _ _
  repeat still_step
  still_call (hc _ _ _)
  repeat still_step
  try refine wpStill_nil ?_
  have w1 : IntKind.i64.wrap (k - k') = k - k' := by simp [IntKind.wrap, IntKind.bits, IntKind.signed]; omega
  have w2 : IntKind.i64.wrap (n - n') = n - n' := by simp [IntKind.wrap, IntKind.bits, IntKind.signed]; omega
  rw [w1, w2]
  change wpList _ _ _ _ _ W.drew
  have hor : Calls Tryz.prog 27 #[.slice (some ⟨W.heap.size, 0, none⟩) 3 3] (W.drew.alloc (.cells #[.int .i64 (Lib.compareBytes t.data.toList t'.data.toList), .int .i64 (k - k'), .int .i64 (n - n')] 3)) _ := walkOr3 (Lib.compareBytes t.data.toList t'.data.toList) (k - k') (n - n') W.heap.size 3 _ (cell_new3 ..).1 (cell_new3 ..).2.1 (cell_new3 ..).2.2
  go_wp2_with (go_at_call 27; refine hor.mono ?_; rintro e w' ⟨rfl, rfl⟩)
  go_ret
  refine ⟨rfl, 1, #[.cells #[.int .i64 k, .int .i64 n, .string t] 33] ++ #[.cells #[.int .i64 k', .int .i64 n', .string t'] 33] ++ #[.cells #[.int .i64 (Lib.compareBytes t.data.toList t'.data.toList), .int .i64 (k - k'), .int .i64 (n - n')] 3], ?_⟩
  subst hW
  rw [← Sort.grow_grow, ← Sort.grow_grow]
  simp only [Sort.alloc_eq_grow]
  rfl
end Go.Proofs.YtbolanmlngjdoaaGreat
namespace Go.Proofs.YtbolanmlngjdoaaGreat
open Go.RowKit
set_option maxHeartbeats 1000000 in
set_option maxRecDepth 1000000 in
theorem walkN (n n' : Int) (t t' : ByteArray) (hn : -1000 ≤ n ∧ n ≤ 1000) (hn' : -1000 ≤ n' ∧ n' ≤ 1000) (w : World) :
    Calls Tryz.prog 80 #[.agg #[.int .i64 n, .string t], .agg #[.int .i64 n', .string t']] w fun e w' => e = .returned (.int .i64 (n - n')) ∧ ∃ q os', w' = Sort.grow (w.drewN q) os' := by
  go_enter Tryz.func80, Tryz.ntmps80
  go_wp2
  go_ret
  exact ⟨rfl, 0, _, by rw [Sort.alloc_eq_grow, Sort.alloc_eq_grow, Sort.grow_grow]; rfl⟩
set_option maxHeartbeats 1000000 in
set_option maxRecDepth 1000000 in
theorem walkF (n n' : Int) (r r' : List Value) (h : r.length = 6) (h' : r'.length = 6) (hn : -1000 ≤ n ∧ n ≤ 1000) (hn' : -1000 ≤ n' ∧ n' ≤ 1000) (w : World) :
    Calls Tryz.prog 83 #[.agg (.int .i64 n :: r).toArray, .agg (.int .i64 n' :: r').toArray] w fun e w' => e = .returned (.int .i64 (n - n')) ∧ ∃ q os', w' = Sort.grow (w.drewN q) os' := by
  match r, r', h, h' with
  | [a1, a2, a3, a4, a5, a6], [b1, b2, b3, b4, b5, b6], _, _ =>
  show Calls Tryz.prog 83 #[.agg #[.int .i64 n, a1, a2, a3, a4, a5, a6], .agg #[.int .i64 n', b1, b2, b3, b4, b5, b6]] w _
  go_enter Tryz.func83, Tryz.ntmps83
  go_wp2
  go_ret
  exact ⟨rfl, 0, _, by rw [Sort.alloc_eq_grow, Sort.alloc_eq_grow, Sort.grow_grow]; rfl⟩
end Go.Proofs.YtbolanmlngjdoaaGreat
namespace Go.Proofs
open Go.Shelf
def Tryz.sortNd_ren : Go.Shelf.Ren := ⟨fun | 6 => 79 | 15 => 64 | 14 => 110 | 28 => 104 | 29 => 105 | 20 => 125 | 21 => 126 | 22 => 127 | 23 => 128 | 24 => 129 | 25 => 130 | 26 => 131 | 27 => 132 | 46 => 144 | 47 => 121 | 48 => 122 | 49 => 145 | 50 => 146 | 57 => 160 | n => n, fun | 22 => 109 | 24 => 111 | 25 => 116 | 3 => 3 | 39 => 100 | 0 => 0 | 53 => 138 | 55 => 140 | 4 => 4 | 46 => 131 | 45 => 130 | 50 => 135 | 5 => 5 | 9 => 9 | 66 => 154 | 70 => 158 | 76 => 172 | 77 => 173 | n => n, fun | n => n⟩
theorem Tryz.sortNd : Go.Proofs.SlLaysF0.n6 Tryz.prog Tryz.sortNd_ren := {
  mixed := by kernel_rfl
  f6 := ⟨"slices.SortFunc[[]robotics/evolve.named,robotics/evolve.named]", by decide, Tryz.func79.trans (congrArg some (by kernel_rfl))⟩
  f14 := ⟨"slices.pdqsortCmpFunc[robotics/evolve.named]", by decide, Tryz.func110.trans (congrArg some (by kernel_rfl))⟩
  f15 := Tryz.func64.trans (congrArg some (by kernel_rfl))
  f20 := ⟨"slices.insertionSortCmpFunc[robotics/evolve.named]", by decide, Tryz.func125.trans (congrArg some (by kernel_rfl))⟩
  f21 := ⟨"slices.heapSortCmpFunc[robotics/evolve.named]", by decide, Tryz.func126.trans (congrArg some (by kernel_rfl))⟩
  f22 := ⟨"slices.breakPatternsCmpFunc[robotics/evolve.named]", by decide, Tryz.func127.trans (congrArg some (by kernel_rfl))⟩
  f23 := ⟨"slices.choosePivotCmpFunc[robotics/evolve.named]", by decide, Tryz.func128.trans (congrArg some (by kernel_rfl))⟩
  f24 := ⟨"slices.reverseRangeCmpFunc[robotics/evolve.named]", by decide, Tryz.func129.trans (congrArg some (by kernel_rfl))⟩
  f25 := ⟨"slices.partialInsertionSortCmpFunc[robotics/evolve.named]", by decide, Tryz.func130.trans (congrArg some (by kernel_rfl))⟩
  f26 := ⟨"slices.partitionEqualCmpFunc[robotics/evolve.named]", by decide, Tryz.func131.trans (congrArg some (by kernel_rfl))⟩
  f27 := ⟨"slices.partitionCmpFunc[robotics/evolve.named]", by decide, Tryz.func132.trans (congrArg some (by kernel_rfl))⟩
  f28 := Tryz.func104.trans (congrArg some (by kernel_rfl))
  f29 := Tryz.func105.trans (congrArg some (by kernel_rfl))
  f46 := ⟨"slices.siftDownCmpFunc[robotics/evolve.named]", by decide, Tryz.func144.trans (congrArg some (by kernel_rfl))⟩
  f47 := Tryz.func121.trans (congrArg some (by kernel_rfl))
  f48 := Tryz.func122.trans (congrArg some (by kernel_rfl))
  f49 := ⟨"slices.medianAdjacentCmpFunc[robotics/evolve.named]", by decide, Tryz.func145.trans (congrArg some (by kernel_rfl))⟩
  f50 := ⟨"slices.medianCmpFunc[robotics/evolve.named]", by decide, Tryz.func146.trans (congrArg some (by kernel_rfl))⟩
  f57 := ⟨"slices.order2CmpFunc[robotics/evolve.named]", by decide, Tryz.func160.trans (congrArg some (by kernel_rfl))⟩
  t0 := Tryz.underlying0
  a0 := Tryz.isAgg0
  z0 := Tryz.sizeOf0
  v0 := Tryz.zeroValue0
  t3 := Tryz.underlying3
  a3 := Tryz.isAgg3
  z3 := Tryz.sizeOf3
  v3 := Tryz.zeroValue3
  t4 := Tryz.underlying4
  a4 := Tryz.isAgg4
  z4 := Tryz.sizeOf4
  v4 := Tryz.zeroValue4
  t5 := Tryz.underlying5
  a5 := Tryz.isAgg5
  z5 := Tryz.sizeOf5
  v5 := Tryz.zeroValue5
  t9 := Tryz.underlying9
  a9 := Tryz.isAgg9
  z9 := Tryz.sizeOf9
  v9 := Tryz.zeroValue9
  t22 := Tryz.underlying109
  a22 := Tryz.isAgg109
  z22 := Tryz.sizeOf109
  v22 := Tryz.zeroValue109
  t25 := Tryz.underlying116
  a25 := Tryz.isAgg116
  z25 := Tryz.sizeOf116
  v25 := Tryz.zeroValue116
  t39 := Tryz.underlying100
  a39 := Tryz.isAgg100
  z39 := Tryz.sizeOf100
  v39 := Tryz.zeroValue100
  t45 := Tryz.underlying130
  a45 := Tryz.isAgg130
  z45 := Tryz.sizeOf130
  v45 := Tryz.zeroValue130
  t46 := Tryz.underlying131
  a46 := Tryz.isAgg131
  z46 := Tryz.sizeOf131
  v46 := Tryz.zeroValue131
  t50 := Tryz.underlying135
  a50 := Tryz.isAgg135
  z50 := Tryz.sizeOf135
  v50 := Tryz.zeroValue135
  t53 := Tryz.underlying138
  a53 := Tryz.isAgg138
  z53 := Tryz.sizeOf138
  v53 := Tryz.zeroValue138
  t55 := Tryz.underlying140
  a55 := Tryz.isAgg140
  z55 := Tryz.sizeOf140
  v55 := Tryz.zeroValue140
  t66 := Tryz.underlying154
  a66 := Tryz.isAgg154
  z66 := Tryz.sizeOf154
  v66 := Tryz.zeroValue154
  t70 := Tryz.underlying158
  a70 := Tryz.isAgg158
  z70 := Tryz.sizeOf158
  v70 := Tryz.zeroValue158
  t76 := Tryz.underlying172
  a76 := Tryz.isAgg172
  z76 := Tryz.sizeOf172
  v76 := Tryz.zeroValue172
  t77 := Tryz.underlying173
  a77 := Tryz.isAgg173
  z77 := Tryz.sizeOf173
  v77 := Tryz.zeroValue173 }
def Tryz.sortFl_ren : Go.Shelf.Ren := ⟨fun | 6 => 82 | 15 => 64 | 14 => 111 | 28 => 104 | 29 => 105 | 20 => 133 | 21 => 134 | 22 => 135 | 23 => 136 | 24 => 137 | 25 => 138 | 26 => 139 | 27 => 140 | 46 => 147 | 47 => 121 | 48 => 122 | 49 => 148 | 50 => 149 | 57 => 161 | n => n, fun | 22 => 35 | 24 => 50 | 25 => 119 | 3 => 3 | 39 => 100 | 0 => 0 | 53 => 138 | 55 => 140 | 4 => 4 | 46 => 131 | 45 => 130 | 50 => 135 | 5 => 5 | 9 => 9 | 66 => 154 | 70 => 158 | 76 => 172 | 77 => 173 | n => n, fun | n => n⟩
theorem Tryz.sortFl : Go.Proofs.SlLaysF0.n6 Tryz.prog Tryz.sortFl_ren := {
  mixed := by kernel_rfl
  f6 := ⟨"slices.SortFunc[[]robotics/api.Field,robotics/api.Field]", by decide, Tryz.func82.trans (congrArg some (by kernel_rfl))⟩
  f14 := ⟨"slices.pdqsortCmpFunc[robotics/api.Field]", by decide, Tryz.func111.trans (congrArg some (by kernel_rfl))⟩
  f15 := Tryz.func64.trans (congrArg some (by kernel_rfl))
  f20 := ⟨"slices.insertionSortCmpFunc[robotics/api.Field]", by decide, Tryz.func133.trans (congrArg some (by kernel_rfl))⟩
  f21 := ⟨"slices.heapSortCmpFunc[robotics/api.Field]", by decide, Tryz.func134.trans (congrArg some (by kernel_rfl))⟩
  f22 := ⟨"slices.breakPatternsCmpFunc[robotics/api.Field]", by decide, Tryz.func135.trans (congrArg some (by kernel_rfl))⟩
  f23 := ⟨"slices.choosePivotCmpFunc[robotics/api.Field]", by decide, Tryz.func136.trans (congrArg some (by kernel_rfl))⟩
  f24 := ⟨"slices.reverseRangeCmpFunc[robotics/api.Field]", by decide, Tryz.func137.trans (congrArg some (by kernel_rfl))⟩
  f25 := ⟨"slices.partialInsertionSortCmpFunc[robotics/api.Field]", by decide, Tryz.func138.trans (congrArg some (by kernel_rfl))⟩
  f26 := ⟨"slices.partitionEqualCmpFunc[robotics/api.Field]", by decide, Tryz.func139.trans (congrArg some (by kernel_rfl))⟩
  f27 := ⟨"slices.partitionCmpFunc[robotics/api.Field]", by decide, Tryz.func140.trans (congrArg some (by kernel_rfl))⟩
  f28 := Tryz.func104.trans (congrArg some (by kernel_rfl))
  f29 := Tryz.func105.trans (congrArg some (by kernel_rfl))
  f46 := ⟨"slices.siftDownCmpFunc[robotics/api.Field]", by decide, Tryz.func147.trans (congrArg some (by kernel_rfl))⟩
  f47 := Tryz.func121.trans (congrArg some (by kernel_rfl))
  f48 := Tryz.func122.trans (congrArg some (by kernel_rfl))
  f49 := ⟨"slices.medianAdjacentCmpFunc[robotics/api.Field]", by decide, Tryz.func148.trans (congrArg some (by kernel_rfl))⟩
  f50 := ⟨"slices.medianCmpFunc[robotics/api.Field]", by decide, Tryz.func149.trans (congrArg some (by kernel_rfl))⟩
  f57 := ⟨"slices.order2CmpFunc[robotics/api.Field]", by decide, Tryz.func161.trans (congrArg some (by kernel_rfl))⟩
  t0 := Tryz.underlying0
  a0 := Tryz.isAgg0
  z0 := Tryz.sizeOf0
  v0 := Tryz.zeroValue0
  t3 := Tryz.underlying3
  a3 := Tryz.isAgg3
  z3 := Tryz.sizeOf3
  v3 := Tryz.zeroValue3
  t4 := Tryz.underlying4
  a4 := Tryz.isAgg4
  z4 := Tryz.sizeOf4
  v4 := Tryz.zeroValue4
  t5 := Tryz.underlying5
  a5 := Tryz.isAgg5
  z5 := Tryz.sizeOf5
  v5 := Tryz.zeroValue5
  t9 := Tryz.underlying9
  a9 := Tryz.isAgg9
  z9 := Tryz.sizeOf9
  v9 := Tryz.zeroValue9
  t22 := Tryz.underlying35
  a22 := Tryz.isAgg35
  z22 := Tryz.sizeOf35
  v22 := Tryz.zeroValue35
  t25 := Tryz.underlying119
  a25 := Tryz.isAgg119
  z25 := Tryz.sizeOf119
  v25 := Tryz.zeroValue119
  t39 := Tryz.underlying100
  a39 := Tryz.isAgg100
  z39 := Tryz.sizeOf100
  v39 := Tryz.zeroValue100
  t45 := Tryz.underlying130
  a45 := Tryz.isAgg130
  z45 := Tryz.sizeOf130
  v45 := Tryz.zeroValue130
  t46 := Tryz.underlying131
  a46 := Tryz.isAgg131
  z46 := Tryz.sizeOf131
  v46 := Tryz.zeroValue131
  t50 := Tryz.underlying135
  a50 := Tryz.isAgg135
  z50 := Tryz.sizeOf135
  v50 := Tryz.zeroValue135
  t53 := Tryz.underlying138
  a53 := Tryz.isAgg138
  z53 := Tryz.sizeOf138
  v53 := Tryz.zeroValue138
  t55 := Tryz.underlying140
  a55 := Tryz.isAgg140
  z55 := Tryz.sizeOf140
  v55 := Tryz.zeroValue140
  t66 := Tryz.underlying154
  a66 := Tryz.isAgg154
  z66 := Tryz.sizeOf154
  v66 := Tryz.zeroValue154
  t70 := Tryz.underlying158
  a70 := Tryz.isAgg158
  z70 := Tryz.sizeOf158
  v70 := Tryz.zeroValue158
  t76 := Tryz.underlying172
  a76 := Tryz.isAgg172
  z76 := Tryz.sizeOf172
  v76 := Tryz.zeroValue172
  t77 := Tryz.underlying173
  a77 := Tryz.isAgg173
  z77 := Tryz.sizeOf173
  v77 := Tryz.zeroValue173 }
end Go.Proofs
namespace Go.W
open Go.RowKit
structure Stay (w w' : World) : Prop where
  os : w'.os = w.os
  out : w'.output = w.output
  size : w.heap.size ≤ w'.heap.size
  keep : ∀ b : Nat, b < w.heap.size → w'.heap[b]? = w.heap[b]?
theorem Stay.kept {w w' : World} (h : Stay w w') (may : MemPlace → Prop) : w.keptBut w' may := by
  refine ⟨h.os, h.out, fun i hi => ?_⟩
  rw [h.keep i hi]
  split
  · rename_i h1 h2; rw [h1] at h2; cases h2; exact ⟨rfl, rfl, rfl, fun _ _ => rfl⟩
  · rename_i h1 h2; rw [h1] at h2; cases h2; exact Or.inr ⟨rfl, rfl⟩
  · rfl
theorem Stay.frozen {w w' : World} (h : Stay w w') {a : Addr} (ha : a.block < w.heap.size) : w'.frozen? a = w.frozen? a := by
  unfold World.frozen?; rw [h.keep _ ha]
theorem Stay.cell {w w' : World} (h : Stay w w') {a : Addr} (ha : a.block < w.heap.size) : w'.cell? a = w.cell? a := by
  unfold World.cell?; rw [h.keep _ ha]
theorem rel_nil {w : World} {ro : RO} (h : ∀ (b off : Nat) (v : Value), ro b off = some v → w.cell? ⟨b, off, none⟩ = some v) : Rel ⟨w, blks [], ro, gm []⟩ [] ro w where
  own := fun n g blk h => by simp at h
  inj := fun n m gn gm bn bm b h => by simp at h
  apart := fun b off v _ n g blk h => by simp at h
  rd := h
  ro0 := fun _ _ _ h => h
  rob := fun b off v h => .inl h
  par := fun n b g blk h => by simp at h
  gx := .refl _
  sz := Nat.le_refl _
  keep := fun b _ _ => rfl
  os := rfl
  tape := rfl
  output := rfl
theorem Meets.run {P : Program} {f : FuncId} {s : Fun} (hm : Meets P f s.sp) {av : List S} {vs : List Value} {ro : RO} {w : World} {x : A} (hpre : s.pre av) (hval : s.val av = x) (hl : av.length = vs.length)
    (hrel : ∀ (i : Nat) (x : S) (v : Value), av[i]? = some x → vs[i]? = some v → x.rel (gm []) ro v) (hro : ∀ (b off : Nat) (v : Value), ro b off = some v → w.cell? ⟨b, off, none⟩ = some v) :
    Calls P f vs.toArray w fun e w' => ∃ v γ ro', e = .returned v ∧ S.rel γ ro' (.va x) v ∧ Stay w w' := by
  subst hval
  refine (hm.2 av vs [] ro w (fun r H => r = .va (s.val av) ∧ H = []) hl hrel (rel_nil hro) ⟨⟨hpre, rfl⟩, rfl, rfl⟩).mono ?_
  rintro e w' ⟨r, v, E', ro', rfl, h1, ⟨rfl, h2⟩, h3⟩
  exact ⟨v, _, ro', rfl, h1, h3.os, h3.output, h3.sz, fun b hb => h3.keep b hb (by simp [blks])⟩
theorem Meets.yes {P : Program} {f : FuncId} {s : Fun} (hm : Meets P f s.sp) {av : List S} {vs : List Value} {ro : RO} {w : World} (hpre : s.pre av) (hval : s.val av = .c1 (.vl (.bool true))) (hl : av.length = vs.length)
    (hrel : ∀ (i : Nat) (x : S) (v : Value), av[i]? = some x → vs[i]? = some v → x.rel (gm []) ro v) (hro : ∀ (b off : Nat) (v : Value), ro b off = some v → w.cell? ⟨b, off, none⟩ = some v) :
    Calls P f vs.toArray w fun e w' => e = .returned (.bool true) ∧ Stay w w' := by
  refine (hm.run hpre hval hl hrel hro).mono ?_
  rintro e w' ⟨v, γ, ro', rfl, h1, h2⟩
  have : v = .bool true := h1
  exact ⟨by rw [this], h2⟩
section
variable {H : Type} {enc : TypeId × Value → H} {P : Program}
theorem post_of_stay {f : Func} {s : ChangeSpec} {apart fresh handsOn again : Bool} {W W' : World} {args : Array Value} {v : Value} {ds gs : List (DataW H)} {before pa pv : List MemPlace}
    (hW : DataW.Whole enc P f.params.toList s.vars apart W args.toList ds gs before)
    (hres : ∀ (b : Nat) (sp : Nat → Bool) (hd : Bool), DataW.TrodAll enc P W' b sp hd f.resultTypes.toList (v.resultList f.resultTypes.size) (s.fn H (ds ++ gs)).results [])
    (hargs : ∀ sp : Nat → Bool, (∀ p ∈ before, sp p.block = true) → DataW.TrodAll enc P W' 0 sp true f.params.toList args.toList (s.fn H (ds ++ gs)).args pa)
    (hvars : ∀ sp : Nat → Bool, (∀ p ∈ before, sp p.block = true) → DataW.TrodVars enc P W' sp s.vars (s.fn H (ds ++ gs)).vars pv)
    (hps : before = pa ++ pv) (hs : Stay W W')
    (hok : ∀ (j : Nat) (t : TypeId) (r : Value), f.resultTypes[j]? = some t → (v.resultList f.resultTypes.size)[j]? = some r → Value.okWide P W' .any 0 t r) :
    s.post enc P f apart fresh handsOn again W args v W' := by
  have hlt : ∀ p ∈ before, p.block < W.heap.size := fun p hp => hW.lt p hp
  have hsp : ∀ p ∈ before, (fun b => decide (b < W.heap.size)) p.block = true := fun p hp => by simpa using hlt p hp
  have hall : ∀ p ∈ before, (fun _ : Nat => true) p.block = true := fun _ _ => rfl
  obtain ⟨_, _, _, _, _, hz, hn⟩ := id hW
  refine ⟨ds, gs, before, [], pa, pv, hW, hres _ _ _, hargs _ hsp, hvars _ hsp, World.keptBut_mono (fun p hp => ⟨hp, .inr ?_⟩) (hs.kept (· ∈ before)), fun _ => ⟨hok, _, _, ([] ++ pa) ++ pv,
    ⟨[] ++ pa, pv, ChangeShapes.trodAll_append (hargs _ hall) (hres _ _ _), hvars _ hall, rfl, fun b off hp => ?_, fun ha => ?_⟩, fun p hp _ => ?_⟩⟩
  · rw [hps, List.mem_append] at hp; exact hp
  · have hb : MemPlace.cell b off ∈ before := by rw [hps]; simpa using hp
    rw [hs.frozen (hlt _ hb)]
    exact hz b off hb
  · have := hn ha
    rw [hps] at this
    simpa using this
  · rw [hps]
    simpa using hp
end
end Go.W
namespace Go.W
open Go.RowKit
def roW (W : World) : RO := fun b off => W.cell? ⟨b, off, none⟩
theorem roW_ok (W : World) : ∀ (b off : Nat) (v : Value), roW W b off = some v → W.cell? ⟨b, off, none⟩ = some v := fun _ _ _ h => h
theorem fz_nil (ro : RO) : FzR ro [] (.slice none 0 0) :=
  FzR.mk [] 1 none none (fun h => absurd rfl h) 0 (fun _ => .bool true) (by simp) (by simp) (by simp) (by simp) (by simp) (by simp) (by simp)
def slicesRoom (P : Program) : Bool := (List.range P.types.size).all fun t => match P.underlying t with | some (.slice e) => decide (0 < P.cellsOf e) | _ => true
section
variable {H : Type} {enc : TypeId × Value → H} {P : Program}
theorem stay_same {W W' : World} (h : Stay W W') {p : MemPlace} (hp : p.block < W.heap.size) : W.sameAt W' p := by
  cases p with
  | cell b off => exact h.cell (a := ⟨b, off, none⟩) hp
  | map b => exact h.keep b hp
theorem trodAll_stay {W W' : World} {sp : Nat → Bool} (hl : laidOutB P = true) (hm : mapsRowed P = true) (hs : slicesRoom P = true) (hst : Stay W W') :
    ∀ {ts : List TypeId} {vs : List Value} {ds : List (DataW H)} {ps : List MemPlace}, (∀ t ∈ ts, t < P.types.size) → DataW.TrodAll enc P W 0 (fun _ => true) true ts vs ds ps → (∀ p ∈ ps, p.block < W.heap.size) → (∀ p ∈ ps, sp p.block = true) →
      DataW.TrodAll enc P W' 0 sp true ts vs ds ps
  | [], [], [], ps, _, h, _, _ => h
  | t :: ts, v :: vs, d :: ds, ps, ht, h, hb, hp => by
    obtain ⟨p, q, ⟨n, h1⟩, h2, rfl⟩ := h
    have hsz : ∀ {t e : TypeId}, t < P.types.size → P.underlying t = some (.slice e) → 0 < P.cellsOf e := fun {t e} ht hu => by
      have := List.all_eq_true.1 hs t (List.mem_range.2 ht)
      rw [hu] at this
      simpa using this
    exact ⟨p, q, ⟨n, DataW.trod_stays (T := (· < P.types.size)) (kids_rows hl hm) hsz (fun h => by cases h) (ht t (by simp)) h1 (fun x hx => stay_same hst (hb x (by simp [hx]))) (fun x hx => hp x (by simp [hx]))⟩,
      trodAll_stay hl hm hs hst (fun u hu => ht u (by simp [hu])) h2 (fun x hx => hb x (by simp [hx])) (fun x hx => hp x (by simp [hx])), rfl⟩
  | [], _ :: _, _, _, _, h, _, _ => h.elim
  | [], [], _ :: _, _, _, h, _, _ => h.elim
  | _ :: _, [], _, _, _, h, _, _ => h.elim
  | _ :: _, _ :: _, [], _, _, h, _, _ => h.elim
theorem law_post {f : Func} {s : ChangeSpec} {apart fresh handsOn again : Bool} {W W' : World} {args : Array Value} {ds gs : List (DataW H)} {before : List MemPlace} {tb : TypeId}
    (hl : laidOutB P = true) (hm : mapsRowed P = true) (hsr : slicesRoom P = true) (hps : ∀ t ∈ f.params.toList, t < P.types.size) (hrt : f.resultTypes = #[tb]) (htb : P.underlying tb = some .bool)
    (hvars : s.vars = []) (hW : DataW.Whole enc P f.params.toList s.vars apart W args.toList ds gs before) (hfn : s.fn H (ds ++ gs) = { results := [.lit (.bool true)], args := ds, vars := [] }) (hst : Stay W W') :
    s.post enc P f apart fresh handsOn again W args (.bool true) W' := by
  have hlt : ∀ p ∈ before, p.block < W.heap.size := fun p hp => hW.lt p hp
  obtain ⟨p, q, hA, hV, hb, _, _⟩ := id hW
  have hq : q = [] := by
    rw [hvars] at hV
    cases gs with
    | nil => exact hV
    | cons g gs => exact hV.elim
  subst hq
  have hbp : before = p := by rw [hb]; simp
  refine post_of_stay (pa := p) (pv := []) hW (fun b sp hd => ?_) (fun sp hsp => ?_) (fun sp hsp => ?_) hb hst ?_
  · rw [hrt, hfn]
    exact ⟨[], [], ⟨1, by simp [DataW.trod, Value.cells, htb]⟩, rfl, rfl⟩
  · rw [hfn]
    rw [hbp] at hlt hsp
    exact trodAll_stay hl hm hsr hst hps hA hlt hsp
  · rw [hfn, hvars]; rfl
  · intro j t r h1 h2
    rw [hrt] at h1 h2
    match j with
    | 0 =>
      cases h1
      cases h2
      simp [Value.okWide, Cell.okWide, Cell.ok, htb]
    | j + 1 => cases h1
end
end Go.W
namespace Go.W
open Go.Sort Go.Proofs
theorem perm_lift {α β : Type} {f : α → β} : ∀ {l' l : List β}, l'.Perm l → ∀ {Z : List α}, Z.map f = l → ∃ Z' : List α, Z'.map f = l' ∧ Z'.Perm Z := by
  intro l' l h
  induction h with
  | nil => intro Z hZ; exact ⟨Z, hZ, .refl _⟩
  | cons x _ ih =>
    intro Z hZ
    cases Z with
    | nil => cases hZ
    | cons z Z =>
      simp only [List.map_cons, List.cons.injEq] at hZ
      obtain ⟨Z', h1, h2⟩ := ih hZ.2
      exact ⟨z :: Z', by simp [h1, hZ.1], h2.cons z⟩
  | swap x y l =>
    intro Z hZ
    match Z, hZ with
    | a :: b :: Z, hZ =>
      simp only [List.map_cons, List.cons.injEq] at hZ
      exact ⟨b :: a :: Z, by simp [hZ.1, hZ.2.1, hZ.2.2], .swap a b Z⟩
  | trans _ _ ih1 ih2 =>
    intro Z hZ
    obtain ⟨Z1, h1, h2⟩ := ih2 hZ
    obtain ⟨Z2, h3, h4⟩ := ih1 h1
    exact ⟨Z2, h3, h4.trans h2⟩
theorem flatL_len {α : Type} {k : Nat} : ∀ {l : List (List α)}, (∀ x ∈ l, x.length = k) → l.flatten.length = l.length * k
  | [], _ => by simp
  | x :: l, h => by
    rw [List.flatten_cons, List.length_append, flatL_len fun y hy => h y (by simp [hy]), h x (by simp), List.length_cons, Nat.succ_mul]
    omega
theorem flatL_at {α : Type} {k : Nat} : ∀ {l : List (List α)}, (∀ x ∈ l, x.length = k) → ∀ {i j : Nat}, i < l.length → j < k → l.flatten[i * k + j]? = (l[i]?).bind (·[j]?)
  | [], _, i, j, hi, _ => by simp at hi
  | x :: l, h, i, j, hi, hj => by
    have hx := h x (by simp)
    cases i with
    | zero => simp [List.getElem?_append, hx, hj]
    | succ i =>
      rw [List.flatten_cons, List.getElem?_append_right (by rw [hx, Nat.succ_mul]; omega), hx, show (i + 1) * k + j - k = i * k + j by rw [Nat.succ_mul]; omega]
      simpa using flatL_at (fun y hy => h y (by simp [hy])) (by simpa using hi) hj
theorem flatK_list {α : Type} [Inhabited α] {enc : α → List Value} {k : Nat} (hk : ∀ x, (enc x).length = k) (h0 : 0 < k) (l : List α) : (flatK enc k l.toArray).toList = (l.map enc).flatten := by
  have hl : ∀ x ∈ l.map enc, x.length = k := fun x hx => by obtain ⟨a, _, rfl⟩ := List.mem_map.1 hx; exact hk a
  refine List.ext_getElem? fun t => ?_
  rcases Nat.lt_or_ge t (l.length * k) with ht | ht
  · have hd : t / k < l.length := Nat.div_lt_of_lt_mul (by rwa [Nat.mul_comm])
    have hm : t % k < k := Nat.mod_lt _ h0
    have e1 := flatL_at hl (i := t / k) (j := t % k) (by simpa using hd) hm
    rw [Nat.div_add_mod' t k] at e1
    rw [e1, List.getElem?_map, List.getElem?_eq_getElem hd]
    simp only [flatK]
    have hz : t % k < (enc l[t / k]).length := by rw [hk]; exact hm
    simp [ht, hd, hz]
  · rw [List.getElem?_eq_none (by simpa using ht), List.getElem?_eq_none (by rw [flatL_len hl]; simpa using ht)]
theorem row_parts {ro : RO} {α : Type} {enc : α → List Value} {R : α → List C → Prop} {k : Nat} {row : List C → Prop} (hR : ∀ r vs, row r → All2 (C.fv ro) r vs → ∃ a, enc a = vs ∧ R a r) :
    ∀ {xs : List (List C)} {vs : List Value}, (∀ r ∈ xs, row r) → (∀ r ∈ xs, r.length = k) → All2 (C.fv ro) xs.flatten vs → ∃ Z : List (α × List C), Z.map Prod.snd = xs ∧ (Z.map fun z => enc z.1).flatten = vs ∧ ∀ z ∈ Z, R z.1 z.2 ∧ All2 (C.fv ro) z.2 (enc z.1)
  | [], vs, _, _, h => ⟨[], rfl, by simpa using (All2.nil_inv h).symm, fun z hz => by cases hz⟩
  | r :: xs, vs, h1, h2, h => by
    rw [List.flatten_cons] at h
    have hr := h2 r (by simp)
    have ha : All2 (C.fv ro) r (vs.take k) := by
      have := h.take k
      rwa [List.take_left' hr] at this
    have hb : All2 (C.fv ro) xs.flatten (vs.drop k) := by
      have := h.drop k
      rwa [List.drop_left' hr] at this
    obtain ⟨a, h3, h4⟩ := hR r _ (h1 r (by simp)) ha
    obtain ⟨Z, h5, h6, h7⟩ := row_parts hR (fun x hx => h1 x (by simp [hx])) (fun x hx => h2 x (by simp [hx])) hb
    refine ⟨(a, r) :: Z, by simp [h5], by simp [h6, h3], fun z hz => ?_⟩
    rcases List.mem_cons.1 hz with rfl | hz
    · exact ⟨h4, by rw [h3]; exact ha⟩
    · exact h7 z hz
def srSp (g T k : Nat) (row : List C → Prop) (lt : List C → List C → Bool) : W.Spec := fun av H K => ∃ xs : List (List C), av = [.va (.c1 (.sl 0 xs.length)), .va (.c1 (.fn g []))] ∧ H = [.row xs T k] ∧ (∀ r ∈ xs, row r) ∧ xs.length ≤ 1000000000 ∧ ∀ xs' : List (List C), xs'.Perm xs → xs'.Pairwise (fun a b => lt b a = false) → K (.tu []) [.row xs' T k]
theorem fv_all {ro : RO} {r : List (List C)} {E : List (List Value)} (h : All2 (fun x y => All2 (C.fv ro) x y) r E) : All2 (C.fv ro) r.flatten E.flatten := by
  induction r generalizing E with
  | nil => rw [All2.nil_inv h]; exact .nil
  | cons x r ih =>
    obtain ⟨y, E', rfl, h1, h2⟩ := All2.cons_inv h
    rw [List.flatten_cons, List.flatten_cons]
    exact h1.app (ih h2)
set_option maxHeartbeats 1000000 in
theorem meets_srt {P : Program} {f g T k : Nat} (h0 : 0 < k) (hen : enters P f = true) {α : Type} [Inhabited α] {enc : α → List Value} (hk : ∀ x, (enc x).length = k) {cf : α → α → Int} {row : List C → Prop} {lt : List C → List C → Bool} {R : α → List C → Prop}
    (hR : ∀ (ro : RO) (r : List C) (vs : List Value), row r → All2 (C.fv ro) r vs → ∃ a, enc a = vs ∧ R a r) (hlt : ∀ a r b s, R a r → R b s → ltOf cf a b = lt r s)
    (key : ∀ (blk cap : Nat) (d : Array α) (w : World), HoldsK enc k w blk 0 d → blk < w.heap.size → d.size < 4611686018427387904 → Calls P f #[.slice (some ⟨blk, 0, none⟩) d.size cap, .func (.func g) #[] #[]] w fun e w' =>
      e = .returned (.tuple #[]) ∧ ∃ d' n os, PermIn 0 d.size d d' ∧ SortedIn (ltOf cf) 0 d.size d' ∧ w' = sortWorldK enc k w blk 0 n d' os)
    (key0 : ∀ w : World, Calls P f #[.slice none 0 0, .func (.func g) #[] #[]] w fun e w' => e = .returned (.tuple #[]) ∧ w' = w) : Meets P f (srSp g T k row lt) := by
  refine ⟨hen, fun av vs E ro w K hlen hrel hR0 hs => ?_⟩
  obtain ⟨xs, rfl, hH, hrow, hl, hK⟩ := hs
  match E, hH with
  | [(gb, blk)], hH =>
    obtain rfl : blk = .row xs T k := by simpa [hp] using hH
    match vs, hlen with
    | [v0, v1], _ =>
      have r0 := hrel 0 _ _ rfl rfl
      have r1 := hrel 1 _ _ rfl rfl
      obtain ⟨ws, hv1, hws⟩ : ∃ ws : List Value, v1 = .func (.func g) #[] ws.toArray ∧ All2 (capR (gm [(gb, .row xs T k)]) ro) [] ws := r1
      obtain rfl := All2.nil_inv hws
      subst hv1
      have hon := hR0.own 0 gb _ rfl
      obtain ⟨o1, o2, o3, o4, o5, o6, o7⟩ := hon
      obtain ⟨g', hg', _, _, _, hv0⟩ := r0
      obtain rfl : gb = g' := by simpa [gm] using hg'
      obtain rfl := hv0 o2.symm
      obtain ⟨l1, l2⟩ := o5
      obtain ⟨Z, z1, z2, z3⟩ := row_parts (hR ro) hrow o3 o6
      rcases l2 with ⟨hn, h1⟩ | ⟨b, cap, cur, hsl, _, hb, hcap, hmax, hcs, htk⟩
      · obtain rfl := List.eq_nil_of_length_eq_zero h1
        have hK := hK [] (.refl _) .nil
        rw [show (Value.slice (obA gb.ob 0) ([] : List (List C)).length gb.cap) = .slice none 0 0 from hn]
        refine (key0 w).mono ?_
        rintro e w' ⟨rfl, rfl⟩
        exact ⟨.tu [], _, [(gb, .row [] T k)], ro, rfl, ⟨[], rfl, .nil⟩, hK, hR0⟩
      have hob : gb.ob = some b := by
        cases hgo : gb.ob with
        | none => rw [hgo] at hsl; simp [obA] at hsl
        | some b' => rw [hgo] at hsl; simp [obA] at hsl; rw [hsl.1]
      have hgc : gb.cap = cap := by simp at hsl; exact hsl.2
      have hbs : b < w.heap.size := by
        rcases Nat.lt_or_ge b w.heap.size with h' | h'
        · exact h'
        · rw [Array.getElem?_eq_none h'] at hb; cases hb
      have hZl : Z.length = xs.length := by rw [← z1, List.length_map]
      obtain ⟨d, hd⟩ : ∃ d : List α, d = Z.map Prod.fst := ⟨_, rfl⟩
      have hdl : d.length = xs.length := by rw [hd, List.length_map, hZl]
      have hfl : (flatK enc k d.toArray).toList = gb.vs := by
        rw [flatK_list hk h0, hd, List.map_map]; exact z2
      have hvl : gb.vs.length = xs.length * k := l1
      have hcell : HoldsK enc k w b 0 d.toArray := by
        intro j hj
        have hj' : j < xs.length * k := by simpa [hdl] using hj
        refine ⟨?_, by simp [World.frozen?, hb]⟩
        have e1 : (flatK enc k d.toArray)[j]? = gb.vs[j]? := by rw [← hfl]; simp
        have e2 : gb.vs[j]? = cur[j]? := by
          rw [← htk, List.getElem?_take, if_pos hj']; simp
        have hj2 : j < (flatK enc k d.toArray).size := by simpa using hj
        rw [Nat.zero_add]
        simp only [World.cell?, hb]
        rw [← e2, ← e1, Array.getElem?_eq_getElem hj2, getElem!_pos _ j hj2]
        simp
      rw [hob, hgc]
      have hkey := key b cap d.toArray w hcell hbs (by simp; omega)
      rw [show d.toArray.size = xs.length by simp [hdl]] at hkey
      refine hkey.mono ?_
      rintro e w' ⟨rfl, d', n, os, ⟨hp1, _, hp3⟩, hsrt, rfl⟩
      rw [show (0 : Nat) = 0 from rfl] at hp3
      have hd's : d'.size = xs.length := by rw [hp1]; simp [hdl]
      have hperm : d'.toList.Perm d := by
        have e1 : d'.extract 0 xs.length = d' := by rw [← hd's]; simp
        have e2 : d.toArray.extract 0 xs.length = d.toArray := by rw [← hdl]; simp
        rw [e1, e2] at hp3
        simpa using hp3
      obtain ⟨Z', y1, y2⟩ := perm_lift hperm hd.symm
      obtain ⟨xs', hx'⟩ : ∃ xs' : List (List C), xs' = Z'.map Prod.snd := ⟨_, rfl⟩
      have hxp : xs'.Perm xs := by rw [hx', ← z1]; exact y2.map _
      have hxl : xs'.length = xs.length := hxp.length_eq
      have y3 : ∀ z ∈ Z', R z.1 z.2 ∧ All2 (C.fv ro) z.2 (enc z.1) := fun z hz => z3 z (y2.mem_iff.1 hz)
      have hsx : xs'.Pairwise (fun a b => lt b a = false) := by
        rw [hx', List.pairwise_map, List.pairwise_iff_getElem]
        intro i j hi hj hij
        have hz1 := y3 Z'[i] (List.getElem_mem hi)
        have hz2 := y3 Z'[j] (List.getElem_mem hj)
        rw [← hlt _ _ _ _ hz2.1 hz1.1]
        have hZ'l : Z'.length = xs.length := by rw [← hxl, hx', List.length_map]
        have := hsrt i j (Nat.zero_le _) hij (by omega)
        have ei : d'[i]! = Z'[i].1 := by
          have : d'.toList[i]? = (Z'.map Prod.fst)[i]? := by rw [y1]
          rw [getElem!_pos d' i (by omega)]
          simpa [hi, show i < d'.size by omega] using this
        have ej : d'[j]! = Z'[j].1 := by
          have : d'.toList[j]? = (Z'.map Prod.fst)[j]? := by rw [y1]
          rw [getElem!_pos d' j (by omega)]
          simpa [hj, show j < d'.size by omega] using this
        rw [ei, ej] at this
        exact this
      have hK := hK xs' hxp hsx
      obtain ⟨us, hus⟩ : ∃ us : List Value, us = (flatK enc k d').toList := ⟨_, rfl⟩
      have hul : us.length = xs.length * k := by rw [hus]; simp [hd's]
      have hus2 : us = (Z'.map fun z => enc z.1).flatten := by
        rw [hus, show d' = d'.toList.toArray by simp, flatK_list hk h0, ← y1, List.map_map]; rfl
      have hrel' : All2 (C.fv ro) xs'.flatten us := by
        rw [hus2, hx']
        refine fv_all ⟨by simp, fun i x y hx hy => ?_⟩
        rw [List.getElem?_map] at hx hy
        cases hz : Z'[i]? with
        | none => rw [hz] at hx; cases hx
        | some z =>
          rw [hz] at hx hy
          cases hx; cases hy
          exact (y3 z (List.mem_of_getElem? hz)).2
      obtain ⟨W', hW⟩ : ∃ W', W' = sortWorldK enc k w b 0 n d' os := ⟨_, rfl⟩
      have hmod : (putRowK enc k (Sort.ahead w n) b 0 d').heap.size = w.heap.size := by simp [putRowK, putRow, mapBlock, Sort.ahead]
      have hgo : ∀ {j : Nat}, j < w.heap.size → W'.heap[j]? = (putRowK enc k (Sort.ahead w n) b 0 d').heap[j]? := fun {j} hj => by
        rw [hW]; simp only [sortWorldK, grow]; rw [Array.getElem?_append_left (by rw [hmod]; exact hj)]
      have hb' : W'.heap[b]? = some (.cells (putCells id 0 (flatK enc k d') cur) T (0, 0)) := by
        rw [hgo hbs]
        unfold putRowK putRow mapBlock
        simp [Array.getElem?_modify, Sort.ahead, hb, onCells]
      have hne : ∀ j, j ≠ b → j < w.heap.size → W'.heap[j]? = w.heap[j]? := fun j h1 h2 => by
        rw [hgo h2]
        unfold putRowK putRow mapBlock
        simp [Array.getElem?_modify, Sort.ahead, Ne.symm h1]
      have hsz : w.heap.size ≤ W'.heap.size := by rw [hW]; simp [sortWorldK, grow, hmod]
      have hrest : W'.os = w.os ∧ W'.tape = w.tape ∧ W'.output = w.output := by rw [hW]; exact ⟨rfl, rfl, rfl⟩
      rw [← hW]
      clear hW
      have htk' : (putCells id 0 (flatK enc k d') cur).toList.take (xs'.length * k) = us := by
        rw [hxl]
        refine List.ext_getElem? fun j => ?_
        rw [List.getElem?_take]
        rcases Nat.lt_or_ge j (xs.length * k) with hj | hj
        · rw [if_pos hj]
          have h1 : j < cur.size := by rw [hcs]; exact Nat.lt_of_lt_of_le hj (Nat.mul_le_mul_right k hcap)
          have h2 : j < (flatK enc k d').size := by simpa [hd's] using hj
          rw [hus]
          simp only [putCells, Array.getElem?_toList, Array.getElem?_mapIdx, Array.getElem?_eq_getElem h1, Option.map_some, Nat.zero_le, true_and, Nat.zero_add, Nat.sub_zero, id]
          rw [if_pos h2, Array.getElem?_eq_getElem h2, getElem!_pos _ j h2]
        · rw [if_neg (by omega), List.getElem?_eq_none (by omega)]
      have hown : B.On (gm [(⟨some b, true, xs'.length, cap, gb.T, us⟩, .row xs' T k)]) ro W' ⟨some b, true, xs'.length, cap, gb.T, us⟩ (.row xs' T k) := by
        refine ⟨rfl, rfl, fun x hx => o3 x (hxp.mem_iff.1 hx), fun c hc => ?_, ⟨by rw [hxl]; exact hul, .inr ⟨b, cap, putCells id 0 (flatK enc k d') cur, by simp [obA], Nat.zero_le _, hb', by rw [hxl]; exact hcap, hmax, by simp [putCells, hcs], htk'⟩⟩, hrel', fun b' _ => by have := o7 b hob; rw [hgc] at this; exact this⟩
        obtain ⟨r, h1, h2⟩ := List.mem_flatten.1 hc
        exact o4 c (List.mem_flatten.2 ⟨r, hxp.mem_iff.1 h1, h2⟩)
      have hpb : b ∈ blks [(gb, .row xs T k)] := by
        rcases hR0.par 0 b gb _ rfl hob rfl with h | h
        · exact absurd h (Nat.not_le.2 hbs)
        · exact h
      refine ⟨.tu [], _, [(⟨some b, true, xs'.length, cap, gb.T, us⟩, .row xs' T k)], ro, rfl, ⟨[], rfl, .nil⟩, hK, ?_⟩
      refine ⟨fun n gn bn hn => ?_, fun n m gn gm' bn bm b' hn hm h1 h2 l1 l2 => ?_, fun b' off v hv n gn bn hn hgb => ?_, fun b' off v hv => ?_, hR0.ro0, hR0.rob, fun n b' gn bn hn hgb hl => ?_, ?_, hsz, fun j hj hjb => hne j (fun e => hjb (e ▸ hpb)) hj, hrest.1, hrest.2.1, hrest.2.2⟩
      · match n, hn with
        | 0, hn => cases hn; exact hown
        | n + 1, hn => cases hn
      · match n, m, hn, hm with
        | 0, 0, _, _ => rfl
        | n + 1, _, hn, _ => cases hn
        | _, m + 1, _, hm => cases hm
      · match n, hn with
        | 0, hn =>
          cases hn
          have hbb : b = b' := by simpa using hgb
          subst hbb
          exact absurd (hR0.apart b off v hv 0 gb _ rfl hob) (by simp [B.live])
        | n + 1, hn => cases hn
      · have hne' : b' ≠ b := fun e => by
          subst e
          exact absurd (hR0.apart b' off v hv 0 gb _ rfl hob) (by simp [B.live])
        have := hR0.rd b' off v hv
        rcases Nat.lt_or_ge b' w.heap.size with h' | h'
        · rw [World.cell?_of_block (hne b' hne' h')]
          exact this
        · simp [World.cell?, Array.getElem?_eq_none h'] at this
      · match n, hn with
        | 0, hn => cases hn; have : b = b' := by simpa using hgb
                   subst this; exact .inr hpb
        | n + 1, hn => cases hn
      · intro n g2 h2
        match n, h2 with
        | 0, h2 =>
          cases h2
          exact ⟨_, rfl, o1.symm, .inl ⟨hob.symm, by rw [hxl]; exact o2.symm, hgc.symm⟩⟩
        | n + 1, h2 => cases h2
end Go.W
namespace Go.Proofs.YtbolanmlngjdoaaGreat
open Go.W Go.Sort Go.RowKit
theorem swo_num {α : Type} (g : α → Int) : SWO (ltOf fun x y => g x - g y) where
  irrefl x := by unfold ltOf; simp
  trans x y z h1 h2 := by unfold ltOf at *; simp at *; omega
  ntrans x y z h1 h2 := by unfold ltOf at *; simp at *; omega
structure BN where
  x : Nd
  h : -1000 ≤ x.n ∧ x.n ≤ 1000
instance : Inhabited BN := ⟨⟨⟨0, ByteArray.empty⟩, by decide⟩⟩
def encN (a : BN) : List Value := [.int .i64 a.x.n, .string a.x.nm]
noncomputable def C.nd := unC ndC
theorem nd_dec (x : Nd) : C.nd (ndC x) = x := unC_eq ndC_inj x
def rowN (r : List C) : Prop := ∃ x : Nd, r = ndC x ∧ (-1000 ≤ x.n ∧ x.n ≤ 1000)
noncomputable def ltN (r s : List C) : Bool := decide ((C.nd r).n < (C.nd s).n)
theorem mSortN : Meets Tryz.prog 79 (srSp 80 111 2 rowN ltN) := by
  refine meets_srt (α := BN) (enc := encN) (cf := fun a b => a.x.n - b.x.n) (R := fun a r => r = ndC a.x) (by decide) (by kernel_rfl) (fun _ => rfl) ?_ ?_ ?_ ?_
  · rintro ro r vs ⟨x, rfl, hx⟩ h
    unfold ndC at h
    obtain ⟨v0, vs0, rfl, h0, r0⟩ := All2.cons_inv h
    obtain ⟨v1, vs1, rfl, h1, r1⟩ := All2.cons_inv r0
    obtain rfl := All2.nil_inv r1
    cases h0; cases h1
    exact ⟨⟨x, hx⟩, rfl, rfl⟩
  · rintro a r b s rfl rfl
    unfold ltN ltOf
    rw [nd_dec, nd_dec, decide_eq_decide]; dsimp only; omega
  · intro blk cap d w hH hblk hsz
    have eg : ∀ args w, (callFunc 80 args).run Tryz.prog w = .ok (.enter 80 args) w := enters_of Tryz.func80 (by kernel_rfl) rfl
    exact AnyQ.slices_SortFunc Tryz.sortNd 2 Tryz.isAgg111 Tryz.sizeOf111 encN (fun _ => rfl) (fun x v hv => by simp [encN] at hv; rcases hv with rfl | rfl <;> rfl) (fun a b => a.x.n - b.x.n) (swo_num fun a : BN => a.x.n) 80 #[] blk 0 cap d w eg
      (fun m os dk _ x y => walkN _ _ _ _ x.h y.h _) hH hblk hsz
  · exact fun w => AnyF.slices_SortFunc_none { Tryz.sortNd with } none 0 _ w
theorem srn_use {l : List Nd} {K : S → Hp → Prop} (hl : l.length ≤ 1000000000) (hb : ∀ x ∈ l, -1000 ≤ x.n ∧ x.n ≤ 1000) (hK : ∀ l' : List Nd, l'.Perm l → l'.Pairwise (fun a b => ¬ b.n < a.n) → K (.tu []) [.row (l'.map ndC) 111 2]) :
    srSp 80 111 2 rowN ltN [.va (.c1 (.sl 0 l.length)), .va (.c1 (.fn 80 []))] [.row (l.map ndC) 111 2] K := by
  refine ⟨l.map ndC, by simp, rfl, fun r hr => ?_, by simpa using hl, fun xs' hp hs => ?_⟩
  · obtain ⟨x, hx, rfl⟩ := List.mem_map.1 hr
    exact ⟨x, rfl, hb x hx⟩
  · obtain ⟨l', rfl, h2⟩ := perm_lift hp rfl
    refine hK l' h2 ?_
    rw [List.pairwise_map] at hs
    refine hs.imp fun {a b} h => ?_
    unfold ltN at h
    rw [nd_dec, nd_dec] at h
    simpa using h
structure FV where
  n : Int
  r : List Value
  hn : -1000 ≤ n ∧ n ≤ 1000
  hr : r.length = 6
  h1 : ∀ v ∈ r, v.oneCell' = true
instance : Inhabited FV := ⟨⟨0, List.replicate 6 (.int .i64 0), by decide, rfl, fun v hv => by rw [List.eq_of_mem_replicate hv]; rfl⟩⟩
def encV (a : FV) : List Value := .int .i64 a.n :: a.r
def rowV (r : List C) : Prop := ∃ f : Fl, r = flC f ∧ (-1000 ≤ f.num ∧ f.num ≤ 1000)
noncomputable def ltV (r s : List C) : Bool := decide ((C.fl r).num < (C.fl s).num)
theorem mSortV : Meets Tryz.prog 82 (srSp 83 50 7 rowV ltV) := by
  refine meets_srt (α := FV) (enc := encV) (cf := fun a b => a.n - b.n) (R := fun a r => ∃ f : Fl, r = flC f ∧ f.num = a.n) (by decide) (by kernel_rfl) (fun a => by show a.r.length + 1 = 7; rw [a.hr]) ?_ ?_ ?_ ?_
  · rintro ro r vs ⟨f, rfl, hx⟩ h
    have ho := src_one (ro := ro) (ys := [flC f]) (news := vs) (fun r hr c hc => by obtain rfl := List.mem_singleton.1 hr; exact flC_ss f c hc) (by simpa using h)
    have hlen := h.1
    unfold flC at h
    obtain ⟨v0, vs0, rfl, h0, r0⟩ := All2.cons_inv h
    cases h0
    refine ⟨⟨f.num, vs0, hx, ?_, fun v hv => ho v (List.mem_cons_of_mem _ hv)⟩, rfl, f, rfl, rfl⟩
    have := r0.1
    simpa using this.symm
  · rintro a r b s ⟨f, rfl, h1⟩ ⟨g, rfl, h2⟩
    unfold ltV ltOf
    rw [fl_dec, fl_dec, decide_eq_decide]; dsimp only; omega
  · intro blk cap d w hH hblk hsz
    have eg : ∀ args w, (callFunc 83 args).run Tryz.prog w = .ok (.enter 83 args) w := enters_of Tryz.func83 (by kernel_rfl) rfl
    exact AnyQ.slices_SortFunc Tryz.sortFl 7 Tryz.isAgg50 Tryz.sizeOf50 encV (fun a => by show a.r.length + 1 = 7; rw [a.hr]) (fun x v hv => by rcases List.mem_cons.1 hv with rfl | hv; rfl; exact x.h1 v hv) (fun a b => a.n - b.n) (swo_num fun a : FV => a.n) 83 #[] blk 0 cap d w eg
      (fun m os dk _ x y => walkF _ _ _ _ x.hr y.hr x.hn y.hn _) hH hblk hsz
  · exact fun w => AnyF.slices_SortFunc_none { Tryz.sortFl with } none 0 _ w
theorem srv_use {l : List Fl} {K : S → Hp → Prop} (hl : l.length ≤ 1000000000) (hb : ∀ x ∈ l, -1000 ≤ x.num ∧ x.num ≤ 1000) (hK : ∀ l' : List Fl, l'.Perm l → l'.Pairwise (fun a b => ¬ b.num < a.num) → K (.tu []) [.row (l'.map flC) 50 7]) :
    srSp 83 50 7 rowV ltV [.va (.c1 (.sl 0 l.length)), .va (.c1 (.fn 83 []))] [.row (l.map flC) 50 7] K := by
  refine ⟨l.map flC, by simp, rfl, fun r hr => ?_, by simpa using hl, fun xs' hp hs => ?_⟩
  · obtain ⟨x, hx, rfl⟩ := List.mem_map.1 hr
    exact ⟨x, rfl, hb x hx⟩
  · obtain ⟨l', rfl, h2⟩ := perm_lift hp rfl
    refine hK l' h2 ?_
    rw [List.pairwise_map] at hs
    refine hs.imp fun {a b} h => ?_
    unfold ltV at h
    rw [fl_dec, fl_dec] at h
    simpa using h
end Go.Proofs.YtbolanmlngjdoaaGreat
namespace Go.Proofs.YtbolanmlngjdoaaGreat
open Go.W
theorem ieq (a b : Int) : (a == b) = decide (a = b) := rfl
def isIs (rs : List (List C)) : Prop := ∃ l : List Int, rs = l.map inR ∧ l.length ≤ 9223372036854775807
theorem isIs_mk {l : List Int} (h : l.length ≤ 9223372036854775807) : isIs (l.map inR) := ⟨l, rfl, h⟩
def ciPre : List S → Prop := fun av => match av with
  | [.va (.c1 (.fz rs)), .va (.c1 (.vl (.int .i64 _)))] => isIs rs
  | _ => False
theorem ciPre_open {av : List S} (h : ciPre av) : ∃ (l : List Int) (x : Int), av = [.va (.c1 (.fz (l.map inR))), iS .i64 x] ∧ l.length ≤ 9223372036854775807 := by
  unfold ciPre at h
  split at h
  · obtain ⟨l, rfl, h⟩ := h; exact ⟨l, _, rfl, h⟩
  · exact h.elim
noncomputable def ciVal (f : List Int → Int → Value) : List S → A := fun av => match av with
  | [.va (.c1 (.fz rs)), .va (.c1 (.vl (.int .i64 x)))] => .c1 (.vl (f (rs.map C.it) x))
  | _ => .gs []
noncomputable def ciFn (f : List Int → Int → Value) : Fun := ⟨ciPre, ciVal f, fun av h => by obtain ⟨l, x, rfl, _⟩ := ciPre_open h; trivial⟩
theorem ciFn_len {f} : ∀ av H K, (ciFn f).sp av H K → av.length = 2 := fun av H K h => by obtain ⟨l, x, rfl, _⟩ := ciPre_open h.1.1; rfl
attribute [go_sem] ciFn ciPre ciVal
def ixI : List Int → Int → Nat → Int
  | [], _, _ => -1
  | y :: l, x, i => bif decide (x = y) then (i : Int) else ixI l x (i + 1)
def inI (l : List Int) (x : Int) : Bool := l.any fun y => decide (x = y)
theorem ixI_has : ∀ (l : List Int) (x : Int) (i : Nat), decide (0 ≤ ixI l x i) = inI l x
  | [], _, _ => by simp [ixI, inI]
  | y :: l, x, i => by
    simp only [ixI]
    by_cases h : x = y
    · simp [h, inI]
    · have := ixI_has l x (i + 1)
      simp [h, inI] at this ⊢; exact this
set_option maxRecDepth 100000 in
theorem mIndexI : Meets Tryz.prog 62 (ciFn fun l x => .int .i64 (ixI l x 0)).sp := by
  refine meets_fn Tryz.func62 ok62 2 (by rw [Tryz.ntmps62]; decide) (meetsAll_nil _) ciFn_len ?_
  rintro av H K ⟨⟨h, rfl⟩, hK⟩
  obtain ⟨l, x, rfl, hl⟩ := ciPre_open h
  have hK : K (iS .i64 (ixI l x 0)) [] := by
    have : (ciFn fun l x => .int .i64 (ixI l x 0)).val [.va (.c1 (.fz (l.map inR))), iS .i64 x] = iA .i64 (ixI l x 0) := by simp -dsimp only [go_sem]
    rw [this] at hK; exact hK
  simp -dsimp only [go_sem, pc62, rs62]
  refine vc_loop (α := Nat) (fun i => [(0, .va (.c1 (.fz (l.map inR)))), (1, iS .i64 x), (7, iS .i64 l.length), (8, iS .i64 i)]) (fun _ => [])
    (fun i => i ≤ l.length ∧ ixI (l.drop i) x i = ixI l x 0) (fun i => l.length - i) 0 0 ⟨Nat.zero_le _, rfl⟩ ?_ ?_ ?_
  · simp [go_sem]
  · simp [go_sem]
  rintro i ⟨hi, ho⟩
  rcases Nat.lt_or_ge i l.length with hlt | hge
  · have hg : decide ((i : Int) < (l.length : Int)) = true := by simp; omega
    have hx : l[i]? = some l[i] := List.getElem?_eq_getElem hlt
    have q1 := row_rg (row := inR) hx
    have q2 := row_rg' (row := inR) hx
    rw [List.drop_eq_getElem_cons hlt] at ho
    simp only [ixI] at ho
    generalize l[i] = y at *
    cases hc : decide (x = y) with
    | true =>
      rw [hc, Bool.cond_true] at ho
      simp -dsimp only [go_sem, hg, ↓q2, hc, ieq]
      and_intros
      all_goals first
        | omega
        | exact .done (by rw [ho]; exact hK)
    | false =>
      rw [hc, Bool.cond_false] at ho
      simp -dsimp only [go_sem, hg, ↓q2, hc, ieq]
      and_intros
      all_goals first
        | omega
        | skip
      refine loop_next (i + 1) 0 ⟨by omega, ho⟩ (by omega) ?_ ?_
      · simp [go_sem]
      · simp [go_sem]
  · have hg : decide ((i : Int) < (l.length : Int)) = false := by simp; omega
    have : l.drop i = [] := List.drop_eq_nil_iff.2 (by omega)
    rw [this] at ho
    simp -dsimp only [go_sem, hg]
    exact .done (by rw [show (-1 : Int) = ixI l x 0 from ho]; exact hK)
theorem mContainsI : Meets Tryz.prog 24 (ciFn fun l x => .bool (inI l x)).sp := by
  refine meets_fn Tryz.func24 ok24 2 (by rw [Tryz.ntmps24]; decide) (meetsAll_f mIndexI (meetsAll_nil _)) ciFn_len ?_
  rintro av H K ⟨⟨h, rfl⟩, hK⟩
  obtain ⟨l, x, rfl, hl⟩ := ciPre_open h
  have hK : K (bS (inI l x)) [] := by
    have : (ciFn fun l x => .bool (inI l x)).val [.va (.c1 (.fz (l.map inR))), iS .i64 x] = bA (inI l x) := by simp -dsimp only [go_sem]
    rw [this] at hK; exact hK
  simp -dsimp only [go_sem, pc24, rs24, isIs_mk hl, ixI_has]
  exact .done hK
end Go.Proofs.YtbolanmlngjdoaaGreat
namespace Go.Proofs.YtbolanmlngjdoaaGreat
open Go.W
def pc8_13 : PC := .seq (.gh (.reg  [⟨some 66, none, .l (.ldn 3 (.t 3))⟩, ⟨some 67, none, .q (.mv (.t 9))⟩, ⟨some 68, none, .cl 23 [(.t 66), (.t 67)] []⟩, ⟨some 65, none, .q (.mv (.t 68))⟩, ⟨some 69, none, .q (.ex (.t 65) 0)⟩, ⟨some 70, none, .q (.ex (.t 65) 1)⟩, ⟨some 14, none, .e (.al (.agg #[(.string (mk [])), (.slice none 0 0), (.slice none 0 0)]) 60)⟩, ⟨none, none, .e (.st 3 (.t 14) (.t 69))⟩, ⟨some 15, none, .q (.mv (.t 70))⟩])) (.seq (.reg  [⟨some 72, none, .l (.ldn 3 (.t 4))⟩, ⟨some 73, none, .q (.mv (.t 9))⟩, ⟨some 74, none, .cl 23 [(.t 72), (.t 73)] []⟩, ⟨some 71, none, .q (.mv (.t 74))⟩, ⟨some 75, none, .q (.ex (.t 71) 0)⟩, ⟨some 76, none, .q (.ex (.t 71) 1)⟩, ⟨some 16, none, .e (.al (.agg #[(.string (mk [])), (.slice none 0 0), (.slice none 0 0)]) 60)⟩, ⟨none, none, .e (.st 3 (.t 16) (.t 75))⟩, ⟨some 17, none, .q (.mv (.t 76))⟩]) (.seq (.reg  [⟨some 77, none, .q (.fa 2 (.t 14))⟩, ⟨some 78, none, .l (.ld1 (.t 77))⟩, ⟨some 79, none, .q (.lnL (.t 78))⟩, ⟨some 80, none, .q (.mv (.k (.int .i64 0)))⟩]) (.block 3 (.loop (.seq (.reg  [⟨some 81, none, .q (.bin .lss true (.t 80) (.t 79))⟩]) (.seq (.cond (.t 81) (.skip) (.exit 3)) (.seq (.block 4 (.seq (.reg  [⟨some 82, none, .l (.ia 1 (.t 78) (.t 80))⟩, ⟨some 83, none, .l (.ld1 (.t 82))⟩, ⟨some 19, none, .q (.mv (.t 83))⟩]) (.seq (.reg  [⟨some 84, none, .q (.mv (.t 15))⟩, ⟨some 85, none, .q (.mv (.t 84))⟩, ⟨some 86, (some (85, true)), .q (.mv (.t 17))⟩, ⟨some 87, none, .pick (.t 85) (.t 86) (.k (.bool false))⟩, ⟨some 88, none, .q (.mv (.t 87))⟩, ⟨some 89, (some (88, true)), .q (.fa 2 (.t 16))⟩, ⟨some 90, (some (88, true)), .l (.ld1 (.t 89))⟩, ⟨some 91, (some (88, true)), .q (.mv (.t 19))⟩, ⟨some 92, (some (88, true)), .cq 24 [(.t 90), (.t 91)]⟩, ⟨some 93, (some (88, true)), .q (.not (.t 92))⟩, ⟨some 94, none, .pick (.t 88) (.t 93) (.k (.bool false))⟩]) (.cond (.t 94) (.reg  [⟨some 95, none, .q (.mv (.t 7))⟩, ⟨some 96, none, .q (.mv (.t 19))⟩, ⟨some 97, none, .q (.mv (.t 9))⟩, ⟨some 98, none, .cl 21 [(.t 95), (.k (.int .i64 4)), (.t 96), (.t 97)] [2, 3]⟩]) (.skip))))) (.reg  [⟨some 99, none, .q (.bin .add true (.t 80) (.k (.int .i64 1)))⟩, ⟨some 80, none, .q (.mv (.t 99))⟩]))))))))
@[go_sem ↓] theorem fold8_13 (Γ : Env) (k0 : Nat) (fr : Fr) (H : Hp) (K : Ex → Fr → Hp → Prop) : vc Γ k0 pc8_13 fr H K = vcn Γ k0 pc8_13 fr H K ⟨⟩ := rfl
def pc8 : PC := .seq (.reg  [⟨some 3, none, .e (.bx 25 (.t 0))⟩, ⟨some 4, none, .e (.bx 25 (.t 1))⟩, ⟨some 6, none, .q (.mv (.k (.slice none 0 0)))⟩]) (.seq (.seq (.reg  [⟨some 20, none, .l (.ldn 3 (.t 3))⟩, ⟨some 21, none, .cq 18 [(.t 20)]⟩, ⟨some 22, none, .q (.bin .neq true (.t 21) (.k (.int .i64 0)))⟩, ⟨some 23, none, .q (.mv (.t 22))⟩, ⟨some 24, (some (23, false)), .l (.ldn 3 (.t 4))⟩, ⟨some 25, (some (23, false)), .cq 18 [(.t 24)]⟩, ⟨some 26, (some (23, false)), .q (.bin .neq true (.t 25) (.k (.int .i64 0)))⟩, ⟨some 27, none, .pick (.t 23) (.k (.bool true)) (.t 26)⟩]) (.cond (.t 27) (.seq (.reg  [⟨some 6, none, .q (.mv (.k (.slice none 0 0)))⟩]) (.ret)) (.skip))) (.seq (.reg  [⟨some 28, none, .q (.bd [(.slice none 0 0)] [])⟩, ⟨some 29, none, .e (.bx 53 (.t 28))⟩, ⟨some 7, none, .q (.mv (.t 29))⟩]) (.seq (.seq (.reg  [⟨some 30, none, .l (.ldn 3 (.t 3))⟩, ⟨some 31, none, .l (.ldn 3 (.t 4))⟩, ⟨some 32, none, .q (.mv (.t 2))⟩, ⟨some 33, none, .cl 19 [(.t 30), (.t 31), (.t 32)] []⟩, ⟨some 34, none, .q (.lnL (.t 33))⟩, ⟨some 35, none, .q (.mv (.k (.int .i64 0)))⟩]) (.block 0 (.loop (.seq (.reg  [⟨some 36, none, .q (.bin .lss true (.t 35) (.t 34))⟩]) (.seq (.cond (.t 36) (.skip) (.exit 0)) (.seq (.block 1 (.seq (.reg  [⟨some 37, none, .l (.ia 1 (.t 33) (.t 35))⟩, ⟨some 38, none, .l (.ld1 (.t 37))⟩, ⟨some 9, none, .q (.mv (.t 38))⟩]) (.seq (.reg  [⟨some 40, none, .l (.ldn 3 (.t 3))⟩, ⟨some 41, none, .q (.mv (.t 9))⟩, ⟨some 42, none, .cl 20 [(.t 40), (.t 41)] []⟩, ⟨some 39, none, .q (.mv (.t 42))⟩, ⟨some 43, none, .q (.ex (.t 39) 0)⟩, ⟨some 44, none, .q (.ex (.t 39) 1)⟩, ⟨some 10, none, .e (.al (.agg #[(.string (mk [])), (.slice none 0 0)]) 37)⟩, ⟨none, none, .e (.st 2 (.t 10) (.t 43))⟩, ⟨some 11, none, .q (.mv (.t 44))⟩]) (.seq (.reg  [⟨some 46, none, .l (.ldn 3 (.t 4))⟩, ⟨some 47, none, .q (.mv (.t 9))⟩, ⟨some 48, none, .cl 20 [(.t 46), (.t 47)] []⟩, ⟨some 45, none, .q (.mv (.t 48))⟩, ⟨some 49, none, .q (.ex (.t 45) 0)⟩, ⟨some 50, none, .q (.ex (.t 45) 1)⟩, ⟨some 12, none, .e (.al (.agg #[(.string (mk [])), (.slice none 0 0)]) 37)⟩, ⟨none, none, .e (.st 2 (.t 12) (.t 49))⟩, ⟨some 13, none, .q (.mv (.t 50))⟩]) (.seq (.block 2 (.seq (.reg  [⟨some 52, none, .q (.mv (.t 11))⟩, ⟨some 53, none, .q (.mv (.t 13))⟩, ⟨some 54, none, .q (.eqB true (.t 52) (.t 53))⟩, ⟨some 51, none, .q (.mv (.t 54))⟩]) (.cond (.t 51) (.seq (.reg  [⟨some 55, none, .q (.mv (.t 7))⟩, ⟨some 56, none, .q (.mv (.t 9))⟩, ⟨some 57, none, .cl 21 [(.t 55), (.k (.int .i64 5)), (.k (.int .i64 0)), (.t 56)] [2, 3]⟩]) (.exit 1)) (.seq (.reg  [⟨some 59, none, .q (.mv (.t 11))⟩, ⟨some 58, none, .q (.mv (.t 59))⟩]) (.cond (.t 58) (.reg  [⟨some 60, none, .q (.mv (.t 7))⟩, ⟨some 61, none, .q (.mv (.t 9))⟩, ⟨some 62, none, .l (.ldn 2 (.t 10))⟩, ⟨some 63, none, .l (.ldn 2 (.t 12))⟩, ⟨some 64, none, .cl 22 [(.t 60), (.t 61), (.t 62), (.t 63)] [2, 3]⟩]) (.skip)))))) (pc8_13)))))) (.reg  [⟨some 100, none, .q (.bin .add true (.t 35) (.k (.int .i64 1)))⟩, ⟨some 35, none, .q (.mv (.t 100))⟩]))))))) (.seq (.reg  [⟨some 101, none, .q (.mv (.t 7))⟩, ⟨some 102, none, .q (.nc (.t 101))⟩, ⟨some 103, none, .q (.fa 0 (.t 102))⟩, ⟨some 104, none, .l (.ld1 (.t 103))⟩, ⟨some 105, none, .cl 25 [(.t 104), (.f 26)] [3]⟩]) (.seq (.reg  [⟨some 106, none, .q (.mv (.t 7))⟩, ⟨some 107, none, .q (.nc (.t 106))⟩, ⟨some 108, none, .q (.fa 0 (.t 107))⟩, ⟨some 109, none, .l (.ld1 (.t 108))⟩, ⟨some 6, none, .q (.mv (.t 109))⟩]) (.ret))))))
def rs8 : List RV := [.mv (.t 6)]
theorem ok8 : trFn Tryz.prog true ⟨fun r k => if r = 1 ∧ k = 1 then .q else if r = 1 ∧ k = 5 then .q else if r = 10 ∧ k = 2 then .own [2, 3] else if r = 12 ∧ k = 4 then .own [2, 3] else if r = 18 ∧ k = 8 then .q else if r = 19 ∧ k = 3 then .own [2, 3] else if r = 22 ∧ k = 4 then .own [3] else .own [], fun r => [13].contains r⟩ Tryz.f8 = some (pc8, rs8) := by kernel_rfl
def pc12_5 : PC := .seq (.gh (.reg  [⟨some 31, none, .q (.mv (.t 8))⟩, ⟨some 32, none, .q (.mv (.t 31))⟩, ⟨some 33, (some (32, true)), .q (.mv (.t 10))⟩, ⟨some 34, none, .pick (.t 32) (.t 33) (.k (.bool false))⟩, ⟨some 35, none, .q (.mv (.t 34))⟩, ⟨some 36, (some (35, true)), .l (.ldn 3 (.t 3))⟩, ⟨some 37, (some (35, true)), .l (.ldn 3 (.t 4))⟩, ⟨some 38, (some (35, true)), .q (.mv (.t 2))⟩, ⟨some 39, (some (35, true)), .cl 8 [(.t 36), (.t 37), (.t 38)] []⟩, ⟨some 40, (some (35, true)), .q (.lnL (.t 39))⟩, ⟨some 41, (some (35, true)), .q (.bin .eql true (.t 40) (.k (.int .i64 0)))⟩, ⟨some 42, none, .pick (.t 35) (.t 41) (.k (.bool false))⟩, ⟨some 6, none, .q (.mv (.t 42))⟩])) (.ret)
@[go_sem ↓] theorem fold12_5 (Γ : Env) (k0 : Nat) (fr : Fr) (H : Hp) (K : Ex → Fr → Hp → Prop) : vc Γ k0 pc12_5 fr H K = vcn Γ k0 pc12_5 fr H K ⟨⟩ := rfl
def pc12_4 : PC := .seq (.gh (.reg  [⟨some 26, none, .l (.ldn 3 (.t 4))⟩, ⟨some 27, none, .q (.mv (.t 2))⟩, ⟨some 28, none, .cl 20 [(.t 26), (.t 27)] []⟩, ⟨some 25, none, .q (.mv (.t 28))⟩, ⟨some 29, none, .q (.ex (.t 25) 0)⟩, ⟨some 30, none, .q (.ex (.t 25) 1)⟩, ⟨some 9, none, .e (.al (.agg #[(.string (mk [])), (.slice none 0 0)]) 37)⟩, ⟨none, none, .e (.st 2 (.t 9) (.t 29))⟩, ⟨some 10, none, .q (.mv (.t 30))⟩])) (pc12_5)
@[go_sem ↓] theorem fold12_4 (Γ : Env) (k0 : Nat) (fr : Fr) (H : Hp) (K : Ex → Fr → Hp → Prop) : vc Γ k0 pc12_4 fr H K = vcn Γ k0 pc12_4 fr H K ⟨⟩ := rfl
def pc12 : PC := .seq (.reg  [⟨some 3, none, .e (.bx 25 (.t 0))⟩, ⟨some 4, none, .e (.bx 25 (.t 1))⟩, ⟨some 6, none, .q (.mv (.k (.bool false)))⟩]) (.seq (.seq (.reg  [⟨some 11, none, .l (.ldn 3 (.t 3))⟩, ⟨some 12, none, .cq 18 [(.t 11)]⟩, ⟨some 13, none, .q (.bin .neq true (.t 12) (.k (.int .i64 0)))⟩, ⟨some 14, none, .q (.mv (.t 13))⟩, ⟨some 15, (some (14, false)), .l (.ldn 3 (.t 4))⟩, ⟨some 16, (some (14, false)), .cq 18 [(.t 15)]⟩, ⟨some 17, (some (14, false)), .q (.bin .neq true (.t 16) (.k (.int .i64 0)))⟩, ⟨some 18, none, .pick (.t 14) (.k (.bool true)) (.t 17)⟩]) (.cond (.t 18) (.seq (.reg  [⟨some 6, none, .q (.mv (.k (.bool false)))⟩]) (.ret)) (.skip))) (.seq (.reg  [⟨some 20, none, .l (.ldn 3 (.t 3))⟩, ⟨some 21, none, .q (.mv (.t 2))⟩, ⟨some 22, none, .cl 20 [(.t 20), (.t 21)] []⟩, ⟨some 19, none, .q (.mv (.t 22))⟩, ⟨some 23, none, .q (.ex (.t 19) 0)⟩, ⟨some 24, none, .q (.ex (.t 19) 1)⟩, ⟨some 7, none, .e (.al (.agg #[(.string (mk [])), (.slice none 0 0)]) 37)⟩, ⟨none, none, .e (.st 2 (.t 7) (.t 23))⟩, ⟨some 8, none, .q (.mv (.t 24))⟩]) (pc12_4)))
def rs12 : List RV := [.mv (.t 6)]
theorem ok12 : trFn Tryz.prog true ⟨fun r k => if r = 1 ∧ k = 1 then .q else if r = 1 ∧ k = 5 then .q else .own [], fun r => [4, 5].contains r⟩ Tryz.f12 = some (pc12, rs12) := by kernel_rfl
def pc19 : PC := .seq (.reg  [⟨some 3, none, .e (.bx 25 (.t 0))⟩, ⟨some 4, none, .e (.bx 25 (.t 1))⟩, ⟨some 6, none, .q (.mv (.k (.slice none 0 0)))⟩]) (.seq (.reg  [⟨some 11, none, .q (.mv (.t 2))⟩, ⟨some 12, none, .e (.bsl 9 1 [(.t 11)])⟩, ⟨some 7, none, .q (.mv (.t 12))⟩]) (.seq (.reg  [⟨some 13, none, .l (.ldn 3 (.t 4))⟩, ⟨some 14, none, .q (.mv (.t 2))⟩, ⟨some 15, none, .cl 57 [(.t 13), (.t 14)] []⟩, ⟨some 8, none, .q (.mv (.t 15))⟩]) (.seq (.seq (.reg  [⟨some 16, none, .l (.ldn 3 (.t 3))⟩, ⟨some 17, none, .q (.mv (.t 2))⟩, ⟨some 18, none, .cl 57 [(.t 16), (.t 17)] []⟩, ⟨some 19, none, .q (.lnL (.t 18))⟩, ⟨some 20, none, .q (.mv (.k (.int .i64 0)))⟩]) (.block 0 (.loop (.seq (.reg  [⟨some 21, none, .q (.bin .lss true (.t 20) (.t 19))⟩]) (.seq (.cond (.t 21) (.skip) (.exit 0)) (.seq (.block 1 (.seq (.reg  [⟨some 22, none, .l (.ia 1 (.t 18) (.t 20))⟩, ⟨some 23, none, .l (.ld1 (.t 22))⟩, ⟨some 10, none, .q (.mv (.t 23))⟩]) (.seq (.reg  [⟨some 24, none, .q (.mv (.t 8))⟩, ⟨some 25, none, .q (.mv (.t 10))⟩, ⟨some 26, none, .cq 58 [(.t 24), (.t 25)]⟩]) (.cond (.t 26) (.reg  [⟨some 27, none, .q (.mv (.t 7))⟩, ⟨some 28, none, .q (.mv (.t 10))⟩, ⟨some 29, none, .e (.bsl 9 1 [(.t 28)])⟩, ⟨some 30, none, .e (.ap 9 1 16 (.t 27) (.t 29))⟩, ⟨some 7, none, .q (.mv (.t 30))⟩]) (.skip))))) (.reg  [⟨some 31, none, .q (.bin .add true (.t 20) (.k (.int .i64 1)))⟩, ⟨some 20, none, .q (.mv (.t 31))⟩]))))))) (.seq (.reg  [⟨some 32, none, .q (.mv (.t 7))⟩, ⟨some 6, none, .q (.mv (.t 32))⟩]) (.ret)))))
def rs19 : List RV := [.mv (.t 6)]
theorem ok19 : trFn Tryz.prog true ⟨fun r k => if r = 6 ∧ k = 2 then .q else .own [], fun _ => false⟩ Tryz.f19 = some (pc19, rs19) := by kernel_rfl
def pc21 : PC := .seq (.reg  [⟨some 11, none, .q (.mv (.t 1))⟩, ⟨some 12, none, .q (.mv (.t 2))⟩, ⟨some 13, none, .q (.mv (.t 3))⟩, ⟨some 14, none, .q (.bd [(.int .i64 0), (.int .i64 0), (.string (mk []))] [(0, 1, (.t 11)), (1, 1, (.t 12)), (2, 1, (.t 13))])⟩, ⟨some 8, none, .e (.al (.agg #[(.int .i64 0), (.int .i64 0), (.string (mk []))]) 33)⟩, ⟨none, none, .e (.st 3 (.t 8) (.t 14))⟩]) (.seq (.seq (.reg  [⟨some 15, none, .q (.mv (.t 0))⟩, ⟨some 16, none, .q (.nc (.t 15))⟩, ⟨some 17, none, .q (.fa 0 (.t 16))⟩, ⟨some 18, none, .l (.ld1 (.t 17))⟩, ⟨some 19, none, .q (.lnL (.t 18))⟩, ⟨some 20, none, .q (.mv (.k (.int .i64 0)))⟩]) (.block 0 (.loop (.seq (.reg  [⟨some 21, none, .q (.bin .lss true (.t 20) (.t 19))⟩]) (.seq (.cond (.t 21) (.skip) (.exit 0)) (.seq (.block 1 (.seq (.reg  [⟨some 22, none, .l (.ia 3 (.t 18) (.t 20))⟩, ⟨some 23, none, .l (.ldn 3 (.t 22))⟩, ⟨some 10, none, .e (.al (.agg #[(.int .i64 0), (.int .i64 0), (.string (mk []))]) 33)⟩, ⟨none, none, .e (.st 3 (.t 10) (.t 23))⟩]) (.seq (.reg  [⟨some 24, none, .l (.ldn 3 (.t 8))⟩, ⟨some 25, none, .l (.ldn 3 (.t 10))⟩, ⟨some 26, none, .q (.eqT false [(0, .int .i64), (1, .int .i64), (2, .str)] (.t 24) (.t 25))⟩]) (.cond (.t 26) (.ret) (.skip))))) (.reg  [⟨some 27, none, .q (.bin .add true (.t 20) (.k (.int .i64 1)))⟩, ⟨some 20, none, .q (.mv (.t 27))⟩]))))))) (.ord  [.q ⟨some 28, none, .q (.mv (.t 0))⟩, .q ⟨some 29, none, .q (.mv (.t 0))⟩, .q ⟨some 30, none, .q (.nc (.t 29))⟩, .q ⟨some 31, none, .q (.fa 0 (.t 30))⟩, .q ⟨some 32, none, .l (.ld1 (.t 31))⟩, .q ⟨some 33, none, .l (.ldn 3 (.t 8))⟩, .m ⟨some 34, none, .e (.bsl 33 3 [(.t 33)])⟩, .rc ⟨some 28, none, .q (.mv (.t 0))⟩, .rc ⟨some 29, none, .q (.mv (.t 0))⟩, .rc ⟨some 30, none, .q (.nc (.t 29))⟩, .rc ⟨some 31, none, .q (.fa 0 (.t 30))⟩, .rc ⟨some 32, none, .l (.ld1 (.t 31))⟩, .m ⟨some 35, none, .e (.ap 33 3 32 (.t 32) (.t 34))⟩, .rc ⟨some 28, none, .q (.mv (.t 0))⟩, .q ⟨some 36, none, .q (.nc (.t 28))⟩, .q ⟨some 37, none, .q (.fa 0 (.t 36))⟩, .m ⟨none, none, .e (.st 1 (.t 37) (.t 35))⟩]))
def rs21 : List RV := []
theorem ok21 : trFn Tryz.prog true ⟨fun _ _ => .own [], fun _ => false⟩ Tryz.f21 = some (pc21, rs21) := by kernel_rfl
def pc22 : PC := .seq (.reg  [⟨some 6, none, .e (.bx 37 (.t 2))⟩, ⟨some 7, none, .e (.bx 37 (.t 3))⟩]) (.seq (.seq (.reg  [⟨some 16, none, .q (.fa 1 (.t 6))⟩, ⟨some 17, none, .l (.ld1 (.t 16))⟩, ⟨some 18, none, .q (.lnL (.t 17))⟩, ⟨some 19, none, .q (.mv (.k (.int .i64 0)))⟩]) (.block 0 (.loop (.seq (.reg  [⟨some 20, none, .q (.bin .lss true (.t 19) (.t 18))⟩]) (.seq (.cond (.t 20) (.skip) (.exit 0)) (.seq (.block 1 (.seq (.reg  [⟨some 21, none, .l (.ia 7 (.t 17) (.t 19))⟩, ⟨some 22, none, .l (.ldn 7 (.t 21))⟩, ⟨some 9, none, .e (.al (.agg #[(.int .i64 0), (.string (mk [])), (.int .i64 0), (.int .i64 0), (.string (mk [])), (.slice none 0 0), (.bool false)]) 50)⟩, ⟨none, none, .e (.st 7 (.t 9) (.t 22))⟩]) (.seq (.reg  [⟨some 24, none, .l (.ldn 2 (.t 7))⟩, ⟨some 25, none, .q (.fa 0 (.t 9))⟩, ⟨some 26, none, .l (.ld1 (.t 25))⟩, ⟨some 27, none, .cl 60 [(.t 24), (.t 26)] []⟩, ⟨some 23, none, .q (.mv (.t 27))⟩, ⟨some 28, none, .q (.ex (.t 23) 0)⟩, ⟨some 29, none, .q (.ex (.t 23) 1)⟩, ⟨some 10, none, .e (.al (.agg #[(.int .i64 0), (.string (mk [])), (.int .i64 0), (.int .i64 0), (.string (mk [])), (.slice none 0 0), (.bool false)]) 50)⟩, ⟨none, none, .e (.st 7 (.t 10) (.t 28))⟩, ⟨some 11, none, .q (.mv (.t 29))⟩]) (.seq (.seq (.reg  [⟨some 30, none, .q (.mv (.t 11))⟩, ⟨some 31, none, .q (.not (.t 30))⟩]) (.cond (.t 31) (.seq (.seq (.reg  [⟨some 32, none, .q (.fa 6 (.t 9))⟩, ⟨some 33, none, .l (.ld1 (.t 32))⟩, ⟨some 34, none, .q (.not (.t 33))⟩]) (.cond (.t 34) (.reg  [⟨some 35, none, .q (.mv (.t 0))⟩, ⟨some 36, none, .q (.fa 0 (.t 9))⟩, ⟨some 37, none, .l (.ld1 (.t 36))⟩, ⟨some 38, none, .q (.mv (.t 1))⟩, ⟨some 39, none, .cl 21 [(.t 35), (.k (.int .i64 2)), (.t 37), (.t 38)] [0, 1]⟩]) (.skip))) (.exit 1)) (.skip))) (.seq (.seq (.reg  [⟨some 40, none, .q (.fa 2 (.t 9))⟩, ⟨some 41, none, .l (.ldn 4 (.t 40))⟩, ⟨some 42, none, .q (.fa 2 (.t 10))⟩, ⟨some 43, none, .l (.ldn 4 (.t 42))⟩, ⟨some 44, none, .cq 61 [(.t 41), (.t 43)]⟩, ⟨some 45, none, .q (.not (.t 44))⟩]) (.cond (.t 45) (.reg  [⟨some 46, none, .q (.mv (.t 0))⟩, ⟨some 47, none, .q (.fa 0 (.t 9))⟩, ⟨some 48, none, .l (.ld1 (.t 47))⟩, ⟨some 49, none, .q (.mv (.t 1))⟩, ⟨some 50, none, .cl 21 [(.t 46), (.k (.int .i64 1)), (.t 48), (.t 49)] [0, 1]⟩]) (.skip))) (.seq (.reg  [⟨some 51, none, .q (.fa 6 (.t 9))⟩, ⟨some 52, none, .l (.ld1 (.t 51))⟩, ⟨some 53, none, .q (.fa 6 (.t 10))⟩, ⟨some 54, none, .l (.ld1 (.t 53))⟩, ⟨some 55, none, .q (.eqB true (.t 52) (.t 54))⟩]) (.cond (.t 55) (.reg  [⟨some 56, none, .q (.mv (.t 0))⟩, ⟨some 57, none, .q (.fa 0 (.t 9))⟩, ⟨some 58, none, .l (.ld1 (.t 57))⟩, ⟨some 59, none, .q (.mv (.t 1))⟩, ⟨some 60, none, .cl 21 [(.t 56), (.k (.int .i64 3)), (.t 58), (.t 59)] [0, 1]⟩]) (.skip)))))))) (.reg  [⟨some 61, none, .q (.bin .add true (.t 19) (.k (.int .i64 1)))⟩, ⟨some 19, none, .q (.mv (.t 61))⟩]))))))) (.seq (.reg  [⟨some 62, none, .q (.fa 1 (.t 7))⟩, ⟨some 63, none, .l (.ld1 (.t 62))⟩, ⟨some 64, none, .q (.lnL (.t 63))⟩, ⟨some 65, none, .q (.mv (.k (.int .i64 0)))⟩]) (.block 2 (.loop (.seq (.reg  [⟨some 66, none, .q (.bin .lss true (.t 65) (.t 64))⟩]) (.seq (.cond (.t 66) (.skip) (.exit 2)) (.seq (.block 3 (.seq (.reg  [⟨some 67, none, .l (.ia 7 (.t 63) (.t 65))⟩, ⟨some 68, none, .l (.ldn 7 (.t 67))⟩, ⟨some 13, none, .e (.al (.agg #[(.int .i64 0), (.string (mk [])), (.int .i64 0), (.int .i64 0), (.string (mk [])), (.slice none 0 0), (.bool false)]) 50)⟩, ⟨none, none, .e (.st 7 (.t 13) (.t 68))⟩]) (.seq (.reg  [⟨some 70, none, .l (.ldn 2 (.t 6))⟩, ⟨some 71, none, .q (.fa 0 (.t 13))⟩, ⟨some 72, none, .l (.ld1 (.t 71))⟩, ⟨some 73, none, .cl 60 [(.t 70), (.t 72)] []⟩, ⟨some 69, none, .q (.mv (.t 73))⟩, ⟨some 74, none, .q (.ex (.t 69) 0)⟩, ⟨some 75, none, .q (.ex (.t 69) 1)⟩, ⟨some 14, none, .e (.al (.agg #[(.int .i64 0), (.string (mk [])), (.int .i64 0), (.int .i64 0), (.string (mk [])), (.slice none 0 0), (.bool false)]) 50)⟩, ⟨none, none, .e (.st 7 (.t 14) (.t 74))⟩, ⟨some 15, none, .q (.mv (.t 75))⟩]) (.seq (.reg  [⟨some 76, none, .q (.mv (.t 15))⟩, ⟨some 77, none, .q (.not (.t 76))⟩, ⟨some 78, none, .q (.mv (.t 77))⟩, ⟨some 79, (some (78, true)), .q (.fa 6 (.t 13))⟩, ⟨some 80, (some (78, true)), .l (.ld1 (.t 79))⟩, ⟨some 81, (some (78, true)), .q (.not (.t 80))⟩, ⟨some 82, none, .pick (.t 78) (.t 81) (.k (.bool false))⟩]) (.cond (.t 82) (.reg  [⟨some 83, none, .q (.mv (.t 0))⟩, ⟨some 84, none, .q (.fa 0 (.t 13))⟩, ⟨some 85, none, .l (.ld1 (.t 84))⟩, ⟨some 86, none, .q (.mv (.t 1))⟩, ⟨some 87, none, .cl 21 [(.t 83), (.k (.int .i64 2)), (.t 85), (.t 86)] [0, 1]⟩]) (.skip)))))) (.reg  [⟨some 88, none, .q (.bin .add true (.t 65) (.k (.int .i64 1)))⟩, ⟨some 65, none, .q (.mv (.t 88))⟩]))))))))
def rs22 : List RV := []
theorem ok22 : trFn Tryz.prog true ⟨fun r k => if r = 7 ∧ k = 4 then .own [0, 1] else if r = 8 ∧ k = 4 then .q else if r = 9 ∧ k = 4 then .own [0, 1] else if r = 11 ∧ k = 4 then .own [0, 1] else if r = 18 ∧ k = 4 then .own [0, 1] else .own [], fun _ => false⟩ Tryz.f22 = some (pc22, rs22) := by kernel_rfl
def pc61 : PC := .seq (.reg  [⟨some 2, none, .e (.bx 48 (.t 0))⟩, ⟨some 3, none, .e (.bx 48 (.t 1))⟩, ⟨some 4, none, .q (.mv (.k (.bool false)))⟩]) (.seq (.seq (.reg  [⟨some 7, none, .l (.ldn 4 (.t 2))⟩, ⟨some 8, none, .l (.ldn 4 (.t 3))⟩, ⟨some 9, none, .cq 95 [(.t 7), (.t 8)]⟩]) (.cond (.t 9) (.seq (.reg  [⟨some 4, none, .q (.mv (.k (.bool true)))⟩]) (.ret)) (.skip))) (.seq (.seq (.reg  [⟨some 10, none, .q (.fa 0 (.t 2))⟩, ⟨some 11, none, .l (.ld1 (.t 10))⟩, ⟨some 12, none, .q (.fa 0 (.t 3))⟩, ⟨some 13, none, .l (.ld1 (.t 12))⟩, ⟨some 14, none, .q (.bin .neq true (.t 11) (.t 13))⟩, ⟨some 15, none, .q (.mv (.t 14))⟩, ⟨some 16, (some (15, false)), .q (.fa 2 (.t 2))⟩, ⟨some 17, (some (15, false)), .l (.ld1 (.t 16))⟩, ⟨some 18, (some (15, false)), .q (.fa 2 (.t 3))⟩, ⟨some 19, (some (15, false)), .l (.ld1 (.t 18))⟩, ⟨some 20, (some (15, false)), .q (.bin .neq true (.t 17) (.t 19))⟩, ⟨some 21, none, .pick (.t 15) (.k (.bool true)) (.t 20)⟩]) (.cond (.t 21) (.seq (.reg  [⟨some 4, none, .q (.mv (.k (.bool false)))⟩]) (.ret)) (.skip))) (.seq (.seq (.reg  [⟨some 22, none, .q (.fa 0 (.t 2))⟩, ⟨some 23, none, .l (.ld1 (.t 22))⟩, ⟨some 24, none, .q (.bin .eql true (.t 23) (.k (.int .i64 5)))⟩]) (.cond (.t 24) (.seq (.reg  [⟨some 25, none, .q (.fa 3 (.t 2))⟩, ⟨some 26, none, .l (.ld1 (.t 25))⟩, ⟨some 27, none, .q (.lnL (.t 26))⟩, ⟨some 28, none, .q (.bin .eql true (.t 27) (.k (.int .i64 1)))⟩, ⟨some 29, none, .q (.mv (.t 28))⟩, ⟨some 30, (some (29, true)), .q (.fa 3 (.t 3))⟩, ⟨some 31, (some (29, true)), .l (.ld1 (.t 30))⟩, ⟨some 32, (some (29, true)), .q (.lnL (.t 31))⟩, ⟨some 33, (some (29, true)), .q (.bin .eql true (.t 32) (.k (.int .i64 1)))⟩, ⟨some 34, none, .pick (.t 29) (.t 33) (.k (.bool false))⟩, ⟨some 35, none, .q (.mv (.t 34))⟩, ⟨some 36, (some (35, true)), .q (.fa 1 (.t 3))⟩, ⟨some 37, (some (35, true)), .l (.ld1 (.t 36))⟩, ⟨some 38, (some (35, true)), .q (.fa 1 (.t 2))⟩, ⟨some 39, (some (35, true)), .l (.ld1 (.t 38))⟩, ⟨some 40, (some (35, true)), .q (.bin .geq true (.t 37) (.t 39))⟩, ⟨some 41, none, .pick (.t 35) (.t 40) (.k (.bool false))⟩, ⟨some 42, none, .q (.mv (.t 41))⟩, ⟨some 43, (some (42, true)), .q (.fa 3 (.t 2))⟩, ⟨some 44, (some (42, true)), .l (.ld1 (.t 43))⟩, ⟨some 45, (some (42, true)), .l (.ia 4 (.t 44) (.k (.int .i64 0)))⟩, ⟨some 46, (some (42, true)), .l (.ldn 4 (.t 45))⟩, ⟨some 47, (some (42, true)), .q (.fa 3 (.t 3))⟩, ⟨some 48, (some (42, true)), .l (.ld1 (.t 47))⟩, ⟨some 49, (some (42, true)), .l (.ia 4 (.t 48) (.k (.int .i64 0)))⟩, ⟨some 50, (some (42, true)), .l (.ldn 4 (.t 49))⟩, ⟨some 51, (some (42, true)), .cq 61 [(.t 46), (.t 50)]⟩, ⟨some 52, none, .pick (.t 42) (.t 51) (.k (.bool false))⟩, ⟨some 4, none, .q (.mv (.t 52))⟩]) (.ret)) (.skip))) (.seq (.reg  [⟨some 53, none, .l (.ldn 4 (.t 3))⟩, ⟨some 5, none, .e (.al (.agg #[(.int .i64 0), (.int .i64 0), (.string (mk [])), (.slice none 0 0)]) 48)⟩, ⟨none, none, .e (.st 4 (.t 5) (.t 53))⟩]) (.seq (.reg  [⟨some 54, none, .q (.fa 1 (.t 2))⟩, ⟨some 55, none, .l (.ld1 (.t 54))⟩, ⟨some 56, none, .q (.fa 1 (.t 5))⟩, ⟨none, none, .e (.st 1 (.t 56) (.t 55))⟩]) (.seq (.reg  [⟨some 57, none, .q (.fa 0 (.t 2))⟩, ⟨some 58, none, .l (.ld1 (.t 57))⟩, ⟨some 59, none, .q (.bin .eql true (.t 58) (.k (.int .i64 2)))⟩, ⟨some 60, none, .q (.mv (.t 59))⟩, ⟨some 61, (some (60, false)), .q (.fa 0 (.t 2))⟩, ⟨some 62, (some (60, false)), .l (.ld1 (.t 61))⟩, ⟨some 63, (some (60, false)), .q (.bin .eql true (.t 62) (.k (.int .i64 3)))⟩, ⟨some 64, none, .pick (.t 60) (.k (.bool true)) (.t 63)⟩, ⟨some 6, none, .q (.mv (.t 64))⟩]) (.seq (.reg  [⟨some 65, none, .q (.mv (.t 6))⟩, ⟨some 66, none, .q (.mv (.t 65))⟩, ⟨some 67, (some (66, false)), .q (.fa 0 (.t 2))⟩, ⟨some 68, (some (66, false)), .l (.ld1 (.t 67))⟩, ⟨some 69, (some (66, false)), .q (.bin .eql true (.t 68) (.k (.int .i64 4)))⟩, ⟨some 70, none, .pick (.t 66) (.k (.bool true)) (.t 69)⟩, ⟨some 71, none, .q (.mv (.t 70))⟩, ⟨some 72, (some (71, true)), .q (.fa 1 (.t 3))⟩, ⟨some 73, (some (71, true)), .l (.ld1 (.t 72))⟩, ⟨some 74, (some (71, true)), .q (.fa 1 (.t 2))⟩, ⟨some 75, (some (71, true)), .l (.ld1 (.t 74))⟩, ⟨some 76, (some (71, true)), .q (.bin .gtr true (.t 73) (.t 75))⟩, ⟨some 77, none, .pick (.t 71) (.t 76) (.k (.bool false))⟩, ⟨some 78, none, .q (.mv (.t 77))⟩, ⟨some 79, (some (78, true)), .l (.ldn 4 (.t 2))⟩, ⟨some 80, (some (78, true)), .l (.ldn 4 (.t 5))⟩, ⟨some 81, (some (78, true)), .cq 95 [(.t 79), (.t 80)]⟩, ⟨some 82, none, .pick (.t 78) (.t 81) (.k (.bool false))⟩, ⟨some 4, none, .q (.mv (.t 82))⟩]) (.ret))))))))
def rs61 : List RV := [.mv (.t 4)]
theorem ok61 : trFn Tryz.prog true ⟨fun r k => if r = 1 ∧ k = 2 then .q else if r = 6 ∧ k = 26 then .q else if r = 10 ∧ k = 16 then .q else .own [], fun _ => false⟩ Tryz.f61 = some (pc61, rs61) := by kernel_rfl
end Go.Proofs.YtbolanmlngjdoaaGreat
namespace Go.Proofs.YtbolanmlngjdoaaGreat
open Go.W
noncomputable def wdVal : List S → A := fun av => match av with
  | [.va (.gs r), .va (.gs q)] => bA (widF (C.ty r) (C.ty q))
  | _ => .gs []
noncomputable def wdFn (N : Nat) : Fun := ⟨saPre N, wdVal, fun av h => by obtain ⟨a, b, rfl, _⟩ := saPre_open h; trivial⟩
attribute [go_sem] wdFn wdVal
theorem wdFn_len {N : Nat} : ∀ av H K, (wdFn N).sp av H K → av.length = 2 := fun av H K h => by obtain ⟨a, b, rfl, _⟩ := saPre_open h.1.1; rfl
set_option maxRecDepth 100000 in
set_option maxHeartbeats 1000000 in
theorem mWidens' : ∀ N, Meets Tryz.prog 61 (wdFn N).sp
  | 0 => ⟨by kernel_rfl, by rintro xs vs E ro w K _ _ _ ⟨⟨h, _⟩, _⟩; obtain ⟨a, _, _, _, _, h⟩ := saPre_open h; have := a.h_pos; omega⟩
  | N + 1 => by
    refine meets_fn Tryz.func61 ok61 2 (by rw [Tryz.ntmps61]; decide) (meetsAll_f (mWidens' N) (meetsAll_f mSameS (meetsAll_nil _))) wdFn_len ?_
    rintro av H K ⟨⟨h, rfl⟩, hK⟩
    obtain ⟨a, b, rfl, ha, hb, hh⟩ := saPre_open h
    have hK : K (bS (widF a b)) [] := by
      have : (wdFn (N + 1)).val [.va (.gs (tyC a)), .va (.gs (tyC b))] = bA (widF a b) := by simp -dsimp only [go_sem]
      rw [this] at hK; exact hK
    clear h
    have fin : ∀ (x : Bool) (R : Hp), widF a b = x → W.Fin 0 K (bS x) R := fun x R h => by
      rw [h] at hK
      exact .sel [] (by simp) (by simp) rfl (.done (by simpa [go_sem] using hK))
    obtain ⟨k, s, n, e⟩ := a
    obtain ⟨k', s', n', e'⟩ := b
    have hua : isTy (tyC (.mk k s n e)) := isTy_mk ha
    have hub : isTy (tyC (.mk k' s' n' e')) := isTy_mk hb
    have hax : TyOk (.mk k' s n' e') := by cases hb; exact .mk (by assumption) ha.s (by assumption) (by assumption) (by assumption)
    have hux : isTy (tyC (.mk k' s n' e')) := isTy_mk hax
    have dua := ty_dec (.mk k s n e)
    have dub := ty_dec (.mk k' s' n' e')
    have dux := ty_dec (.mk k' s n' e')
    have hla := ha.len
    have hlb := hb.len
    have hoa := ha.e
    have hob := hb.e
    simp only [Ty.e] at hla hlb hoa hob
    have hst : widF (.mk k s n e) (.mk k' s' n' e') = (tyB (.mk k s n e) (.mk k' s' n' e') || (decide (k = k') && decide (n = n') && (bif decide (k = 5) then decide (e.length = 1) && decide (e'.length = 1) && decide (s ≤ s') && widF (e.headD default) (e'.headD default)
      else (decide (k = 2) || decide (k = 3) || decide (k = 4)) && decide (s < s') && tyB (.mk k s n e) (.mk k' s n' e')))) := widF_step _ _
    simp only [tyC, tysC_map] at hua hub hux dua dub dux
    cases c1 : tyB (.mk k s n e) (.mk k' s' n' e') with
    | true =>
      rw [c1, Bool.true_or] at hst
      simp (maxSteps := 1000000) -dsimp only [go_sem, tyC, tysC_map, pc61, rs61, hua, hub, dua, dub, c1]
      exact fin _ _ hst
    | false =>
    rw [c1, Bool.false_or] at hst
    simp (maxSteps := 1000000) -dsimp only [go_sem, tyC, tysC_map, pc61, rs61, bl_beq, hua, hub, hux, dua, dub, dux, c1]
    have e5 : (k == (5 : Int)) = decide (k = 5) := rfl
    have e2 : (k == (2 : Int)) = decide (k = 2) := rfl
    have e3 : (k == (3 : Int)) = decide (k = 3) := rfl
    have e4 : (k == (4 : Int)) = decide (k = 4) := rfl
    refine ⟨fun h1 => fin _ _ ?_, fun h1 => ?_⟩
    · rw [hst]
      by_cases hk : k = k'
      · by_cases hn : n = n'
        · rw [hk, hn] at h1; simp at h1
        · rw [decide_eq_false hn, Bool.and_false, Bool.false_and]
      · rw [decide_eq_false hk, Bool.false_and, Bool.false_and]
    have hkn : (decide (k = k') && decide (n = n')) = true := by
      simp only [Bool.or_eq_false_iff, bne_eq_false_iff_eq, Bool.not_eq_false'] at h1
      rw [h1.2, decide_eq_true h1.1]; rfl
    rw [hkn, Bool.true_and] at hst
    refine ⟨fun h5 => ?_, fun h5 => fin _ _ ?_⟩
    · rw [e5] at h5
      rw [h5, Bool.cond_true] at hst
      refine ⟨fun h2 => ?_, fun h2 => fin _ _ ?_⟩
      · have h2' := h2
        simp only [Bool.and_eq_true, beq_iff_eq, decide_eq_true_eq] at h2'
        obtain ⟨⟨l1, l2⟩, l3⟩ := h2'
        obtain ⟨u, rfl⟩ : ∃ u, e = [u] := List.length_eq_one_iff.1 (by omega)
        obtain ⟨v, rfl⟩ : ∃ v, e' = [v] := List.length_eq_one_iff.1 (by omega)
        have hu : isTy (tyC u) := isTy_mk (hoa u (by simp))
        have hv : isTy (tyC v) := isTy_mk (hob v (by simp))
        have huh : u.h ≤ N := by rw [Ty.h, Ty.hs] at hh; omega
        have hfin : widF (.mk k s n [u]) (.mk k' s' n' [v]) = widF u v := by
          rw [hst]; simp [l3]
        simp (maxSteps := 1000000) -dsimp only [go_sem, tyC_len, hu, hv, List.getElem?_cons_zero, Option.some.injEq, forall_eq']
        refine ⟨by simp, by simp, huh, fin _ _ hfin⟩
      · rw [hst]
        cases hc : (decide (e.length = 1) && decide (e'.length = 1) && decide (s ≤ s')) with
        | false => rfl
        | true =>
          simp only [Bool.and_eq_true, decide_eq_true_eq] at hc
          simp [hc] at h2
    · rw [e5] at h5
      rw [hst, h5, Bool.cond_false, e2, e3, e4]
end Go.Proofs.YtbolanmlngjdoaaGreat
namespace Go.Proofs.YtbolanmlngjdoaaGreat
open Go.W
abbrev isH (l : List Is) : Hp := [.cells [.sl 1 l.length] 53, .row (l.map isC) 33 3]
def adSp : W.Spec := fun av H K => ∃ (k n : Int) (t : ByteArray) (l : List Is), av = [.va (.c1 (.pt 0 0)), iS .i64 k, iS .i64 n, tS t] ∧ H = isH l ∧ l.length ≤ 1000000 ∧ K (.tu []) (isH (addF l ⟨k, n, t⟩))
theorem ad_use {k n : Int} {t : ByteArray} {l : List Is} {K : S → Hp → Prop} (h : l.length ≤ 1000000) (hK : K (.tu []) (isH (addF l ⟨k, n, t⟩))) : adSp [.va (.c1 (.pt 0 0)), iS .i64 k, iS .i64 n, tS t] (isH l) K := ⟨k, n, t, l, rfl, rfl, h, hK⟩
set_option maxRecDepth 100000 in
set_option maxHeartbeats 1000000 in
theorem mAdd : Meets Tryz.prog 21 adSp := by
  refine meets_fn Tryz.func21 ok21 4 (by rw [Tryz.ntmps21]; decide) (meetsAll_nil _) (fun av H K h => by obtain ⟨_, _, _, _, rfl, _⟩ := h; rfl) ?_
  rintro av H K ⟨k, n, t, l, rfl, rfl, hl, hK⟩
  unfold addF at hK
  simp (maxSteps := 1000000) -dsimp only [go_sem, pc21, rs21]
  refine vc_loop (α := Nat) (fun i => [(0, .va (.c1 (.pt 0 0))), (8, .va (.c1 (.pt 2 0))), (18, .va (.c1 (.sl 1 l.length))), (19, iS .i64 l.length), (20, iS .i64 i)]) (fun _ => [.cells [.sl 1 l.length] 53, .row (l.map isC) 33 3, .cells (isC ⟨k, n, t⟩) 33])
    (fun i => i ≤ l.length ∧ (l.drop i).any (fun y => decide ((⟨k, n, t⟩ : Is) = y)) = l.any (fun y => decide ((⟨k, n, t⟩ : Is) = y))) (fun i => l.length - i) 0 3 ⟨Nat.zero_le _, rfl⟩ ?_ ?_ ?_
  · simp -dsimp only [go_sem] <;> simp
  · simp -dsimp only [go_sem, isC] <;> simp
  rintro i ⟨hi, ho⟩
  rcases Nat.lt_or_ge i l.length with hlt | hge
  · have hg : decide ((i : Int) < (l.length : Int)) = true := by simp; omega
    obtain ⟨y, hx⟩ : ∃ t, l[i]? = some t := ⟨_, List.getElem?_eq_getElem hlt⟩
    have q1 := row_rg' (row := isC) hx
    have hdr : l.drop i = y :: l.drop (i + 1) := by
      obtain ⟨h, rfl⟩ := List.getElem?_eq_some_iff.1 hx
      exact List.drop_eq_getElem_cons h
    rw [hdr, List.any_cons] at ho
    simp (maxSteps := 1000000) -dsimp only [go_sem, hg, isC]
    have hcc : (k == y.k && (n == y.n && bl t == bl y.t)) = decide ((⟨k, n, t⟩ : Is) = y) := by
      rw [bl_beq, Bool.eq_iff_iff, decide_eq_true_eq, is_eq]
      simp
    refine ⟨by omega, hlt, fun z hz => ?_⟩
    rw [hx, Option.some.injEq] at hz
    subst hz
    rw [hcc]
    refine ⟨fun h1 => ?_, fun h1 => ⟨by omega, loop_next (i + 1) 3 ⟨by omega, ?_⟩ (by omega) ?_ ?_⟩⟩
    · rw [h1, Bool.true_or] at ho
      rw [← ho, Bool.cond_true] at hK
      refine .sel [0, 1] (by simp) (by simp) rfl (.done ?_)
      simpa -dsimp [go_sem, isC, isH] using hK
    · rw [h1, Bool.false_or] at ho; exact ho
    · simp -dsimp only [go_sem] <;> simp
    · simp -dsimp only [go_sem, isC] <;> simp
  · have hg : decide ((i : Int) < (l.length : Int)) = false := by simp; omega
    obtain rfl : i = l.length := by omega
    rw [List.drop_length, List.any_nil] at ho
    rw [← ho, Bool.cond_false] at hK
    simp (maxSteps := 1000000) -dsimp only [go_sem, hg, isC]
    refine ⟨by omega, .sel [0, 1] (by simp) (by simp) rfl (.done ?_)⟩
    simpa -dsimp [go_sem, isC, isH] using hK
end Go.Proofs.YtbolanmlngjdoaaGreat
namespace Go.Proofs.YtbolanmlngjdoaaGreat
open Go.W
noncomputable def wFn : Fun := ⟨sPre, wdVal, fun av h => by obtain ⟨a, b, rfl, _⟩ := sPre_open h; trivial⟩
attribute [go_sem] wFn
theorem mWidens : Meets Tryz.prog 61 wFn.sp := meets_all 0 mWidens' fun av H K ⟨⟨h, e⟩, hK⟩ => by
  obtain ⟨a, b, rfl, ha, hb⟩ := sPre_open h
  exact ⟨a.h, ⟨⟨⟨isTy_mk ha, isTy_mk hb, by rw [ty_dec]; exact Nat.le_refl _⟩, e⟩, hK⟩⟩
structure StG (a : St) : Prop where
  ok : a.ok
  len : a.fs.length ≤ 1000
  sm : ∀ f ∈ a.fs, TySm f.ty
def iuSpS : W.Spec := fun av H K => ∃ (nm : ByteArray) (a b : St) (l : List Is), av = [.va (.c1 (.pt 0 0)), tS nm, .va (.gs (stC a)), .va (.gs (stC b))] ∧ H = isH l ∧ StG a ∧ StG b ∧ l.length ≤ 900000 ∧ K (.tu []) (isH (addA l (cmpS nm a b)))
theorem ius_use {nm : ByteArray} {a b : St} {l : List Is} {K : S → Hp → Prop} (h1 : StG a) (h2 : StG b) (h3 : l.length ≤ 900000) (hK : K (.tu []) (isH (addA l (cmpS nm a b)))) : iuSpS [.va (.c1 (.pt 0 0)), tS nm, .va (.gs (stC a)), .va (.gs (stC b))] (isH l) K := ⟨nm, a, b, l, rfl, rfl, h1, h2, h3, hK⟩
theorem fm_next {α β : Type} {l : List α} {i : Nat} {x : α} (h : l[i]? = some x) (f : α → List β) : (l.take (i + 1)).flatMap f = (l.take i).flatMap f ++ f x := by rw [take_next h]; simp
theorem fm_take_le {α β : Type} {f : α → List β} {k : Nat} (h : ∀ a, (f a).length ≤ k) (l : List α) (i : Nat) : ((l.take i).flatMap f).length ≤ l.length * k := Nat.le_trans (fm_le fun a _ => h a) (Nat.mul_le_mul_right k (by rw [List.length_take]; omega))
theorem flC_isTy {f : Fl} (h : f.ok) : isTy [.vl (.int .i64 f.ty.k), .vl (.int .i64 f.ty.s), .vl (.string f.ty.n), .fz (f.ty.e.map tyC)] := by rw [← tyC_eq]; exact isTy_mk h.ty
theorem flC_dTy (f : Fl) : C.ty [.vl (.int .i64 f.ty.k), .vl (.int .i64 f.ty.s), .vl (.string f.ty.n), .fz (f.ty.e.map tyC)] = f.ty := by rw [← tyC_eq, ty_dec]
set_option maxRecDepth 100000 in
set_option maxHeartbeats 4000000 in
theorem mStructs : Meets Tryz.prog 22 iuSpS := by
  refine meets_fn Tryz.func22 ok22 4 (by rw [Tryz.ntmps22]; decide) (meetsAll_s mAdd (meetsAll_s mFieldOfP (meetsAll_f mWidens (meetsAll_nil _)))) (fun av H K h => by obtain ⟨_, _, _, _, rfl, _⟩ := h; rfl) ?_
  rintro av H K ⟨nm, a, b, l, rfl, rfl, ga, gb, hl, hK⟩
  have hla := ga.len
  have hlb := gb.len
  simp (maxSteps := 1000000) -dsimp only [go_sem, stC, pc22, rs22]
  have hbd : ∀ i, (addA l ((a.fs.take i).flatMap (isA nm b))).length ≤ 910000 := fun i => by
    have h1 := addA_len ((a.fs.take i).flatMap (isA nm b)) l
    have h2 := fm_take_le (isA_len nm b) a.fs i
    omega
  refine vc_loop (α := Nat) (fun i => [(0, .va (.c1 (.pt 0 0))), (1, tS nm), (6, .va (.c1 (.pt 2 0))), (7, .va (.c1 (.pt 3 0))), (17, .va (.c1 (.fz (a.fs.map flC)))), (18, iS .i64 a.fs.length), (19, iS .i64 i)]) (fun i => [.cells [.sl 1 (addA l ((a.fs.take i).flatMap (isA nm b))).length] 53, .row ((addA l ((a.fs.take i).flatMap (isA nm b))).map isC) 33 3, .cells (stC a) 37, .cells (stC b) 37])
    (fun i => i ≤ a.fs.length) (fun i => a.fs.length - i) 0 4 (Nat.zero_le _) ?_ ?_ ?_
  · simp -dsimp only [go_sem] <;> simp
  · simp -dsimp only [go_sem, stC] <;> simp [addA]
  intro i hi
  have hbi := hbd i
  rcases Nat.lt_or_ge i a.fs.length with hlt | hge
  · have hg : decide ((i : Int) < (a.fs.length : Int)) = true := by simp; omega
    obtain ⟨f, hx⟩ : ∃ t, a.fs[i]? = some t := ⟨_, List.getElem?_eq_getElem hlt⟩
    have q1 := row_rg' (row := flC) hx
    have hfm := List.mem_of_getElem? hx
    have hnx : addA l ((a.fs.take (i + 1)).flatMap (isA nm b)) = addA (addA l ((a.fs.take i).flatMap (isA nm b))) (isA nm b f) := by rw [fm_next hx, addA_app]
    generalize hL : addA l ((a.fs.take i).flatMap (isA nm b)) = L at *
    have hft := flC_isTy (ga.ok.fs f hfm)
    have hfd := flC_dTy f
    simp (maxSteps := 1000000) -dsimp only [go_sem, hg, ↓q1, stC, flC]
    refine ⟨by omega, fop_use (t := b) gb.ok gb.sm ?_⟩
    cases hfo : fF b.fs f.num with
    | none =>
      cases ho : f.opt with
      | true =>
        have hv : isA nm b f = [] := by unfold isA; rw [hfo]; simp [ho]
        rw [hv, addA_nil] at hnx
        simp (maxSteps := 1000000) -dsimp only [go_sem, Option.getD_none, Option.isSome_none, flC_def]
        refine ⟨by omega, loop_next (i + 1) 4 (by omega) (by omega) ?_ ?_⟩
        · simp -dsimp only [go_sem] <;> simp
        · simp -dsimp only [go_sem, stC, hnx] <;> simp
      | false =>
        have hv : isA nm b f = [⟨2, f.num, nm⟩] := by unfold isA; rw [hfo]; simp [ho]
        rw [hv, addA_one] at hnx
        simp (maxSteps := 1000000) -dsimp only [go_sem, Option.getD_none, Option.isSome_none, flC_def]
        refine ad_use (l := L) (by omega) ?_
        simp (maxSteps := 1000000) -dsimp only [go_sem]
        refine ⟨by omega, loop_next (i + 1) 4 (by omega) (by omega) ?_ ?_⟩
        · simp -dsimp only [go_sem] <;> simp
        · simp -dsimp only [go_sem, stC, hnx] <;> simp
    | some g =>
      have hgm := (fF_some hfo).1
      have hgt := flC_isTy (gb.ok.fs g hgm)
      have hgd := flC_dTy g
      have hv : isA nm b f = (bif widF f.ty g.ty then [] else [⟨1, f.num, nm⟩]) ++ (bif f.opt == g.opt then [] else [⟨3, f.num, nm⟩]) := by unfold isA; rw [hfo]
      rw [hv] at hnx
      have eo : (f.opt != g.opt) = !(f.opt == g.opt) := rfl
      have hl1 := addF_len L ⟨1, f.num, nm⟩
      cases hw : widF f.ty g.ty with
      | true =>
        cases he : f.opt == g.opt with
        | true =>
          rw [hw, he] at hnx
          simp only [Bool.cond_true, List.append_nil, addA_nil] at hnx
          simp (maxSteps := 1000000) -dsimp only [go_sem, Option.getD_some, Option.isSome_some, flC, hft, hfd, hgt, hgd, hw, he, Bool.not_true]
          refine ⟨by omega, loop_next (i + 1) 4 (by omega) (by omega) ?_ ?_⟩
          · simp -dsimp only [go_sem] <;> simp
          · simp -dsimp only [go_sem, stC, hnx] <;> simp
        | false =>
          rw [hw, he] at hnx
          simp only [Bool.cond_true, Bool.cond_false, List.nil_append, addA_one] at hnx
          simp (maxSteps := 1000000) -dsimp only [go_sem, Option.getD_some, Option.isSome_some, flC, hft, hfd, hgt, hgd, hw, he, Bool.not_true, Bool.not_false]
          refine ad_use (l := L) (by omega) ?_
          simp (maxSteps := 1000000) -dsimp only [go_sem]
          refine ⟨by omega, loop_next (i + 1) 4 (by omega) (by omega) ?_ ?_⟩
          · simp -dsimp only [go_sem] <;> simp
          · simp -dsimp only [go_sem, stC, hnx] <;> simp
      | false =>
        cases he : f.opt == g.opt with
        | true =>
          rw [hw, he] at hnx
          simp only [Bool.cond_true, Bool.cond_false, List.append_nil, addA_one] at hnx
          simp (maxSteps := 1000000) -dsimp only [go_sem, Option.getD_some, Option.isSome_some, flC, hft, hfd, hgt, hgd, hw, he, Bool.not_true, Bool.not_false]
          refine ad_use (l := L) (by omega) ?_
          simp (maxSteps := 1000000) -dsimp only [go_sem]
          refine ⟨by omega, loop_next (i + 1) 4 (by omega) (by omega) ?_ ?_⟩
          · simp -dsimp only [go_sem] <;> simp
          · simp -dsimp only [go_sem, stC, hnx] <;> simp
        | false =>
          rw [hw, he] at hnx
          simp only [Bool.cond_false, List.singleton_append] at hnx
          rw [show addA L [⟨1, f.num, nm⟩, ⟨3, f.num, nm⟩] = addF (addF L ⟨1, f.num, nm⟩) ⟨3, f.num, nm⟩ from rfl] at hnx
          simp (maxSteps := 1000000) -dsimp only [go_sem, Option.getD_some, Option.isSome_some, flC, hft, hfd, hgt, hgd, hw, he, Bool.not_true, Bool.not_false]
          refine ad_use (l := L) (by omega) ?_
          simp (maxSteps := 1000000) -dsimp only [go_sem]
          refine ad_use (l := addF L ⟨1, f.num, nm⟩) (by omega) ?_
          simp (maxSteps := 1000000) -dsimp only [go_sem]
          refine ⟨by omega, loop_next (i + 1) 4 (by omega) (by omega) ?_ ?_⟩
          · simp -dsimp only [go_sem] <;> simp
          · simp -dsimp only [go_sem, stC, hnx] <;> simp
  · have hg : decide ((i : Int) < (a.fs.length : Int)) = false := by simp; omega
    obtain rfl : i = a.fs.length := by omega
    rw [List.take_length] at hbi ⊢
    have hcs : addA l (cmpS nm a b) = addA (addA l (a.fs.flatMap (isA nm b))) (b.fs.flatMap (isB nm a)) := by rw [cmpS, addA_app]
    rw [hcs] at hK
    clear hcs hbd
    generalize addA l (a.fs.flatMap (isA nm b)) = L at *
    simp (maxSteps := 1000000) -dsimp only [go_sem, hg, stC]
    have hbd : ∀ i, (addA L ((b.fs.take i).flatMap (isB nm a))).length ≤ 920000 := fun i => by
      have h1 := addA_len ((b.fs.take i).flatMap (isB nm a)) L
      have h2 := fm_take_le (isB_len nm a) b.fs i
      omega
    refine vc_loop (α := Nat) (fun i => [(0, .va (.c1 (.pt 0 0))), (1, tS nm), (6, .va (.c1 (.pt 2 0))), (7, .va (.c1 (.pt 3 0))), (63, .va (.c1 (.fz (b.fs.map flC)))), (64, iS .i64 b.fs.length), (65, iS .i64 i)]) (fun i => [.cells [.sl 1 (addA L ((b.fs.take i).flatMap (isB nm a))).length] 53, .row ((addA L ((b.fs.take i).flatMap (isB nm a))).map isC) 33 3, .cells (stC a) 37, .cells (stC b) 37])
      (fun i => i ≤ b.fs.length) (fun i => b.fs.length - i) 0 4 (Nat.zero_le _) ?_ ?_ ?_
    · simp -dsimp only [go_sem] <;> simp
    · simp -dsimp only [go_sem, stC] <;> simp [addA]
    intro i hi
    have hbi := hbd i
    rcases Nat.lt_or_ge i b.fs.length with hlt | hge
    · have hg : decide ((i : Int) < (b.fs.length : Int)) = true := by simp; omega
      obtain ⟨f, hx⟩ : ∃ t, b.fs[i]? = some t := ⟨_, List.getElem?_eq_getElem hlt⟩
      have q1 := row_rg' (row := flC) hx
      have hnx : addA L ((b.fs.take (i + 1)).flatMap (isB nm a)) = addA (addA L ((b.fs.take i).flatMap (isB nm a))) (isB nm a f) := by rw [fm_next hx, addA_app]
      generalize hL : addA L ((b.fs.take i).flatMap (isB nm a)) = M at *
      simp (maxSteps := 1000000) -dsimp only [go_sem, hg, ↓q1, stC, flC]
      refine ⟨by omega, fop_use (t := a) ga.ok ga.sm ?_⟩
      cases hfo : fF a.fs f.num with
      | none =>
        cases ho : f.opt with
        | true =>
          have hv : isB nm a f = [] := by unfold isB; rw [hfo]; simp [ho]
          rw [hv, addA_nil] at hnx
          simp (maxSteps := 1000000) -dsimp only [go_sem, Option.getD_none, Option.isSome_none, flC_def]
          refine ⟨by omega, loop_next (i + 1) 4 (by omega) (by omega) ?_ ?_⟩
          · simp -dsimp only [go_sem] <;> simp
          · simp -dsimp only [go_sem, stC, hnx] <;> simp
        | false =>
          have hv : isB nm a f = [⟨2, f.num, nm⟩] := by unfold isB; rw [hfo]; simp [ho]
          rw [hv, addA_one] at hnx
          simp (maxSteps := 1000000) -dsimp only [go_sem, Option.getD_none, Option.isSome_none, flC_def]
          refine ad_use (l := M) (by omega) ?_
          simp (maxSteps := 1000000) -dsimp only [go_sem]
          refine ⟨by omega, loop_next (i + 1) 4 (by omega) (by omega) ?_ ?_⟩
          · simp -dsimp only [go_sem] <;> simp
          · simp -dsimp only [go_sem, stC, hnx] <;> simp
      | some g =>
        have hv : isB nm a f = [] := by unfold isB; rw [hfo]; simp
        rw [hv, addA_nil] at hnx
        simp (maxSteps := 1000000) -dsimp only [go_sem, Option.getD_some, Option.isSome_some, flC]
        refine ⟨by omega, loop_next (i + 1) 4 (by omega) (by omega) ?_ ?_⟩
        · simp -dsimp only [go_sem] <;> simp
        · simp -dsimp only [go_sem, stC, hnx] <;> simp
    · have hg : decide ((i : Int) < (b.fs.length : Int)) = false := by simp; omega
      obtain rfl : i = b.fs.length := by omega
      rw [List.take_length]
      simp (maxSteps := 1000000) -dsimp only [go_sem, hg, stC]
      refine .sel [0, 1] (by simp) (by simp) rfl (.done ?_)
      simpa -dsimp [go_sem, isH] using hK
end Go.Proofs.YtbolanmlngjdoaaGreat
namespace Go.Proofs.YtbolanmlngjdoaaGreat
open Go.W
def nmSp : W.Spec := fun av H K => ∃ (o n : Sc) (x : ByteArray), av = [.va (.gs (scC o)), .va (.gs (scC n)), tS x] ∧ H = [] ∧ o.fit ∧ n.fit ∧ K (.va (.c1 (.fz ((nmsF o n x).map stR)))) []
theorem nm_use {o n : Sc} {x : ByteArray} {K : S → Hp → Prop} (h1 : o.fit) (h2 : n.fit) (hK : K (.va (.c1 (.fz ((nmsF o n x).map stR)))) []) : nmSp [.va (.gs (scC o)), .va (.gs (scC n)), tS x] [] K := ⟨o, n, x, rfl, rfl, h1, h2, hK⟩
set_option maxRecDepth 100000 in
set_option maxHeartbeats 1000000 in
theorem mNamesE : Meets Tryz.prog 19 nmSp := by
  refine meets_fn Tryz.func19 ok19 3 (by rw [Tryz.ntmps19]; decide) (meetsAll_s mUsesP (meetsAll_f mContainsS (meetsAll_nil _))) (fun av H K h => by obtain ⟨_, _, _, rfl, _⟩ := h; rfl) ?_
  rintro av H K ⟨o, n, x, rfl, rfl, ho, hn, hK⟩
  have ub := usL_bs hn x
  have ul := usL_len ho x
  have dbs := bs_map (usL n x)
  unfold nmsF at hK
  simp (maxSteps := 1000000) -dsimp only [go_sem, scC, pc19, rs19]
  refine usp_use hn ?_
  generalize usL n x = O at *
  simp (maxSteps := 1000000) -dsimp only [go_sem]
  refine usp_use ho ?_
  generalize usL o x = l at *
  simp (maxSteps := 1000000) -dsimp only [go_sem]
  refine vc_loop (α := Nat) (fun i => [(7, .va (.c1 (.sl 2 (x :: (l.take i).filter (inB O)).length))), (8, .va (.c1 (.fz (O.map stR)))), (18, .va (.c1 (.fz (l.map stR)))), (19, iS .i64 l.length), (20, iS .i64 i)]) (fun i => [.cells (scC o) 25, .cells (scC n) 25, .row ((x :: (l.take i).filter (inB O)).map stR) 9 1])
    (fun i => i ≤ l.length) (fun i => l.length - i) 0 3 (Nat.zero_le _) ?_ ?_ ?_
  · simp -dsimp only [go_sem] <;> simp
  · simp -dsimp only [go_sem, scC] <;> simp
  intro i hi
  have hlen : ((l.take i).filter (inB O)).length ≤ 32 := by have := List.length_filter_le (inB O) (l.take i); rw [List.length_take] at this; omega
  rcases Nat.lt_or_ge i l.length with hlt | hge
  · have hg : decide ((i : Int) < (l.length : Int)) = true := by simp; omega
    obtain ⟨y, hx⟩ : ∃ t, l[i]? = some t := ⟨_, List.getElem?_eq_getElem hlt⟩
    have q1 := row_rg' (row := stR) hx
    cases c : inB O y with
    | true =>
      have hnx : (l.take (i + 1)).filter (inB O) = (l.take i).filter (inB O) ++ [y] := by rw [take_next hx]; simp [c]
      simp (maxSteps := 1000000) -dsimp only [go_sem, hg, ↓q1, ub, dbs, c]
      and_intros
      all_goals first
        | omega
        | skip
      refine loop_next (i + 1) 3 (by omega) (by omega) ?_ ?_
      · simp -dsimp only [go_sem, hnx] <;> simp
      · simp -dsimp only [go_sem, hnx, scC] <;> simp
    | false =>
      have hnx : (l.take (i + 1)).filter (inB O) = (l.take i).filter (inB O) := by rw [take_next hx]; simp [c]
      simp (maxSteps := 1000000) -dsimp only [go_sem, hg, ↓q1, ub, dbs, c]
      and_intros
      all_goals first
        | omega
        | skip
      refine loop_next (i + 1) 3 (by omega) (by omega) ?_ ?_
      · simp -dsimp only [go_sem, hnx] <;> simp
      · simp -dsimp only [go_sem, hnx, scC] <;> simp
  · have hg : decide ((i : Int) < (l.length : Int)) = false := by simp; omega
    obtain rfl : i = l.length := by omega
    rw [List.take_length]
    simp (maxSteps := 1000000) -dsimp only [go_sem, hg]
    rw [show (l.filter (inB O)).length + 1 = ((x :: l.filter (inB O)).map stR).length by simp]
    refine .pub 2 _ _ _ rfl (.sel [] (by simp) (by simp [pubH]) rfl (.done ?_))
    simp -dsimp only [go_sem, pubH]
    simpa using hK
end Go.Proofs.YtbolanmlngjdoaaGreat
namespace Go.Proofs
open Go.Shelf
def Tryz.sortIs_ren : Go.Shelf.Ren := ⟨fun | 6 => 25 | 15 => 64 | 14 => 63 | 28 => 104 | 29 => 105 | 20 => 96 | 21 => 97 | 22 => 98 | 23 => 99 | 24 => 100 | 25 => 101 | 26 => 102 | 27 => 103 | 46 => 120 | 47 => 121 | 48 => 122 | 49 => 123 | 50 => 124 | 57 => 143 | n => n, fun | 22 => 28 | 24 => 33 | 25 => 67 | 3 => 3 | 39 => 100 | 0 => 0 | 53 => 138 | 55 => 140 | 4 => 4 | 46 => 131 | 45 => 130 | 50 => 135 | 5 => 5 | 9 => 9 | 66 => 154 | 70 => 158 | 76 => 172 | 77 => 173 | n => n, fun | n => n⟩
theorem Tryz.sortIs : Go.Proofs.SlLaysF0.n6 Tryz.prog Tryz.sortIs_ren := {
  mixed := by kernel_rfl
  f6 := ⟨"slices.SortFunc[[]robotics/evolve.Issue,robotics/evolve.Issue]", by decide, Tryz.func25.trans (congrArg some (by kernel_rfl))⟩
  f14 := ⟨"slices.pdqsortCmpFunc[robotics/evolve.Issue]", by decide, Tryz.func63.trans (congrArg some (by kernel_rfl))⟩
  f15 := Tryz.func64.trans (congrArg some (by kernel_rfl))
  f20 := ⟨"slices.insertionSortCmpFunc[robotics/evolve.Issue]", by decide, Tryz.func96.trans (congrArg some (by kernel_rfl))⟩
  f21 := ⟨"slices.heapSortCmpFunc[robotics/evolve.Issue]", by decide, Tryz.func97.trans (congrArg some (by kernel_rfl))⟩
  f22 := ⟨"slices.breakPatternsCmpFunc[robotics/evolve.Issue]", by decide, Tryz.func98.trans (congrArg some (by kernel_rfl))⟩
  f23 := ⟨"slices.choosePivotCmpFunc[robotics/evolve.Issue]", by decide, Tryz.func99.trans (congrArg some (by kernel_rfl))⟩
  f24 := ⟨"slices.reverseRangeCmpFunc[robotics/evolve.Issue]", by decide, Tryz.func100.trans (congrArg some (by kernel_rfl))⟩
  f25 := ⟨"slices.partialInsertionSortCmpFunc[robotics/evolve.Issue]", by decide, Tryz.func101.trans (congrArg some (by kernel_rfl))⟩
  f26 := ⟨"slices.partitionEqualCmpFunc[robotics/evolve.Issue]", by decide, Tryz.func102.trans (congrArg some (by kernel_rfl))⟩
  f27 := ⟨"slices.partitionCmpFunc[robotics/evolve.Issue]", by decide, Tryz.func103.trans (congrArg some (by kernel_rfl))⟩
  f28 := Tryz.func104.trans (congrArg some (by kernel_rfl))
  f29 := Tryz.func105.trans (congrArg some (by kernel_rfl))
  f46 := ⟨"slices.siftDownCmpFunc[robotics/evolve.Issue]", by decide, Tryz.func120.trans (congrArg some (by kernel_rfl))⟩
  f47 := Tryz.func121.trans (congrArg some (by kernel_rfl))
  f48 := Tryz.func122.trans (congrArg some (by kernel_rfl))
  f49 := ⟨"slices.medianAdjacentCmpFunc[robotics/evolve.Issue]", by decide, Tryz.func123.trans (congrArg some (by kernel_rfl))⟩
  f50 := ⟨"slices.medianCmpFunc[robotics/evolve.Issue]", by decide, Tryz.func124.trans (congrArg some (by kernel_rfl))⟩
  f57 := ⟨"slices.order2CmpFunc[robotics/evolve.Issue]", by decide, Tryz.func143.trans (congrArg some (by kernel_rfl))⟩
  t0 := Tryz.underlying0
  a0 := Tryz.isAgg0
  z0 := Tryz.sizeOf0
  v0 := Tryz.zeroValue0
  t3 := Tryz.underlying3
  a3 := Tryz.isAgg3
  z3 := Tryz.sizeOf3
  v3 := Tryz.zeroValue3
  t4 := Tryz.underlying4
  a4 := Tryz.isAgg4
  z4 := Tryz.sizeOf4
  v4 := Tryz.zeroValue4
  t5 := Tryz.underlying5
  a5 := Tryz.isAgg5
  z5 := Tryz.sizeOf5
  v5 := Tryz.zeroValue5
  t9 := Tryz.underlying9
  a9 := Tryz.isAgg9
  z9 := Tryz.sizeOf9
  v9 := Tryz.zeroValue9
  t22 := Tryz.underlying28
  a22 := Tryz.isAgg28
  z22 := Tryz.sizeOf28
  v22 := Tryz.zeroValue28
  t25 := Tryz.underlying67
  a25 := Tryz.isAgg67
  z25 := Tryz.sizeOf67
  v25 := Tryz.zeroValue67
  t39 := Tryz.underlying100
  a39 := Tryz.isAgg100
  z39 := Tryz.sizeOf100
  v39 := Tryz.zeroValue100
  t45 := Tryz.underlying130
  a45 := Tryz.isAgg130
  z45 := Tryz.sizeOf130
  v45 := Tryz.zeroValue130
  t46 := Tryz.underlying131
  a46 := Tryz.isAgg131
  z46 := Tryz.sizeOf131
  v46 := Tryz.zeroValue131
  t50 := Tryz.underlying135
  a50 := Tryz.isAgg135
  z50 := Tryz.sizeOf135
  v50 := Tryz.zeroValue135
  t53 := Tryz.underlying138
  a53 := Tryz.isAgg138
  z53 := Tryz.sizeOf138
  v53 := Tryz.zeroValue138
  t55 := Tryz.underlying140
  a55 := Tryz.isAgg140
  z55 := Tryz.sizeOf140
  v55 := Tryz.zeroValue140
  t66 := Tryz.underlying154
  a66 := Tryz.isAgg154
  z66 := Tryz.sizeOf154
  v66 := Tryz.zeroValue154
  t70 := Tryz.underlying158
  a70 := Tryz.isAgg158
  z70 := Tryz.sizeOf158
  v70 := Tryz.zeroValue158
  t76 := Tryz.underlying172
  a76 := Tryz.isAgg172
  z76 := Tryz.sizeOf172
  v76 := Tryz.zeroValue172
  t77 := Tryz.underlying173
  a77 := Tryz.isAgg173
  z77 := Tryz.sizeOf173
  v77 := Tryz.zeroValue173 }
def Tryz.lays106_ren : Go.Shelf.Ren := ⟨fun | 106 => 28 | 213 => 65 | 265 => 106 | n => n, fun | 9 => 9 | 3 => 3 | n => n, fun | n => n⟩
theorem Tryz.lays106 : Go.Proofs.Lays.n106 Tryz.prog Tryz.lays106_ren := {
  mixed := by kernel_rfl
  f106 := Tryz.func28.trans (congrArg some (by kernel_rfl))
  f213 := Tryz.func65.trans (congrArg some (by kernel_rfl))
  f265 := Tryz.func106.trans (congrArg some (by kernel_rfl))
  t3 := Tryz.underlying3
  a3 := Tryz.isAgg3
  z3 := Tryz.sizeOf3
  v3 := Tryz.zeroValue3
  t9 := Tryz.underlying9
  a9 := Tryz.isAgg9
  z9 := Tryz.sizeOf9
  v9 := Tryz.zeroValue9 }
end Go.Proofs
namespace Go.Proofs.YtbolanmlngjdoaaGreat
open Go.W Go.Sort Go.RowKit
structure BI (x : Is) : Prop where
  k : -1000 ≤ x.k ∧ x.k ≤ 1000
  n : -1000 ≤ x.n ∧ x.n ≤ 1000
abbrev IsB := {x : Is // BI x}
instance : Inhabited IsB := ⟨⟨⟨0, 0, ByteArray.empty⟩, ⟨by decide, by decide⟩⟩⟩
def encI (x : IsB) : List Value := [.int .i64 x.1.k, .int .i64 x.1.n, .string x.1.t]
def cfI (x y : IsB) : Int := orI (Lib.compareBytes (bl x.1.t) (bl y.1.t)) (x.1.k - y.1.k) (x.1.n - y.1.n)
theorem cmpB_facts : ∀ a b : List UInt8, (Lib.compareBytes a b < 0 ↔ Op.bytesLess a b = true) ∧ (Lib.compareBytes a b = 0 ↔ a = b)
  | [], [] => by simp [Lib.compareBytes, Op.bytesLess]
  | [], _ :: _ => by simp [Lib.compareBytes, Op.bytesLess]
  | _ :: _, [] => by simp [Lib.compareBytes, Op.bytesLess]
  | x :: a, y :: b => by
    have ih := cmpB_facts a b
    unfold Lib.compareBytes Op.bytesLess
    by_cases h1 : x < y
    · have : x ≠ y := fun e => by subst e; exact UInt8.lt_irrefl _ h1
      simp [h1, this]
    · by_cases h2 : y < x
      · have : x ≠ y := fun e => by subst e; exact h1 h2
        simp [h1, h2, this]
      · have : x = y := UInt8.le_antisymm (UInt8.not_lt.1 h2) (UInt8.not_lt.1 h1)
        subst this
        simp [h1, ih.1, ih.2]
theorem ltI_of (x y : IsB) : ltOf cfI x y = ltIB x.1 y.1 := by
  obtain ⟨h1, h2⟩ := cmpB_facts (bl x.1.t) (bl y.1.t)
  rw [Bool.eq_iff_iff, ltIB_iff]
  have hb : Op.bytesLess (bl x.1.t) (bl y.1.t) = true ↔ ltS x.1.t y.1.t := by rw [bless, decide_eq_true_eq]
  have h3 := h1.trans hb
  unfold ltOf cfI orI ltI
  rw [decide_eq_true_eq, ← h3]
  by_cases c : Lib.compareBytes (bl x.1.t) (bl y.1.t) = 0
  · have e : x.1.t = y.1.t := bl_inj (h2.1 c)
    rw [c, if_neg (by simp)]
    by_cases d : x.1.k - y.1.k = 0
    · rw [d, if_neg (by simp)]; simp only [e, true_and]; omega
    · rw [if_pos d]; simp only [e, true_and]; omega
  · have e : x.1.t ≠ y.1.t := fun e => c (h2.2 (by rw [e]))
    rw [if_pos c]
    simp [e]
theorem swoI : SWO (ltOf cfI) where
  irrefl x := by
    rw [ltI_of]
    cases h : ltIB x.1 x.1 with
    | false => rfl
    | true => exact absurd (ltIB_iff.1 h) (ltI_irrefl _)
  trans x y z h1 h2 := by
    rw [ltI_of] at *
    exact ltIB_iff.2 (ltI_trans (ltIB_iff.1 h1) (ltIB_iff.1 h2))
  ntrans x y z h1 h2 := by
    rw [ltI_of] at *
    cases h : ltIB x.1 z.1 with
    | false => rfl
    | true =>
      have h := ltIB_iff.1 h
      have h1 : ¬ ltI x.1 y.1 := fun e => by rw [ltIB_iff.2 e] at h1; cases h1
      have h2 : ¬ ltI y.1 z.1 := fun e => by rw [ltIB_iff.2 e] at h2; cases h2
      by_cases e : x.1 = y.1
      · rw [e] at h; exact absurd h h2
      · exact absurd (ltI_trans (ltI_total h1 e) h) h2
noncomputable def C.is := unC isC
theorem is_dec (x : Is) : C.is (isC x) = x := unC_eq isC_inj x
def rowI (r : List C) : Prop := ∃ x : Is, r = isC x ∧ BI x
noncomputable def ltR (r s : List C) : Bool := ltIB (C.is r) (C.is s)
theorem strCmp (a b : ByteArray) (w : World) : Calls Tryz.prog 28 #[.string a, .string b] w fun e w' => e = .returned (.int .i64 (Lib.compareBytes a.data.toList b.data.toList)) ∧ w' = w := Any.strings_Compare Tryz.lays106 a b w
theorem mSortI : Meets Tryz.prog 25 (srSp 26 33 3 rowI ltR) := by
  refine meets_srt (α := IsB) (enc := encI) (cf := cfI) (R := fun a r => r = isC a.1) (by decide) (by kernel_rfl) (fun _ => rfl) ?_ ?_ ?_ ?_
  · rintro ro r vs ⟨x, rfl, hx⟩ h
    unfold isC at h
    obtain ⟨v0, vs0, rfl, h0, r0⟩ := All2.cons_inv h
    obtain ⟨v1, vs1, rfl, h1, r1⟩ := All2.cons_inv r0
    obtain ⟨v2, vs2, rfl, h2, r2⟩ := All2.cons_inv r1
    obtain rfl := All2.nil_inv r2
    cases h0; cases h1; cases h2
    exact ⟨⟨x, hx⟩, rfl, rfl⟩
  · rintro a r b s rfl rfl
    rw [ltI_of]; unfold ltR; rw [is_dec, is_dec]
  · intro blk cap d w hH hblk hsz
    have eg : ∀ args w, (callFunc 26 args).run Tryz.prog w = .ok (.enter 26 args) w := enters_of Tryz.func26 (by kernel_rfl) rfl
    exact AnyQ.slices_SortFunc Tryz.sortIs 3 Tryz.isAgg33 Tryz.sizeOf33 encI (fun _ => rfl) (fun x v hv => by simp [encI] at hv; rcases hv with rfl | rfl | rfl <;> rfl) cfI swoI 26 #[] blk 0 cap d w eg
      (fun m os dk _ x y => walkCmp strCmp _ _ _ _ _ _ x.2.k x.2.n y.2.k y.2.n _) hH hblk hsz
  · exact fun w => AnyF.slices_SortFunc_none { Tryz.sortIs with } none 0 _ w
theorem sr_use {l : List Is} {K : S → Hp → Prop} (hl : l.length ≤ 1000000000) (hb : ∀ x ∈ l, BI x) (hK : ∀ l' : List Is, l'.Perm l → l'.Pairwise (fun a b => ltIB b a = false) → K (.tu []) [.row (l'.map isC) 33 3]) :
    srSp 26 33 3 rowI ltR [.va (.c1 (.sl 0 l.length)), .va (.c1 (.fn 26 []))] [.row (l.map isC) 33 3] K := by
  refine ⟨l.map isC, by simp, rfl, fun r hr => ?_, by simpa using hl, fun xs' hp hs => ?_⟩
  · obtain ⟨x, hx, rfl⟩ := List.mem_map.1 hr
    exact ⟨x, rfl, hb x hx⟩
  · obtain ⟨l', rfl, h2⟩ := perm_lift hp rfl
    refine hK l' h2 ?_
    rw [List.pairwise_map] at hs
    refine hs.imp fun {a b} h => ?_
    unfold ltR at h
    rwa [is_dec, is_dec] at h
end Go.Proofs.YtbolanmlngjdoaaGreat
namespace Go.Proofs
open Go.Shelf
def Tryz.lays16_ren : Go.Shelf.Ren := ⟨fun | 16 => 40 | n => n, fun | 24 => 54 | n => n, fun | n => n⟩
theorem Tryz.lays16 : Go.Proofs.Lays2.n16 Tryz.prog Tryz.lays16_ren := {
  mixed := by kernel_rfl
  f16 := Tryz.func40.trans (congrArg some (by kernel_rfl))
  t4 := Tryz.underlying4
  a4 := Tryz.isAgg4
  z4 := Tryz.sizeOf4
  v4 := Tryz.zeroValue4
  t9 := Tryz.underlying9
  a9 := Tryz.isAgg9
  z9 := Tryz.sizeOf9
  v9 := Tryz.zeroValue9
  t24 := Tryz.underlying54
  a24 := Tryz.isAgg54
  z24 := Tryz.sizeOf54
  v24 := Tryz.zeroValue54
  i9 := by kernel_rfl }
def Tryz.lays15_ren : Go.Shelf.Ren := ⟨fun | 15 => 41 | n => n, fun | 22 => 58 | n => n, fun | n => n⟩
theorem Tryz.lays15 : Go.Proofs.Lays2.n15 Tryz.prog Tryz.lays15_ren := {
  mixed := by kernel_rfl
  f15 := Tryz.func41.trans (congrArg some (by kernel_rfl))
  t3 := Tryz.underlying3
  a3 := Tryz.isAgg3
  z3 := Tryz.sizeOf3
  v3 := Tryz.zeroValue3
  t4 := Tryz.underlying4
  a4 := Tryz.isAgg4
  z4 := Tryz.sizeOf4
  v4 := Tryz.zeroValue4
  t22 := Tryz.underlying58
  a22 := Tryz.isAgg58
  z22 := Tryz.sizeOf58
  v22 := Tryz.zeroValue58
  i3 := by kernel_rfl }
end Go.Proofs
namespace Go.Proofs.YtbolanmlngjdoaaGreat
open Go.W Go.RowKit
theorem new_any {X : Ctx} {E : Es} {ro : RO} {w w' : World} (h : Rel X E ro w) {blk : B} {g : Gb} (hb : ∀ k, k < w.heap.size → w'.heap[k]? = w.heap[k]?) (hsz : w.heap.size ≤ w'.heap.size)
    (h1 : w'.os = w.os) (h2 : w'.tape = w.tape) (h3 : w'.output = w.output) (hob : ∀ b, g.ob = some b → w.heap.size ≤ b) (hon : blk.On (gm (E ++ [(g, blk)])) ro w' g) : Rel X (E ++ [(g, blk)]) ro w' := by
  have hext : GExt (gm E) (gm (E ++ [(g, blk)])) := gext_app _
  have hget : ∀ (n : Nat) (y : Gb × B), (E ++ [(g, blk)])[n]? = some y → (n = E.length ∧ y = (g, blk)) ∨ (n < E.length ∧ E[n]? = some y) := by
    intro n y hy
    rw [List.getElem?_append] at hy
    split at hy
    · exact .inr ⟨by assumption, hy⟩
    · have : n - E.length = 0 := by
        rcases Nat.eq_zero_or_pos (n - E.length) with h0 | h0
        · exact h0
        · rw [List.getElem?_eq_none (by simp; omega)] at hy; cases hy
      rw [this] at hy
      exact .inl ⟨by omega, by simpa using hy.symm⟩
  have old : ∀ (n k : Nat) (gn : Gb) (bk : B), E[n]? = some (gn, bk) → gn.ob = some k → bk.live = true → k < w.heap.size := fun n k gn bk hy hk hl => (h.own n _ bk hy).lt hl hk
  refine ⟨fun n g' bk hy => ?_, fun n m gn gm bn bm k hy hz en em ln lm => ?_, fun k off c hc n gn bk hy en => ?_, fun k off c hc => ?_, h.ro0, h.rob, fun n k gn bk hy en ln => ?_, h.gx.trans hext, Nat.le_trans h.sz hsz, fun k hk hp => ?_, by rw [h1]; exact h.os, by rw [h2]; exact h.tape, by rw [h3]; exact h.output⟩
  · rcases hget n _ hy with ⟨rfl, he⟩ | ⟨hlt, hy'⟩
    · simp only [Prod.mk.injEq] at he; obtain ⟨rfl, rfl⟩ := he; exact hon
    · by_cases hlv : bk.live = true
      · exact (h.own n g' bk hy').same hext (Ext.refl _) fun k hk => hb k (old n k g' bk hy' hk hlv)
      · cases bk <;> simp [B.live] at hlv; trivial
  · rcases hget n _ hy with ⟨rfl, he⟩ | ⟨hlt, hy'⟩ <;> rcases hget m _ hz with ⟨rfl, he2⟩ | ⟨hlt2, hz'⟩
    · rfl
    · simp only [Prod.mk.injEq] at he; obtain ⟨rfl, rfl⟩ := he; have := old m k gm bm hz' em lm; have := hob k en; omega
    · simp only [Prod.mk.injEq] at he2; obtain ⟨rfl, rfl⟩ := he2; have := old n k gn bn hy' en ln; have := hob k em; omega
    · exact h.inj n m gn gm bn bm k hy' hz' en em ln lm
  · rcases hget n _ hy with ⟨rfl, he⟩ | ⟨hlt, hy'⟩
    · simp only [Prod.mk.injEq] at he; obtain ⟨rfl, rfl⟩ := he; have := h.cell_lt hc; have := hob k en; omega
    · exact h.apart k off c hc n gn bk hy' en
  · have := h.rd k off c hc
    rw [← this]
    simp only [World.cell?, hb k (h.cell_lt hc)]
  · rcases hget n _ hy with ⟨rfl, he⟩ | ⟨hlt, hy'⟩
    · simp only [Prod.mk.injEq] at he; obtain ⟨rfl, rfl⟩ := he; have := hob k en; have := h.sz; exact .inl (by omega)
    · exact h.par n k gn bk hy' en ln
  · rw [hb k (by have := h.sz; omega)]
    exact h.keep k hk hp
theorem row_any {X : Ctx} {ro : RO} {w w' : World} (h : Rel X [] ro w) (hX : X.g0.length = 0) {T : TypeId} {v : Value} {cs : List Value} (hne : cs ≠ []) (_hone : ∀ u ∈ cs, u.oneCell' = true) (ho : w'.ownsRow w.heap.size T 1 v cs.length cs) (hb : Below w.heap.size w w') {K : S → Hp → Prop} (hK : K (.va (.c1 (.fz (cs.map fun u => [C.vl u])))) []) :
    ∃ r' E' ro', K r' (hp E') ∧ r'.rel (gm E') ro' v ∧ Rel X E' ro' w' := by
  have hlen : 0 < cs.length := List.length_pos_iff.2 hne
  obtain ⟨h1, h2⟩ := ho
  rcases h2 with ⟨_, h0⟩ | ⟨b, cap, cur, rfl, hbb, hcell, hcap, hmax, hcs, htk⟩
  · omega
  have hfl : (cs.map fun u => [C.vl u]).flatten = cs.map C.vl := by
    clear h1 hlen hcap htk hK hne _hone
    induction cs with
    | nil => rfl
    | cons x l ih => rw [List.map_cons, List.flatten_cons, ih]; rfl
  let g : Gb := ⟨some b, true, cs.length, cap, T, cs⟩
  have hR : Rel X ([] ++ [(g, .row (cs.map fun u => [C.vl u]) T 1)]) ro w' := by
    refine new_any h (fun k hk => hb.block k hk) hb.size hb.os hb.tape hb.output (fun b' hb' => by cases hb'; exact hbb) ⟨rfl, by simp [g], fun x hx => ?_, fun c hc => ?_, ⟨by simp [g], .inr ⟨b, cap, cur, ?_, Nat.zero_le _, hcell, by simp; exact hcap, hmax, hcs, ?_⟩⟩, ?_, fun b' _ => (by show 0 < cap; omega)⟩
    · obtain ⟨y, _, rfl⟩ := List.mem_map.1 hx; rfl
    · rw [hfl] at hc; obtain ⟨y, _, rfl⟩ := List.mem_map.1 hc; rfl
    · simp [obA, g]
    · rw [List.length_map]; exact htk
    · rw [hfl]
      refine ⟨by simp [g], fun i x y hx hy => ?_⟩
      rw [List.getElem?_map] at hx
      have hy : cs[i]? = some y := hy
      rw [hy] at hx
      cases hx; rfl
  refine fin_sound (X := X) (k0 := 0) hX (r := .va (.c1 (.sl 0 (cs.map fun u => [C.vl u]).length))) (.pub 0 _ T 1 (by rfl) (.sel [] (by simp) (by simp [pubH]) rfl (.done ?_))) rfl ?_ hR
  · simp -dsimp only [go_sem, pubH]; simpa using hK
  · refine ⟨g, rfl, rfl, by simp [g], ⟨_, _, _, rfl⟩, fun _ => ?_⟩
    simp [g, obA]
theorem empty_any {X : Ctx} {ro : RO} {w w' : World} (h : Rel X [] ro w) {o : Option Addr} {c : Nat} (hb : Below w.heap.size w w') {K : S → Hp → Prop} (hK : K (.va (.c1 (.fz []))) []) :
    ∃ r' E' ro', K r' (hp E') ∧ r'.rel (gm E') ro' (.slice o 0 c) ∧ Rel X E' ro' w' :=
  ⟨.va (.c1 (.fz [])), [], ro, hK, FzR.mk (ro := ro) [] 1 none o (fun h => absurd rfl h) c (fun _ => undef) (by simp) (Nat.zero_le _) (by simp) (by simp) (by simp) (by simp) (by simp), h.aside (fun k hk => hb.block k hk) hb.size hb.os hb.tape hb.output⟩
def clSSp : W.Spec := fun av H K => ∃ l : List ByteArray, av = [.va (.c1 (.fz (l.map stR)))] ∧ H = [] ∧ l.length ≤ 1000000000 ∧ K (.va (.c1 (.fz (l.map stR)))) []
theorem clS_use {l : List ByteArray} {K : S → Hp → Prop} (h : l.length ≤ 1000000000) (hK : K (.va (.c1 (.fz (l.map stR)))) []) : clSSp [.va (.c1 (.fz (l.map stR)))] [] K := ⟨l, rfl, rfl, h, hK⟩
theorem clS_flat (l : List ByteArray) : (l.map stR).flatten = (l.map Value.string).map C.vl := by
  induction l with
  | nil => rfl
  | cons x l ih => rw [List.map_cons, List.flatten_cons, ih]; rfl
theorem clS_rows (l : List ByteArray) : (l.map Value.string).map (fun u => [C.vl u]) = l.map stR := by rw [List.map_map]; rfl
theorem mclS : Meets Tryz.prog 40 clSSp := by
  refine ⟨by kernel_rfl, fun av vs E ro w K hlen hrel hR hs => ?_⟩
  obtain ⟨l, rfl, hH, hl, hK⟩ := hs
  match E, hH with
  | [], _ =>
    match vs, hlen with
    | [v0], _ =>
      have r0 : FzR ro (l.map stR) v0 := hrel 0 _ _ rfl rfl
      cases hl0 : l with
      | nil =>
        subst hl0
        generalize hx : ([] : List ByteArray).map stR = xs at r0
        cases r0 with
        | mk xs sz o oa hoa cap us hz hc ho h1 h2 h3 h4 =>
          subst hx
          have hK : K (.va (.c1 (.fz []))) [] := hK
          cases oa with
          | none =>
            refine (Any.slices_Clone_string_nil Tryz.lays16 0 cap w).mono ?_
            rintro e w' ⟨rfl, rfl⟩
            obtain ⟨r', E', ro', a1, a2, a3⟩ := empty_any (o := none) (c := 0) hR (Below.refl _ _) hK
            exact ⟨r', _, E', ro', rfl, a2, a1, a3⟩
          | some a =>
            refine (Any.slices_Clone_string_zero Tryz.lays16 a cap w).mono ?_
            rintro e w' ⟨v', rfl, hown, _, hb⟩
            obtain ⟨o', c', rfl⟩ : ∃ o' c', v' = .slice o' 0 c' := by
              rcases hown.2 with ⟨rfl, _⟩ | ⟨b, c', cur, rfl, _⟩
              · exact ⟨none, 0, rfl⟩
              · exact ⟨_, c', rfl⟩
            obtain ⟨r', E', ro', a1, a2, a3⟩ := empty_any (o := o') (c := c') hR hb hK
            exact ⟨r', _, E', ro', rfl, a2, a1, a3⟩
      | cons x0 lt =>
        have hne : l ≠ [] := by rw [hl0]; exact List.cons_ne_nil _ _
        clear hl0
        generalize hx : l.map stR = xs at r0
        cases r0 with
        | mk xs sz o oa hoa cap us hz hc ho h1 h2 h3 h4 =>
          subst hx
          have hne2 : l.map stR ≠ [] := by simpa using hne
          obtain ⟨⟨b, off⟩, rfl⟩ := Option.isSome_iff_exists.1 (ho hne2)
          obtain rfl := hoa hne2
          have hcell : ∀ j, j < l.length → w.cell? ⟨b, off + j, none⟩ = some (Value.string (l.getD j ByteArray.empty)) := fun j hj => by
            have hf : (l.map stR).flatten[j]? = some (.vl (Value.string (l.getD j ByteArray.empty))) := by
              rw [clS_flat, List.getElem?_map, List.getElem?_map, List.getElem?_eq_getElem hj]
              simp [hj]
            have e1 := h1 j _ hf
            have e2 := h2 j _ hf
            rw [e2] at e1
            exact hR.rd b (off + j) _ e1
          have key := Any.slices_Clone_string Tryz.lays16 b off l.length cap l w (Nat.le_refl _) (by omega) hcell
          rw [List.take_length] at key
          rw [List.length_map]
          refine key.mono ?_
          rintro e w' ⟨v', rfl, hown, _, hb⟩
          rw [← List.length_map (f := Value.string)] at hown
          obtain ⟨r', E', ro', a1, a2, a3⟩ := row_any hR rfl (cs := l.map Value.string) (by simpa using hne) (fun u hu => by obtain ⟨y, _, rfl⟩ := List.mem_map.1 hu; rfl) hown hb (by rw [clS_rows]; exact hK)
          exact ⟨r', _, E', ro', rfl, a2, a1, a3⟩
def clISp : W.Spec := fun av H K => ∃ l : List Int, av = [.va (.c1 (.fz (l.map inR)))] ∧ H = [] ∧ l.length ≤ 1000000000 ∧ K (.va (.c1 (.fz (l.map inR)))) []
theorem clI_use {l : List Int} {K : S → Hp → Prop} (h : l.length ≤ 1000000000) (hK : K (.va (.c1 (.fz (l.map inR)))) []) : clISp [.va (.c1 (.fz (l.map inR)))] [] K := ⟨l, rfl, rfl, h, hK⟩
theorem clI_flat (l : List Int) : (l.map inR).flatten = (l.map (Value.int .i64)).map C.vl := by
  induction l with
  | nil => rfl
  | cons x l ih => rw [List.map_cons, List.flatten_cons, ih]; rfl
theorem clI_rows (l : List Int) : (l.map (Value.int .i64)).map (fun u => [C.vl u]) = l.map inR := by rw [List.map_map]; rfl
theorem mclI : Meets Tryz.prog 41 clISp := by
  refine ⟨by kernel_rfl, fun av vs E ro w K hlen hrel hR hs => ?_⟩
  obtain ⟨l, rfl, hH, hl, hK⟩ := hs
  match E, hH with
  | [], _ =>
    match vs, hlen with
    | [v0], _ =>
      have r0 : FzR ro (l.map inR) v0 := hrel 0 _ _ rfl rfl
      cases hl0 : l with
      | nil =>
        subst hl0
        generalize hx : ([] : List Int).map inR = xs at r0
        cases r0 with
        | mk xs sz o oa hoa cap us hz hc ho h1 h2 h3 h4 =>
          subst hx
          have hK : K (.va (.c1 (.fz []))) [] := hK
          cases oa with
          | none =>
            refine (Any.slices_Clone_int_nil Tryz.lays15 0 cap w).mono ?_
            rintro e w' ⟨rfl, rfl⟩
            obtain ⟨r', E', ro', a1, a2, a3⟩ := empty_any (o := none) (c := 0) hR (Below.refl _ _) hK
            exact ⟨r', _, E', ro', rfl, a2, a1, a3⟩
          | some a =>
            refine (Any.slices_Clone_int_zero Tryz.lays15 a cap w).mono ?_
            rintro e w' ⟨v', rfl, hown, _, hb⟩
            obtain ⟨o', c', rfl⟩ : ∃ o' c', v' = .slice o' 0 c' := by
              rcases hown.2 with ⟨rfl, _⟩ | ⟨b, c', cur, rfl, _⟩
              · exact ⟨none, 0, rfl⟩
              · exact ⟨_, c', rfl⟩
            obtain ⟨r', E', ro', a1, a2, a3⟩ := empty_any (o := o') (c := c') hR hb hK
            exact ⟨r', _, E', ro', rfl, a2, a1, a3⟩
      | cons x0 lt =>
        have hne : l ≠ [] := by rw [hl0]; exact List.cons_ne_nil _ _
        clear hl0
        generalize hx : l.map inR = xs at r0
        cases r0 with
        | mk xs sz o oa hoa cap us hz hc ho h1 h2 h3 h4 =>
          subst hx
          have hne2 : l.map inR ≠ [] := by simpa using hne
          obtain ⟨⟨b, off⟩, rfl⟩ := Option.isSome_iff_exists.1 (ho hne2)
          obtain rfl := hoa hne2
          have hcell : ∀ j, j < l.length → w.cell? ⟨b, off + j, none⟩ = some (Value.int .i64 (l.getD j 0)) := fun j hj => by
            have hf : (l.map inR).flatten[j]? = some (.vl (Value.int .i64 (l.getD j 0))) := by
              rw [clI_flat, List.getElem?_map, List.getElem?_map, List.getElem?_eq_getElem hj]
              simp [hj]
            have e1 := h1 j _ hf
            have e2 := h2 j _ hf
            rw [e2] at e1
            exact hR.rd b (off + j) _ e1
          have key := Any.slices_Clone_int Tryz.lays15 b off l.length cap l w (Nat.le_refl _) (by omega) hcell
          rw [List.take_length] at key
          rw [List.length_map]
          refine key.mono ?_
          rintro e w' ⟨v', rfl, hown, _, hb⟩
          rw [← List.length_map (f := (Value.int .i64))] at hown
          obtain ⟨r', E', ro', a1, a2, a3⟩ := row_any hR rfl (cs := l.map (Value.int .i64)) (by simpa using hne) (fun u hu => by obtain ⟨y, _, rfl⟩ := List.mem_map.1 hu; rfl) hown hb (by rw [clI_rows]; exact hK)
          exact ⟨r', _, E', ro', rfl, a2, a1, a3⟩
end Go.Proofs.YtbolanmlngjdoaaGreat
namespace Go.Proofs.YtbolanmlngjdoaaGreat
open Go.W
set_option maxRecDepth 100000 in
theorem mEnumP : Meets Tryz.prog 23 enSpP := by
  refine meets_fn Tryz.func23 ok23 2 (by rw [Tryz.ntmps23]; decide) (meetsAll_s mclS (meetsAll_s mclI (meetsAll_nil _))) (fun av H K h => by obtain ⟨_, _, rfl, _⟩ := h; rfl) ?_
  rintro av H K ⟨s, n, rfl, rfl, hs, hK⟩
  rw [← fEn_has] at hK
  have hl := hs.ok.le
  simp -dsimp only [go_sem, scC, pc23, rs23]
  refine vc_loop (α := Nat) (fun i => [(1, tS n), (2, .va (.c1 (.pt 0 0))), (4, .va (.c1 (.pt 1 0))), (9, .va (.c1 (.fz (s.es.map enC)))), (10, iS .i64 s.es.length), (11, iS .i64 i)]) (fun _ => [.cells (scC s) 25, .cells [.vl (.string (mk [])), .vl (.slice none 0 0), .vl (.slice none 0 0)] 60])
    (fun i => i ≤ s.es.length ∧ fEn (s.es.drop i) n = fEn s.es n) (fun i => s.es.length - i) 0 2 ⟨Nat.zero_le _, rfl⟩ ?_ ?_ ?_
  · simp [go_sem]
  · simp [go_sem, scC]
  rintro i ⟨hi, ho⟩
  rcases Nat.lt_or_ge i s.es.length with hlt | hge
  · have hg : decide ((i : Int) < (s.es.length : Int)) = true := by simp; omega
    obtain ⟨t, hx⟩ : ∃ e, s.es[i]? = some e := ⟨_, List.getElem?_eq_getElem hlt⟩
    have q2 := row_rg' (row := enC) hx
    have htm := List.mem_of_getElem? hx
    rw [fEn, fnd_step hx] at ho
    cases hc : decide (t.nm = n) with
    | true =>
      rw [hc, Bool.cond_true] at ho
      rw [← ho] at hK
      simp (maxSteps := 1000000) -dsimp only [go_sem, hg, ↓q2, enC, scC, bl_beq, hc]
      refine ⟨by omega, clS_use (hs.en t htm).1 ?_⟩
      simp (maxSteps := 1000000) -dsimp only [go_sem]
      refine clI_use (hs.en t htm).2 ?_
      simp (maxSteps := 1000000) -dsimp only [go_sem]
      exact .sel [] (by simp) (by simp) rfl (.done (by simpa [go_sem, enC] using hK))
    | false =>
      rw [hc, Bool.cond_false] at ho
      simp (maxSteps := 1000000) -dsimp only [go_sem, hg, ↓q2, enC, scC, bl_beq, hc]
      refine ⟨by omega, by omega, loop_next (i + 1) 2 ⟨by omega, ho⟩ (by omega) ?_ ?_⟩
      · simp [go_sem]
      · simp [go_sem, scC]
  · have hg : decide ((i : Int) < (s.es.length : Int)) = false := by simp; omega
    obtain rfl : i = s.es.length := by omega
    rw [List.drop_length] at ho
    rw [← ho] at hK
    simp -dsimp only [go_sem, hg, scC]
    exact .sel [] (by simp) (by simp) rfl (.done (by simpa [go_sem, fEn, enC_def] using hK))
end Go.Proofs.YtbolanmlngjdoaaGreat
namespace Go.Proofs.YtbolanmlngjdoaaGreat
open Go.W
theorem raw_BI {o n : Sc} (ho : o.fit) (hn : n.fit) (c1 : checkF o = 0) (c2 : checkF n = 0) (x : ByteArray) : ∀ z ∈ rawI o n x, BI z := by
  intro z hz
  unfold rawI at hz
  obtain ⟨y, _, hy⟩ := List.mem_flatMap.1 hz
  unfold cmpN at hy
  cases h1 : hasS o.ss y != hasS n.ss y with
  | true =>
    rw [h1] at hy
    obtain rfl : z = ⟨5, 0, y⟩ := by simpa using hy
    exact ⟨by dsimp only; omega, by dsimp only; omega⟩
  | false =>
    rw [h1, Bool.cond_false, List.mem_append] at hy
    rcases hy with hy | hy
    · cases h2 : hasS o.ss y with
      | false => rw [h2] at hy; cases hy
      | true =>
        have h3 : hasS n.ss y = true := by rw [h2] at h1; simpa using h1
        obtain ⟨t, e1, _, _, _, e3⟩ := str_good ho c1 h2
        obtain ⟨u, e4, _, _, _, e5⟩ := str_good hn c2 h3
        rw [h2, e1, e4] at hy
        simp only [Bool.cond_true, Option.getD_some, cmpS, List.mem_append, List.mem_flatMap] at hy
        rcases hy with ⟨f, hf, hy⟩ | ⟨f, hf, hy⟩
        · have hb := (e3 f hf).1
          have : z.n = f.num ∧ 1 ≤ z.k ∧ z.k ≤ 3 := by
            unfold isA at hy
            split at hy
            · cases ho' : f.opt <;> rw [ho'] at hy
              · obtain rfl := List.mem_singleton.1 hy; exact ⟨rfl, by dsimp only; omega, by dsimp only; omega⟩
              · cases hy
            · rename_i g _
              rcases List.mem_append.1 hy with hy | hy
              · cases hw : widF f.ty g.ty <;> rw [hw] at hy
                · obtain rfl := List.mem_singleton.1 hy; exact ⟨rfl, by dsimp only; omega, by dsimp only; omega⟩
                · cases hy
              · cases hw : f.opt == g.opt <;> rw [hw] at hy
                · obtain rfl := List.mem_singleton.1 hy; exact ⟨rfl, by dsimp only; omega, by dsimp only; omega⟩
                · cases hy
          exact ⟨by omega, by omega⟩
        · have hb := (e5 f hf).1
          unfold isB at hy
          cases hw : (fF t.fs f.num).isNone && !f.opt <;> rw [hw] at hy
          · cases hy
          · obtain rfl := List.mem_singleton.1 hy
            exact ⟨by dsimp only; omega, by show -1000 ≤ f.num ∧ f.num ≤ 1000; omega⟩
    · cases h2 : hasE o.es y && hasE n.es y with
      | false => rw [h2] at hy; cases hy
      | true =>
        rw [h2, Bool.cond_true, cmpE, cmpV, List.mem_map] at hy
        obtain ⟨v, hv, rfl⟩ := hy
        have hv := (List.mem_filter.1 hv).1
        refine ⟨by show -1000 ≤ (4 : Int) ∧ (4 : Int) ≤ 1000; omega, ?_⟩
        show -1000 ≤ v ∧ v ≤ 1000
        cases hf : fEn o.es y with
        | none => rw [hf] at hv; cases hv
        | some e =>
          rw [hf] at hv
          have := enu_vs ho c1 hf v hv
          omega
theorem stG_of {s : Sc} (hf : s.fit) (h : checkF s = 0) (n : ByteArray) : StG ((fS s.ss n).getD default) := by
  cases hs : fS s.ss n with
  | none => exact ⟨⟨by decide, by decide, fun _ h => (List.not_mem_nil h).elim⟩, by decide, fun _ h => (List.not_mem_nil h).elim⟩
  | some t =>
    have hh : hasS s.ss n = true := by rw [← fS_has, hs]; rfl
    obtain ⟨u, e1, e2, _, e3, _⟩ := str_good hf h hh
    rw [e1] at hs
    cases hs
    exact ⟨hf.ok.ss t e2, by show t.fs.length ≤ 1000; omega, (hf.sm t e2).2⟩
theorem enL_of {s : Sc} (hf : s.fit) (h : checkF s = 0) (n : ByteArray) : ((fEn s.es n).getD default).vs.length ≤ 16 := by
  cases hs : fEn s.es n with
  | none => exact Nat.zero_le _
  | some e => have := enu_good hf h hs; show e.vs.length ≤ 16; omega
theorem cmpV_len (nm : ByteArray) (vs : List Int) (e : En) : (cmpV nm vs e).length ≤ vs.length := by
  unfold cmpV; rw [List.length_map]; exact List.length_filter_le _ _
theorem cmpN_len {o n : Sc} (ho : o.fit) (hn : n.fit) (c1 : checkF o = 0) (c2 : checkF n = 0) (y : ByteArray) : (cmpN o n y).length ≤ 4000 := by
  unfold cmpN
  cases hasS o.ss y != hasS n.ss y with
  | true => simp
  | false =>
    have g1 := (stG_of ho c1 y).len
    have g2 := (stG_of hn c2 y).len
    have h1 := fm_le (f := isA y ((fS n.ss y).getD default)) (l := ((fS o.ss y).getD default).fs) fun a _ => isA_len y _ a
    have h2 := fm_le (f := isB y ((fS o.ss y).getD default)) (l := ((fS n.ss y).getD default).fs) fun a _ => isB_len y _ a
    have h3 := enL_of ho c1 y
    have h4 := cmpV_len y ((fEn o.es y).getD default).vs ((fEn n.es y).getD default)
    rw [Bool.cond_false, List.length_append]
    cases hasS o.ss y <;> cases (hasE o.es y && hasE n.es y) <;> simp only [Bool.cond_true, Bool.cond_false, cmpS, cmpE, List.length_append, List.length_nil] <;> omega
theorem cmpV_next {vs : List Int} {j : Nat} {v : Int} (h : vs[j]? = some v) (nm : ByteArray) (e : En) : cmpV nm (vs.take (j + 1)) e = cmpV nm (vs.take j) e ++ (bif inI e.vs v then [] else [⟨4, v, nm⟩]) := by
  have hI : inI e.vs v = e.vs.any (fun w => decide (v = w)) := rfl
  unfold cmpV
  rw [take_next h, List.filter_append, List.map_append, hI]
  cases hh : e.vs.any (fun w => decide (v = w)) with
  | true => rw [List.filter_cons_of_neg (by rw [hh]; simp)]; rfl
  | false => rw [List.filter_cons_of_pos (by rw [hh]; rfl)]; rfl
theorem cmpV_nil (nm : ByteArray) (e : En) : cmpV nm [] e = [] := rfl
theorem bif_nil {b : Bool} : (bif b then ([] : List Is) else []) = [] := by cases b <;> rfl
def iuSp : W.Spec := fun av H K => ∃ (o n : Sc) (x : ByteArray), av = [.va (.gs (scC o)), .va (.gs (scC n)), tS x] ∧ H = [] ∧ o.fit ∧ n.fit ∧ K (.va (.c1 (.fz ((issF o n x).map isC)))) []
theorem iu_use {o n : Sc} {x : ByteArray} {K : S → Hp → Prop} (h1 : o.fit) (h2 : n.fit) (hK : K (.va (.c1 (.fz ((issF o n x).map isC)))) []) : iuSp [.va (.gs (scC o)), .va (.gs (scC n)), tS x] [] K := ⟨o, n, x, rfl, rfl, h1, h2, hK⟩
end Go.Proofs.YtbolanmlngjdoaaGreat
namespace Go.Proofs.YtbolanmlngjdoaaGreat
open Go.W
def sortBy {α : Type} (g : α → Int) (l : List α) : List α := l.mergeSort fun x y => decide (g x ≤ g y)
theorem asc_of {α : Type} {g : α → Int} {l' l : List α} (hp : l'.Perm l) (hs : l'.Pairwise fun a b => ¬ g b < g a) (hn : (l.map g).Nodup) : l'.Pairwise fun a b => g a < g b := by
  have hn' : (l'.map g).Nodup := (hp.map g).nodup_iff.2 hn
  unfold List.Nodup at hn'
  rw [List.pairwise_map] at hn'
  exact List.Pairwise.imp₂ (fun a b h1 h2 => by omega) hs hn'
theorem sortBy_perm {α : Type} (g : α → Int) (l : List α) : (sortBy g l).Perm l := List.mergeSort_perm _ _
theorem sortBy_sorted {α : Type} (g : α → Int) (l : List α) : (sortBy g l).Pairwise fun a b => ¬ g b < g a := by
  have h := List.pairwise_mergeSort (le := fun x y : α => decide (g x ≤ g y)) (fun a b c h1 h2 => by simp at *; omega) (fun a b => by simp; omega) l
  refine h.imp fun {a b} h => ?_
  simp at h; omega
theorem sort_unique {α : Type} {g : α → Int} {l' l : List α} (hp : l'.Perm l) (hs : l'.Pairwise fun a b => ¬ g b < g a) (hn : (l.map g).Nodup) : l' = sortBy g l := by
  have h1 := asc_of hp hs hn
  have h2 := asc_of (sortBy_perm g l) (sortBy_sorted g l) hn
  exact List.Perm.eq_of_pairwise (le := fun a b => g a < g b) (fun a b _ _ h3 h4 => by omega) h1 h2 (hp.trans (sortBy_perm g l).symm)
structure EnG (e : En) : Prop where
  ok : e.ok
  len : e.vs.length = e.ns.length
  le : e.ns.length ≤ 100
  vs : ∀ v ∈ e.vs, 0 ≤ v ∧ v ≤ 127
  nd : e.vs.Nodup
def nds (e : En) : List Nd := List.zipWith (fun n nm => ⟨n, nm⟩) e.vs e.ns
theorem nds_len {e : En} (h : EnG e) : (nds e).length = e.vs.length := by
  unfold nds; rw [List.length_zipWith, h.len]; simp
theorem nds_at {e : En} {i : Nat} {v : Int} {nm : ByteArray} (h1 : e.vs[i]? = some v) (h2 : e.ns[i]? = some nm) : (nds e)[i]? = some ⟨v, nm⟩ := by
  unfold nds; rw [List.getElem?_zipWith, h1, h2]
theorem nds_n {e : En} (h : EnG e) : (nds e).map Nd.n = e.vs := by
  unfold nds
  refine List.ext_getElem? fun i => ?_
  rw [List.getElem?_map, List.getElem?_zipWith]
  cases h1 : e.vs[i]? with
  | none => rfl
  | some v =>
    have hi := (List.getElem?_eq_some_iff.1 h1).1
    rw [List.getElem?_eq_getElem (show i < e.ns.length by have := h.len; omega)]; rfl
def meL : List Nd → List Nd → Option (List Nd)
  | l, [] => some l
  | l, x :: r => bif l.any (isN x) then meL l r else bif l.any (clN x) then none else meL (l ++ [x]) r
def enOf (nm : ByteArray) (l : List Nd) : En := ⟨nm, (sortBy Nd.n l).map Nd.nm, (sortBy Nd.n l).map Nd.n⟩
def meK (K : S → Hp → Prop) (nm : ByteArray) : Option (List Nd) → Prop
  | some l => K (.tu [.gs (enC (enOf nm l)), bA true]) []
  | none => K (.tu [.gs (enC default), bA false]) []
def meSp : W.Spec := fun av H K => ∃ a b : En, av = [.va (.gs (enC a)), .va (.gs (enC b))] ∧ H = [] ∧ EnG a ∧ EnG b ∧ meK K a.nm (meL (nds a) (nds b))
theorem me_use {a b : En} {K : S → Hp → Prop} (h1 : EnG a) (h2 : EnG b) (hK : meK K a.nm (meL (nds a) (nds b))) : meSp [.va (.gs (enC a)), .va (.gs (enC b))] [] K := ⟨a, b, rfl, rfl, h1, h2, hK⟩
theorem enC_default : enC default = [.vl (.string (mk [])), .fz [], .fz []] := rfl
theorem map_take_next {α β : Type} {l : List α} {i : Nat} {x : α} (h : l[i]? = some x) (f : α → β) : (l.take (i + 1)).map f = (l.take i).map f ++ [f x] := by rw [take_next h]; simp
set_option maxRecDepth 100000 in
set_option maxHeartbeats 4000000 in
theorem mMergeEnum : Meets Tryz.prog 39 meSp := by
  refine meets_fn Tryz.func39 okM39 2 (by rw [Tryz.ntmps39]; decide) (meetsAll_s mContainsN (meetsAll_s mContainsF (meetsAll_s mSortN (meetsAll_nil _)))) (fun av H K h => by obtain ⟨_, _, rfl, _⟩ := h; rfl) ?_
  rintro av H K ⟨a, b, rfl, rfl, ga, gb, hK⟩
  have hla := ga.len
  have hlb := gb.len
  have hla2 := ga.le
  have hlb2 := gb.le
  simp (maxSteps := 1000000) -dsimp only [go_sem, enC, pcM39, rsM39]
  refine vc_loop_gh (α := Nat) (fun i => [(2, .va (.c1 (.pt 0 0))), (3, .va (.c1 (.pt 1 0))), (4, .va (.c1 (.pt 2 0))), (6, .va (.c1 (.sl 3 ((nds a).take i).length))), (16, .va (.c1 (.fz (a.vs.map inR)))), (17, iS .i64 a.vs.length), (18, iS .i64 i)])
    (fun i => [.cells (enC a) 60, .cells (enC b) 60, .cells [.vl (.string (mk [])), .vl (.slice none 0 0), .vl (.slice none 0 0)] 60, .row (((nds a).take i).map ndC) 111 2])
    (fun i => i ≤ a.vs.length) (fun i => a.vs.length - i) (.nil 6 111 2 rfl (gh_at 0 4 (Nat.zero_le _) ?_ ?_)) ?_
  · simp -dsimp only [go_sem] <;> simp
  · simp -dsimp only [go_sem, enC] <;> simp
  intro i hi
  have hti : ((nds a).take i).length = i := by rw [List.length_take, nds_len ga]; omega
  rcases Nat.lt_or_ge i a.vs.length with hlt | hge
  · have hg : decide ((i : Int) < (a.vs.length : Int)) = true := by simp; omega
    obtain ⟨v, hv⟩ : ∃ t, a.vs[i]? = some t := ⟨_, List.getElem?_eq_getElem hlt⟩
    obtain ⟨nm, hm⟩ : ∃ t, a.ns[i]? = some t := ⟨_, List.getElem?_eq_getElem (by omega)⟩
    have q1 := row_rg' (row := inR) hv
    have q2 := row_rg' (row := stR) hm
    have hnx := map_take_next (nds_at hv hm) ndC
    have hln : ((nds a).take (i + 1)).length = ((nds a).take i).length + 1 := by rw [hti, List.length_take, nds_len ga]; omega
    simp (maxSteps := 1000000) -dsimp only [go_sem, hg, ↓q1, ↓q2, enC]
    refine ⟨by omega, by omega, by rw [hti]; omega, by omega, loop_next (i + 1) 4 (by omega) (by omega) ?_ ?_⟩
    · simp -dsimp only [go_sem, hln] <;> simp
    · simp -dsimp only [go_sem, enC, hnx] <;> simp [ndC]
  · have hg : decide ((i : Int) < (a.vs.length : Int)) = false := by simp; omega
    obtain rfl : i = a.vs.length := by omega
    have htk : (nds a).take a.vs.length = nds a := by rw [← nds_len ga, List.take_length]
    rw [htk]
    simp (maxSteps := 1000000) -dsimp only [go_sem, hg, enC]
    refine vc_loop (α := Nat × List Nd) (fun z => [(2, .va (.c1 (.pt 0 0))), (3, .va (.c1 (.pt 1 0))), (4, .va (.c1 (.pt 2 0))), (6, .va (.c1 (.sl 3 z.2.length))), (35, .va (.c1 (.fz (b.vs.map inR)))), (36, iS .i64 b.vs.length), (37, iS .i64 z.1)])
      (fun z => [.cells (enC a) 60, .cells (enC b) 60, .cells [.vl (.string (mk [])), .vl (.slice none 0 0), .vl (.slice none 0 0)] 60, .row (z.2.map ndC) 111 2])
      (fun z => z.1 ≤ b.vs.length ∧ meL z.2 ((nds b).drop z.1) = meL (nds a) (nds b) ∧ (z.2.map Nd.n).Nodup ∧ z.2.length ≤ 100 + z.1 ∧ ∀ x ∈ z.2, 0 ≤ x.n ∧ x.n ≤ 127) (fun z => b.vs.length - z.1) (0, nds a) 4 ⟨Nat.zero_le _, rfl, by rw [nds_n ga]; exact ga.nd, by rw [nds_len ga]; omega, fun x hx => ga.vs _ (by rw [← nds_n ga]; exact List.mem_map_of_mem hx)⟩ ?_ ?_ ?_
    · simp -dsimp only [go_sem] <;> simp
    · simp -dsimp only [go_sem, enC] <;> simp
    rintro ⟨j, L⟩ ⟨hj, hm, hnd, hll, hbv⟩
    simp only at hj hm hnd hll hbv ⊢
    rcases Nat.lt_or_ge j b.vs.length with hltj | hgej
    · have hgj : decide ((j : Int) < (b.vs.length : Int)) = true := by simp; omega
      obtain ⟨v, hv⟩ : ∃ t, b.vs[j]? = some t := ⟨_, List.getElem?_eq_getElem hltj⟩
      obtain ⟨nm, hnm⟩ : ∃ t, b.ns[j]? = some t := ⟨_, List.getElem?_eq_getElem (by omega)⟩
      have q1 := row_rg' (row := inR) hv
      have q2 := row_rg' (row := stR) hnm
      have hdr : (nds b).drop j = ⟨v, nm⟩ :: (nds b).drop (j + 1) := by
        obtain ⟨h, h'⟩ := List.getElem?_eq_some_iff.1 (nds_at hv hnm)
        rw [List.drop_eq_getElem_cons h, h']
      rw [hdr, meL] at hm
      simp (maxSteps := 1000000) -dsimp only [go_sem, hgj, ↓q1, ↓q2, enC]
      refine ⟨by omega, by omega, conn_use (x := ⟨v, nm⟩) (by omega) ?_⟩
      cases hc : L.any (isN ⟨v, nm⟩) with
      | true =>
        rw [hc, Bool.cond_true] at hm
        simp (maxSteps := 1000000) -dsimp only [go_sem]
        refine ⟨by omega, loop_next (j + 1, L) 4 ⟨by simp only; omega, hm, hnd, by simp only; omega, hbv⟩ (by simp only; omega) ?_ ?_⟩
        · simp -dsimp only [go_sem] <;> simp
        · simp -dsimp only [go_sem, enC] <;> simp
      | false =>
        rw [hc, Bool.cond_false] at hm
        simp (maxSteps := 1000000) -dsimp only [go_sem]
        refine cof_use (x := ⟨v, nm⟩) (by omega) ?_
        cases hcl : L.any (clN ⟨v, nm⟩) with
        | true =>
          rw [hcl, Bool.cond_true] at hm
          rw [← hm] at hK
          have hK : K (.tu [.gs (enC default), bA false]) [] := hK
          simp (maxSteps := 1000000) -dsimp only [go_sem, ndC]
          exact .sel [] (by simp) (by simp) rfl (.done (by simpa [go_sem, enC_default] using hK))
        | false =>
          rw [hcl, Bool.cond_false] at hm
          have hbx := gb.vs v (List.mem_of_getElem? hv)
          simp (maxSteps := 1000000) -dsimp only [go_sem, ndC]
          refine ⟨by omega, by omega, loop_next (j + 1, L ++ [⟨v, nm⟩]) 4 ⟨by simp only; omega, hm, ?_, by simp only [List.length_append, List.length_singleton]; omega, fun x hx => ?_⟩ (by simp only; omega) ?_ ?_⟩
          · simp only [List.map_append, List.map_cons, List.map_nil]
            rw [List.nodup_append]
            refine ⟨hnd, by simp, fun m hm' k hk e => ?_⟩
            obtain ⟨y, hy, rfl⟩ := List.mem_map.1 hm'
            obtain rfl := List.mem_singleton.1 hk
            have := any_false hcl y hy
            unfold clN at this
            simp at this
            exact this.1 e
          · rcases List.mem_append.1 hx with hx | hx
            · exact hbv x hx
            · obtain rfl := List.mem_singleton.1 hx; exact hbx
          · simp -dsimp only [go_sem] <;> simp
          · simp -dsimp only [go_sem, enC] <;> simp [ndC]
    · have hgj : decide ((j : Int) < (b.vs.length : Int)) = false := by simp; omega
      obtain rfl : j = b.vs.length := by omega
      rw [List.drop_eq_nil_of_le (by rw [nds_len gb]; exact Nat.le_refl _), meL] at hm
      rw [← hm] at hK
      have hK : K (.tu [.gs (enC (enOf a.nm L)), bA true]) [] := hK
      simp (maxSteps := 1000000) -dsimp only [go_sem, hgj, enC]
      refine srn_use (l := L) (by omega) (fun x hx => by have := hbv x hx; omega) fun l' hp hs => ?_
      obtain rfl := sort_unique hp hs hnd
      have hML : (sortBy Nd.n L).length = L.length := hp.length_eq
      have hK : K (.tu [.gs [.vl (.string a.nm), .fz (((sortBy Nd.n L).map Nd.nm).map stR), .fz (((sortBy Nd.n L).map Nd.n).map inR)], bA true]) [] := hK
      generalize sortBy Nd.n L = M at *
      have e0 : (L.length : Int) = (M.length : Int) := by rw [hML]
      rw [← hML]
      simp (maxSteps := 1000000) -dsimp only [go_sem]
      refine vc_loop_gh (α := Nat) (fun i => [(4, .va (.c1 (.pt 2 0))), (12, .va (.c1 (.pt 4 0))), (66, .va (.c1 (.sl 3 M.length))), (67, iS .i64 M.length), (68, iS .i64 i)])
        (fun i => [.cells (enC a) 60, .cells (enC b) 60, .cells [.vl (.string (mk [])), .vl (.slice none 0 0), .vl (.slice none 0 0)] 60, .row (M.map ndC) 111 2, .cells [.vl (.string a.nm), .sl 5 i, .sl 6 i] 60, .row (((M.take i).map Nd.nm).map stR) 9 1, .row (((M.take i).map Nd.n).map inR) 3 1])
        (fun i => i ≤ M.length) (fun i => M.length - i) (.nilc 4 1 9 1 [.vl (.string a.nm), .vl (.slice none 0 0), .vl (.slice none 0 0)] 60 rfl rfl (.nilc 4 2 3 1 [.vl (.string a.nm), .sl 5 0, .vl (.slice none 0 0)] 60 rfl rfl (gh_at 0 7 (Nat.zero_le _) ?_ ?_))) ?_
      · simp -dsimp only [go_sem] <;> simp
      · simp -dsimp only [go_sem, enC] <;> simp
      intro i hi
      have hz : (M.take i).length = i := by rw [List.length_take]; omega
      rcases Nat.lt_or_ge i M.length with hlt | hge
      · have hg : decide ((i : Int) < (M.length : Int)) = true := by simp; omega
        obtain ⟨u, hx⟩ : ∃ t, M[i]? = some t := ⟨_, List.getElem?_eq_getElem hlt⟩
        have q1 := row_rg' (row := ndC) hx
        have hu : ndC u = [.vl (.int .i64 u.n), .vl (.string u.nm)] := rfl
        simp (maxSteps := 1000000) -dsimp only [go_sem, hg, hx, hu, Option.some.injEq, forall_eq', hz]
        refine ⟨by omega, by omega, by omega, by omega, by omega, loop_next (i + 1) 7 (by omega) (by omega) ?_ ?_⟩
        · simp -dsimp only [go_sem] <;> simp
        · simp -dsimp only [go_sem, enC, take_next hx] <;> simp
      · have hg : decide ((i : Int) < (M.length : Int)) = false := by simp; omega
        obtain rfl : i = M.length := by omega
        rw [List.take_length]
        simp (maxSteps := 1000000) -dsimp only [go_sem, hg]
        refine .pub 5 _ _ _ rfl (.pub 6 _ _ _ rfl (.sel [] (by simp) (by simp [pubH]) rfl (.done ?_)))
        simp -dsimp only [go_sem, pubH]
        simpa using hK
end Go.Proofs.YtbolanmlngjdoaaGreat
namespace Go.W
section
variable {P : Program} {f : FuncId} {s t : Spec}
def C.pl : C → C → Prop
  | .vl v, c' => c' = .vl v
  | c, c' => ∃ u, c' = .vl u ∧ (c.one → u.oneCell' = true)
def A.pl : A → A → Prop
  | .c1 c, .c1 c' => C.pl c c'
  | .gs cs, .gs cs' => All2 C.pl cs cs'
  | _, _ => False
def S.pl : S → S → Prop
  | .va a, s => ∃ b, s = .va b ∧ A.pl a b
  | .tu l, s => ∃ m, s = .tu m ∧ All2 A.pl l m
  | _, s => s = .un
theorem C.pl_of {γ γ' : List Gb} {ro ro' : RO} {c : C} {v : Value} (h : c.rel γ ro v) : ∃ c', C.pl c c' ∧ c'.rel γ' ro' v := by
  cases c with
  | vl u => exact ⟨.vl u, rfl, h⟩
  | _ => exact ⟨.vl v, ⟨v, rfl, fun ho => C.one_rel ho h⟩, rfl⟩
theorem all2_ex {α β δ : Type} {R : α → β → Prop} {Q : α → δ → Prop} {T : δ → β → Prop} (h : ∀ x y, R x y → ∃ z, Q x z ∧ T z y) : ∀ {l : List α} {m : List β}, All2 R l m → ∃ k, All2 Q l k ∧ All2 T k m
  | [], m, hl => by obtain rfl := All2.nil_inv hl; exact ⟨[], .nil, .nil⟩
  | x :: l, m, hl => by
    obtain ⟨y, m', rfl, h1, h2⟩ := All2.cons_inv hl
    obtain ⟨z, q, r⟩ := h x y h1
    obtain ⟨k, q', r'⟩ := all2_ex h h2
    exact ⟨z :: k, .cons q q', .cons r r'⟩
theorem A.pl_of {γ γ' : List Gb} {ro ro' : RO} {a : A} {v : Value} (h : a.rel γ ro v) : ∃ a', A.pl a a' ∧ a'.rel γ' ro' v := by
  cases a with
  | c1 c => obtain ⟨c', h1, h2⟩ := C.pl_of (γ' := γ') (ro' := ro') h; exact ⟨.c1 c', h1, h2⟩
  | gs cs =>
    obtain ⟨vs, rfl, h2⟩ := h
    obtain ⟨k, h3, h4⟩ := all2_ex (fun c v hc => C.pl_of (γ' := γ') (ro' := ro') hc) h2
    exact ⟨.gs k, h3, vs, rfl, h4⟩
theorem S.pl_of {γ γ' : List Gb} {ro ro' : RO} {r : S} {v : Value} (h : r.rel γ ro v) : ∃ r', S.pl r r' ∧ r'.rel γ' ro' v := by
  cases r with
  | va a => obtain ⟨a', h1, h2⟩ := A.pl_of (γ' := γ') (ro' := ro') h; exact ⟨.va a', ⟨a', rfl, h1⟩, h2⟩
  | tu l =>
    obtain ⟨vs, rfl, h2⟩ := h
    obtain ⟨k, h3, h4⟩ := all2_ex (fun a v ha => A.pl_of (γ' := γ') (ro' := ro') ha) h2
    exact ⟨.tu k, ⟨k, rfl, h3⟩, vs, rfl, h4⟩
  | cn g a => exact ⟨.un, rfl, trivial⟩
  | un => exact ⟨.un, rfl, trivial⟩
def borS (s : Spec) : Spec := fun ar H K => s (ar.map fun a => (a.bor H).nf) [] fun r _ => ∀ r', S.pl r r' → K r' H
theorem Meets.borS (h : Meets P f s) : Meets P f (borS s) := by
  refine ⟨h.1, fun ar vs E ro w K hl hrel hr hs => ?_⟩
  obtain ⟨_, _, hrd⟩ := roB_spec hr
  have hloc : Rel ⟨w, blks [], roB E ro, gm []⟩ [] (roB E ro) w := ⟨fun n g blk hn => by simp at hn, fun n m gn gm bn bm b hn => by simp at hn, fun b off v hc n g blk hn => by simp at hn, hrd, Ext.refl _, fun _ _ _ h => .inl h,
    fun n b g blk hn => by simp at hn, GExt.refl _, Nat.le_refl _, fun _ _ _ => rfl, rfl, rfl, rfl⟩
  refine (h.2 (ar.map fun a : S => (a.bor (hp E)).nf) vs [] (roB E ro) w (fun r _ => ∀ r', S.pl r r' → K r' (hp E)) (by simpa using hl) ?_ hloc hs).mono ?_
  · intro i x v hx hv
    rw [List.getElem?_map] at hx
    cases hi : ar[i]? with
    | none => rw [hi] at hx; cases hx
    | some y =>
      rw [hi] at hx
      simp only [Option.map_some, Option.some.injEq] at hx
      subst hx
      exact S.rel_nf (S.rel_bor hr (hrel i y v hi hv))
  · rintro e w' ⟨r, v, E', ro', rfl, hrv, hK, hrel'⟩
    obtain ⟨r', h1, h2⟩ := S.pl_of (γ' := gm E) (ro' := ro) hrv
    exact ⟨r', v, E, ro, rfl, h2, hK r' h1, hr.grown (fun k hk => hrel'.keep k hk (by simp [blks])) hrel'.sz hrel'.os hrel'.tape hrel'.output⟩
def orS (s t : Spec) : Spec := fun ar H K => s ar H K ∨ t ar H K
theorem Meets.orS (h : Meets P f s) (k : Meets P f t) : Meets P f (orS s t) :=
  ⟨h.1, fun ar vs E ro w K hl hrel hr hs => hs.elim (h.2 ar vs E ro w K hl hrel hr) (k.2 ar vs E ro w K hl hrel hr)⟩
end
end Go.W
namespace Go.Proofs.YtbolanmlngjdoaaGreat
open Go.W
def crF (a b : Sc) : Bool := a.ss.any fun x => hasE b.es x.nm
def crPre : List S → Prop := fun av => match av with
  | [.va (.gs r), .va (.gs q)] => isScF r ∧ isScF q
  | _ => False
theorem crPre_open {av : List S} (h : crPre av) : ∃ o n : Sc, av = [.va (.gs (scC o)), .va (.gs (scC n))] ∧ o.fit ∧ n.fit := by
  unfold crPre at h
  split at h
  · obtain ⟨⟨o, rfl, ho⟩, ⟨n, rfl, hn⟩⟩ := h; exact ⟨o, n, rfl, ho, hn⟩
  · exact h.elim
noncomputable def crVal : List S → A := fun av => match av with
  | [.va (.gs r), .va (.gs q)] => bA (crF (C.sc r) (C.sc q))
  | _ => .gs []
noncomputable def crFn : Fun := ⟨crPre, crVal, fun av h => by obtain ⟨o, n, rfl, _⟩ := crPre_open h; trivial⟩
theorem crFn_len : ∀ av H K, crFn.sp av H K → av.length = 2 := fun av H K h => by obtain ⟨o, n, rfl, _⟩ := crPre_open h.1.1; rfl
attribute [go_sem] crFn crPre crVal
set_option maxRecDepth 100000 in
set_option maxHeartbeats 2000000 in
theorem mCrossed : Meets Tryz.prog 38 crFn.sp := by
  refine meets_fn Tryz.func38 okM38 2 (by rw [Tryz.ntmps38]; decide) (meetsAll_s mEnumP (meetsAll_nil _)) crFn_len ?_
  rintro av H K ⟨⟨h, rfl⟩, hK⟩
  obtain ⟨a, b, rfl, ha, hb⟩ := crPre_open h
  replace hK : K (bS (crF a b)) [] := by
    have : crFn.val [.va (.gs (scC a)), .va (.gs (scC b))] = bA (crF a b) := by simp -dsimp only [go_sem]
    rw [this] at hK; exact hK
  clear h
  have hl := ha.ok.ls
  simp (maxSteps := 1000000) -dsimp only [go_sem, scC, pcM38, rsM38]
  refine vc_loop (α := Nat) (fun i => [(3, .va (.c1 (.pt 1 0))), (10, .va (.c1 (.fz (a.ss.map stC)))), (11, iS .i64 a.ss.length), (12, iS .i64 i)]) (fun _ => [.cells (scC a) 25, .cells (scC b) 25])
    (fun i => i ≤ a.ss.length ∧ (a.ss.drop i).any (fun x => hasE b.es x.nm) = crF a b) (fun i => a.ss.length - i) 0 2 ⟨Nat.zero_le _, rfl⟩ ?_ ?_ ?_
  · simp -dsimp only [go_sem] <;> simp
  · simp -dsimp only [go_sem, scC] <;> simp
  rintro i ⟨hi, ho⟩
  rcases Nat.lt_or_ge i a.ss.length with hlt | hge
  · have hg : decide ((i : Int) < (a.ss.length : Int)) = true := by simp; omega
    obtain ⟨x, hx⟩ : ∃ t, a.ss[i]? = some t := ⟨_, List.getElem?_eq_getElem hlt⟩
    have q1 := row_rg' (row := stC) hx
    have hdr : a.ss.drop i = x :: a.ss.drop (i + 1) := by
      obtain ⟨h, rfl⟩ := List.getElem?_eq_some_iff.1 hx
      exact List.drop_eq_getElem_cons h
    rw [hdr, List.any_cons] at ho
    simp (maxSteps := 1000000) -dsimp only [go_sem, hg, ↓q1, stC, scC]
    refine ⟨by omega, enp_use (s := b) hb ?_⟩
    cases hc : hasE b.es x.nm with
    | true =>
      rw [hc, Bool.true_or] at ho
      rw [← ho] at hK
      simp (maxSteps := 1000000) -dsimp only [go_sem, enC]
      exact .sel [] (by simp) (by simp) rfl (.done (by simpa [go_sem] using hK))
    | false =>
      rw [hc, Bool.false_or] at ho
      simp (maxSteps := 1000000) -dsimp only [go_sem, enC]
      refine ⟨by omega, loop_next (i + 1) 2 ⟨by omega, ho⟩ (by omega) ?_ ?_⟩
      · simp -dsimp only [go_sem] <;> simp
      · simp -dsimp only [go_sem, scC] <;> simp
  · have hg : decide ((i : Int) < (a.ss.length : Int)) = false := by simp; omega
    obtain rfl : i = a.ss.length := by omega
    rw [List.drop_length, List.any_nil] at ho
    rw [← ho] at hK
    simp (maxSteps := 1000000) -dsimp only [go_sem, hg, scC]
    exact .sel [] (by simp) (by simp) rfl (.done (by simpa [go_sem] using hK))
set_option maxRecDepth 100000 in
theorem mCopiedN : ∀ N, Meets Tryz.prog 43 (ctSp N)
  | 0 => ⟨by kernel_rfl, by rintro xs vs E ro w K _ _ _ ⟨t, _, _, _, _, h, _⟩; have := t.h_pos; omega⟩
  | N + 1 => by
    refine meets_fn Tryz.func43 okM43 1 (by rw [Tryz.ntmps43]; decide) (meetsAll_s (mCopiedN N) (meetsAll_nil _)) (fun av H K h => by obtain ⟨_, rfl, _⟩ := h; rfl) ?_
    rintro av H K ⟨⟨k, s, n, e⟩, rfl, rfl, h1, h2, h3, hK⟩
    have hle := h1.len
    have hoe := h1.e
    obtain ⟨hl, hse⟩ : e.length ≤ 1000000000 ∧ ∀ t ∈ e, TySm t := by cases h2; exact ⟨by assumption, by assumption⟩
    simp only [Ty.e] at hle hoe
    simp (maxSteps := 1000000) -dsimp only [go_sem, tyC, tysC_map, pcM43, rsM43]
    refine vc_loop_gh (α := Nat) (fun i => [(1, .va (.c1 (.pt 0 0))), (2, .va (.c1 (.pt 1 0))), (9, .va (.c1 (.fz (e.map tyC)))), (10, iS .i64 e.length), (11, iS .i64 i)]) (fun i => [.cells [.vl (.int .i64 k), .vl (.int .i64 s), .vl (.string n), .sl 2 i] 48, .cells [.vl (.int .i64 0), .vl (.int .i64 0), .vl (.string (mk [])), .vl (.slice none 0 0)] 48, .row ((e.take i).map tyC) 48 4])
      (fun i => i ≤ e.length) (fun i => e.length - i) (.nilc 0 3 48 4 [.vl (.int .i64 k), .vl (.int .i64 s), .vl (.string n), .vl (.slice none 0 0)] 48 rfl rfl (gh_at 0 3 (Nat.zero_le _) ?_ ?_)) ?_
    · simp -dsimp only [go_sem] <;> simp
    · simp -dsimp only [go_sem] <;> simp
    intro i hi
    have hz : (e.take i).length = i := by rw [List.length_take]; omega
    rcases Nat.lt_or_ge i e.length with hlt | hge
    · have hg : decide ((i : Int) < (e.length : Int)) = true := by simp; omega
      obtain ⟨u, hx⟩ : ∃ t, e[i]? = some t := ⟨_, List.getElem?_eq_getElem hlt⟩
      have q1 := row_rg' (row := tyC) hx
      have hu := List.mem_of_getElem? hx
      simp (maxSteps := 1000000) -dsimp only [go_sem, hg, ↓q1, tyC_len]
      refine ⟨by omega, tyC_one u, ct_use (hoe u hu) (hse u hu) ?_ ?_⟩
      · have := Ty.hs_mem hu; rw [Ty.h] at h3; omega
      simp (maxSteps := 1000000) -dsimp only [go_sem, tyC_len]
      refine ⟨tyC_ss u, tyC_ss u, hz, by omega, by omega, loop_next (i + 1) 3 (by omega) (by omega) ?_ ?_⟩
      · simp -dsimp only [go_sem] <;> simp
      · simp -dsimp only [go_sem, take_next hx] <;> simp
    · have hg : decide ((i : Int) < (e.length : Int)) = false := by simp; omega
      obtain rfl : i = e.length := by omega
      rw [List.take_length]
      simp (maxSteps := 1000000) -dsimp only [go_sem, hg]
      refine .pub 2 _ _ _ rfl (.sel [] (by simp) (by simp [pubH]) rfl (.done ?_))
      simp -dsimp only [go_sem, pubH]
      simpa [tyC, tysC_map] using hK
def ctS : W.Spec := fun av H K => ∃ t : Ty, av = [.va (.gs (tyC t))] ∧ H = [] ∧ TyOk t ∧ TySm t ∧ K (.va (.gs (tyC t))) []
theorem ctS_use {t : Ty} {K : S → Hp → Prop} (h1 : TyOk t) (h2 : TySm t) (hK : K (.va (.gs (tyC t))) []) : ctS [.va (.gs (tyC t))] [] K := ⟨t, rfl, rfl, h1, h2, hK⟩
theorem mCopied : Meets Tryz.prog 43 ctS := meets_all 0 mCopiedN fun _av _H _K ⟨t, e1, e2, h1, h2, hK⟩ => ⟨t.h, t, e1, e2, h1, h2, Nat.le_refl _, hK⟩
structure FlW (f : Fl) : Prop where
  ok : f.ok
  sm : TySm f.ty
  lv : (lvT f.ty).1 ≤ 1000000000
  num : 1 ≤ f.num ∧ f.num ≤ 127
noncomputable def mfF (f g : Fl) : Fl × Bool := bif f.opt != g.opt then (f, false) else bif widF f.ty g.ty then (⟨f.num, f.nm, g.ty, f.opt⟩, true) else (f, widF g.ty f.ty)
theorem mfF_W {f g : Fl} (hf : FlW f) (hg : FlW g) : FlW (mfF f g).1 := by
  unfold mfF
  cases f.opt != g.opt with
  | true => exact hf
  | false =>
    cases widF f.ty g.ty with
    | true => exact ⟨⟨hf.ok.num, hf.ok.nm, hg.ok.ty⟩, hg.sm, hg.lv, hf.num⟩
    | false => exact hf
theorem mfF_num (f g : Fl) : (mfF f g).1.num = f.num := by
  unfold mfF
  cases f.opt != g.opt with
  | true => rfl
  | false => cases widF f.ty g.ty <;> rfl
def mfSp : W.Spec := fun av H K => ∃ f g : Fl, av = [.va (.gs (flC f)), .va (.gs (flC g))] ∧ H = [] ∧ f.ok ∧ g.ok ∧ K (.tu [.gs (flC (mfF f g).1), bA (mfF f g).2]) []
theorem mf_use {f g : Fl} {K : S → Hp → Prop} (h1 : f.ok) (h2 : g.ok) (hK : K (.tu [.gs (flC (mfF f g).1), bA (mfF f g).2]) []) : mfSp [.va (.gs (flC f)), .va (.gs (flC g))] [] K := ⟨f, g, rfl, rfl, h1, h2, hK⟩
set_option maxRecDepth 100000 in
set_option maxHeartbeats 1000000 in
theorem mMergeField : Meets Tryz.prog 81 mfSp := by
  refine meets_fn Tryz.func81 okM81 2 (by rw [Tryz.ntmps81]; decide) (meetsAll_f mWidens (meetsAll_nil _)) (fun av H K h => by obtain ⟨_, _, rfl, _⟩ := h; rfl) ?_
  rintro av H K ⟨f, g, rfl, rfl, hf, hg, hK⟩
  have h1 := flC_isTy hf
  have h2 := flC_isTy hg
  have h3 := flC_dTy f
  have h4 := flC_dTy g
  have e1 : (f.opt != g.opt) = !(f.opt == g.opt) := rfl
  unfold mfF at hK
  cases c1 : f.opt == g.opt with
  | false =>
    rw [e1, c1, Bool.not_false, Bool.cond_true] at hK
    simp (maxSteps := 1000000) -dsimp only [go_sem, flC, pcM81, rsM81, c1]
    exact .sel [] (by simp) (by simp) rfl (.done (by simpa [go_sem, flC] using hK))
  | true =>
    rw [e1, c1, Bool.not_true, Bool.cond_false] at hK
    cases c2 : widF f.ty g.ty with
    | true =>
      rw [c2, Bool.cond_true] at hK
      simp (maxSteps := 1000000) -dsimp only [go_sem, flC, pcM81, rsM81, c1, h1, h2, h3, h4, c2]
      exact .sel [] (by simp) (by simp) rfl (.done (by simpa [go_sem, flC] using hK))
    | false =>
      rw [c2, Bool.cond_false] at hK
      simp (maxSteps := 1000000) -dsimp only [go_sem, flC, pcM81, rsM81, c1, h1, h2, h3, h4, c2]
      exact .sel [] (by simp) (by simp) rfl (.done (by simpa [go_sem, flC] using hK))
end Go.Proofs.YtbolanmlngjdoaaGreat
namespace Go.Proofs.YtbolanmlngjdoaaGreat
open Go.W
structure StM (t : St) : Prop where
  nm : t.nm.size ≤ 9223372036854775807
  len : t.fs.length ≤ 1000
  fs : ∀ f ∈ t.fs, FlW f
theorem StM.ok {t : St} (h : StM t) : t.ok := ⟨h.nm, by have := h.len; omega, fun f hf => (h.fs f hf).ok⟩
theorem StM.sm {t : St} (h : StM t) : ∀ f ∈ t.fs, TySm f.ty := fun f hf => (h.fs f hf).sm
noncomputable def msA (b : List Fl) : List Fl → List Fl → Option (List Fl)
  | l, [] => some l
  | l, f :: r => match fF b f.num with
    | some g => bif (mfF f g).2 then msA b (l ++ [(mfF f g).1]) r else none
    | none => bif f.opt then msA b (l ++ [f]) r else none
def msB (a : List Fl) : List Fl → List Fl → Option (List Fl)
  | l, [] => some l
  | l, g :: r => bif (fF a g.num).isSome then msB a l r else bif g.opt then msB a (l ++ [g]) r else none
noncomputable def msL (a b : List Fl) : Option (List Fl) := (msA b [] a).bind fun l => msB a l b
theorem msA_nums {b : List Fl} : ∀ {r l o : List Fl}, msA b l r = some o → o.map Fl.num = l.map Fl.num ++ r.map Fl.num
  | [], l, o, h => by rw [msA, Option.some.injEq] at h; rw [← h]; simp
  | f :: r, l, o, h => by
    rw [msA] at h
    split at h
    · rename_i g _
      cases hc : (mfF f g).2 with
      | true => rw [hc] at h; rw [msA_nums h]; simp [mfF_num]
      | false => rw [hc] at h; cases h
    · cases hc : f.opt with
      | true => rw [hc] at h; rw [msA_nums h]; simp
      | false => rw [hc] at h; cases h
theorem msB_nums {a : List Fl} : ∀ {r l o : List Fl}, msB a l r = some o → o.map Fl.num = l.map Fl.num ++ (r.filter fun g => !(fF a g.num).isSome).map Fl.num
  | [], l, o, h => by rw [msB, Option.some.injEq] at h; rw [← h]; simp
  | g :: r, l, o, h => by
    rw [msB] at h
    cases hs : (fF a g.num).isSome with
    | true => rw [hs] at h; rw [msB_nums h, List.filter_cons_of_neg (by rw [hs]; simp)]
    | false =>
      rw [hs, Bool.cond_false] at h
      cases hc : g.opt with
      | true => rw [hc] at h; rw [msB_nums h, List.filter_cons_of_pos (by rw [hs]; rfl)]; simp
      | false => rw [hc] at h; cases h
theorem fF_none {l : List Fl} {k : Int} (h : (fF l k).isSome = false) : k ∉ l.map Fl.num := by
  intro hm
  obtain ⟨f, hf, rfl⟩ := List.mem_map.1 hm
  unfold fF at h
  rw [Option.isSome_eq_false_iff, Option.isNone_iff_eq_none, List.find?_eq_none] at h
  have := h f hf
  simp at this
theorem msL_nums {a b l : List Fl} (h : msL a b = some l) : l.map Fl.num = a.map Fl.num ++ (b.filter fun g => !(fF a g.num).isSome).map Fl.num := by
  unfold msL at h
  obtain ⟨m, h1, h2⟩ := Option.bind_eq_some_iff.1 h
  rw [msB_nums h2, msA_nums h1]; simp
theorem msL_nodup {a b l : List Fl} (h : msL a b = some l) (ha : (a.map Fl.num).Nodup) (hb : (b.map Fl.num).Nodup) : (l.map Fl.num).Nodup := by
  rw [msL_nums h, List.nodup_append]
  refine ⟨ha, hb.sublist ((List.filter_sublist (l := b)).map Fl.num), fun x hx y hy e => ?_⟩
  obtain ⟨g, hg, rfl⟩ := List.mem_map.1 hy
  have := (List.mem_filter.1 hg).2
  exact fF_none (by simpa using this) (e ▸ hx)
def msK (K : S → Hp → Prop) (nm : ByteArray) : Option (List Fl) → Prop
  | some l => K (.tu [.gs (stC ⟨nm, sortBy Fl.num l⟩), bA true]) []
  | none => ∀ t : St, StM t → K (.tu [.gs (stC t), bA false]) []
def msSp : W.Spec := fun av H K => ∃ a b : St, av = [.va (.gs (stC a)), .va (.gs (stC b))] ∧ H = [] ∧ (StM a ∧ a.fs.length ≤ 100 ∧ (a.fs.map Fl.num).Nodup) ∧ (StM b ∧ b.fs.length ≤ 100 ∧ (b.fs.map Fl.num).Nodup) ∧ msK K a.nm (msL a.fs b.fs)
theorem ms_use {a b : St} {K : S → Hp → Prop} (h1 : StM a ∧ a.fs.length ≤ 100 ∧ (a.fs.map Fl.num).Nodup) (h2 : StM b ∧ b.fs.length ≤ 100 ∧ (b.fs.map Fl.num).Nodup) (hK : msK K a.nm (msL a.fs b.fs)) : msSp [.va (.gs (stC a)), .va (.gs (stC b))] [] K := ⟨a, b, rfl, rfl, h1, h2, hK⟩
set_option maxRecDepth 100000 in
set_option maxHeartbeats 4000000 in
theorem mMergeStruct : Meets Tryz.prog 42 msSp := by
  refine meets_fn Tryz.func42 okM42 2 (by rw [Tryz.ntmps42]; decide) (meetsAll_s mFieldOfP (meetsAll_s mMergeField (meetsAll_s mSortV (meetsAll_nil _)))) (fun av H K h => by obtain ⟨_, _, rfl, _⟩ := h; rfl) ?_
  rintro av H K ⟨a, b, rfl, rfl, ⟨ga, hla, na⟩, ⟨gb, hlb, nb⟩, hK⟩
  simp (maxSteps := 1000000) -dsimp only [go_sem, stC, pcM42, rsM42]
  have bad : ∀ (L : List Fl), L.length ≤ 1000 → (∀ f ∈ L, FlW f) → msL a.fs b.fs = none → K (.tu [.gs [.vl (.string a.nm), .fz (L.map flC)], bA false]) [] := fun L h1 h2 h3 => by
    rw [h3] at hK
    exact hK ⟨a.nm, L⟩ ⟨ga.nm, h1, h2⟩
  refine vc_loop_gh (α := Nat × List Fl) (fun z => [(2, .va (.c1 (.pt 0 0))), (3, .va (.c1 (.pt 1 0))), (4, .va (.c1 (.pt 2 0))), (6, .va (.c1 (.pt 3 0))), (20, .va (.c1 (.fz (a.fs.map flC)))), (21, iS .i64 a.fs.length), (22, iS .i64 z.1)])
    (fun z => [.cells (stC a) 37, .cells (stC b) 37, .cells [.vl (.string (mk [])), .vl (.slice none 0 0)] 37, .cells [.vl (.string a.nm), .sl 4 z.2.length] 37, .row (z.2.map flC) 50 7])
    (fun z => z.1 ≤ a.fs.length ∧ msA b.fs z.2 (a.fs.drop z.1) = msA b.fs [] a.fs ∧ z.2.length ≤ z.1 ∧ ∀ f ∈ z.2, FlW f) (fun z => a.fs.length - z.1)
    (.nilc 3 1 50 7 [.vl (.string a.nm), .vl (.slice none 0 0)] 37 rfl rfl (gh_at (0, []) 5 ⟨Nat.zero_le _, rfl, Nat.le_refl _, fun f hf => by cases hf⟩ ?_ ?_)) ?_
  · simp -dsimp only [go_sem] <;> simp
  · simp -dsimp only [go_sem, stC] <;> simp
  rintro ⟨i, L⟩ ⟨hi, hm, hll, hw⟩
  simp only at hi hm hll hw ⊢
  rcases Nat.lt_or_ge i a.fs.length with hlt | hge
  · have hg : decide ((i : Int) < (a.fs.length : Int)) = true := by simp; omega
    obtain ⟨f, hx⟩ : ∃ t, a.fs[i]? = some t := ⟨_, List.getElem?_eq_getElem hlt⟩
    have q1 := row_rg' (row := flC) hx
    have hfm := List.mem_of_getElem? hx
    have hfw := ga.fs f hfm
    have hdr : a.fs.drop i = f :: a.fs.drop (i + 1) := by
      obtain ⟨h, rfl⟩ := List.getElem?_eq_some_iff.1 hx
      exact List.drop_eq_getElem_cons h
    rw [hdr, msA] at hm
    have nxt : ∀ f' : Fl, FlW f' → ∀ x ∈ L ++ [f'], FlW x := fun f' h x hx => by
      rcases List.mem_append.1 hx with hx | hx
      · exact hw x hx
      · obtain rfl := List.mem_singleton.1 hx; exact h
    simp (maxSteps := 1000000) -dsimp only [go_sem, hg, ↓q1, stC, flC]
    refine ⟨by omega, fop_use (t := b) gb.ok gb.sm ?_⟩
    cases hfo : fF b.fs f.num with
    | none =>
      rw [hfo] at hm
      simp only at hm
      cases ho : f.opt with
      | true =>
        rw [ho, Bool.cond_true] at hm
        simp (maxSteps := 1000000) -dsimp only [go_sem, Option.getD_none, Option.isSome_none, flC_def]
        refine ⟨by omega, by omega, loop_next (i + 1, L ++ [f]) 5 ⟨by simp only; omega, hm, by simp only [List.length_append, List.length_singleton]; omega, nxt f hfw⟩ (by simp only; omega) ?_ ?_⟩
        · simp -dsimp only [go_sem] <;> simp
        · simp -dsimp only [go_sem, stC] <;> simp [flC, ho]
      | false =>
        rw [ho, Bool.cond_false] at hm
        simp (maxSteps := 1000000) -dsimp only [go_sem, Option.getD_none, Option.isSome_none, flC_def]
        refine .pub 4 _ _ _ rfl (.sel [] (by simp) (by simp [pubH]) rfl (.done ?_))
        simp -dsimp only [go_sem, pubH]
        simpa using bad L (by omega) hw (by unfold msL; rw [← hm]; rfl)
    | some g =>
      rw [hfo] at hm
      simp only at hm
      have hgm := (fF_some hfo).1
      have hgw := gb.fs g hgm
      have hmw := mfF_W hfw hgw
      simp (maxSteps := 1000000) -dsimp only [go_sem, Option.getD_some, Option.isSome_some, flC]
      refine mf_use (f := f) (g := g) hfw.ok hgw.ok ?_
      generalize mfF f g = M at *
      obtain ⟨f', ok⟩ := M
      simp only at hm hmw
      cases ok with
      | true =>
        rw [Bool.cond_true] at hm
        simp (maxSteps := 1000000) -dsimp only [go_sem, flC]
        refine ⟨by omega, by omega, loop_next (i + 1, L ++ [f']) 5 ⟨by simp only; omega, hm, by simp only [List.length_append, List.length_singleton]; omega, nxt f' hmw⟩ (by simp only; omega) ?_ ?_⟩
        · simp -dsimp only [go_sem] <;> simp
        · simp -dsimp only [go_sem, stC] <;> simp [flC]
      | false =>
        rw [Bool.cond_false] at hm
        simp (maxSteps := 1000000) -dsimp only [go_sem, flC]
        refine .pub 4 _ _ _ rfl (.sel [] (by simp) (by simp [pubH]) rfl (.done ?_))
        simp -dsimp only [go_sem, pubH]
        simpa using bad L (by omega) hw (by unfold msL; rw [← hm]; rfl)
  · have hg : decide ((i : Int) < (a.fs.length : Int)) = false := by simp; omega
    obtain rfl : i = a.fs.length := by omega
    rw [List.drop_length, msA] at hm
    simp (maxSteps := 1000000) -dsimp only [go_sem, hg, stC]
    have hL0 : msL a.fs b.fs = msB a.fs L b.fs := by unfold msL; rw [← hm]; rfl
    refine vc_loop (α := Nat × List Fl) (fun z => [(2, .va (.c1 (.pt 0 0))), (4, .va (.c1 (.pt 2 0))), (6, .va (.c1 (.pt 3 0))), (53, .va (.c1 (.fz (b.fs.map flC)))), (54, iS .i64 b.fs.length), (55, iS .i64 z.1)])
      (fun z => [.cells (stC a) 37, .cells (stC b) 37, .cells [.vl (.string (mk [])), .vl (.slice none 0 0)] 37, .cells [.vl (.string a.nm), .sl 4 z.2.length] 37, .row (z.2.map flC) 50 7])
      (fun z => z.1 ≤ b.fs.length ∧ msB a.fs z.2 (b.fs.drop z.1) = msL a.fs b.fs ∧ z.2.length ≤ 100 + z.1 ∧ ∀ f ∈ z.2, FlW f) (fun z => b.fs.length - z.1) (0, L) 5 ⟨Nat.zero_le _, hL0.symm, by simp only; omega, hw⟩ ?_ ?_ ?_
    · simp -dsimp only [go_sem] <;> simp
    · simp -dsimp only [go_sem, stC] <;> simp
    clear hw hL0
    rintro ⟨j, M⟩ ⟨hj, hn, hml, hw⟩
    simp only at hj hn hml hw ⊢
    rcases Nat.lt_or_ge j b.fs.length with hltj | hgej
    · have hgj : decide ((j : Int) < (b.fs.length : Int)) = true := by simp; omega
      obtain ⟨g, hx⟩ : ∃ t, b.fs[j]? = some t := ⟨_, List.getElem?_eq_getElem hltj⟩
      have q1 := row_rg' (row := flC) hx
      have hgm := List.mem_of_getElem? hx
      have hgw := gb.fs g hgm
      have hdr : b.fs.drop j = g :: b.fs.drop (j + 1) := by
        obtain ⟨h, rfl⟩ := List.getElem?_eq_some_iff.1 hx
        exact List.drop_eq_getElem_cons h
      rw [hdr, msB] at hn
      have nxt : ∀ x ∈ M ++ [g], FlW x := fun x hx => by
        rcases List.mem_append.1 hx with hx | hx
        · exact hw x hx
        · obtain rfl := List.mem_singleton.1 hx; exact hgw
      simp (maxSteps := 1000000) -dsimp only [go_sem, hgj, ↓q1, stC, flC]
      refine ⟨by omega, fop_use (t := a) ga.ok ga.sm ?_⟩
      cases hfo : (fF a.fs g.num).isSome with
      | true =>
        rw [hfo, Bool.cond_true] at hn
        simp (maxSteps := 1000000) -dsimp only [go_sem, flC]
        refine ⟨by omega, loop_next (j + 1, M) 5 ⟨by simp only; omega, hn, by simp only; omega, hw⟩ (by simp only; omega) ?_ ?_⟩
        · simp -dsimp only [go_sem] <;> simp
        · simp -dsimp only [go_sem, stC] <;> simp
      | false =>
        rw [hfo, Bool.cond_false] at hn
        simp (maxSteps := 1000000) -dsimp only [go_sem, flC]
        refine ⟨fun ho => ?_, fun ho => ?_⟩
        · rw [ho, Bool.cond_false] at hn
          refine .pub 4 _ _ _ rfl (.sel [] (by simp) (by simp [pubH]) rfl (.done ?_))
          simp -dsimp only [go_sem, pubH]
          simpa using bad M (by omega) hw hn.symm
        · replace ho : g.opt = true := by simpa using ho
          rw [ho, Bool.cond_true] at hn
          refine ⟨by omega, by omega, loop_next (j + 1, M ++ [g]) 5 ⟨by simp only; omega, hn, by simp only [List.length_append, List.length_singleton]; omega, nxt⟩ (by simp only; omega) ?_ ?_⟩
          · simp -dsimp only [go_sem] <;> simp
          · simp -dsimp only [go_sem, stC, ho] <;> simp [flC, ho]
    · have hgj : decide ((j : Int) < (b.fs.length : Int)) = false := by simp; omega
      obtain rfl : j = b.fs.length := by omega
      rw [List.drop_length, msB] at hn
      rw [← hn] at hK
      simp (maxSteps := 1000000) -dsimp only [go_sem, hgj, stC]
      refine srv_use (l := M) (by omega) (fun x hx => by have := (hw x hx).num; omega) fun l' hp hs => ?_
      obtain rfl := sort_unique hp hs (msL_nodup hn.symm na nb)
      have hK : K (.tu [.gs [.vl (.string a.nm), .fz ((sortBy Fl.num M).map flC)], bA true]) [] := hK
      have hML := hp.length_eq
      generalize sortBy Fl.num M = M' at *
      rw [← hML]
      simp (maxSteps := 1000000) -dsimp only [go_sem]
      refine .pub 4 _ _ _ rfl (.sel [] (by simp) (by simp [pubH]) rfl (.done ?_))
      simp -dsimp only [go_sem, pubH]
      simpa using hK
end Go.Proofs.YtbolanmlngjdoaaGreat
namespace Go.Proofs.YtbolanmlngjdoaaGreat
open Go.W
def pcM14_21 : PC := .gh (.ord  [.q ⟨some 102, none, .q (.fa 1 (.t 9))⟩, .q ⟨some 103, none, .l (.ld1 (.t 102))⟩, .q ⟨some 104, none, .q (.fa 0 (.t 13))⟩, .q ⟨some 105, none, .l (.ld1 (.t 104))⟩, .q ⟨some 106, none, .q (.fa 1 (.t 13))⟩, .q ⟨some 107, none, .l (.ld1 (.t 106))⟩, .q ⟨some 109, none, .q (.fa 2 (.t 13))⟩, .q ⟨some 110, none, .l (.ld1 (.t 109))⟩, .m ⟨some 108, none, .cl 40 [(.t 107)] []⟩, .rc ⟨some 102, none, .q (.fa 1 (.t 9))⟩, .rc ⟨some 103, none, .l (.ld1 (.t 102))⟩, .rc ⟨some 104, none, .q (.fa 0 (.t 13))⟩, .rc ⟨some 105, none, .l (.ld1 (.t 104))⟩, .rc ⟨some 109, none, .q (.fa 2 (.t 13))⟩, .rc ⟨some 110, none, .l (.ld1 (.t 109))⟩, .m ⟨some 111, none, .cl 41 [(.t 110)] []⟩, .rc ⟨some 102, none, .q (.fa 1 (.t 9))⟩, .rc ⟨some 103, none, .l (.ld1 (.t 102))⟩, .rc ⟨some 104, none, .q (.fa 0 (.t 13))⟩, .rc ⟨some 105, none, .l (.ld1 (.t 104))⟩, .q ⟨some 112, none, .q (.bd [(.string (mk [])), (.slice none 0 0), (.slice none 0 0)] [(0, 1, (.t 105)), (1, 1, (.t 108)), (2, 1, (.t 111))])⟩, .m ⟨some 113, none, .e (.bsl 60 3 [(.t 112)])⟩, .rc ⟨some 102, none, .q (.fa 1 (.t 9))⟩, .rc ⟨some 103, none, .l (.ld1 (.t 102))⟩, .m ⟨some 114, none, .e (.ap 60 3 64 (.t 103) (.t 113))⟩, .q ⟨some 115, none, .q (.fa 1 (.t 9))⟩, .m ⟨none, none, .e (.st 1 (.t 115) (.t 114))⟩])
@[go_sem ↓] theorem foldM14_21 (Γ : Env) (k0 : Nat) (fr : Fr) (H : Hp) (K : Ex → Fr → Hp → Prop) : vc Γ k0 pcM14_21 fr H K = vcn Γ k0 pcM14_21 fr H K ⟨⟩ := rfl
def pcM14_39 : PC := .gh (.reg  [⟨some 172, none, .q (.fa 2 (.t 9))⟩, ⟨some 173, none, .l (.ld1 (.t 172))⟩, ⟨some 174, none, .l (.ldn 2 (.t 28))⟩, ⟨some 175, none, .e (.bsl 37 2 [(.t 174)])⟩, ⟨some 176, none, .e (.ap 37 2 40 (.t 173) (.t 175))⟩, ⟨some 177, none, .q (.fa 2 (.t 9))⟩, ⟨none, none, .e (.st 1 (.t 177) (.t 176))⟩])
@[go_sem ↓] theorem foldM14_39 (Γ : Env) (k0 : Nat) (fr : Fr) (H : Hp) (K : Ex → Fr → Hp → Prop) : vc Γ k0 pcM14_39 fr H K = vcn Γ k0 pcM14_39 fr H K ⟨⟩ := rfl
def pcM14_32 : PC := .seq (.gh (.reg  [⟨some 151, none, .q (.fa 0 (.t 21))⟩, ⟨some 152, none, .l (.ld1 (.t 151))⟩, ⟨some 153, none, .q (.bd [(.string (mk [])), (.slice none 0 0)] [(0, 1, (.t 152))])⟩, ⟨some 28, none, .e (.al (.agg #[(.string (mk [])), (.slice none 0 0)]) 37)⟩, ⟨none, none, .e (.st 2 (.t 28) (.t 153))⟩])) (.seq (.seq (.reg  [⟨some 154, none, .q (.fa 1 (.t 21))⟩, ⟨some 155, none, .l (.ld1 (.t 154))⟩, ⟨some 156, none, .q (.lnL (.t 155))⟩, ⟨some 157, none, .q (.mv (.k (.int .i64 0)))⟩]) (.block 6 (.loop (.seq (.reg  [⟨some 158, none, .q (.bin .lss true (.t 157) (.t 156))⟩]) (.seq (.cond (.t 158) (.skip) (.exit 6)) (.seq (.block 7 (.seq (.reg  [⟨some 159, none, .l (.ia 7 (.t 155) (.t 157))⟩, ⟨some 160, none, .l (.ldn 7 (.t 159))⟩, ⟨some 30, none, .e (.al (.agg #[(.int .i64 0), (.string (mk [])), (.int .i64 0), (.int .i64 0), (.string (mk [])), (.slice none 0 0), (.bool false)]) 50)⟩, ⟨none, none, .e (.st 7 (.t 30) (.t 160))⟩]) (.seq (.reg  [⟨some 161, none, .q (.fa 2 (.t 30))⟩, ⟨some 162, none, .l (.ldn 4 (.t 161))⟩, ⟨some 163, none, .cl 43 [(.t 162)] []⟩, ⟨some 164, none, .q (.fa 2 (.t 30))⟩, ⟨none, none, .e (.st 4 (.t 164) (.t 163))⟩]) (.reg  [⟨some 165, none, .q (.fa 1 (.t 28))⟩, ⟨some 166, none, .l (.ld1 (.t 165))⟩, ⟨some 167, none, .l (.ldn 7 (.t 30))⟩, ⟨some 168, none, .e (.bsl 50 7 [(.t 167)])⟩, ⟨some 169, none, .e (.ap 50 7 88 (.t 166) (.t 168))⟩, ⟨some 170, none, .q (.fa 1 (.t 28))⟩, ⟨none, none, .e (.st 1 (.t 170) (.t 169))⟩])))) (.reg  [⟨some 171, none, .q (.bin .add true (.t 157) (.k (.int .i64 1)))⟩, ⟨some 157, none, .q (.mv (.t 171))⟩]))))))) (pcM14_39))
@[go_sem ↓] theorem foldM14_32 (Γ : Env) (k0 : Nat) (fr : Fr) (H : Hp) (K : Ex → Fr → Hp → Prop) : vc Γ k0 pcM14_32 fr H K = vcn Γ k0 pcM14_32 fr H K ⟨⟩ := rfl
def pcM14 : PC := .seq (.reg  [⟨some 2, none, .e (.bx 25 (.t 0))⟩, ⟨some 3, none, .e (.bx 25 (.t 1))⟩, ⟨some 4, none, .e (.al (.agg #[(.int .i64 0), (.slice none 0 0), (.slice none 0 0)]) 25)⟩, ⟨some 5, none, .q (.mv (.k (.int .i64 0)))⟩]) (.seq (.seq (.reg  [⟨some 32, none, .l (.ldn 3 (.t 2))⟩, ⟨some 33, none, .cq 18 [(.t 32)]⟩, ⟨some 6, none, .q (.mv (.t 33))⟩]) (.seq (.reg  [⟨some 34, none, .q (.mv (.t 6))⟩, ⟨some 35, none, .q (.bin .neq true (.t 34) (.k (.int .i64 0)))⟩]) (.cond (.t 35) (.seq (.reg  [⟨some 36, none, .q (.bd [(.int .i64 0), (.slice none 0 0), (.slice none 0 0)] [])⟩, ⟨some 37, none, .q (.mv (.t 6))⟩, ⟨none, none, .e (.st 3 (.t 4) (.t 36))⟩, ⟨some 5, none, .q (.mv (.t 37))⟩]) (.ret)) (.skip)))) (.seq (.seq (.reg  [⟨some 38, none, .l (.ldn 3 (.t 3))⟩, ⟨some 39, none, .cq 18 [(.t 38)]⟩, ⟨some 7, none, .q (.mv (.t 39))⟩]) (.seq (.reg  [⟨some 40, none, .q (.mv (.t 7))⟩, ⟨some 41, none, .q (.bin .neq true (.t 40) (.k (.int .i64 0)))⟩]) (.cond (.t 41) (.seq (.reg  [⟨some 42, none, .q (.bd [(.int .i64 0), (.slice none 0 0), (.slice none 0 0)] [])⟩, ⟨some 43, none, .q (.mv (.t 7))⟩, ⟨none, none, .e (.st 3 (.t 4) (.t 42))⟩, ⟨some 5, none, .q (.mv (.t 43))⟩]) (.ret)) (.skip)))) (.seq (.reg  [⟨some 44, none, .l (.ldn 3 (.t 2))⟩, ⟨some 45, none, .l (.ldn 3 (.t 3))⟩, ⟨some 46, none, .cq 38 [(.t 44), (.t 45)]⟩, ⟨some 47, none, .q (.not (.t 46))⟩, ⟨some 48, none, .q (.mv (.t 47))⟩, ⟨some 49, (some (48, true)), .l (.ldn 3 (.t 3))⟩, ⟨some 50, (some (48, true)), .l (.ldn 3 (.t 2))⟩, ⟨some 51, (some (48, true)), .cq 38 [(.t 49), (.t 50)]⟩, ⟨some 52, (some (48, true)), .q (.not (.t 51))⟩, ⟨some 53, none, .pick (.t 48) (.t 52) (.k (.bool false))⟩, ⟨some 8, none, .q (.mv (.t 53))⟩]) (.seq (.reg  [⟨some 54, none, .q (.fa 0 (.t 2))⟩, ⟨some 55, none, .l (.ld1 (.t 54))⟩, ⟨some 56, none, .q (.fa 0 (.t 3))⟩, ⟨some 57, none, .l (.ld1 (.t 56))⟩, ⟨some 58, none, .q (.mx true (.t 55) (.t 57))⟩, ⟨some 59, none, .q (.bd [(.int .i64 0), (.slice none 0 0), (.slice none 0 0)] [(0, 1, (.t 58))])⟩, ⟨some 9, none, .e (.al (.agg #[(.int .i64 0), (.slice none 0 0), (.slice none 0 0)]) 25)⟩, ⟨none, none, .e (.st 3 (.t 9) (.t 59))⟩]) (.seq (.seq (.reg  [⟨some 60, none, .l (.ldn 3 (.t 2))⟩, ⟨some 61, none, .l (.ldn 3 (.t 3))⟩, ⟨some 62, none, .e (.bsl 25 3 [(.t 60), (.t 61)])⟩, ⟨some 63, none, .q (.lnL (.t 62))⟩, ⟨some 64, none, .q (.mv (.k (.int .i64 0)))⟩]) (.block 0 (.loop (.seq (.reg  [⟨some 65, none, .q (.bin .lss true (.t 64) (.t 63))⟩]) (.seq (.cond (.t 65) (.skip) (.exit 0)) (.seq (.block 1 (.seq (.reg  [⟨some 66, none, .l (.ia 3 (.t 62) (.t 64))⟩, ⟨some 67, none, .l (.ldn 3 (.t 66))⟩, ⟨some 11, none, .e (.al (.agg #[(.int .i64 0), (.slice none 0 0), (.slice none 0 0)]) 25)⟩, ⟨none, none, .e (.st 3 (.t 11) (.t 67))⟩]) (.seq (.seq (.reg  [⟨some 68, none, .q (.fa 1 (.t 11))⟩, ⟨some 69, none, .l (.ld1 (.t 68))⟩, ⟨some 70, none, .q (.lnL (.t 69))⟩, ⟨some 71, none, .q (.mv (.k (.int .i64 0)))⟩]) (.block 2 (.loop (.seq (.reg  [⟨some 72, none, .q (.bin .lss true (.t 71) (.t 70))⟩]) (.seq (.cond (.t 72) (.skip) (.exit 2)) (.seq (.block 3 (.seq (.reg  [⟨some 73, none, .l (.ia 3 (.t 69) (.t 71))⟩, ⟨some 74, none, .l (.ldn 3 (.t 73))⟩, ⟨some 13, none, .e (.al (.agg #[(.string (mk [])), (.slice none 0 0), (.slice none 0 0)]) 60)⟩, ⟨none, none, .e (.st 3 (.t 13) (.t 74))⟩]) (.seq (.seq (.reg  [⟨some 76, none, .l (.ldn 3 (.t 9))⟩, ⟨some 77, none, .q (.fa 0 (.t 13))⟩, ⟨some 78, none, .l (.ld1 (.t 77))⟩, ⟨some 79, none, .cl 23 [(.t 76), (.t 78)] [5, 6]⟩, ⟨some 75, none, .q (.mv (.t 79))⟩, ⟨some 80, none, .q (.ex (.t 75) 0)⟩, ⟨some 81, none, .q (.ex (.t 75) 1)⟩, ⟨some 14, none, .e (.al (.agg #[(.string (mk [])), (.slice none 0 0), (.slice none 0 0)]) 60)⟩, ⟨none, none, .e (.st 3 (.t 14) (.t 80))⟩, ⟨some 15, none, .q (.mv (.t 81))⟩]) (.seq (.reg  [⟨some 82, none, .q (.mv (.t 15))⟩]) (.cond (.t 82) (.exit 3) (.skip)))) (.seq (.seq (.reg  [⟨some 84, none, .l (.ldn 3 (.t 3))⟩, ⟨some 85, none, .q (.fa 0 (.t 13))⟩, ⟨some 86, none, .l (.ld1 (.t 85))⟩, ⟨some 87, none, .cl 23 [(.t 84), (.t 86)] []⟩, ⟨some 83, none, .q (.mv (.t 87))⟩, ⟨some 88, none, .q (.ex (.t 83) 0)⟩, ⟨some 89, none, .q (.ex (.t 83) 1)⟩, ⟨some 16, none, .e (.al (.agg #[(.string (mk [])), (.slice none 0 0), (.slice none 0 0)]) 60)⟩, ⟨none, none, .e (.st 3 (.t 16) (.t 88))⟩, ⟨some 17, none, .q (.mv (.t 89))⟩]) (.seq (.reg  [⟨some 90, none, .q (.mv (.t 17))⟩]) (.cond (.t 90) (.seq (.reg  [⟨some 92, none, .l (.ldn 3 (.t 13))⟩, ⟨some 93, none, .l (.ldn 3 (.t 16))⟩, ⟨some 94, none, .cl 39 [(.t 92), (.t 93)] []⟩, ⟨some 91, none, .q (.mv (.t 94))⟩, ⟨some 95, none, .q (.ex (.t 91) 0)⟩, ⟨some 96, none, .q (.ex (.t 91) 1)⟩, ⟨some 18, none, .e (.al (.agg #[(.string (mk [])), (.slice none 0 0), (.slice none 0 0)]) 60)⟩, ⟨none, none, .e (.st 3 (.t 18) (.t 95))⟩, ⟨some 19, none, .q (.mv (.t 96))⟩]) (.reg  [⟨some 97, none, .l (.ldn 3 (.t 18))⟩, ⟨some 98, none, .q (.mv (.t 8))⟩, ⟨some 99, none, .q (.mv (.t 98))⟩, ⟨some 100, (some (99, true)), .q (.mv (.t 19))⟩, ⟨some 101, none, .pick (.t 99) (.t 100) (.k (.bool false))⟩, ⟨none, none, .e (.st 3 (.t 13) (.t 97))⟩, ⟨some 8, none, .q (.mv (.t 101))⟩])) (.skip)))) (pcM14_21))))) (.reg  [⟨some 116, none, .q (.bin .add true (.t 71) (.k (.int .i64 1)))⟩, ⟨some 71, none, .q (.mv (.t 116))⟩]))))))) (.seq (.reg  [⟨some 117, none, .q (.fa 2 (.t 11))⟩, ⟨some 118, none, .l (.ld1 (.t 117))⟩, ⟨some 119, none, .q (.lnL (.t 118))⟩, ⟨some 120, none, .q (.mv (.k (.int .i64 0)))⟩]) (.block 4 (.loop (.seq (.reg  [⟨some 121, none, .q (.bin .lss true (.t 120) (.t 119))⟩]) (.seq (.cond (.t 121) (.skip) (.exit 4)) (.seq (.block 5 (.seq (.reg  [⟨some 122, none, .l (.ia 2 (.t 118) (.t 120))⟩, ⟨some 123, none, .l (.ldn 2 (.t 122))⟩, ⟨some 21, none, .e (.al (.agg #[(.string (mk [])), (.slice none 0 0)]) 37)⟩, ⟨none, none, .e (.st 2 (.t 21) (.t 123))⟩]) (.seq (.seq (.reg  [⟨some 125, none, .l (.ldn 3 (.t 9))⟩, ⟨some 126, none, .q (.fa 0 (.t 21))⟩, ⟨some 127, none, .l (.ld1 (.t 126))⟩, ⟨some 128, none, .cl 20 [(.t 125), (.t 127)] [5, 6]⟩, ⟨some 124, none, .q (.mv (.t 128))⟩, ⟨some 129, none, .q (.ex (.t 124) 0)⟩, ⟨some 130, none, .q (.ex (.t 124) 1)⟩, ⟨some 22, none, .e (.al (.agg #[(.string (mk [])), (.slice none 0 0)]) 37)⟩, ⟨none, none, .e (.st 2 (.t 22) (.t 129))⟩, ⟨some 23, none, .q (.mv (.t 130))⟩]) (.seq (.reg  [⟨some 131, none, .q (.mv (.t 23))⟩]) (.cond (.t 131) (.exit 5) (.skip)))) (.seq (.seq (.reg  [⟨some 133, none, .l (.ldn 3 (.t 3))⟩, ⟨some 134, none, .q (.fa 0 (.t 21))⟩, ⟨some 135, none, .l (.ld1 (.t 134))⟩, ⟨some 136, none, .cl 20 [(.t 133), (.t 135)] []⟩, ⟨some 132, none, .q (.mv (.t 136))⟩, ⟨some 137, none, .q (.ex (.t 132) 0)⟩, ⟨some 138, none, .q (.ex (.t 132) 1)⟩, ⟨some 24, none, .e (.al (.agg #[(.string (mk [])), (.slice none 0 0)]) 37)⟩, ⟨none, none, .e (.st 2 (.t 24) (.t 137))⟩, ⟨some 25, none, .q (.mv (.t 138))⟩]) (.seq (.reg  [⟨some 139, none, .q (.mv (.t 25))⟩]) (.cond (.t 139) (.seq (.reg  [⟨some 141, none, .l (.ldn 2 (.t 21))⟩, ⟨some 142, none, .l (.ldn 2 (.t 24))⟩, ⟨some 143, none, .cl 42 [(.t 141), (.t 142)] []⟩, ⟨some 140, none, .q (.mv (.t 143))⟩, ⟨some 144, none, .q (.ex (.t 140) 0)⟩, ⟨some 145, none, .q (.ex (.t 140) 1)⟩, ⟨some 26, none, .e (.al (.agg #[(.string (mk [])), (.slice none 0 0)]) 37)⟩, ⟨none, none, .e (.st 2 (.t 26) (.t 144))⟩, ⟨some 27, none, .q (.mv (.t 145))⟩]) (.reg  [⟨some 146, none, .l (.ldn 2 (.t 26))⟩, ⟨some 147, none, .q (.mv (.t 8))⟩, ⟨some 148, none, .q (.mv (.t 147))⟩, ⟨some 149, (some (148, true)), .q (.mv (.t 27))⟩, ⟨some 150, none, .pick (.t 148) (.t 149) (.k (.bool false))⟩, ⟨none, none, .e (.st 2 (.t 21) (.t 146))⟩, ⟨some 8, none, .q (.mv (.t 150))⟩])) (.skip)))) (pcM14_32))))) (.reg  [⟨some 178, none, .q (.bin .add true (.t 120) (.k (.int .i64 1)))⟩, ⟨some 120, none, .q (.mv (.t 178))⟩])))))))))) (.reg  [⟨some 179, none, .q (.bin .add true (.t 64) (.k (.int .i64 1)))⟩, ⟨some 64, none, .q (.mv (.t 179))⟩]))))))) (.seq (.seq (.reg  [⟨some 180, none, .q (.mv (.t 8))⟩, ⟨some 181, none, .q (.not (.t 180))⟩]) (.cond (.t 181) (.seq (.reg  [⟨some 182, none, .q (.bd [(.int .i64 0), (.slice none 0 0), (.slice none 0 0)] [])⟩, ⟨none, none, .e (.st 3 (.t 4) (.t 182))⟩, ⟨some 5, none, .q (.mv (.k (.int .i64 14)))⟩]) (.ret)) (.skip))) (.seq (.seq (.reg  [⟨some 183, none, .l (.ldn 3 (.t 9))⟩, ⟨some 184, none, .cq 18 [(.t 183)]⟩, ⟨some 31, none, .q (.mv (.t 184))⟩]) (.seq (.reg  [⟨some 185, none, .q (.mv (.t 31))⟩, ⟨some 186, none, .q (.bin .neq true (.t 185) (.k (.int .i64 0)))⟩]) (.cond (.t 186) (.seq (.reg  [⟨some 187, none, .q (.bd [(.int .i64 0), (.slice none 0 0), (.slice none 0 0)] [])⟩, ⟨some 188, none, .q (.mv (.t 31))⟩, ⟨none, none, .e (.st 3 (.t 4) (.t 187))⟩, ⟨some 5, none, .q (.mv (.t 188))⟩]) (.ret)) (.skip)))) (.seq (.reg  [⟨some 189, none, .l (.ldn 3 (.t 9))⟩, ⟨none, none, .e (.st 3 (.t 4) (.t 189))⟩, ⟨some 5, none, .q (.mv (.k (.int .i64 0)))⟩]) (.ret)))))))))
def rsM14 : List RV := [.ld (.ldn 3 (.t 4)), .mv (.t 5)]
theorem okM14 : trFn Tryz.prog true ⟨fun r k => if r = 1 ∧ k = 1 then .q else if r = 4 ∧ k = 1 then .q else if r = 7 ∧ k = 2 then .q else if r = 7 ∧ k = 7 then .q else if r = 15 ∧ k = 3 then .own [5, 6] else if r = 26 ∧ k = 3 then .own [5, 6] else if r = 44 ∧ k = 1 then .q else .own [], fun r => [32, 21, 39].contains r⟩ Tryz.f14 = some (pcM14, rsM14) := by kernel_rfl
end Go.Proofs.YtbolanmlngjdoaaGreat
