/- Lemmas and walks for the proof. -/
import Derived.Test.YtbolanmlngjdoaaWc
import Derived.Test.YtbolanmlngjdoaaProg
import Derived.WalkKit
import Derived.Sort.Grow
import Derived.Lib.Bytealg
import Derived.Deep.Draws
import Derived.StillTail
import Derived.StillTactics
import Derived.Shelf.SlSortCmp.NoneTotal
import Derived.Shelf.Small.Strs
import Derived.ProofKit
import Derived.OpenShut
import Derived.ChangeStays
import Derived.Deep.Slices
import Derived.JoinedCond
import Derived.Shelf.Slices.Clone
import Derived.KernelRfl
namespace Go.Proofs.Ytbolanmlngjdoaa
open Go.W
@[go_sem] theorem tyC_bor (t : Ty) (H : Hp) : (tyC t).map (C.bor H) = tyC t := by rw [tyC_eq]; rfl
noncomputable def tyB (a b : Ty) : Bool := @decide (a = b) (Classical.propDecidable _)
theorem tyB_eq {a b : Ty} (h : a = b) : tyB a b = true := by unfold tyB; simp [h]
theorem tyB_ne {a b : Ty} (h : a ≠ b) : tyB a b = false := by unfold tyB; simp [h]
theorem tyB_iff {a b : Ty} : tyB a b = true ↔ a = b := by unfold tyB; simp
def saPre (N : Nat) : List S → Prop := fun av => match av with
  | [.va (.gs r), .va (.gs q)] => isTy r ∧ isTy q ∧ (C.ty r).h ≤ N
  | _ => False
theorem saPre_open {N : Nat} {av : List S} (h : saPre N av) : ∃ a b, av = [.va (.gs (tyC a)), .va (.gs (tyC b))] ∧ TyOk a ∧ TyOk b ∧ a.h ≤ N := by
  unfold saPre at h
  split at h
  · obtain ⟨⟨a, rfl, ha⟩, ⟨b, rfl, hb⟩, hh⟩ := h
    rw [ty_dec] at hh
    exact ⟨a, b, rfl, ha, hb, hh⟩
  · exact h.elim
noncomputable def saVal : List S → A := fun av => match av with
  | [.va (.gs r), .va (.gs q)] => bA (tyB (C.ty r) (C.ty q))
  | _ => .gs []
noncomputable def saFn (N : Nat) : Fun := ⟨saPre N, saVal, fun av h => by obtain ⟨a, b, rfl, _⟩ := saPre_open h; trivial⟩
theorem saFn_len {N : Nat} : ∀ av H K, (saFn N).sp av H K → av.length = 2 := fun av H K h => by obtain ⟨a, b, rfl, _⟩ := saPre_open h.1.1; rfl
attribute [go_sem] saFn saPre saVal
theorem mk_eq {k s k' s' : Int} {n n' : ByteArray} {e e' : List Ty} : (Ty.mk k s n e = Ty.mk k' s' n' e') ↔ (k = k' ∧ s = s' ∧ n = n' ∧ e = e') := by simp
set_option maxRecDepth 100000 in
theorem mSameP : ∀ N, Meets Try.prog 10 (saFn N).sp
  | 0 => ⟨by kernel_rfl, by rintro xs vs E ro w K _ _ _ ⟨⟨h, _⟩, _⟩; obtain ⟨a, _, _, _, _, h⟩ := saPre_open h; have := a.h_pos; omega⟩
  | N + 1 => by
    refine meets_fn Try.func10 ok10 2 (by rw [Try.ntmps10]; decide) (meetsAll_f (mSameP N) (meetsAll_nil _)) saFn_len ?_
    rintro av H K ⟨⟨h, rfl⟩, hK⟩
    obtain ⟨a, b, rfl, ha, hb, hh⟩ := saPre_open h
    have hK : K (bS (tyB a b)) [] := by
      have : (saFn (N + 1)).val [.va (.gs (tyC a)), .va (.gs (tyC b))] = bA (tyB a b) := by simp -dsimp only [go_sem]
      rw [this] at hK; exact hK
    clear h
    have fin : ∀ (x : Bool) (R : Hp), tyB a b = x → W.Fin 0 K (bS x) R := fun x R h => by
      rw [h] at hK
      exact .sel [] (by simp) (by simp) rfl (.done (by simpa [go_sem] using hK))
    obtain ⟨k, s, n, e⟩ := a
    obtain ⟨k', s', n', e'⟩ := b
    have hla := ha.len
    have hoa := ha.e
    have hob := hb.e
    simp only [Ty.e] at hla hoa hob
    simp (maxSteps := 1000000) -dsimp only [go_sem, tyC, tysC_map, pc10, rs10, bl_beq]
    refine ⟨fun h1 => fin false _ (tyB_ne fun he => ?_), fun h1 => ?_⟩
    · obtain ⟨rfl, rfl, rfl, rfl⟩ := mk_eq.1 he
      simp at h1
    simp only [Bool.or_eq_false_iff, bne_eq_false_iff_eq, Bool.not_eq_false', decide_eq_true_eq] at h1
    obtain ⟨⟨⟨rfl, rfl⟩, rfl⟩, hl⟩ := h1
    have hl : e.length = e'.length := by omega
    refine vc_loop (α := Nat) (fun i => [(2, .va (.c1 (.pt 0 0))), (3, .va (.c1 (.pt 1 0))), (36, iS .i64 e.length), (37, iS .i64 i)]) (fun i => [.cells (tyC (.mk k s n e)) 24, .cells (tyC (.mk k s n e')) 24])
      (fun i => i ≤ e.length ∧ ∀ j, j < i → e[j]? = e'[j]?) (fun i => e.length - i) 0 2 ⟨Nat.zero_le _, fun j hj => by omega⟩ ?_ ?_ ?_
    · simp -dsimp only [go_sem] <;> simp
    · simp -dsimp only [go_sem, tyC, tysC_map] <;> simp
    rintro i ⟨hi, ho⟩
    rcases Nat.lt_or_ge i e.length with hlt | hge
    · have hg : decide ((i : Int) < (e.length : Int)) = true := by simp; omega
      obtain ⟨u, hx⟩ : ∃ t, e[i]? = some t := ⟨_, List.getElem?_eq_getElem hlt⟩
      obtain ⟨v, hy⟩ : ∃ t, e'[i]? = some t := ⟨_, List.getElem?_eq_getElem (by omega)⟩
      have q1 := row_rg' (row := tyC) hx
      have q2 := row_rg' (row := tyC) hy
      have hu : isTy (tyC u) := isTy_mk (hoa u (List.mem_of_getElem? hx))
      have hv : isTy (tyC v) := isTy_mk (hob v (List.mem_of_getElem? hy))
      have huh : u.h ≤ N := by have := Ty.hs_mem (List.mem_of_getElem? hx); rw [Ty.h] at hh; omega
      simp (maxSteps := 1000000) -dsimp only [go_sem, hg, tyC, tysC_map]
      simp (maxSteps := 1000000) -dsimp only [go_sem, tyC_len, hu, hv, hx, hy, Option.some.injEq, forall_eq']
      refine ⟨by omega, by omega, huh, fun h1 => fin false _ (tyB_ne fun he => ?_), fun h1 => ?_⟩
      · obtain ⟨_, _, _, rfl⟩ := mk_eq.1 he
        rw [hx] at hy
        rw [tyB_eq (Option.some.inj hy)] at h1
        simp at h1
      · have h1 : u = v := tyB_iff.1 (by simpa using h1)
        subst h1
        refine ⟨by omega, loop_next (i + 1) 2 ⟨by omega, fun j hj => ?_⟩ (by omega) ?_ ?_⟩
        · rcases Nat.lt_or_ge j i with h4 | h4
          · exact ho j h4
          · obtain rfl : j = i := by omega
            rw [hx, hy]
        · simp -dsimp only [go_sem] <;> simp
        · simp -dsimp only [go_sem, tyC, tysC_map] <;> simp
    · have hg : decide ((i : Int) < (e.length : Int)) = false := by simp; omega
      obtain rfl : i = e.length := by omega
      simp (maxSteps := 1000000) -dsimp only [go_sem, hg]
      refine fin true _ (tyB_eq ?_)
      rw [mk_eq]
      refine ⟨rfl, rfl, rfl, List.ext_getElem? fun j => ?_⟩
      rcases Nat.lt_or_ge j e.length with h4 | h4
      · exact ho j h4
      · rw [List.getElem?_eq_none h4, List.getElem?_eq_none (by omega)]
def sPre : List S → Prop := fun av => match av with
  | [.va (.gs r), .va (.gs q)] => isTy r ∧ isTy q
  | _ => False
theorem sPre_open {av : List S} (h : sPre av) : ∃ a b, av = [.va (.gs (tyC a)), .va (.gs (tyC b))] ∧ TyOk a ∧ TyOk b := by
  unfold sPre at h
  split at h
  · obtain ⟨⟨a, rfl, ha⟩, ⟨b, rfl, hb⟩⟩ := h
    exact ⟨a, b, rfl, ha, hb⟩
  · exact h.elim
noncomputable def sFn : Fun := ⟨sPre, saVal, fun av h => by obtain ⟨a, b, rfl, _⟩ := sPre_open h; trivial⟩
attribute [go_sem] sFn sPre
theorem mSameS : Meets Try.prog 10 sFn.sp := meets_all 0 mSameP fun av H K ⟨⟨h, e⟩, hK⟩ => by
  obtain ⟨a, b, rfl, ha, hb⟩ := sPre_open h
  exact ⟨a.h, ⟨⟨⟨isTy_mk ha, isTy_mk hb, by rw [ty_dec]; exact Nat.le_refl _⟩, e⟩, hK⟩⟩
end Go.Proofs.Ytbolanmlngjdoaa
namespace Go.Proofs.Ytbolanmlngjdoaa
open Go.W
noncomputable def widN : Nat → Ty → Ty → Bool
  | 0, a, b => tyB a b
  | n + 1, a, b => tyB a b || (decide (a.k = b.k) && decide (a.n = b.n) && (bif decide (a.k = 5) then decide (a.e.length = 1) && decide (b.e.length = 1) && decide (a.s ≤ b.s) && widN n (a.e.headD default) (b.e.headD default)
      else (decide (a.k = 2) || decide (a.k = 3) || decide (a.k = 4)) && decide (a.s < b.s) && tyB a (.mk b.k a.s b.n b.e)))
noncomputable def widF (a b : Ty) : Bool := widN a.h a b
theorem h_pos (t : Ty) : 0 < t.h := by cases t; rw [Ty.h]; omega
theorem head_mem {l : List Ty} (h : l.length = 1) : l.headD default ∈ l := by
  match l, h with
  | [x], _ => simp
theorem widN_more : ∀ {n m : Nat} {a b : Ty}, a.h ≤ n → a.h ≤ m → widN n a b = widN m a b
  | 0, _, a, _, h, _ => by have := h_pos a; omega
  | _ + 1, 0, a, _, _, h => by have := h_pos a; omega
  | n + 1, m + 1, a, b, h1, h2 => by
    rw [widN, widN]
    by_cases hl : a.e.length = 1
    · have hh := Ty.h_e (head_mem hl)
      rw [widN_more (n := n) (m := m) (by omega) (by omega)]
    · simp [hl]
theorem widF_step (a b : Ty) : widF a b = (tyB a b || (decide (a.k = b.k) && decide (a.n = b.n) && (bif decide (a.k = 5) then decide (a.e.length = 1) && decide (b.e.length = 1) && decide (a.s ≤ b.s) && widF (a.e.headD default) (b.e.headD default)
      else (decide (a.k = 2) || decide (a.k = 3) || decide (a.k = 4)) && decide (a.s < b.s) && tyB a (.mk b.k a.s b.n b.e)))) := by
  obtain ⟨m, hm⟩ : ∃ m, a.h = m + 1 := ⟨a.h - 1, by have := h_pos a; omega⟩
  unfold widF
  rw [hm, widN]
  by_cases hl : a.e.length = 1
  · have hh := Ty.h_e (head_mem hl)
    rw [widN_more (n := m) (m := (a.e.headD default).h) (by omega) (Nat.le_refl _)]
  · simp [hl]
theorem widF_refl (a : Ty) : widF a a = true := by rw [widF_step, tyB_eq rfl, Bool.true_or]
theorem widF_iff {a b : Ty} : widF a b = true ↔ a = b ∨ (a.k = b.k ∧ a.n = b.n ∧ ((a.k = 5 ∧ a.e.length = 1 ∧ b.e.length = 1 ∧ a.s ≤ b.s ∧ widF (a.e.headD default) (b.e.headD default) = true) ∨ (a.k ≠ 5 ∧ (a.k = 2 ∨ a.k = 3 ∨ a.k = 4) ∧ a.s < b.s ∧ a.e = b.e))) := by
  rw [widF_step]
  have hx : tyB a (.mk b.k a.s b.n b.e) = true ↔ (a.k = b.k ∧ a.n = b.n ∧ a.e = b.e) := by
    rw [tyB_iff]
    cases a with
    | mk k s n e => simp [Ty.k, Ty.s, Ty.n, Ty.e]
  by_cases h5 : a.k = 5
  · simp only [Bool.or_eq_true, Bool.and_eq_true, decide_eq_true_eq, tyB_iff, h5, decide_true, Bool.cond_true, true_and, not_true, ne_eq, false_and, or_false]
    simp only [and_assoc]
  · simp only [Bool.or_eq_true, Bool.and_eq_true, decide_eq_true_eq, tyB_iff, h5, decide_false, Bool.cond_false, false_and, false_or, ne_eq, not_false_eq_true, true_and, hx]
    constructor
    · rintro (h | ⟨⟨h1, h2⟩, ⟨h3, h4⟩, h5, h6, h7⟩)
      · exact .inl h
      · exact .inr ⟨h1, h2, by omega, h4, h7⟩
    · rintro (h | ⟨h1, h2, h3, h4, h5⟩)
      · exact .inl h
      · exact .inr ⟨⟨h1, h2⟩, ⟨by omega, h4⟩, h1, h2, h5⟩
theorem widF_trans : ∀ {n : Nat} {a b c : Ty}, a.h ≤ n → widF a b = true → widF b c = true → widF a c = true
  | 0, a, _, _, h, _, _ => by have := h_pos a; omega
  | n + 1, a, b, c, h, h1, h2 => by
    rw [widF_iff] at h1 h2
    rcases h1 with rfl | ⟨k1, n1, h1⟩
    · rwa [widF_iff]
    rcases h2 with rfl | ⟨k2, n2, h2⟩
    · rw [widF_iff]; exact .inr ⟨k1, n1, h1⟩
    rw [widF_iff]
    refine .inr ⟨k1.trans k2, n1.trans n2, ?_⟩
    rcases h1 with ⟨a1, a2, a3, a4, a5⟩ | ⟨a1, a2, a3, a4⟩
    · rcases h2 with ⟨b1, b2, b3, b4, b5⟩ | ⟨b1, _⟩
      · have hh := Ty.h_e (head_mem a2)
        exact .inl ⟨a1, a2, b3, by omega, widF_trans (n := n) (by omega) a5 b5⟩
      · exact absurd (k1 ▸ a1) b1
    · rcases h2 with ⟨b1, _⟩ | ⟨b1, b2, b3, b4⟩
      · exact absurd (k1.trans b1) a1
      · exact .inr ⟨a1, a2, by omega, a4.trans b4⟩
noncomputable def tlB (a b : List Ty) : Bool := @decide (a = b) (Classical.propDecidable _)
theorem tlB_iff {a b : List Ty} : tlB a b = true ↔ a = b := by unfold tlB; simp
theorem widF_ref (a b : Ty) : widF a b = (tyB a b || (decide (a.k = b.k) && decide (a.n = b.n) && decide (a.e.length = b.e.length) &&
    (bif decide (a.k = 2) || decide (a.k = 3) then decide (a.s < b.s) && tlB a.e b.e else bif decide (a.k = 4) then decide (a.s ≤ b.s) && tlB a.e b.e else bif decide (a.k = 5) then decide (a.s ≤ b.s) && decide (a.e.length = 1) && widF (a.e.headD default) (b.e.headD default) else false))) := by
  rw [Bool.eq_iff_iff, widF_iff]
  have he : a = b ↔ (a.k = b.k ∧ a.s = b.s ∧ a.n = b.n ∧ a.e = b.e) := by
    cases a; cases b; simp [Ty.k, Ty.s, Ty.n, Ty.e]
  simp only [Bool.or_eq_true, Bool.and_eq_true, decide_eq_true_eq, tyB_iff]
  by_cases h2 : a.k = 2 ∨ a.k = 3
  · have e2 : (decide (a.k = 2) || decide (a.k = 3)) = true := by simpa using h2
    rw [e2, Bool.cond_true]
    simp only [Bool.and_eq_true, decide_eq_true_eq, tlB_iff]
    constructor
    · rintro (h | ⟨h3, h4, ⟨h5, _⟩ | ⟨_, _, h5, h6⟩⟩)
      · exact .inl h
      · omega
      · exact .inr ⟨⟨⟨h3, h4⟩, by rw [h6]⟩, h5, h6⟩
    · rintro (h | ⟨⟨⟨h3, h4⟩, _⟩, h5, h6⟩)
      · exact .inl h
      · exact .inr ⟨h3, h4, .inr ⟨by omega, by omega, h5, h6⟩⟩
  · have e2 : (decide (a.k = 2) || decide (a.k = 3)) = false := by simpa using h2
    rw [e2, Bool.cond_false]
    by_cases h4 : a.k = 4
    · rw [decide_eq_true h4, Bool.cond_true]
      simp only [Bool.and_eq_true, decide_eq_true_eq, tlB_iff]
      constructor
      · rintro (h | ⟨h3, h5, ⟨h6, _⟩ | ⟨_, _, h6, h7⟩⟩)
        · exact .inl h
        · omega
        · exact .inr ⟨⟨⟨h3, h5⟩, by rw [h7]⟩, by omega, h7⟩
      · rintro (h | ⟨⟨⟨h3, h5⟩, _⟩, h6, h7⟩)
        · exact .inl h
        · rcases Int.lt_or_eq_of_le h6 with h8 | h8
          · exact .inr ⟨h3, h5, .inr ⟨by omega, by omega, h8, h7⟩⟩
          · exact .inl (he.2 ⟨h3, h8, h5, h7⟩)
    · rw [decide_eq_false h4, Bool.cond_false]
      by_cases h5 : a.k = 5
      · rw [decide_eq_true h5, Bool.cond_true]
        simp only [Bool.and_eq_true, decide_eq_true_eq]
        constructor
        · rintro (h | ⟨h3, h6, ⟨_, h7, h8, h9, h10⟩ | ⟨h7, _⟩⟩)
          · exact .inl h
          · exact .inr ⟨⟨⟨h3, h6⟩, by omega⟩, ⟨h9, h7⟩, h10⟩
          · exact absurd h5 h7
        · rintro (h | ⟨⟨⟨h3, h6⟩, h7⟩, ⟨h8, h9⟩, h10⟩)
          · exact .inl h
          · exact .inr ⟨h3, h6, .inl ⟨h5, h9, by omega, h8, h10⟩⟩
      · rw [decide_eq_false h5, Bool.cond_false]
        constructor
        · rintro (h | ⟨h3, h6, ⟨h7, _⟩ | ⟨_, h7, _⟩⟩)
          · exact .inl h
          · exact absurd h7 h5
          · omega
        · rintro (h | ⟨_, h⟩)
          · exact .inl h
          · cases h
end Go.Proofs.Ytbolanmlngjdoaa
namespace Go.Proofs.Ytbolanmlngjdoaa
open Go.W
def enSpP : W.Spec := fun av H K => ∃ (s : Sc) (n : ByteArray), av = [.va (.gs (scC s)), tS n] ∧ H = [] ∧ s.fit ∧ K (.tu [.gs (enC ((fEn s.es n).getD default)), bA (hasE s.es n)]) []
theorem enp_use {s : Sc} {n : ByteArray} {K : S → Hp → Prop} (h : s.fit) (hK : K (.tu [.gs (enC ((fEn s.es n).getD default)), bA (hasE s.es n)]) []) : enSpP [.va (.gs (scC s)), tS n] [] K := ⟨s, n, rfl, rfl, h, hK⟩
theorem enC_def : enC default = [.vl (.string (mk [])), .fz [], .fz []] := rfl
end Go.Proofs.Ytbolanmlngjdoaa
namespace Go.Proofs.Ytbolanmlngjdoaa
open Go.W
noncomputable def eqB {α : Type} (a b : α) : Bool := @decide (a = b) (Classical.propDecidable _)
set_option maxRecDepth 100000 in
theorem mRSame' : ∀ N, Meets Try.prog 11 (saFn N).sp
  | 0 => ⟨by kernel_rfl, by rintro xs vs E ro w K _ _ _ ⟨⟨h, _⟩, _⟩; obtain ⟨a, _, _, _, _, h⟩ := saPre_open h; have := a.h_pos; omega⟩
  | N + 1 => by
    refine meets_fn Try.func11 ok11 2 (by rw [Try.ntmps11]; decide) (meetsAll_f (mRSame' N) (meetsAll_nil _)) saFn_len ?_
    rintro av H K ⟨⟨h, rfl⟩, hK⟩
    obtain ⟨a, b, rfl, ha, hb, hh⟩ := saPre_open h
    have hK : K (bS (tyB a b)) [] := by
      have : (saFn (N + 1)).val [.va (.gs (tyC a)), .va (.gs (tyC b))] = bA (tyB a b) := by simp -dsimp only [go_sem]
      rw [this] at hK; exact hK
    clear h
    have fin : ∀ (x : Bool) (R : Hp), tyB a b = x → W.Fin 0 K (bS x) R := fun x R h => by
      rw [h] at hK
      exact .sel [] (by simp) (by simp) rfl (.done (by simpa [go_sem] using hK))
    obtain ⟨k, s, n, e⟩ := a
    obtain ⟨k', s', n', e'⟩ := b
    have hla := ha.len
    have hoa := ha.e
    have hob := hb.e
    simp only [Ty.e] at hla hoa hob
    simp (maxSteps := 1000000) -dsimp only [go_sem, tyC, tysC_map, pc11, rs11, bl_beq]
    refine ⟨fun h1 => fin false _ (tyB_ne fun he => ?_), fun h1 => ?_⟩
    · obtain ⟨rfl, rfl, rfl, rfl⟩ := mk_eq.1 he
      simp at h1
    simp only [Bool.or_eq_false_iff, bne_eq_false_iff_eq, Bool.not_eq_false', decide_eq_true_eq] at h1
    obtain ⟨⟨⟨rfl, rfl⟩, rfl⟩, hl⟩ := h1
    have hl : e.length = e'.length := by omega
    refine vc_loop (α := Nat) (fun i => [(2, .va (.c1 (.pt 0 0))), (3, .va (.c1 (.pt 1 0))), (5, iS .i64 i)]) (fun i => [.cells (tyC (.mk k s n e)) 24, .cells (tyC (.mk k s n e')) 24])
      (fun i => i ≤ e.length ∧ ∀ j, j < i → e[j]? = e'[j]?) (fun i => e.length - i) 0 2 ⟨Nat.zero_le _, fun j hj => by omega⟩ ?_ ?_ ?_
    · simp -dsimp only [go_sem] <;> simp
    · simp -dsimp only [go_sem, tyC, tysC_map] <;> simp
    rintro i ⟨hi, ho⟩
    rcases Nat.lt_or_ge i e.length with hlt | hge
    · have hg : decide ((i : Int) < (e.length : Int)) = true := by simp; omega
      obtain ⟨u, hx⟩ : ∃ t, e[i]? = some t := ⟨_, List.getElem?_eq_getElem hlt⟩
      obtain ⟨v, hy⟩ : ∃ t, e'[i]? = some t := ⟨_, List.getElem?_eq_getElem (by omega)⟩
      have q1 := row_rg' (row := tyC) hx
      have q2 := row_rg' (row := tyC) hy
      have hu : isTy (tyC u) := isTy_mk (hoa u (List.mem_of_getElem? hx))
      have hv : isTy (tyC v) := isTy_mk (hob v (List.mem_of_getElem? hy))
      have huh : u.h ≤ N := by have := Ty.hs_mem (List.mem_of_getElem? hx); rw [Ty.h] at hh; omega
      simp (maxSteps := 1000000) -dsimp only [go_sem, hg, tyC, tysC_map]
      simp (maxSteps := 1000000) -dsimp only [go_sem, tyC_len, hu, hv, hx, hy, Option.some.injEq, forall_eq']
      refine ⟨by omega, by omega, huh, fun h1 => fin false _ (tyB_ne fun he => ?_), fun h1 => ?_⟩
      · obtain ⟨_, _, _, rfl⟩ := mk_eq.1 he
        rw [hx] at hy
        rw [tyB_eq (Option.some.inj hy)] at h1
        simp at h1
      · have h1 : u = v := tyB_iff.1 (by simpa using h1)
        subst h1
        refine ⟨by omega, loop_next (i + 1) 2 ⟨by omega, fun j hj => ?_⟩ (by omega) ?_ ?_⟩
        · rcases Nat.lt_or_ge j i with h4 | h4
          · exact ho j h4
          · obtain rfl : j = i := by omega
            rw [hx, hy]
        · simp -dsimp only [go_sem] <;> simp
        · simp -dsimp only [go_sem, tyC, tysC_map] <;> simp
    · have hg : decide ((i : Int) < (e.length : Int)) = false := by simp; omega
      obtain rfl : i = e.length := by omega
      simp (maxSteps := 1000000) -dsimp only [go_sem, hg, tyC, tysC_map]
      refine fin true _ (tyB_eq ?_)
      rw [mk_eq]
      refine ⟨rfl, rfl, rfl, List.ext_getElem? fun j => ?_⟩
      rcases Nat.lt_or_ge j e.length with h4 | h4
      · exact ho j h4
      · rw [List.getElem?_eq_none h4, List.getElem?_eq_none (by omega)]
theorem mRSame : Meets Try.prog 11 sFn.sp := meets_all 0 mRSame' fun av H K ⟨⟨h, e⟩, hK⟩ => by
  obtain ⟨a, b, rfl, ha, hb⟩ := sPre_open h
  exact ⟨a.h, ⟨⟨⟨isTy_mk ha, isTy_mk hb, by rw [ty_dec]; exact Nat.le_refl _⟩, e⟩, hK⟩⟩
end Go.Proofs.Ytbolanmlngjdoaa
namespace Go.Proofs.Ytbolanmlngjdoaa
open Go.W
mutual
def dirF : Ty → List ByteArray
  | .mk k _ n e => bif k == 6 || k == 7 then [n] else dirFs e
def dirFs : List Ty → List ByteArray
  | [] => []
  | t :: r => dirF t ++ dirFs r
end
def putG (x : ByteArray) : Bool → List ByteArray → List ByteArray
  | d, [] => bif d then [] else [x]
  | d, y :: r => bif !d && (Op.bytesLess (bl x) (bl y) || bl x == bl y) then (bif Op.bytesLess (bl x) (bl y) then x :: y :: putG x true r else y :: putG x true r) else y :: putG x d r
end Go.Proofs.Ytbolanmlngjdoaa
namespace Go.Proofs.Ytbolanmlngjdoaa
open Go.W
abbrev ltS (a b : ByteArray) : Prop := bl a < bl b
theorem blessL (x : List UInt8) : ∀ y : List UInt8, Op.bytesLess x y = decide (x < y) := by
  induction x with
  | nil => intro y; cases y <;> simp [Op.bytesLess]
  | cons a x ih =>
    intro y
    cases y with
    | nil => simp [Op.bytesLess]
    | cons b y =>
      have := ih y
      rw [Op.bytesLess, this, Bool.eq_iff_iff]
      simp [List.cons_lt_cons_iff]
theorem bless (a b : ByteArray) : Op.bytesLess (bl a) (bl b) = decide (ltS a b) := blessL _ _
theorem ltS_irrefl (a : ByteArray) : ¬ ltS a a := List.lt_irrefl _
theorem ltS_trans {a b c : ByteArray} (h : ltS a b) (h2 : ltS b c) : ltS a c := List.lt_trans h h2
theorem ltS_total {a b : ByteArray} (h : ¬ ltS a b) (h2 : a ≠ b) : ltS b a := by
  have h3 : bl b ≤ bl a := List.not_lt.1 h
  exact Std.lt_of_le_of_ne h3 (fun e => h2 (bl_inj e.symm))
def Asc (l : List ByteArray) : Prop := l.Pairwise ltS
theorem asc_ext : ∀ {a b : List ByteArray}, Asc a → Asc b → (∀ x, x ∈ a ↔ x ∈ b) → a = b
  | [], [], _, _, _ => rfl
  | [], y :: b, _, _, h => by have := (h y).2 List.mem_cons_self; cases this
  | x :: a, [], _, _, h => by have := (h x).1 List.mem_cons_self; cases this
  | x :: a, y :: b, h1, h2, h => by
    obtain ⟨p1, p2⟩ := List.pairwise_cons.1 h1
    obtain ⟨p3, p4⟩ := List.pairwise_cons.1 h2
    have e : x = y := by
      rcases List.mem_cons.1 ((h x).1 List.mem_cons_self) with e | e
      · exact e
      · rcases List.mem_cons.1 ((h y).2 List.mem_cons_self) with e2 | e2
        · exact e2.symm
        · exact absurd (ltS_trans (p1 y e2) (p3 x e)) (ltS_irrefl x)
    subst e
    rw [asc_ext p2 p4 fun z => ?_]
    constructor
    · intro hz
      rcases List.mem_cons.1 ((h z).1 (List.mem_cons_of_mem _ hz)) with e | e
      · exact absurd (p1 z hz) (by rw [e]; exact ltS_irrefl x)
      · exact e
    · intro hz
      rcases List.mem_cons.1 ((h z).2 (List.mem_cons_of_mem _ hz)) with e | e
      · exact absurd (p3 z hz) (by rw [e]; exact ltS_irrefl x)
      · exact e
theorem Asc.nodup {l : List ByteArray} (h : Asc l) : l.Nodup := by
  unfold List.Nodup
  refine List.Pairwise.imp ?_ h
  intro a b h e
  subst e
  exact ltS_irrefl a h
theorem putG_true (x : ByteArray) : ∀ l, putG x true l = l
  | [] => rfl
  | y :: r => by rw [putG, putG_true x r]; rfl
theorem putG_mem {x z : ByteArray} : ∀ {l : List ByteArray}, z ∈ putG x false l ↔ z = x ∨ z ∈ l
  | [] => by simp [putG]
  | y :: r => by
    rw [putG, putG_true]
    cases c1 : Op.bytesLess (bl x) (bl y) with
    | true => simp
    | false =>
      cases c2 : bl x == bl y with
      | true =>
        have : x = y := bl_inj (by simpa using c2)
        subst this
        simp
      | false =>
        have := putG_mem (x := x) (z := z) (l := r)
        simp [this]
        constructor
        · rintro (h | h | h)
          · exact .inr (.inl h)
          · exact .inl h
          · exact .inr (.inr h)
        · rintro (h | h | h)
          · exact .inr (.inl h)
          · exact .inl h
          · exact .inr (.inr h)
theorem putG_asc {x : ByteArray} : ∀ {l : List ByteArray}, Asc l → Asc (putG x false l)
  | [], _ => by simp [putG, Asc]
  | y :: r, h => by
    obtain ⟨p1, p2⟩ := List.pairwise_cons.1 h
    rw [putG, putG_true]
    cases c1 : Op.bytesLess (bl x) (bl y) with
    | true =>
      rw [bless] at c1
      have c1 := of_decide_eq_true c1
      simp only [Bool.not_false, Bool.true_or, Bool.and_true, Bool.cond_true]
      refine List.pairwise_cons.2 ⟨fun z hz => ?_, h⟩
      rcases List.mem_cons.1 hz with rfl | hz
      · exact c1
      · exact ltS_trans c1 (p1 z hz)
    | false =>
      cases c2 : bl x == bl y with
      | true => exact h
      | false =>
        rw [bless] at c1
        have c1 := of_decide_eq_false c1
        have c2 : x ≠ y := fun e => by subst e; simp at c2
        simp only [Bool.not_false, Bool.true_and, Bool.or_self, Bool.cond_false]
        refine List.pairwise_cons.2 ⟨fun z hz => ?_, putG_asc p2⟩
        rcases putG_mem.1 hz with rfl | hz
        · exact ltS_total c1 c2
        · exact p1 z hz
theorem asc_srtB {l : List ByteArray} (h : l.Nodup) : Asc (srtB l) := by
  have h1 : ((l.map bl).mergeSort fun x y => decide (x ≤ y)).Pairwise fun a b => decide (a ≤ b) = true :=
    List.pairwise_mergeSort (le := fun (x y : List UInt8) => decide (x ≤ y)) (fun (a b c : List UInt8) h1 h2 => decide_eq_true (List.le_trans (of_decide_eq_true h1) (of_decide_eq_true h2))) (fun (a b : List UInt8) => by
      rcases List.le_total a b with h | h <;> simp [h]) _
  have h2 : ((l.map bl).mergeSort fun x y => decide (x ≤ y)).Nodup := by
    rw [(List.mergeSort_perm _ _).nodup_iff]
    exact List.Pairwise.map bl (fun a b (hab : a ≠ b) e => hab (bl_inj e)) h
  unfold srtB Asc
  rw [List.pairwise_map]
  refine List.Pairwise.imp₂ (fun a b h1 h2 => ?_) h1 h2
  exact Std.lt_of_le_of_ne (of_decide_eq_true h1) h2
theorem usesF_asc (ss : List St) (n : ByteArray) : Asc (usesF ss n) := asc_srtB (visAll_nodup ss n)
end Go.Proofs.Ytbolanmlngjdoaa
namespace Go.Proofs.Ytbolanmlngjdoaa
open Go.W
structure Is where
  k : Int
  n : Int
  t : ByteArray
instance : Inhabited Is := ⟨⟨0, 0, ByteArray.empty⟩⟩
theorem is_eq {a b : Is} : a = b ↔ (a.k = b.k ∧ a.n = b.n ∧ a.t = b.t) := by cases a; cases b; simp
instance : DecidableEq Is := fun _ _ => decidable_of_iff _ is_eq.symm
def isC (x : Is) : List C := [.vl (.int .i64 x.k), .vl (.int .i64 x.n), .vl (.string x.t)]
theorem isC_inj {a b : Is} (h : isC a = isC b) : a = b := by
  rw [is_eq]
  simpa [isC] using h
def addF (l : List Is) (x : Is) : List Is := bif l.any (fun y => decide (x = y)) then l else l ++ [x]
def addA (l xs : List Is) : List Is := xs.foldl addF l
theorem addA_app (l xs ys : List Is) : addA l (xs ++ ys) = addA (addA l xs) ys := List.foldl_append
theorem addA_nil (l : List Is) : addA l [] = l := rfl
theorem addA_one (l : List Is) (x : Is) : addA l [x] = addF l x := rfl
theorem hasI_iff {l : List Is} {x : Is} : l.any (fun y => decide (x = y)) = true ↔ x ∈ l := by
  rw [List.any_eq_true]
  constructor
  · rintro ⟨y, h1, h2⟩
    rw [of_decide_eq_true h2]; exact h1
  · intro h
    exact ⟨x, h, by simp⟩
theorem addF_mem {l : List Is} {x y : Is} : y ∈ addF l x ↔ y ∈ l ∨ y = x := by
  unfold addF
  cases h : l.any (fun y => decide (x = y)) with
  | true =>
    have := hasI_iff.1 h
    rw [Bool.cond_true]
    constructor
    · exact .inl
    · rintro (h | rfl)
      · exact h
      · exact this
  | false => simp
theorem addA_mem {y : Is} : ∀ {xs l : List Is}, y ∈ addA l xs ↔ y ∈ l ∨ y ∈ xs
  | [], l => by simp [addA]
  | x :: xs, l => by
    show y ∈ addA (addF l x) xs ↔ _
    rw [addA_mem, addF_mem, List.mem_cons, or_assoc]
theorem addF_nd {l : List Is} {x : Is} (h : l.Nodup) : (addF l x).Nodup := by
  unfold addF
  cases h1 : l.any (fun y => decide (x = y)) with
  | true => exact h
  | false =>
    have : x ∉ l := fun hx => by rw [hasI_iff.2 hx] at h1; cases h1
    rw [Bool.cond_false, List.nodup_append]
    exact ⟨h, by simp, fun a ha b hb e => by simp at hb; subst hb; subst e; exact this ha⟩
theorem addA_nd : ∀ {xs l : List Is}, l.Nodup → (addA l xs).Nodup
  | [], _, h => h
  | x :: xs, l, h => addA_nd (xs := xs) (l := addF l x) (addF_nd h)
theorem addF_len (l : List Is) (x : Is) : (addF l x).length ≤ l.length + 1 := by
  unfold addF
  cases l.any (fun y => decide (x = y)) <;> simp
theorem addA_len : ∀ (xs l : List Is), (addA l xs).length ≤ l.length + xs.length
  | [], l => Nat.le_refl _
  | x :: xs, l => by
    have h1 := addA_len xs (addF l x)
    have h2 := addF_len l x
    show (addA (addF l x) xs).length ≤ _
    rw [List.length_cons]; omega
def ltI (a b : Is) : Prop := ltS a.t b.t ∨ (a.t = b.t ∧ (a.k < b.k ∨ (a.k = b.k ∧ a.n < b.n)))
theorem ltI_irrefl (a : Is) : ¬ ltI a a := by
  rintro (h | ⟨_, h | ⟨_, h⟩⟩)
  · exact ltS_irrefl _ h
  · omega
  · omega
theorem ltI_trans {a b c : Is} (h : ltI a b) (h2 : ltI b c) : ltI a c := by
  rcases h with h | ⟨e, h⟩
  · rcases h2 with h2 | ⟨e2, h2⟩
    · exact .inl (ltS_trans h h2)
    · exact .inl (e2 ▸ h)
  · rcases h2 with h2 | ⟨e2, h2⟩
    · exact .inl (e ▸ h2)
    · exact .inr ⟨e.trans e2, by omega⟩
theorem ltI_total {a b : Is} (h : ¬ ltI a b) (h2 : a ≠ b) : ltI b a := by
  by_cases e : a.t = b.t
  · refine .inr ⟨e.symm, ?_⟩
    have h3 : ¬ (a.k < b.k ∨ (a.k = b.k ∧ a.n < b.n)) := fun h3 => h (.inr ⟨e, h3⟩)
    have h4 : ¬ (a.k = b.k ∧ a.n = b.n) := fun h4 => h2 (is_eq.2 ⟨h4.1, h4.2, e⟩)
    omega
  · exact .inl (ltS_total (fun h3 => h (.inl h3)) e)
noncomputable def ltIB (a b : Is) : Bool := @decide (ltI a b) (Classical.propDecidable _)
theorem ltIB_iff {a b : Is} : ltIB a b = true ↔ ltI a b := by unfold ltIB; simp
def AscI (l : List Is) : Prop := l.Pairwise ltI
theorem ascI_ext : ∀ {a b : List Is}, AscI a → AscI b → (∀ x, x ∈ a ↔ x ∈ b) → a = b
  | [], [], _, _, _ => rfl
  | [], y :: b, _, _, h => by have := (h y).2 List.mem_cons_self; cases this
  | x :: a, [], _, _, h => by have := (h x).1 List.mem_cons_self; cases this
  | x :: a, y :: b, h1, h2, h => by
    obtain ⟨p1, p2⟩ := List.pairwise_cons.1 h1
    obtain ⟨p3, p4⟩ := List.pairwise_cons.1 h2
    have e : x = y := by
      rcases List.mem_cons.1 ((h x).1 List.mem_cons_self) with e | e
      · exact e
      · rcases List.mem_cons.1 ((h y).2 List.mem_cons_self) with e2 | e2
        · exact e2.symm
        · exact absurd (ltI_trans (p1 y e2) (p3 x e)) (ltI_irrefl x)
    subst e
    rw [ascI_ext p2 p4 fun z => ?_]
    constructor
    · intro hz
      rcases List.mem_cons.1 ((h z).1 (List.mem_cons_of_mem _ hz)) with e | e
      · exact absurd (p1 z hz) (by rw [e]; exact ltI_irrefl x)
      · exact e
    · intro hz
      rcases List.mem_cons.1 ((h z).2 (List.mem_cons_of_mem _ hz)) with e | e
      · exact absurd (p3 z hz) (by rw [e]; exact ltI_irrefl x)
      · exact e
theorem ascI_of {l' l : List Is} (hp : l'.Perm l) (hn : l.Nodup) (hs : l'.Pairwise fun a b => ltIB b a = false) : AscI l' := by
  have hn' : l'.Nodup := hp.nodup_iff.2 hn
  refine List.Pairwise.imp₂ (fun a b h1 h2 => ?_) hs hn'
  have h3 : ¬ ltI b a := fun h => by rw [ltIB_iff.2 h] at h1; cases h1
  exact ltI_total h3 (fun e => h2 e.symm)
noncomputable def putJ (x : Is) : Bool → List Is → List Is
  | d, [] => bif d then [] else [x]
  | d, y :: r => bif !(d || decide (y = x)) && ltIB x y then x :: y :: putJ x true r else y :: putJ x (d || decide (y = x)) r
theorem putJ_true (x : Is) : ∀ l, putJ x true l = l
  | [] => rfl
  | y :: r => by rw [putJ, Bool.true_or, putJ_true x r]; rfl
theorem putJ_mem {x z : Is} : ∀ {l : List Is}, z ∈ putJ x false l ↔ z = x ∨ z ∈ l
  | [] => by simp [putJ]
  | y :: r => by
    rw [putJ, putJ_true, Bool.false_or]
    by_cases c2 : y = x
    · subst c2
      simp [putJ_true]
    · rw [decide_eq_false c2]
      cases c1 : ltIB x y with
      | true => simp
      | false =>
        have := putJ_mem (x := x) (z := z) (l := r)
        simp [this]
        constructor
        · rintro (h | h | h)
          · exact .inr (.inl h)
          · exact .inl h
          · exact .inr (.inr h)
        · rintro (h | h | h)
          · exact .inr (.inl h)
          · exact .inl h
          · exact .inr (.inr h)
theorem putJ_asc {x : Is} : ∀ {l : List Is}, AscI l → AscI (putJ x false l)
  | [], _ => by simp [putJ, AscI]
  | y :: r, h => by
    obtain ⟨p1, p2⟩ := List.pairwise_cons.1 h
    rw [putJ, putJ_true, Bool.false_or]
    by_cases c2 : y = x
    · rw [decide_eq_true c2, putJ_true]; exact h
    · rw [decide_eq_false c2]
      cases c1 : ltIB x y with
      | true =>
        have c1 := ltIB_iff.1 c1
        refine List.pairwise_cons.2 ⟨fun z hz => ?_, h⟩
        rcases List.mem_cons.1 hz with rfl | hz
        · exact c1
        · exact ltI_trans c1 (p1 z hz)
      | false =>
        have c1 : ¬ ltI x y := fun h => by rw [ltIB_iff.2 h] at c1; cases c1
        refine List.pairwise_cons.2 ⟨fun z hz => ?_, putJ_asc p2⟩
        rcases putJ_mem.1 hz with rfl | hz
        · exact ltI_total c1 (fun e => c2 e.symm)
        · exact p1 z hz
noncomputable def putA (l xs : List Is) : List Is := xs.foldl (fun l x => putJ x false l) l
theorem putA_mem {y : Is} : ∀ {xs l : List Is}, y ∈ putA l xs ↔ y ∈ l ∨ y ∈ xs
  | [], l => by simp [putA]
  | x :: xs, l => by
    show y ∈ putA (putJ x false l) xs ↔ _
    rw [putA_mem, putJ_mem, List.mem_cons, or_assoc, or_left_comm]
theorem putA_asc : ∀ {xs l : List Is}, AscI l → AscI (putA l xs)
  | [], _, h => h
  | x :: xs, l, h => putA_asc (xs := xs) (l := putJ x false l) (putJ_asc h)
end Go.Proofs.Ytbolanmlngjdoaa
namespace Go.Proofs.Ytbolanmlngjdoaa
open Go.W
structure UI (ss : List St) (n : ByteArray) (i : Nat) (todo o : List ByteArray) : Prop where
  hd : ∃ r, todo = n :: r ∧ r.Nodup ∧ ∀ x, x ∈ o ↔ x ∈ r
  rc : ∀ x ∈ o, Reach ss n x
  dn : ∀ j a, j < i → todo[j]? = some a → ∀ y, isRef ss a y → y ∈ o
  asc : Asc o
theorem nm_len {ss : List St} {es : List En} (g : Gd ss es) {n : ByteArray} {l : List ByteArray} (h : l.Nodup) (hr : ∀ x ∈ l, Reach ss n x) : l.length ≤ 32 := Nat.le_trans (nodup_sub h fun x hx => (mem_visAll ss n x).2 (hr x hx)) (g.vlen n)
theorem UI.len {ss : List St} {es : List En} (g : Gd ss es) {n : ByteArray} {i : Nat} {todo o : List ByteArray} (h : UI ss n i todo o) : todo.length ≤ 33 ∧ o.length ≤ 32 := by
  obtain ⟨r, rfl, h1, h2⟩ := h.hd
  have := nm_len g h1 fun x hx => h.rc x ((h2 x).2 hx)
  have := nm_len g h.asc.nodup h.rc
  simp only [List.length_cons]; omega
theorem UI.add {ss : List St} {n : ByteArray} {i : Nat} {todo o : List ByteArray} (h : UI ss n i todo o) {y : ByteArray} (hr : Reach ss n y) (hy : y ∉ o) (hi : i ≤ todo.length) : UI ss n i (todo ++ [y]) (putG y false o) := by
  obtain ⟨r, rfl, h1, h2⟩ := h.hd
  refine ⟨⟨r ++ [y], by simp, ?_, fun x => ?_⟩, fun x hx => ?_, fun j a hj ha z hz => ?_, putG_asc h.asc⟩
  · rw [List.nodup_append]
    exact ⟨h1, by simp, fun a ha b hb => by simp at hb; subst hb; exact fun e => hy ((h2 b).2 (e ▸ ha))⟩
  · rw [putG_mem, h2]; simp [or_comm]
  · rcases putG_mem.1 hx with rfl | hx
    · exact hr
    · exact h.rc x hx
  · rw [List.getElem?_append_left (by omega)] at ha
    exact putG_mem.2 (.inr (h.dn j a hj ha z hz))
theorem UI.next {ss : List St} {n : ByteArray} {i : Nat} {todo o : List ByteArray} (h : UI ss n i todo o) {a : ByteArray} (ha : todo[i]? = some a) (hy : ∀ y, isRef ss a y → y ∈ o) : UI ss n (i + 1) todo o := by
  refine ⟨h.hd, h.rc, fun j b hj hb y hyb => ?_, h.asc⟩
  rcases Nat.lt_or_ge j i with h4 | h4
  · exact h.dn j b h4 hb y hyb
  · obtain rfl : j = i := by omega
    rw [ha] at hb; obtain rfl := Option.some.inj hb
    exact hy y hyb
theorem UI.fin {ss : List St} {n : ByteArray} {todo o : List ByteArray} (h : UI ss n todo.length todo o) : o = usesF ss n := by
  refine asc_ext h.asc (usesF_asc ss n) fun x => ?_
  rw [mem_usesF]
  refine ⟨h.rc x, fun hx => ?_⟩
  obtain ⟨r, e, h1, h2⟩ := h.hd
  have hn : ∀ y, isRef ss n y → y ∈ o := h.dn 0 n (by rw [e]; simp) (by rw [e]; rfl)
  induction hx with
  | one h => exact hn _ h
  | more _ h3 ih =>
    obtain ⟨j, hj⟩ := List.mem_iff_getElem?.1 ((h2 _).1 ih)
    rename_i b c _
    have hj2 : todo[j + 1]? = some b := by rw [e]; simpa using hj
    exact h.dn (j + 1) _ (List.getElem?_eq_some_iff.1 hj2).1 hj2 _ h3
end Go.Proofs.Ytbolanmlngjdoaa
namespace Go.Proofs.Ytbolanmlngjdoaa
open Go.W
def dIx : List St → List Int → ByteArray → Int
  | s :: ss, d :: ds, n => bif decide (s.nm = n) then d else dIx ss ds n
  | _, _, _ => 0
theorem dIx_none {n : ByteArray} : ∀ {ss : List St} {ds : List Int}, fS ss n = none → dIx ss ds n = 0
  | [], _, _ => by simp [dIx]
  | s :: ss, [], _ => by simp [dIx]
  | s :: ss, d :: ds, h => by
    unfold fS at h
    rw [List.find?_cons] at h
    rw [dIx]
    cases hc : decide (s.nm = n) with
    | true => rw [hc] at h; simp at h
    | false => rw [hc] at h; exact dIx_none (ss := ss) h
theorem dIx_some {n : ByteArray} {u : St} : ∀ {ss : List St} {ds : List Int}, ss.length = ds.length → fS ss n = some u → ∃ j : Nat, ss[j]? = some u ∧ ds[j]? = some (dIx ss ds n)
  | [], _, _, h => by cases h
  | s :: ss, [], hl, _ => by simp at hl
  | s :: ss, d :: ds, hl, h => by
    unfold fS at h
    rw [List.find?_cons] at h
    rw [dIx]
    cases hc : decide (s.nm = n) with
    | true =>
      rw [hc] at h
      obtain rfl : s = u := by simpa using h
      exact ⟨0, rfl, rfl⟩
    | false =>
      rw [hc] at h
      obtain ⟨j, h1, h2⟩ := dIx_some (ss := ss) (ds := ds) (by simpa using hl) h
      exact ⟨j + 1, by simpa using h1, by simpa using h2⟩
end Go.Proofs.Ytbolanmlngjdoaa
namespace Go.Proofs.Ytbolanmlngjdoaa
open Go.W
theorem maxF_mono {dp dq : ByteArray → Int} {l : List Fl} (h : ∀ f ∈ l, fdep dp f.ty ≤ fdep dq f.ty) : maxF dp l ≤ maxF dq l := maxF_le (maxF_nonneg _ _) fun f hf => Int.le_trans (h f hf) (maxF_ge hf)
structure DI (ss : List St) (r i : Nat) (d : List Int) : Prop where
  len : d.length = ss.length
  lo : ∀ (j : Nat) (t : St) (v : Int), ss[j]? = some t → d[j]? = some v → 0 ≤ v ∧ v ≤ dD ss t.nm ∧ (rank ss t.nm < r → v = dD ss t.nm) ∧ (j < i → rank ss t.nm < r + 1 → v = dD ss t.nm)
theorem DI.ix {ss : List St} {es : List En} (_g : Gd ss es) {r i : Nat} {d : List Int} (h : DI ss r i d) (n : ByteArray) : 0 ≤ dIx ss d n ∧ dIx ss d n ≤ dD ss n ∧ ((fS ss n).isSome = true → rank ss n < r → dIx ss d n = dD ss n) := by
  cases hf : fS ss n with
  | none =>
    rw [dIx_none hf]
    exact ⟨Int.le_refl _, dD_lo ss n, fun h => by simp at h⟩
  | some u =>
    obtain ⟨j, h1, h2⟩ := dIx_some h.len.symm hf
    obtain ⟨a1, a2, a3, _⟩ := h.lo j u _ h1 h2
    obtain ⟨_, rfl⟩ := fS_mem hf
    exact ⟨a1, a2, fun _ h => a3 h⟩
theorem DI.all {ss : List St} {es : List En} (g : Gd ss es) {r i : Nat} {d : List Int} (h : DI ss r i d) : ∀ v ∈ d, 0 ≤ v ∧ v ≤ 1000000000000 := fun v hv => by
  obtain ⟨j, hj⟩ := List.mem_iff_getElem?.1 hv
  have hl := (List.getElem?_eq_some_iff.1 hj).1
  obtain ⟨t, ht⟩ : ∃ t, ss[j]? = some t := ⟨_, List.getElem?_eq_getElem (by have := h.len; omega)⟩
  obtain ⟨h1, h2, _⟩ := h.lo j t v ht hj
  have := dD_hi g t.nm
  omega
theorem DI.fd {ss : List St} {es : List En} (g : Gd ss es) {r i : Nat} {d : List Int} (h : DI ss r i d) (t : Ty) : fdep (dIx ss d) t ≤ fdep (dD ss) t := by
  unfold fdep
  have := h.ix g (lvT t).2.n
  cases (lvT t).2.k == 6 <;> simp only [Bool.cond_true, Bool.cond_false] <;> omega
theorem DI.set {ss : List St} {es : List En} (g : Gd ss es) (ha : Acy ss) {r i : Nat} {d : List Int} (h : DI ss r i d) {t : St} (ht : ss[i]? = some t) : DI ss r (i + 1) (d.set i (1 + maxF (dIx ss d) t.fs)) := by
  have htm := List.mem_of_getElem? ht
  have hD := dD_eq g ha (g.nd t htm)
  have hle : maxF (dIx ss d) t.fs ≤ maxF (dD ss) t.fs := maxF_mono fun f _ => h.fd g f.ty
  have heq : rank ss t.nm < r + 1 → maxF (dIx ss d) t.fs = maxF (dD ss) t.fs := fun hr => maxF_congr fun f hf => by
    unfold fdep
    cases hk : (lvT f.ty).2.k == 6 with
    | false => rfl
    | true =>
      obtain ⟨h1, u, h2⟩ := str_ref g (g.nd t htm) hf hk
      have h3 := rank_lt h1 h2 ha
      rw [(h.ix g _).2.2 (by rw [h2]; rfl) (by omega)]
  have hn := maxF_nonneg (dIx ss d) t.fs
  refine ⟨by rw [List.length_set]; exact h.len, fun j u v hu hv => ?_⟩
  rw [List.getElem?_set] at hv
  by_cases e : i = j
  · subst e
    rw [ht] at hu; obtain rfl := Option.some.inj hu
    have hlt : i < d.length := by have := h.len; have := (List.getElem?_eq_some_iff.1 ht).1; omega
    simp [hlt] at hv
    subst hv
    exact ⟨by omega, by omega, fun hr => by rw [heq (by omega)]; omega, fun _ hr => by rw [heq hr]; omega⟩
  · rw [if_neg e] at hv
    obtain ⟨a1, a2, a3, a4⟩ := h.lo j u v hu hv
    exact ⟨a1, a2, a3, fun hj hr => a4 (by omega) hr⟩
theorem DI.up {ss : List St} {r : Nat} {d : List Int} (h : DI ss r ss.length d) : DI ss (r + 1) 0 d := ⟨h.len, fun j t v ht hv => by
  obtain ⟨a1, a2, _, a4⟩ := h.lo j t v ht hv
  exact ⟨a1, a2, fun hr => a4 (List.getElem?_eq_some_iff.1 ht).1 hr, fun h => absurd h (Nat.not_lt_zero _)⟩⟩
theorem DI.fin {ss : List St} {d : List Int} (h : DI ss (ss.length + 1) 0 d) : d = ss.map fun t => dD ss t.nm := by
  refine List.ext_getElem? fun j => ?_
  rw [List.getElem?_map]
  cases ht : ss[j]? with
  | none =>
    rw [List.getElem?_eq_none_iff] at ht
    rw [List.getElem?_eq_none (by rw [h.len]; exact ht)]; rfl
  | some t =>
    obtain ⟨v, hv⟩ : ∃ v, d[j]? = some v := ⟨_, List.getElem?_eq_getElem (by rw [h.len]; exact (List.getElem?_eq_some_iff.1 ht).1)⟩
    obtain ⟨_, _, a3, _⟩ := h.lo j t v ht hv
    rw [hv, a3 (Nat.lt_succ_of_le (rank_le _ _))]; rfl
end Go.Proofs.Ytbolanmlngjdoaa
namespace Go.Proofs.Ytbolanmlngjdoaa
open Go.W
theorem okS_true {s : Sc} {n : ByteArray} (h : okS s n = true) : checkF s = 0 ∧ hasS s.ss n = true := by
  unfold okS at h; simpa using h
theorem hasS_some {ss : List St} {n : ByteArray} (h : hasS ss n = true) : ∃ t, fS ss n = some t := by
  rw [← fS_has] at h; exact Option.isSome_iff_exists.1 h
end Go.Proofs.Ytbolanmlngjdoaa
namespace Go.Proofs.Ytbolanmlngjdoaa
open Go.W
theorem usL_len {s : Sc} (h : s.fit) (n : ByteArray) : (usL s n).length ≤ 32 := by
  unfold usL
  cases hok : okS s n with
  | false => exact Nat.zero_le _
  | true =>
    have := (check_good h (okS_true hok).1).1.vlen n
    rw [Bool.cond_true, usesF_len]; exact this
theorem usL_bs {s : Sc} (h : s.fit) (n : ByteArray) : isBs ((usL s n).map stR) := isBs_mk (by have := usL_len h n; omega)
theorem cf_next {ss : List St} {es : List En} {t : St} (h : cfF ss es t = 0) {i : Nat} {f g : Fl} (hf : t.fs[i]? = some f) (hg : t.fs[i + 1]? = some g) : f.num < g.num := by
  have := fE_zero h (i + 1) (List.getElem?_eq_some_iff.1 hg).1
  unfold cfAt at this
  rw [hg] at this
  simp only [Nat.add_sub_cancel, hf] at this
  cases c1 : decide (g.num < 1) || decide (127 < g.num) with
  | true => rw [c1] at this; simp at this
  | false =>
  rw [c1] at this
  simp only [Bool.cond_false] at this
  have c0 : decide (0 < ((i + 1 : Nat) : Int)) = true := decide_eq_true (by omega)
  rw [c0, Bool.true_and] at this
  by_cases c2 : g.num ≤ f.num
  · rw [decide_eq_true c2] at this; simp at this
  · omega
theorem cf_asc {ss : List St} {es : List En} {t : St} (h : cfF ss es t = 0) : t.fs.Pairwise fun f g => f.num < g.num := by
  rw [List.pairwise_iff_getElem]
  have key : ∀ d i (hi : i < t.fs.length) (hj : i + d + 1 < t.fs.length), t.fs[i].num < t.fs[i + d + 1].num := by
    intro d
    induction d with
    | zero => intro i hi hj; exact cf_next h (List.getElem?_eq_getElem hi) (List.getElem?_eq_getElem hj)
    | succ d ih =>
      intro i hi hj
      have h1 := ih i hi (by omega)
      have h2 := cf_next h (List.getElem?_eq_getElem (show i + d + 1 < t.fs.length by omega)) (List.getElem?_eq_getElem (show i + d + 1 + 1 < t.fs.length by omega))
      have : i + (d + 1) + 1 = i + d + 1 + 1 := by omega
      simp only [this]
      omega
  intro i j hi hj hij
  obtain ⟨d, rfl⟩ : ∃ d, j = i + d + 1 := ⟨j - i - 1, by omega⟩
  exact key d i hi hj
theorem fF_of_asc : ∀ {l : List Fl}, l.Pairwise (fun f g => f.num < g.num) → ∀ {f : Fl}, f ∈ l → fF l f.num = some f
  | [], _, f, h => by cases h
  | x :: l, h, f, hf => by
    obtain ⟨h1, h2⟩ := List.pairwise_cons.1 h
    unfold fF
    rw [List.find?_cons]
    rcases List.mem_cons.1 hf with rfl | hf
    · simp
    · have : decide (x.num = f.num) = false := by have := h1 f hf; simp; omega
      rw [this]
      exact fF_of_asc h2 hf
theorem fF_some {l : List Fl} {k : Int} {f : Fl} (h : fF l k = some f) : f ∈ l ∧ f.num = k := by
  refine ⟨List.mem_of_find?_eq_some h, ?_⟩
  have := List.find?_some h
  simpa using this
theorem str_good {s : Sc} (hf : s.fit) (h : checkF s = 0) {n : ByteArray} (hn : hasS s.ss n = true) : ∃ t, fS s.ss n = some t ∧ t ∈ s.ss ∧ t.nm = n ∧ t.fs.length ≤ 16 ∧ (∀ f ∈ t.fs, (1 ≤ f.num ∧ f.num ≤ 127) ∧ fF t.fs f.num = some f) := by
  obtain ⟨_, _, _, h2, hl, _⟩ := check_good hf h
  obtain ⟨t, ht⟩ := hasS_some hn
  obtain ⟨htm, hnm⟩ := fS_mem ht
  obtain ⟨i, hi⟩ := List.mem_iff_getElem?.1 htm
  have hc := (st_zero hi (fE_zero h2 i (List.getElem?_eq_some_iff.1 hi).1)).2
  exact ⟨t, ht, htm, hnm, (large_false hl).2.2.2 t htm, fun f hm => ⟨(cf_zero hc f hm).1, fF_of_asc (cf_asc hc) hm⟩⟩
theorem enu_good {s : Sc} (hf : s.fit) (h : checkF s = 0) {n : ByteArray} {e : En} (he : fEn s.es n = some e) : e.vs.length = e.ns.length ∧ e.ns.length ≤ 16 := by
  obtain ⟨_, _, h1, _, hl, _⟩ := check_good hf h
  obtain ⟨hem, _⟩ := fEn_mem he
  obtain ⟨i, hi⟩ := List.mem_iff_getElem?.1 hem
  have hc := (en_zero hi (fE_zero h1 i (List.getElem?_eq_some_iff.1 hi).1)).2.2
  unfold ceF at hc
  cases c : decide (e.ns.length = 0) || decide (e.ns.length ≠ e.vs.length) with
  | true => rw [c] at hc; simp at hc
  | false =>
    simp at c
    exact ⟨c.2.symm, (large_false hl).2.2.1 e hem⟩
theorem enu_vs {s : Sc} (hf : s.fit) (h : checkF s = 0) {n : ByteArray} {e : En} (he : fEn s.es n = some e) : ∀ v ∈ e.vs, 0 ≤ v ∧ v ≤ 127 := by
  intro v hv
  have hl := enu_good hf h he
  obtain ⟨_, _, h1, _, _, _⟩ := check_good hf h
  obtain ⟨hem, _⟩ := fEn_mem he
  obtain ⟨i, hi⟩ := List.mem_iff_getElem?.1 hem
  have hc := (en_zero hi (fE_zero h1 i (List.getElem?_eq_some_iff.1 hi).1)).2.2
  unfold ceF at hc
  cases c : decide (e.ns.length = 0) || decide (e.ns.length ≠ e.vs.length) with
  | true => rw [c] at hc; simp at hc
  | false =>
    rw [c, Bool.cond_false] at hc
    obtain ⟨k, hk⟩ := List.mem_iff_getElem?.1 hv
    have hkl := (List.getElem?_eq_some_iff.1 hk).1
    have hz := fE_zero (f := ceAt e) (m := e.ns.length) hc k (by omega)
    have hn : e.ns[k]? = some e.ns[k] := List.getElem?_eq_getElem (by omega)
    unfold ceAt at hz
    rw [hk, hn] at hz
    simp only at hz
    cases d1 : isNm (bl e.ns[k]) with
    | false => rw [d1] at hz; simp at hz
    | true =>
    rw [d1] at hz
    cases d2 : inB (e.ns.take k) e.ns[k] with
    | true => rw [d2] at hz; simp at hz
    | false =>
    rw [d2] at hz
    cases d3 : decide (v < 0) || decide (127 < v) with
    | true => rw [d3] at hz; simp at hz
    | false =>
      simp only [Bool.or_eq_false_iff, decide_eq_false_iff_not] at d3
      omega
noncomputable def isA (nm : ByteArray) (b : St) (f : Fl) : List Is := match fF b.fs f.num with
  | none => bif f.opt then [] else [⟨2, f.num, nm⟩]
  | some g => (bif widF f.ty g.ty then [] else [⟨1, f.num, nm⟩]) ++ (bif f.opt == g.opt then [] else [⟨3, f.num, nm⟩])
def isB (nm : ByteArray) (a : St) (g : Fl) : List Is := bif (fF a.fs g.num).isNone && !g.opt then [⟨2, g.num, nm⟩] else []
noncomputable def cmpS (nm : ByteArray) (a b : St) : List Is := a.fs.flatMap (isA nm b) ++ b.fs.flatMap (isB nm a)
def cmpV (nm : ByteArray) (vs : List Int) (e : En) : List Is := (vs.filter fun v => !(e.vs.any fun w => decide (v = w))).map fun v => ⟨4, v, nm⟩
def cmpE (nm : ByteArray) (d e : En) : List Is := cmpV nm d.vs e
noncomputable def cmpN (o n : Sc) (x : ByteArray) : List Is := bif hasS o.ss x != hasS n.ss x then [⟨5, 0, x⟩] else
  (bif hasS o.ss x then cmpS x ((fS o.ss x).getD default) ((fS n.ss x).getD default) else []) ++ (bif hasE o.es x && hasE n.es x then cmpE x ((fEn o.es x).getD default) ((fEn n.es x).getD default) else [])
def nmsF (o n : Sc) (x : ByteArray) : List ByteArray := x :: (usL o x).filter (inB (usL n x))
noncomputable def rawI (o n : Sc) (x : ByteArray) : List Is := (nmsF o n x).flatMap (cmpN o n)
noncomputable def issF (o n : Sc) (x : ByteArray) : List Is := bif (checkF o != 0) || (checkF n != 0) then [] else putA [] (rawI o n x)
noncomputable def coF (o n : Sc) (x : ByteArray) : Bool := bif (checkF o != 0) || (checkF n != 0) then false else hasS o.ss x && hasS n.ss x && (((issF o n x).length : Int) == 0)
theorem ascI_nil : AscI [] := .nil
theorem iss_sorted {raw l' : List Is} (hp : l'.Perm (addA [] raw)) (hs : l'.Pairwise fun a b => ltIB b a = false) : l' = putA [] raw := by
  refine ascI_ext (ascI_of hp (addA_nd .nil) hs) (putA_asc ascI_nil) fun x => ?_
  rw [hp.mem_iff, addA_mem, putA_mem]
theorem fm_le {α β : Type} {f : α → List β} {k : Nat} : ∀ {l : List α}, (∀ a ∈ l, (f a).length ≤ k) → (l.flatMap f).length ≤ l.length * k
  | [], _ => by simp
  | x :: l, h => by
    have h1 := fm_le fun a ha => h a (List.mem_cons_of_mem _ ha)
    have h2 := h x List.mem_cons_self
    rw [List.flatMap_cons, List.length_append, List.length_cons, Nat.succ_mul]; omega
theorem isA_len (nm : ByteArray) (b : St) (f : Fl) : (isA nm b f).length ≤ 2 := by
  unfold isA
  split
  · cases f.opt <;> simp
  · rename_i g _
    cases widF f.ty g.ty <;> cases (f.opt == g.opt) <;> simp
theorem isB_len (nm : ByteArray) (b : St) (f : Fl) : (isB nm b f).length ≤ 1 := by
  unfold isB
  cases (fF b.fs f.num).isNone && !f.opt <;> simp
end Go.Proofs.Ytbolanmlngjdoaa
namespace Go.Proofs.Ytbolanmlngjdoaa
open Go.W
theorem ieq (a b : Int) : (a == b) = decide (a = b) := rfl
def isIs (rs : List (List C)) : Prop := ∃ l : List Int, rs = l.map inR ∧ l.length ≤ 9223372036854775807
theorem isIs_mk {l : List Int} (h : l.length ≤ 9223372036854775807) : isIs (l.map inR) := ⟨l, rfl, h⟩
def ciPre : List S → Prop := fun av => match av with
  | [.va (.c1 (.fz rs)), .va (.c1 (.vl (.int .i64 _)))] => isIs rs
  | _ => False
theorem ciPre_open {av : List S} (h : ciPre av) : ∃ (l : List Int) (x : Int), av = [.va (.c1 (.fz (l.map inR))), iS .i64 x] ∧ l.length ≤ 9223372036854775807 := by
  unfold ciPre at h
  split at h
  · obtain ⟨l, rfl, h⟩ := h; exact ⟨l, _, rfl, h⟩
  · exact h.elim
noncomputable def ciVal (f : List Int → Int → Value) : List S → A := fun av => match av with
  | [.va (.c1 (.fz rs)), .va (.c1 (.vl (.int .i64 x)))] => .c1 (.vl (f (rs.map C.it) x))
  | _ => .gs []
noncomputable def ciFn (f : List Int → Int → Value) : Fun := ⟨ciPre, ciVal f, fun av h => by obtain ⟨l, x, rfl, _⟩ := ciPre_open h; trivial⟩
theorem ciFn_len {f} : ∀ av H K, (ciFn f).sp av H K → av.length = 2 := fun av H K h => by obtain ⟨l, x, rfl, _⟩ := ciPre_open h.1.1; rfl
attribute [go_sem] ciFn ciPre ciVal
def ixI : List Int → Int → Nat → Int
  | [], _, _ => -1
  | y :: l, x, i => bif decide (x = y) then (i : Int) else ixI l x (i + 1)
def inI (l : List Int) (x : Int) : Bool := l.any fun y => decide (x = y)
theorem ixI_has : ∀ (l : List Int) (x : Int) (i : Nat), decide (0 ≤ ixI l x i) = inI l x
  | [], _, _ => by simp [ixI, inI]
  | y :: l, x, i => by
    simp only [ixI]
    by_cases h : x = y
    · simp [h, inI]
    · have := ixI_has l x (i + 1)
      simp [h, inI] at this ⊢; exact this
set_option maxRecDepth 100000 in
theorem mIndexI : Meets Try.prog 37 (ciFn fun l x => .int .i64 (ixI l x 0)).sp := by
  refine meets_fn Try.func37 ok37 2 (by rw [Try.ntmps37]; decide) (meetsAll_nil _) ciFn_len ?_
  rintro av H K ⟨⟨h, rfl⟩, hK⟩
  obtain ⟨l, x, rfl, hl⟩ := ciPre_open h
  have hK : K (iS .i64 (ixI l x 0)) [] := by
    have : (ciFn fun l x => .int .i64 (ixI l x 0)).val [.va (.c1 (.fz (l.map inR))), iS .i64 x] = iA .i64 (ixI l x 0) := by simp -dsimp only [go_sem]
    rw [this] at hK; exact hK
  simp -dsimp only [go_sem, pc37, rs37]
  refine vc_loop (α := Nat) (fun i => [(0, .va (.c1 (.fz (l.map inR)))), (1, iS .i64 x), (7, iS .i64 l.length), (8, iS .i64 i)]) (fun _ => [])
    (fun i => i ≤ l.length ∧ ixI (l.drop i) x i = ixI l x 0) (fun i => l.length - i) 0 0 ⟨Nat.zero_le _, rfl⟩ ?_ ?_ ?_
  · simp [go_sem]
  · simp [go_sem]
  rintro i ⟨hi, ho⟩
  rcases Nat.lt_or_ge i l.length with hlt | hge
  · have hg : decide ((i : Int) < (l.length : Int)) = true := by simp; omega
    have hx : l[i]? = some l[i] := List.getElem?_eq_getElem hlt
    have q1 := row_rg (row := inR) hx
    have q2 := row_rg' (row := inR) hx
    rw [List.drop_eq_getElem_cons hlt] at ho
    simp only [ixI] at ho
    generalize l[i] = y at *
    cases hc : decide (x = y) with
    | true =>
      rw [hc, Bool.cond_true] at ho
      simp -dsimp only [go_sem, hg, ↓q2, hc, ieq]
      and_intros
      all_goals first
        | omega
        | exact .done (by rw [ho]; exact hK)
    | false =>
      rw [hc, Bool.cond_false] at ho
      simp -dsimp only [go_sem, hg, ↓q2, hc, ieq]
      and_intros
      all_goals first
        | omega
        | skip
      refine loop_next (i + 1) 0 ⟨by omega, ho⟩ (by omega) ?_ ?_
      · simp [go_sem]
      · simp [go_sem]
  · have hg : decide ((i : Int) < (l.length : Int)) = false := by simp; omega
    have : l.drop i = [] := List.drop_eq_nil_iff.2 (by omega)
    rw [this] at ho
    simp -dsimp only [go_sem, hg]
    exact .done (by rw [show (-1 : Int) = ixI l x 0 from ho]; exact hK)
theorem mContainsI : Meets Try.prog 19 (ciFn fun l x => .bool (inI l x)).sp := by
  refine meets_fn Try.func19 ok19 2 (by rw [Try.ntmps19]; decide) (meetsAll_f mIndexI (meetsAll_nil _)) ciFn_len ?_
  rintro av H K ⟨⟨h, rfl⟩, hK⟩
  obtain ⟨l, x, rfl, hl⟩ := ciPre_open h
  have hK : K (bS (inI l x)) [] := by
    have : (ciFn fun l x => .bool (inI l x)).val [.va (.c1 (.fz (l.map inR))), iS .i64 x] = bA (inI l x) := by simp -dsimp only [go_sem]
    rw [this] at hK; exact hK
  simp -dsimp only [go_sem, pc19, rs19, isIs_mk hl, ixI_has]
  exact .done hK
end Go.Proofs.Ytbolanmlngjdoaa
namespace Go.Proofs.Ytbolanmlngjdoaa
open Go.W
def pc6 : PC := .seq (.reg  [⟨some 2, none, .e (.bx 24 (.t 0))⟩, ⟨some 3, none, .e (.bx 24 (.t 1))⟩, ⟨some 4, none, .q (.mv (.k (.bool false)))⟩]) (.seq (.seq (.reg  [⟨some 7, none, .l (.ldn 4 (.t 2))⟩, ⟨some 8, none, .l (.ldn 4 (.t 3))⟩, ⟨some 9, none, .cq 10 [(.t 7), (.t 8)]⟩]) (.cond (.t 9) (.seq (.reg  [⟨some 4, none, .q (.mv (.k (.bool true)))⟩]) (.ret)) (.skip))) (.seq (.seq (.reg  [⟨some 10, none, .q (.fa 0 (.t 2))⟩, ⟨some 11, none, .l (.ld1 (.t 10))⟩, ⟨some 12, none, .q (.fa 0 (.t 3))⟩, ⟨some 13, none, .l (.ld1 (.t 12))⟩, ⟨some 14, none, .q (.bin .neq true (.t 11) (.t 13))⟩, ⟨some 15, none, .q (.mv (.t 14))⟩, ⟨some 16, (some (15, false)), .q (.fa 2 (.t 2))⟩, ⟨some 17, (some (15, false)), .l (.ld1 (.t 16))⟩, ⟨some 18, (some (15, false)), .q (.fa 2 (.t 3))⟩, ⟨some 19, (some (15, false)), .l (.ld1 (.t 18))⟩, ⟨some 20, (some (15, false)), .q (.bin .neq true (.t 17) (.t 19))⟩, ⟨some 21, none, .pick (.t 15) (.k (.bool true)) (.t 20)⟩]) (.cond (.t 21) (.seq (.reg  [⟨some 4, none, .q (.mv (.k (.bool false)))⟩]) (.ret)) (.skip))) (.seq (.seq (.reg  [⟨some 22, none, .q (.fa 0 (.t 2))⟩, ⟨some 23, none, .l (.ld1 (.t 22))⟩, ⟨some 24, none, .q (.bin .eql true (.t 23) (.k (.int .i64 5)))⟩]) (.cond (.t 24) (.seq (.reg  [⟨some 25, none, .q (.fa 3 (.t 2))⟩, ⟨some 26, none, .l (.ld1 (.t 25))⟩, ⟨some 27, none, .q (.lnL (.t 26))⟩, ⟨some 28, none, .q (.bin .eql true (.t 27) (.k (.int .i64 1)))⟩, ⟨some 29, none, .q (.mv (.t 28))⟩, ⟨some 30, (some (29, true)), .q (.fa 3 (.t 3))⟩, ⟨some 31, (some (29, true)), .l (.ld1 (.t 30))⟩, ⟨some 32, (some (29, true)), .q (.lnL (.t 31))⟩, ⟨some 33, (some (29, true)), .q (.bin .eql true (.t 32) (.k (.int .i64 1)))⟩, ⟨some 34, none, .pick (.t 29) (.t 33) (.k (.bool false))⟩, ⟨some 35, none, .q (.mv (.t 34))⟩, ⟨some 36, (some (35, true)), .q (.fa 1 (.t 3))⟩, ⟨some 37, (some (35, true)), .l (.ld1 (.t 36))⟩, ⟨some 38, (some (35, true)), .q (.fa 1 (.t 2))⟩, ⟨some 39, (some (35, true)), .l (.ld1 (.t 38))⟩, ⟨some 40, (some (35, true)), .q (.bin .geq true (.t 37) (.t 39))⟩, ⟨some 41, none, .pick (.t 35) (.t 40) (.k (.bool false))⟩, ⟨some 42, none, .q (.mv (.t 41))⟩, ⟨some 43, (some (42, true)), .q (.fa 3 (.t 2))⟩, ⟨some 44, (some (42, true)), .l (.ld1 (.t 43))⟩, ⟨some 45, (some (42, true)), .l (.ia 4 (.t 44) (.k (.int .i64 0)))⟩, ⟨some 46, (some (42, true)), .l (.ldn 4 (.t 45))⟩, ⟨some 47, (some (42, true)), .q (.fa 3 (.t 3))⟩, ⟨some 48, (some (42, true)), .l (.ld1 (.t 47))⟩, ⟨some 49, (some (42, true)), .l (.ia 4 (.t 48) (.k (.int .i64 0)))⟩, ⟨some 50, (some (42, true)), .l (.ldn 4 (.t 49))⟩, ⟨some 51, (some (42, true)), .cq 6 [(.t 46), (.t 50)]⟩, ⟨some 52, none, .pick (.t 42) (.t 51) (.k (.bool false))⟩, ⟨some 4, none, .q (.mv (.t 52))⟩]) (.ret)) (.skip))) (.seq (.reg  [⟨some 53, none, .l (.ldn 4 (.t 3))⟩, ⟨some 5, none, .e (.al (.agg #[(.int .i64 0), (.int .i64 0), (.string (mk [])), (.slice none 0 0)]) 24)⟩, ⟨none, none, .e (.st 4 (.t 5) (.t 53))⟩]) (.seq (.reg  [⟨some 54, none, .q (.fa 1 (.t 2))⟩, ⟨some 55, none, .l (.ld1 (.t 54))⟩, ⟨some 56, none, .q (.fa 1 (.t 5))⟩, ⟨none, none, .e (.st 1 (.t 56) (.t 55))⟩]) (.seq (.reg  [⟨some 57, none, .q (.fa 0 (.t 2))⟩, ⟨some 58, none, .l (.ld1 (.t 57))⟩, ⟨some 59, none, .q (.bin .eql true (.t 58) (.k (.int .i64 2)))⟩, ⟨some 60, none, .q (.mv (.t 59))⟩, ⟨some 61, (some (60, false)), .q (.fa 0 (.t 2))⟩, ⟨some 62, (some (60, false)), .l (.ld1 (.t 61))⟩, ⟨some 63, (some (60, false)), .q (.bin .eql true (.t 62) (.k (.int .i64 3)))⟩, ⟨some 64, none, .pick (.t 60) (.k (.bool true)) (.t 63)⟩, ⟨some 6, none, .q (.mv (.t 64))⟩]) (.seq (.reg  [⟨some 65, none, .q (.mv (.t 6))⟩, ⟨some 66, none, .q (.mv (.t 65))⟩, ⟨some 67, (some (66, false)), .q (.fa 0 (.t 2))⟩, ⟨some 68, (some (66, false)), .l (.ld1 (.t 67))⟩, ⟨some 69, (some (66, false)), .q (.bin .eql true (.t 68) (.k (.int .i64 4)))⟩, ⟨some 70, none, .pick (.t 66) (.k (.bool true)) (.t 69)⟩, ⟨some 71, none, .q (.mv (.t 70))⟩, ⟨some 72, (some (71, true)), .q (.fa 1 (.t 3))⟩, ⟨some 73, (some (71, true)), .l (.ld1 (.t 72))⟩, ⟨some 74, (some (71, true)), .q (.fa 1 (.t 2))⟩, ⟨some 75, (some (71, true)), .l (.ld1 (.t 74))⟩, ⟨some 76, (some (71, true)), .q (.bin .gtr true (.t 73) (.t 75))⟩, ⟨some 77, none, .pick (.t 71) (.t 76) (.k (.bool false))⟩, ⟨some 78, none, .q (.mv (.t 77))⟩, ⟨some 79, (some (78, true)), .l (.ldn 4 (.t 2))⟩, ⟨some 80, (some (78, true)), .l (.ldn 4 (.t 5))⟩, ⟨some 81, (some (78, true)), .cq 10 [(.t 79), (.t 80)]⟩, ⟨some 82, none, .pick (.t 78) (.t 81) (.k (.bool false))⟩, ⟨some 4, none, .q (.mv (.t 82))⟩]) (.ret))))))))
def rs6 : List RV := [.mv (.t 4)]
theorem ok6 : trFn Try.prog true ⟨fun r k => if r = 1 ∧ k = 2 then .q else if r = 6 ∧ k = 26 then .q else if r = 10 ∧ k = 16 then .q else .own [], fun _ => false⟩ Try.f6 = some (pc6, rs6) := by kernel_rfl
def pc8_13 : PC := .seq (.gh (.reg  [⟨some 66, none, .l (.ldn 3 (.t 3))⟩, ⟨some 67, none, .q (.mv (.t 9))⟩, ⟨some 68, none, .cl 18 [(.t 66), (.t 67)] []⟩, ⟨some 65, none, .q (.mv (.t 68))⟩, ⟨some 69, none, .q (.ex (.t 65) 0)⟩, ⟨some 70, none, .q (.ex (.t 65) 1)⟩, ⟨some 14, none, .e (.al (.agg #[(.string (mk [])), (.slice none 0 0), (.slice none 0 0)]) 57)⟩, ⟨none, none, .e (.st 3 (.t 14) (.t 69))⟩, ⟨some 15, none, .q (.mv (.t 70))⟩])) (.seq (.reg  [⟨some 72, none, .l (.ldn 3 (.t 4))⟩, ⟨some 73, none, .q (.mv (.t 9))⟩, ⟨some 74, none, .cl 18 [(.t 72), (.t 73)] []⟩, ⟨some 71, none, .q (.mv (.t 74))⟩, ⟨some 75, none, .q (.ex (.t 71) 0)⟩, ⟨some 76, none, .q (.ex (.t 71) 1)⟩, ⟨some 16, none, .e (.al (.agg #[(.string (mk [])), (.slice none 0 0), (.slice none 0 0)]) 57)⟩, ⟨none, none, .e (.st 3 (.t 16) (.t 75))⟩, ⟨some 17, none, .q (.mv (.t 76))⟩]) (.seq (.reg  [⟨some 77, none, .q (.fa 2 (.t 14))⟩, ⟨some 78, none, .l (.ld1 (.t 77))⟩, ⟨some 79, none, .q (.lnL (.t 78))⟩, ⟨some 80, none, .q (.mv (.k (.int .i64 0)))⟩]) (.block 3 (.loop (.seq (.reg  [⟨some 81, none, .q (.bin .lss true (.t 80) (.t 79))⟩]) (.seq (.cond (.t 81) (.skip) (.exit 3)) (.seq (.block 4 (.seq (.reg  [⟨some 82, none, .l (.ia 1 (.t 78) (.t 80))⟩, ⟨some 83, none, .l (.ld1 (.t 82))⟩, ⟨some 19, none, .q (.mv (.t 83))⟩]) (.seq (.reg  [⟨some 84, none, .q (.mv (.t 15))⟩, ⟨some 85, none, .q (.mv (.t 84))⟩, ⟨some 86, (some (85, true)), .q (.mv (.t 17))⟩, ⟨some 87, none, .pick (.t 85) (.t 86) (.k (.bool false))⟩, ⟨some 88, none, .q (.mv (.t 87))⟩, ⟨some 89, (some (88, true)), .q (.fa 2 (.t 16))⟩, ⟨some 90, (some (88, true)), .l (.ld1 (.t 89))⟩, ⟨some 91, (some (88, true)), .q (.mv (.t 19))⟩, ⟨some 92, (some (88, true)), .cq 19 [(.t 90), (.t 91)]⟩, ⟨some 93, (some (88, true)), .q (.not (.t 92))⟩, ⟨some 94, none, .pick (.t 88) (.t 93) (.k (.bool false))⟩]) (.cond (.t 94) (.reg  [⟨some 95, none, .q (.mv (.t 7))⟩, ⟨some 96, none, .q (.mv (.t 19))⟩, ⟨some 97, none, .q (.mv (.t 9))⟩, ⟨some 98, none, .cl 16 [(.t 95), (.k (.int .i64 4)), (.t 96), (.t 97)] [2, 3]⟩]) (.skip))))) (.reg  [⟨some 99, none, .q (.bin .add true (.t 80) (.k (.int .i64 1)))⟩, ⟨some 80, none, .q (.mv (.t 99))⟩]))))))))
@[go_sem ↓] theorem fold8_13 (Γ : Env) (k0 : Nat) (fr : Fr) (H : Hp) (K : Ex → Fr → Hp → Prop) : vc Γ k0 pc8_13 fr H K = vcn Γ k0 pc8_13 fr H K ⟨⟩ := rfl
def pc8 : PC := .seq (.reg  [⟨some 3, none, .e (.bx 37 (.t 0))⟩, ⟨some 4, none, .e (.bx 37 (.t 1))⟩, ⟨some 6, none, .q (.mv (.k (.slice none 0 0)))⟩]) (.seq (.seq (.reg  [⟨some 20, none, .l (.ldn 3 (.t 3))⟩, ⟨some 21, none, .cq 13 [(.t 20)]⟩, ⟨some 22, none, .q (.bin .neq true (.t 21) (.k (.int .i64 0)))⟩, ⟨some 23, none, .q (.mv (.t 22))⟩, ⟨some 24, (some (23, false)), .l (.ldn 3 (.t 4))⟩, ⟨some 25, (some (23, false)), .cq 13 [(.t 24)]⟩, ⟨some 26, (some (23, false)), .q (.bin .neq true (.t 25) (.k (.int .i64 0)))⟩, ⟨some 27, none, .pick (.t 23) (.k (.bool true)) (.t 26)⟩]) (.cond (.t 27) (.seq (.reg  [⟨some 6, none, .q (.mv (.k (.slice none 0 0)))⟩]) (.ret)) (.skip))) (.seq (.reg  [⟨some 28, none, .q (.bd [(.slice none 0 0)] [])⟩, ⟨some 29, none, .e (.bx 48 (.t 28))⟩, ⟨some 7, none, .q (.mv (.t 29))⟩]) (.seq (.seq (.reg  [⟨some 30, none, .l (.ldn 3 (.t 3))⟩, ⟨some 31, none, .l (.ldn 3 (.t 4))⟩, ⟨some 32, none, .q (.mv (.t 2))⟩, ⟨some 33, none, .cl 14 [(.t 30), (.t 31), (.t 32)] []⟩, ⟨some 34, none, .q (.lnL (.t 33))⟩, ⟨some 35, none, .q (.mv (.k (.int .i64 0)))⟩]) (.block 0 (.loop (.seq (.reg  [⟨some 36, none, .q (.bin .lss true (.t 35) (.t 34))⟩]) (.seq (.cond (.t 36) (.skip) (.exit 0)) (.seq (.block 1 (.seq (.reg  [⟨some 37, none, .l (.ia 1 (.t 33) (.t 35))⟩, ⟨some 38, none, .l (.ld1 (.t 37))⟩, ⟨some 9, none, .q (.mv (.t 38))⟩]) (.seq (.reg  [⟨some 40, none, .l (.ldn 3 (.t 3))⟩, ⟨some 41, none, .q (.mv (.t 9))⟩, ⟨some 42, none, .cl 15 [(.t 40), (.t 41)] []⟩, ⟨some 39, none, .q (.mv (.t 42))⟩, ⟨some 43, none, .q (.ex (.t 39) 0)⟩, ⟨some 44, none, .q (.ex (.t 39) 1)⟩, ⟨some 10, none, .e (.al (.agg #[(.string (mk [])), (.slice none 0 0)]) 33)⟩, ⟨none, none, .e (.st 2 (.t 10) (.t 43))⟩, ⟨some 11, none, .q (.mv (.t 44))⟩]) (.seq (.reg  [⟨some 46, none, .l (.ldn 3 (.t 4))⟩, ⟨some 47, none, .q (.mv (.t 9))⟩, ⟨some 48, none, .cl 15 [(.t 46), (.t 47)] []⟩, ⟨some 45, none, .q (.mv (.t 48))⟩, ⟨some 49, none, .q (.ex (.t 45) 0)⟩, ⟨some 50, none, .q (.ex (.t 45) 1)⟩, ⟨some 12, none, .e (.al (.agg #[(.string (mk [])), (.slice none 0 0)]) 33)⟩, ⟨none, none, .e (.st 2 (.t 12) (.t 49))⟩, ⟨some 13, none, .q (.mv (.t 50))⟩]) (.seq (.block 2 (.seq (.reg  [⟨some 52, none, .q (.mv (.t 11))⟩, ⟨some 53, none, .q (.mv (.t 13))⟩, ⟨some 54, none, .q (.eqB true (.t 52) (.t 53))⟩, ⟨some 51, none, .q (.mv (.t 54))⟩]) (.cond (.t 51) (.seq (.reg  [⟨some 55, none, .q (.mv (.t 7))⟩, ⟨some 56, none, .q (.mv (.t 9))⟩, ⟨some 57, none, .cl 16 [(.t 55), (.k (.int .i64 5)), (.k (.int .i64 0)), (.t 56)] [2, 3]⟩]) (.exit 1)) (.seq (.reg  [⟨some 59, none, .q (.mv (.t 11))⟩, ⟨some 58, none, .q (.mv (.t 59))⟩]) (.cond (.t 58) (.reg  [⟨some 60, none, .q (.mv (.t 7))⟩, ⟨some 61, none, .q (.mv (.t 9))⟩, ⟨some 62, none, .l (.ldn 2 (.t 10))⟩, ⟨some 63, none, .l (.ldn 2 (.t 12))⟩, ⟨some 64, none, .cl 17 [(.t 60), (.t 61), (.t 62), (.t 63)] [2, 3]⟩]) (.skip)))))) (pc8_13)))))) (.reg  [⟨some 100, none, .q (.bin .add true (.t 35) (.k (.int .i64 1)))⟩, ⟨some 35, none, .q (.mv (.t 100))⟩]))))))) (.seq (.reg  [⟨some 101, none, .q (.mv (.t 7))⟩, ⟨some 102, none, .q (.nc (.t 101))⟩, ⟨some 103, none, .q (.fa 0 (.t 102))⟩, ⟨some 104, none, .l (.ld1 (.t 103))⟩, ⟨some 105, none, .cl 20 [(.t 104), (.f 21)] [3]⟩]) (.seq (.reg  [⟨some 106, none, .q (.mv (.t 7))⟩, ⟨some 107, none, .q (.nc (.t 106))⟩, ⟨some 108, none, .q (.fa 0 (.t 107))⟩, ⟨some 109, none, .l (.ld1 (.t 108))⟩, ⟨some 6, none, .q (.mv (.t 109))⟩]) (.ret))))))
def rs8 : List RV := [.mv (.t 6)]
theorem ok8 : trFn Try.prog true ⟨fun r k => if r = 1 ∧ k = 1 then .q else if r = 1 ∧ k = 5 then .q else if r = 10 ∧ k = 2 then .own [2, 3] else if r = 12 ∧ k = 4 then .own [2, 3] else if r = 18 ∧ k = 8 then .q else if r = 19 ∧ k = 3 then .own [2, 3] else if r = 22 ∧ k = 4 then .own [3] else .own [], fun r => [13].contains r⟩ Try.f8 = some (pc8, rs8) := by kernel_rfl
def pc9_5 : PC := .seq (.gh (.reg  [⟨some 31, none, .q (.mv (.t 8))⟩, ⟨some 32, none, .q (.mv (.t 31))⟩, ⟨some 33, (some (32, true)), .q (.mv (.t 10))⟩, ⟨some 34, none, .pick (.t 32) (.t 33) (.k (.bool false))⟩, ⟨some 35, none, .q (.mv (.t 34))⟩, ⟨some 36, (some (35, true)), .l (.ldn 3 (.t 3))⟩, ⟨some 37, (some (35, true)), .l (.ldn 3 (.t 4))⟩, ⟨some 38, (some (35, true)), .q (.mv (.t 2))⟩, ⟨some 39, (some (35, true)), .cl 8 [(.t 36), (.t 37), (.t 38)] []⟩, ⟨some 40, (some (35, true)), .q (.lnL (.t 39))⟩, ⟨some 41, (some (35, true)), .q (.bin .eql true (.t 40) (.k (.int .i64 0)))⟩, ⟨some 42, none, .pick (.t 35) (.t 41) (.k (.bool false))⟩, ⟨some 6, none, .q (.mv (.t 42))⟩])) (.ret)
@[go_sem ↓] theorem fold9_5 (Γ : Env) (k0 : Nat) (fr : Fr) (H : Hp) (K : Ex → Fr → Hp → Prop) : vc Γ k0 pc9_5 fr H K = vcn Γ k0 pc9_5 fr H K ⟨⟩ := rfl
def pc9_4 : PC := .seq (.gh (.reg  [⟨some 26, none, .l (.ldn 3 (.t 4))⟩, ⟨some 27, none, .q (.mv (.t 2))⟩, ⟨some 28, none, .cl 15 [(.t 26), (.t 27)] []⟩, ⟨some 25, none, .q (.mv (.t 28))⟩, ⟨some 29, none, .q (.ex (.t 25) 0)⟩, ⟨some 30, none, .q (.ex (.t 25) 1)⟩, ⟨some 9, none, .e (.al (.agg #[(.string (mk [])), (.slice none 0 0)]) 33)⟩, ⟨none, none, .e (.st 2 (.t 9) (.t 29))⟩, ⟨some 10, none, .q (.mv (.t 30))⟩])) (pc9_5)
@[go_sem ↓] theorem fold9_4 (Γ : Env) (k0 : Nat) (fr : Fr) (H : Hp) (K : Ex → Fr → Hp → Prop) : vc Γ k0 pc9_4 fr H K = vcn Γ k0 pc9_4 fr H K ⟨⟩ := rfl
def pc9 : PC := .seq (.reg  [⟨some 3, none, .e (.bx 37 (.t 0))⟩, ⟨some 4, none, .e (.bx 37 (.t 1))⟩, ⟨some 6, none, .q (.mv (.k (.bool false)))⟩]) (.seq (.seq (.reg  [⟨some 11, none, .l (.ldn 3 (.t 3))⟩, ⟨some 12, none, .cq 13 [(.t 11)]⟩, ⟨some 13, none, .q (.bin .neq true (.t 12) (.k (.int .i64 0)))⟩, ⟨some 14, none, .q (.mv (.t 13))⟩, ⟨some 15, (some (14, false)), .l (.ldn 3 (.t 4))⟩, ⟨some 16, (some (14, false)), .cq 13 [(.t 15)]⟩, ⟨some 17, (some (14, false)), .q (.bin .neq true (.t 16) (.k (.int .i64 0)))⟩, ⟨some 18, none, .pick (.t 14) (.k (.bool true)) (.t 17)⟩]) (.cond (.t 18) (.seq (.reg  [⟨some 6, none, .q (.mv (.k (.bool false)))⟩]) (.ret)) (.skip))) (.seq (.reg  [⟨some 20, none, .l (.ldn 3 (.t 3))⟩, ⟨some 21, none, .q (.mv (.t 2))⟩, ⟨some 22, none, .cl 15 [(.t 20), (.t 21)] []⟩, ⟨some 19, none, .q (.mv (.t 22))⟩, ⟨some 23, none, .q (.ex (.t 19) 0)⟩, ⟨some 24, none, .q (.ex (.t 19) 1)⟩, ⟨some 7, none, .e (.al (.agg #[(.string (mk [])), (.slice none 0 0)]) 33)⟩, ⟨none, none, .e (.st 2 (.t 7) (.t 23))⟩, ⟨some 8, none, .q (.mv (.t 24))⟩]) (pc9_4)))
def rs9 : List RV := [.mv (.t 6)]
theorem ok9 : trFn Try.prog true ⟨fun r k => if r = 1 ∧ k = 1 then .q else if r = 1 ∧ k = 5 then .q else .own [], fun r => [4, 5].contains r⟩ Try.f9 = some (pc9, rs9) := by kernel_rfl
def pc14 : PC := .seq (.reg  [⟨some 3, none, .e (.bx 37 (.t 0))⟩, ⟨some 4, none, .e (.bx 37 (.t 1))⟩, ⟨some 6, none, .q (.mv (.k (.slice none 0 0)))⟩]) (.seq (.reg  [⟨some 11, none, .q (.mv (.t 2))⟩, ⟨some 12, none, .e (.bsl 9 1 [(.t 11)])⟩, ⟨some 7, none, .q (.mv (.t 12))⟩]) (.seq (.reg  [⟨some 13, none, .l (.ldn 3 (.t 4))⟩, ⟨some 14, none, .q (.mv (.t 2))⟩, ⟨some 15, none, .cl 31 [(.t 13), (.t 14)] []⟩, ⟨some 8, none, .q (.mv (.t 15))⟩]) (.seq (.seq (.reg  [⟨some 16, none, .l (.ldn 3 (.t 3))⟩, ⟨some 17, none, .q (.mv (.t 2))⟩, ⟨some 18, none, .cl 31 [(.t 16), (.t 17)] []⟩, ⟨some 19, none, .q (.lnL (.t 18))⟩, ⟨some 20, none, .q (.mv (.k (.int .i64 0)))⟩]) (.block 0 (.loop (.seq (.reg  [⟨some 21, none, .q (.bin .lss true (.t 20) (.t 19))⟩]) (.seq (.cond (.t 21) (.skip) (.exit 0)) (.seq (.block 1 (.seq (.reg  [⟨some 22, none, .l (.ia 1 (.t 18) (.t 20))⟩, ⟨some 23, none, .l (.ld1 (.t 22))⟩, ⟨some 10, none, .q (.mv (.t 23))⟩]) (.seq (.reg  [⟨some 24, none, .q (.mv (.t 8))⟩, ⟨some 25, none, .q (.mv (.t 10))⟩, ⟨some 26, none, .cq 32 [(.t 24), (.t 25)]⟩]) (.cond (.t 26) (.reg  [⟨some 27, none, .q (.mv (.t 7))⟩, ⟨some 28, none, .q (.mv (.t 10))⟩, ⟨some 29, none, .e (.bsl 9 1 [(.t 28)])⟩, ⟨some 30, none, .e (.ap 9 1 16 (.t 27) (.t 29))⟩, ⟨some 7, none, .q (.mv (.t 30))⟩]) (.skip))))) (.reg  [⟨some 31, none, .q (.bin .add true (.t 20) (.k (.int .i64 1)))⟩, ⟨some 20, none, .q (.mv (.t 31))⟩]))))))) (.seq (.reg  [⟨some 32, none, .q (.mv (.t 7))⟩, ⟨some 6, none, .q (.mv (.t 32))⟩]) (.ret)))))
def rs14 : List RV := [.mv (.t 6)]
theorem ok14 : trFn Try.prog true ⟨fun r k => if r = 6 ∧ k = 2 then .q else .own [], fun _ => false⟩ Try.f14 = some (pc14, rs14) := by kernel_rfl
def pc16 : PC := .seq (.reg  [⟨some 11, none, .q (.mv (.t 1))⟩, ⟨some 12, none, .q (.mv (.t 2))⟩, ⟨some 13, none, .q (.mv (.t 3))⟩, ⟨some 14, none, .q (.bd [(.int .i64 0), (.int .i64 0), (.string (mk []))] [(0, 1, (.t 11)), (1, 1, (.t 12)), (2, 1, (.t 13))])⟩, ⟨some 8, none, .e (.al (.agg #[(.int .i64 0), (.int .i64 0), (.string (mk []))]) 42)⟩, ⟨none, none, .e (.st 3 (.t 8) (.t 14))⟩]) (.seq (.seq (.reg  [⟨some 15, none, .q (.mv (.t 0))⟩, ⟨some 16, none, .q (.nc (.t 15))⟩, ⟨some 17, none, .q (.fa 0 (.t 16))⟩, ⟨some 18, none, .l (.ld1 (.t 17))⟩, ⟨some 19, none, .q (.lnL (.t 18))⟩, ⟨some 20, none, .q (.mv (.k (.int .i64 0)))⟩]) (.block 0 (.loop (.seq (.reg  [⟨some 21, none, .q (.bin .lss true (.t 20) (.t 19))⟩]) (.seq (.cond (.t 21) (.skip) (.exit 0)) (.seq (.block 1 (.seq (.reg  [⟨some 22, none, .l (.ia 3 (.t 18) (.t 20))⟩, ⟨some 23, none, .l (.ldn 3 (.t 22))⟩, ⟨some 10, none, .e (.al (.agg #[(.int .i64 0), (.int .i64 0), (.string (mk []))]) 42)⟩, ⟨none, none, .e (.st 3 (.t 10) (.t 23))⟩]) (.seq (.reg  [⟨some 24, none, .l (.ldn 3 (.t 8))⟩, ⟨some 25, none, .l (.ldn 3 (.t 10))⟩, ⟨some 26, none, .q (.eqT false [(0, .int .i64), (1, .int .i64), (2, .str)] (.t 24) (.t 25))⟩]) (.cond (.t 26) (.ret) (.skip))))) (.reg  [⟨some 27, none, .q (.bin .add true (.t 20) (.k (.int .i64 1)))⟩, ⟨some 20, none, .q (.mv (.t 27))⟩]))))))) (.ord  [.q ⟨some 28, none, .q (.mv (.t 0))⟩, .q ⟨some 29, none, .q (.mv (.t 0))⟩, .q ⟨some 30, none, .q (.nc (.t 29))⟩, .q ⟨some 31, none, .q (.fa 0 (.t 30))⟩, .q ⟨some 32, none, .l (.ld1 (.t 31))⟩, .q ⟨some 33, none, .l (.ldn 3 (.t 8))⟩, .m ⟨some 34, none, .e (.bsl 42 3 [(.t 33)])⟩, .rc ⟨some 28, none, .q (.mv (.t 0))⟩, .rc ⟨some 29, none, .q (.mv (.t 0))⟩, .rc ⟨some 30, none, .q (.nc (.t 29))⟩, .rc ⟨some 31, none, .q (.fa 0 (.t 30))⟩, .rc ⟨some 32, none, .l (.ld1 (.t 31))⟩, .m ⟨some 35, none, .e (.ap 42 3 32 (.t 32) (.t 34))⟩, .rc ⟨some 28, none, .q (.mv (.t 0))⟩, .q ⟨some 36, none, .q (.nc (.t 28))⟩, .q ⟨some 37, none, .q (.fa 0 (.t 36))⟩, .m ⟨none, none, .e (.st 1 (.t 37) (.t 35))⟩]))
def rs16 : List RV := []
theorem ok16 : trFn Try.prog true ⟨fun _ _ => .own [], fun _ => false⟩ Try.f16 = some (pc16, rs16) := by kernel_rfl
def pc17 : PC := .seq (.reg  [⟨some 6, none, .e (.bx 33 (.t 2))⟩, ⟨some 7, none, .e (.bx 33 (.t 3))⟩]) (.seq (.seq (.reg  [⟨some 16, none, .q (.fa 1 (.t 6))⟩, ⟨some 17, none, .l (.ld1 (.t 16))⟩, ⟨some 18, none, .q (.lnL (.t 17))⟩, ⟨some 19, none, .q (.mv (.k (.int .i64 0)))⟩]) (.block 0 (.loop (.seq (.reg  [⟨some 20, none, .q (.bin .lss true (.t 19) (.t 18))⟩]) (.seq (.cond (.t 20) (.skip) (.exit 0)) (.seq (.block 1 (.seq (.reg  [⟨some 21, none, .l (.ia 7 (.t 17) (.t 19))⟩, ⟨some 22, none, .l (.ldn 7 (.t 21))⟩, ⟨some 9, none, .e (.al (.agg #[(.int .i64 0), (.string (mk [])), (.int .i64 0), (.int .i64 0), (.string (mk [])), (.slice none 0 0), (.bool false)]) 30)⟩, ⟨none, none, .e (.st 7 (.t 9) (.t 22))⟩]) (.seq (.reg  [⟨some 24, none, .l (.ldn 2 (.t 7))⟩, ⟨some 25, none, .q (.fa 0 (.t 9))⟩, ⟨some 26, none, .l (.ld1 (.t 25))⟩, ⟨some 27, none, .cl 34 [(.t 24), (.t 26)] []⟩, ⟨some 23, none, .q (.mv (.t 27))⟩, ⟨some 28, none, .q (.ex (.t 23) 0)⟩, ⟨some 29, none, .q (.ex (.t 23) 1)⟩, ⟨some 10, none, .e (.al (.agg #[(.int .i64 0), (.string (mk [])), (.int .i64 0), (.int .i64 0), (.string (mk [])), (.slice none 0 0), (.bool false)]) 30)⟩, ⟨none, none, .e (.st 7 (.t 10) (.t 28))⟩, ⟨some 11, none, .q (.mv (.t 29))⟩]) (.seq (.seq (.reg  [⟨some 30, none, .q (.mv (.t 11))⟩, ⟨some 31, none, .q (.not (.t 30))⟩]) (.cond (.t 31) (.seq (.seq (.reg  [⟨some 32, none, .q (.fa 6 (.t 9))⟩, ⟨some 33, none, .l (.ld1 (.t 32))⟩, ⟨some 34, none, .q (.not (.t 33))⟩]) (.cond (.t 34) (.reg  [⟨some 35, none, .q (.mv (.t 0))⟩, ⟨some 36, none, .q (.fa 0 (.t 9))⟩, ⟨some 37, none, .l (.ld1 (.t 36))⟩, ⟨some 38, none, .q (.mv (.t 1))⟩, ⟨some 39, none, .cl 16 [(.t 35), (.k (.int .i64 2)), (.t 37), (.t 38)] [0, 1]⟩]) (.skip))) (.exit 1)) (.skip))) (.seq (.seq (.reg  [⟨some 40, none, .q (.fa 2 (.t 9))⟩, ⟨some 41, none, .l (.ldn 4 (.t 40))⟩, ⟨some 42, none, .q (.fa 2 (.t 10))⟩, ⟨some 43, none, .l (.ldn 4 (.t 42))⟩, ⟨some 44, none, .cq 6 [(.t 41), (.t 43)]⟩, ⟨some 45, none, .q (.not (.t 44))⟩]) (.cond (.t 45) (.reg  [⟨some 46, none, .q (.mv (.t 0))⟩, ⟨some 47, none, .q (.fa 0 (.t 9))⟩, ⟨some 48, none, .l (.ld1 (.t 47))⟩, ⟨some 49, none, .q (.mv (.t 1))⟩, ⟨some 50, none, .cl 16 [(.t 46), (.k (.int .i64 1)), (.t 48), (.t 49)] [0, 1]⟩]) (.skip))) (.seq (.reg  [⟨some 51, none, .q (.fa 6 (.t 9))⟩, ⟨some 52, none, .l (.ld1 (.t 51))⟩, ⟨some 53, none, .q (.fa 6 (.t 10))⟩, ⟨some 54, none, .l (.ld1 (.t 53))⟩, ⟨some 55, none, .q (.eqB true (.t 52) (.t 54))⟩]) (.cond (.t 55) (.reg  [⟨some 56, none, .q (.mv (.t 0))⟩, ⟨some 57, none, .q (.fa 0 (.t 9))⟩, ⟨some 58, none, .l (.ld1 (.t 57))⟩, ⟨some 59, none, .q (.mv (.t 1))⟩, ⟨some 60, none, .cl 16 [(.t 56), (.k (.int .i64 3)), (.t 58), (.t 59)] [0, 1]⟩]) (.skip)))))))) (.reg  [⟨some 61, none, .q (.bin .add true (.t 19) (.k (.int .i64 1)))⟩, ⟨some 19, none, .q (.mv (.t 61))⟩]))))))) (.seq (.reg  [⟨some 62, none, .q (.fa 1 (.t 7))⟩, ⟨some 63, none, .l (.ld1 (.t 62))⟩, ⟨some 64, none, .q (.lnL (.t 63))⟩, ⟨some 65, none, .q (.mv (.k (.int .i64 0)))⟩]) (.block 2 (.loop (.seq (.reg  [⟨some 66, none, .q (.bin .lss true (.t 65) (.t 64))⟩]) (.seq (.cond (.t 66) (.skip) (.exit 2)) (.seq (.block 3 (.seq (.reg  [⟨some 67, none, .l (.ia 7 (.t 63) (.t 65))⟩, ⟨some 68, none, .l (.ldn 7 (.t 67))⟩, ⟨some 13, none, .e (.al (.agg #[(.int .i64 0), (.string (mk [])), (.int .i64 0), (.int .i64 0), (.string (mk [])), (.slice none 0 0), (.bool false)]) 30)⟩, ⟨none, none, .e (.st 7 (.t 13) (.t 68))⟩]) (.seq (.reg  [⟨some 70, none, .l (.ldn 2 (.t 6))⟩, ⟨some 71, none, .q (.fa 0 (.t 13))⟩, ⟨some 72, none, .l (.ld1 (.t 71))⟩, ⟨some 73, none, .cl 34 [(.t 70), (.t 72)] []⟩, ⟨some 69, none, .q (.mv (.t 73))⟩, ⟨some 74, none, .q (.ex (.t 69) 0)⟩, ⟨some 75, none, .q (.ex (.t 69) 1)⟩, ⟨some 14, none, .e (.al (.agg #[(.int .i64 0), (.string (mk [])), (.int .i64 0), (.int .i64 0), (.string (mk [])), (.slice none 0 0), (.bool false)]) 30)⟩, ⟨none, none, .e (.st 7 (.t 14) (.t 74))⟩, ⟨some 15, none, .q (.mv (.t 75))⟩]) (.seq (.reg  [⟨some 76, none, .q (.mv (.t 15))⟩, ⟨some 77, none, .q (.not (.t 76))⟩, ⟨some 78, none, .q (.mv (.t 77))⟩, ⟨some 79, (some (78, true)), .q (.fa 6 (.t 13))⟩, ⟨some 80, (some (78, true)), .l (.ld1 (.t 79))⟩, ⟨some 81, (some (78, true)), .q (.not (.t 80))⟩, ⟨some 82, none, .pick (.t 78) (.t 81) (.k (.bool false))⟩]) (.cond (.t 82) (.reg  [⟨some 83, none, .q (.mv (.t 0))⟩, ⟨some 84, none, .q (.fa 0 (.t 13))⟩, ⟨some 85, none, .l (.ld1 (.t 84))⟩, ⟨some 86, none, .q (.mv (.t 1))⟩, ⟨some 87, none, .cl 16 [(.t 83), (.k (.int .i64 2)), (.t 85), (.t 86)] [0, 1]⟩]) (.skip)))))) (.reg  [⟨some 88, none, .q (.bin .add true (.t 65) (.k (.int .i64 1)))⟩, ⟨some 65, none, .q (.mv (.t 88))⟩]))))))))
def rs17 : List RV := []
theorem ok17 : trFn Try.prog true ⟨fun r k => if r = 7 ∧ k = 4 then .own [0, 1] else if r = 8 ∧ k = 4 then .q else if r = 9 ∧ k = 4 then .own [0, 1] else if r = 11 ∧ k = 4 then .own [0, 1] else if r = 18 ∧ k = 4 then .own [0, 1] else .own [], fun _ => false⟩ Try.f17 = some (pc17, rs17) := by kernel_rfl
end Go.Proofs.Ytbolanmlngjdoaa
namespace Go.Proofs.Ytbolanmlngjdoaa
open Go.W
noncomputable def wdVal : List S → A := fun av => match av with
  | [.va (.gs r), .va (.gs q)] => bA (widF (C.ty r) (C.ty q))
  | _ => .gs []
noncomputable def wdFn (N : Nat) : Fun := ⟨saPre N, wdVal, fun av h => by obtain ⟨a, b, rfl, _⟩ := saPre_open h; trivial⟩
attribute [go_sem] wdFn wdVal
theorem wdFn_len {N : Nat} : ∀ av H K, (wdFn N).sp av H K → av.length = 2 := fun av H K h => by obtain ⟨a, b, rfl, _⟩ := saPre_open h.1.1; rfl
set_option maxRecDepth 100000 in
set_option maxHeartbeats 1000000 in
theorem mWidens' : ∀ N, Meets Try.prog 6 (wdFn N).sp
  | 0 => ⟨by kernel_rfl, by rintro xs vs E ro w K _ _ _ ⟨⟨h, _⟩, _⟩; obtain ⟨a, _, _, _, _, h⟩ := saPre_open h; have := a.h_pos; omega⟩
  | N + 1 => by
    refine meets_fn Try.func6 ok6 2 (by rw [Try.ntmps6]; decide) (meetsAll_f (mWidens' N) (meetsAll_f mSameS (meetsAll_nil _))) wdFn_len ?_
    rintro av H K ⟨⟨h, rfl⟩, hK⟩
    obtain ⟨a, b, rfl, ha, hb, hh⟩ := saPre_open h
    have hK : K (bS (widF a b)) [] := by
      have : (wdFn (N + 1)).val [.va (.gs (tyC a)), .va (.gs (tyC b))] = bA (widF a b) := by simp -dsimp only [go_sem]
      rw [this] at hK; exact hK
    clear h
    have fin : ∀ (x : Bool) (R : Hp), widF a b = x → W.Fin 0 K (bS x) R := fun x R h => by
      rw [h] at hK
      exact .sel [] (by simp) (by simp) rfl (.done (by simpa [go_sem] using hK))
    obtain ⟨k, s, n, e⟩ := a
    obtain ⟨k', s', n', e'⟩ := b
    have hua : isTy (tyC (.mk k s n e)) := isTy_mk ha
    have hub : isTy (tyC (.mk k' s' n' e')) := isTy_mk hb
    have hax : TyOk (.mk k' s n' e') := by cases hb; exact .mk (by assumption) ha.s (by assumption) (by assumption) (by assumption)
    have hux : isTy (tyC (.mk k' s n' e')) := isTy_mk hax
    have dua := ty_dec (.mk k s n e)
    have dub := ty_dec (.mk k' s' n' e')
    have dux := ty_dec (.mk k' s n' e')
    have hla := ha.len
    have hlb := hb.len
    have hoa := ha.e
    have hob := hb.e
    simp only [Ty.e] at hla hlb hoa hob
    have hst : widF (.mk k s n e) (.mk k' s' n' e') = (tyB (.mk k s n e) (.mk k' s' n' e') || (decide (k = k') && decide (n = n') && (bif decide (k = 5) then decide (e.length = 1) && decide (e'.length = 1) && decide (s ≤ s') && widF (e.headD default) (e'.headD default)
      else (decide (k = 2) || decide (k = 3) || decide (k = 4)) && decide (s < s') && tyB (.mk k s n e) (.mk k' s n' e')))) := widF_step _ _
    simp only [tyC, tysC_map] at hua hub hux dua dub dux
    cases c1 : tyB (.mk k s n e) (.mk k' s' n' e') with
    | true =>
      rw [c1, Bool.true_or] at hst
      simp (maxSteps := 1000000) -dsimp only [go_sem, tyC, tysC_map, pc6, rs6, hua, hub, dua, dub, c1]
      exact fin _ _ hst
    | false =>
    rw [c1, Bool.false_or] at hst
    simp (maxSteps := 1000000) -dsimp only [go_sem, tyC, tysC_map, pc6, rs6, bl_beq, hua, hub, hux, dua, dub, dux, c1]
    have e5 : (k == (5 : Int)) = decide (k = 5) := rfl
    have e2 : (k == (2 : Int)) = decide (k = 2) := rfl
    have e3 : (k == (3 : Int)) = decide (k = 3) := rfl
    have e4 : (k == (4 : Int)) = decide (k = 4) := rfl
    refine ⟨fun h1 => fin _ _ ?_, fun h1 => ?_⟩
    · rw [hst]
      by_cases hk : k = k'
      · by_cases hn : n = n'
        · rw [hk, hn] at h1; simp at h1
        · rw [decide_eq_false hn, Bool.and_false, Bool.false_and]
      · rw [decide_eq_false hk, Bool.false_and, Bool.false_and]
    have hkn : (decide (k = k') && decide (n = n')) = true := by
      simp only [Bool.or_eq_false_iff, bne_eq_false_iff_eq, Bool.not_eq_false'] at h1
      rw [h1.2, decide_eq_true h1.1]; rfl
    rw [hkn, Bool.true_and] at hst
    refine ⟨fun h5 => ?_, fun h5 => fin _ _ ?_⟩
    · rw [e5] at h5
      rw [h5, Bool.cond_true] at hst
      refine ⟨fun h2 => ?_, fun h2 => fin _ _ ?_⟩
      · have h2' := h2
        simp only [Bool.and_eq_true, beq_iff_eq, decide_eq_true_eq] at h2'
        obtain ⟨⟨l1, l2⟩, l3⟩ := h2'
        obtain ⟨u, rfl⟩ : ∃ u, e = [u] := List.length_eq_one_iff.1 (by omega)
        obtain ⟨v, rfl⟩ : ∃ v, e' = [v] := List.length_eq_one_iff.1 (by omega)
        have hu : isTy (tyC u) := isTy_mk (hoa u (by simp))
        have hv : isTy (tyC v) := isTy_mk (hob v (by simp))
        have huh : u.h ≤ N := by rw [Ty.h, Ty.hs] at hh; omega
        have hfin : widF (.mk k s n [u]) (.mk k' s' n' [v]) = widF u v := by
          rw [hst]; simp [l3]
        simp (maxSteps := 1000000) -dsimp only [go_sem, tyC_len, hu, hv, List.getElem?_cons_zero, Option.some.injEq, forall_eq']
        refine ⟨by simp, by simp, huh, fin _ _ hfin⟩
      · rw [hst]
        cases hc : (decide (e.length = 1) && decide (e'.length = 1) && decide (s ≤ s')) with
        | false => rfl
        | true =>
          simp only [Bool.and_eq_true, decide_eq_true_eq] at hc
          simp [hc] at h2
    · rw [e5] at h5
      rw [hst, h5, Bool.cond_false, e2, e3, e4]
end Go.Proofs.Ytbolanmlngjdoaa
namespace Go.Proofs.Ytbolanmlngjdoaa
open Go.W
abbrev isH (l : List Is) : Hp := [.cells [.sl 1 l.length] 48, .row (l.map isC) 42 3]
def adSp : W.Spec := fun av H K => ∃ (k n : Int) (t : ByteArray) (l : List Is), av = [.va (.c1 (.pt 0 0)), iS .i64 k, iS .i64 n, tS t] ∧ H = isH l ∧ l.length ≤ 1000000 ∧ K (.tu []) (isH (addF l ⟨k, n, t⟩))
theorem ad_use {k n : Int} {t : ByteArray} {l : List Is} {K : S → Hp → Prop} (h : l.length ≤ 1000000) (hK : K (.tu []) (isH (addF l ⟨k, n, t⟩))) : adSp [.va (.c1 (.pt 0 0)), iS .i64 k, iS .i64 n, tS t] (isH l) K := ⟨k, n, t, l, rfl, rfl, h, hK⟩
set_option maxRecDepth 100000 in
set_option maxHeartbeats 1000000 in
theorem mAdd : Meets Try.prog 16 adSp := by
  refine meets_fn Try.func16 ok16 4 (by rw [Try.ntmps16]; decide) (meetsAll_nil _) (fun av H K h => by obtain ⟨_, _, _, _, rfl, _⟩ := h; rfl) ?_
  rintro av H K ⟨k, n, t, l, rfl, rfl, hl, hK⟩
  unfold addF at hK
  simp (maxSteps := 1000000) -dsimp only [go_sem, pc16, rs16]
  refine vc_loop (α := Nat) (fun i => [(0, .va (.c1 (.pt 0 0))), (8, .va (.c1 (.pt 2 0))), (18, .va (.c1 (.sl 1 l.length))), (19, iS .i64 l.length), (20, iS .i64 i)]) (fun _ => [.cells [.sl 1 l.length] 48, .row (l.map isC) 42 3, .cells (isC ⟨k, n, t⟩) 42])
    (fun i => i ≤ l.length ∧ (l.drop i).any (fun y => decide ((⟨k, n, t⟩ : Is) = y)) = l.any (fun y => decide ((⟨k, n, t⟩ : Is) = y))) (fun i => l.length - i) 0 3 ⟨Nat.zero_le _, rfl⟩ ?_ ?_ ?_
  · simp -dsimp only [go_sem] <;> simp
  · simp -dsimp only [go_sem, isC] <;> simp
  rintro i ⟨hi, ho⟩
  rcases Nat.lt_or_ge i l.length with hlt | hge
  · have hg : decide ((i : Int) < (l.length : Int)) = true := by simp; omega
    obtain ⟨y, hx⟩ : ∃ t, l[i]? = some t := ⟨_, List.getElem?_eq_getElem hlt⟩
    have q1 := row_rg' (row := isC) hx
    have hdr : l.drop i = y :: l.drop (i + 1) := by
      obtain ⟨h, rfl⟩ := List.getElem?_eq_some_iff.1 hx
      exact List.drop_eq_getElem_cons h
    rw [hdr, List.any_cons] at ho
    simp (maxSteps := 1000000) -dsimp only [go_sem, hg, isC]
    have hcc : (k == y.k && (n == y.n && bl t == bl y.t)) = decide ((⟨k, n, t⟩ : Is) = y) := by
      rw [bl_beq, Bool.eq_iff_iff, decide_eq_true_eq, is_eq]
      simp
    refine ⟨by omega, hlt, fun z hz => ?_⟩
    rw [hx, Option.some.injEq] at hz
    subst hz
    rw [hcc]
    refine ⟨fun h1 => ?_, fun h1 => ⟨by omega, loop_next (i + 1) 3 ⟨by omega, ?_⟩ (by omega) ?_ ?_⟩⟩
    · rw [h1, Bool.true_or] at ho
      rw [← ho, Bool.cond_true] at hK
      refine .sel [0, 1] (by simp) (by simp) rfl (.done ?_)
      simpa -dsimp [go_sem, isC, isH] using hK
    · rw [h1, Bool.false_or] at ho; exact ho
    · simp -dsimp only [go_sem] <;> simp
    · simp -dsimp only [go_sem, isC] <;> simp
  · have hg : decide ((i : Int) < (l.length : Int)) = false := by simp; omega
    obtain rfl : i = l.length := by omega
    rw [List.drop_length, List.any_nil] at ho
    rw [← ho, Bool.cond_false] at hK
    simp (maxSteps := 1000000) -dsimp only [go_sem, hg, isC]
    refine ⟨by omega, .sel [0, 1] (by simp) (by simp) rfl (.done ?_)⟩
    simpa -dsimp [go_sem, isC, isH] using hK
end Go.Proofs.Ytbolanmlngjdoaa
namespace Go.Proofs.Ytbolanmlngjdoaa
open Go.W
noncomputable def wFn : Fun := ⟨sPre, wdVal, fun av h => by obtain ⟨a, b, rfl, _⟩ := sPre_open h; trivial⟩
attribute [go_sem] wFn
theorem mWidens : Meets Try.prog 6 wFn.sp := meets_all 0 mWidens' fun av H K ⟨⟨h, e⟩, hK⟩ => by
  obtain ⟨a, b, rfl, ha, hb⟩ := sPre_open h
  exact ⟨a.h, ⟨⟨⟨isTy_mk ha, isTy_mk hb, by rw [ty_dec]; exact Nat.le_refl _⟩, e⟩, hK⟩⟩
structure StG (a : St) : Prop where
  ok : a.ok
  len : a.fs.length ≤ 1000
  sm : ∀ f ∈ a.fs, TySm f.ty
def iuSpS : W.Spec := fun av H K => ∃ (nm : ByteArray) (a b : St) (l : List Is), av = [.va (.c1 (.pt 0 0)), tS nm, .va (.gs (stC a)), .va (.gs (stC b))] ∧ H = isH l ∧ StG a ∧ StG b ∧ l.length ≤ 900000 ∧ K (.tu []) (isH (addA l (cmpS nm a b)))
theorem ius_use {nm : ByteArray} {a b : St} {l : List Is} {K : S → Hp → Prop} (h1 : StG a) (h2 : StG b) (h3 : l.length ≤ 900000) (hK : K (.tu []) (isH (addA l (cmpS nm a b)))) : iuSpS [.va (.c1 (.pt 0 0)), tS nm, .va (.gs (stC a)), .va (.gs (stC b))] (isH l) K := ⟨nm, a, b, l, rfl, rfl, h1, h2, h3, hK⟩
theorem fm_next {α β : Type} {l : List α} {i : Nat} {x : α} (h : l[i]? = some x) (f : α → List β) : (l.take (i + 1)).flatMap f = (l.take i).flatMap f ++ f x := by rw [take_next h]; simp
theorem fm_take_le {α β : Type} {f : α → List β} {k : Nat} (h : ∀ a, (f a).length ≤ k) (l : List α) (i : Nat) : ((l.take i).flatMap f).length ≤ l.length * k := Nat.le_trans (fm_le fun a _ => h a) (Nat.mul_le_mul_right k (by rw [List.length_take]; omega))
theorem flC_isTy {f : Fl} (h : f.ok) : isTy [.vl (.int .i64 f.ty.k), .vl (.int .i64 f.ty.s), .vl (.string f.ty.n), .fz (f.ty.e.map tyC)] := by rw [← tyC_eq]; exact isTy_mk h.ty
theorem flC_dTy (f : Fl) : C.ty [.vl (.int .i64 f.ty.k), .vl (.int .i64 f.ty.s), .vl (.string f.ty.n), .fz (f.ty.e.map tyC)] = f.ty := by rw [← tyC_eq, ty_dec]
set_option maxRecDepth 100000 in
set_option maxHeartbeats 4000000 in
theorem mStructs : Meets Try.prog 17 iuSpS := by
  refine meets_fn Try.func17 ok17 4 (by rw [Try.ntmps17]; decide) (meetsAll_s mAdd (meetsAll_s mFieldOfP (meetsAll_f mWidens (meetsAll_nil _)))) (fun av H K h => by obtain ⟨_, _, _, _, rfl, _⟩ := h; rfl) ?_
  rintro av H K ⟨nm, a, b, l, rfl, rfl, ga, gb, hl, hK⟩
  have hla := ga.len
  have hlb := gb.len
  simp (maxSteps := 1000000) -dsimp only [go_sem, stC, pc17, rs17]
  have hbd : ∀ i, (addA l ((a.fs.take i).flatMap (isA nm b))).length ≤ 910000 := fun i => by
    have h1 := addA_len ((a.fs.take i).flatMap (isA nm b)) l
    have h2 := fm_take_le (isA_len nm b) a.fs i
    omega
  refine vc_loop (α := Nat) (fun i => [(0, .va (.c1 (.pt 0 0))), (1, tS nm), (6, .va (.c1 (.pt 2 0))), (7, .va (.c1 (.pt 3 0))), (17, .va (.c1 (.fz (a.fs.map flC)))), (18, iS .i64 a.fs.length), (19, iS .i64 i)]) (fun i => [.cells [.sl 1 (addA l ((a.fs.take i).flatMap (isA nm b))).length] 48, .row ((addA l ((a.fs.take i).flatMap (isA nm b))).map isC) 42 3, .cells (stC a) 33, .cells (stC b) 33])
    (fun i => i ≤ a.fs.length) (fun i => a.fs.length - i) 0 4 (Nat.zero_le _) ?_ ?_ ?_
  · simp -dsimp only [go_sem] <;> simp
  · simp -dsimp only [go_sem, stC] <;> simp [addA]
  intro i hi
  have hbi := hbd i
  rcases Nat.lt_or_ge i a.fs.length with hlt | hge
  · have hg : decide ((i : Int) < (a.fs.length : Int)) = true := by simp; omega
    obtain ⟨f, hx⟩ : ∃ t, a.fs[i]? = some t := ⟨_, List.getElem?_eq_getElem hlt⟩
    have q1 := row_rg' (row := flC) hx
    have hfm := List.mem_of_getElem? hx
    have hnx : addA l ((a.fs.take (i + 1)).flatMap (isA nm b)) = addA (addA l ((a.fs.take i).flatMap (isA nm b))) (isA nm b f) := by rw [fm_next hx, addA_app]
    generalize hL : addA l ((a.fs.take i).flatMap (isA nm b)) = L at *
    have hft := flC_isTy (ga.ok.fs f hfm)
    have hfd := flC_dTy f
    simp (maxSteps := 1000000) -dsimp only [go_sem, hg, ↓q1, stC, flC]
    refine ⟨by omega, fop_use (t := b) gb.ok gb.sm ?_⟩
    cases hfo : fF b.fs f.num with
    | none =>
      cases ho : f.opt with
      | true =>
        have hv : isA nm b f = [] := by unfold isA; rw [hfo]; simp [ho]
        rw [hv, addA_nil] at hnx
        simp (maxSteps := 1000000) -dsimp only [go_sem, Option.getD_none, Option.isSome_none, flC_def]
        refine ⟨by omega, loop_next (i + 1) 4 (by omega) (by omega) ?_ ?_⟩
        · simp -dsimp only [go_sem] <;> simp
        · simp -dsimp only [go_sem, stC, hnx] <;> simp
      | false =>
        have hv : isA nm b f = [⟨2, f.num, nm⟩] := by unfold isA; rw [hfo]; simp [ho]
        rw [hv, addA_one] at hnx
        simp (maxSteps := 1000000) -dsimp only [go_sem, Option.getD_none, Option.isSome_none, flC_def]
        refine ad_use (l := L) (by omega) ?_
        simp (maxSteps := 1000000) -dsimp only [go_sem]
        refine ⟨by omega, loop_next (i + 1) 4 (by omega) (by omega) ?_ ?_⟩
        · simp -dsimp only [go_sem] <;> simp
        · simp -dsimp only [go_sem, stC, hnx] <;> simp
    | some g =>
      have hgm := (fF_some hfo).1
      have hgt := flC_isTy (gb.ok.fs g hgm)
      have hgd := flC_dTy g
      have hv : isA nm b f = (bif widF f.ty g.ty then [] else [⟨1, f.num, nm⟩]) ++ (bif f.opt == g.opt then [] else [⟨3, f.num, nm⟩]) := by unfold isA; rw [hfo]
      rw [hv] at hnx
      have eo : (f.opt != g.opt) = !(f.opt == g.opt) := rfl
      have hl1 := addF_len L ⟨1, f.num, nm⟩
      cases hw : widF f.ty g.ty with
      | true =>
        cases he : f.opt == g.opt with
        | true =>
          rw [hw, he] at hnx
          simp only [Bool.cond_true, List.append_nil, addA_nil] at hnx
          simp (maxSteps := 1000000) -dsimp only [go_sem, Option.getD_some, Option.isSome_some, flC, hft, hfd, hgt, hgd, hw, he, Bool.not_true]
          refine ⟨by omega, loop_next (i + 1) 4 (by omega) (by omega) ?_ ?_⟩
          · simp -dsimp only [go_sem] <;> simp
          · simp -dsimp only [go_sem, stC, hnx] <;> simp
        | false =>
          rw [hw, he] at hnx
          simp only [Bool.cond_true, Bool.cond_false, List.nil_append, addA_one] at hnx
          simp (maxSteps := 1000000) -dsimp only [go_sem, Option.getD_some, Option.isSome_some, flC, hft, hfd, hgt, hgd, hw, he, Bool.not_true, Bool.not_false]
          refine ad_use (l := L) (by omega) ?_
          simp (maxSteps := 1000000) -dsimp only [go_sem]
          refine ⟨by omega, loop_next (i + 1) 4 (by omega) (by omega) ?_ ?_⟩
          · simp -dsimp only [go_sem] <;> simp
          · simp -dsimp only [go_sem, stC, hnx] <;> simp
      | false =>
        cases he : f.opt == g.opt with
        | true =>
          rw [hw, he] at hnx
          simp only [Bool.cond_true, Bool.cond_false, List.append_nil, addA_one] at hnx
          simp (maxSteps := 1000000) -dsimp only [go_sem, Option.getD_some, Option.isSome_some, flC, hft, hfd, hgt, hgd, hw, he, Bool.not_true, Bool.not_false]
          refine ad_use (l := L) (by omega) ?_
          simp (maxSteps := 1000000) -dsimp only [go_sem]
          refine ⟨by omega, loop_next (i + 1) 4 (by omega) (by omega) ?_ ?_⟩
          · simp -dsimp only [go_sem] <;> simp
          · simp -dsimp only [go_sem, stC, hnx] <;> simp
        | false =>
          rw [hw, he] at hnx
          simp only [Bool.cond_false, List.singleton_append] at hnx
          rw [show addA L [⟨1, f.num, nm⟩, ⟨3, f.num, nm⟩] = addF (addF L ⟨1, f.num, nm⟩) ⟨3, f.num, nm⟩ from rfl] at hnx
          simp (maxSteps := 1000000) -dsimp only [go_sem, Option.getD_some, Option.isSome_some, flC, hft, hfd, hgt, hgd, hw, he, Bool.not_true, Bool.not_false]
          refine ad_use (l := L) (by omega) ?_
          simp (maxSteps := 1000000) -dsimp only [go_sem]
          refine ad_use (l := addF L ⟨1, f.num, nm⟩) (by omega) ?_
          simp (maxSteps := 1000000) -dsimp only [go_sem]
          refine ⟨by omega, loop_next (i + 1) 4 (by omega) (by omega) ?_ ?_⟩
          · simp -dsimp only [go_sem] <;> simp
          · simp -dsimp only [go_sem, stC, hnx] <;> simp
  · have hg : decide ((i : Int) < (a.fs.length : Int)) = false := by simp; omega
    obtain rfl : i = a.fs.length := by omega
    rw [List.take_length] at hbi ⊢
    have hcs : addA l (cmpS nm a b) = addA (addA l (a.fs.flatMap (isA nm b))) (b.fs.flatMap (isB nm a)) := by rw [cmpS, addA_app]
    rw [hcs] at hK
    clear hcs hbd
    generalize addA l (a.fs.flatMap (isA nm b)) = L at *
    simp (maxSteps := 1000000) -dsimp only [go_sem, hg, stC]
    have hbd : ∀ i, (addA L ((b.fs.take i).flatMap (isB nm a))).length ≤ 920000 := fun i => by
      have h1 := addA_len ((b.fs.take i).flatMap (isB nm a)) L
      have h2 := fm_take_le (isB_len nm a) b.fs i
      omega
    refine vc_loop (α := Nat) (fun i => [(0, .va (.c1 (.pt 0 0))), (1, tS nm), (6, .va (.c1 (.pt 2 0))), (7, .va (.c1 (.pt 3 0))), (63, .va (.c1 (.fz (b.fs.map flC)))), (64, iS .i64 b.fs.length), (65, iS .i64 i)]) (fun i => [.cells [.sl 1 (addA L ((b.fs.take i).flatMap (isB nm a))).length] 48, .row ((addA L ((b.fs.take i).flatMap (isB nm a))).map isC) 42 3, .cells (stC a) 33, .cells (stC b) 33])
      (fun i => i ≤ b.fs.length) (fun i => b.fs.length - i) 0 4 (Nat.zero_le _) ?_ ?_ ?_
    · simp -dsimp only [go_sem] <;> simp
    · simp -dsimp only [go_sem, stC] <;> simp [addA]
    intro i hi
    have hbi := hbd i
    rcases Nat.lt_or_ge i b.fs.length with hlt | hge
    · have hg : decide ((i : Int) < (b.fs.length : Int)) = true := by simp; omega
      obtain ⟨f, hx⟩ : ∃ t, b.fs[i]? = some t := ⟨_, List.getElem?_eq_getElem hlt⟩
      have q1 := row_rg' (row := flC) hx
      have hnx : addA L ((b.fs.take (i + 1)).flatMap (isB nm a)) = addA (addA L ((b.fs.take i).flatMap (isB nm a))) (isB nm a f) := by rw [fm_next hx, addA_app]
      generalize hL : addA L ((b.fs.take i).flatMap (isB nm a)) = M at *
      simp (maxSteps := 1000000) -dsimp only [go_sem, hg, ↓q1, stC, flC]
      refine ⟨by omega, fop_use (t := a) ga.ok ga.sm ?_⟩
      cases hfo : fF a.fs f.num with
      | none =>
        cases ho : f.opt with
        | true =>
          have hv : isB nm a f = [] := by unfold isB; rw [hfo]; simp [ho]
          rw [hv, addA_nil] at hnx
          simp (maxSteps := 1000000) -dsimp only [go_sem, Option.getD_none, Option.isSome_none, flC_def]
          refine ⟨by omega, loop_next (i + 1) 4 (by omega) (by omega) ?_ ?_⟩
          · simp -dsimp only [go_sem] <;> simp
          · simp -dsimp only [go_sem, stC, hnx] <;> simp
        | false =>
          have hv : isB nm a f = [⟨2, f.num, nm⟩] := by unfold isB; rw [hfo]; simp [ho]
          rw [hv, addA_one] at hnx
          simp (maxSteps := 1000000) -dsimp only [go_sem, Option.getD_none, Option.isSome_none, flC_def]
          refine ad_use (l := M) (by omega) ?_
          simp (maxSteps := 1000000) -dsimp only [go_sem]
          refine ⟨by omega, loop_next (i + 1) 4 (by omega) (by omega) ?_ ?_⟩
          · simp -dsimp only [go_sem] <;> simp
          · simp -dsimp only [go_sem, stC, hnx] <;> simp
      | some g =>
        have hv : isB nm a f = [] := by unfold isB; rw [hfo]; simp
        rw [hv, addA_nil] at hnx
        simp (maxSteps := 1000000) -dsimp only [go_sem, Option.getD_some, Option.isSome_some, flC]
        refine ⟨by omega, loop_next (i + 1) 4 (by omega) (by omega) ?_ ?_⟩
        · simp -dsimp only [go_sem] <;> simp
        · simp -dsimp only [go_sem, stC, hnx] <;> simp
    · have hg : decide ((i : Int) < (b.fs.length : Int)) = false := by simp; omega
      obtain rfl : i = b.fs.length := by omega
      rw [List.take_length]
      simp (maxSteps := 1000000) -dsimp only [go_sem, hg, stC]
      refine .sel [0, 1] (by simp) (by simp) rfl (.done ?_)
      simpa -dsimp [go_sem, isH] using hK
end Go.Proofs.Ytbolanmlngjdoaa
namespace Go.Proofs.Ytbolanmlngjdoaa
open Go.W
def pc3 : PC := .seq (.reg  [⟨some 3, none, .e (.bx 24 (.t 0))⟩, ⟨some 4, none, .e (.bx 24 (.t 1))⟩, ⟨some 5, none, .e (.bx 24 (.t 2))⟩, ⟨some 6, none, .q (.mv (.k (.bool false)))⟩]) (.seq (.seq (.reg  [⟨some 9, none, .l (.ldn 4 (.t 3))⟩, ⟨some 10, none, .cq 4 [(.t 9), (.k (.int .i64 30))]⟩, ⟨some 11, none, .q (.mv (.t 10))⟩, ⟨some 12, (some (11, false)), .l (.ldn 4 (.t 4))⟩, ⟨some 13, (some (11, false)), .cq 4 [(.t 12), (.k (.int .i64 30))]⟩, ⟨some 14, none, .pick (.t 11) (.k (.bool true)) (.t 13)⟩, ⟨some 15, none, .q (.mv (.t 14))⟩, ⟨some 16, (some (15, false)), .l (.ldn 4 (.t 5))⟩, ⟨some 17, (some (15, false)), .cq 4 [(.t 16), (.k (.int .i64 30))]⟩, ⟨some 18, none, .pick (.t 15) (.k (.bool true)) (.t 17)⟩]) (.cond (.t 18) (.seq (.reg  [⟨some 19, none, .cq 5 []⟩, ⟨some 6, none, .q (.mv (.t 19))⟩]) (.ret)) (.skip))) (.seq (.reg  [⟨some 20, none, .l (.ldn 4 (.t 3))⟩, ⟨some 21, none, .l (.ldn 4 (.t 4))⟩, ⟨some 22, none, .cq 6 [(.t 20), (.t 21)]⟩, ⟨some 23, none, .l (.ldn 4 (.t 4))⟩, ⟨some 24, none, .l (.ldn 4 (.t 5))⟩, ⟨some 25, none, .cq 6 [(.t 23), (.t 24)]⟩, ⟨some 7, none, .q (.mv (.t 22))⟩, ⟨some 8, none, .q (.mv (.t 25))⟩]) (.seq (.reg  [⟨some 26, none, .q (.mv (.t 7))⟩, ⟨some 27, none, .l (.ldn 4 (.t 3))⟩, ⟨some 28, none, .l (.ldn 4 (.t 4))⟩, ⟨some 29, none, .cq 7 [(.t 27), (.t 28)]⟩, ⟨some 30, none, .q (.eqB false (.t 26) (.t 29))⟩, ⟨some 31, none, .q (.mv (.t 30))⟩, ⟨some 32, (some (31, true)), .l (.ldn 4 (.t 3))⟩, ⟨some 33, (some (31, true)), .l (.ldn 4 (.t 3))⟩, ⟨some 34, (some (31, true)), .cq 6 [(.t 32), (.t 33)]⟩, ⟨some 35, none, .pick (.t 31) (.t 34) (.k (.bool false))⟩, ⟨some 36, none, .q (.mv (.t 35))⟩, ⟨some 37, (some (36, true)), .q (.mv (.t 7))⟩, ⟨some 38, (some (36, true)), .q (.not (.t 37))⟩, ⟨some 39, (some (36, true)), .q (.mv (.t 38))⟩, ⟨some 40, (some (39, false)), .q (.mv (.t 8))⟩, ⟨some 41, (some (39, false)), .q (.not (.t 40))⟩, ⟨some 42, (some (36, true)), .pick (.t 39) (.k (.bool true)) (.t 41)⟩, ⟨some 43, (some (36, true)), .q (.mv (.t 42))⟩, ⟨some 44, (some (43, false)), .l (.ldn 4 (.t 3))⟩, ⟨some 45, (some (43, false)), .l (.ldn 4 (.t 5))⟩, ⟨some 46, (some (43, false)), .cq 6 [(.t 44), (.t 45)]⟩, ⟨some 47, (some (36, true)), .pick (.t 43) (.k (.bool true)) (.t 46)⟩, ⟨some 48, none, .pick (.t 36) (.t 47) (.k (.bool false))⟩, ⟨some 49, none, .q (.mv (.t 48))⟩, ⟨some 50, (some (49, true)), .cq 5 []⟩, ⟨some 51, none, .pick (.t 49) (.t 50) (.k (.bool false))⟩, ⟨some 6, none, .q (.mv (.t 51))⟩]) (.ret))))
def rs3 : List RV := [.mv (.t 6)]
theorem ok3 : trFn Try.prog true ⟨fun r k => if r = 1 ∧ k = 1 then .q else if r = 1 ∧ k = 4 then .q else if r = 1 ∧ k = 8 then .q else if r = 2 ∧ k = 0 then .q else if r = 3 ∧ k = 2 then .q else if r = 3 ∧ k = 5 then .q else if r = 4 ∧ k = 3 then .q else if r = 4 ∧ k = 8 then .q else if r = 4 ∧ k = 20 then .q else if r = 4 ∧ k = 24 then .q else .own [], fun _ => false⟩ Try.f3 = some (pc3, rs3) := by kernel_rfl
def pc4 : PC := .seq (.reg  [⟨some 2, none, .e (.bx 24 (.t 0))⟩, ⟨some 4, none, .q (.mv (.k (.bool false)))⟩]) (.seq (.seq (.reg  [⟨some 5, none, .q (.mv (.t 1))⟩, ⟨some 6, none, .q (.bin .lss true (.t 5) (.k (.int .i64 1)))⟩, ⟨some 7, none, .q (.mv (.t 6))⟩, ⟨some 8, (some (7, false)), .q (.fa 3 (.t 2))⟩, ⟨some 9, (some (7, false)), .l (.ld1 (.t 8))⟩, ⟨some 10, (some (7, false)), .q (.lnL (.t 9))⟩, ⟨some 11, (some (7, false)), .q (.bin .gtr true (.t 10) (.k (.int .i64 1)))⟩, ⟨some 12, none, .pick (.t 7) (.k (.bool true)) (.t 11)⟩]) (.cond (.t 12) (.seq (.reg  [⟨some 4, none, .q (.mv (.k (.bool true)))⟩]) (.ret)) (.skip))) (.seq (.reg  [⟨some 13, none, .q (.fa 3 (.t 2))⟩, ⟨some 14, none, .l (.ld1 (.t 13))⟩, ⟨some 15, none, .q (.lnL (.t 14))⟩, ⟨some 16, none, .q (.bin .eql true (.t 15) (.k (.int .i64 1)))⟩, ⟨some 17, none, .q (.mv (.t 16))⟩, ⟨some 18, (some (17, true)), .q (.fa 3 (.t 2))⟩, ⟨some 19, (some (17, true)), .l (.ld1 (.t 18))⟩, ⟨some 20, (some (17, true)), .l (.ia 4 (.t 19) (.k (.int .i64 0)))⟩, ⟨some 21, (some (17, true)), .l (.ldn 4 (.t 20))⟩, ⟨some 22, (some (17, true)), .q (.mv (.t 1))⟩, ⟨some 23, (some (17, true)), .q (.bin .sub true (.t 22) (.k (.int .i64 1)))⟩, ⟨some 24, (some (17, true)), .cq 4 [(.t 21), (.t 23)]⟩, ⟨some 25, none, .pick (.t 17) (.t 24) (.k (.bool false))⟩, ⟨some 4, none, .q (.mv (.t 25))⟩]) (.ret)))
def rs4 : List RV := [.mv (.t 4)]
theorem ok4 : trFn Try.prog true ⟨fun r k => if r = 3 ∧ k = 11 then .q else .own [], fun _ => false⟩ Try.f4 = some (pc4, rs4) := by kernel_rfl
def pc5_4 : PC := .seq (.gh (.reg  [⟨some 19, none, .l (.ldn 3 (.t 1))⟩, ⟨some 20, none, .l (.ldn 3 (.t 2))⟩, ⟨some 21, none, .cq 9 [(.t 19), (.t 20), (.k (.string (mk [84, 111, 112])))]⟩, ⟨some 22, none, .q (.mv (.t 21))⟩, ⟨some 23, (some (22, true)), .q (.mv (.t 3))⟩, ⟨some 24, (some (22, true)), .q (.lnL (.t 23))⟩, ⟨some 25, (some (22, true)), .q (.bin .eql true (.t 24) (.k (.int .i64 1)))⟩, ⟨some 26, none, .pick (.t 22) (.t 25) (.k (.bool false))⟩, ⟨some 27, none, .q (.mv (.t 26))⟩, ⟨some 28, (some (27, true)), .q (.mv (.t 3))⟩, ⟨some 29, (some (27, true)), .l (.ia 3 (.t 28) (.k (.int .i64 0)))⟩, ⟨some 30, (some (27, true)), .l (.ldn 3 (.t 29))⟩, ⟨some 31, (some (27, true)), .q (.bd [(.int .i64 0), (.int .i64 0), (.string (mk []))] [(0, 1, (.k (.int .i64 1))), (1, 1, (.k (.int .i64 2))), (2, 1, (.k (.string (mk [84, 111, 112]))))])⟩, ⟨some 32, (some (27, true)), .q (.eqT false [(0, .int .i64), (1, .int .i64), (2, .str)] (.t 30) (.t 31))⟩, ⟨some 33, none, .pick (.t 27) (.t 32) (.k (.bool false))⟩, ⟨some 0, none, .q (.mv (.t 33))⟩])) (.ret)
@[go_sem ↓] theorem fold5_4 (Γ : Env) (k0 : Nat) (fr : Fr) (H : Hp) (K : Ex → Fr → Hp → Prop) : vc Γ k0 pc5_4 fr H K = vcn Γ k0 pc5_4 fr H K ⟨⟩ := rfl
def pc5_3 : PC := .seq (.gh (.reg  [⟨some 16, none, .l (.ldn 3 (.t 2))⟩, ⟨some 17, none, .l (.ldn 3 (.t 1))⟩, ⟨some 18, none, .cl 8 [(.t 16), (.t 17), (.k (.string (mk [84, 111, 112])))] []⟩, ⟨some 3, none, .q (.mv (.t 18))⟩])) (pc5_4)
@[go_sem ↓] theorem fold5_3 (Γ : Env) (k0 : Nat) (fr : Fr) (H : Hp) (K : Ex → Fr → Hp → Prop) : vc Γ k0 pc5_3 fr H K = vcn Γ k0 pc5_3 fr H K ⟨⟩ := rfl
def pc5 : PC := .seq (.reg  [⟨some 0, none, .q (.mv (.k (.bool false)))⟩]) (.seq (.reg  [⟨some 4, none, .q (.bd [(.int .i64 0), (.int .i64 0), (.string (mk [])), (.slice none 0 0)] [(0, 1, (.k (.int .i64 2))), (1, 1, (.k (.int .i64 8)))])⟩, ⟨some 5, none, .q (.bd [(.int .i64 0), (.string (mk [])), (.int .i64 0), (.int .i64 0), (.string (mk [])), (.slice none 0 0), (.bool false)] [(0, 1, (.k (.int .i64 2))), (1, 1, (.k (.string (mk [120])))), (2, 4, (.t 4))])⟩, ⟨some 6, none, .e (.bsl 30 7 [(.t 5)])⟩, ⟨some 7, none, .q (.bd [(.string (mk [])), (.slice none 0 0)] [(0, 1, (.k (.string (mk [84, 111, 112])))), (1, 1, (.t 6))])⟩, ⟨some 8, none, .e (.bslx 33 2 [(.t 7)])⟩, ⟨some 9, none, .q (.bd [(.int .i64 0), (.slice none 0 0), (.slice none 0 0)] [(0, 1, (.k (.int .i64 1))), (2, 1, (.t 8))])⟩, ⟨some 1, none, .e (.al (.agg #[(.int .i64 0), (.slice none 0 0), (.slice none 0 0)]) 37)⟩, ⟨none, none, .e (.st 3 (.t 1) (.t 9))⟩]) (.seq (.reg  [⟨some 10, none, .q (.bd [(.int .i64 0), (.int .i64 0), (.string (mk [])), (.slice none 0 0)] [(0, 1, (.k (.int .i64 2))), (1, 1, (.k (.int .i64 16)))])⟩, ⟨some 11, none, .q (.bd [(.int .i64 0), (.string (mk [])), (.int .i64 0), (.int .i64 0), (.string (mk [])), (.slice none 0 0), (.bool false)] [(0, 1, (.k (.int .i64 2))), (1, 1, (.k (.string (mk [120])))), (2, 4, (.t 10))])⟩, ⟨some 12, none, .e (.bsl 30 7 [(.t 11)])⟩, ⟨some 13, none, .q (.bd [(.string (mk [])), (.slice none 0 0)] [(0, 1, (.k (.string (mk [84, 111, 112])))), (1, 1, (.t 12))])⟩, ⟨some 14, none, .e (.bslx 33 2 [(.t 13)])⟩, ⟨some 15, none, .q (.bd [(.int .i64 0), (.slice none 0 0), (.slice none 0 0)] [(0, 1, (.k (.int .i64 2))), (2, 1, (.t 14))])⟩, ⟨some 2, none, .e (.al (.agg #[(.int .i64 0), (.slice none 0 0), (.slice none 0 0)]) 37)⟩, ⟨none, none, .e (.st 3 (.t 2) (.t 15))⟩]) (pc5_3)))
def rs5 : List RV := [.mv (.t 0)]
theorem ok5 : trFn Try.prog true ⟨fun r k => if r = 1 ∧ k = 4 then .q else if r = 2 ∧ k = 4 then .q else if r = 4 ∧ k = 2 then .q else .own [], fun r => [3, 4].contains r⟩ Try.f5 = some (pc5, rs5) := by kernel_rfl
def pc7 : PC := .seq (.reg  [⟨some 2, none, .e (.bx 24 (.t 0))⟩, ⟨some 3, none, .e (.bx 24 (.t 1))⟩, ⟨some 4, none, .q (.mv (.k (.bool false)))⟩]) (.seq (.seq (.reg  [⟨some 5, none, .l (.ldn 4 (.t 2))⟩, ⟨some 6, none, .l (.ldn 4 (.t 3))⟩, ⟨some 7, none, .cq 11 [(.t 5), (.t 6)]⟩]) (.cond (.t 7) (.seq (.reg  [⟨some 4, none, .q (.mv (.k (.bool true)))⟩]) (.ret)) (.skip))) (.seq (.seq (.reg  [⟨some 8, none, .q (.fa 0 (.t 2))⟩, ⟨some 9, none, .l (.ld1 (.t 8))⟩, ⟨some 10, none, .q (.fa 0 (.t 3))⟩, ⟨some 11, none, .l (.ld1 (.t 10))⟩, ⟨some 12, none, .q (.bin .neq true (.t 9) (.t 11))⟩, ⟨some 13, none, .q (.mv (.t 12))⟩, ⟨some 14, (some (13, false)), .q (.fa 2 (.t 2))⟩, ⟨some 15, (some (13, false)), .l (.ld1 (.t 14))⟩, ⟨some 16, (some (13, false)), .q (.fa 2 (.t 3))⟩, ⟨some 17, (some (13, false)), .l (.ld1 (.t 16))⟩, ⟨some 18, (some (13, false)), .q (.bin .neq true (.t 15) (.t 17))⟩, ⟨some 19, none, .pick (.t 13) (.k (.bool true)) (.t 18)⟩, ⟨some 20, none, .q (.mv (.t 19))⟩, ⟨some 21, (some (20, false)), .q (.fa 3 (.t 2))⟩, ⟨some 22, (some (20, false)), .l (.ld1 (.t 21))⟩, ⟨some 23, (some (20, false)), .q (.lnL (.t 22))⟩, ⟨some 24, (some (20, false)), .q (.fa 3 (.t 3))⟩, ⟨some 25, (some (20, false)), .l (.ld1 (.t 24))⟩, ⟨some 26, (some (20, false)), .q (.lnL (.t 25))⟩, ⟨some 27, (some (20, false)), .q (.bin .neq true (.t 23) (.t 26))⟩, ⟨some 28, none, .pick (.t 20) (.k (.bool true)) (.t 27)⟩]) (.cond (.t 28) (.seq (.reg  [⟨some 4, none, .q (.mv (.k (.bool false)))⟩]) (.ret)) (.skip))) (.seq (.seq (.reg  [⟨some 29, none, .q (.fa 0 (.t 2))⟩, ⟨some 30, none, .l (.ld1 (.t 29))⟩]) (.block 0 (.seq (.seq (.reg  [⟨some 32, none, .q (.bin .eql true (.t 30) (.k (.int .i64 2)))⟩, ⟨some 31, none, .q (.mv (.t 32))⟩]) (.cond (.t 31) (.skip) (.reg  [⟨some 33, none, .q (.bin .eql true (.t 30) (.k (.int .i64 3)))⟩, ⟨some 31, none, .q (.mv (.t 33))⟩]))) (.cond (.t 31) (.seq (.reg  [⟨some 34, none, .q (.fa 1 (.t 3))⟩, ⟨some 35, none, .l (.ld1 (.t 34))⟩, ⟨some 36, none, .q (.fa 1 (.t 2))⟩, ⟨some 37, none, .l (.ld1 (.t 36))⟩, ⟨some 38, none, .q (.bin .gtr true (.t 35) (.t 37))⟩, ⟨some 39, none, .q (.mv (.t 38))⟩, ⟨some 40, (some (39, true)), .q (.fa 3 (.t 2))⟩, ⟨some 41, (some (39, true)), .l (.ld1 (.t 40))⟩, ⟨some 42, (some (39, true)), .q (.fa 3 (.t 3))⟩, ⟨some 43, (some (39, true)), .l (.ld1 (.t 42))⟩, ⟨some 44, (some (39, true)), .cq 12 [(.t 41), (.t 43)]⟩, ⟨some 45, none, .pick (.t 39) (.t 44) (.k (.bool false))⟩, ⟨some 4, none, .q (.mv (.t 45))⟩]) (.ret)) (.seq (.reg  [⟨some 47, none, .q (.bin .eql true (.t 30) (.k (.int .i64 4)))⟩, ⟨some 46, none, .q (.mv (.t 47))⟩]) (.cond (.t 46) (.seq (.reg  [⟨some 48, none, .q (.fa 1 (.t 3))⟩, ⟨some 49, none, .l (.ld1 (.t 48))⟩, ⟨some 50, none, .q (.fa 1 (.t 2))⟩, ⟨some 51, none, .l (.ld1 (.t 50))⟩, ⟨some 52, none, .q (.bin .geq true (.t 49) (.t 51))⟩, ⟨some 53, none, .q (.mv (.t 52))⟩, ⟨some 54, (some (53, true)), .q (.fa 3 (.t 2))⟩, ⟨some 55, (some (53, true)), .l (.ld1 (.t 54))⟩, ⟨some 56, (some (53, true)), .q (.fa 3 (.t 3))⟩, ⟨some 57, (some (53, true)), .l (.ld1 (.t 56))⟩, ⟨some 58, (some (53, true)), .cq 12 [(.t 55), (.t 57)]⟩, ⟨some 59, none, .pick (.t 53) (.t 58) (.k (.bool false))⟩, ⟨some 4, none, .q (.mv (.t 59))⟩]) (.ret)) (.seq (.reg  [⟨some 61, none, .q (.bin .eql true (.t 30) (.k (.int .i64 5)))⟩, ⟨some 60, none, .q (.mv (.t 61))⟩]) (.cond (.t 60) (.seq (.reg  [⟨some 62, none, .q (.fa 1 (.t 3))⟩, ⟨some 63, none, .l (.ld1 (.t 62))⟩, ⟨some 64, none, .q (.fa 1 (.t 2))⟩, ⟨some 65, none, .l (.ld1 (.t 64))⟩, ⟨some 66, none, .q (.bin .geq true (.t 63) (.t 65))⟩, ⟨some 67, none, .q (.mv (.t 66))⟩, ⟨some 68, (some (67, true)), .q (.fa 3 (.t 2))⟩, ⟨some 69, (some (67, true)), .l (.ld1 (.t 68))⟩, ⟨some 70, (some (67, true)), .q (.lnL (.t 69))⟩, ⟨some 71, (some (67, true)), .q (.bin .eql true (.t 70) (.k (.int .i64 1)))⟩, ⟨some 72, none, .pick (.t 67) (.t 71) (.k (.bool false))⟩, ⟨some 73, none, .q (.mv (.t 72))⟩, ⟨some 74, (some (73, true)), .q (.fa 3 (.t 2))⟩, ⟨some 75, (some (73, true)), .l (.ld1 (.t 74))⟩, ⟨some 76, (some (73, true)), .l (.ia 4 (.t 75) (.k (.int .i64 0)))⟩, ⟨some 77, (some (73, true)), .l (.ldn 4 (.t 76))⟩, ⟨some 78, (some (73, true)), .q (.fa 3 (.t 3))⟩, ⟨some 79, (some (73, true)), .l (.ld1 (.t 78))⟩, ⟨some 80, (some (73, true)), .l (.ia 4 (.t 79) (.k (.int .i64 0)))⟩, ⟨some 81, (some (73, true)), .l (.ldn 4 (.t 80))⟩, ⟨some 82, (some (73, true)), .cq 7 [(.t 77), (.t 81)]⟩, ⟨some 83, none, .pick (.t 73) (.t 82) (.k (.bool false))⟩, ⟨some 4, none, .q (.mv (.t 83))⟩]) (.ret)) (.skip))))))))) (.seq (.reg  [⟨some 4, none, .q (.mv (.k (.bool false)))⟩]) (.ret)))))
def rs7 : List RV := [.mv (.t 4)]
theorem ok7 : trFn Try.prog true ⟨fun r k => if r = 1 ∧ k = 2 then .q else if r = 8 ∧ k = 10 then .q else if r = 10 ∧ k = 10 then .q else if r = 12 ∧ k = 20 then .q else .own [], fun _ => false⟩ Try.f7 = some (pc7, rs7) := by kernel_rfl
def pc12 : PC := .seq (.reg  [⟨some 4, none, .q (.mv (.k (.bool false)))⟩]) (.seq (.seq (.reg  [⟨some 5, none, .q (.mv (.k (.int .i64 0)))⟩]) (.block 0 (.loop (.seq (.seq (.reg  [⟨some 6, none, .q (.mv (.t 5))⟩, ⟨some 7, none, .q (.mv (.t 0))⟩, ⟨some 8, none, .q (.lnL (.t 7))⟩, ⟨some 9, none, .q (.bin .lss true (.t 6) (.t 8))⟩]) (.cond (.t 9) (.skip) (.exit 0))) (.seq (.block 1 (.seq (.reg  [⟨some 12, none, .q (.mv (.t 0))⟩, ⟨some 13, none, .q (.mv (.t 5))⟩, ⟨some 14, none, .l (.ia 4 (.t 12) (.t 13))⟩, ⟨some 15, none, .l (.ldn 4 (.t 14))⟩, ⟨some 16, none, .q (.mv (.t 1))⟩, ⟨some 17, none, .q (.mv (.t 5))⟩, ⟨some 18, none, .l (.ia 4 (.t 16) (.t 17))⟩, ⟨some 19, none, .l (.ldn 4 (.t 18))⟩, ⟨some 20, none, .cq 11 [(.t 15), (.t 19)]⟩, ⟨some 21, none, .q (.not (.t 20))⟩]) (.cond (.t 21) (.seq (.reg  [⟨some 4, none, .q (.mv (.k (.bool false)))⟩]) (.ret)) (.skip)))) (.reg  [⟨some 10, none, .q (.mv (.t 5))⟩, ⟨some 11, none, .q (.bin .add true (.t 10) (.k (.int .i64 1)))⟩, ⟨some 5, none, .q (.mv (.t 11))⟩])))))) (.seq (.reg  [⟨some 4, none, .q (.mv (.k (.bool true)))⟩]) (.ret)))
def rs12 : List RV := [.mv (.t 4)]
theorem ok12 : trFn Try.prog true ⟨fun r k => if r = 4 ∧ k = 8 then .q else .own [], fun _ => false⟩ Try.f12 = some (pc12, rs12) := by kernel_rfl
end Go.Proofs.Ytbolanmlngjdoaa
namespace Go.Proofs.Ytbolanmlngjdoaa
open Go.W
def isTs (rs : List (List C)) : Prop := ∃ l : List Ty, rs = l.map tyC ∧ l.length ≤ 9223372036854775807 ∧ ∀ t ∈ l, TyOk t
theorem isTs_mk {l : List Ty} (h : l.length ≤ 9223372036854775807) (h2 : ∀ t ∈ l, TyOk t) : isTs (l.map tyC) := ⟨l, rfl, h, h2⟩
def tsPre : List S → Prop := fun av => match av with
  | [.va (.c1 (.fz ra)), .va (.c1 (.fz rb))] => isTs ra ∧ isTs rb ∧ ra.length = rb.length
  | _ => False
theorem tsPre_open {av : List S} (h : tsPre av) : ∃ a b : List Ty, av = [.va (.c1 (.fz (a.map tyC))), .va (.c1 (.fz (b.map tyC)))] ∧ a.length ≤ 9223372036854775807 ∧ (∀ t ∈ a, TyOk t) ∧ (∀ t ∈ b, TyOk t) ∧ a.length = b.length := by
  unfold tsPre at h
  split at h
  · obtain ⟨⟨a, rfl, h1, h2⟩, ⟨b, rfl, _, h3⟩, h4⟩ := h
    exact ⟨a, b, rfl, h1, h2, h3, by simpa using h4⟩
  · exact h.elim
noncomputable def tsVal : List S → A := fun av => match av with
  | [.va (.c1 (.fz ra)), .va (.c1 (.fz rb))] => bA (tlB (ra.map C.ty) (rb.map C.ty))
  | _ => .gs []
noncomputable def tsFn : Fun := ⟨tsPre, tsVal, fun av h => by obtain ⟨a, b, rfl, _⟩ := tsPre_open h; trivial⟩
theorem tsFn_len : ∀ av H K, tsFn.sp av H K → av.length = 2 := fun av H K h => by obtain ⟨a, b, rfl, _⟩ := tsPre_open h.1.1; rfl
attribute [go_sem] tsFn tsPre tsVal
theorem tlB_eq {a b : List Ty} (h : a = b) : tlB a b = true := tlB_iff.2 h
theorem tlB_ne {a b : List Ty} (h : a ≠ b) : tlB a b = false := by
  cases c : tlB a b with
  | false => rfl
  | true => exact absurd (tlB_iff.1 c) h
set_option maxRecDepth 100000 in
theorem mSameL : Meets Try.prog 12 tsFn.sp := by
  refine meets_fn Try.func12 ok12 2 (by rw [Try.ntmps12]; decide) (meetsAll_f mRSame (meetsAll_nil _)) tsFn_len ?_
  rintro av H K ⟨⟨h, rfl⟩, hK⟩
  obtain ⟨a, b, rfl, hla, hoa, hob, hl⟩ := tsPre_open h
  replace hK : K (bS (tlB a b)) [] := by
    have : tsFn.val [.va (.c1 (.fz (a.map tyC))), .va (.c1 (.fz (b.map tyC)))] = bA (tlB a b) := by simp -dsimp only [go_sem]
    rw [this] at hK; exact hK
  clear h
  have fin : ∀ (x : Bool), tlB a b = x → K (bS x) [] := fun x h => by rw [h] at hK; exact hK
  simp (maxSteps := 1000000) -dsimp only [go_sem, pc12, rs12]
  refine vc_loop (α := Nat) (fun i => [(0, .va (.c1 (.fz (a.map tyC)))), (1, .va (.c1 (.fz (b.map tyC)))), (5, iS .i64 i)]) (fun _ => [])
    (fun i => i ≤ a.length ∧ ∀ j, j < i → a[j]? = b[j]?) (fun i => a.length - i) 0 0 ⟨Nat.zero_le _, fun j hj => by omega⟩ ?_ ?_ ?_
  · simp -dsimp only [go_sem] <;> simp
  · simp -dsimp only [go_sem] <;> simp
  rintro i ⟨hi, ho⟩
  rcases Nat.lt_or_ge i a.length with hlt | hge
  · have hg : decide ((i : Int) < (a.length : Int)) = true := by simp; omega
    obtain ⟨u, hx⟩ : ∃ t, a[i]? = some t := ⟨_, List.getElem?_eq_getElem hlt⟩
    obtain ⟨v, hy⟩ : ∃ t, b[i]? = some t := ⟨_, List.getElem?_eq_getElem (by omega)⟩
    have hu : isTy (tyC u) := isTy_mk (hoa u (List.mem_of_getElem? hx))
    have hv : isTy (tyC v) := isTy_mk (hob v (List.mem_of_getElem? hy))
    simp (maxSteps := 1000000) -dsimp only [go_sem, hg]
    simp (maxSteps := 1000000) -dsimp only [go_sem, tyC_len, hu, hv, hx, hy, Option.some.injEq, forall_eq']
    refine ⟨by omega, by omega, fun h1 => .done (fin false (tlB_ne fun he => ?_)), fun h1 => ?_⟩
    · subst he
      rw [hx] at hy
      rw [tyB_eq (Option.some.inj hy)] at h1
      simp at h1
    · have h1 : u = v := tyB_iff.1 (by simpa using h1)
      subst h1
      refine ⟨by omega, loop_next (i + 1) 0 ⟨by omega, fun j hj => ?_⟩ (by omega) ?_ ?_⟩
      · rcases Nat.lt_or_ge j i with h4 | h4
        · exact ho j h4
        · obtain rfl : j = i := by omega
          rw [hx, hy]
      · simp -dsimp only [go_sem] <;> simp
      · simp -dsimp only [go_sem] <;> simp
  · have hg : decide ((i : Int) < (a.length : Int)) = false := by simp; omega
    obtain rfl : i = a.length := by omega
    simp (maxSteps := 1000000) -dsimp only [go_sem, hg]
    refine .done (fin true (tlB_eq (List.ext_getElem? fun j => ?_)))
    rcases Nat.lt_or_ge j a.length with h4 | h4
    · exact ho j h4
    · rw [List.getElem?_eq_none h4, List.getElem?_eq_none (by omega)]
set_option maxRecDepth 100000 in
set_option maxHeartbeats 2000000 in
theorem mRWidens' : ∀ N, Meets Try.prog 7 (wdFn N).sp
  | 0 => ⟨by kernel_rfl, by rintro xs vs E ro w K _ _ _ ⟨⟨h, _⟩, _⟩; obtain ⟨a, _, _, _, _, h⟩ := saPre_open h; have := a.h_pos; omega⟩
  | N + 1 => by
    refine meets_fn Try.func7 ok7 2 (by rw [Try.ntmps7]; decide) (meetsAll_f (mRWidens' N) (meetsAll_f mRSame (meetsAll_f mSameL (meetsAll_nil _)))) wdFn_len ?_
    rintro av H K ⟨⟨h, rfl⟩, hK⟩
    obtain ⟨a, b, rfl, ha, hb, hh⟩ := saPre_open h
    have hK : K (bS (widF a b)) [] := by
      have : (wdFn (N + 1)).val [.va (.gs (tyC a)), .va (.gs (tyC b))] = bA (widF a b) := by simp -dsimp only [go_sem]
      rw [this] at hK; exact hK
    clear h
    have fin : ∀ (x : Bool) (R : Hp), widF a b = x → W.Fin 0 K (bS x) R := fun x R h => by
      rw [h] at hK
      exact .sel [] (by simp) (by simp) rfl (.done (by simpa [go_sem] using hK))
    obtain ⟨k, s, n, e⟩ := a
    obtain ⟨k', s', n', e'⟩ := b
    have hua : isTy (tyC (.mk k s n e)) := isTy_mk ha
    have hub : isTy (tyC (.mk k' s' n' e')) := isTy_mk hb
    have dua := ty_dec (.mk k s n e)
    have dub := ty_dec (.mk k' s' n' e')
    have hla := ha.len
    have hlb := hb.len
    have hoa := ha.e
    have hob := hb.e
    simp only [Ty.e] at hla hlb hoa hob
    have hst : widF (.mk k s n e) (.mk k' s' n' e') = (tyB (.mk k s n e) (.mk k' s' n' e') || (decide (k = k') && decide (n = n') && decide (e.length = e'.length) &&
      (bif decide (k = 2) || decide (k = 3) then decide (s < s') && tlB e e' else bif decide (k = 4) then decide (s ≤ s') && tlB e e' else bif decide (k = 5) then decide (s ≤ s') && decide (e.length = 1) && widF (e.headD default) (e'.headD default) else false))) := widF_ref _ _
    have htsa := isTs_mk hla hoa
    have htsb := isTs_mk hlb hob
    have dta := ty_map e
    have dtb := ty_map e'
    simp only [tyC, tysC_map] at hua hub dua dub
    cases c1 : tyB (.mk k s n e) (.mk k' s' n' e') with
    | true =>
      rw [c1, Bool.true_or] at hst
      simp (maxSteps := 1000000) -dsimp only [go_sem, tyC, tysC_map, pc7, rs7, hua, hub, dua, dub, c1]
      exact fin _ _ hst
    | false =>
    rw [c1, Bool.false_or] at hst
    simp (maxSteps := 1000000) -dsimp only [go_sem, tyC, tysC_map, pc7, rs7, bl_beq, hua, hub, dua, dub, c1, htsa, htsb, dta, dtb]
    have e5 : (k == (5 : Int)) = decide (k = 5) := rfl
    have e2 : (k == (2 : Int)) = decide (k = 2) := rfl
    have e3 : (k == (3 : Int)) = decide (k = 3) := rfl
    have e4 : (k == (4 : Int)) = decide (k = 4) := rfl
    refine ⟨fun h1 => fin _ _ ?_, fun h1 => ?_⟩
    · rw [hst]
      by_cases hk : k = k'
      · by_cases hn : n = n'
        · by_cases hl : e.length = e'.length
          · rw [hk, hn, hl] at h1; simp at h1
          · rw [decide_eq_false hl, Bool.and_false, Bool.false_and]
        · rw [decide_eq_false hn, Bool.and_false, Bool.false_and, Bool.false_and]
      · rw [decide_eq_false hk, Bool.false_and, Bool.false_and, Bool.false_and]
    have h1' := h1
    simp only [Bool.or_eq_false_iff, bne_eq_false_iff_eq, Bool.not_eq_false'] at h1'
    obtain ⟨⟨hk, hn⟩, hl⟩ := h1'
    have hl : e.length = e'.length := by omega
    rw [hn, decide_eq_true hk, decide_eq_true hl, Bool.true_and, Bool.true_and, Bool.true_and] at hst
    refine ⟨fun k2 => ⟨fun _ => ⟨fun _ => hl, fin _ _ ?_⟩, fun h => absurd (k2.symm.trans h) (by simp)⟩, fun k2 => ⟨fun k3 => ⟨fun _ => hl, fin _ _ ?_⟩, fun k3 => ⟨fun k4 => ⟨fun _ => hl, fin _ _ ?_⟩, fun k4 => ⟨fun k5 => ?_, fun k5 => fin _ _ ?_⟩⟩⟩⟩
    · rw [e2] at k2; rw [hst, k2]; rfl
    · rw [e2] at k2; rw [e3] at k3; rw [hst, k2, k3]; rfl
    · rw [e2] at k2; rw [e3] at k3; rw [e4] at k4; rw [hst, k2, k3, k4]; rfl
    · rw [e2] at k2; rw [e3] at k3; rw [e4] at k4; rw [e5] at k5
      rw [k2, k3, k4, k5] at hst
      simp only [Bool.or_self, Bool.cond_false, Bool.cond_true] at hst
      refine ⟨fun h2 => ?_, fun h2 => fin _ _ ?_⟩
      · have h2' := h2
        simp only [Bool.and_eq_true, beq_iff_eq, decide_eq_true_eq] at h2'
        obtain ⟨l3, l1⟩ := h2'
        obtain ⟨u, rfl⟩ : ∃ u, e = [u] := List.length_eq_one_iff.1 (by omega)
        obtain ⟨v, rfl⟩ : ∃ v, e' = [v] := List.length_eq_one_iff.1 (by simpa using hl.symm)
        have hu : isTy (tyC u) := isTy_mk (hoa u (by simp))
        have hv : isTy (tyC v) := isTy_mk (hob v (by simp))
        have huh : u.h ≤ N := by rw [Ty.h, Ty.hs] at hh; omega
        have hfin : widF (.mk k s n [u]) (.mk k' s' n' [v]) = widF u v := by
          rw [hst]; simp [l3]
        simp (maxSteps := 1000000) -dsimp only [go_sem, tyC_len, hu, hv, List.getElem?_cons_zero, Option.some.injEq, forall_eq']
        refine ⟨by simp, by simp, huh, fin _ _ hfin⟩
      · rw [hst]
        cases hc : (decide (s ≤ s') && decide (e.length = 1)) with
        | false => rfl
        | true =>
          simp only [Bool.and_eq_true, decide_eq_true_eq] at hc
          simp [hc] at h2
    · rw [e2] at k2; rw [e3] at k3; rw [e4] at k4; rw [e5] at k5; rw [hst, k2, k3, k4, k5]; rfl
theorem mRWidens : Meets Try.prog 7 wFn.sp := meets_all 0 mRWidens' fun av H K ⟨⟨h, e⟩, hK⟩ => by
  obtain ⟨a, b, rfl, ha, hb⟩ := sPre_open h
  exact ⟨a.h, ⟨⟨⟨isTy_mk ha, isTy_mk hb, by rw [ty_dec]; exact Nat.le_refl _⟩, e⟩, hK⟩⟩
def deepN : Nat → Ty → Bool
  | 0, _ => true
  | m + 1, t => decide (1 < t.e.length) || (decide (t.e.length = 1) && deepN m (t.e.headD default))
def dePre (N : Nat) : List S → Prop := fun av => match av with
  | [.va (.gs r), .va (.c1 (.vl (.int .i64 n)))] => isTy r ∧ n ≤ (N : Int) ∧ -1000 ≤ n ∧ n ≤ 1000
  | _ => False
theorem dePre_open {N : Nat} {av : List S} (h : dePre N av) : ∃ (t : Ty) (n : Int), av = [.va (.gs (tyC t)), iS .i64 n] ∧ TyOk t ∧ n ≤ N ∧ -1000 ≤ n ∧ n ≤ 1000 := by
  unfold dePre at h
  split at h
  · obtain ⟨⟨t, rfl, ht⟩, h1, h2, h3⟩ := h; exact ⟨t, _, rfl, ht, h1, h2, h3⟩
  · exact h.elim
noncomputable def deVal : List S → A := fun av => match av with
  | [.va (.gs r), .va (.c1 (.vl (.int .i64 n)))] => bA (deepN n.toNat (C.ty r))
  | _ => .gs []
noncomputable def deFn (N : Nat) : Fun := ⟨dePre N, deVal, fun av h => by obtain ⟨t, n, rfl, _⟩ := dePre_open h; trivial⟩
theorem deFn_len {N : Nat} : ∀ av H K, (deFn N).sp av H K → av.length = 2 := fun av H K h => by obtain ⟨t, n, rfl, _⟩ := dePre_open h.1.1; rfl
attribute [go_sem] deFn dePre deVal
theorem deepN_lt {n : Int} (h : n < 1) (t : Ty) : deepN n.toNat t = true := by
  rw [show n.toNat = 0 by omega]; rfl
set_option maxRecDepth 100000 in
theorem mDeep' : ∀ N, Meets Try.prog 4 (deFn N).sp
  | 0 => by
    refine meets_fn Try.func4 ok4 2 (by rw [Try.ntmps4]; decide) (meetsAll_nil _) deFn_len ?_
    rintro av H K ⟨⟨h, rfl⟩, hK⟩
    obtain ⟨⟨k, s, n', e⟩, n, rfl, ht, hn, h3, h4⟩ := dePre_open h
    replace hK : K (bS (deepN n.toNat (.mk k s n' e))) [] := by
      have : (deFn 0).val [.va (.gs (tyC (.mk k s n' e))), iS .i64 n] = bA (deepN n.toNat (.mk k s n' e)) := by simp -dsimp only [go_sem]
      rw [this] at hK; exact hK
    clear h
    have hlt : decide (n < 1) = true := by simp; omega
    rw [deepN_lt (by omega)] at hK
    simp (maxSteps := 1000000) -dsimp only [go_sem, tyC, tysC_map, pc4, rs4, hlt]
    exact .sel [] (by simp) (by simp) rfl (.done (by simpa [go_sem] using hK))
  | N + 1 => by
    refine meets_fn Try.func4 ok4 2 (by rw [Try.ntmps4]; decide) (meetsAll_f (mDeep' N) (meetsAll_nil _)) deFn_len ?_
    rintro av H K ⟨⟨h, rfl⟩, hK⟩
    obtain ⟨⟨k, s, n', e⟩, n, rfl, ht, hn, h3, h4⟩ := dePre_open h
    replace hK : K (bS (deepN n.toNat (.mk k s n' e))) [] := by
      have : (deFn (N + 1)).val [.va (.gs (tyC (.mk k s n' e))), iS .i64 n] = bA (deepN n.toNat (.mk k s n' e)) := by simp -dsimp only [go_sem]
      rw [this] at hK; exact hK
    clear h
    have fin : ∀ (x : Bool) (R : Hp), deepN n.toNat (.mk k s n' e) = x → W.Fin 0 K (bS x) R := fun x R h => by
      rw [h] at hK
      exact .sel [] (by simp) (by simp) rfl (.done (by simpa [go_sem] using hK))
    have hle := ht.len
    have hoe := ht.e
    simp only [Ty.e] at hle hoe
    by_cases hlt : n < 1
    · have hd : decide (n < 1) = true := decide_eq_true hlt
      simp (maxSteps := 1000000) -dsimp only [go_sem, tyC, tysC_map, pc4, rs4, hd]
      exact fin true _ (deepN_lt hlt _)
    have hd : decide (n < 1) = false := decide_eq_false hlt
    obtain ⟨m, rfl⟩ : ∃ m : Nat, n = m + 1 := ⟨(n - 1).toNat, by omega⟩
    have hdn : deepN ((m : Int) + 1).toNat (.mk k s n' e) = (decide (1 < e.length) || (decide (e.length = 1) && deepN m (e.headD default))) := by
      rw [show ((m : Int) + 1).toNat = m + 1 by omega]; rfl
    simp (maxSteps := 1000000) -dsimp only [go_sem, tyC, tysC_map, pc4, rs4, hd]
    refine ⟨fun h1 => fin true _ ?_, fun h1 => ⟨fun h2 => ?_, fun h2 => fin false _ ?_⟩⟩
    · have h1 : 1 < e.length := by have := of_decide_eq_true h1; omega
      rw [hdn, decide_eq_true h1]; rfl
    · obtain ⟨u, rfl⟩ : ∃ u, e = [u] := List.length_eq_one_iff.1 (by have := beq_iff_eq.1 h2; omega)
      have hu : isTy (tyC u) := isTy_mk (hoe u (by simp))
      have hm : ((m : Int) + 1 - 1) = (m : Int) := by omega
      rw [hm]
      simp (maxSteps := 1000000) -dsimp only [go_sem, tyC_len, hu, List.getElem?_cons_zero, Option.some.injEq, forall_eq']
      refine ⟨by simp, by omega, by omega, fin _ _ ?_⟩
      rw [hdn]; simp
    · have h1 : ¬ 1 < e.length := by have := of_decide_eq_false h1; omega
      have h2 : ¬ e.length = 1 := by have := beq_eq_false_iff_ne.1 h2; omega
      rw [hdn, decide_eq_false h1, decide_eq_false h2]; rfl
def de0Pre : List S → Prop := fun av => match av with
  | [.va (.gs r), .va (.c1 (.vl (.int .i64 n)))] => isTy r ∧ n = 30
  | _ => False
theorem de0Pre_open {av : List S} (h : de0Pre av) : ∃ t : Ty, av = [.va (.gs (tyC t)), iS .i64 30] ∧ TyOk t := by
  unfold de0Pre at h
  split at h
  · obtain ⟨⟨t, rfl, ht⟩, rfl⟩ := h; exact ⟨t, rfl, ht⟩
  · exact h.elim
noncomputable def de0Fn : Fun := ⟨de0Pre, deVal, fun av h => by obtain ⟨t, rfl, _⟩ := de0Pre_open h; trivial⟩
attribute [go_sem] de0Fn de0Pre
theorem mDeep : Meets Try.prog 4 de0Fn.sp := meets_all 0 mDeep' fun av H K ⟨⟨h, e⟩, hK⟩ => by
  obtain ⟨t, rfl, ht⟩ := de0Pre_open h
  exact ⟨30, ⟨⟨isTy_mk ht, by omega, by omega, by omega⟩, e⟩, hK⟩
end Go.Proofs.Ytbolanmlngjdoaa
namespace Go.Proofs.Ytbolanmlngjdoaa
open Go.W
def nmSp : W.Spec := fun av H K => ∃ (o n : Sc) (x : ByteArray), av = [.va (.gs (scC o)), .va (.gs (scC n)), tS x] ∧ H = [] ∧ o.fit ∧ n.fit ∧ K (.va (.c1 (.fz ((nmsF o n x).map stR)))) []
theorem nm_use {o n : Sc} {x : ByteArray} {K : S → Hp → Prop} (h1 : o.fit) (h2 : n.fit) (hK : K (.va (.c1 (.fz ((nmsF o n x).map stR)))) []) : nmSp [.va (.gs (scC o)), .va (.gs (scC n)), tS x] [] K := ⟨o, n, x, rfl, rfl, h1, h2, hK⟩
set_option maxRecDepth 100000 in
set_option maxHeartbeats 1000000 in
theorem mNamesE : Meets Try.prog 14 nmSp := by
  refine meets_fn Try.func14 ok14 3 (by rw [Try.ntmps14]; decide) (meetsAll_s mUsesP (meetsAll_f mContainsS (meetsAll_nil _))) (fun av H K h => by obtain ⟨_, _, _, rfl, _⟩ := h; rfl) ?_
  rintro av H K ⟨o, n, x, rfl, rfl, ho, hn, hK⟩
  have ub := usL_bs hn x
  have ul := usL_len ho x
  have dbs := bs_map (usL n x)
  unfold nmsF at hK
  simp (maxSteps := 1000000) -dsimp only [go_sem, scC, pc14, rs14]
  refine usp_use hn ?_
  generalize usL n x = O at *
  simp (maxSteps := 1000000) -dsimp only [go_sem]
  refine usp_use ho ?_
  generalize usL o x = l at *
  simp (maxSteps := 1000000) -dsimp only [go_sem]
  refine vc_loop (α := Nat) (fun i => [(7, .va (.c1 (.sl 2 (x :: (l.take i).filter (inB O)).length))), (8, .va (.c1 (.fz (O.map stR)))), (18, .va (.c1 (.fz (l.map stR)))), (19, iS .i64 l.length), (20, iS .i64 i)]) (fun i => [.cells (scC o) 37, .cells (scC n) 37, .row ((x :: (l.take i).filter (inB O)).map stR) 9 1])
    (fun i => i ≤ l.length) (fun i => l.length - i) 0 3 (Nat.zero_le _) ?_ ?_ ?_
  · simp -dsimp only [go_sem] <;> simp
  · simp -dsimp only [go_sem, scC] <;> simp
  intro i hi
  have hlen : ((l.take i).filter (inB O)).length ≤ 32 := by have := List.length_filter_le (inB O) (l.take i); rw [List.length_take] at this; omega
  rcases Nat.lt_or_ge i l.length with hlt | hge
  · have hg : decide ((i : Int) < (l.length : Int)) = true := by simp; omega
    obtain ⟨y, hx⟩ : ∃ t, l[i]? = some t := ⟨_, List.getElem?_eq_getElem hlt⟩
    have q1 := row_rg' (row := stR) hx
    cases c : inB O y with
    | true =>
      have hnx : (l.take (i + 1)).filter (inB O) = (l.take i).filter (inB O) ++ [y] := by rw [take_next hx]; simp [c]
      simp (maxSteps := 1000000) -dsimp only [go_sem, hg, ↓q1, ub, dbs, c]
      and_intros
      all_goals first
        | omega
        | skip
      refine loop_next (i + 1) 3 (by omega) (by omega) ?_ ?_
      · simp -dsimp only [go_sem, hnx] <;> simp
      · simp -dsimp only [go_sem, hnx, scC] <;> simp
    | false =>
      have hnx : (l.take (i + 1)).filter (inB O) = (l.take i).filter (inB O) := by rw [take_next hx]; simp [c]
      simp (maxSteps := 1000000) -dsimp only [go_sem, hg, ↓q1, ub, dbs, c]
      and_intros
      all_goals first
        | omega
        | skip
      refine loop_next (i + 1) 3 (by omega) (by omega) ?_ ?_
      · simp -dsimp only [go_sem, hnx] <;> simp
      · simp -dsimp only [go_sem, hnx, scC] <;> simp
  · have hg : decide ((i : Int) < (l.length : Int)) = false := by simp; omega
    obtain rfl : i = l.length := by omega
    rw [List.take_length]
    simp (maxSteps := 1000000) -dsimp only [go_sem, hg]
    rw [show (l.filter (inB O)).length + 1 = ((x :: l.filter (inB O)).map stR).length by simp]
    refine .pub 2 _ _ _ rfl (.sel [] (by simp) (by simp [pubH]) rfl (.done ?_))
    simp -dsimp only [go_sem, pubH]
    simpa using hK
end Go.Proofs.Ytbolanmlngjdoaa
namespace Go.Proofs.Ytbolanmlngjdoaa
open Go.RowKit
def orI (a b c : Int) : Int := if a ≠ 0 then a else if b ≠ 0 then b else c
set_option maxRecDepth 1000000 in
theorem walkOr3 (a b c : Int) (bk cap : Nat) (w : World) (h0 : w.cell? ⟨bk, 0, none⟩ = some (.int .i64 a)) (h1 : w.cell? ⟨bk, 1, none⟩ = some (.int .i64 b)) (h2 : w.cell? ⟨bk, 2, none⟩ = some (.int .i64 c)) :
    Calls Try.prog 22 #[.slice (some ⟨bk, 0, none⟩) 3 cap] w fun e w' => e = .returned (.int .i64 (orI a b c)) ∧ w' = w := by
  go_enter Try.func22, Try.ntmps22
  go_wp2
  go_loopw [8] (fun i w' => ∃ (k : Nat), i = .int .i64 k ∧ w' = w ∧ k ≤ 3 ∧ (1 ≤ k → a = 0) ∧ (2 ≤ k → b = 0) ∧ (3 ≤ k → c = 0)) (fun i _ => match i with | .int _ k => 3 - k.toNat | _ => 0)
  case atStart => exact ⟨0, rfl, rfl, by omega, by omega, by omega, by omega⟩
  case round =>
    obtain ⟨k, rfl, rfl, hk, e1, e2, e3⟩ := hrel
    match k, hk with
    | 0, _ =>
      by_cases ha : a = 0
      · subst ha
        go_wp2
        refine ⟨⟨1, by simp, trivial, by omega, fun _ => by simp, fun h => absurd h (by omega), fun h => absurd h (by omega)⟩, by decide⟩
      · go_wp2
        go_ret
        exact ⟨by simp [orI, ha], rfl⟩
    | 1, _ =>
      obtain rfl := e1 (by omega)
      by_cases hb : b = 0
      · subst hb
        go_wp2
        refine ⟨⟨2, by simp, trivial, by omega, fun _ => by simp, fun _ => by simp, fun h => absurd h (by omega)⟩, by decide⟩
      · go_wp2
        go_ret
        exact ⟨by simp [orI, hb], rfl⟩
    | 2, _ =>
      obtain rfl := e1 (by omega)
      obtain rfl := e2 (by omega)
      by_cases hc : c = 0
      · subst hc
        go_wp2
        refine ⟨⟨3, by simp, trivial, by omega, fun _ => by simp, fun _ => by simp, fun _ => by simp⟩, by decide⟩
      · go_wp2
        go_ret
        exact ⟨by simp [orI], rfl⟩
    | 3, _ =>
      obtain rfl := e1 (by omega)
      obtain rfl := e2 (by omega)
      obtain rfl := e3 (by omega)
      go_wp2
      go_ret
      exact ⟨by simp [orI], rfl⟩
theorem cell_new3 (W : World) (x y z : Value) (t : TypeId) : (W.drew.alloc (.cells #[x, y, z] t)).cell? ⟨W.heap.size, 0, none⟩ = some x ∧ (W.drew.alloc (.cells #[x, y, z] t)).cell? ⟨W.heap.size, 1, none⟩ = some y ∧ (W.drew.alloc (.cells #[x, y, z] t)).cell? ⟨W.heap.size, 2, none⟩ = some z := by
  refine ⟨?_, ?_, ?_⟩ <;> (show (W.drew.alloc _).cell? ⟨W.drew.heap.size, _, none⟩ = _; rw [World.cell?_alloc_mark]; rfl)
set_option maxHeartbeats 1000000 in
set_option maxRecDepth 1000000 in
theorem walkCmp (hc : ∀ (a b : ByteArray) (w : World), Calls Try.prog 23 #[.string a, .string b] w fun e w' => e = .returned (.int .i64 (Lib.compareBytes a.data.toList b.data.toList)) ∧ w' = w) (k n k' n' : Int) (t t' : ByteArray) (hk : -1000 ≤ k ∧ k ≤ 1000) (hn : -1000 ≤ n ∧ n ≤ 1000) (hk' : -1000 ≤ k' ∧ k' ≤ 1000) (hn' : -1000 ≤ n' ∧ n' ≤ 1000) (w : World) :
    Calls Try.prog 21 #[.agg #[.int .i64 k, .int .i64 n, .string t], .agg #[.int .i64 k', .int .i64 n', .string t']] w fun e w' => e = .returned (.int .i64 (orI (Lib.compareBytes t.data.toList t'.data.toList) (k - k') (n - n'))) ∧ ∃ q os', w' = Sort.grow (w.drewN q) os' := by
  go_enter Try.func21, Try.ntmps21
  go_wp2
  have c0 : ((w.alloc (.cells #[.int .i64 k, .int .i64 n, .string t] 42)).alloc (.cells #[.int .i64 k', .int .i64 n', .string t'] 42)).cell? ⟨w.heap.size, 0, none⟩ = some (.int .i64 k) := by go_simp
  have c1 : ((w.alloc (.cells #[.int .i64 k, .int .i64 n, .string t] 42)).alloc (.cells #[.int .i64 k', .int .i64 n', .string t'] 42)).cell? ⟨w.heap.size, 1, none⟩ = some (.int .i64 n) := by go_simp
  have c2 : ((w.alloc (.cells #[.int .i64 k, .int .i64 n, .string t] 42)).alloc (.cells #[.int .i64 k', .int .i64 n', .string t'] 42)).cell? ⟨w.heap.size, 2, none⟩ = some (.string t) := by go_simp
  have d0 : ((w.alloc (.cells #[.int .i64 k, .int .i64 n, .string t] 42)).alloc (.cells #[.int .i64 k', .int .i64 n', .string t'] 42)).cell? ⟨w.heap.size + 1, 0, none⟩ = some (.int .i64 k') := by go_simp
  have d1 : ((w.alloc (.cells #[.int .i64 k, .int .i64 n, .string t] 42)).alloc (.cells #[.int .i64 k', .int .i64 n', .string t'] 42)).cell? ⟨w.heap.size + 1, 1, none⟩ = some (.int .i64 n') := by go_simp
  have d2 : ((w.alloc (.cells #[.int .i64 k, .int .i64 n, .string t] 42)).alloc (.cells #[.int .i64 k', .int .i64 n', .string t'] 42)).cell? ⟨w.heap.size + 1, 2, none⟩ = some (.string t') := by go_simp
  generalize hW : (w.alloc (.cells #[.int .i64 k, .int .i64 n, .string t] 42)).alloc (.cells #[.int .i64 k', .int .i64 n', .string t'] 42) = W at c0 c1 c2 d0 d1 d2 ⊢
  refine wp_region_still_tail 15 (by kernel_rfl) (by kernel_rfl) ?_
  simp only [List.take_succ_cons, List.take_zero, List.drop_succ_cons, List.drop_zero]
  change wpStill _ _ W.drew _ _ _
  repeat still_step
  still_call (hc _ _ _)
  repeat still_step
  try refine wpStill_nil ?_
  have w1 : IntKind.i64.wrap (k - k') = k - k' := by simp [IntKind.wrap, IntKind.bits, IntKind.signed]; omega
  have w2 : IntKind.i64.wrap (n - n') = n - n' := by simp [IntKind.wrap, IntKind.bits, IntKind.signed]; omega
  rw [w1, w2]
  change wpList _ _ _ _ _ W.drew
  have hor : Calls Try.prog 22 #[.slice (some ⟨W.heap.size, 0, none⟩) 3 3] (W.drew.alloc (.cells #[.int .i64 (Lib.compareBytes t.data.toList t'.data.toList), .int .i64 (k - k'), .int .i64 (n - n')] 3)) _ := walkOr3 (Lib.compareBytes t.data.toList t'.data.toList) (k - k') (n - n') W.heap.size 3 _ (cell_new3 ..).1 (cell_new3 ..).2.1 (cell_new3 ..).2.2
  go_wp2_with (go_at_call 22; refine hor.mono ?_; rintro e w' ⟨rfl, rfl⟩)
  go_ret
  refine ⟨rfl, 1, #[.cells #[.int .i64 k, .int .i64 n, .string t] 42] ++ #[.cells #[.int .i64 k', .int .i64 n', .string t'] 42] ++ #[.cells #[.int .i64 (Lib.compareBytes t.data.toList t'.data.toList), .int .i64 (k - k'), .int .i64 (n - n')] 3], ?_⟩
  subst hW
  rw [← Sort.grow_grow, ← Sort.grow_grow]
  simp only [Sort.alloc_eq_grow]
  rfl
end Go.Proofs.Ytbolanmlngjdoaa
namespace Go.Proofs
open Go.Shelf
def Try.sortIs_ren : Go.Shelf.Ren := ⟨fun | 6 => 20 | 15 => 39 | 14 => 38 | 28 => 56 | 29 => 57 | 20 => 48 | 21 => 49 | 22 => 50 | 23 => 51 | 24 => 52 | 25 => 53 | 26 => 54 | 27 => 55 | 46 => 65 | 47 => 66 | 48 => 67 | 49 => 68 | 50 => 69 | 57 => 72 | n => n, fun | 22 => 38 | 24 => 42 | 25 => 64 | 3 => 3 | 39 => 86 | 0 => 0 | 53 => 103 | 55 => 105 | 4 => 4 | 46 => 96 | 45 => 95 | 50 => 100 | 5 => 5 | 9 => 9 | 66 => 115 | 70 => 119 | 76 => 123 | 77 => 124 | n => n, fun | n => n⟩
theorem Try.sortIs : Go.Proofs.SlLaysF0.n6 Try.prog Try.sortIs_ren := {
  mixed := by kernel_rfl
  f6 := ⟨"slices.SortFunc[[]robotics/evolve.Issue,robotics/evolve.Issue]", by decide, Try.func20.trans (congrArg some (by kernel_rfl))⟩
  f14 := ⟨"slices.pdqsortCmpFunc[robotics/evolve.Issue]", by decide, Try.func38.trans (congrArg some (by kernel_rfl))⟩
  f15 := Try.func39.trans (congrArg some (by kernel_rfl))
  f20 := ⟨"slices.insertionSortCmpFunc[robotics/evolve.Issue]", by decide, Try.func48.trans (congrArg some (by kernel_rfl))⟩
  f21 := ⟨"slices.heapSortCmpFunc[robotics/evolve.Issue]", by decide, Try.func49.trans (congrArg some (by kernel_rfl))⟩
  f22 := ⟨"slices.breakPatternsCmpFunc[robotics/evolve.Issue]", by decide, Try.func50.trans (congrArg some (by kernel_rfl))⟩
  f23 := ⟨"slices.choosePivotCmpFunc[robotics/evolve.Issue]", by decide, Try.func51.trans (congrArg some (by kernel_rfl))⟩
  f24 := ⟨"slices.reverseRangeCmpFunc[robotics/evolve.Issue]", by decide, Try.func52.trans (congrArg some (by kernel_rfl))⟩
  f25 := ⟨"slices.partialInsertionSortCmpFunc[robotics/evolve.Issue]", by decide, Try.func53.trans (congrArg some (by kernel_rfl))⟩
  f26 := ⟨"slices.partitionEqualCmpFunc[robotics/evolve.Issue]", by decide, Try.func54.trans (congrArg some (by kernel_rfl))⟩
  f27 := ⟨"slices.partitionCmpFunc[robotics/evolve.Issue]", by decide, Try.func55.trans (congrArg some (by kernel_rfl))⟩
  f28 := Try.func56.trans (congrArg some (by kernel_rfl))
  f29 := Try.func57.trans (congrArg some (by kernel_rfl))
  f46 := ⟨"slices.siftDownCmpFunc[robotics/evolve.Issue]", by decide, Try.func65.trans (congrArg some (by kernel_rfl))⟩
  f47 := Try.func66.trans (congrArg some (by kernel_rfl))
  f48 := Try.func67.trans (congrArg some (by kernel_rfl))
  f49 := ⟨"slices.medianAdjacentCmpFunc[robotics/evolve.Issue]", by decide, Try.func68.trans (congrArg some (by kernel_rfl))⟩
  f50 := ⟨"slices.medianCmpFunc[robotics/evolve.Issue]", by decide, Try.func69.trans (congrArg some (by kernel_rfl))⟩
  f57 := ⟨"slices.order2CmpFunc[robotics/evolve.Issue]", by decide, Try.func72.trans (congrArg some (by kernel_rfl))⟩
  t0 := Try.underlying0
  a0 := Try.isAgg0
  z0 := Try.sizeOf0
  v0 := Try.zeroValue0
  t3 := Try.underlying3
  a3 := Try.isAgg3
  z3 := Try.sizeOf3
  v3 := Try.zeroValue3
  t4 := Try.underlying4
  a4 := Try.isAgg4
  z4 := Try.sizeOf4
  v4 := Try.zeroValue4
  t5 := Try.underlying5
  a5 := Try.isAgg5
  z5 := Try.sizeOf5
  v5 := Try.zeroValue5
  t9 := Try.underlying9
  a9 := Try.isAgg9
  z9 := Try.sizeOf9
  v9 := Try.zeroValue9
  t22 := Try.underlying38
  a22 := Try.isAgg38
  z22 := Try.sizeOf38
  v22 := Try.zeroValue38
  t25 := Try.underlying64
  a25 := Try.isAgg64
  z25 := Try.sizeOf64
  v25 := Try.zeroValue64
  t39 := Try.underlying86
  a39 := Try.isAgg86
  z39 := Try.sizeOf86
  v39 := Try.zeroValue86
  t45 := Try.underlying95
  a45 := Try.isAgg95
  z45 := Try.sizeOf95
  v45 := Try.zeroValue95
  t46 := Try.underlying96
  a46 := Try.isAgg96
  z46 := Try.sizeOf96
  v46 := Try.zeroValue96
  t50 := Try.underlying100
  a50 := Try.isAgg100
  z50 := Try.sizeOf100
  v50 := Try.zeroValue100
  t53 := Try.underlying103
  a53 := Try.isAgg103
  z53 := Try.sizeOf103
  v53 := Try.zeroValue103
  t55 := Try.underlying105
  a55 := Try.isAgg105
  z55 := Try.sizeOf105
  v55 := Try.zeroValue105
  t66 := Try.underlying115
  a66 := Try.isAgg115
  z66 := Try.sizeOf115
  v66 := Try.zeroValue115
  t70 := Try.underlying119
  a70 := Try.isAgg119
  z70 := Try.sizeOf119
  v70 := Try.zeroValue119
  t76 := Try.underlying123
  a76 := Try.isAgg123
  z76 := Try.sizeOf123
  v76 := Try.zeroValue123
  t77 := Try.underlying124
  a77 := Try.isAgg124
  z77 := Try.sizeOf124
  v77 := Try.zeroValue124 }
def Try.lays106_ren : Go.Shelf.Ren := ⟨fun | 106 => 23 | 213 => 40 | 265 => 58 | n => n, fun | 9 => 9 | 3 => 3 | n => n, fun | n => n⟩
theorem Try.lays106 : Go.Proofs.Lays.n106 Try.prog Try.lays106_ren := {
  mixed := by kernel_rfl
  f106 := Try.func23.trans (congrArg some (by kernel_rfl))
  f213 := Try.func40.trans (congrArg some (by kernel_rfl))
  f265 := Try.func58.trans (congrArg some (by kernel_rfl))
  t3 := Try.underlying3
  a3 := Try.isAgg3
  z3 := Try.sizeOf3
  v3 := Try.zeroValue3
  t9 := Try.underlying9
  a9 := Try.isAgg9
  z9 := Try.sizeOf9
  v9 := Try.zeroValue9 }
end Go.Proofs
namespace Go.W
open Go.RowKit
structure Stay (w w' : World) : Prop where
  os : w'.os = w.os
  out : w'.output = w.output
  size : w.heap.size ≤ w'.heap.size
  keep : ∀ b : Nat, b < w.heap.size → w'.heap[b]? = w.heap[b]?
theorem Stay.kept {w w' : World} (h : Stay w w') (may : MemPlace → Prop) : w.keptBut w' may := by
  refine ⟨h.os, h.out, fun i hi => ?_⟩
  rw [h.keep i hi]
  split
  · rename_i h1 h2; rw [h1] at h2; cases h2; exact ⟨rfl, rfl, rfl, fun _ _ => rfl⟩
  · rename_i h1 h2; rw [h1] at h2; cases h2; exact Or.inr ⟨rfl, rfl⟩
  · rfl
theorem Stay.frozen {w w' : World} (h : Stay w w') {a : Addr} (ha : a.block < w.heap.size) : w'.frozen? a = w.frozen? a := by
  unfold World.frozen?; rw [h.keep _ ha]
theorem Stay.cell {w w' : World} (h : Stay w w') {a : Addr} (ha : a.block < w.heap.size) : w'.cell? a = w.cell? a := by
  unfold World.cell?; rw [h.keep _ ha]
theorem rel_nil {w : World} {ro : RO} (h : ∀ (b off : Nat) (v : Value), ro b off = some v → w.cell? ⟨b, off, none⟩ = some v) : Rel ⟨w, blks [], ro, gm []⟩ [] ro w where
  own := fun n g blk h => by simp at h
  inj := fun n m gn gm bn bm b h => by simp at h
  apart := fun b off v _ n g blk h => by simp at h
  rd := h
  ro0 := fun _ _ _ h => h
  rob := fun b off v h => .inl h
  par := fun n b g blk h => by simp at h
  gx := .refl _
  sz := Nat.le_refl _
  keep := fun b _ _ => rfl
  os := rfl
  tape := rfl
  output := rfl
theorem Meets.run {P : Program} {f : FuncId} {s : Fun} (hm : Meets P f s.sp) {av : List S} {vs : List Value} {ro : RO} {w : World} {x : A} (hpre : s.pre av) (hval : s.val av = x) (hl : av.length = vs.length)
    (hrel : ∀ (i : Nat) (x : S) (v : Value), av[i]? = some x → vs[i]? = some v → x.rel (gm []) ro v) (hro : ∀ (b off : Nat) (v : Value), ro b off = some v → w.cell? ⟨b, off, none⟩ = some v) :
    Calls P f vs.toArray w fun e w' => ∃ v γ ro', e = .returned v ∧ S.rel γ ro' (.va x) v ∧ Stay w w' := by
  subst hval
  refine (hm.2 av vs [] ro w (fun r H => r = .va (s.val av) ∧ H = []) hl hrel (rel_nil hro) ⟨⟨hpre, rfl⟩, rfl, rfl⟩).mono ?_
  rintro e w' ⟨r, v, E', ro', rfl, h1, ⟨rfl, h2⟩, h3⟩
  exact ⟨v, _, ro', rfl, h1, h3.os, h3.output, h3.sz, fun b hb => h3.keep b hb (by simp [blks])⟩
theorem Meets.yes {P : Program} {f : FuncId} {s : Fun} (hm : Meets P f s.sp) {av : List S} {vs : List Value} {ro : RO} {w : World} (hpre : s.pre av) (hval : s.val av = .c1 (.vl (.bool true))) (hl : av.length = vs.length)
    (hrel : ∀ (i : Nat) (x : S) (v : Value), av[i]? = some x → vs[i]? = some v → x.rel (gm []) ro v) (hro : ∀ (b off : Nat) (v : Value), ro b off = some v → w.cell? ⟨b, off, none⟩ = some v) :
    Calls P f vs.toArray w fun e w' => e = .returned (.bool true) ∧ Stay w w' := by
  refine (hm.run hpre hval hl hrel hro).mono ?_
  rintro e w' ⟨v, γ, ro', rfl, h1, h2⟩
  have : v = .bool true := h1
  exact ⟨by rw [this], h2⟩
section
variable {H : Type} {enc : TypeId × Value → H} {P : Program}
theorem post_of_stay {f : Func} {s : ChangeSpec} {apart fresh handsOn again : Bool} {W W' : World} {args : Array Value} {v : Value} {ds gs : List (DataW H)} {before pa pv : List MemPlace}
    (hW : DataW.Whole enc P f.params.toList s.vars apart W args.toList ds gs before)
    (hres : ∀ (b : Nat) (sp : Nat → Bool) (hd : Bool), DataW.TrodAll enc P W' b sp hd f.resultTypes.toList (v.resultList f.resultTypes.size) (s.fn H (ds ++ gs)).results [])
    (hargs : ∀ sp : Nat → Bool, (∀ p ∈ before, sp p.block = true) → DataW.TrodAll enc P W' 0 sp true f.params.toList args.toList (s.fn H (ds ++ gs)).args pa)
    (hvars : ∀ sp : Nat → Bool, (∀ p ∈ before, sp p.block = true) → DataW.TrodVars enc P W' sp s.vars (s.fn H (ds ++ gs)).vars pv)
    (hps : before = pa ++ pv) (hs : Stay W W')
    (hok : ∀ (j : Nat) (t : TypeId) (r : Value), f.resultTypes[j]? = some t → (v.resultList f.resultTypes.size)[j]? = some r → Value.okWide P W' .any 0 t r) :
    s.post enc P f apart fresh handsOn again W args v W' := by
  have hlt : ∀ p ∈ before, p.block < W.heap.size := fun p hp => hW.lt p hp
  have hsp : ∀ p ∈ before, (fun b => decide (b < W.heap.size)) p.block = true := fun p hp => by simpa using hlt p hp
  have hall : ∀ p ∈ before, (fun _ : Nat => true) p.block = true := fun _ _ => rfl
  obtain ⟨_, _, _, _, _, hz, hn⟩ := id hW
  refine ⟨ds, gs, before, [], pa, pv, hW, hres _ _ _, hargs _ hsp, hvars _ hsp, World.keptBut_mono (fun p hp => ⟨hp, .inr ?_⟩) (hs.kept (· ∈ before)), fun _ => ⟨hok, _, _, ([] ++ pa) ++ pv,
    ⟨[] ++ pa, pv, ChangeShapes.trodAll_append (hargs _ hall) (hres _ _ _), hvars _ hall, rfl, fun b off hp => ?_, fun ha => ?_⟩, fun p hp _ => ?_⟩⟩
  · rw [hps, List.mem_append] at hp; exact hp
  · have hb : MemPlace.cell b off ∈ before := by rw [hps]; simpa using hp
    rw [hs.frozen (hlt _ hb)]
    exact hz b off hb
  · have := hn ha
    rw [hps] at this
    simpa using this
  · rw [hps]
    simpa using hp
end
end Go.W
namespace Go.W
open Go.RowKit
def roW (W : World) : RO := fun b off => W.cell? ⟨b, off, none⟩
theorem roW_ok (W : World) : ∀ (b off : Nat) (v : Value), roW W b off = some v → W.cell? ⟨b, off, none⟩ = some v := fun _ _ _ h => h
theorem fz_nil (ro : RO) : FzR ro [] (.slice none 0 0) :=
  FzR.mk [] 1 none none (fun h => absurd rfl h) 0 (fun _ => .bool true) (by simp) (by simp) (by simp) (by simp) (by simp) (by simp) (by simp)
def slicesRoom (P : Program) : Bool := (List.range P.types.size).all fun t => match P.underlying t with | some (.slice e) => decide (0 < P.cellsOf e) | _ => true
section
variable {H : Type} {enc : TypeId × Value → H} {P : Program}
theorem stay_same {W W' : World} (h : Stay W W') {p : MemPlace} (hp : p.block < W.heap.size) : W.sameAt W' p := by
  cases p with
  | cell b off => exact h.cell (a := ⟨b, off, none⟩) hp
  | map b => exact h.keep b hp
theorem trodAll_stay {W W' : World} {sp : Nat → Bool} (hl : laidOutB P = true) (hm : mapsRowed P = true) (hs : slicesRoom P = true) (hst : Stay W W') :
    ∀ {ts : List TypeId} {vs : List Value} {ds : List (DataW H)} {ps : List MemPlace}, (∀ t ∈ ts, t < P.types.size) → DataW.TrodAll enc P W 0 (fun _ => true) true ts vs ds ps → (∀ p ∈ ps, p.block < W.heap.size) → (∀ p ∈ ps, sp p.block = true) →
      DataW.TrodAll enc P W' 0 sp true ts vs ds ps
  | [], [], [], ps, _, h, _, _ => h
  | t :: ts, v :: vs, d :: ds, ps, ht, h, hb, hp => by
    obtain ⟨p, q, ⟨n, h1⟩, h2, rfl⟩ := h
    have hsz : ∀ {t e : TypeId}, t < P.types.size → P.underlying t = some (.slice e) → 0 < P.cellsOf e := fun {t e} ht hu => by
      have := List.all_eq_true.1 hs t (List.mem_range.2 ht)
      rw [hu] at this
      simpa using this
    exact ⟨p, q, ⟨n, DataW.trod_stays (T := (· < P.types.size)) (kids_rows hl hm) hsz (fun h => by cases h) (ht t (by simp)) h1 (fun x hx => stay_same hst (hb x (by simp [hx]))) (fun x hx => hp x (by simp [hx]))⟩,
      trodAll_stay hl hm hs hst (fun u hu => ht u (by simp [hu])) h2 (fun x hx => hb x (by simp [hx])) (fun x hx => hp x (by simp [hx])), rfl⟩
  | [], _ :: _, _, _, _, h, _, _ => h.elim
  | [], [], _ :: _, _, _, h, _, _ => h.elim
  | _ :: _, [], _, _, _, h, _, _ => h.elim
  | _ :: _, _ :: _, [], _, _, h, _, _ => h.elim
theorem law_post {f : Func} {s : ChangeSpec} {apart fresh handsOn again : Bool} {W W' : World} {args : Array Value} {ds gs : List (DataW H)} {before : List MemPlace} {tb : TypeId}
    (hl : laidOutB P = true) (hm : mapsRowed P = true) (hsr : slicesRoom P = true) (hps : ∀ t ∈ f.params.toList, t < P.types.size) (hrt : f.resultTypes = #[tb]) (htb : P.underlying tb = some .bool)
    (hvars : s.vars = []) (hW : DataW.Whole enc P f.params.toList s.vars apart W args.toList ds gs before) (hfn : s.fn H (ds ++ gs) = { results := [.lit (.bool true)], args := ds, vars := [] }) (hst : Stay W W') :
    s.post enc P f apart fresh handsOn again W args (.bool true) W' := by
  have hlt : ∀ p ∈ before, p.block < W.heap.size := fun p hp => hW.lt p hp
  obtain ⟨p, q, hA, hV, hb, _, _⟩ := id hW
  have hq : q = [] := by
    rw [hvars] at hV
    cases gs with
    | nil => exact hV
    | cons g gs => exact hV.elim
  subst hq
  have hbp : before = p := by rw [hb]; simp
  refine post_of_stay (pa := p) (pv := []) hW (fun b sp hd => ?_) (fun sp hsp => ?_) (fun sp hsp => ?_) hb hst ?_
  · rw [hrt, hfn]
    exact ⟨[], [], ⟨1, by simp [DataW.trod, Value.cells, htb]⟩, rfl, rfl⟩
  · rw [hfn]
    rw [hbp] at hlt hsp
    exact trodAll_stay hl hm hsr hst hps hA hlt hsp
  · rw [hfn, hvars]; rfl
  · intro j t r h1 h2
    rw [hrt] at h1 h2
    match j with
    | 0 =>
      cases h1
      cases h2
      simp [Value.okWide, Cell.okWide, Cell.ok, htb]
    | j + 1 => cases h1
end
end Go.W
namespace Go.W
open Go.Sort Go.Proofs
theorem perm_lift {α β : Type} {f : α → β} : ∀ {l' l : List β}, l'.Perm l → ∀ {Z : List α}, Z.map f = l → ∃ Z' : List α, Z'.map f = l' ∧ Z'.Perm Z := by
  intro l' l h
  induction h with
  | nil => intro Z hZ; exact ⟨Z, hZ, .refl _⟩
  | cons x _ ih =>
    intro Z hZ
    cases Z with
    | nil => cases hZ
    | cons z Z =>
      simp only [List.map_cons, List.cons.injEq] at hZ
      obtain ⟨Z', h1, h2⟩ := ih hZ.2
      exact ⟨z :: Z', by simp [h1, hZ.1], h2.cons z⟩
  | swap x y l =>
    intro Z hZ
    match Z, hZ with
    | a :: b :: Z, hZ =>
      simp only [List.map_cons, List.cons.injEq] at hZ
      exact ⟨b :: a :: Z, by simp [hZ.1, hZ.2.1, hZ.2.2], .swap a b Z⟩
  | trans _ _ ih1 ih2 =>
    intro Z hZ
    obtain ⟨Z1, h1, h2⟩ := ih2 hZ
    obtain ⟨Z2, h3, h4⟩ := ih1 h1
    exact ⟨Z2, h3, h4.trans h2⟩
theorem flatL_len {α : Type} {k : Nat} : ∀ {l : List (List α)}, (∀ x ∈ l, x.length = k) → l.flatten.length = l.length * k
  | [], _ => by simp
  | x :: l, h => by
    rw [List.flatten_cons, List.length_append, flatL_len fun y hy => h y (by simp [hy]), h x (by simp), List.length_cons, Nat.succ_mul]
    omega
theorem flatL_at {α : Type} {k : Nat} : ∀ {l : List (List α)}, (∀ x ∈ l, x.length = k) → ∀ {i j : Nat}, i < l.length → j < k → l.flatten[i * k + j]? = (l[i]?).bind (·[j]?)
  | [], _, i, j, hi, _ => by simp at hi
  | x :: l, h, i, j, hi, hj => by
    have hx := h x (by simp)
    cases i with
    | zero => simp [List.getElem?_append, hx, hj]
    | succ i =>
      rw [List.flatten_cons, List.getElem?_append_right (by rw [hx, Nat.succ_mul]; omega), hx, show (i + 1) * k + j - k = i * k + j by rw [Nat.succ_mul]; omega]
      simpa using flatL_at (fun y hy => h y (by simp [hy])) (by simpa using hi) hj
theorem flatK_list {α : Type} [Inhabited α] {enc : α → List Value} {k : Nat} (hk : ∀ x, (enc x).length = k) (h0 : 0 < k) (l : List α) : (flatK enc k l.toArray).toList = (l.map enc).flatten := by
  have hl : ∀ x ∈ l.map enc, x.length = k := fun x hx => by obtain ⟨a, _, rfl⟩ := List.mem_map.1 hx; exact hk a
  refine List.ext_getElem? fun t => ?_
  rcases Nat.lt_or_ge t (l.length * k) with ht | ht
  · have hd : t / k < l.length := Nat.div_lt_of_lt_mul (by rwa [Nat.mul_comm])
    have hm : t % k < k := Nat.mod_lt _ h0
    have e1 := flatL_at hl (i := t / k) (j := t % k) (by simpa using hd) hm
    rw [Nat.div_add_mod' t k] at e1
    rw [e1, List.getElem?_map, List.getElem?_eq_getElem hd]
    simp only [flatK]
    have hz : t % k < (enc l[t / k]).length := by rw [hk]; exact hm
    simp [ht, hd, hz]
  · rw [List.getElem?_eq_none (by simpa using ht), List.getElem?_eq_none (by rw [flatL_len hl]; simpa using ht)]
theorem row_parts {ro : RO} {α : Type} {enc : α → List Value} {R : α → List C → Prop} {k : Nat} {row : List C → Prop} (hR : ∀ r vs, row r → All2 (C.fv ro) r vs → ∃ a, enc a = vs ∧ R a r) :
    ∀ {xs : List (List C)} {vs : List Value}, (∀ r ∈ xs, row r) → (∀ r ∈ xs, r.length = k) → All2 (C.fv ro) xs.flatten vs → ∃ Z : List (α × List C), Z.map Prod.snd = xs ∧ (Z.map fun z => enc z.1).flatten = vs ∧ ∀ z ∈ Z, R z.1 z.2 ∧ All2 (C.fv ro) z.2 (enc z.1)
  | [], vs, _, _, h => ⟨[], rfl, by simpa using (All2.nil_inv h).symm, fun z hz => by cases hz⟩
  | r :: xs, vs, h1, h2, h => by
    rw [List.flatten_cons] at h
    have hr := h2 r (by simp)
    have ha : All2 (C.fv ro) r (vs.take k) := by
      have := h.take k
      rwa [List.take_left' hr] at this
    have hb : All2 (C.fv ro) xs.flatten (vs.drop k) := by
      have := h.drop k
      rwa [List.drop_left' hr] at this
    obtain ⟨a, h3, h4⟩ := hR r _ (h1 r (by simp)) ha
    obtain ⟨Z, h5, h6, h7⟩ := row_parts hR (fun x hx => h1 x (by simp [hx])) (fun x hx => h2 x (by simp [hx])) hb
    refine ⟨(a, r) :: Z, by simp [h5], by simp [h6, h3], fun z hz => ?_⟩
    rcases List.mem_cons.1 hz with rfl | hz
    · exact ⟨h4, by rw [h3]; exact ha⟩
    · exact h7 z hz
def srSp (g T k : Nat) (row : List C → Prop) (lt : List C → List C → Bool) : W.Spec := fun av H K => ∃ xs : List (List C), av = [.va (.c1 (.sl 0 xs.length)), .va (.c1 (.fn g []))] ∧ H = [.row xs T k] ∧ (∀ r ∈ xs, row r) ∧ xs.length ≤ 1000000000 ∧ ∀ xs' : List (List C), xs'.Perm xs → xs'.Pairwise (fun a b => lt b a = false) → K (.tu []) [.row xs' T k]
theorem fv_all {ro : RO} {r : List (List C)} {E : List (List Value)} (h : All2 (fun x y => All2 (C.fv ro) x y) r E) : All2 (C.fv ro) r.flatten E.flatten := by
  induction r generalizing E with
  | nil => rw [All2.nil_inv h]; exact .nil
  | cons x r ih =>
    obtain ⟨y, E', rfl, h1, h2⟩ := All2.cons_inv h
    rw [List.flatten_cons, List.flatten_cons]
    exact h1.app (ih h2)
set_option maxHeartbeats 1000000 in
theorem meets_srt {P : Program} {f g T k : Nat} (h0 : 0 < k) (hen : enters P f = true) {α : Type} [Inhabited α] {enc : α → List Value} (hk : ∀ x, (enc x).length = k) {cf : α → α → Int} {row : List C → Prop} {lt : List C → List C → Bool} {R : α → List C → Prop}
    (hR : ∀ (ro : RO) (r : List C) (vs : List Value), row r → All2 (C.fv ro) r vs → ∃ a, enc a = vs ∧ R a r) (hlt : ∀ a r b s, R a r → R b s → ltOf cf a b = lt r s)
    (key : ∀ (blk cap : Nat) (d : Array α) (w : World), HoldsK enc k w blk 0 d → blk < w.heap.size → d.size < 4611686018427387904 → Calls P f #[.slice (some ⟨blk, 0, none⟩) d.size cap, .func (.func g) #[] #[]] w fun e w' =>
      e = .returned (.tuple #[]) ∧ ∃ d' n os, PermIn 0 d.size d d' ∧ SortedIn (ltOf cf) 0 d.size d' ∧ w' = sortWorldK enc k w blk 0 n d' os)
    (key0 : ∀ w : World, Calls P f #[.slice none 0 0, .func (.func g) #[] #[]] w fun e w' => e = .returned (.tuple #[]) ∧ w' = w) : Meets P f (srSp g T k row lt) := by
  refine ⟨hen, fun av vs E ro w K hlen hrel hR0 hs => ?_⟩
  obtain ⟨xs, rfl, hH, hrow, hl, hK⟩ := hs
  match E, hH with
  | [(gb, blk)], hH =>
    obtain rfl : blk = .row xs T k := by simpa [hp] using hH
    match vs, hlen with
    | [v0, v1], _ =>
      have r0 := hrel 0 _ _ rfl rfl
      have r1 := hrel 1 _ _ rfl rfl
      obtain ⟨ws, hv1, hws⟩ : ∃ ws : List Value, v1 = .func (.func g) #[] ws.toArray ∧ All2 (capR (gm [(gb, .row xs T k)]) ro) [] ws := r1
      obtain rfl := All2.nil_inv hws
      subst hv1
      have hon := hR0.own 0 gb _ rfl
      obtain ⟨o1, o2, o3, o4, o5, o6, o7⟩ := hon
      obtain ⟨g', hg', _, _, _, hv0⟩ := r0
      obtain rfl : gb = g' := by simpa [gm] using hg'
      obtain rfl := hv0 o2.symm
      obtain ⟨l1, l2⟩ := o5
      obtain ⟨Z, z1, z2, z3⟩ := row_parts (hR ro) hrow o3 o6
      rcases l2 with ⟨hn, h1⟩ | ⟨b, cap, cur, hsl, _, hb, hcap, hmax, hcs, htk⟩
      · obtain rfl := List.eq_nil_of_length_eq_zero h1
        have hK := hK [] (.refl _) .nil
        rw [show (Value.slice (obA gb.ob 0) ([] : List (List C)).length gb.cap) = .slice none 0 0 from hn]
        refine (key0 w).mono ?_
        rintro e w' ⟨rfl, rfl⟩
        exact ⟨.tu [], _, [(gb, .row [] T k)], ro, rfl, ⟨[], rfl, .nil⟩, hK, hR0⟩
      have hob : gb.ob = some b := by
        cases hgo : gb.ob with
        | none => rw [hgo] at hsl; simp [obA] at hsl
        | some b' => rw [hgo] at hsl; simp [obA] at hsl; rw [hsl.1]
      have hgc : gb.cap = cap := by simp at hsl; exact hsl.2
      have hbs : b < w.heap.size := by
        rcases Nat.lt_or_ge b w.heap.size with h' | h'
        · exact h'
        · rw [Array.getElem?_eq_none h'] at hb; cases hb
      have hZl : Z.length = xs.length := by rw [← z1, List.length_map]
      obtain ⟨d, hd⟩ : ∃ d : List α, d = Z.map Prod.fst := ⟨_, rfl⟩
      have hdl : d.length = xs.length := by rw [hd, List.length_map, hZl]
      have hfl : (flatK enc k d.toArray).toList = gb.vs := by
        rw [flatK_list hk h0, hd, List.map_map]; exact z2
      have hvl : gb.vs.length = xs.length * k := l1
      have hcell : HoldsK enc k w b 0 d.toArray := by
        intro j hj
        have hj' : j < xs.length * k := by simpa [hdl] using hj
        refine ⟨?_, by simp [World.frozen?, hb]⟩
        have e1 : (flatK enc k d.toArray)[j]? = gb.vs[j]? := by rw [← hfl]; simp
        have e2 : gb.vs[j]? = cur[j]? := by
          rw [← htk, List.getElem?_take, if_pos hj']; simp
        have hj2 : j < (flatK enc k d.toArray).size := by simpa using hj
        rw [Nat.zero_add]
        simp only [World.cell?, hb]
        rw [← e2, ← e1, Array.getElem?_eq_getElem hj2, getElem!_pos _ j hj2]
        simp
      rw [hob, hgc]
      have hkey := key b cap d.toArray w hcell hbs (by simp; omega)
      rw [show d.toArray.size = xs.length by simp [hdl]] at hkey
      refine hkey.mono ?_
      rintro e w' ⟨rfl, d', n, os, ⟨hp1, _, hp3⟩, hsrt, rfl⟩
      rw [show (0 : Nat) = 0 from rfl] at hp3
      have hd's : d'.size = xs.length := by rw [hp1]; simp [hdl]
      have hperm : d'.toList.Perm d := by
        have e1 : d'.extract 0 xs.length = d' := by rw [← hd's]; simp
        have e2 : d.toArray.extract 0 xs.length = d.toArray := by rw [← hdl]; simp
        rw [e1, e2] at hp3
        simpa using hp3
      obtain ⟨Z', y1, y2⟩ := perm_lift hperm hd.symm
      obtain ⟨xs', hx'⟩ : ∃ xs' : List (List C), xs' = Z'.map Prod.snd := ⟨_, rfl⟩
      have hxp : xs'.Perm xs := by rw [hx', ← z1]; exact y2.map _
      have hxl : xs'.length = xs.length := hxp.length_eq
      have y3 : ∀ z ∈ Z', R z.1 z.2 ∧ All2 (C.fv ro) z.2 (enc z.1) := fun z hz => z3 z (y2.mem_iff.1 hz)
      have hsx : xs'.Pairwise (fun a b => lt b a = false) := by
        rw [hx', List.pairwise_map, List.pairwise_iff_getElem]
        intro i j hi hj hij
        have hz1 := y3 Z'[i] (List.getElem_mem hi)
        have hz2 := y3 Z'[j] (List.getElem_mem hj)
        rw [← hlt _ _ _ _ hz2.1 hz1.1]
        have hZ'l : Z'.length = xs.length := by rw [← hxl, hx', List.length_map]
        have := hsrt i j (Nat.zero_le _) hij (by omega)
        have ei : d'[i]! = Z'[i].1 := by
          have : d'.toList[i]? = (Z'.map Prod.fst)[i]? := by rw [y1]
          rw [getElem!_pos d' i (by omega)]
          simpa [hi, show i < d'.size by omega] using this
        have ej : d'[j]! = Z'[j].1 := by
          have : d'.toList[j]? = (Z'.map Prod.fst)[j]? := by rw [y1]
          rw [getElem!_pos d' j (by omega)]
          simpa [hj, show j < d'.size by omega] using this
        rw [ei, ej] at this
        exact this
      have hK := hK xs' hxp hsx
      obtain ⟨us, hus⟩ : ∃ us : List Value, us = (flatK enc k d').toList := ⟨_, rfl⟩
      have hul : us.length = xs.length * k := by rw [hus]; simp [hd's]
      have hus2 : us = (Z'.map fun z => enc z.1).flatten := by
        rw [hus, show d' = d'.toList.toArray by simp, flatK_list hk h0, ← y1, List.map_map]; rfl
      have hrel' : All2 (C.fv ro) xs'.flatten us := by
        rw [hus2, hx']
        refine fv_all ⟨by simp, fun i x y hx hy => ?_⟩
        rw [List.getElem?_map] at hx hy
        cases hz : Z'[i]? with
        | none => rw [hz] at hx; cases hx
        | some z =>
          rw [hz] at hx hy
          cases hx; cases hy
          exact (y3 z (List.mem_of_getElem? hz)).2
      obtain ⟨W', hW⟩ : ∃ W', W' = sortWorldK enc k w b 0 n d' os := ⟨_, rfl⟩
      have hmod : (putRowK enc k (Sort.ahead w n) b 0 d').heap.size = w.heap.size := by simp [putRowK, putRow, mapBlock, Sort.ahead]
      have hgo : ∀ {j : Nat}, j < w.heap.size → W'.heap[j]? = (putRowK enc k (Sort.ahead w n) b 0 d').heap[j]? := fun {j} hj => by
        rw [hW]; simp only [sortWorldK, grow]; rw [Array.getElem?_append_left (by rw [hmod]; exact hj)]
      have hb' : W'.heap[b]? = some (.cells (putCells id 0 (flatK enc k d') cur) T (0, 0)) := by
        rw [hgo hbs]
        unfold putRowK putRow mapBlock
        simp [Array.getElem?_modify, Sort.ahead, hb, onCells]
      have hne : ∀ j, j ≠ b → j < w.heap.size → W'.heap[j]? = w.heap[j]? := fun j h1 h2 => by
        rw [hgo h2]
        unfold putRowK putRow mapBlock
        simp [Array.getElem?_modify, Sort.ahead, Ne.symm h1]
      have hsz : w.heap.size ≤ W'.heap.size := by rw [hW]; simp [sortWorldK, grow, hmod]
      have hrest : W'.os = w.os ∧ W'.tape = w.tape ∧ W'.output = w.output := by rw [hW]; exact ⟨rfl, rfl, rfl⟩
      rw [← hW]
      clear hW
      have htk' : (putCells id 0 (flatK enc k d') cur).toList.take (xs'.length * k) = us := by
        rw [hxl]
        refine List.ext_getElem? fun j => ?_
        rw [List.getElem?_take]
        rcases Nat.lt_or_ge j (xs.length * k) with hj | hj
        · rw [if_pos hj]
          have h1 : j < cur.size := by rw [hcs]; exact Nat.lt_of_lt_of_le hj (Nat.mul_le_mul_right k hcap)
          have h2 : j < (flatK enc k d').size := by simpa [hd's] using hj
          rw [hus]
          simp only [putCells, Array.getElem?_toList, Array.getElem?_mapIdx, Array.getElem?_eq_getElem h1, Option.map_some, Nat.zero_le, true_and, Nat.zero_add, Nat.sub_zero, id]
          rw [if_pos h2, Array.getElem?_eq_getElem h2, getElem!_pos _ j h2]
        · rw [if_neg (by omega), List.getElem?_eq_none (by omega)]
      have hown : B.On (gm [(⟨some b, true, xs'.length, cap, gb.T, us⟩, .row xs' T k)]) ro W' ⟨some b, true, xs'.length, cap, gb.T, us⟩ (.row xs' T k) := by
        refine ⟨rfl, rfl, fun x hx => o3 x (hxp.mem_iff.1 hx), fun c hc => ?_, ⟨by rw [hxl]; exact hul, .inr ⟨b, cap, putCells id 0 (flatK enc k d') cur, by simp [obA], Nat.zero_le _, hb', by rw [hxl]; exact hcap, hmax, by simp [putCells, hcs], htk'⟩⟩, hrel', fun b' _ => by have := o7 b hob; rw [hgc] at this; exact this⟩
        obtain ⟨r, h1, h2⟩ := List.mem_flatten.1 hc
        exact o4 c (List.mem_flatten.2 ⟨r, hxp.mem_iff.1 h1, h2⟩)
      have hpb : b ∈ blks [(gb, .row xs T k)] := by
        rcases hR0.par 0 b gb _ rfl hob rfl with h | h
        · exact absurd h (Nat.not_le.2 hbs)
        · exact h
      refine ⟨.tu [], _, [(⟨some b, true, xs'.length, cap, gb.T, us⟩, .row xs' T k)], ro, rfl, ⟨[], rfl, .nil⟩, hK, ?_⟩
      refine ⟨fun n gn bn hn => ?_, fun n m gn gm' bn bm b' hn hm h1 h2 l1 l2 => ?_, fun b' off v hv n gn bn hn hgb => ?_, fun b' off v hv => ?_, hR0.ro0, hR0.rob, fun n b' gn bn hn hgb hl => ?_, ?_, hsz, fun j hj hjb => hne j (fun e => hjb (e ▸ hpb)) hj, hrest.1, hrest.2.1, hrest.2.2⟩
      · match n, hn with
        | 0, hn => cases hn; exact hown
        | n + 1, hn => cases hn
      · match n, m, hn, hm with
        | 0, 0, _, _ => rfl
        | n + 1, _, hn, _ => cases hn
        | _, m + 1, _, hm => cases hm
      · match n, hn with
        | 0, hn =>
          cases hn
          have hbb : b = b' := by simpa using hgb
          subst hbb
          exact absurd (hR0.apart b off v hv 0 gb _ rfl hob) (by simp [B.live])
        | n + 1, hn => cases hn
      · have hne' : b' ≠ b := fun e => by
          subst e
          exact absurd (hR0.apart b' off v hv 0 gb _ rfl hob) (by simp [B.live])
        have := hR0.rd b' off v hv
        rcases Nat.lt_or_ge b' w.heap.size with h' | h'
        · rw [World.cell?_of_block (hne b' hne' h')]
          exact this
        · simp [World.cell?, Array.getElem?_eq_none h'] at this
      · match n, hn with
        | 0, hn => cases hn; have : b = b' := by simpa using hgb
                   subst this; exact .inr hpb
        | n + 1, hn => cases hn
      · intro n g2 h2
        match n, h2 with
        | 0, h2 =>
          cases h2
          exact ⟨_, rfl, o1.symm, .inl ⟨hob.symm, by rw [hxl]; exact o2.symm, hgc.symm⟩⟩
        | n + 1, h2 => cases h2
end Go.W
namespace Go.Proofs.Ytbolanmlngjdoaa
open Go.W Go.Sort Go.RowKit
structure BI (x : Is) : Prop where
  k : -1000 ≤ x.k ∧ x.k ≤ 1000
  n : -1000 ≤ x.n ∧ x.n ≤ 1000
abbrev IsB := {x : Is // BI x}
instance : Inhabited IsB := ⟨⟨⟨0, 0, ByteArray.empty⟩, ⟨by decide, by decide⟩⟩⟩
def encI (x : IsB) : List Value := [.int .i64 x.1.k, .int .i64 x.1.n, .string x.1.t]
def cfI (x y : IsB) : Int := orI (Lib.compareBytes (bl x.1.t) (bl y.1.t)) (x.1.k - y.1.k) (x.1.n - y.1.n)
theorem cmpB_facts : ∀ a b : List UInt8, (Lib.compareBytes a b < 0 ↔ Op.bytesLess a b = true) ∧ (Lib.compareBytes a b = 0 ↔ a = b)
  | [], [] => by simp [Lib.compareBytes, Op.bytesLess]
  | [], _ :: _ => by simp [Lib.compareBytes, Op.bytesLess]
  | _ :: _, [] => by simp [Lib.compareBytes, Op.bytesLess]
  | x :: a, y :: b => by
    have ih := cmpB_facts a b
    unfold Lib.compareBytes Op.bytesLess
    by_cases h1 : x < y
    · have : x ≠ y := fun e => by subst e; exact UInt8.lt_irrefl _ h1
      simp [h1, this]
    · by_cases h2 : y < x
      · have : x ≠ y := fun e => by subst e; exact h1 h2
        simp [h1, h2, this]
      · have : x = y := UInt8.le_antisymm (UInt8.not_lt.1 h2) (UInt8.not_lt.1 h1)
        subst this
        simp [h1, ih.1, ih.2]
theorem ltI_of (x y : IsB) : ltOf cfI x y = ltIB x.1 y.1 := by
  obtain ⟨h1, h2⟩ := cmpB_facts (bl x.1.t) (bl y.1.t)
  rw [Bool.eq_iff_iff, ltIB_iff]
  have hb : Op.bytesLess (bl x.1.t) (bl y.1.t) = true ↔ ltS x.1.t y.1.t := by rw [bless, decide_eq_true_eq]
  have h3 := h1.trans hb
  unfold ltOf cfI orI ltI
  rw [decide_eq_true_eq, ← h3]
  by_cases c : Lib.compareBytes (bl x.1.t) (bl y.1.t) = 0
  · have e : x.1.t = y.1.t := bl_inj (h2.1 c)
    rw [c, if_neg (by simp)]
    by_cases d : x.1.k - y.1.k = 0
    · rw [d, if_neg (by simp)]; simp only [e, true_and]; omega
    · rw [if_pos d]; simp only [e, true_and]; omega
  · have e : x.1.t ≠ y.1.t := fun e => c (h2.2 (by rw [e]))
    rw [if_pos c]
    simp [e]
theorem swoI : SWO (ltOf cfI) where
  irrefl x := by
    rw [ltI_of]
    cases h : ltIB x.1 x.1 with
    | false => rfl
    | true => exact absurd (ltIB_iff.1 h) (ltI_irrefl _)
  trans x y z h1 h2 := by
    rw [ltI_of] at *
    exact ltIB_iff.2 (ltI_trans (ltIB_iff.1 h1) (ltIB_iff.1 h2))
  ntrans x y z h1 h2 := by
    rw [ltI_of] at *
    cases h : ltIB x.1 z.1 with
    | false => rfl
    | true =>
      have h := ltIB_iff.1 h
      have h1 : ¬ ltI x.1 y.1 := fun e => by rw [ltIB_iff.2 e] at h1; cases h1
      have h2 : ¬ ltI y.1 z.1 := fun e => by rw [ltIB_iff.2 e] at h2; cases h2
      by_cases e : x.1 = y.1
      · rw [e] at h; exact absurd h h2
      · exact absurd (ltI_trans (ltI_total h1 e) h) h2
noncomputable def C.is := unC isC
theorem is_dec (x : Is) : C.is (isC x) = x := unC_eq isC_inj x
def rowI (r : List C) : Prop := ∃ x : Is, r = isC x ∧ BI x
noncomputable def ltR (r s : List C) : Bool := ltIB (C.is r) (C.is s)
theorem strCmp (a b : ByteArray) (w : World) : Calls Try.prog 23 #[.string a, .string b] w fun e w' => e = .returned (.int .i64 (Lib.compareBytes a.data.toList b.data.toList)) ∧ w' = w := Any.strings_Compare Try.lays106 a b w
theorem mSortI : Meets Try.prog 20 (srSp 21 42 3 rowI ltR) := by
  refine meets_srt (α := IsB) (enc := encI) (cf := cfI) (R := fun a r => r = isC a.1) (by decide) (by kernel_rfl) (fun _ => rfl) ?_ ?_ ?_ ?_
  · rintro ro r vs ⟨x, rfl, hx⟩ h
    unfold isC at h
    obtain ⟨v0, vs0, rfl, h0, r0⟩ := All2.cons_inv h
    obtain ⟨v1, vs1, rfl, h1, r1⟩ := All2.cons_inv r0
    obtain ⟨v2, vs2, rfl, h2, r2⟩ := All2.cons_inv r1
    obtain rfl := All2.nil_inv r2
    cases h0; cases h1; cases h2
    exact ⟨⟨x, hx⟩, rfl, rfl⟩
  · rintro a r b s rfl rfl
    rw [ltI_of]; unfold ltR; rw [is_dec, is_dec]
  · intro blk cap d w hH hblk hsz
    have eg : ∀ args w, (callFunc 21 args).run Try.prog w = .ok (.enter 21 args) w := enters_of Try.func21 (by kernel_rfl) rfl
    exact AnyQ.slices_SortFunc Try.sortIs 3 Try.isAgg42 Try.sizeOf42 encI (fun _ => rfl) (fun x v hv => by simp [encI] at hv; rcases hv with rfl | rfl | rfl <;> rfl) cfI swoI 21 #[] blk 0 cap d w eg
      (fun m os dk _ x y => walkCmp strCmp _ _ _ _ _ _ x.2.k x.2.n y.2.k y.2.n _) hH hblk hsz
  · exact fun w => AnyF.slices_SortFunc_none { Try.sortIs with } none 0 _ w
theorem sr_use {l : List Is} {K : S → Hp → Prop} (hl : l.length ≤ 1000000000) (hb : ∀ x ∈ l, BI x) (hK : ∀ l' : List Is, l'.Perm l → l'.Pairwise (fun a b => ltIB b a = false) → K (.tu []) [.row (l'.map isC) 42 3]) :
    srSp 21 42 3 rowI ltR [.va (.c1 (.sl 0 l.length)), .va (.c1 (.fn 21 []))] [.row (l.map isC) 42 3] K := by
  refine ⟨l.map isC, by simp, rfl, fun r hr => ?_, by simpa using hl, fun xs' hp hs => ?_⟩
  · obtain ⟨x, hx, rfl⟩ := List.mem_map.1 hr
    exact ⟨x, rfl, hb x hx⟩
  · obtain ⟨l', rfl, h2⟩ := perm_lift hp rfl
    refine hK l' h2 ?_
    rw [List.pairwise_map] at hs
    refine hs.imp fun {a b} h => ?_
    unfold ltR at h
    rwa [is_dec, is_dec] at h
end Go.Proofs.Ytbolanmlngjdoaa
namespace Go.Proofs
open Go.Shelf
def Try.lays16_ren : Go.Shelf.Ren := ⟨fun | 16 => 35 | n => n, fun | 24 => 49 | n => n, fun | n => n⟩
theorem Try.lays16 : Go.Proofs.Lays2.n16 Try.prog Try.lays16_ren := {
  mixed := by kernel_rfl
  f16 := Try.func35.trans (congrArg some (by kernel_rfl))
  t4 := Try.underlying4
  a4 := Try.isAgg4
  z4 := Try.sizeOf4
  v4 := Try.zeroValue4
  t9 := Try.underlying9
  a9 := Try.isAgg9
  z9 := Try.sizeOf9
  v9 := Try.zeroValue9
  t24 := Try.underlying49
  a24 := Try.isAgg49
  z24 := Try.sizeOf49
  v24 := Try.zeroValue49
  i9 := by kernel_rfl }
def Try.lays15_ren : Go.Shelf.Ren := ⟨fun | 15 => 36 | n => n, fun | 22 => 55 | n => n, fun | n => n⟩
theorem Try.lays15 : Go.Proofs.Lays2.n15 Try.prog Try.lays15_ren := {
  mixed := by kernel_rfl
  f15 := Try.func36.trans (congrArg some (by kernel_rfl))
  t3 := Try.underlying3
  a3 := Try.isAgg3
  z3 := Try.sizeOf3
  v3 := Try.zeroValue3
  t4 := Try.underlying4
  a4 := Try.isAgg4
  z4 := Try.sizeOf4
  v4 := Try.zeroValue4
  t22 := Try.underlying55
  a22 := Try.isAgg55
  z22 := Try.sizeOf55
  v22 := Try.zeroValue55
  i3 := by kernel_rfl }
end Go.Proofs
namespace Go.Proofs.Ytbolanmlngjdoaa
open Go.W Go.RowKit
theorem new_any {X : Ctx} {E : Es} {ro : RO} {w w' : World} (h : Rel X E ro w) {blk : B} {g : Gb} (hb : ∀ k, k < w.heap.size → w'.heap[k]? = w.heap[k]?) (hsz : w.heap.size ≤ w'.heap.size)
    (h1 : w'.os = w.os) (h2 : w'.tape = w.tape) (h3 : w'.output = w.output) (hob : ∀ b, g.ob = some b → w.heap.size ≤ b) (hon : blk.On (gm (E ++ [(g, blk)])) ro w' g) : Rel X (E ++ [(g, blk)]) ro w' := by
  have hext : GExt (gm E) (gm (E ++ [(g, blk)])) := gext_app _
  have hget : ∀ (n : Nat) (y : Gb × B), (E ++ [(g, blk)])[n]? = some y → (n = E.length ∧ y = (g, blk)) ∨ (n < E.length ∧ E[n]? = some y) := by
    intro n y hy
    rw [List.getElem?_append] at hy
    split at hy
    · exact .inr ⟨by assumption, hy⟩
    · have : n - E.length = 0 := by
        rcases Nat.eq_zero_or_pos (n - E.length) with h0 | h0
        · exact h0
        · rw [List.getElem?_eq_none (by simp; omega)] at hy; cases hy
      rw [this] at hy
      exact .inl ⟨by omega, by simpa using hy.symm⟩
  have old : ∀ (n k : Nat) (gn : Gb) (bk : B), E[n]? = some (gn, bk) → gn.ob = some k → bk.live = true → k < w.heap.size := fun n k gn bk hy hk hl => (h.own n _ bk hy).lt hl hk
  refine ⟨fun n g' bk hy => ?_, fun n m gn gm bn bm k hy hz en em ln lm => ?_, fun k off c hc n gn bk hy en => ?_, fun k off c hc => ?_, h.ro0, h.rob, fun n k gn bk hy en ln => ?_, h.gx.trans hext, Nat.le_trans h.sz hsz, fun k hk hp => ?_, by rw [h1]; exact h.os, by rw [h2]; exact h.tape, by rw [h3]; exact h.output⟩
  · rcases hget n _ hy with ⟨rfl, he⟩ | ⟨hlt, hy'⟩
    · simp only [Prod.mk.injEq] at he; obtain ⟨rfl, rfl⟩ := he; exact hon
    · by_cases hlv : bk.live = true
      · exact (h.own n g' bk hy').same hext (Ext.refl _) fun k hk => hb k (old n k g' bk hy' hk hlv)
      · cases bk <;> simp [B.live] at hlv; trivial
  · rcases hget n _ hy with ⟨rfl, he⟩ | ⟨hlt, hy'⟩ <;> rcases hget m _ hz with ⟨rfl, he2⟩ | ⟨hlt2, hz'⟩
    · rfl
    · simp only [Prod.mk.injEq] at he; obtain ⟨rfl, rfl⟩ := he; have := old m k gm bm hz' em lm; have := hob k en; omega
    · simp only [Prod.mk.injEq] at he2; obtain ⟨rfl, rfl⟩ := he2; have := old n k gn bn hy' en ln; have := hob k em; omega
    · exact h.inj n m gn gm bn bm k hy' hz' en em ln lm
  · rcases hget n _ hy with ⟨rfl, he⟩ | ⟨hlt, hy'⟩
    · simp only [Prod.mk.injEq] at he; obtain ⟨rfl, rfl⟩ := he; have := h.cell_lt hc; have := hob k en; omega
    · exact h.apart k off c hc n gn bk hy' en
  · have := h.rd k off c hc
    rw [← this]
    simp only [World.cell?, hb k (h.cell_lt hc)]
  · rcases hget n _ hy with ⟨rfl, he⟩ | ⟨hlt, hy'⟩
    · simp only [Prod.mk.injEq] at he; obtain ⟨rfl, rfl⟩ := he; have := hob k en; have := h.sz; exact .inl (by omega)
    · exact h.par n k gn bk hy' en ln
  · rw [hb k (by have := h.sz; omega)]
    exact h.keep k hk hp
theorem row_any {X : Ctx} {ro : RO} {w w' : World} (h : Rel X [] ro w) (hX : X.g0.length = 0) {T : TypeId} {v : Value} {cs : List Value} (hne : cs ≠ []) (_hone : ∀ u ∈ cs, u.oneCell' = true) (ho : w'.ownsRow w.heap.size T 1 v cs.length cs) (hb : Below w.heap.size w w') {K : S → Hp → Prop} (hK : K (.va (.c1 (.fz (cs.map fun u => [C.vl u])))) []) :
    ∃ r' E' ro', K r' (hp E') ∧ r'.rel (gm E') ro' v ∧ Rel X E' ro' w' := by
  have hlen : 0 < cs.length := List.length_pos_iff.2 hne
  obtain ⟨h1, h2⟩ := ho
  rcases h2 with ⟨_, h0⟩ | ⟨b, cap, cur, rfl, hbb, hcell, hcap, hmax, hcs, htk⟩
  · omega
  have hfl : (cs.map fun u => [C.vl u]).flatten = cs.map C.vl := by
    clear h1 hlen hcap htk hK hne _hone
    induction cs with
    | nil => rfl
    | cons x l ih => rw [List.map_cons, List.flatten_cons, ih]; rfl
  let g : Gb := ⟨some b, true, cs.length, cap, T, cs⟩
  have hR : Rel X ([] ++ [(g, .row (cs.map fun u => [C.vl u]) T 1)]) ro w' := by
    refine new_any h (fun k hk => hb.block k hk) hb.size hb.os hb.tape hb.output (fun b' hb' => by cases hb'; exact hbb) ⟨rfl, by simp [g], fun x hx => ?_, fun c hc => ?_, ⟨by simp [g], .inr ⟨b, cap, cur, ?_, Nat.zero_le _, hcell, by simp; exact hcap, hmax, hcs, ?_⟩⟩, ?_, fun b' _ => (by show 0 < cap; omega)⟩
    · obtain ⟨y, _, rfl⟩ := List.mem_map.1 hx; rfl
    · rw [hfl] at hc; obtain ⟨y, _, rfl⟩ := List.mem_map.1 hc; rfl
    · simp [obA, g]
    · rw [List.length_map]; exact htk
    · rw [hfl]
      refine ⟨by simp [g], fun i x y hx hy => ?_⟩
      rw [List.getElem?_map] at hx
      have hy : cs[i]? = some y := hy
      rw [hy] at hx
      cases hx; rfl
  refine fin_sound (X := X) (k0 := 0) hX (r := .va (.c1 (.sl 0 (cs.map fun u => [C.vl u]).length))) (.pub 0 _ T 1 (by rfl) (.sel [] (by simp) (by simp [pubH]) rfl (.done ?_))) rfl ?_ hR
  · simp -dsimp only [go_sem, pubH]; simpa using hK
  · refine ⟨g, rfl, rfl, by simp [g], ⟨_, _, _, rfl⟩, fun _ => ?_⟩
    simp [g, obA]
theorem empty_any {X : Ctx} {ro : RO} {w w' : World} (h : Rel X [] ro w) {o : Option Addr} {c : Nat} (hb : Below w.heap.size w w') {K : S → Hp → Prop} (hK : K (.va (.c1 (.fz []))) []) :
    ∃ r' E' ro', K r' (hp E') ∧ r'.rel (gm E') ro' (.slice o 0 c) ∧ Rel X E' ro' w' :=
  ⟨.va (.c1 (.fz [])), [], ro, hK, FzR.mk (ro := ro) [] 1 none o (fun h => absurd rfl h) c (fun _ => undef) (by simp) (Nat.zero_le _) (by simp) (by simp) (by simp) (by simp) (by simp), h.aside (fun k hk => hb.block k hk) hb.size hb.os hb.tape hb.output⟩
def clSSp : W.Spec := fun av H K => ∃ l : List ByteArray, av = [.va (.c1 (.fz (l.map stR)))] ∧ H = [] ∧ l.length ≤ 1000000000 ∧ K (.va (.c1 (.fz (l.map stR)))) []
theorem clS_use {l : List ByteArray} {K : S → Hp → Prop} (h : l.length ≤ 1000000000) (hK : K (.va (.c1 (.fz (l.map stR)))) []) : clSSp [.va (.c1 (.fz (l.map stR)))] [] K := ⟨l, rfl, rfl, h, hK⟩
theorem clS_flat (l : List ByteArray) : (l.map stR).flatten = (l.map Value.string).map C.vl := by
  induction l with
  | nil => rfl
  | cons x l ih => rw [List.map_cons, List.flatten_cons, ih]; rfl
theorem clS_rows (l : List ByteArray) : (l.map Value.string).map (fun u => [C.vl u]) = l.map stR := by rw [List.map_map]; rfl
theorem mclS : Meets Try.prog 35 clSSp := by
  refine ⟨by kernel_rfl, fun av vs E ro w K hlen hrel hR hs => ?_⟩
  obtain ⟨l, rfl, hH, hl, hK⟩ := hs
  match E, hH with
  | [], _ =>
    match vs, hlen with
    | [v0], _ =>
      have r0 : FzR ro (l.map stR) v0 := hrel 0 _ _ rfl rfl
      cases hl0 : l with
      | nil =>
        subst hl0
        generalize hx : ([] : List ByteArray).map stR = xs at r0
        cases r0 with
        | mk xs sz o oa hoa cap us hz hc ho h1 h2 h3 h4 =>
          subst hx
          have hK : K (.va (.c1 (.fz []))) [] := hK
          cases oa with
          | none =>
            refine (Any.slices_Clone_string_nil Try.lays16 0 cap w).mono ?_
            rintro e w' ⟨rfl, rfl⟩
            obtain ⟨r', E', ro', a1, a2, a3⟩ := empty_any (o := none) (c := 0) hR (Below.refl _ _) hK
            exact ⟨r', _, E', ro', rfl, a2, a1, a3⟩
          | some a =>
            refine (Any.slices_Clone_string_zero Try.lays16 a cap w).mono ?_
            rintro e w' ⟨v', rfl, hown, _, hb⟩
            obtain ⟨o', c', rfl⟩ : ∃ o' c', v' = .slice o' 0 c' := by
              rcases hown.2 with ⟨rfl, _⟩ | ⟨b, c', cur, rfl, _⟩
              · exact ⟨none, 0, rfl⟩
              · exact ⟨_, c', rfl⟩
            obtain ⟨r', E', ro', a1, a2, a3⟩ := empty_any (o := o') (c := c') hR hb hK
            exact ⟨r', _, E', ro', rfl, a2, a1, a3⟩
      | cons x0 lt =>
        have hne : l ≠ [] := by rw [hl0]; exact List.cons_ne_nil _ _
        clear hl0
        generalize hx : l.map stR = xs at r0
        cases r0 with
        | mk xs sz o oa hoa cap us hz hc ho h1 h2 h3 h4 =>
          subst hx
          have hne2 : l.map stR ≠ [] := by simpa using hne
          obtain ⟨⟨b, off⟩, rfl⟩ := Option.isSome_iff_exists.1 (ho hne2)
          obtain rfl := hoa hne2
          have hcell : ∀ j, j < l.length → w.cell? ⟨b, off + j, none⟩ = some (Value.string (l.getD j ByteArray.empty)) := fun j hj => by
            have hf : (l.map stR).flatten[j]? = some (.vl (Value.string (l.getD j ByteArray.empty))) := by
              rw [clS_flat, List.getElem?_map, List.getElem?_map, List.getElem?_eq_getElem hj]
              simp [hj]
            have e1 := h1 j _ hf
            have e2 := h2 j _ hf
            rw [e2] at e1
            exact hR.rd b (off + j) _ e1
          have key := Any.slices_Clone_string Try.lays16 b off l.length cap l w (Nat.le_refl _) (by omega) hcell
          rw [List.take_length] at key
          rw [List.length_map]
          refine key.mono ?_
          rintro e w' ⟨v', rfl, hown, _, hb⟩
          rw [← List.length_map (f := Value.string)] at hown
          obtain ⟨r', E', ro', a1, a2, a3⟩ := row_any hR rfl (cs := l.map Value.string) (by simpa using hne) (fun u hu => by obtain ⟨y, _, rfl⟩ := List.mem_map.1 hu; rfl) hown hb (by rw [clS_rows]; exact hK)
          exact ⟨r', _, E', ro', rfl, a2, a1, a3⟩
def clISp : W.Spec := fun av H K => ∃ l : List Int, av = [.va (.c1 (.fz (l.map inR)))] ∧ H = [] ∧ l.length ≤ 1000000000 ∧ K (.va (.c1 (.fz (l.map inR)))) []
theorem clI_use {l : List Int} {K : S → Hp → Prop} (h : l.length ≤ 1000000000) (hK : K (.va (.c1 (.fz (l.map inR)))) []) : clISp [.va (.c1 (.fz (l.map inR)))] [] K := ⟨l, rfl, rfl, h, hK⟩
theorem clI_flat (l : List Int) : (l.map inR).flatten = (l.map (Value.int .i64)).map C.vl := by
  induction l with
  | nil => rfl
  | cons x l ih => rw [List.map_cons, List.flatten_cons, ih]; rfl
theorem clI_rows (l : List Int) : (l.map (Value.int .i64)).map (fun u => [C.vl u]) = l.map inR := by rw [List.map_map]; rfl
theorem mclI : Meets Try.prog 36 clISp := by
  refine ⟨by kernel_rfl, fun av vs E ro w K hlen hrel hR hs => ?_⟩
  obtain ⟨l, rfl, hH, hl, hK⟩ := hs
  match E, hH with
  | [], _ =>
    match vs, hlen with
    | [v0], _ =>
      have r0 : FzR ro (l.map inR) v0 := hrel 0 _ _ rfl rfl
      cases hl0 : l with
      | nil =>
        subst hl0
        generalize hx : ([] : List Int).map inR = xs at r0
        cases r0 with
        | mk xs sz o oa hoa cap us hz hc ho h1 h2 h3 h4 =>
          subst hx
          have hK : K (.va (.c1 (.fz []))) [] := hK
          cases oa with
          | none =>
            refine (Any.slices_Clone_int_nil Try.lays15 0 cap w).mono ?_
            rintro e w' ⟨rfl, rfl⟩
            obtain ⟨r', E', ro', a1, a2, a3⟩ := empty_any (o := none) (c := 0) hR (Below.refl _ _) hK
            exact ⟨r', _, E', ro', rfl, a2, a1, a3⟩
          | some a =>
            refine (Any.slices_Clone_int_zero Try.lays15 a cap w).mono ?_
            rintro e w' ⟨v', rfl, hown, _, hb⟩
            obtain ⟨o', c', rfl⟩ : ∃ o' c', v' = .slice o' 0 c' := by
              rcases hown.2 with ⟨rfl, _⟩ | ⟨b, c', cur, rfl, _⟩
              · exact ⟨none, 0, rfl⟩
              · exact ⟨_, c', rfl⟩
            obtain ⟨r', E', ro', a1, a2, a3⟩ := empty_any (o := o') (c := c') hR hb hK
            exact ⟨r', _, E', ro', rfl, a2, a1, a3⟩
      | cons x0 lt =>
        have hne : l ≠ [] := by rw [hl0]; exact List.cons_ne_nil _ _
        clear hl0
        generalize hx : l.map inR = xs at r0
        cases r0 with
        | mk xs sz o oa hoa cap us hz hc ho h1 h2 h3 h4 =>
          subst hx
          have hne2 : l.map inR ≠ [] := by simpa using hne
          obtain ⟨⟨b, off⟩, rfl⟩ := Option.isSome_iff_exists.1 (ho hne2)
          obtain rfl := hoa hne2
          have hcell : ∀ j, j < l.length → w.cell? ⟨b, off + j, none⟩ = some (Value.int .i64 (l.getD j 0)) := fun j hj => by
            have hf : (l.map inR).flatten[j]? = some (.vl (Value.int .i64 (l.getD j 0))) := by
              rw [clI_flat, List.getElem?_map, List.getElem?_map, List.getElem?_eq_getElem hj]
              simp [hj]
            have e1 := h1 j _ hf
            have e2 := h2 j _ hf
            rw [e2] at e1
            exact hR.rd b (off + j) _ e1
          have key := Any.slices_Clone_int Try.lays15 b off l.length cap l w (Nat.le_refl _) (by omega) hcell
          rw [List.take_length] at key
          rw [List.length_map]
          refine key.mono ?_
          rintro e w' ⟨v', rfl, hown, _, hb⟩
          rw [← List.length_map (f := (Value.int .i64))] at hown
          obtain ⟨r', E', ro', a1, a2, a3⟩ := row_any hR rfl (cs := l.map (Value.int .i64)) (by simpa using hne) (fun u hu => by obtain ⟨y, _, rfl⟩ := List.mem_map.1 hu; rfl) hown hb (by rw [clI_rows]; exact hK)
          exact ⟨r', _, E', ro', rfl, a2, a1, a3⟩
end Go.Proofs.Ytbolanmlngjdoaa
namespace Go.Proofs.Ytbolanmlngjdoaa
open Go.W
set_option maxRecDepth 100000 in
theorem mEnumP : Meets Try.prog 18 enSpP := by
  refine meets_fn Try.func18 ok18 2 (by rw [Try.ntmps18]; decide) (meetsAll_s mclS (meetsAll_s mclI (meetsAll_nil _))) (fun av H K h => by obtain ⟨_, _, rfl, _⟩ := h; rfl) ?_
  rintro av H K ⟨s, n, rfl, rfl, hs, hK⟩
  rw [← fEn_has] at hK
  have hl := hs.ok.le
  simp -dsimp only [go_sem, scC, pc18, rs18]
  refine vc_loop (α := Nat) (fun i => [(1, tS n), (2, .va (.c1 (.pt 0 0))), (4, .va (.c1 (.pt 1 0))), (9, .va (.c1 (.fz (s.es.map enC)))), (10, iS .i64 s.es.length), (11, iS .i64 i)]) (fun _ => [.cells (scC s) 37, .cells [.vl (.string (mk [])), .vl (.slice none 0 0), .vl (.slice none 0 0)] 57])
    (fun i => i ≤ s.es.length ∧ fEn (s.es.drop i) n = fEn s.es n) (fun i => s.es.length - i) 0 2 ⟨Nat.zero_le _, rfl⟩ ?_ ?_ ?_
  · simp [go_sem]
  · simp [go_sem, scC]
  rintro i ⟨hi, ho⟩
  rcases Nat.lt_or_ge i s.es.length with hlt | hge
  · have hg : decide ((i : Int) < (s.es.length : Int)) = true := by simp; omega
    obtain ⟨t, hx⟩ : ∃ e, s.es[i]? = some e := ⟨_, List.getElem?_eq_getElem hlt⟩
    have q2 := row_rg' (row := enC) hx
    have htm := List.mem_of_getElem? hx
    rw [fEn, fnd_step hx] at ho
    cases hc : decide (t.nm = n) with
    | true =>
      rw [hc, Bool.cond_true] at ho
      rw [← ho] at hK
      simp (maxSteps := 1000000) -dsimp only [go_sem, hg, ↓q2, enC, scC, bl_beq, hc]
      refine ⟨by omega, clS_use (hs.en t htm).1 ?_⟩
      simp (maxSteps := 1000000) -dsimp only [go_sem]
      refine clI_use (hs.en t htm).2 ?_
      simp (maxSteps := 1000000) -dsimp only [go_sem]
      exact .sel [] (by simp) (by simp) rfl (.done (by simpa [go_sem, enC] using hK))
    | false =>
      rw [hc, Bool.cond_false] at ho
      simp (maxSteps := 1000000) -dsimp only [go_sem, hg, ↓q2, enC, scC, bl_beq, hc]
      refine ⟨by omega, by omega, loop_next (i + 1) 2 ⟨by omega, ho⟩ (by omega) ?_ ?_⟩
      · simp [go_sem]
      · simp [go_sem, scC]
  · have hg : decide ((i : Int) < (s.es.length : Int)) = false := by simp; omega
    obtain rfl : i = s.es.length := by omega
    rw [List.drop_length] at ho
    rw [← ho] at hK
    simp -dsimp only [go_sem, hg, scC]
    exact .sel [] (by simp) (by simp) rfl (.done (by simpa [go_sem, fEn, enC_def] using hK))
end Go.Proofs.Ytbolanmlngjdoaa
namespace Go.Proofs.Ytbolanmlngjdoaa
open Go.W
theorem raw_BI {o n : Sc} (ho : o.fit) (hn : n.fit) (c1 : checkF o = 0) (c2 : checkF n = 0) (x : ByteArray) : ∀ z ∈ rawI o n x, BI z := by
  intro z hz
  unfold rawI at hz
  obtain ⟨y, _, hy⟩ := List.mem_flatMap.1 hz
  unfold cmpN at hy
  cases h1 : hasS o.ss y != hasS n.ss y with
  | true =>
    rw [h1] at hy
    obtain rfl : z = ⟨5, 0, y⟩ := by simpa using hy
    exact ⟨by dsimp only; omega, by dsimp only; omega⟩
  | false =>
    rw [h1, Bool.cond_false, List.mem_append] at hy
    rcases hy with hy | hy
    · cases h2 : hasS o.ss y with
      | false => rw [h2] at hy; cases hy
      | true =>
        have h3 : hasS n.ss y = true := by rw [h2] at h1; simpa using h1
        obtain ⟨t, e1, _, _, _, e3⟩ := str_good ho c1 h2
        obtain ⟨u, e4, _, _, _, e5⟩ := str_good hn c2 h3
        rw [h2, e1, e4] at hy
        simp only [Bool.cond_true, Option.getD_some, cmpS, List.mem_append, List.mem_flatMap] at hy
        rcases hy with ⟨f, hf, hy⟩ | ⟨f, hf, hy⟩
        · have hb := (e3 f hf).1
          have : z.n = f.num ∧ 1 ≤ z.k ∧ z.k ≤ 3 := by
            unfold isA at hy
            split at hy
            · cases ho' : f.opt <;> rw [ho'] at hy
              · obtain rfl := List.mem_singleton.1 hy; exact ⟨rfl, by dsimp only; omega, by dsimp only; omega⟩
              · cases hy
            · rename_i g _
              rcases List.mem_append.1 hy with hy | hy
              · cases hw : widF f.ty g.ty <;> rw [hw] at hy
                · obtain rfl := List.mem_singleton.1 hy; exact ⟨rfl, by dsimp only; omega, by dsimp only; omega⟩
                · cases hy
              · cases hw : f.opt == g.opt <;> rw [hw] at hy
                · obtain rfl := List.mem_singleton.1 hy; exact ⟨rfl, by dsimp only; omega, by dsimp only; omega⟩
                · cases hy
          exact ⟨by omega, by omega⟩
        · have hb := (e5 f hf).1
          unfold isB at hy
          cases hw : (fF t.fs f.num).isNone && !f.opt <;> rw [hw] at hy
          · cases hy
          · obtain rfl := List.mem_singleton.1 hy
            exact ⟨by dsimp only; omega, by show -1000 ≤ f.num ∧ f.num ≤ 1000; omega⟩
    · cases h2 : hasE o.es y && hasE n.es y with
      | false => rw [h2] at hy; cases hy
      | true =>
        rw [h2, Bool.cond_true, cmpE, cmpV, List.mem_map] at hy
        obtain ⟨v, hv, rfl⟩ := hy
        have hv := (List.mem_filter.1 hv).1
        refine ⟨by show -1000 ≤ (4 : Int) ∧ (4 : Int) ≤ 1000; omega, ?_⟩
        show -1000 ≤ v ∧ v ≤ 1000
        cases hf : fEn o.es y with
        | none => rw [hf] at hv; cases hv
        | some e =>
          rw [hf] at hv
          have := enu_vs ho c1 hf v hv
          omega
theorem stG_of {s : Sc} (hf : s.fit) (h : checkF s = 0) (n : ByteArray) : StG ((fS s.ss n).getD default) := by
  cases hs : fS s.ss n with
  | none => exact ⟨⟨by decide, by decide, fun _ h => (List.not_mem_nil h).elim⟩, by decide, fun _ h => (List.not_mem_nil h).elim⟩
  | some t =>
    have hh : hasS s.ss n = true := by rw [← fS_has, hs]; rfl
    obtain ⟨u, e1, e2, _, e3, _⟩ := str_good hf h hh
    rw [e1] at hs
    cases hs
    exact ⟨hf.ok.ss t e2, by show t.fs.length ≤ 1000; omega, (hf.sm t e2).2⟩
theorem enL_of {s : Sc} (hf : s.fit) (h : checkF s = 0) (n : ByteArray) : ((fEn s.es n).getD default).vs.length ≤ 16 := by
  cases hs : fEn s.es n with
  | none => exact Nat.zero_le _
  | some e => have := enu_good hf h hs; show e.vs.length ≤ 16; omega
theorem cmpV_len (nm : ByteArray) (vs : List Int) (e : En) : (cmpV nm vs e).length ≤ vs.length := by
  unfold cmpV; rw [List.length_map]; exact List.length_filter_le _ _
theorem cmpN_len {o n : Sc} (ho : o.fit) (hn : n.fit) (c1 : checkF o = 0) (c2 : checkF n = 0) (y : ByteArray) : (cmpN o n y).length ≤ 4000 := by
  unfold cmpN
  cases hasS o.ss y != hasS n.ss y with
  | true => simp
  | false =>
    have g1 := (stG_of ho c1 y).len
    have g2 := (stG_of hn c2 y).len
    have h1 := fm_le (f := isA y ((fS n.ss y).getD default)) (l := ((fS o.ss y).getD default).fs) fun a _ => isA_len y _ a
    have h2 := fm_le (f := isB y ((fS o.ss y).getD default)) (l := ((fS n.ss y).getD default).fs) fun a _ => isB_len y _ a
    have h3 := enL_of ho c1 y
    have h4 := cmpV_len y ((fEn o.es y).getD default).vs ((fEn n.es y).getD default)
    rw [Bool.cond_false, List.length_append]
    cases hasS o.ss y <;> cases (hasE o.es y && hasE n.es y) <;> simp only [Bool.cond_true, Bool.cond_false, cmpS, cmpE, List.length_append, List.length_nil] <;> omega
theorem cmpV_next {vs : List Int} {j : Nat} {v : Int} (h : vs[j]? = some v) (nm : ByteArray) (e : En) : cmpV nm (vs.take (j + 1)) e = cmpV nm (vs.take j) e ++ (bif inI e.vs v then [] else [⟨4, v, nm⟩]) := by
  have hI : inI e.vs v = e.vs.any (fun w => decide (v = w)) := rfl
  unfold cmpV
  rw [take_next h, List.filter_append, List.map_append, hI]
  cases hh : e.vs.any (fun w => decide (v = w)) with
  | true => rw [List.filter_cons_of_neg (by rw [hh]; simp)]; rfl
  | false => rw [List.filter_cons_of_pos (by rw [hh]; rfl)]; rfl
theorem cmpV_nil (nm : ByteArray) (e : En) : cmpV nm [] e = [] := rfl
theorem bif_nil {b : Bool} : (bif b then ([] : List Is) else []) = [] := by cases b <;> rfl
def iuSp : W.Spec := fun av H K => ∃ (o n : Sc) (x : ByteArray), av = [.va (.gs (scC o)), .va (.gs (scC n)), tS x] ∧ H = [] ∧ o.fit ∧ n.fit ∧ K (.va (.c1 (.fz ((issF o n x).map isC)))) []
theorem iu_use {o n : Sc} {x : ByteArray} {K : S → Hp → Prop} (h1 : o.fit) (h2 : n.fit) (hK : K (.va (.c1 (.fz ((issF o n x).map isC)))) []) : iuSp [.va (.gs (scC o)), .va (.gs (scC n)), tS x] [] K := ⟨o, n, x, rfl, rfl, h1, h2, hK⟩
end Go.Proofs.Ytbolanmlngjdoaa
namespace Go.Proofs.Ytbolanmlngjdoaa
open Go.W
set_option maxRecDepth 100000 in
set_option maxHeartbeats 8000000 in
theorem mIssues : Meets Try.prog 8 iuSp := by
  refine meets_fn Try.func8 ok8 3 (by rw [Try.ntmps8]; decide) (meetsAll_f mCheck (meetsAll_s mNamesE (meetsAll_s mStructP (meetsAll_s mEnumP (meetsAll_s mAdd (meetsAll_s mStructs (meetsAll_f mContainsI (meetsAll_s mSortI (meetsAll_nil _)))))))))
    (fun av H K h => by obtain ⟨_, _, _, rfl, _⟩ := h; rfl) ?_
  rintro av H K ⟨o, n, x, rfl, rfl, ho, hn, hK⟩
  have hso := isScF_mk ho
  have hsn := isScF_mk hn
  have hdo := sc_dec o
  have hdn := sc_dec n
  rw [scC] at hso hsn hdo hdn
  have fin : ∀ (l : List Is) (R : Hp), issF o n x = l → W.Fin 0 K (.va (.c1 (.fz (l.map isC)))) R := fun l R h1 => by
    rw [h1] at hK
    exact .sel [] (by simp) (by simp) rfl (.done (by simpa [go_sem] using hK))
  by_cases c1 : checkF o = 0
  rotate_left
  · have e1 : (checkF o != 0) = true := by simpa using c1
    simp (maxSteps := 1000000) -dsimp only [go_sem, scC, pc8, rs8, hso, hsn, hdo, hdn, e1]
    exact fin [] _ (by unfold issF; rw [e1]; rfl)
  have e1 : (checkF o != 0) = false := by simp [c1]
  by_cases c2 : checkF n = 0
  rotate_left
  · have e2 : (checkF n != 0) = true := by simpa using c2
    simp (maxSteps := 1000000) -dsimp only [go_sem, scC, pc8, rs8, hso, hsn, hdo, hdn, e1, e2]
    exact fin [] _ (by unfold issF; rw [e1, e2]; rfl)
  have e2 : (checkF n != 0) = false := by simp [c2]
  have hiss : issF o n x = putA [] (rawI o n x) := by unfold issF; rw [e1, e2]; rfl
  have hlen : (nmsF o n x).length ≤ 33 := by
    unfold nmsF
    have h1 := List.length_filter_le (inB (usL n x)) (usL o x)
    have h2 := usL_len ho x
    rw [List.length_cons]; omega
  simp (maxSteps := 1000000) -dsimp only [go_sem, scC, pc8, rs8, hso, hsn, hdo, hdn, e1, e2]
  refine nm_use ho hn ?_
  have hbd : ∀ i, (addA [] (((nmsF o n x).take i).flatMap (cmpN o n))).length ≤ 140000 := fun i => by
    have h1 := addA_len (((nmsF o n x).take i).flatMap (cmpN o n)) []
    have h2 := fm_le (f := cmpN o n) (l := (nmsF o n x).take i) fun y _ => cmpN_len ho hn c1 c2 y
    have h3 : ((nmsF o n x).take i).length ≤ 33 := by rw [List.length_take]; omega
    have h4 := Nat.mul_le_mul_right 4000 h3
    simp only [List.length_nil] at h1
    omega
  have hraw : rawI o n x = (nmsF o n x).flatMap (cmpN o n) := rfl
  have hBI : ∀ z ∈ addA [] (rawI o n x), BI z := fun z hz => by
    rw [addA_mem] at hz
    rcases hz with hz | hz
    · cases hz
    · exact raw_BI ho hn c1 c2 x z hz
  generalize hns : nmsF o n x = ns at *
  simp (maxSteps := 1000000) -dsimp only [go_sem]
  refine vc_loop_gh (α := Nat) (fun i => [(3, .va (.c1 (.pt 0 0))), (4, .va (.c1 (.pt 1 0))), (7, .va (.c1 (.pt 2 0))), (33, .va (.c1 (.fz (ns.map stR)))), (34, iS .i64 ns.length), (35, iS .i64 i)]) (fun i => [.cells (scC o) 37, .cells (scC n) 37, .cells [.sl 3 (addA [] ((ns.take i).flatMap (cmpN o n))).length] 48, .row ((addA [] ((ns.take i).flatMap (cmpN o n))).map isC) 42 3])
    (fun i => i ≤ ns.length) (fun i => ns.length - i) (.nilc 2 0 42 3 [.vl (.slice none 0 0)] 48 rfl rfl (gh_at 0 4 (Nat.zero_le _) ?_ ?_)) ?_
  · simp -dsimp only [go_sem] <;> simp
  · simp -dsimp only [go_sem, scC] <;> simp [addA]
  intro i hi
  have hbi := hbd i
  rcases Nat.lt_or_ge i ns.length with hlt | hge
  · have hg : decide ((i : Int) < (ns.length : Int)) = true := by simp; omega
    obtain ⟨y, hx⟩ : ∃ t, ns[i]? = some t := ⟨_, List.getElem?_eq_getElem hlt⟩
    have q1 := row_rg' (row := stR) hx
    have hnx : addA [] ((ns.take (i + 1)).flatMap (cmpN o n)) = addA (addA [] ((ns.take i).flatMap (cmpN o n))) (cmpN o n y) := by rw [fm_next hx, addA_app]
    clear hns hraw hBI hiss hbd
    generalize hL : addA [] ((ns.take i).flatMap (cmpN o n)) = L0 at *
    have ga := stG_of ho c1 y
    have gb := stG_of hn c2 y
    have hdl := enL_of ho c1 y
    have hel := enL_of hn c2 y
    have hcN : cmpN o n y = bif hasS o.ss y != hasS n.ss y then [⟨5, 0, y⟩] else (bif hasS o.ss y then cmpS y ((fS o.ss y).getD default) ((fS n.ss y).getD default) else []) ++ (bif hasE o.es y && hasE n.es y then cmpV y ((fEn o.es y).getD default).vs ((fEn n.es y).getD default) else []) := rfl
    rw [hcN] at hnx
    clear hcN
    generalize hd : (fEn o.es y).getD default = d at *
    generalize he : (fEn n.es y).getD default = e at *
    simp (maxSteps := 1000000) -dsimp only [go_sem, hg, ↓q1, scC]
    refine ⟨by omega, stp_use (s := o) ho ?_⟩
    generalize (fS o.ss y).getD default = a at *
    simp (maxSteps := 1000000) -dsimp only [go_sem, stC]
    refine stp_use (s := n) hn ?_
    generalize (fS n.ss y).getD default = b at *
    cases s1 : hasS o.ss y with
    | true =>
      cases s2 : hasS n.ss y with
      | true =>
        rw [s1, s2] at hnx
        simp only [bne_self_eq_false, Bool.cond_false, Bool.cond_true, addA_app] at hnx
        simp (maxSteps := 1000000) -dsimp only [go_sem, stC]
        refine ius_use (l := L0) ga gb (by omega) ?_
        simp (maxSteps := 1000000) -dsimp only [go_sem]
        have hbL : (addA L0 (cmpS y a b)).length ≤ 150000 := by
          have h1 := addA_len (cmpS y a b) L0
          have h2 := fm_le (f := isA y b) (l := a.fs) fun f _ => isA_len y _ f
          have h3 := fm_le (f := isB y a) (l := b.fs) fun f _ => isB_len y _ f
          have := ga.len
          have := gb.len
          unfold cmpS at h1 ⊢
          rw [List.length_append] at h1
          omega
        refine vc_tail (up := [(3, .va (.c1 (.pt 0 0))), (4, .va (.c1 (.pt 1 0))), (7, .va (.c1 (.pt 2 0))), (9, tS y), (33, .va (.c1 (.fz (ns.map stR)))), (34, iS .i64 ns.length), (35, iS .i64 i)]) (Hs := [.cells (scC o) 37, .cells (scC n) 37, .cells [.sl 3 (addA L0 (cmpS y a b)).length] 48, .row ((addA L0 (cmpS y a b)).map isC) 42 3]) 4 ?_ ?_ ?_
        rotate_left
        · simp -dsimp only [go_sem] <;> simp
        · simp -dsimp only [go_sem, scC] <;> simp
        generalize addA L0 (cmpS y a b) = L at *
        simp (maxSteps := 1000000) -dsimp only [go_sem, scC, pc8_13]
        refine enp_use (s := o) ho ?_
        rw [show (fEn o.es y).getD default = d from hd]
        simp (maxSteps := 1000000) -dsimp only [go_sem, enC]
        refine enp_use (s := n) hn ?_
        rw [show (fEn n.es y).getD default = e from he]
        simp (maxSteps := 1000000) -dsimp only [go_sem, enC]
        have hii : isIs (e.vs.map inR) := isIs_mk (by omega)
        have dii := it_map e.vs
        generalize hasE o.es y = p at *
        generalize hasE n.es y = q at *
        have hbj : ∀ j, (addA L (bif p && q then cmpV y (d.vs.take j) e else [])).length ≤ 160000 := fun j => by
          have h1 := addA_len (bif p && q then cmpV y (d.vs.take j) e else []) L
          have h2 := cmpV_len y (d.vs.take j) e
          rw [List.length_take] at h2
          have h3 : (bif p && q then cmpV y (d.vs.take j) e else []).length ≤ 16 := by cases p && q <;> simp only [Bool.cond_true, Bool.cond_false, List.length_nil] <;> omega
          omega
        refine vc_loop (α := Nat) (fun j => [(3, .va (.c1 (.pt 0 0))), (4, .va (.c1 (.pt 1 0))), (7, .va (.c1 (.pt 2 0))), (9, tS y), (15, bS p), (16, .va (.c1 (.pt 5 0))), (17, bS q), (33, .va (.c1 (.fz (ns.map stR)))), (34, iS .i64 ns.length), (35, iS .i64 i), (78, .va (.c1 (.fz (d.vs.map inR)))), (79, iS .i64 d.vs.length), (80, iS .i64 j)])
          (fun j => [.cells (scC o) 37, .cells (scC n) 37, .cells [.sl 3 (addA L (bif p && q then cmpV y (d.vs.take j) e else [])).length] 48, .row ((addA L (bif p && q then cmpV y (d.vs.take j) e else [])).map isC) 42 3, .cells (enC d) 57, .cells (enC e) 57])
          (fun j => j ≤ d.vs.length) (fun j => d.vs.length - j) 0 6 (Nat.zero_le _) ?_ ?_ ?_
        · simp -dsimp only [go_sem] <;> simp
        · simp -dsimp only [go_sem, scC, enC, List.take_zero, cmpV_nil, bif_nil, addA_nil] <;> simp
        intro j hj
        have hbjj := hbj j
        rcases Nat.lt_or_ge j d.vs.length with hltj | hgej
        · have hgj : decide ((j : Int) < (d.vs.length : Int)) = true := by simp; omega
          obtain ⟨v, hv⟩ : ∃ t, d.vs[j]? = some t := ⟨_, List.getElem?_eq_getElem hltj⟩
          have q3 := row_rg' (row := inR) hv
          have hcn := cmpV_next hv y e
          cases p with
          | false =>
            simp only [Bool.false_and, Bool.cond_false, addA_nil] at hbjj ⊢
            simp (maxSteps := 1000000) -dsimp only [go_sem, hgj, ↓q3, scC, enC]
            refine ⟨by omega, by omega, loop_next (j + 1) 6 (by omega) (by omega) ?_ ?_⟩
            · simp -dsimp only [go_sem] <;> simp
            · simp -dsimp only [go_sem, scC, enC] <;> simp
          | true =>
          cases q with
          | false =>
            simp only [Bool.and_false, Bool.cond_false, addA_nil] at hbjj ⊢
            simp (maxSteps := 1000000) -dsimp only [go_sem, hgj, ↓q3, scC, enC]
            refine ⟨by omega, by omega, loop_next (j + 1) 6 (by omega) (by omega) ?_ ?_⟩
            · simp -dsimp only [go_sem] <;> simp
            · simp -dsimp only [go_sem, scC, enC] <;> simp
          | true =>
            simp only [Bool.and_self, Bool.cond_true] at hbjj ⊢
            have hjn : addA L (cmpV y (d.vs.take (j + 1)) e) = addA (addA L (cmpV y (d.vs.take j) e)) (bif inI e.vs v then [] else [⟨4, v, y⟩]) := by rw [hcn, addA_app]
            generalize hM : addA L (cmpV y (d.vs.take j) e) = M at *
            cases hc : inI e.vs v with
            | true =>
              rw [hc, Bool.cond_true, addA_nil] at hjn
              simp (maxSteps := 1000000) -dsimp only [go_sem, hgj, ↓q3, scC, enC, hii, dii, hc]
              refine ⟨by omega, by omega, loop_next (j + 1) 6 (by omega) (by omega) ?_ ?_⟩
              · simp -dsimp only [go_sem] <;> simp
              · simp -dsimp only [go_sem, scC, enC, hjn] <;> simp
            | false =>
              rw [hc, Bool.cond_false, addA_one] at hjn
              simp (maxSteps := 1000000) -dsimp only [go_sem, hgj, ↓q3, scC, enC, hii, dii, hc]
              refine ⟨by omega, ad_use (l := M) (by omega) ?_⟩
              simp (maxSteps := 1000000) -dsimp only [go_sem]
              refine ⟨by omega, loop_next (j + 1) 6 (by omega) (by omega) ?_ ?_⟩
              · simp -dsimp only [go_sem] <;> simp
              · simp -dsimp only [go_sem, scC, enC, hjn] <;> simp
        · have hgj : decide ((j : Int) < (d.vs.length : Int)) = false := by simp; omega
          obtain rfl : j = d.vs.length := by omega
          simp only [List.take_length]
          rw [← hnx]
          simp (maxSteps := 1000000) -dsimp only [go_sem, hgj, scC, enC]
          refine ⟨by omega, loop_next (i + 1) 4 (by omega) (by omega) ?_ ?_⟩
          · simp -dsimp only [go_sem] <;> simp
          · simp -dsimp only [go_sem, scC] <;> simp
      | false =>
        rw [s1, s2] at hnx
        simp only [Bool.true_bne, Bool.not_false, Bool.cond_true, addA_one] at hnx
        simp (maxSteps := 1000000) -dsimp only [go_sem, stC]
        refine ad_use (l := L0) (by omega) ?_
        simp (maxSteps := 1000000) -dsimp only [go_sem]
        refine ⟨by omega, loop_next (i + 1) 4 (by omega) (by omega) ?_ ?_⟩
        · simp -dsimp only [go_sem] <;> simp
        · simp -dsimp only [go_sem, scC, hnx] <;> simp
    | false =>
      cases s2 : hasS n.ss y with
      | true =>
        rw [s1, s2] at hnx
        simp only [Bool.false_bne, Bool.cond_true, addA_one] at hnx
        simp (maxSteps := 1000000) -dsimp only [go_sem, stC]
        refine ad_use (l := L0) (by omega) ?_
        simp (maxSteps := 1000000) -dsimp only [go_sem]
        refine ⟨by omega, loop_next (i + 1) 4 (by omega) (by omega) ?_ ?_⟩
        · simp -dsimp only [go_sem] <;> simp
        · simp -dsimp only [go_sem, scC, hnx] <;> simp
      | false =>
        rw [s1, s2] at hnx
        simp only [bne_self_eq_false, Bool.cond_false, List.nil_append] at hnx
        simp (maxSteps := 1000000) -dsimp only [go_sem, stC]
        have hbL : L0.length ≤ 150000 := by omega
        refine vc_tail (up := [(3, .va (.c1 (.pt 0 0))), (4, .va (.c1 (.pt 1 0))), (7, .va (.c1 (.pt 2 0))), (9, tS y), (33, .va (.c1 (.fz (ns.map stR)))), (34, iS .i64 ns.length), (35, iS .i64 i)]) (Hs := [.cells (scC o) 37, .cells (scC n) 37, .cells [.sl 3 L0.length] 48, .row (L0.map isC) 42 3]) 4 ?_ ?_ ?_
        rotate_left
        · simp -dsimp only [go_sem] <;> simp
        · simp -dsimp only [go_sem, scC] <;> simp
        generalize L0 = L at *
        simp (maxSteps := 1000000) -dsimp only [go_sem, scC, pc8_13]
        refine enp_use (s := o) ho ?_
        rw [show (fEn o.es y).getD default = d from hd]
        simp (maxSteps := 1000000) -dsimp only [go_sem, enC]
        refine enp_use (s := n) hn ?_
        rw [show (fEn n.es y).getD default = e from he]
        simp (maxSteps := 1000000) -dsimp only [go_sem, enC]
        have hii : isIs (e.vs.map inR) := isIs_mk (by omega)
        have dii := it_map e.vs
        generalize hasE o.es y = p at *
        generalize hasE n.es y = q at *
        have hbj : ∀ j, (addA L (bif p && q then cmpV y (d.vs.take j) e else [])).length ≤ 160000 := fun j => by
          have h1 := addA_len (bif p && q then cmpV y (d.vs.take j) e else []) L
          have h2 := cmpV_len y (d.vs.take j) e
          rw [List.length_take] at h2
          have h3 : (bif p && q then cmpV y (d.vs.take j) e else []).length ≤ 16 := by cases p && q <;> simp only [Bool.cond_true, Bool.cond_false, List.length_nil] <;> omega
          omega
        refine vc_loop (α := Nat) (fun j => [(3, .va (.c1 (.pt 0 0))), (4, .va (.c1 (.pt 1 0))), (7, .va (.c1 (.pt 2 0))), (9, tS y), (15, bS p), (16, .va (.c1 (.pt 5 0))), (17, bS q), (33, .va (.c1 (.fz (ns.map stR)))), (34, iS .i64 ns.length), (35, iS .i64 i), (78, .va (.c1 (.fz (d.vs.map inR)))), (79, iS .i64 d.vs.length), (80, iS .i64 j)])
          (fun j => [.cells (scC o) 37, .cells (scC n) 37, .cells [.sl 3 (addA L (bif p && q then cmpV y (d.vs.take j) e else [])).length] 48, .row ((addA L (bif p && q then cmpV y (d.vs.take j) e else [])).map isC) 42 3, .cells (enC d) 57, .cells (enC e) 57])
          (fun j => j ≤ d.vs.length) (fun j => d.vs.length - j) 0 6 (Nat.zero_le _) ?_ ?_ ?_
        · simp -dsimp only [go_sem] <;> simp
        · simp -dsimp only [go_sem, scC, enC, List.take_zero, cmpV_nil, bif_nil, addA_nil] <;> simp
        intro j hj
        have hbjj := hbj j
        rcases Nat.lt_or_ge j d.vs.length with hltj | hgej
        · have hgj : decide ((j : Int) < (d.vs.length : Int)) = true := by simp; omega
          obtain ⟨v, hv⟩ : ∃ t, d.vs[j]? = some t := ⟨_, List.getElem?_eq_getElem hltj⟩
          have q3 := row_rg' (row := inR) hv
          have hcn := cmpV_next hv y e
          cases p with
          | false =>
            simp only [Bool.false_and, Bool.cond_false, addA_nil] at hbjj ⊢
            simp (maxSteps := 1000000) -dsimp only [go_sem, hgj, ↓q3, scC, enC]
            refine ⟨by omega, by omega, loop_next (j + 1) 6 (by omega) (by omega) ?_ ?_⟩
            · simp -dsimp only [go_sem] <;> simp
            · simp -dsimp only [go_sem, scC, enC] <;> simp
          | true =>
          cases q with
          | false =>
            simp only [Bool.and_false, Bool.cond_false, addA_nil] at hbjj ⊢
            simp (maxSteps := 1000000) -dsimp only [go_sem, hgj, ↓q3, scC, enC]
            refine ⟨by omega, by omega, loop_next (j + 1) 6 (by omega) (by omega) ?_ ?_⟩
            · simp -dsimp only [go_sem] <;> simp
            · simp -dsimp only [go_sem, scC, enC] <;> simp
          | true =>
            simp only [Bool.and_self, Bool.cond_true] at hbjj ⊢
            have hjn : addA L (cmpV y (d.vs.take (j + 1)) e) = addA (addA L (cmpV y (d.vs.take j) e)) (bif inI e.vs v then [] else [⟨4, v, y⟩]) := by rw [hcn, addA_app]
            generalize hM : addA L (cmpV y (d.vs.take j) e) = M at *
            cases hc : inI e.vs v with
            | true =>
              rw [hc, Bool.cond_true, addA_nil] at hjn
              simp (maxSteps := 1000000) -dsimp only [go_sem, hgj, ↓q3, scC, enC, hii, dii, hc]
              refine ⟨by omega, by omega, loop_next (j + 1) 6 (by omega) (by omega) ?_ ?_⟩
              · simp -dsimp only [go_sem] <;> simp
              · simp -dsimp only [go_sem, scC, enC, hjn] <;> simp
            | false =>
              rw [hc, Bool.cond_false, addA_one] at hjn
              simp (maxSteps := 1000000) -dsimp only [go_sem, hgj, ↓q3, scC, enC, hii, dii, hc]
              refine ⟨by omega, ad_use (l := M) (by omega) ?_⟩
              simp (maxSteps := 1000000) -dsimp only [go_sem]
              refine ⟨by omega, loop_next (j + 1) 6 (by omega) (by omega) ?_ ?_⟩
              · simp -dsimp only [go_sem] <;> simp
              · simp -dsimp only [go_sem, scC, enC, hjn] <;> simp
        · have hgj : decide ((j : Int) < (d.vs.length : Int)) = false := by simp; omega
          obtain rfl : j = d.vs.length := by omega
          simp only [List.take_length]
          rw [← hnx]
          simp (maxSteps := 1000000) -dsimp only [go_sem, hgj, scC, enC]
          refine ⟨by omega, loop_next (i + 1) 4 (by omega) (by omega) ?_ ?_⟩
          · simp -dsimp only [go_sem] <;> simp
          · simp -dsimp only [go_sem, scC] <;> simp
  · have hg : decide ((i : Int) < (ns.length : Int)) = false := by simp; omega
    obtain rfl : i = ns.length := by omega
    rw [List.take_length] at hbi ⊢
    rw [← hraw] at hbi ⊢
    simp (maxSteps := 1000000) -dsimp only [go_sem, hg, scC]
    refine sr_use (l := addA [] (rawI o n x)) (by omega) hBI fun l' hp hs => ?_
    have hr := iss_sorted hp hs
    rw [← hp.length_eq]
    simp (maxSteps := 1000000) -dsimp only [go_sem]
    rw [show l'.length = (l'.map isC).length by simp]
    refine .pub 3 _ _ _ rfl (.sel [] (by simp) (by simp [pubH]) rfl (.done ?_))
    simp -dsimp only [go_sem, pubH]
    rw [hiss, ← hr] at hK
    simpa using hK
end Go.Proofs.Ytbolanmlngjdoaa
namespace Go.Proofs.Ytbolanmlngjdoaa
open Go.W
def coPre : List S → Prop := fun av => match av with
  | [.va (.gs r), .va (.gs q), .va (.c1 (.vl (.string _)))] => isScF r ∧ isScF q
  | _ => False
theorem coPre_open {av : List S} (h : coPre av) : ∃ (o n : Sc) (x : ByteArray), av = [.va (.gs (scC o)), .va (.gs (scC n)), tS x] ∧ o.fit ∧ n.fit := by
  unfold coPre at h
  split at h
  · obtain ⟨⟨o, rfl, ho⟩, ⟨n, rfl, hn⟩⟩ := h; exact ⟨o, n, _, rfl, ho, hn⟩
  · exact h.elim
noncomputable def coVal : List S → A := fun av => match av with
  | [.va (.gs r), .va (.gs q), .va (.c1 (.vl (.string x)))] => bA (coF (C.sc r) (C.sc q) x)
  | _ => .gs []
noncomputable def coFn : Fun := ⟨coPre, coVal, fun av h => by obtain ⟨o, n, x, rfl, _⟩ := coPre_open h; trivial⟩
theorem coFn_len : ∀ av H K, coFn.sp av H K → av.length = 3 := fun av H K h => by obtain ⟨o, n, x, rfl, _⟩ := coPre_open h.1.1; rfl
attribute [go_sem] coFn coPre coVal
set_option maxRecDepth 100000 in
set_option maxHeartbeats 2000000 in
theorem mCompatible : Meets Try.prog 9 coFn.sp := by
  refine meets_fn Try.func9 ok9 3 (by rw [Try.ntmps9]; decide) (meetsAll_f mCheck (meetsAll_s mStructP (meetsAll_s mIssues (meetsAll_nil _)))) coFn_len ?_
  rintro av H K ⟨⟨h, rfl⟩, hK⟩
  obtain ⟨o, n, x, rfl, ho, hn⟩ := coPre_open h
  replace hK : K (bS (coF o n x)) [] := by
    have : coFn.val [.va (.gs (scC o)), .va (.gs (scC n)), tS x] = bA (coF o n x) := by simp -dsimp only [go_sem]
    rw [this] at hK; exact hK
  clear h
  have hso := isScF_mk ho
  have hsn := isScF_mk hn
  have hdo := sc_dec o
  have hdn := sc_dec n
  rw [scC] at hso hsn hdo hdn
  have fin : ∀ (b : Bool) (R : Hp), coF o n x = b → W.Fin 0 K (bS b) R := fun b R h1 => by
    rw [h1] at hK
    exact .sel [] (by simp) (by simp) rfl (.done (by simpa [go_sem] using hK))
  by_cases c1 : checkF o = 0
  rotate_left
  · have e1 : (checkF o != 0) = true := by simpa using c1
    simp (maxSteps := 1000000) -dsimp only [go_sem, scC, pc9, rs9, hso, hsn, hdo, hdn, e1]
    exact fin false _ (by unfold coF; rw [e1]; rfl)
  have e1 : (checkF o != 0) = false := by simp [c1]
  by_cases c2 : checkF n = 0
  rotate_left
  · have e2 : (checkF n != 0) = true := by simpa using c2
    simp (maxSteps := 1000000) -dsimp only [go_sem, scC, pc9, rs9, hso, hsn, hdo, hdn, e1, e2]
    exact fin false _ (by unfold coF; rw [e1, e2]; rfl)
  have e2 : (checkF n != 0) = false := by simp [c2]
  have hco : coF o n x = (hasS o.ss x && hasS n.ss x && (((issF o n x).length : Int) == 0)) := by unfold coF; rw [e1, e2]; rfl
  simp (maxSteps := 1000000) -dsimp only [go_sem, scC, pc9, rs9, hso, hsn, hdo, hdn, e1, e2]
  refine stp_use ho ?_
  generalize (fS o.ss x).getD default = a
  simp (maxSteps := 1000000) -dsimp only [go_sem, stC]
  refine vc_tail (up := [(2, tS x), (3, .va (.c1 (.pt 0 0))), (4, .va (.c1 (.pt 1 0))), (8, bS (hasS o.ss x))]) (Hs := [.cells (scC o) 37, .cells (scC n) 37]) 2 ?_ ?_ ?_
  rotate_left
  · simp -dsimp only [go_sem] <;> simp
  · simp -dsimp only [go_sem, scC] <;> simp
  simp (maxSteps := 1000000) -dsimp only [go_sem, scC, pc9_4]
  refine stp_use hn ?_
  generalize (fS n.ss x).getD default = b
  simp (maxSteps := 1000000) -dsimp only [go_sem, stC]
  refine vc_tail (up := [(2, tS x), (3, .va (.c1 (.pt 0 0))), (4, .va (.c1 (.pt 1 0))), (8, bS (hasS o.ss x)), (10, bS (hasS n.ss x))]) (Hs := [.cells (scC o) 37, .cells (scC n) 37]) 2 ?_ ?_ ?_
  rotate_left
  · simp -dsimp only [go_sem] <;> simp
  · simp -dsimp only [go_sem, scC] <;> simp
  cases s1 : hasS o.ss x with
  | false =>
    rw [s1] at hco
    simp (maxSteps := 1000000) -dsimp only [go_sem, scC, pc9_5]
    exact fin false _ (by rw [hco]; rfl)
  | true =>
    cases s2 : hasS n.ss x with
    | false =>
      rw [s1, s2] at hco
      simp (maxSteps := 1000000) -dsimp only [go_sem, scC, pc9_5]
      exact fin false _ (by rw [hco]; rfl)
    | true =>
      rw [s1, s2] at hco
      simp (maxSteps := 1000000) -dsimp only [go_sem, scC, pc9_5]
      refine iu_use ho hn ?_
      simp (maxSteps := 1000000) -dsimp only [go_sem]
      exact fin _ _ (by rw [hco]; rfl)
end Go.Proofs.Ytbolanmlngjdoaa
namespace Go.Proofs.Ytbolanmlngjdoaa
open Go.W
abbrev nTop : ByteArray := mk [84, 111, 112]
abbrev nX : ByteArray := mk [120]
def tyA : Ty := .mk 2 8 (mk []) []
def tyW : Ty := .mk 2 16 (mk []) []
def flA : Fl := ⟨2, nX, tyA, false⟩
def flW : Fl := ⟨2, nX, tyW, false⟩
def stX : St := ⟨nTop, [flA]⟩
def stY : St := ⟨nTop, [flW]⟩
def exA : Sc := ⟨1, [], [stX]⟩
def exB : Sc := ⟨2, [], [stY]⟩
theorem fit_one {v s : Int} (h1 : in64 v) (h2 : in64 s) : (⟨v, [], [⟨nTop, [⟨2, nX, .mk 2 s (mk []) [], false⟩]⟩]⟩ : Sc).fit := by
  have hok : TyOk (.mk 2 s (mk []) []) := .mk (by unfold in64; omega) h2 (by decide) (Nat.zero_le _) (fun t h => by cases h)
  have hsm : TySm (.mk 2 s (mk []) []) := .mk (Nat.zero_le _) (fun t h => by cases h)
  have hst : ∀ t ∈ [(⟨nTop, [⟨2, nX, .mk 2 s (mk []) [], false⟩]⟩ : St)], t = ⟨nTop, [⟨2, nX, .mk 2 s (mk []) [], false⟩]⟩ := fun t ht => by simpa using ht
  have n1 : nTop.size ≤ 9223372036854775807 := by decide
  have n2 : nX.size ≤ 9223372036854775807 := by decide
  have n3 : in64 2 := by unfold in64; decide
  refine ⟨⟨h1, by simp, by simp, fun e he => (by cases he), fun t ht => ?_⟩, fun t ht f hf => ?_, fun t ht => ?_, fun e he => (by cases he)⟩
  · rw [hst t ht]
    refine ⟨n1, by simp, fun f hf => ?_⟩
    obtain rfl := List.mem_singleton.1 hf
    exact ⟨n3, n2, hok⟩
  · rw [hst t ht] at hf
    obtain rfl := List.mem_singleton.1 hf
    show (lvT (.mk 2 s (mk []) [])).1 ≤ 1000000000
    rw [show (lvT (.mk 2 s (mk []) [])).1 = 0 from rfl]; omega
  · rw [hst t ht]
    refine ⟨by simp, fun f hf => ?_⟩
    obtain rfl := List.mem_singleton.1 hf
    exact hsm
theorem a_fit : exA.fit := fit_one (v := 1) (s := 8) (by unfold in64; omega) (by unfold in64; omega)
theorem b_fit : exB.fit := fit_one (v := 2) (s := 16) (by unfold in64; omega) (by unfold in64; omega)
theorem inB_uses (ss : List St) (n x : ByteArray) : inB (usesF ss n) x = inB (visAll ss n) x := by
  rw [Bool.eq_iff_iff, inB_iff, inB_iff, usesF, mem_srtB]
theorem a_vis : visAll exA.ss nTop = [] := by decide +kernel
theorem b_vis : visAll exB.ss nTop = [] := by decide +kernel
theorem a_acy : exA.ss.any (fun t => inB (usesF exA.ss t.nm) t.nm) = false := by
  simp only [inB_uses]; decide +kernel
theorem b_acy : exB.ss.any (fun t => inB (usesF exB.ss t.nm) t.nm) = false := by
  simp only [inB_uses]; decide +kernel
theorem a_check : checkF exA = 0 := by
  have h1 : largeF exA = false := by decide +kernel
  have h2 : enF exA = 0 := by decide +kernel
  have h3 : stF exA = 0 := by decide +kernel
  have g := good_of a_fit h1 h3
  have ac : Acy exA.ss := fun t ht => any_false a_acy t ht
  have hd : dD exA.ss nTop = 1 := by
    have h := dD_eq g ac (g.nd stX (by simp [exA]))
    rw [show nTop = stX.nm from rfl, h]
    rfl
  have h : nestF exA.ss = 0 := by
    unfold nestF
    rw [a_acy]
    have e : exA.ss.any (fun t => decide (6 < dD exA.ss t.nm)) = (decide (6 < dD exA.ss nTop) || false) := rfl
    rw [e, hd]; rfl
  unfold checkF
  rw [h1, h2, h3, h]; rfl
theorem b_check : checkF exB = 0 := by
  have h1 : largeF exB = false := by decide +kernel
  have h2 : enF exB = 0 := by decide +kernel
  have h3 : stF exB = 0 := by decide +kernel
  have g := good_of b_fit h1 h3
  have ac : Acy exB.ss := fun t ht => any_false b_acy t ht
  have hd : dD exB.ss nTop = 1 := by
    have h := dD_eq g ac (g.nd stY (by simp [exB]))
    rw [show nTop = stY.nm from rfl, h]
    rfl
  have h : nestF exB.ss = 0 := by
    unfold nestF
    rw [b_acy]
    have e : exB.ss.any (fun t => decide (6 < dD exB.ss t.nm)) = (decide (6 < dD exB.ss nTop) || false) := rfl
    rw [e, hd]; rfl
  unfold checkF
  rw [h1, h2, h3, h]; rfl
theorem usesF_nil {ss : List St} {n : ByteArray} (h : visAll ss n = []) : usesF ss n = [] := by
  rw [usesF, h]; exact List.eq_nil_iff_forall_not_mem.2 fun x hx => by rw [mem_srtB] at hx; cases hx
theorem a_us : usL exA nTop = [] := by unfold usL; rw [usesF_nil a_vis]; cases okS exA nTop <;> rfl
theorem b_us : usL exB nTop = [] := by unfold usL; rw [usesF_nil b_vis]; cases okS exB nTop <;> rfl
theorem wd_ab : widF tyA tyW = true := widF_iff.2 (.inr ⟨rfl, rfl, .inr ⟨by decide, .inl rfl, by decide, rfl⟩⟩)
theorem wd_ba : widF tyW tyA = false := by
  cases h : widF tyW tyA with
  | false => rfl
  | true =>
    rcases widF_iff.1 h with h | ⟨_, _, h | ⟨_, _, h, _⟩⟩
    · have := congrArg Ty.s h; exact absurd this (by decide)
    · exact absurd h.1 (by decide)
    · exact absurd h (by decide)
theorem a_has : hasS exA.ss nTop = true := by decide +kernel
theorem b_has : hasS exB.ss nTop = true := by decide +kernel
theorem a_fs : fS exA.ss nTop = some stX := rfl
theorem b_fs : fS exB.ss nTop = some stY := rfl
theorem raw_ab : rawI exA exB nTop = [] := by
  have h : rawI exA exB nTop = cmpN exA exB nTop ++ [] := by unfold rawI nmsF; rw [a_us]; rfl
  rw [h]
  unfold cmpN
  rw [a_has, b_has, a_fs, b_fs]
  have h1 : cmpS nTop stX stY = [] := by
    have h2 : isA nTop stY flA = [] := by
      unfold isA
      rw [show fF stY.fs flA.num = some flW from rfl]
      simp only
      rw [show widF flA.ty flW.ty = true from wd_ab]; rfl
    have h3 : isB nTop stX flW = [] := rfl
    show (isA nTop stY flA ++ []) ++ (isB nTop stX flW ++ []) = []
    rw [h2, h3]; rfl
  simp only [Option.getD_some, h1]
  rfl
theorem raw_ba : rawI exB exA nTop = [⟨1, 2, nTop⟩] := by
  have h : rawI exB exA nTop = cmpN exB exA nTop ++ [] := by unfold rawI nmsF; rw [b_us]; rfl
  rw [h]
  unfold cmpN
  rw [a_has, b_has, a_fs, b_fs]
  have h1 : cmpS nTop stY stX = [⟨1, 2, nTop⟩] := by
    have h2 : isA nTop stX flW = [⟨1, 2, nTop⟩] := by
      unfold isA
      rw [show fF stX.fs flW.num = some flA from rfl]
      simp only
      rw [show widF flW.ty flA.ty = false from wd_ba]; rfl
    have h3 : isB nTop stY flA = [] := rfl
    show (isA nTop stX flW ++ []) ++ (isB nTop stY flA ++ []) = _
    rw [h2, h3]; rfl
  simp only [Option.getD_some, h1]
  rfl
theorem is_ab : issF exA exB nTop = [] := by unfold issF; rw [a_check, b_check, raw_ab]; rfl
theorem is_ba : issF exB exA nTop = [⟨1, 2, nTop⟩] := by unfold issF; rw [a_check, b_check, raw_ba]; rfl
theorem co_ab : coF exA exB nTop = true := by unfold coF; rw [a_check, b_check, a_has, b_has, is_ab]; rfl
end Go.Proofs.Ytbolanmlngjdoaa
namespace Go.Proofs.Ytbolanmlngjdoaa
open Go.W
theorem gh_tail {Γ : Env} {k0 : Nat} {x : PC} {fr : Fr} {H : Hp} {K : Ex → Fr → Hp → Prop} {up : List (Nat × S)} {Hs : Hp} (ns : List Nat) (h : vc Γ k0 x.ungh (puts up) Hs K) (h3 : ns.Nodup) (h4 : ∀ n ∈ ns, n < H.length) (h5 : ns.take k0 = List.range k0)
    (h1 : agree' ns fr up) (h2 : (pickH H ns).map (B.ren (loc ns)) = Hs) : Gh k0 (fun fr' H' => vc Γ k0 x.ungh fr' H' K) fr H :=
  .sel ns h3 h4 h5 (.wk _ (puts_wk' h1) (.done (by rw [h2]; exact h)))
def awFn : Fun := ⟨fun av => av = [], fun _ => bA true, fun _av _ => trivial⟩
attribute [go_sem] awFn
set_option maxRecDepth 100000 in
set_option maxHeartbeats 4000000 in
theorem mAwake : Meets Try.prog 5 awFn.sp := by
  refine meets_fn Try.func5 ok5 0 (by rw [Try.ntmps5]; decide) (meetsAll_s mIssues (meetsAll_f mCompatible (meetsAll_nil _))) (fun av H K h => by obtain ⟨⟨rfl, _⟩, _⟩ := h; rfl) ?_
  rintro av H K ⟨⟨rfl, rfl⟩, hK⟩
  have hK : K (bS true) [] := hK
  simp (maxSteps := 1000000) -dsimp only [go_sem, pc5, rs5]
  have e1 : scC exA = [.vl (.int .i64 1), .fz [], .fz [stC stX]] := rfl
  have e2 : scC exB = [.vl (.int .i64 2), .fz [], .fz [stC stY]] := rfl
  have e3 : stC stX = [.vl (.string nTop), .fz [flC flA]] := rfl
  have e4 : stC stY = [.vl (.string nTop), .fz [flC flW]] := rfl
  have e5 : flC flA = [.vl (.int .i64 2), .vl (.string nX), .vl (.int .i64 2), .vl (.int .i64 8), .vl (.string (mk [])), .fz [], .vl (.bool false)] := rfl
  have e6 : flC flW = [.vl (.int .i64 2), .vl (.string nX), .vl (.int .i64 2), .vl (.int .i64 16), .vl (.string (mk [])), .fz [], .vl (.bool false)] := rfl
  refine vc_head rfl (.opn 0 _ _ _ rfl (.nfr 0 _ _ _ rfl (.shu 0 _ _ _ rfl ?_ (.pub 0 _ _ _ rfl (.shu 1 _ _ _ rfl ?_ (.pub 1 _ _ _ rfl (.opn 3 _ _ _ rfl (.nfr 3 _ _ _ rfl (.shu 3 _ _ _ rfl ?_ (.pub 3 _ _ _ rfl (.shu 4 _ _ _ rfl ?_ (.pub 4 _ _ _ rfl ?_))))))))))))
  · simp [C.shut, C.nf]
  · simp [C.shut, C.pub]
  · simp [C.shut, C.nf]
  · simp [C.shut, C.pub]
  refine gh_tail (up := [(1, .va (.c1 (.pt 0 0))), (2, .va (.c1 (.pt 1 0)))]) (Hs := [.cells [.vl (.int .i64 1), .vl (.slice none 0 0), .fz [stC stX]] 37, .cells [.vl (.int .i64 2), .vl (.slice none 0 0), .fz [stC stY]] 37]) [2, 5] ?_ (by simp) (by simp [pubH]) rfl ?_ ?_
  rotate_left
  · simp -dsimp only [go_sem] <;> simp
  · simp -dsimp only [go_sem, pubH, e3, e4, e5, e6] <;> simp [C.pub, C.nf]
  simp (maxSteps := 1000000) -dsimp only [go_sem, pc5_3]
  refine iu_use (o := exB) (n := exA) (x := nTop) b_fit a_fit ?_
  rw [is_ba]
  simp (maxSteps := 1000000) -dsimp only [go_sem]
  refine vc_tail (up := [(1, .va (.c1 (.pt 0 0))), (2, .va (.c1 (.pt 1 0))), (3, .va (.c1 (.fz [isC ⟨1, 2, nTop⟩])))]) (Hs := [.cells [.vl (.int .i64 1), .vl (.slice none 0 0), .fz [stC stX]] 37, .cells [.vl (.int .i64 2), .vl (.slice none 0 0), .fz [stC stY]] 37]) 2 ?_ ?_ ?_
  rotate_left
  · simp -dsimp only [go_sem] <;> simp
  · simp -dsimp only [go_sem] <;> simp
  have h1 := isScF_mk a_fit
  have h2 := isScF_mk b_fit
  have d1 := sc_dec exA
  have d2 := sc_dec exB
  rw [e1] at h1 d1
  rw [e2] at h2 d2
  have k1 : ((1 : Int) == 1) = true := rfl
  have k2 : ((2 : Int) == 2) = true := rfl
  have k3 : (bl nTop == bl nTop) = true := by simp
  simp (maxSteps := 1000000) -dsimp only [go_sem, pc5_4, h1, h2, d1, d2, co_ab, isC]
  refine ⟨fun _ => ⟨⟨by omega, fun r hr => by subst hr; rfl⟩, fun r hr => ?_⟩, fun h => absurd h (by simp)⟩
  subst hr
  simp (maxSteps := 1000000) -dsimp only [go_sem, k1, k2]
  exact .sel [] (by simp) (by simp) rfl (.done (by simpa [go_sem] using hK))
end Go.Proofs.Ytbolanmlngjdoaa
namespace Go.W
open Go.RowKit
inductive Fit (P : Program) : TypeId → List C → Prop
  | int {t : TypeId} {k : IntKind} {n : Int} : P.underlying t = some (.int k) → (Lit.int k n).wf = true → Fit P t [.vl (.int k n)]
  | bool {t : TypeId} {b : Bool} : P.underlying t = some .bool → Fit P t [.vl (.bool b)]
  | str {t : TypeId} {s : ByteArray} : P.underlying t = some .string → s.size ≤ maxLen → Fit P t [.vl (.string s)]
  | sl {t e : TypeId} {xs : List (List C)} : P.underlying t = some (.slice e) → xs.length ≤ maxLen → (∀ r ∈ xs, Fit P e r) → Fit P t [.fz xs]
  | st {t : TypeId} {fs : Array Field} {parts : List (List C)} : P.underlying t = some (.struct fs) → parts.length = fs.size → (∀ (i : Nat) (f : Field) (p : List C), fs[i]? = some f → parts[i]? = some p → Fit P f.type p) → Fit P t parts.flatten
section
variable {P : Program} {t e : TypeId} {xs : List C}
theorem Fit.inv_int {k : IntKind} (ht : P.underlying t = some (.int k)) (h : Fit P t xs) : ∃ n : Int, xs = [.vl (.int k n)] ∧ (Lit.int k n).wf = true := by
  cases h with
  | int h1 h2 => rw [ht] at h1; cases h1; exact ⟨_, rfl, h2⟩
  | bool h1 => rw [ht] at h1; cases h1
  | str h1 => rw [ht] at h1; cases h1
  | sl h1 => rw [ht] at h1; cases h1
  | st h1 => rw [ht] at h1; cases h1
theorem Fit.inv_str (ht : P.underlying t = some .string) (h : Fit P t xs) : ∃ s : ByteArray, xs = [.vl (.string s)] ∧ s.size ≤ maxLen := by
  cases h with
  | int h1 h2 => rw [ht] at h1; cases h1
  | bool h1 => rw [ht] at h1; cases h1
  | str h1 h2 => exact ⟨_, rfl, h2⟩
  | sl h1 => rw [ht] at h1; cases h1
  | st h1 => rw [ht] at h1; cases h1
end
theorem Fit.rows {P : Program} {e : TypeId} {α : Type} {row : α → List C} {Q : α → Prop} {ys : List (List C)} (hi : ∀ r, Fit P e r → ∃ a, r = row a ∧ Q a) (h : ∀ r ∈ ys, Fit P e r) : ∃ l : List α, ys = l.map row ∧ ∀ a ∈ l, Q a := by
  induction ys with
  | nil => exact ⟨[], rfl, fun a h => by cases h⟩
  | cons r ys ih =>
    obtain ⟨l, h1, h2⟩ := ih fun r hr => h r (List.mem_cons_of_mem _ hr)
    obtain ⟨a, h3, h4⟩ := hi r (h r (by simp))
    refine ⟨a :: l, by rw [h1, h3]; rfl, fun x hx => ?_⟩
    rcases List.mem_cons.1 hx with rfl | hx
    · exact h4
    · exact h2 x hx
def offs (P : Program) : Nat → List Field → Option Nat
  | o, [] => some o
  | o, f :: r => if f.offset = o then offs P (o + P.cellsOf f.type) r else none
def tysOk (P : Program) (ts : List TypeId) : Bool := ts.all fun t => match P.underlying t with
  | some (.int _) | some .bool | some .string => true
  | some (.slice e) => ts.contains e && decide (0 < P.cellsOf e)
  | some (.struct fs) => fs.toList.all (fun f => ts.contains f.type) && offs P 0 fs.toList == some (P.cellsOf t)
  | _ => false
theorem glue {P : Program} {R : C → Value → Prop} {Q : Field → List C → Prop} {cs : List Value} : ∀ (fs : List Field) (o : Nat), offs P o fs = some cs.length →
    (∀ (i : Nat) (f : Field), fs[i]? = some f → ∃ p, Q f p ∧ All2 R p ((cs.drop f.offset).take (P.cellsOf f.type))) →
    ∃ parts : List (List C), parts.length = fs.length ∧ (∀ (i : Nat) (f : Field) (p : List C), fs[i]? = some f → parts[i]? = some p → Q f p) ∧ All2 R parts.flatten (cs.drop o)
  | [], o, ho, _ => by
    simp only [offs, Option.some.injEq] at ho
    subst ho
    exact ⟨[], rfl, fun i f p h => by simp at h, by simpa using All2.nil⟩
  | f :: fs, o, ho, h => by
    simp only [offs] at ho
    split at ho
    · rename_i hf
      obtain ⟨parts, h1, h2, h3⟩ := glue fs _ ho fun i f hf => h (i + 1) f (by simpa using hf)
      obtain ⟨p, h4, h5⟩ := h 0 f rfl
      refine ⟨p :: parts, by simp [h1], fun i g q hg hq => ?_, ?_⟩
      · cases i with
        | zero => simp at hg hq; subst hg hq; exact h4
        | succ i => exact h2 i g q (by simpa using hg) (by simpa using hq)
      · have : cs.drop o = (cs.drop f.offset).take (P.cellsOf f.type) ++ cs.drop (o + P.cellsOf f.type) := by
          rw [hf, ← List.drop_drop, List.take_append_drop]
        rw [List.flatten_cons, this]
        exact h5.app h3
    · cases ho
section
variable {H : Type} {enc : TypeId × Value → H} {P : Program} {W : World} {ts : List TypeId}
theorem fz_any {b off len cap sz : Nat} {oa : Option Addr} (hoa : len ≠ 0 → oa = some ⟨b, off, none⟩) (hsz : 0 < sz) (X : Nat → List C) (hl : ∀ i, i < len → (X i).length = sz) (hc : len ≤ cap)
    (h : ∀ i, i < len → ∀ j c, (X i)[j]? = some c → ∃ v, W.cell? ⟨b, off + (i * sz + j), none⟩ = some v ∧ c.fv (roW W) v ∧ c.shut = true) :
    FzR (roW W) ((List.range len).map X) (.slice oa len cap) := by
  have hz : ∀ x ∈ (List.range len).map X, x.length = sz := fun x hx => by
    obtain ⟨i, hi, rfl⟩ := List.mem_map.1 hx
    exact hl i (List.mem_range.1 hi)
  have hfl : ∀ k c, ((List.range len).map X).flatten[k]? = some c → ∃ v, W.cell? ⟨b, off + k, none⟩ = some v ∧ c.fv (roW W) v ∧ c.shut = true := fun k c hk => by
    have hkl : k < len * sz := by
      have h1 := (List.getElem?_eq_some_iff.1 hk).1
      rw [flat_len _ hz] at h1
      simpa using h1
    have hi : k / sz < len := (Nat.div_lt_iff_lt_mul hsz).2 hkl
    have hj := Nat.mod_lt k hsz
    have hg := flat_get hz (i := k / sz) (j := k % sz) (by simpa using hi) hj
    rw [Nat.mul_comm, Nat.div_add_mod, hk] at hg
    have hxi : ((List.range len).map X)[k / sz]? = some (X (k / sz)) := by simp [hi]
    rw [hxi, Option.bind_some] at hg
    have := h (k / sz) hi (k % sz) c hg.symm
    rwa [Nat.mul_comm, Nat.div_add_mod] at this
  have hr := FzR.mk (ro := roW W) ((List.range len).map X) sz (some (b, off)) oa (fun hne => hoa (fun e => by subst e; simp at hne)) cap (fun k => (W.cell? ⟨b, off + k, none⟩).getD undef) hz (by simpa using hc) (fun _ => rfl)
    (fun k c hk => by
      obtain ⟨v, h2, _⟩ := hfl k c hk
      simp [roW, h2])
    (fun k v hk => by
      obtain ⟨u, h1, h2, _⟩ := hfl k _ hk
      have : u = v := h2
      simp [h1, this])
    (fun k ys hk => by
      obtain ⟨u, h1, h2, _⟩ := hfl k _ hk
      have : FzR (roW W) ys u := h2
      simpa [h1] using this)
    (fun c hc => by
      obtain ⟨k, hk⟩ := List.mem_iff_getElem?.1 hc
      obtain ⟨u, _, _, h3⟩ := hfl k c hk
      exact h3)
  simpa using hr
theorem fit_of_trod (hok : tysOk P ts = true) : ∀ (n : Nat) (t : TypeId) (cs : List Value) (y : DataW H × List MemPlace), t ∈ ts → DataW.trod enc P W 0 (fun _ => true) true n t cs = some y →
    ∃ xs, Fit P t xs ∧ All2 (C.fv (roW W)) xs cs ∧ ∀ c ∈ xs, c.shut = true
  | 0, t, cs, y, _, h => by simp [DataW.trod] at h
  | n + 1, t, cs, y, ht, h => by
    have h1 := List.all_eq_true.1 hok t ht
    split at h1
    · rename_i k hu
      obtain ⟨m, rfl, _, hw⟩ := DataW.trod_int hu h
      exact ⟨_, .int hu hw, .cons rfl .nil, fun c hc => by simp at hc; subst hc; rfl⟩
    · rename_i hu
      obtain ⟨b, rfl, _⟩ := DataW.trod_bool hu h
      exact ⟨_, .bool hu, .cons rfl .nil, fun c hc => by simp at hc; subst hc; rfl⟩
    · rename_i hu
      obtain ⟨s, rfl, _, hs⟩ := DataW.trod_string hu h
      exact ⟨_, .str hu hs, .cons rfl .nil, fun c hc => by simp at hc; subst hc; rfl⟩
    · rename_i e hu
      simp only [Bool.and_eq_true, List.contains_iff_mem, decide_eq_true_eq] at h1
      obtain ⟨he, hpos⟩ := h1
      rcases DataW.trod_slice hu h with ⟨rfl, _⟩ | ⟨a, len, cap, elems, rest, n', hn', rfl, _, _, hl, hm, hel, hi, _⟩
      · exact ⟨_, .sl hu (Nat.zero_le _) (fun r hr => by cases hr), .cons (fz_nil _) .nil, fun c hc => by simp at hc; subst hc; rfl⟩
      · obtain rfl : n = n' := by omega
        have hall : ∀ i, i < len → ∃ x : List C, Fit P e x ∧ x.length = P.cellsOf e ∧ (∀ j c, x[j]? = some c → ∃ v, W.cell? ((a.add (i * P.cellsOf e)).add j) = some v ∧ c.fv (roW W) v ∧ c.shut = true) := fun i hil => by
          have h1 := hi i hil
          rw [List.getElem?_eq_getElem (by omega)] at h1
          obtain ⟨cs', h2, h3⟩ := Option.bind_eq_some_iff.1 h1
          obtain ⟨x, h4, h5, h6⟩ := fit_of_trod hok n e cs' _ he h3
          obtain ⟨_, h7, h8⟩ := World.cells?_some h2
          refine ⟨x, h4, h5.1.trans h7, fun j c hj => ?_⟩
          obtain ⟨v, h9, h10⟩ := h5.get hj
          have hjl : j < P.cellsOf e := by rw [← h7, ← h5.1]; exact (List.getElem?_eq_some_iff.1 hj).1
          refine ⟨v, ?_, h10, h6 c (List.mem_of_getElem? hj)⟩
          have := h8 j hjl
          rwa [h9] at this
        by_cases h0 : len = 0
        · subst h0
          refine ⟨[.fz []], .sl hu (Nat.zero_le _) (fun r hr => by cases hr), .cons ?_ .nil, fun c hc => by simp at hc; subst hc; rfl⟩
          exact fz_any (b := 0) (off := 0) (fun h => absurd rfl h) hpos (fun _ => []) (fun i hi => by omega) (Nat.zero_le _) (fun i hi => by omega)
        · obtain ⟨x0, _, hx0l, hx0⟩ := hall 0 (by omega)
          have hsp : a.spot = none := by
            have hx : ∃ c, x0[0]? = some c := ⟨_, List.getElem?_eq_getElem (by omega)⟩
            obtain ⟨c, hc⟩ := hx
            obtain ⟨v, hv, _⟩ := hx0 0 c hc
            unfold World.cell? at hv
            split at hv
            · split at hv
              · cases hv
              · rename_i hs; simpa [Addr.add] using hs
            · cases hv
          obtain ⟨b, off, spot⟩ := a
          obtain rfl : spot = none := hsp
          haveI : Inhabited (List C) := ⟨[]⟩
          obtain ⟨X, hX⟩ := Go.Deep.choose_lt hall
          refine ⟨[.fz ((List.range len).map X)], .sl hu (by simp; omega) (fun r hr => ?_), .cons ?_ .nil, fun c hc => by simp at hc; subst hc; rfl⟩
          · obtain ⟨i, hi, rfl⟩ := List.mem_map.1 hr
            exact (hX i (List.mem_range.1 hi)).1
          · exact fz_any (fun _ => rfl) hpos X (fun i hi => (hX i hi).2.1) hl (fun i hi j c hj => by
              obtain ⟨v, h2, h3⟩ := (hX i hi).2.2 j c hj
              exact ⟨v, by simpa [Go.WideShapes.add_plain, Nat.add_assoc] using h2, h3⟩)
    · rename_i fs hu
      simp only [Bool.and_eq_true, List.all_eq_true, List.contains_iff_mem, beq_iff_eq] at h1
      obtain ⟨hft, hof⟩ := h1
      obtain ⟨ys, n', hn, _, hcl, hyl, hf⟩ := DataW.trod_struct hu h
      obtain rfl : n = n' := by omega
      obtain ⟨parts, k1, k2, k3⟩ := glue (P := P) (R := fun c v => C.fv (roW W) c v ∧ c.shut = true) (Q := fun f p => Fit P f.type p) (cs := cs) fs.toList 0 (by rw [hcl]; exact hof) (fun i f hfi => by
        have hfi' : fs[i]? = some f := by simpa using hfi
        have h2 := hf i f hfi'
        have hil : i < fs.size := (Array.getElem?_eq_some_iff.1 hfi').1
        rw [List.getElem?_eq_getElem (by omega)] at h2
        obtain ⟨x, h4, h5, h6⟩ := fit_of_trod hok n f.type _ _ (hft f (List.mem_of_getElem? hfi)) h2
        exact ⟨x, h4, ⟨h5.1, fun j c v hc hv => ⟨h5.2 j c v hc hv, h6 c (List.mem_of_getElem? hc)⟩⟩⟩)
      refine ⟨parts.flatten, .st hu (by simpa using k1) (fun i f p hfi hp => k2 i f p (by simpa using hfi) hp), ?_, fun c hc => ?_⟩
      · simpa using k3.imp (fun _ _ h => h.1)
      · obtain ⟨j, hj⟩ := List.mem_iff_getElem?.1 hc
        obtain ⟨v, _, _, h3⟩ := k3.get hj
        exact h3
    · cases h1
theorem fit_of_arg (hok : tysOk P ts = true) {t : TypeId} {v : Value} {d : DataW H} {ps : List MemPlace} (ht : t ∈ ts) (h : DataW.Trod enc P W 0 (fun _ => true) true t v d ps) : ∃ xs, Fit P t xs ∧ All2 (C.fv (roW W)) xs v.cells.toList ∧ ∀ c ∈ xs, c.shut = true := by
  obtain ⟨n, h⟩ := h
  exact fit_of_trod hok n t _ _ ht h
theorem arg_gs {cs : List C} {vs : Array Value} (h : All2 (C.fv (roW W)) cs (Value.agg vs).cells.toList) (hs : ∀ c ∈ cs, c.shut = true) : (S.va (.gs cs)).rel (gm []) (roW W) (.agg vs) :=
  ⟨vs.toList, by simp, ⟨by simpa [Value.cells] using h.1, fun i c v hc hv => (C.rel_shut (hs c (List.mem_of_getElem? hc))).2 (h.2 i c v hc (by simpa [Value.cells] using hv))⟩⟩
end
end Go.W
namespace Go.Proofs.Ytbolanmlngjdoaa
open Go.W
theorem v3 : Try.prog.underlying 3 = some (.int .i64) := by kernel_rfl
theorem v4 : Try.prog.underlying 4 = some .bool := by kernel_rfl
theorem v9 : Try.prog.underlying 9 = some .string := by kernel_rfl
theorem v22 : Try.prog.underlying 35 = some (.slice 57) := by kernel_rfl
theorem v38 : Try.prog.underlying 22 = some (.slice 24) := by kernel_rfl
theorem v45 : Try.prog.underlying 55 = some (.slice 3) := by kernel_rfl
theorem v40 : Try.prog.underlying 24 = some (.struct #[⟨"Kind", 3, 0, false, "", "", 0⟩, ⟨"Size", 3, 1, false, "", "", 8⟩, ⟨"Name", 9, 2, false, "", "", 16⟩, ⟨"Elem", 22, 3, false, "", "", 32⟩]) := by kernel_rfl
theorem v53 : Try.prog.underlying 30 = some (.struct #[⟨"Number", 3, 0, false, "", "", 0⟩, ⟨"Name", 9, 1, false, "", "", 8⟩, ⟨"Type", 24, 2, false, "", "", 24⟩, ⟨"Optional", 4, 6, false, "", "", 80⟩]) := by kernel_rfl
theorem v25 : Try.prog.underlying 37 = some (.struct #[⟨"Version", 3, 0, false, "", "", 0⟩, ⟨"Enums", 35, 1, false, "", "", 8⟩, ⟨"Structs", 34, 2, false, "", "", 32⟩]) := by kernel_rfl
theorem rows_of {α : Type} {row : α → List C} {Q : α → Prop} {ys : List (List C)} (h : ∀ r ∈ ys, ∃ a, r = row a ∧ Q a) : ∃ l : List α, ys = l.map row ∧ ∀ a ∈ l, Q a := by
  induction ys with
  | nil => exact ⟨[], rfl, fun a h => by cases h⟩
  | cons r ys ih =>
    obtain ⟨l, h1, h2⟩ := ih fun r hr => h r (List.mem_cons_of_mem _ hr)
    obtain ⟨a, h3, h4⟩ := h r List.mem_cons_self
    refine ⟨a :: l, by rw [h1, h3]; rfl, fun x hx => ?_⟩
    rcases List.mem_cons.1 hx with rfl | hx
    · exact h4
    · exact h2 x hx
theorem wf64 {n : Int} (h : (Lit.int .i64 n).wf = true) : in64 n := by simpa [in64, Lit.wf, IntKind.min, IntKind.max, IntKind.signed, IntKind.bits] using h
theorem mx47 {n : Nat} (h : n ≤ maxLen) : n ≤ 9223372036854775807 := by unfold maxLen at h; exact h
theorem fitT : ∀ {t : TypeId} {cs : List C}, Fit Try.prog t cs → (t = 24 → ∃ a, cs = tyC a ∧ TyOk a) ∧ (t = 22 → ∃ l : List Ty, cs = [.fz (l.map tyC)] ∧ l.length ≤ 9223372036854775807 ∧ ∀ a ∈ l, TyOk a) := by
  intro t cs h
  induction h with
  | int h1 _ => exact ⟨fun e => (by rw [e, v40] at h1; cases h1), fun e => (by rw [e, v38] at h1; cases h1)⟩
  | bool h1 => exact ⟨fun e => (by rw [e, v40] at h1; cases h1), fun e => (by rw [e, v38] at h1; cases h1)⟩
  | str h1 _ => exact ⟨fun e => (by rw [e, v40] at h1; cases h1), fun e => (by rw [e, v38] at h1; cases h1)⟩
  | @sl t e xs h1 h2 h3 ih =>
    refine ⟨fun e => (by rw [e, v40] at h1; cases h1), fun e => ?_⟩
    subst e
    rw [v38] at h1
    cases h1
    obtain ⟨l, rfl, hl⟩ := rows_of (row := tyC) (Q := TyOk) fun r hr => (ih r hr).1 rfl
    exact ⟨l, rfl, by have := mx47 h2; simpa using this, hl⟩
  | @st t fs parts h1 h2 h3 ih =>
    refine ⟨fun e => ?_, fun e => (by rw [e, v38] at h1; cases h1)⟩
    subst e
    rw [v40] at h1
    cases h1
    match parts, h2 with
    | [p0, p1, p2, p3], _ =>
      obtain ⟨k, rfl, hk⟩ := Fit.inv_int v3 (h3 0 _ p0 rfl rfl)
      obtain ⟨s, rfl, hs⟩ := Fit.inv_int v3 (h3 1 _ p1 rfl rfl)
      obtain ⟨n, rfl, hn⟩ := Fit.inv_str v9 (h3 2 _ p2 rfl rfl)
      obtain ⟨l, rfl, hl, ho⟩ := (ih 3 _ p3 rfl rfl).2 rfl
      exact ⟨.mk k s n l, by rw [tyC, tysC_map]; rfl, .mk (wf64 hk) (wf64 hs) (mx47 hn) hl ho⟩
theorem fitTy {cs : List C} (h : Fit Try.prog 24 cs) : ∃ a, cs = tyC a ∧ TyOk a := (fitT h).1 rfl
theorem fitTy' (cs : List C) (h : Fit Try.prog 24 cs) : ∃ a, cs = tyC a ∧ TyOk a := fitTy h
end Go.Proofs.Ytbolanmlngjdoaa
namespace Go.Proofs.Ytbolanmlngjdoaa
open Go.W
def t3Pre : List S → Prop := fun av => match av with
  | [.va (.gs r), .va (.gs q), .va (.gs p)] => isTy r ∧ isTy q ∧ isTy p
  | _ => False
theorem t3Pre_open {av : List S} (h : t3Pre av) : ∃ a b c : Ty, av = [.va (.gs (tyC a)), .va (.gs (tyC b)), .va (.gs (tyC c))] ∧ TyOk a ∧ TyOk b ∧ TyOk c := by
  unfold t3Pre at h
  split at h
  · obtain ⟨⟨a, rfl, ha⟩, ⟨b, rfl, hb⟩, ⟨c, rfl, hc⟩⟩ := h; exact ⟨a, b, c, rfl, ha, hb, hc⟩
  · exact h.elim
def lawW : Fun := ⟨t3Pre, fun _ => bA true, fun _ _ => trivial⟩
theorem lawW_len : ∀ av H K, lawW.sp av H K → av.length = 3 := fun av H K h => by obtain ⟨a, b, c, rfl, _⟩ := t3Pre_open h.1.1; rfl
set_option maxRecDepth 100000 in
set_option maxHeartbeats 4000000 in
theorem mLawWidens : Meets Try.prog 3 lawW.sp := by
  refine meets_fn Try.func3 ok3 3 (by rw [Try.ntmps3]; decide) (meetsAll_f mDeep (meetsAll_f mAwake (meetsAll_f mWidens (meetsAll_f mRWidens (meetsAll_nil _))))) lawW_len ?_
  rintro av H K ⟨⟨h, rfl⟩, hK⟩
  obtain ⟨a, b, c, rfl, ha, hb, hc⟩ := t3Pre_open h
  have hK : K (bS true) [] := hK
  clear h
  have fin : ∀ R : Hp, W.Fin 0 K (bS true) R := fun R => .sel [] (by simp) (by simp) rfl (.done (by simpa [go_sem] using hK))
  have h1 : isTy (tyC a) := isTy_mk ha
  have h2 : isTy (tyC b) := isTy_mk hb
  have h3 : isTy (tyC c) := isTy_mk hc
  have k1 : ((30 : Int) = 30) = True := eq_true rfl
  have e1 : widF a a = true := widF_refl a
  have e2 : (widF a b == widF a b) = true := by simp
  have e3 : (!widF a b || !widF b c || widF a c) = true := by
    cases w1 : widF a b with
    | false => rfl
    | true =>
      cases w2 : widF b c with
      | false => rfl
      | true => rw [widF_trans (Nat.le_refl _) w1 w2]; rfl
  simp (maxSteps := 1000000) -dsimp only [go_sem, tyC_len, pc3, rs3, h1, h2, h3, e2]
  refine ⟨fun _ => fin _, fun _ => ⟨fun _ h => ?_, fun _ h => ?_, ?_⟩⟩
  · rw [e1, h]; rfl
  · rw [e1, h]; rfl
  · rw [e1, e3]; exact fin _
end Go.Proofs.Ytbolanmlngjdoaa
