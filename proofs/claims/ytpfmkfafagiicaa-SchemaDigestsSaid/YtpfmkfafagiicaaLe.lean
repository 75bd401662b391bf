/- Lemmas and walks for the proof. -/
import Derived.Test.YtpfmkfafagiicaaLd
import Derived.Test.YtpfmkfafagiicaaProg
import Derived.ProofKit
import Derived.OpenShut
import Derived.ChangeStays
import Derived.Deep.Slices
import Derived.JoinedCond
import Derived.KernelRfl
import Derived.Shelf.Slices.Clone
/- The reference: direct, put. -/
namespace Go.Proofs.Ytpfmkfafagiicaa
open Go.W
mutual
def dirF : Ty → List ByteArray
  | .mk k _ n e => bif k == 6 || k == 7 then [n] else dirFs e
def dirFs : List Ty → List ByteArray
  | [] => []
  | t :: r => dirF t ++ dirFs r
end
theorem dirFs_app : ∀ (a b : List Ty), dirFs (a ++ b) = dirFs a ++ dirFs b
  | [], b => rfl
  | t :: r, b => by rw [List.cons_append, dirFs, dirFs, dirFs_app r b, List.append_assoc]
theorem dirFs_mem : ∀ {l : List Ty} {t : Ty}, t ∈ l → (dirF t).length ≤ (dirFs l).length
  | x :: l, t, h => by
    rw [dirFs, List.length_append]
    rcases List.mem_cons.1 h with rfl | h
    · omega
    · have := dirFs_mem h; omega
def diSp (N : Nat) : W.Spec := fun av H K => ∃ t : Ty, av = [.va (.gs (tyC t))] ∧ H = [] ∧ TyOk t ∧ t.h ≤ N ∧ (dirF t).length ≤ 1000000000 ∧ K (.va (.c1 (.fz ((dirF t).map stR)))) []
theorem di_use {N : Nat} {t : Ty} {K : S → Hp → Prop} (h1 : TyOk t) (h2 : t.h ≤ N) (h3 : (dirF t).length ≤ 1000000000) (hK : K (.va (.c1 (.fz ((dirF t).map stR)))) []) : diSp N [.va (.gs (tyC t))] [] K := ⟨t, rfl, rfl, h1, h2, h3, hK⟩
theorem stR_ss (l : List ByteArray) : ∀ r ∈ l.map stR, ∀ c ∈ r, c.shut = true ∧ c.one := fun r hr c hc => by
  obtain ⟨x, _, rfl⟩ := List.mem_map.1 hr
  simp at hc; subst hc; simp [go_sem, C.shut]
set_option maxRecDepth 100000 in
theorem mDirect : ∀ N, Meets Try.prog 71 (diSp N)
  | 0 => ⟨by kernel_rfl, by rintro xs vs E ro w K _ _ _ ⟨t, _, _, _, h, _⟩; have := t.h_pos; omega⟩
  | N + 1 => by
    refine meets_fn Try.func71 ok71 1 (by rw [Try.ntmps71]; decide) (meetsAll_s (mDirect N) (meetsAll_nil _)) (fun av H K h => by obtain ⟨_, rfl, _⟩ := h; rfl) ?_
    rintro av H K ⟨⟨k, s, n, e⟩, rfl, rfl, h1, h2, h3, hK⟩
    have hle := h1.len
    have hoe := h1.e
    simp only [Ty.e] at hle hoe
    have hD := dirF.eq_1 k s n e
    simp (maxSteps := 1000000) -dsimp only [go_sem, tyC, tysC_map, pc71, rs71]
    refine ⟨fun c1 => ?_, fun c1 => ?_⟩
    · rw [c1, Bool.cond_true] at hD
      rw [hD] at hK
      refine .pub 1 _ _ _ rfl (.sel [] (by simp) (by simp [pubH]) rfl (.done ?_))
      simp -dsimp only [go_sem, pubH]
      simpa using hK
    · rw [c1, Bool.cond_false] at hD
      rw [hD] at hK h3
      refine vc_loop_gh (α := Nat) (fun i => [(1, .va (.c1 (.pt 0 0))), (3, .va (.c1 (.sl 1 (dirFs (e.take i)).length))), (4, iS .i64 i)]) (fun i => [.cells (tyC (.mk k s n e)) 40, .row ((dirFs (e.take i)).map stR) 9 1])
        (fun i => i ≤ e.length) (fun i => e.length - i) (.nil 3 9 1 rfl (gh_at 0 2 (Nat.zero_le _) ?_ ?_)) ?_
      · simp -dsimp only [go_sem] <;> simp [dirFs]
      · simp -dsimp only [go_sem, tyC, tysC_map] <;> simp [dirFs]
      intro i hi
      rcases Nat.lt_or_ge i e.length with hlt | hge
      · have hg : decide ((i : Int) < (e.length : Int)) = true := by simp; omega
        obtain ⟨u, hx⟩ : ∃ t, e[i]? = some t := ⟨_, List.getElem?_eq_getElem hlt⟩
        have q1 := row_rg' (row := tyC) hx
        have hu := List.mem_of_getElem? hx
        have htn : dirFs (e.take (i + 1)) = dirFs (e.take i) ++ dirF u := by rw [take_next hx, dirFs_app]; simp [dirFs]
        have hb : (dirFs (e.take (i + 1))).length ≤ 1000000000 := by
          have := dirFs_app (e.take (i + 1)) (e.drop (i + 1))
          rw [List.take_append_drop] at this
          rw [this, List.length_append] at h3; omega
        rw [htn, List.length_append] at hb
        simp (maxSteps := 1000000) -dsimp only [go_sem, hg, ↓q1, tyC_len, tyC, tysC_map]
        refine ⟨by omega, di_use (hoe u hu) ?_ ?_ ?_⟩
        · have := Ty.hs_mem hu; rw [Ty.h] at h2; omega
        · have := dirFs_mem hu; omega
        simp (maxSteps := 1000000) -dsimp only [go_sem, all_rows stR_len]
        refine ⟨stR_ss _, by omega, by omega, loop_next (i + 1) 2 (by omega) (by omega) ?_ ?_⟩
        · simp -dsimp only [go_sem, htn] <;> simp
        · simp -dsimp only [go_sem, tyC, tysC_map, htn] <;> simp
      · have hg : decide ((i : Int) < (e.length : Int)) = false := by simp; omega
        obtain rfl : i = e.length := by omega
        rw [List.take_length]
        simp (maxSteps := 1000000) -dsimp only [go_sem, hg, tyC, tysC_map]
        rw [← List.length_map (f := stR)]
        refine .pub 1 _ _ _ rfl (.sel [] (by simp) (by simp [pubH]) rfl (.done ?_))
        simp -dsimp only [go_sem, pubH]
        simpa using hK
def diSp0 : W.Spec := fun av H K => ∃ t : Ty, av = [.va (.gs (tyC t))] ∧ H = [] ∧ TyOk t ∧ (dirF t).length ≤ 1000000000 ∧ K (.va (.c1 (.fz ((dirF t).map stR)))) []
theorem di_use0 {t : Ty} {K : S → Hp → Prop} (h1 : TyOk t) (h3 : (dirF t).length ≤ 1000000000) (hK : K (.va (.c1 (.fz ((dirF t).map stR)))) []) : diSp0 [.va (.gs (tyC t))] [] K := ⟨t, rfl, rfl, h1, h3, hK⟩
theorem mDirect0 : Meets Try.prog 71 diSp0 := meets_all 0 mDirect fun _av _H _K ⟨t, e1, e2, h1, h3, hK⟩ => ⟨t.h, t, e1, e2, h1, Nat.le_refl _, h3, hK⟩
/-! ### put -/
def putG (x : ByteArray) : Bool → List ByteArray → List ByteArray
  | d, [] => bif d then [] else [x]
  | d, y :: r => bif !d && (Op.bytesLess (bl x) (bl y) || bl x == bl y) then (bif Op.bytesLess (bl x) (bl y) then x :: y :: putG x true r else y :: putG x true r) else y :: putG x d r
theorem putG_len (x : ByteArray) : ∀ (d : Bool) (l : List ByteArray), (putG x d l).length ≤ l.length + 1
  | d, [] => by cases d <;> simp [putG]
  | d, y :: r => by
    have h1 := putG_true x r
    have h2 := putG_len x d r
    rw [putG]
    cases d <;> cases Op.bytesLess (bl x) (bl y) <;> cases bl x == bl y <;> simp [h1] at h2 ⊢ <;> omega
where putG_true (x : ByteArray) : ∀ l, putG x true l = l
  | [] => rfl
  | y :: r => by rw [putG, putG_true x r]; rfl
def puSp : W.Spec := fun av H K => ∃ (l : List ByteArray) (x : ByteArray), av = [.va (.c1 (.fz (l.map stR))), tS x] ∧ H = [] ∧ l.length ≤ 1000000 ∧ K (.va (.c1 (.fz ((putG x false l).map stR)))) []
theorem pu_use {l : List ByteArray} {x : ByteArray} {K : S → Hp → Prop} (h : l.length ≤ 1000000) (hK : K (.va (.c1 (.fz ((putG x false l).map stR)))) []) : puSp [.va (.c1 (.fz (l.map stR))), tS x] [] K := ⟨l, x, rfl, rfl, h, hK⟩
set_option maxRecDepth 100000 in
theorem mPut : Meets Try.prog 72 puSp := by
  refine meets_fn Try.func72 ok72 2 (by rw [Try.ntmps72]; decide) (meetsAll_nil _) (fun av H K h => by obtain ⟨_, _, rfl, _⟩ := h; rfl) ?_
  rintro av H K ⟨l, x, rfl, rfl, hl, hK⟩
  have hlen := putG_len x false l
  simp (maxSteps := 1000000) -dsimp only [go_sem, pc72, rs72]
  refine vc_loop_gh (α := Nat × Bool × List ByteArray) (fun z => [(0, .va (.c1 (.fz (l.map stR)))), (1, tS x), (5, .va (.c1 (.sl 0 z.2.2.length))), (6, bS z.2.1), (7, iS .i64 z.1)]) (fun z => [.row (z.2.2.map stR) 9 1])
    (fun z => z.1 ≤ l.length ∧ z.2.2 ++ putG x z.2.1 (l.drop z.1) = putG x false l) (fun z => l.length - z.1) (.nil 5 9 1 rfl (gh_at (0, false, []) 1 ⟨Nat.zero_le _, rfl⟩ ?_ ?_)) ?_
  · simp -dsimp only [go_sem] <;> simp
  · simp -dsimp only [go_sem] <;> simp
  rintro ⟨i, d, o⟩ ⟨hi, ho⟩
  simp only at hi ho ⊢
  have hol : o.length ≤ l.length + 1 := by
    have := congrArg List.length ho
    rw [List.length_append] at this; omega
  rcases Nat.lt_or_ge i l.length with hlt | hge
  · have hg : decide ((i : Int) < (l.length : Int)) = true := by simp; omega
    obtain ⟨y, hx⟩ : ∃ t, l[i]? = some t := ⟨_, List.getElem?_eq_getElem hlt⟩
    have q1 := row_rg' (row := stR) hx
    have hdr : l.drop i = y :: l.drop (i + 1) := by
      obtain ⟨h, rfl⟩ := List.getElem?_eq_some_iff.1 hx
      exact List.drop_eq_getElem_cons h
    rw [hdr, putG] at ho
    have hst : ∀ (u : ByteArray), [[C.vl (.string u)]] = [u].map stR := fun _ => rfl
    cases d with
    | true =>
      simp only [Bool.not_true, Bool.false_and, Bool.cond_false] at ho
      simp (maxSteps := 1000000) -dsimp only [go_sem, hg, ↓q1]
      and_intros
      all_goals first
        | omega
        | skip
      refine loop_next (i + 1, true, o ++ [y]) 1 ⟨by simp only; omega, by simp only [List.append_assoc, List.singleton_append]; exact ho⟩ (by simp only; omega) ?_ ?_
      · simp -dsimp only [go_sem] <;> simp
      · simp -dsimp only [go_sem] <;> simp
    | false =>
      simp only [Bool.not_false, Bool.true_and] at ho
      cases c2 : Op.bytesLess (bl x) (bl y) with
      | true =>
        rw [c2] at ho
        simp only [Bool.true_or, Bool.cond_true] at ho
        simp (maxSteps := 1000000) -dsimp only [go_sem, hg, ↓q1, c2, Bool.true_or]
        and_intros
        all_goals first
          | omega
          | skip
        refine loop_next (i + 1, true, o ++ [x, y]) 1 ⟨by simp only; omega, by simp only [List.append_assoc, List.cons_append, List.nil_append]; exact ho⟩ (by simp only; omega) ?_ ?_
        · simp -dsimp only [go_sem] <;> simp
        · simp -dsimp only [go_sem] <;> simp
      | false =>
        rw [c2] at ho
        simp only [Bool.false_or, Bool.cond_false] at ho
        cases c3 : bl x == bl y with
        | true =>
          rw [c3] at ho
          simp only [Bool.cond_true] at ho
          simp (maxSteps := 1000000) -dsimp only [go_sem, hg, ↓q1, c2, c3, Bool.false_or]
          and_intros
          all_goals first
            | omega
            | skip
          refine loop_next (i + 1, true, o ++ [y]) 1 ⟨by simp only; omega, by simp only [List.append_assoc, List.singleton_append]; exact ho⟩ (by simp only; omega) ?_ ?_
          · simp -dsimp only [go_sem] <;> simp
          · simp -dsimp only [go_sem] <;> simp
        | false =>
          rw [c3] at ho
          simp only [Bool.cond_false] at ho
          simp (maxSteps := 1000000) -dsimp only [go_sem, hg, ↓q1, c2, c3, Bool.false_or]
          and_intros
          all_goals first
            | omega
            | skip
          refine loop_next (i + 1, false, o ++ [y]) 1 ⟨by simp only; omega, by simp only [List.append_assoc, List.singleton_append]; exact ho⟩ (by simp only; omega) ?_ ?_
          · simp -dsimp only [go_sem] <;> simp
          · simp -dsimp only [go_sem] <;> simp
  · have hg : decide ((i : Int) < (l.length : Int)) = false := by simp; omega
    obtain rfl : i = l.length := by omega
    rw [List.drop_length] at ho
    simp only [putG] at ho
    cases d with
    | true =>
      simp only [Bool.cond_true, List.append_nil] at ho
      rw [← ho] at hK
      simp (maxSteps := 1000000) -dsimp only [go_sem, hg]
      rw [← List.length_map (f := stR)]
      refine .pub 0 _ _ _ rfl (.sel [] (by simp) (by simp [pubH]) rfl (.done ?_))
      simp -dsimp only [go_sem, pubH]
      simpa using hK
    | false =>
      simp only [Bool.cond_false] at ho
      rw [← ho] at hK
      simp (maxSteps := 1000000) -dsimp only [go_sem, hg]
      refine ⟨by omega, ?_⟩
      have e1 : o.length + 1 = ((o ++ [x]).map stR).length := by simp
      have e2 : o.map stR ++ [[C.vl (.string x)]] = (o ++ [x]).map stR := by simp
      rw [e1, e2]
      refine .pub 0 _ _ _ rfl (.sel [] (by simp) (by simp [pubH]) rfl (.done ?_))
      simp -dsimp only [go_sem, pubH]
      simpa using hK
end Go.Proofs.Ytpfmkfafagiicaa
/- Ascending lists of names. -/
namespace Go.Proofs.Ytpfmkfafagiicaa
open Go.W
abbrev ltS (a b : ByteArray) : Prop := bl a < bl b
theorem blessL (x : List UInt8) : ∀ y : List UInt8, Op.bytesLess x y = decide (x < y) := by
  induction x with
  | nil => intro y; cases y <;> simp [Op.bytesLess]
  | cons a x ih =>
    intro y
    cases y with
    | nil => simp [Op.bytesLess]
    | cons b y =>
      have := ih y
      rw [Op.bytesLess, this, Bool.eq_iff_iff]
      simp [List.cons_lt_cons_iff]
theorem bless (a b : ByteArray) : Op.bytesLess (bl a) (bl b) = decide (ltS a b) := blessL _ _
theorem ltS_irrefl (a : ByteArray) : ¬ ltS a a := List.lt_irrefl _
theorem ltS_trans {a b c : ByteArray} (h : ltS a b) (h2 : ltS b c) : ltS a c := List.lt_trans h h2
theorem ltS_total {a b : ByteArray} (h : ¬ ltS a b) (h2 : a ≠ b) : ltS b a := by
  have h3 : bl b ≤ bl a := List.not_lt.1 h
  exact Std.lt_of_le_of_ne h3 (fun e => h2 (bl_inj e.symm))
def Asc (l : List ByteArray) : Prop := l.Pairwise ltS
theorem asc_ext : ∀ {a b : List ByteArray}, Asc a → Asc b → (∀ x, x ∈ a ↔ x ∈ b) → a = b
  | [], [], _, _, _ => rfl
  | [], y :: b, _, _, h => by have := (h y).2 List.mem_cons_self; cases this
  | x :: a, [], _, _, h => by have := (h x).1 List.mem_cons_self; cases this
  | x :: a, y :: b, h1, h2, h => by
    obtain ⟨p1, p2⟩ := List.pairwise_cons.1 h1
    obtain ⟨p3, p4⟩ := List.pairwise_cons.1 h2
    have e : x = y := by
      rcases List.mem_cons.1 ((h x).1 List.mem_cons_self) with e | e
      · exact e
      · rcases List.mem_cons.1 ((h y).2 List.mem_cons_self) with e2 | e2
        · exact e2.symm
        · exact absurd (ltS_trans (p1 y e2) (p3 x e)) (ltS_irrefl x)
    subst e
    rw [asc_ext p2 p4 fun z => ?_]
    constructor
    · intro hz
      rcases List.mem_cons.1 ((h z).1 (List.mem_cons_of_mem _ hz)) with e | e
      · exact absurd (p1 z hz) (by rw [e]; exact ltS_irrefl x)
      · exact e
    · intro hz
      rcases List.mem_cons.1 ((h z).2 (List.mem_cons_of_mem _ hz)) with e | e
      · exact absurd (p3 z hz) (by rw [e]; exact ltS_irrefl x)
      · exact e
theorem Asc.nodup {l : List ByteArray} (h : Asc l) : l.Nodup := by
  unfold List.Nodup
  refine List.Pairwise.imp ?_ h
  intro a b h e
  subst e
  exact ltS_irrefl a h
theorem putG_true (x : ByteArray) : ∀ l, putG x true l = l
  | [] => rfl
  | y :: r => by rw [putG, putG_true x r]; rfl
theorem putG_mem {x z : ByteArray} : ∀ {l : List ByteArray}, z ∈ putG x false l ↔ z = x ∨ z ∈ l
  | [] => by simp [putG]
  | y :: r => by
    rw [putG, putG_true]
    cases c1 : Op.bytesLess (bl x) (bl y) with
    | true => simp
    | false =>
      cases c2 : bl x == bl y with
      | true =>
        have : x = y := bl_inj (by simpa using c2)
        subst this
        simp
      | false =>
        have := putG_mem (x := x) (z := z) (l := r)
        simp [this]
        constructor
        · rintro (h | h | h)
          · exact .inr (.inl h)
          · exact .inl h
          · exact .inr (.inr h)
        · rintro (h | h | h)
          · exact .inr (.inl h)
          · exact .inl h
          · exact .inr (.inr h)
theorem putG_asc {x : ByteArray} : ∀ {l : List ByteArray}, Asc l → Asc (putG x false l)
  | [], _ => by simp [putG, Asc]
  | y :: r, h => by
    obtain ⟨p1, p2⟩ := List.pairwise_cons.1 h
    rw [putG, putG_true]
    cases c1 : Op.bytesLess (bl x) (bl y) with
    | true =>
      rw [bless] at c1
      have c1 := of_decide_eq_true c1
      simp only [Bool.not_false, Bool.true_or, Bool.and_true, Bool.cond_true]
      refine List.pairwise_cons.2 ⟨fun z hz => ?_, h⟩
      rcases List.mem_cons.1 hz with rfl | hz
      · exact c1
      · exact ltS_trans c1 (p1 z hz)
    | false =>
      cases c2 : bl x == bl y with
      | true => exact h
      | false =>
        rw [bless] at c1
        have c1 := of_decide_eq_false c1
        have c2 : x ≠ y := fun e => by subst e; simp at c2
        simp only [Bool.not_false, Bool.true_and, Bool.or_self, Bool.cond_false]
        refine List.pairwise_cons.2 ⟨fun z hz => ?_, putG_asc p2⟩
        rcases putG_mem.1 hz with rfl | hz
        · exact ltS_total c1 c2
        · exact p1 z hz
theorem asc_srtB {l : List ByteArray} (h : l.Nodup) : Asc (srtB l) := by
  have h1 : ((l.map bl).mergeSort fun x y => decide (x ≤ y)).Pairwise fun a b => decide (a ≤ b) = true :=
    List.pairwise_mergeSort (le := fun (x y : List UInt8) => decide (x ≤ y)) (fun (a b c : List UInt8) h1 h2 => decide_eq_true (List.le_trans (of_decide_eq_true h1) (of_decide_eq_true h2))) (fun (a b : List UInt8) => by
      rcases List.le_total a b with h | h <;> simp [h]) _
  have h2 : ((l.map bl).mergeSort fun x y => decide (x ≤ y)).Nodup := by
    rw [(List.mergeSort_perm _ _).nodup_iff]
    exact List.Pairwise.map bl (fun a b (hab : a ≠ b) e => hab (bl_inj e)) h
  unfold srtB Asc
  rw [List.pairwise_map]
  refine List.Pairwise.imp₂ (fun a b h1 h2 => ?_) h1 h2
  exact Std.lt_of_le_of_ne (of_decide_eq_true h1) h2
theorem usesF_asc (ss : List St) (n : ByteArray) : Asc (usesF ss n) := asc_srtB (visAll_nodup ss n)
/-! ### What a valid type refers to -/
theorem plain_nil {e : List Ty} (h : ((e.length : Int) == 0) = true) : e = [] := by simpa using h
theorem dir_val (ss : List St) (es : List En) : ∀ (N : Nat) (t : Ty), t.h ≤ N → valF ss es t = true → dirF t = bif isNamed t then [nmOf t] else []
  | 0, t, h, _ => absurd h (by have := t.h_pos; omega)
  | N + 1, .mk k s n e, h, hv => by
    cases k5 : k == 5 with
    | true =>
      obtain rfl : k = 5 := by simpa using k5
      obtain ⟨u, rfl, hu⟩ := val_list hv
      have := dir_val ss es N u (by rw [Ty.h, Ty.hs, Ty.hs] at h; omega) hu
      unfold isNamed nmOf
      rw [named_one]
      rw [dirF, dirFs, dirFs, List.append_nil, this]
      rfl
    | false =>
      have h1 : namedT (.mk k s n e) = .mk k s n e := named_stop (by rw [k5]; rfl)
      unfold isNamed nmOf
      rw [h1, dirF]
      simp only [Ty.k, Ty.n]
      cases k67 : (k == 6 || k == 7) with
      | true => rfl
      | false =>
        have he : e = [] := by
          rw [Bool.or_eq_false_iff] at k67
          rw [valF, k5, k67.1, k67.2] at hv
          cases k1 : k == 1 <;> cases k2 : k == 2 <;> cases k3 : k == 3 <;> cases k4 : k == 4 <;> rw [k1, k2, k3, k4] at hv <;> simp only [Bool.cond_true, Bool.cond_false, Bool.and_eq_true, reduceCtorEq] at hv <;> first | exact plain_nil hv.2 | exact absurd hv (by decide)
        subst he; rfl
theorem dir_valF {ss : List St} {es : List En} {t : Ty} (hv : valF ss es t = true) : dirF t = bif isNamed t then [nmOf t] else [] := dir_val ss es t.h t (Nat.le_refl _) hv
end Go.Proofs.Ytpfmkfafagiicaa
/- The reference: used. -/
namespace Go.Proofs.Ytpfmkfafagiicaa
open Go.W
structure UI (ss : List St) (n : ByteArray) (i : Nat) (todo o : List ByteArray) : Prop where
  hd : ∃ r, todo = n :: r ∧ r.Nodup ∧ ∀ x, x ∈ o ↔ x ∈ r
  rc : ∀ x ∈ o, Reach ss n x
  dn : ∀ j a, j < i → todo[j]? = some a → ∀ y, isRef ss a y → y ∈ o
  asc : Asc o
theorem UI.init (ss : List St) (n : ByteArray) : UI ss n 0 [n] [] := ⟨⟨[], rfl, .nil, fun _x => Iff.rfl⟩, fun _x h => (List.not_mem_nil h).elim, fun _j _a h => absurd h (Nat.not_lt_zero _), List.Pairwise.nil⟩
theorem nm_len {ss : List St} {es : List En} (g : Gd ss es) {n : ByteArray} {l : List ByteArray} (h : l.Nodup) (hr : ∀ x ∈ l, Reach ss n x) : l.length ≤ 32 := Nat.le_trans (nodup_sub h fun x hx => (mem_visAll ss n x).2 (hr x hx)) (g.vlen n)
theorem UI.len {ss : List St} {es : List En} (g : Gd ss es) {n : ByteArray} {i : Nat} {todo o : List ByteArray} (h : UI ss n i todo o) : todo.length ≤ 33 ∧ o.length ≤ 32 := by
  obtain ⟨r, rfl, h1, h2⟩ := h.hd
  have := nm_len g h1 fun x hx => h.rc x ((h2 x).2 hx)
  have := nm_len g h.asc.nodup h.rc
  simp only [List.length_cons]; omega
theorem UI.rch {ss : List St} {n : ByteArray} {i k : Nat} {todo o : List ByteArray} (h : UI ss n i todo o) {a y : ByteArray} (ha : todo[k]? = some a) (hy : isRef ss a y) : Reach ss n y := by
  obtain ⟨r, rfl, h1, h2⟩ := h.hd
  cases k with
  | zero => simp at ha; subst ha; exact .one hy
  | succ k =>
    simp at ha
    exact .more (h.rc a ((h2 a).2 (List.mem_of_getElem? ha))) hy
theorem UI.add {ss : List St} {n : ByteArray} {i : Nat} {todo o : List ByteArray} (h : UI ss n i todo o) {y : ByteArray} (hr : Reach ss n y) (hy : y ∉ o) (hi : i ≤ todo.length) : UI ss n i (todo ++ [y]) (putG y false o) := by
  obtain ⟨r, rfl, h1, h2⟩ := h.hd
  refine ⟨⟨r ++ [y], by simp, ?_, fun x => ?_⟩, fun x hx => ?_, fun j a hj ha z hz => ?_, putG_asc h.asc⟩
  · rw [List.nodup_append]
    exact ⟨h1, by simp, fun a ha b hb => by simp at hb; subst hb; exact fun e => hy ((h2 b).2 (e ▸ ha))⟩
  · rw [putG_mem, h2]; simp [or_comm]
  · rcases putG_mem.1 hx with rfl | hx
    · exact hr
    · exact h.rc x hx
  · rw [List.getElem?_append_left (by omega)] at ha
    exact putG_mem.2 (.inr (h.dn j a hj ha z hz))
theorem UI.next {ss : List St} {n : ByteArray} {i : Nat} {todo o : List ByteArray} (h : UI ss n i todo o) {a : ByteArray} (ha : todo[i]? = some a) (hy : ∀ y, isRef ss a y → y ∈ o) : UI ss n (i + 1) todo o := by
  refine ⟨h.hd, h.rc, fun j b hj hb y hyb => ?_, h.asc⟩
  rcases Nat.lt_or_ge j i with h4 | h4
  · exact h.dn j b h4 hb y hyb
  · obtain rfl : j = i := by omega
    rw [ha] at hb; obtain rfl := Option.some.inj hb
    exact hy y hyb
theorem UI.fin {ss : List St} {n : ByteArray} {todo o : List ByteArray} (h : UI ss n todo.length todo o) : o = usesF ss n := by
  refine asc_ext h.asc (usesF_asc ss n) fun x => ?_
  rw [mem_usesF]
  refine ⟨h.rc x, fun hx => ?_⟩
  obtain ⟨r, e, h1, h2⟩ := h.hd
  have hn : ∀ y, isRef ss n y → y ∈ o := h.dn 0 n (by rw [e]; simp) (by rw [e]; rfl)
  induction hx with
  | one h => exact hn _ h
  | more _ h3 ih =>
    obtain ⟨j, hj⟩ := List.mem_iff_getElem?.1 ((h2 _).1 ih)
    rename_i b c _
    have hj2 : todo[j + 1]? = some b := by rw [e]; simpa using hj
    exact h.dn (j + 1) _ (List.getElem?_eq_some_iff.1 hj2).1 hj2 _ h3
def udSp : W.Spec := fun av H K => ∃ (s : Sc) (n : ByteArray), av = [.va (.gs (scC s)), tS n] ∧ H = [] ∧ s.fit ∧ Gd s.ss s.es ∧ K (.va (.c1 (.fz ((usesF s.ss n).map stR)))) []
theorem ud_use {s : Sc} {n : ByteArray} {K : S → Hp → Prop} (h : s.fit) (g : Gd s.ss s.es) (hK : K (.va (.c1 (.fz ((usesF s.ss n).map stR)))) []) : udSp [.va (.gs (scC s)), tS n] [] K := ⟨s, n, rfl, rfl, h, g, hK⟩
theorem dir_len {ss : List St} {es : List En} {t : Ty} (hv : valF ss es t = true) : (dirF t).length ≤ 1 := by
  rw [dir_valF hv]; cases isNamed t <;> simp
theorem dir_mem {ss : List St} {es : List En} {t : Ty} (hv : valF ss es t = true) {y : ByteArray} : y ∈ dirF t ↔ isNamed t = true ∧ nmOf t = y := by
  rw [dir_valF hv]; cases isNamed t <;> simp [eq_comm]
set_option maxRecDepth 100000 in
set_option maxHeartbeats 2000000 in
theorem mUsed : Meets Try.prog 47 udSp := by
  refine meets_fn Try.func47 ok47 2 (by rw [Try.ntmps47]; decide) (meetsAll_s mRStruct (meetsAll_s mDirect0 (meetsAll_f mRIn (meetsAll_s mPut (meetsAll_nil _))))) (fun av H K h => by obtain ⟨_, _, rfl, _⟩ := h; rfl) ?_
  rintro av H K ⟨s, n, rfl, rfl, hs, g, hK⟩
  simp (maxSteps := 1000000) -dsimp only [go_sem, scC, pc47, rs47]
  refine vc_loop_gh (α := Nat × List ByteArray × List ByteArray) (fun z => [(2, .va (.c1 (.pt 0 0))), (5, .va (.c1 (.fz (z.2.2.map stR)))), (6, .va (.c1 (.sl 1 z.2.1.length))), (7, iS .i64 z.1)]) (fun z => [.cells (scC s) 25, .row (z.2.1.map stR) 9 1])
    (fun z => z.1 ≤ z.2.1.length ∧ UI s.ss n z.1 z.2.1 z.2.2) (fun z => 34 - z.1) (.nf 5 (gh_at (0, [n], []) 2 ⟨Nat.zero_le _, UI.init _ _⟩ ?_ ?_)) ?_
  · simp -dsimp only [go_sem] <;> simp
  · simp -dsimp only [go_sem, scC] <;> simp
  rintro ⟨i, todo, o⟩ ⟨hi, hu⟩
  simp only at hi hu ⊢
  obtain ⟨htl, hol⟩ := hu.len g
  rcases Nat.lt_or_ge i todo.length with hlt | hge
  · have hg : decide ((i : Int) < (todo.length : Int)) = true := by simp; omega
    obtain ⟨a, ha⟩ : ∃ a, todo[i]? = some a := ⟨_, List.getElem?_eq_getElem hlt⟩
    have q1 := row_rg' (row := stR) ha
    simp (maxSteps := 1000000) -dsimp only [go_sem, hg, scC, ha, Option.some.injEq, forall_eq']
    refine ⟨by omega, hlt, stp_use hs ?_⟩
    generalize hx : (fS s.ss a).getD default = x
    have hxf : ∀ f ∈ x.fs, f.ok ∧ valF s.ss s.es f.ty = true := fun f hf => by
      cases hc : fS s.ss a with
      | none => rw [hc] at hx; subst hx; cases hf
      | some t =>
        rw [hc] at hx
        subst hx
        exact ⟨(hs.ok.ss _ (fS_mem hc).1).fs f hf, g.val _ (fS_mem hc).1 f hf⟩
    have hxl : x.fs.length ≤ 9223372036854775807 := by
      cases hc : fS s.ss a with
      | none => rw [hc] at hx; subst hx; exact Nat.zero_le _
      | some t => rw [hc] at hx; subst hx; exact (hs.ok.ss _ (fS_mem hc).1).len
    have hxr : ∀ y, isRef s.ss a y ↔ refT x y := fun y => by unfold isRef; rw [hx]
    simp (maxSteps := 1000000) -dsimp only [go_sem, stC]
    refine vc_loop (α := Nat × List ByteArray × List ByteArray) (fun z => [(2, .va (.c1 (.pt 0 0))), (5, .va (.c1 (.fz (z.2.2.map stR)))), (6, .va (.c1 (.sl 1 z.2.1.length))), (7, iS .i64 i), (8, .va (.c1 (.pt 2 0))), (10, iS .i64 z.1)]) (fun z => [.cells (scC s) 25, .row (z.2.1.map stR) 9 1, .cells (stC x) 32])
      (fun z => z.1 ≤ x.fs.length ∧ z.2.1[i]? = some a ∧ UI s.ss n i z.2.1 z.2.2 ∧ ∀ f ∈ x.fs.take z.1, isNamed f.ty = true → nmOf f.ty ∈ z.2.2) (fun z => x.fs.length - z.1) (0, todo, o) 3 ⟨Nat.zero_le _, ha, hu, fun f hf => by cases hf⟩ ?_ ?_ ?_
    · simp -dsimp only [go_sem] <;> simp
    · simp -dsimp only [go_sem, scC, stC] <;> simp
    clear hu ha hlt hi htl hol hg q1
    rintro ⟨k, td, o⟩ ⟨hk, ha, hu, hr⟩
    simp only at hk ha hu hr ⊢
    obtain ⟨htl, hol⟩ := hu.len g
    have hil := (List.getElem?_eq_some_iff.1 ha).1
    rcases Nat.lt_or_ge k x.fs.length with hlt | hge
    · have hg : decide ((k : Int) < (x.fs.length : Int)) = true := by simp; omega
      obtain ⟨f, hf⟩ : ∃ a, x.fs[k]? = some a := ⟨_, List.getElem?_eq_getElem hlt⟩
      have q1 := row_rg' (row := flC) hf
      obtain ⟨hfo, hfv⟩ := hxf f (List.mem_of_getElem? hf)
      simp (maxSteps := 1000000) -dsimp only [go_sem, hg, ↓q1, scC, stC, flC, fl_ty]
      have hdl := dir_len hfv
      refine ⟨by omega, di_use0 hfo.ty (by omega) ?_⟩
      simp (maxSteps := 1000000) -dsimp only [go_sem]
      have hdm : ∀ y ∈ dirF f.ty, Reach s.ss n y := fun y hy => by
        obtain ⟨h1, h2⟩ := (dir_mem hfv).1 hy
        exact hu.rch ha ((hxr y).2 ⟨f, List.mem_of_getElem? hf, h1, h2⟩)
      have hdf : (∀ o' : List ByteArray, (∀ y ∈ dirF f.ty, y ∈ o') → (∀ f ∈ x.fs.take k, isNamed f.ty = true → nmOf f.ty ∈ o') → ∀ f ∈ x.fs.take (k + 1), isNamed f.ty = true → nmOf f.ty ∈ o') := fun o' h1 h2 f' hf' hn => by
        rw [take_next hf] at hf'
        rcases List.mem_append.1 hf' with h | h
        · exact h2 f' h hn
        · obtain rfl : f' = f := by simpa using h
          exact h1 _ ((dir_mem hfv).2 ⟨hn, rfl⟩)
      generalize dirF f.ty = l at *
      refine vc_loop (α := Nat × List ByteArray × List ByteArray) (fun z => [(2, .va (.c1 (.pt 0 0))), (5, .va (.c1 (.fz (z.2.2.map stR)))), (6, .va (.c1 (.sl 1 z.2.1.length))), (7, iS .i64 i), (8, .va (.c1 (.pt 2 0))), (10, iS .i64 k), (11, .va (.c1 (.fz (l.map stR)))), (12, iS .i64 z.1)]) (fun z => [.cells (scC s) 25, .row (z.2.1.map stR) 9 1, .cells (stC x) 32])
        (fun z => z.1 ≤ l.length ∧ z.2.1[i]? = some a ∧ UI s.ss n i z.2.1 z.2.2 ∧ (∀ f ∈ x.fs.take k, isNamed f.ty = true → nmOf f.ty ∈ z.2.2) ∧ ∀ y ∈ l.take z.1, y ∈ z.2.2) (fun z => l.length - z.1) (0, td, o) 3 ⟨Nat.zero_le _, ha, hu, hr, fun f hf => by cases hf⟩ ?_ ?_ ?_
      · simp -dsimp only [go_sem] <;> simp
      · simp -dsimp only [go_sem, scC, stC] <;> simp
      clear hu ha hil htl hol hg q1 hr
      rintro ⟨j, td, o⟩ ⟨hj, ha, hu, hr, hjm⟩
      simp only at hj ha hu hr hjm ⊢
      obtain ⟨htl, hol⟩ := hu.len g
      have hil := (List.getElem?_eq_some_iff.1 ha).1
      rcases Nat.lt_or_ge j l.length with hjt | hjg
      · have hg : decide ((j : Int) < (l.length : Int)) = true := by simp; omega
        obtain ⟨y, hy⟩ : ∃ a, l[j]? = some a := ⟨_, List.getElem?_eq_getElem hjt⟩
        have q1 := row_rg' (row := stR) hy
        have hbs : isBs (o.map stR) := isBs_mk (by omega)
        have e0 : (0 ≤ (o.length : Int)) = True := by simp
        have e1 : ((o.length : Int) ≤ 9223372036854775807) = True := by simp; omega
        have hto : o.take o.length = o := List.take_length
        have hjm' : ∀ o' : List ByteArray, (∀ z ∈ o, z ∈ o') → y ∈ o' → ∀ z ∈ l.take (j + 1), z ∈ o' := fun o' h1 h2 z hz => by
          rw [take_next hy] at hz
          rcases List.mem_append.1 hz with h | h
          · exact h1 z (hjm z h)
          · obtain rfl : z = y := by simpa using h
            exact h2
        cases hc : inB o y with
        | true =>
          simp (maxSteps := 1000000) -dsimp only [go_sem, hg, ↓q1, scC, stC, hbs, e0, e1, Int.toNat_natCast, hto, hc]
          refine ⟨by omega, by omega, loop_next (j + 1, td, o) 3 ⟨by simp only; omega, ha, hu, hr, hjm' o (fun z h => h) ((inB_iff _ _).1 hc)⟩ (by simp only; omega) ?_ ?_⟩
          · simp -dsimp only [go_sem] <;> simp
          · simp -dsimp only [go_sem, scC, stC] <;> simp
        | false =>
          have hyo := not_inB.1 hc
          have hua := hu.add (hdm y (List.mem_of_getElem? hy)) hyo (by omega)
          have hmo : ∀ z ∈ o, z ∈ putG y false o := fun z hz => putG_mem.2 (.inr hz)
          have ha' : (td ++ [y])[i]? = some a := by rw [List.getElem?_append_left hil]; exact ha
          simp (maxSteps := 1000000) -dsimp only [go_sem, hg, ↓q1, scC, stC, hbs, e0, e1, Int.toNat_natCast, hto, hc]
          refine ⟨by omega, by omega, pu_use (by omega) ?_⟩
          simp (maxSteps := 1000000) -dsimp only [go_sem]
          and_intros
          all_goals first
            | omega
            | skip
          refine loop_next (j + 1, td ++ [y], putG y false o) 3 ⟨by simp only; omega, ha', hua, fun f hf hn => hmo _ (hr f hf hn), hjm' _ hmo (putG_mem.2 (.inl rfl))⟩ (by simp only; omega) ?_ ?_
          · simp -dsimp only [go_sem] <;> simp
          · simp -dsimp only [go_sem, scC, stC] <;> simp
      · have hg : decide ((j : Int) < (l.length : Int)) = false := by simp; omega
        obtain rfl : j = l.length := by omega
        rw [List.take_length] at hjm
        simp (maxSteps := 1000000) -dsimp only [go_sem, hg, scC, stC]
        refine ⟨by omega, loop_next (k + 1, td, o) 3 ⟨by simp only; omega, ha, hu, hdf o hjm hr⟩ (by simp only; omega) ?_ ?_⟩
        · simp -dsimp only [go_sem] <;> simp
        · simp -dsimp only [go_sem, scC, stC] <;> simp
    · have hg : decide ((k : Int) < (x.fs.length : Int)) = false := by simp; omega
      obtain rfl : k = x.fs.length := by omega
      rw [List.take_length] at hr
      simp (maxSteps := 1000000) -dsimp only [go_sem, hg, scC, stC]
      refine ⟨by omega, loop_next (i + 1, td, o) 2 ⟨by simp only; omega, hu.next ha fun y hy => ?_⟩ (by simp only; omega) ?_ ?_⟩
      · obtain ⟨f, h1, h2, rfl⟩ := (hxr y).1 hy
        exact hr f h1 h2
      · simp -dsimp only [go_sem] <;> simp
      · simp -dsimp only [go_sem, scC] <;> simp
  · have hg : decide ((i : Int) < (todo.length : Int)) = false := by simp; omega
    obtain rfl : i = todo.length := by omega
    obtain rfl := hu.fin
    simp (maxSteps := 1000000) -dsimp only [go_sem, hg, scC]
    exact .sel [] (by simp) (by simp) rfl (.done (by simpa [go_sem] using hK))
end Go.Proofs.Ytpfmkfafagiicaa
/- The reference: typeDepth. -/
namespace Go.Proofs.Ytpfmkfafagiicaa
open Go.W
def dIx : List St → List Int → ByteArray → Int
  | s :: ss, d :: ds, n => bif decide (s.nm = n) then d else dIx ss ds n
  | _, _, _ => 0
theorem dIx_step {ss : List St} {ds : List Int} {i : Nat} {x : St} {d : Int} (hx : ss[i]? = some x) (hd : ds[i]? = some d) (n : ByteArray) : dIx (ss.drop i) (ds.drop i) n = bif decide (x.nm = n) then d else dIx (ss.drop (i + 1)) (ds.drop (i + 1)) n := by
  obtain ⟨h, rfl⟩ := List.getElem?_eq_some_iff.1 hx
  obtain ⟨h2, rfl⟩ := List.getElem?_eq_some_iff.1 hd
  rw [List.drop_eq_getElem_cons h, List.drop_eq_getElem_cons h2]; rfl
theorem dIx_end {ss : List St} {ds : List Int} (n : ByteArray) : dIx (ss.drop ss.length) ds n = 0 := by rw [List.drop_length]; simp [dIx]
theorem dIx_none {n : ByteArray} : ∀ {ss : List St} {ds : List Int}, fS ss n = none → dIx ss ds n = 0
  | [], _, _ => by simp [dIx]
  | s :: ss, [], _ => by simp [dIx]
  | s :: ss, d :: ds, h => by
    unfold fS at h
    rw [List.find?_cons] at h
    rw [dIx]
    cases hc : decide (s.nm = n) with
    | true => rw [hc] at h; simp at h
    | false => rw [hc] at h; exact dIx_none (ss := ss) h
theorem dIx_some {n : ByteArray} {u : St} : ∀ {ss : List St} {ds : List Int}, ss.length = ds.length → fS ss n = some u → ∃ j : Nat, ss[j]? = some u ∧ ds[j]? = some (dIx ss ds n)
  | [], _, _, h => by cases h
  | s :: ss, [], hl, _ => by simp at hl
  | s :: ss, d :: ds, hl, h => by
    unfold fS at h
    rw [List.find?_cons] at h
    rw [dIx]
    cases hc : decide (s.nm = n) with
    | true =>
      rw [hc] at h
      obtain rfl : s = u := by simpa using h
      exact ⟨0, rfl, rfl⟩
    | false =>
      rw [hc] at h
      obtain ⟨j, h1, h2⟩ := dIx_some (ss := ss) (ds := ds) (by simpa using hl) h
      exact ⟨j + 1, by simpa using h1, by simpa using h2⟩
def isIn (rs : List (List C)) : Prop := ∃ l : List Int, rs = l.map inR
def tdPre (N : Nat) : List S → Prop := fun av => match av with
  | [.va (.gs r), .va (.c1 (.fz ds)), .va (.gs q)] => isScF r ∧ (isIn ds ∧ ds.length = (C.sc r).ss.length ∧ ∀ d ∈ ds.map C.it, 0 ≤ d ∧ d ≤ 1000000000000) ∧ isTy q ∧ (lvT (C.ty q)).1 ≤ 1000000000 ∧ (C.ty q).h ≤ N
  | _ => False
theorem tdPre_open {N : Nat} {av : List S} (h : tdPre N av) : ∃ (s : Sc) (l : List Int) (t : Ty), av = [.va (.gs (scC s)), .va (.c1 (.fz (l.map inR))), .va (.gs (tyC t))] ∧ s.fit ∧ (l.length = s.ss.length ∧ ∀ d ∈ l, 0 ≤ d ∧ d ≤ 1000000000000) ∧ TyOk t ∧ (lvT t).1 ≤ 1000000000 ∧ t.h ≤ N := by
  unfold tdPre at h
  split at h
  · obtain ⟨⟨a, rfl, ha⟩, ⟨⟨l, rfl⟩, h1, h2⟩, ⟨b, rfl, hb⟩, h3, h4⟩ := h
    rw [ty_dec] at h3 h4
    rw [sc_dec] at h1
    rw [it_map] at h2
    exact ⟨a, l, b, rfl, ha, ⟨by simpa using h1, h2⟩, hb, h3, h4⟩
  · exact h.elim
noncomputable def tdVal : List S → A := fun av => match av with
  | [.va (.gs r), .va (.c1 (.fz ds)), .va (.gs q)] => iA .i64 (fdep (dIx (C.sc r).ss (ds.map C.it)) (C.ty q))
  | _ => .gs []
noncomputable def tdFn (N : Nat) : Fun := ⟨tdPre N, tdVal, fun av h => by obtain ⟨a, l, b, rfl, _⟩ := tdPre_open h; trivial⟩
theorem tdFn_len {N : Nat} : ∀ av H K, (tdFn N).sp av H K → av.length = 3 := fun av H K h => by obtain ⟨a, l, b, rfl, _⟩ := tdPre_open h.1.1; rfl
attribute [go_sem] tdFn tdPre tdVal
theorem lvT_cons {s : Int} {n : ByteArray} {u : Ty} {r : List Ty} : lvT (.mk 5 s n (u :: r)) = ((lvT u).1 + 1, (lvT u).2) := by simp [lvT, lvL]
theorem lvT_stop {k s : Int} {n : ByteArray} {e : List Ty} (h : (k == 5 && decide (0 < (e.length : Int))) = false) : lvT (.mk k s n e) = (0, .mk k s n e) := by
  rw [lvT]
  cases hk : k == 5 with
  | false => rfl
  | true =>
    rw [hk, Bool.true_and] at h
    have : e = [] := List.length_eq_zero_iff.1 (by simp at h; simp [h])
    subst this; rfl
theorem fdep_cons {dp : ByteArray → Int} {s : Int} {n : ByteArray} {u : Ty} {r : List Ty} : fdep dp (.mk 5 s n (u :: r)) = 1 + fdep dp u := by unfold fdep; rw [lvT_cons]; simp only; omega
theorem it_rows (l : List Int) : (l.map inR).length = l.length := by simp
set_option maxRecDepth 100000 in
set_option maxHeartbeats 4000000 in
theorem mTypeDepth' : ∀ N, Meets Try.prog 53 (tdFn N).sp
  | 0 => ⟨by kernel_rfl, by rintro xs vs E ro w K _ _ _ ⟨⟨h, _⟩, _⟩; obtain ⟨_, _, a, _, _, _, _, _, h⟩ := tdPre_open h; have := a.h_pos; omega⟩
  | N + 1 => by
    refine meets_fn Try.func53 ok53 3 (by rw [Try.ntmps53]; decide) (meetsAll_f (mTypeDepth' N) (meetsAll_nil _)) tdFn_len ?_
    rintro av H K ⟨⟨h, rfl⟩, hK⟩
    obtain ⟨sc, l, t, rfl, hs, ⟨hl, hb⟩, ht, hlv, hh⟩ := tdPre_open h
    have hK : K (iS .i64 (fdep (dIx sc.ss l) t)) [] := by
      have : (tdFn (N + 1)).val [.va (.gs (scC sc)), .va (.c1 (.fz (l.map inR))), .va (.gs (tyC t))] = iA .i64 (fdep (dIx sc.ss l) t) := by simp -dsimp only [go_sem, it_map]
      rw [this] at hK; exact hK
    clear h
    have hls := hs.ok.ls
    have fin : ∀ (b : Int) (R : Hp), fdep (dIx sc.ss l) t = b → W.Fin 0 K (iS .i64 b) R := fun b R h => by
      rw [h] at hK
      exact .sel [] (by simp) (by simp) rfl (.done (by simp -dsimp only [go_sem]; simpa using hK))
    have hsf := isScF_mk hs
    rw [scC] at hsf
    have hsd := sc_dec sc
    rw [scC] at hsd
    obtain ⟨k, s, n, e⟩ := t
    have hte := ht.e
    have hte2 := ht.len
    simp only [Ty.e] at hte hte2
    have hin : isIn (l.map inR) := ⟨l, rfl⟩
    have hr1 : ((l.map inR).length = sc.ss.length) = True := by simp [hl]
    have hr2 : (∀ d : Int, d ∈ l → 0 ≤ d ∧ d ≤ 1000000000000) = True := eq_true hb
    simp (maxSteps := 1000000) -dsimp only [go_sem, scC, tyC, tysC_map, pc53, rs53]
    cases c1 : (k == 5 && decide (0 < (e.length : Int))) with
    | true =>
      simp only [Bool.and_eq_true, beq_iff_eq, decide_eq_true_eq] at c1
      obtain ⟨rfl, c1⟩ := c1
      obtain ⟨u, r, rfl⟩ : ∃ u r, e = u :: r := by
        cases e with
        | nil => simp at c1
        | cons u r => exact ⟨u, r, rfl⟩
      rw [lvT_cons] at hlv
      have hux : (u :: r)[0]? = some u := rfl
      have q1 := row_rg (row := tyC) hux
      have hu : isTy (tyC u) := isTy_mk (hte u List.mem_cons_self)
      have huh : u.h ≤ N := by rw [Ty.h, Ty.hs] at hh; omega
      refine ⟨fun _ => ?_, fun h => by simp at h⟩
      have hul : ((lvT u).1 ≤ 1000000000) = True := eq_true (by simp only at hlv; omega)
      have huh' : (u.h ≤ N) = True := eq_true huh
      have hfb : fdep (dIx sc.ss l) u ≤ 1001000000000 ∧ 0 ≤ fdep (dIx sc.ss l) u := by
        have hd : dIx sc.ss l (lvT u).2.n ≤ 1000000000000 ∧ 0 ≤ dIx sc.ss l (lvT u).2.n := by
          cases hf : fS sc.ss (lvT u).2.n with
          | none => rw [dIx_none hf]; omega
          | some v =>
            obtain ⟨j, _, h2⟩ := dIx_some hl.symm hf
            have := hb _ (List.mem_of_getElem? h2); omega
        simp only at hlv
        unfold fdep
        cases (lvT u).2.k == 6 <;> simp only [Bool.cond_true, Bool.cond_false] <;> omega
      simp (maxSteps := 1000000) -dsimp only [go_sem, tyC_len]
      refine ⟨by omega, fun x hx => ?_⟩
      subst hx
      simp only [hsd]
      exact ⟨⟨hsf, ⟨hin, hl, hb⟩, hu, by simp only at hlv; omega, huh⟩, by omega, fin _ _ fdep_cons⟩
    | false =>
      have hst := lvT_stop (s := s) (n := n) c1
      have hfd : fdep (dIx sc.ss l) (.mk k s n e) = bif k == 6 then dIx sc.ss l n else 0 := by unfold fdep; rw [hst]; simp [Ty.k, Ty.n]
      refine ⟨fun h => by simp at h, fun _ => ?_⟩
      cases k6 : k == 6 with
      | false =>
        rw [k6, Bool.cond_false] at hfd
        refine vc_loop (α := Nat) (fun i => [(1, .va (.c1 (.fz (l.map inR)))), (3, .va (.c1 (.pt 0 0))), (5, .va (.c1 (.pt 1 0))), (7, iS .i64 i)]) (fun _ => [.cells (scC sc) 25, .cells (tyC (.mk k s n e)) 40])
          (fun i => i ≤ sc.ss.length) (fun i => sc.ss.length - i) 0 2 (Nat.zero_le _) ?_ ?_ ?_
        · simp -dsimp only [go_sem] <;> simp
        · simp -dsimp only [go_sem, scC, tyC, tysC_map] <;> simp
        intro i hi
        rcases Nat.lt_or_ge i sc.ss.length with hlt | hge
        · have hg : decide ((i : Int) < (sc.ss.length : Int)) = true := by simp; omega
          simp (maxSteps := 1000000) -dsimp only [go_sem, hg, scC, tyC, tysC_map, k6]
          and_intros
          all_goals first
            | omega
            | skip
          refine loop_next (i + 1) 2 (by omega) (by omega) ?_ ?_
          · simp -dsimp only [go_sem] <;> simp
          · simp -dsimp only [go_sem, scC, tyC, tysC_map] <;> simp
        · have hg : decide ((i : Int) < (sc.ss.length : Int)) = false := by simp; omega
          simp (maxSteps := 1000000) -dsimp only [go_sem, hg, scC, tyC, tysC_map]
          exact fin 0 _ hfd
      | true =>
        rw [k6, Bool.cond_true] at hfd
        refine vc_loop (α := Nat) (fun i => [(1, .va (.c1 (.fz (l.map inR)))), (3, .va (.c1 (.pt 0 0))), (5, .va (.c1 (.pt 1 0))), (7, iS .i64 i)]) (fun _ => [.cells (scC sc) 25, .cells (tyC (.mk k s n e)) 40])
          (fun i => i ≤ sc.ss.length ∧ dIx (sc.ss.drop i) (l.drop i) n = dIx sc.ss l n) (fun i => sc.ss.length - i) 0 2 ⟨Nat.zero_le _, rfl⟩ ?_ ?_ ?_
        · simp -dsimp only [go_sem] <;> simp
        · simp -dsimp only [go_sem, scC, tyC, tysC_map] <;> simp
        rintro i ⟨hi, ho⟩
        rcases Nat.lt_or_ge i sc.ss.length with hlt | hge
        · have hg : decide ((i : Int) < (sc.ss.length : Int)) = true := by simp; omega
          obtain ⟨t, hx⟩ : ∃ e, sc.ss[i]? = some e := ⟨_, List.getElem?_eq_getElem hlt⟩
          obtain ⟨d, hd⟩ : ∃ e, l[i]? = some e := ⟨_, List.getElem?_eq_getElem (by omega)⟩
          have q2 := row_rg' (row := stC) hx
          have q3 := row_rg' (row := inR) hd
          rw [dIx_step hx hd] at ho
          cases hc : decide (t.nm = n) with
          | true =>
            rw [hc, Bool.cond_true] at ho
            simp (maxSteps := 1000000) -dsimp only [go_sem, hg, ↓q2, ↓q3, stC, scC, tyC, tysC_map, bl_beq, hc, k6]
            and_intros
            all_goals first
              | omega
              | exact fin _ _ (by rw [hfd, ← ho])
          | false =>
            rw [hc, Bool.cond_false] at ho
            simp (maxSteps := 1000000) -dsimp only [go_sem, hg, ↓q2, stC, scC, tyC, tysC_map, bl_beq, hc, k6]
            and_intros
            all_goals first
              | omega
              | skip
            refine loop_next (i + 1) 2 ⟨by omega, ho⟩ (by omega) ?_ ?_
            · simp -dsimp only [go_sem] <;> simp
            · simp -dsimp only [go_sem, scC, tyC, tysC_map] <;> simp
        · have hg : decide ((i : Int) < (sc.ss.length : Int)) = false := by simp; omega
          obtain rfl : i = sc.ss.length := by omega
          rw [dIx_end] at ho
          simp (maxSteps := 1000000) -dsimp only [go_sem, hg, scC, tyC, tysC_map]
          exact fin 0 _ (by rw [hfd, ← ho])
def t0Pre : List S → Prop := fun av => match av with
  | [.va (.gs r), .va (.c1 (.fz ds)), .va (.gs q)] => isScF r ∧ (isIn ds ∧ ds.length = (C.sc r).ss.length ∧ ∀ d ∈ ds.map C.it, 0 ≤ d ∧ d ≤ 1000000000000) ∧ isTy q ∧ (lvT (C.ty q)).1 ≤ 1000000000
  | _ => False
theorem t0Pre_open {av : List S} (h : t0Pre av) : ∃ (s : Sc) (l : List Int) (t : Ty), av = [.va (.gs (scC s)), .va (.c1 (.fz (l.map inR))), .va (.gs (tyC t))] ∧ s.fit ∧ (l.length = s.ss.length ∧ ∀ d ∈ l, 0 ≤ d ∧ d ≤ 1000000000000) ∧ TyOk t ∧ (lvT t).1 ≤ 1000000000 := by
  unfold t0Pre at h
  split at h
  · obtain ⟨⟨a, rfl, ha⟩, ⟨⟨l, rfl⟩, h1, h2⟩, ⟨b, rfl, hb⟩, h3⟩ := h
    rw [ty_dec] at h3
    rw [sc_dec] at h1
    rw [it_map] at h2
    exact ⟨a, l, b, rfl, ha, ⟨by simpa using h1, h2⟩, hb, h3⟩
  · exact h.elim
noncomputable def t0Fn : Fun := ⟨t0Pre, tdVal, fun av h => by obtain ⟨a, l, b, rfl, _⟩ := t0Pre_open h; trivial⟩
attribute [go_sem] t0Fn t0Pre
theorem mTypeDepth : Meets Try.prog 53 t0Fn.sp := meets_all 0 mTypeDepth' fun av H K ⟨⟨h, e⟩, hK⟩ => by
  obtain ⟨a, l, b, rfl, ha, ⟨h1, h2⟩, hb, h3⟩ := t0Pre_open h
  refine ⟨b.h, ⟨⟨⟨isScF_mk ha, ⟨⟨l, rfl⟩, by rw [sc_dec]; simpa using h1, by rw [it_map]; exact h2⟩, isTy_mk hb, by rw [ty_dec]; exact h3, by rw [ty_dec]; exact Nat.le_refl _⟩, e⟩, hK⟩⟩
end Go.Proofs.Ytpfmkfafagiicaa
/- The reference: depths. -/
namespace Go.Proofs.Ytpfmkfafagiicaa
open Go.W
theorem maxF_mono {dp dq : ByteArray → Int} {l : List Fl} (h : ∀ f ∈ l, fdep dp f.ty ≤ fdep dq f.ty) : maxF dp l ≤ maxF dq l := maxF_le (maxF_nonneg _ _) fun f hf => Int.le_trans (h f hf) (maxF_ge hf)
/-- What the rounds keep: every entry is at most its struct's depth, and reaches it in the round of its rank. -/
structure DI (ss : List St) (r i : Nat) (d : List Int) : Prop where
  len : d.length = ss.length
  lo : ∀ (j : Nat) (t : St) (v : Int), ss[j]? = some t → d[j]? = some v → 0 ≤ v ∧ v ≤ dD ss t.nm ∧ (rank ss t.nm < r → v = dD ss t.nm) ∧ (j < i → rank ss t.nm < r + 1 → v = dD ss t.nm)
theorem DI.ix {ss : List St} {es : List En} (_g : Gd ss es) {r i : Nat} {d : List Int} (h : DI ss r i d) (n : ByteArray) : 0 ≤ dIx ss d n ∧ dIx ss d n ≤ dD ss n ∧ ((fS ss n).isSome = true → rank ss n < r → dIx ss d n = dD ss n) := by
  cases hf : fS ss n with
  | none =>
    rw [dIx_none hf]
    exact ⟨Int.le_refl _, dD_lo ss n, fun h => by simp at h⟩
  | some u =>
    obtain ⟨j, h1, h2⟩ := dIx_some h.len.symm hf
    obtain ⟨a1, a2, a3, _⟩ := h.lo j u _ h1 h2
    obtain ⟨_, rfl⟩ := fS_mem hf
    exact ⟨a1, a2, fun _ h => a3 h⟩
theorem DI.all {ss : List St} {es : List En} (g : Gd ss es) {r i : Nat} {d : List Int} (h : DI ss r i d) : ∀ v ∈ d, 0 ≤ v ∧ v ≤ 1000000000000 := fun v hv => by
  obtain ⟨j, hj⟩ := List.mem_iff_getElem?.1 hv
  have hl := (List.getElem?_eq_some_iff.1 hj).1
  obtain ⟨t, ht⟩ : ∃ t, ss[j]? = some t := ⟨_, List.getElem?_eq_getElem (by have := h.len; omega)⟩
  obtain ⟨h1, h2, _⟩ := h.lo j t v ht hj
  have := dD_hi g t.nm
  omega
theorem DI.fd {ss : List St} {es : List En} (g : Gd ss es) {r i : Nat} {d : List Int} (h : DI ss r i d) (t : Ty) : fdep (dIx ss d) t ≤ fdep (dD ss) t := by
  unfold fdep
  have := h.ix g (lvT t).2.n
  cases (lvT t).2.k == 6 <;> simp only [Bool.cond_true, Bool.cond_false] <;> omega
theorem DI.set {ss : List St} {es : List En} (g : Gd ss es) (ha : Acy ss) {r i : Nat} {d : List Int} (h : DI ss r i d) {t : St} (ht : ss[i]? = some t) : DI ss r (i + 1) (d.set i (1 + maxF (dIx ss d) t.fs)) := by
  have htm := List.mem_of_getElem? ht
  have hD := dD_eq g ha (g.nd t htm)
  have hle : maxF (dIx ss d) t.fs ≤ maxF (dD ss) t.fs := maxF_mono fun f _ => h.fd g f.ty
  have heq : rank ss t.nm < r + 1 → maxF (dIx ss d) t.fs = maxF (dD ss) t.fs := fun hr => maxF_congr fun f hf => by
    unfold fdep
    cases hk : (lvT f.ty).2.k == 6 with
    | false => rfl
    | true =>
      obtain ⟨h1, u, h2⟩ := str_ref g (g.nd t htm) hf hk
      have h3 := rank_lt h1 h2 ha
      rw [(h.ix g _).2.2 (by rw [h2]; rfl) (by omega)]
  have hn := maxF_nonneg (dIx ss d) t.fs
  refine ⟨by rw [List.length_set]; exact h.len, fun j u v hu hv => ?_⟩
  rw [List.getElem?_set] at hv
  by_cases e : i = j
  · subst e
    rw [ht] at hu; obtain rfl := Option.some.inj hu
    have hlt : i < d.length := by have := h.len; have := (List.getElem?_eq_some_iff.1 ht).1; omega
    simp [hlt] at hv
    subst hv
    exact ⟨by omega, by omega, fun hr => by rw [heq (by omega)]; omega, fun _ hr => by rw [heq hr]; omega⟩
  · rw [if_neg e] at hv
    obtain ⟨a1, a2, a3, a4⟩ := h.lo j u v hu hv
    exact ⟨a1, a2, a3, fun hj hr => a4 (by omega) hr⟩
theorem DI.up {ss : List St} {r : Nat} {d : List Int} (h : DI ss r ss.length d) : DI ss (r + 1) 0 d := ⟨h.len, fun j t v ht hv => by
  obtain ⟨a1, a2, _, a4⟩ := h.lo j t v ht hv
  exact ⟨a1, a2, fun hr => a4 (List.getElem?_eq_some_iff.1 ht).1 hr, fun h => absurd h (Nat.not_lt_zero _)⟩⟩
theorem DI.fin {ss : List St} {d : List Int} (h : DI ss (ss.length + 1) 0 d) : d = ss.map fun t => dD ss t.nm := by
  refine List.ext_getElem? fun j => ?_
  rw [List.getElem?_map]
  cases ht : ss[j]? with
  | none =>
    rw [List.getElem?_eq_none_iff] at ht
    rw [List.getElem?_eq_none (by rw [h.len]; exact ht)]; rfl
  | some t =>
    obtain ⟨v, hv⟩ : ∃ v, d[j]? = some v := ⟨_, List.getElem?_eq_getElem (by rw [h.len]; exact (List.getElem?_eq_some_iff.1 ht).1)⟩
    obtain ⟨_, _, a3, _⟩ := h.lo j t v ht hv
    rw [hv, a3 (Nat.lt_succ_of_le (rank_le _ _))]; rfl
theorem DI.init (ss : List St) : DI ss 0 0 (List.replicate ss.length 0) := ⟨by simp, fun j t v ht hv => by
  have : v = 0 := by
    have := List.mem_of_getElem? hv
    exact (List.mem_replicate.1 this).2
  subst this
  exact ⟨Int.le_refl _, dD_lo _ _, fun h => absurd h (Nat.not_lt_zero _), fun h => absurd h (Nat.not_lt_zero _)⟩⟩
def dsSp : W.Spec := fun av H K => ∃ s : Sc, av = [.va (.gs (scC s))] ∧ H = [] ∧ s.fit ∧ Gd s.ss s.es ∧ Acy s.ss ∧ K (.va (.c1 (.fz ((s.ss.map fun t => dD s.ss t.nm).map inR)))) []
theorem ds_use {s : Sc} {K : S → Hp → Prop} (h : s.fit) (g : Gd s.ss s.es) (ha : Acy s.ss) (hK : K (.va (.c1 (.fz ((s.ss.map fun t => dD s.ss t.nm).map inR)))) []) : dsSp [.va (.gs (scC s))] [] K := ⟨s, rfl, rfl, h, g, ha, hK⟩
theorem gF_take {D : ByteArray → Int} {l : List Fl} {i : Nat} {f : Fl} (hx : l[i]? = some f) : (l.take (i + 1)).foldl (gF D) 0 = max ((l.take i).foldl (gF D) 0) (fdep D f.ty) := by
  rw [take_next hx, List.foldl_append]; rfl
set_option maxRecDepth 100000 in
set_option maxHeartbeats 4000000 in
theorem mDepths : Meets Try.prog 49 dsSp := by
  refine meets_fn Try.func49 ok49 1 (by rw [Try.ntmps49]; decide) (meetsAll_f mTypeDepth (meetsAll_nil _)) (fun av H K h => by obtain ⟨_, rfl, _⟩ := h; rfl) ?_
  rintro av H K ⟨s, rfl, rfl, hs, g, ha, hK⟩
  have hls := g.n
  simp (maxSteps := 1000000) -dsimp only [go_sem, scC, pc49, rs49]
  refine ⟨⟨by omega, by omega, by omega⟩, fun h0 => ?_, fun h0 => ?_⟩
  · have hnil : s.ss = [] := List.length_eq_zero_iff.1 (by omega)
    have hlen : s.ss.length = 0 := by omega
    rw [hnil] at hK
    refine vc_loop (α := Nat) (fun i => [(1, .va (.c1 (.pt 0 0))), (3, .va (.c1 (.fz []))), (4, iS .i64 i)]) (fun _ => [.cells (scC s) 25])
      (fun i => i ≤ 1) (fun i => 1 - i) 0 1 (Nat.zero_le _) ?_ ?_ ?_
    · simp -dsimp only [go_sem] <;> simp
    · simp -dsimp only [go_sem, scC] <;> simp
    intro i hi
    rcases Nat.eq_zero_or_pos i with h1 | h1
    · have hg : decide ((i : Int) ≤ (s.ss.length : Int)) = true := by simp; omega
      simp (maxSteps := 1000000) -dsimp only [go_sem, hg, scC]
      refine vc_loop (α := Unit) (fun _ => [(1, .va (.c1 (.pt 0 0))), (3, .va (.c1 (.fz []))), (4, iS .i64 i), (5, iS .i64 0)]) (fun _ => [.cells (scC s) 25])
        (fun _ => True) (fun _ => 0) () 1 trivial ?_ ?_ ?_
      · simp -dsimp only [go_sem] <;> simp
      · simp -dsimp only [go_sem, scC] <;> simp
      intro _ _
      have hg : decide ((0 : Int) < (s.ss.length : Int)) = false := by simp; omega
      simp (maxSteps := 1000000) -dsimp only [go_sem, hg, scC]
      refine ⟨by omega, loop_next (i + 1) 1 (by omega) (by omega) ?_ ?_⟩
      · simp -dsimp only [go_sem] <;> simp
      · simp -dsimp only [go_sem, scC] <;> simp
    · have hg : decide ((i : Int) ≤ (s.ss.length : Int)) = false := by simp; omega
      simp (maxSteps := 1000000) -dsimp only [go_sem, hg, scC]
      exact .sel [] (by simp) (by simp) rfl (.done (by simpa [go_sem] using hK))
  · have hsf := isScF_mk hs
    rw [scC] at hsf
    have hsd := sc_dec s
    rw [scC] at hsd
    refine vc_loop (α := Nat × List Int) (fun z => [(1, .va (.c1 (.pt 0 0))), (3, .va (.c1 (.sl 1 s.ss.length))), (4, iS .i64 z.1)]) (fun z => [.cells (scC s) 25, .row (z.2.map inR) 3 1])
      (fun z => z.1 ≤ s.ss.length + 1 ∧ DI s.ss z.1 0 z.2) (fun z => s.ss.length + 1 - z.1) (0, List.replicate s.ss.length 0) 2 ⟨Nat.zero_le _, DI.init _⟩ ?_ ?_ ?_
    · simp -dsimp only [go_sem] <;> simp
    · simp -dsimp only [go_sem, scC] <;> simp
    rintro ⟨r, d⟩ ⟨hr, hd⟩
    simp only at hr hd ⊢
    rcases Nat.lt_or_ge r (s.ss.length + 1) with hlt | hge
    · have hg : decide ((r : Int) ≤ (s.ss.length : Int)) = true := by simp; omega
      simp (maxSteps := 1000000) -dsimp only [go_sem, hg, scC]
      refine vc_loop (α := Nat × List Int) (fun z => [(1, .va (.c1 (.pt 0 0))), (3, .va (.c1 (.sl 1 s.ss.length))), (4, iS .i64 r), (5, iS .i64 z.1)]) (fun z => [.cells (scC s) 25, .row (z.2.map inR) 3 1])
        (fun z => z.1 ≤ s.ss.length ∧ DI s.ss r z.1 z.2) (fun z => s.ss.length - z.1) (0, d) 2 ⟨Nat.zero_le _, hd⟩ ?_ ?_ ?_
      · simp -dsimp only [go_sem] <;> simp
      · simp -dsimp only [go_sem, scC] <;> simp
      clear hd hg
      rintro ⟨i, d⟩ ⟨hi, hd⟩
      simp only at hi hd ⊢
      rcases Nat.lt_or_ge i s.ss.length with hit | hig
      · have hg : decide ((i : Int) < (s.ss.length : Int)) = true := by simp; omega
        obtain ⟨t, hx⟩ : ∃ e, s.ss[i]? = some e := ⟨_, List.getElem?_eq_getElem hit⟩
        have htm := List.mem_of_getElem? hx
        obtain ⟨_, htl, hfs⟩ := hs.ok.ss t htm
        have q1 := row_rg' (row := stC) hx
        have hset := hd.set g ha hx
        have hmx : maxF (dIx s.ss d) t.fs ≤ 1000000000000 := by
          have h1 := maxF_mono (l := t.fs) fun f _ => hd.fd g f.ty
          have h2 := dD_eq g ha (g.nd t htm)
          have h3 := dD_hi g t.nm
          omega
        simp (maxSteps := 1000000) -dsimp only [go_sem, hg, scC]
        refine vc_loop (α := Nat) (fun k => [(1, .va (.c1 (.pt 0 0))), (3, .va (.c1 (.sl 1 s.ss.length))), (4, iS .i64 r), (5, iS .i64 i), (6, iS .i64 ((t.fs.take k).foldl (gF (dIx s.ss d)) 0)), (7, iS .i64 k)]) (fun _ => [.cells (scC s) 25, .row (d.map inR) 3 1])
          (fun k => k ≤ t.fs.length) (fun k => t.fs.length - k) 0 2 (Nat.zero_le _) ?_ ?_ ?_
        · simp -dsimp only [go_sem] <;> simp
        · simp -dsimp only [go_sem, scC] <;> simp
        intro k hk
        rcases Nat.lt_or_ge k t.fs.length with hkt | hkg
        · have hg : decide ((k : Int) < (t.fs.length : Int)) = true := by simp; omega
          obtain ⟨f, hf⟩ : ∃ e, t.fs[k]? = some e := ⟨_, List.getElem?_eq_getElem hkt⟩
          have hfm := List.mem_of_getElem? hf
          have q2 := row_rg' (row := flC) hf
          have hity : isTy (tyC f.ty) := isTy_mk (hfs f hfm).ty
          have hlv : ((lvT f.ty).1 ≤ 1000000000) = True := eq_true (g.lv t htm f hfm)
          have hin : isIn (d.map inR) := ⟨d, rfl⟩
          have hdl : d.length = s.ss.length := hd.len
          have hall : (∀ v : Int, v ∈ d → 0 ≤ v ∧ v ≤ 1000000000000) = True := eq_true (hd.all g)
          simp (maxSteps := 1000000) -dsimp only [go_sem, hg, ↓q1, stC, scC]
          simp (maxSteps := 1000000) -dsimp only [go_sem, flC, fl_ty, hsf, hsd, hity, hlv, hin, hall, hdl, hf, Option.some.injEq, forall_eq']
          refine ⟨by omega, by omega, by omega, by omega, loop_next (k + 1) 2 (by omega) (by omega) ?_ ?_⟩
          · simp -dsimp only [go_sem, gF_take hf] <;> simp
          · simp -dsimp only [go_sem, scC] <;> simp
        · have hg : decide ((k : Int) < (t.fs.length : Int)) = false := by simp; omega
          obtain rfl : k = t.fs.length := by omega
          have hmx2 : t.fs.foldl (gF (dIx s.ss d)) 0 = maxF (dIx s.ss d) t.fs := rfl
          rw [List.take_length, hmx2]
          have hn0 := maxF_nonneg (dIx s.ss d) t.fs
          have hdl : d.length = s.ss.length := hd.len
          obtain ⟨v0, hv0⟩ : ∃ e, d[i]? = some e := ⟨_, List.getElem?_eq_getElem (by omega)⟩
          simp (maxSteps := 1000000) -dsimp only [go_sem, hg, ↓q1, stC, scC]
          simp (maxSteps := 1000000) -dsimp only [go_sem, hv0, Option.some.injEq, forall_eq']
          refine ⟨by omega, by omega, ⟨by omega, hdl⟩, ⟨hdl, by omega⟩, by omega, loop_next (i + 1, d.set i (1 + maxF (dIx s.ss d) t.fs)) 2 ⟨by simp only; omega, hset⟩ (by simp only; omega) ?_ ?_⟩
          · simp -dsimp only [go_sem] <;> simp
          · simp -dsimp only [go_sem, scC] <;> simp [List.map_set]
      · have hg : decide ((i : Int) < (s.ss.length : Int)) = false := by simp; omega
        obtain rfl : i = s.ss.length := by omega
        simp (maxSteps := 1000000) -dsimp only [go_sem, hg, scC]
        refine ⟨by omega, loop_next (r + 1, d) 2 ⟨by simp only; omega, hd.up⟩ (by simp only; omega) ?_ ?_⟩
        · simp -dsimp only [go_sem] <;> simp
        · simp -dsimp only [go_sem, scC] <;> simp
    · have hg : decide ((r : Int) ≤ (s.ss.length : Int)) = false := by simp; omega
      obtain rfl : r = s.ss.length + 1 := by omega
      have hfin := hd.fin
      rw [← hfin] at hK
      simp (maxSteps := 1000000) -dsimp only [go_sem, hg, scC]
      have e1 : s.ss.length = (d.map inR).length := by rw [List.length_map]; exact hd.len.symm
      rw [e1]
      refine .pub 1 _ _ _ rfl (.sel [] (by simp) (by simp [pubH]) rfl (.done ?_))
      simp -dsimp only [go_sem, pubH]
      simpa using hK
end Go.Proofs.Ytpfmkfafagiicaa
/- The reference: Check. -/
namespace Go.Proofs.Ytpfmkfafagiicaa
open Go.W
set_option maxRecDepth 100000 in
set_option maxHeartbeats 4000000 in
theorem mRCheck : Meets Try.prog 13 ckFn.sp := by
  refine meets_fn Try.func13 ok13 1 (by rw [Try.ntmps13]; decide) (meetsAll_f mRLong (meetsAll_f mREnumE (meetsAll_f mRStructE (meetsAll_s mUsed (meetsAll_f mRIn (meetsAll_s mDepths (meetsAll_nil _))))))) gFn_len ?_
  rintro av H K ⟨⟨h, rfl⟩, hK⟩
  obtain ⟨_, rfl, s, rfl, hs⟩ := gPre_open h
  have hK : K (iS .i64 (checkF s)) [] := by
    have : ckFn.val [.va (.gs (scC s))] = iA .i64 (checkF s) := by simp -dsimp only [go_sem]
    rw [this] at hK; exact hK
  clear h
  have hfit := hs
  have hsc : isSc (scC s) := isSc_mk hs.ok
  have hsf : isScF (scC s) := isScF_mk hs
  obtain ⟨⟨hv, hle, hls, hes, hss⟩, hlv, _, _⟩ := hs
  have fin : ∀ (x : Int) (R : Hp), checkF s = x → W.Fin 0 K (iS .i64 x) R := fun x R h1 => by
    rw [h1] at hK
    exact .sel [] (by simp) (by simp) rfl (.done (by simpa [go_sem] using hK))
  have hsc' := hsc
  have hsf' := hsf
  simp only [scC] at hsc' hsf'
  have hdec : C.sc [.vl (.int .i64 s.ver), .fz (s.es.map enC), .fz (s.ss.map stC)] = s := sc_dec s
  simp (maxSteps := 1000000) -dsimp only [go_sem, scC, pc13, rs13, hsc', hdec]
  refine ⟨fun h1 => fin 4 _ (by unfold checkF; rw [h1]; rfl), fun c1 => ⟨fun h1 => fin 3 _ (by unfold checkF; rw [c1, h1]; rfl), fun c2 => ?_⟩⟩
  have hF : checkF s = bif enF s != 0 then enF s else bif stF s != 0 then stF s else nestF s.ss := by unfold checkF; rw [c1, c2]; rfl
  refine vc_loop (α := Nat) (fun i => [(1, .va (.c1 (.pt 0 0))), (3, iS .i64 i)]) (fun _ => [.cells (scC s) 25])
    (fun i => i ≤ s.es.length ∧ fE (enAt s) (s.es.length - i) i = enF s) (fun i => s.es.length - i) 0 1 ⟨Nat.zero_le _, rfl⟩ ?_ ?_ ?_
  · simp -dsimp only [go_sem] <;> simp
  · simp -dsimp only [go_sem, scC] <;> simp
  rintro i ⟨hi, ho⟩
  rcases Nat.lt_or_ge i s.es.length with hlt | hge
  · have hg : decide ((i : Int) < (s.es.length : Int)) = true := by simp; omega
    have fin' : ∀ (x : Int) (R : Hp), enAt s i = x → x ≠ 0 → W.Fin 0 K (iS .i64 x) R := fun x R h1 h2 => fin x R (by
      rw [hF, ← ho, fE_err hlt (by rw [h1]; exact h2), h1]; exact cond_err h2)
    have nxt : enAt s i = 0 → fE (enAt s) (s.es.length - (i + 1)) (i + 1) = enF s := fun h1 => by rw [← ho, fE_ok hlt h1]
    simp (maxSteps := 1000000) -dsimp only [go_sem, hg, scC, hsf', hdec, Int.toNat_natCast]
    refine ⟨⟨by omega, by omega⟩, fun h1 => fin' _ _ rfl (by simpa using h1), fun h1 => ?_⟩
    refine ⟨by omega, loop_next (i + 1) 1 ⟨by omega, nxt (by simpa using h1)⟩ (by omega) ?_ ?_⟩
    · simp -dsimp only [go_sem] <;> simp
    · simp -dsimp only [go_sem, scC] <;> simp
  · have hg : decide ((i : Int) < (s.es.length : Int)) = false := by simp; omega
    obtain rfl : i = s.es.length := by omega
    rw [fE_end] at ho
    rw [cond_ok ho.symm] at hF
    simp (maxSteps := 1000000) -dsimp only [go_sem, hg, scC]
    clear hi hge hg ho
    refine vc_loop (α := Nat) (fun i => [(1, .va (.c1 (.pt 0 0))), (5, iS .i64 i)]) (fun _ => [.cells (scC s) 25])
      (fun i => i ≤ s.ss.length ∧ fE (stAt s) (s.ss.length - i) i = stF s) (fun i => s.ss.length - i) 0 1 ⟨Nat.zero_le _, rfl⟩ ?_ ?_ ?_
    · simp -dsimp only [go_sem] <;> simp
    · simp -dsimp only [go_sem, scC] <;> simp
    rintro i ⟨hi, ho⟩
    rcases Nat.lt_or_ge i s.ss.length with hlt | hge
    · have hg : decide ((i : Int) < (s.ss.length : Int)) = true := by simp; omega
      have fin' : ∀ (x : Int) (R : Hp), stAt s i = x → x ≠ 0 → W.Fin 0 K (iS .i64 x) R := fun x R h1 h2 => fin x R (by
        rw [hF, ← ho, fE_err hlt (by rw [h1]; exact h2), h1]; exact cond_err h2)
      have nxt : stAt s i = 0 → fE (stAt s) (s.ss.length - (i + 1)) (i + 1) = stF s := fun h1 => by rw [← ho, fE_ok hlt h1]
      simp (maxSteps := 1000000) -dsimp only [go_sem, hg, scC, hsf', hdec, Int.toNat_natCast]
      refine ⟨⟨by omega, by omega⟩, fun h1 => fin' _ _ rfl (by simpa using h1), fun h1 => ?_⟩
      refine ⟨by omega, loop_next (i + 1) 1 ⟨by omega, nxt (by simpa using h1)⟩ (by omega) ?_ ?_⟩
      · simp -dsimp only [go_sem] <;> simp
      · simp -dsimp only [go_sem, scC] <;> simp
    · have hg : decide ((i : Int) < (s.ss.length : Int)) = false := by simp; omega
      obtain rfl : i = s.ss.length := by omega
      rw [fE_end] at ho
      rw [cond_ok ho.symm] at hF
      have g := good_of hfit c2 ho.symm
      simp (maxSteps := 1000000) -dsimp only [go_sem, hg, scC]
      clear hi hge hg ho
      refine vc_loop (α := Nat) (fun i => [(1, .va (.c1 (.pt 0 0))), (7, iS .i64 i)]) (fun _ => [.cells (scC s) 25])
        (fun i => i ≤ s.ss.length ∧ (s.ss.drop i).any (fun t => inB (usesF s.ss t.nm) t.nm) = s.ss.any (fun t => inB (usesF s.ss t.nm) t.nm)) (fun i => s.ss.length - i) 0 1 ⟨Nat.zero_le _, rfl⟩ ?_ ?_ ?_
      · simp -dsimp only [go_sem] <;> simp
      · simp -dsimp only [go_sem, scC] <;> simp
      rintro i ⟨hi, ho⟩
      rcases Nat.lt_or_ge i s.ss.length with hlt | hge
      · have hg : decide ((i : Int) < (s.ss.length : Int)) = true := by simp; omega
        obtain ⟨t, hx⟩ : ∃ t, s.ss[i]? = some t := ⟨_, List.getElem?_eq_getElem hlt⟩
        have q1 := row_rg' (row := stC) hx
        rw [any_step hx] at ho
        have hv := g.vlen t.nm
        have hul := usesF_len s.ss t.nm
        have hbs : isBs ((usesF s.ss t.nm).map stR) := isBs_mk (by rw [usesF_len]; omega)
        have e0 : (0 ≤ ((usesF s.ss t.nm).length : Int)) = True := by simp
        have e1 : (((usesF s.ss t.nm).length : Int) ≤ 9223372036854775807) = True := by rw [hul]; exact eq_true (by omega)
        have hto : (usesF s.ss t.nm).take (usesF s.ss t.nm).length = usesF s.ss t.nm := List.take_length
        simp (maxSteps := 1000000) -dsimp only [go_sem, hg, ↓q1, stC, scC]
        refine ⟨by omega, ud_use hfit g ?_⟩
        simp (maxSteps := 1000000) -dsimp only [go_sem, hbs, e0, e1, Int.toNat_natCast, hto]
        refine ⟨by omega, fun hc => ?_, fun hc => ?_⟩
        · rw [hc, Bool.true_or] at ho
          exact fin 19 _ (by rw [hF]; unfold nestF; rw [← ho]; rfl)
        · rw [hc, Bool.false_or] at ho
          refine ⟨by omega, loop_next (i + 1) 1 ⟨by omega, ho⟩ (by omega) ?_ ?_⟩
          · simp -dsimp only [go_sem] <;> simp
          · simp -dsimp only [go_sem, scC] <;> simp
      · have hg : decide ((i : Int) < (s.ss.length : Int)) = false := by simp; omega
        obtain rfl : i = s.ss.length := by omega
        rw [any_end] at ho
        have ha : Acy s.ss := fun t ht => any_false ho.symm t ht
        have hF2 : checkF s = bif s.ss.any (fun t => decide (6 < dD s.ss t.nm)) then 9 else 0 := by rw [hF]; unfold nestF; rw [← ho]; rfl
        simp (maxSteps := 1000000) -dsimp only [go_sem, hg, scC]
        refine ds_use hfit g ha ?_
        simp (maxSteps := 1000000) -dsimp only [go_sem]
        clear hi hge hg ho
        refine vc_loop (α := Nat) (fun i => [(9, .va (.c1 (.fz ((s.ss.map fun t => dD s.ss t.nm).map inR)))), (10, iS .i64 i)]) (fun _ => [.cells (scC s) 25])
          (fun i => i ≤ s.ss.length ∧ (s.ss.drop i).any (fun t => decide (6 < dD s.ss t.nm)) = s.ss.any (fun t => decide (6 < dD s.ss t.nm))) (fun i => s.ss.length - i) 0 1 ⟨Nat.zero_le _, rfl⟩ ?_ ?_ ?_
        · simp -dsimp only [go_sem] <;> simp
        · simp -dsimp only [go_sem, scC] <;> simp
        rintro i ⟨hi, ho⟩
        rcases Nat.lt_or_ge i s.ss.length with hlt | hge
        · have hg : decide ((i : Int) < (s.ss.length : Int)) = true := by simp; omega
          obtain ⟨t, hx⟩ : ∃ t, s.ss[i]? = some t := ⟨_, List.getElem?_eq_getElem hlt⟩
          have hd : (s.ss.map fun t => dD s.ss t.nm)[i]? = some (dD s.ss t.nm) := by rw [List.getElem?_map, hx]; rfl
          have q1 := row_rg' (row := inR) hd
          have hml : (s.ss.map fun t => dD s.ss t.nm).length = s.ss.length := by simp
          rw [any_step hx] at ho
          generalize (s.ss.map fun t => dD s.ss t.nm) = ds at *
          simp (maxSteps := 1000000) -dsimp only [go_sem, hml, hg, ↓q1, scC]
          refine ⟨by omega, fun hc => ?_, fun hc => ?_⟩
          · rw [hc, Bool.true_or] at ho
            exact fin 9 _ (by rw [hF2, ← ho]; rfl)
          · rw [hc, Bool.false_or] at ho
            refine ⟨by omega, loop_next (i + 1) 1 ⟨by omega, ho⟩ (by omega) ?_ ?_⟩
            · simp -dsimp only [go_sem] <;> simp
            · simp -dsimp only [go_sem, scC] <;> simp
        · have hg : decide ((i : Int) < (s.ss.length : Int)) = false := by simp; omega
          obtain rfl : i = s.ss.length := by omega
          rw [any_end] at ho
          have hml : (s.ss.map fun t => dD s.ss t.nm).length = s.ss.length := by simp
          generalize (s.ss.map fun t => dD s.ss t.nm) = ds at *
          simp (maxSteps := 1000000) -dsimp only [go_sem, hml, hg, scC]
          exact fin 0 _ (by rw [hF2, ← ho]; rfl)
end Go.Proofs.Ytpfmkfafagiicaa
/- The reference: known, Depth, Uses. -/
namespace Go.Proofs.Ytpfmkfafagiicaa
open Go.W
noncomputable def knFn : Fun := snFn isScF C.sc (fun s n => bA (okS s n)) (fun _ _ => trivial)
attribute [go_sem] knFn
set_option maxRecDepth 100000 in
theorem mKnown : Meets Try.prog 52 knFn.sp := by
  refine meets_fn Try.func52 ok52 2 (by rw [Try.ntmps52]; decide) (meetsAll_s mRStruct (meetsAll_f mRCheck (meetsAll_nil _))) snFn_len ?_
  rintro av H K ⟨⟨h, rfl⟩, hK⟩
  obtain ⟨_, n, rfl, s, rfl, hs⟩ := snPre_open h
  have hK : K (bS (okS s n)) [] := by
    have : knFn.val [.va (.gs (scC s)), tS n] = bA (okS s n) := by simp -dsimp only [go_sem]
    rw [this] at hK; exact hK
  clear h
  have fin : ∀ (x : Bool) (R : Hp), okS s n = x → W.Fin 0 K (bS x) R := fun x R h1 => by
    rw [h1] at hK
    exact .sel [] (by simp) (by simp) rfl (.done (by simpa [go_sem] using hK))
  have hsf := isScF_mk hs
  rw [scC] at hsf
  have hsd := sc_dec s
  rw [scC] at hsd
  simp (maxSteps := 1000000) -dsimp only [go_sem, scC, pc52, rs52]
  refine stp_use hs ?_
  cases hf : hasS s.ss n with
  | false =>
    simp (maxSteps := 1000000) -dsimp only [go_sem, stC, hsf, hsd]
    exact fin _ _ (by unfold okS; rw [hf, Bool.and_false])
  | true =>
    simp (maxSteps := 1000000) -dsimp only [go_sem, stC, hsf, hsd]
    exact fin _ _ (by unfold okS; rw [hf, Bool.and_true])
theorem okS_true {s : Sc} {n : ByteArray} (h : okS s n = true) : checkF s = 0 ∧ hasS s.ss n = true := by
  unfold okS at h; simpa using h
theorem hasS_some {ss : List St} {n : ByteArray} (h : hasS ss n = true) : ∃ t, fS ss n = some t := by
  rw [← fS_has] at h; exact Option.isSome_iff_exists.1 h
theorem dIx_all (ss : List St) (f : St → Int) (n : ByteArray) (hf : ∀ t, t.nm = n → f t = f ⟨n, []⟩) : (fS ss n).isSome = true → dIx ss (ss.map f) n = f ⟨n, []⟩ := fun h => by
  obtain ⟨u, hu⟩ := Option.isSome_iff_exists.1 h
  obtain ⟨j, h1, h2⟩ := dIx_some (ds := ss.map f) (by simp) hu
  rw [List.getElem?_map, h1] at h2
  rw [← hf u (fS_mem hu).2]
  exact (Option.some.inj h2).symm
set_option maxRecDepth 100000 in
theorem mRDepth : Meets Try.prog 15 dpFn.sp := by
  refine meets_fn Try.func15 ok15 2 (by rw [Try.ntmps15]; decide) (meetsAll_f mKnown (meetsAll_s mDepths (meetsAll_f mTypeDepth (meetsAll_nil _)))) snFn_len ?_
  rintro av H K ⟨⟨h, rfl⟩, hK⟩
  obtain ⟨_, n, rfl, s, rfl, hs⟩ := snPre_open h
  have hK : K (iS .i64 (dpF s n)) [] := by
    have : dpFn.val [.va (.gs (scC s)), tS n] = iA .i64 (dpF s n) := by simp -dsimp only [go_sem]
    rw [this] at hK; exact hK
  clear h
  have fin : ∀ (x : Int) (R : Hp), dpF s n = x → W.Fin 0 K (iS .i64 x) R := fun x R h1 => by
    rw [h1] at hK
    exact .sel [] (by simp) (by simp) rfl (.done (by simpa [go_sem] using hK))
  have hsf := isScF_mk hs
  rw [scC] at hsf
  have hsd := sc_dec s
  rw [scC] at hsd
  cases hok : okS s n with
  | false =>
    simp (maxSteps := 1000000) -dsimp only [go_sem, scC, pc15, rs15, hsf, hsd, hok]
    exact fin _ _ (by unfold dpF; rw [hok]; rfl)
  | true =>
    obtain ⟨h1, h2⟩ := okS_true hok
    obtain ⟨g, ha, _⟩ := check_good hs h1
    obtain ⟨t, ht⟩ := hasS_some h2
    obtain ⟨htm, htn⟩ := fS_mem ht
    have hnb : n.size ≤ 9223372036854775807 := by rw [← htn]; exact (hs.ok.ss t htm).nm
    have htc : tyC (.mk 6 0 n []) = [.vl (.int .i64 6), .vl (.int .i64 0), .vl (.string n), .fz []] := by rw [tyC, tysC]
    have hty : isTy (tyC (.mk 6 0 n [])) := isTy_mk (.mk ⟨by omega, by omega⟩ ⟨by omega, by omega⟩ hnb (Nat.zero_le _) (fun t h => by cases h))
    have htd := ty_dec (.mk 6 0 n [])
    rw [htc] at hty htd
    have hlv : (lvT (.mk 6 0 n [])).1 = 0 := by rw [lvT]; rfl
    have hix : dIx s.ss (s.ss.map fun t => dD s.ss t.nm) n = dD s.ss n := dIx_all s.ss (fun t => dD s.ss t.nm) n (fun t h => by rw [h]) (by rw [ht]; rfl)
    have hfd : fdep (dIx s.ss (s.ss.map fun t => dD s.ss t.nm)) (.mk 6 0 n []) = dD s.ss n := by
      unfold fdep
      rw [lvT_stop (by rfl)]
      show ((0 : Nat) : Int) + dIx s.ss (s.ss.map fun t => dD s.ss t.nm) n = _
      rw [hix]; omega
    have hml : (s.ss.map fun t => dD s.ss t.nm).length = s.ss.length := by simp
    have hall : ∀ v ∈ (s.ss.map fun t => dD s.ss t.nm), 0 ≤ v ∧ v ≤ 1000000000000 := fun v hv => by
      obtain ⟨u, _, rfl⟩ := List.mem_map.1 hv
      exact ⟨dD_lo _ _, dD_hi g _⟩
    simp (maxSteps := 1000000) -dsimp only [go_sem, scC, pc15, rs15, hsf, hsd, hok]
    refine ds_use hs g ha ?_
    generalize (s.ss.map fun t => dD s.ss t.nm) = ds at *
    have hin : isIn (ds.map inR) := ⟨ds, rfl⟩
    have hall' : (∀ v : Int, v ∈ ds → 0 ≤ v ∧ v ≤ 1000000000000) = True := eq_true hall
    simp (maxSteps := 1000000) -dsimp only [go_sem, hsf, hsd, hin, hall', hml, hty, htd, hlv]
    exact fin _ _ (by unfold dpF; rw [hok, hfd]; rfl)
set_option maxRecDepth 100000 in
theorem mRUses : Meets Try.prog 18 usSpP := by
  refine meets_fn Try.func18 ok18 2 (by rw [Try.ntmps18]; decide) (meetsAll_f mKnown (meetsAll_s mUsed (meetsAll_nil _))) (fun av H K h => by obtain ⟨_, _, rfl, _⟩ := h; rfl) ?_
  rintro av H K ⟨s, n, rfl, rfl, hs, hK⟩
  have fin : ∀ (x : List ByteArray) (R : Hp), usL s n = x → W.Fin 0 K (.va (.c1 (.fz (x.map stR)))) R := fun x R h1 => by
    rw [h1] at hK
    exact .sel [] (by simp) (by simp) rfl (.done (by simpa [go_sem] using hK))
  have hsf := isScF_mk hs
  rw [scC] at hsf
  have hsd := sc_dec s
  rw [scC] at hsd
  cases hok : okS s n with
  | false =>
    simp (maxSteps := 1000000) -dsimp only [go_sem, scC, pc18, rs18, hsf, hsd, hok]
    exact fin [] _ (by unfold usL; rw [hok]; rfl)
  | true =>
    obtain ⟨h1, h2⟩ := okS_true hok
    obtain ⟨g, ha, _⟩ := check_good hs h1
    simp (maxSteps := 1000000) -dsimp only [go_sem, scC, pc18, rs18, hsf, hsd, hok]
    refine ud_use hs g ?_
    simp (maxSteps := 1000000) -dsimp only [go_sem]
    exact fin _ _ (by unfold usL; rw [hok]; rfl)
end Go.Proofs.Ytpfmkfafagiicaa
/- The reference: level, FewType. -/
namespace Go.Proofs.Ytpfmkfafagiicaa
open Go.W
/-- How many lists a type has within one another, as far as the search goes. -/
def levF : Nat → Ty → Nat
  | 0, _ => 0
  | N + 1, t => t.e.foldl (fun m u => max m (1 + levF N u)) 0
abbrev lF (N : Nat) : Nat → Ty → Nat := fun m u => max m (1 + levF N u)
theorem lF_ge (N : Nat) : ∀ (l : List Ty) (m : Nat), m ≤ l.foldl (lF N) m
  | [], _ => Nat.le_refl _
  | u :: l, m => Nat.le_trans (Nat.le_max_left _ _) (lF_ge N l (max m (1 + levF N u)))
theorem lF_mem {N : Nat} {l : List Ty} {u : Ty} (h : u ∈ l) : ∀ m, 1 + levF N u ≤ l.foldl (lF N) m := by
  induction l with
  | nil => cases h
  | cons v l ih =>
    intro m
    rcases List.mem_cons.1 h with rfl | h
    · exact Nat.le_trans (Nat.le_max_right m _) (lF_ge N l _)
    · exact ih h _
theorem lF_le {N B : Nat} {l : List Ty} (h : ∀ u ∈ l, 1 + levF N u ≤ B) : ∀ m, m ≤ B → l.foldl (lF N) m ≤ B := by
  induction l with
  | nil => exact fun _ h => h
  | cons v l ih => exact fun m hm => ih (fun u hu => h u (List.mem_cons_of_mem _ hu)) _ (Nat.max_le.2 ⟨hm, h v List.mem_cons_self⟩)
theorem levF_le : ∀ (N : Nat) (t : Ty), levF N t ≤ N
  | 0, _ => Nat.le_refl _
  | N + 1, t => lF_le (fun u _ => by have := levF_le N u; omega) 0 (Nat.zero_le _)
/-- A type whose search ends early is not higher. -/
theorem lev_h : ∀ (N : Nat) (t : Ty), levF N t < N → t.h ≤ levF N t + 1
  | 0, _, h => absurd h (Nat.not_lt_zero _)
  | N + 1, .mk k s n e, h => by
    have hu : ∀ u ∈ e, u.h ≤ levF (N + 1) (.mk k s n e) := fun u hu => by
      have h1 : 1 + levF N u ≤ levF (N + 1) (.mk k s n e) := lF_mem (N := N) (l := e) hu 0
      have := lev_h N u (by omega)
      omega
    rw [Ty.h]
    have : ∀ (l : List Ty), (∀ u ∈ l, u.h ≤ levF (N + 1) (.mk k s n e)) → Ty.hs l ≤ levF (N + 1) (.mk k s n e) := by
      intro l
      induction l with
      | nil => exact fun _ => Nat.zero_le _
      | cons v l ih =>
        intro h
        rw [Ty.hs]
        exact Nat.max_le.2 ⟨h v List.mem_cons_self, ih fun u hu => h u (List.mem_cons_of_mem _ hu)⟩
    have := this e hu
    omega
theorem levF_gF {N : Nat} {l : List Ty} {i : Nat} {u : Ty} (hx : l[i]? = some u) : (l.take (i + 1)).foldl (lF N) 0 = max ((l.take i).foldl (lF N) 0) (1 + levF N u) := by
  rw [take_next hx, List.foldl_append]; rfl
def lePre (N : Nat) : List S → Prop := fun av => match av with
  | [.va (.gs q), .va (.c1 (.vl (.int .i64 k)))] => isTy q ∧ k = (N : Int) ∧ N ≤ 1000
  | _ => False
theorem lePre_open {N : Nat} {av : List S} (h : lePre N av) : ∃ t : Ty, av = [.va (.gs (tyC t)), iS .i64 N] ∧ TyOk t ∧ N ≤ 1000 := by
  unfold lePre at h
  split at h
  · obtain ⟨⟨t, rfl, ht⟩, rfl, h⟩ := h
    exact ⟨t, rfl, ht, h⟩
  · exact h.elim
noncomputable def leVal (N : Nat) : List S → A := fun av => match av with
  | [.va (.gs q), .va (.c1 (.vl (.int .i64 _)))] => iA .i64 (levF N (C.ty q))
  | _ => .gs []
noncomputable def leFn (N : Nat) : Fun := ⟨lePre N, leVal N, fun av h => by obtain ⟨a, rfl, _⟩ := lePre_open h; trivial⟩
theorem leFn_len {N : Nat} : ∀ av H K, (leFn N).sp av H K → av.length = 2 := fun av H K h => by obtain ⟨a, rfl, _⟩ := lePre_open h.1.1; rfl
attribute [go_sem] leFn lePre leVal
set_option maxRecDepth 100000 in
set_option maxHeartbeats 1000000 in
theorem mLevel0 : Meets Try.prog 55 (leFn 0).sp := by
  refine meets_fn Try.func55 ok55 2 (by rw [Try.ntmps55]; decide) (meetsAll_nil _) leFn_len ?_
  rintro av H K ⟨⟨h, rfl⟩, hK⟩
  obtain ⟨t, rfl, ht, hN⟩ := lePre_open h
  have hK : K (iS .i64 0) [] := by
    have : (leFn 0).val [.va (.gs (tyC t)), iS .i64 ((0 : Nat) : Int)] = iA .i64 0 := by simp -dsimp only [go_sem]; rfl
    rw [this] at hK; exact hK
  clear h
  obtain ⟨k, s, n, e⟩ := t
  simp (maxSteps := 1000000) -dsimp only [go_sem, tyC, tysC_map, pc55, rs55]
  refine vc_loop (α := Unit) (fun i => [(1, iS .i64 0), (2, .va (.c1 (.pt 0 0))), (5, iS .i64 0), (6, iS .i64 0)]) (fun _ => [.cells (tyC (.mk k s n e)) 40])
    (fun i => True) (fun i => 0) () 1 trivial ?_ ?_ ?_
  · simp -dsimp only [go_sem]
    simp
  · simp -dsimp only [go_sem, tyC, tysC_map]
  intro _ _
  have hg2 : decide ((0 : Int) < 0) = false := rfl
  cases hg : decide ((0 : Int) < (e.length : Int)) with
  | true =>
    simp (maxSteps := 1000000) -dsimp only [go_sem, hg, hg2, tyC, tysC_map]
    exact .sel [] (by simp) (by simp) rfl (.done (by simp -dsimp only [go_sem]; exact hK))
  | false =>
    simp (maxSteps := 1000000) -dsimp only [go_sem, hg, hg2, tyC, tysC_map]
    exact .sel [] (by simp) (by simp) rfl (.done (by simp -dsimp only [go_sem]; exact hK))
set_option maxRecDepth 100000 in
set_option maxHeartbeats 1000000 in
theorem mLevel : ∀ N, Meets Try.prog 55 (leFn N).sp
  | 0 => mLevel0
  | N + 1 => by
    refine meets_fn Try.func55 ok55 2 (by rw [Try.ntmps55]; decide) (meetsAll_f (mLevel N) (meetsAll_nil _)) leFn_len ?_
    rintro av H K ⟨⟨h, rfl⟩, hK⟩
    obtain ⟨t, rfl, ht, hN⟩ := lePre_open h
    have hK : K (iS .i64 (levF (N + 1) t)) [] := by
      have : (leFn (N + 1)).val [.va (.gs (tyC t)), iS .i64 ((N + 1 : Nat) : Int)] = iA .i64 (levF (N + 1) t) := by simp -dsimp only [go_sem]
      rw [this] at hK; exact hK
    clear h
    obtain ⟨k, s, n, e⟩ := t
    have hte := ht.e
    have hte2 := ht.len
    simp only [Ty.e] at hte hte2
    have hK : K (iS .i64 ((e.foldl (lF N) 0 : Nat) : Int)) [] := hK
    simp (maxSteps := 1000000) -dsimp only [go_sem, tyC, tysC_map, pc55, rs55]
    refine vc_loop (α := Nat) (fun i => [(1, iS .i64 ((N + 1 : Nat) : Int)), (2, .va (.c1 (.pt 0 0))), (5, iS .i64 (((e.take i).foldl (lF N) 0 : Nat) : Int)), (6, iS .i64 i)]) (fun _ => [.cells (tyC (.mk k s n e)) 40])
      (fun i => i ≤ e.length) (fun i => e.length - i) 0 1 (Nat.zero_le _) ?_ ?_ ?_
    · simp -dsimp only [go_sem]
      simp
    · simp -dsimp only [go_sem, tyC, tysC_map]
    intro i hi
    rcases Nat.lt_or_ge i e.length with hlt | hge
    · have hg : decide ((i : Int) < (e.length : Int)) = true := by simp; omega
      have hg2 : decide (0 < ((N + 1 : Nat) : Int)) = true := decide_eq_true (by omega)
      obtain ⟨u, hx⟩ : ∃ t, e[i]? = some t := ⟨_, List.getElem?_eq_getElem hlt⟩
      have q1 := row_rg' (row := tyC) hx
      have hu : isTy (tyC u) := isTy_mk (hte u (List.mem_of_getElem? hx))
      have hn1 : ((N + 1 : Nat) : Int) - 1 = (N : Int) := by omega
      have hl := levF_le N u
      simp (maxSteps := 1000000) -dsimp only [go_sem, hg, hg2, ↓q1, tyC, tysC_map, tyC_len, hu, hn1]
      refine ⟨by omega, by omega, by omega, by omega, by omega, loop_next (i + 1) 1 (by omega) (by omega) ?_ ?_⟩
      · simp -dsimp only [go_sem, levF_gF hx] <;> simp <;> omega
      · simp -dsimp only [go_sem, tyC, tysC_map]
    · have hg : decide ((i : Int) < (e.length : Int)) = false := by simp; omega
      obtain rfl : i = e.length := by omega
      rw [List.take_length]
      simp (maxSteps := 1000000) -dsimp only [go_sem, hg, tyC, tysC_map]
      exact .sel [] (by simp) (by simp) rfl (.done (by simp -dsimp only [go_sem]; exact hK))
mutual
def fewT : Ty → Bool
  | .mk k s n e => bif decide (40 < (bl n).length) || decide (3 < e.length) || decide (8 < levF 20 (.mk k s n e)) then false else fewTs e
def fewTs : List Ty → Bool
  | [] => true
  | t :: r => fewT t && fewTs r
end
theorem fewTs_all : ∀ l : List Ty, fewTs l = l.all fewT
  | [] => rfl
  | t :: r => by rw [fewTs, fewTs_all r]; rfl
theorem few_e {k s : Int} {n : ByteArray} {e : List Ty} (h : fewT (.mk k s n e) = true) : ((bl n).length ≤ 40 ∧ e.length ≤ 3 ∧ levF 20 (.mk k s n e) ≤ 8) ∧ ∀ u ∈ e, fewT u = true := by
  rw [fewT] at h
  cases c : decide (40 < (bl n).length) || decide (3 < e.length) || decide (8 < levF 20 (.mk k s n e)) with
  | true => rw [c] at h; cases h
  | false =>
    rw [c] at h
    simp only [Bool.or_eq_false_iff, decide_eq_false_iff_not] at c
    refine ⟨by omega, fun u hu => ?_⟩
    simp only [Bool.cond_false, fewTs_all, List.all_eq_true] at h
    exact h u hu
theorem few_h {t : Ty} (h : fewT t = true) : t.h ≤ 9 := by
  obtain ⟨k, s, n, e⟩ := t
  have h1 := (few_e h).1.2.2
  have := lev_h 20 (.mk k s n e) (by omega)
  omega
theorem few_sm : ∀ (N : Nat) (t : Ty), t.h ≤ N → fewT t = true → TySm t
  | 0, t, h, _ => absurd h (by have := t.h_pos; omega)
  | N + 1, .mk k s n e, h, hf => by
    obtain ⟨⟨_, h2, _⟩, h3⟩ := few_e hf
    refine .mk (by omega) fun u hu => few_sm N u ?_ (h3 u hu)
    have := Ty.hs_mem hu; rw [Ty.h] at h; omega
theorem lv_h : ∀ (N : Nat) (t : Ty), t.h ≤ N → (lvT t).1 ≤ t.h
  | 0, t, h => absurd h (by have := t.h_pos; omega)
  | N + 1, .mk k s n e, h => by
    cases c : (k == 5 && decide (0 < (e.length : Int))) with
    | false => rw [lvT_stop c]; exact Nat.zero_le _
    | true =>
      simp only [Bool.and_eq_true, beq_iff_eq, decide_eq_true_eq] at c
      obtain ⟨rfl, c⟩ := c
      cases e with
      | nil => simp at c
      | cons u r =>
        rw [lvT_cons]
        have h2 := lv_h N u (by rw [Ty.h, Ty.hs] at h; omega)
        rw [Ty.h, Ty.hs]; simp only; omega
def ftPre (N : Nat) : List S → Prop := fun av => match av with
  | [.va (.gs q)] => isTy q ∧ (C.ty q).h ≤ N
  | _ => False
theorem ftPre_open {N : Nat} {av : List S} (h : ftPre N av) : ∃ t : Ty, av = [.va (.gs (tyC t))] ∧ TyOk t ∧ t.h ≤ N := by
  unfold ftPre at h
  split at h
  · obtain ⟨⟨t, rfl, ht⟩, h⟩ := h
    rw [ty_dec] at h
    exact ⟨t, rfl, ht, h⟩
  · exact h.elim
noncomputable def ftVal : List S → A := fun av => match av with
  | [.va (.gs q)] => bA (fewT (C.ty q))
  | _ => .gs []
noncomputable def ftFn (N : Nat) : Fun := ⟨ftPre N, ftVal, fun av h => by obtain ⟨a, rfl, _⟩ := ftPre_open h; trivial⟩
theorem ftFn_len {N : Nat} : ∀ av H K, (ftFn N).sp av H K → av.length = 1 := fun av H K h => by obtain ⟨a, rfl, _⟩ := ftPre_open h.1.1; rfl
attribute [go_sem] ftFn ftPre ftVal
set_option maxRecDepth 100000 in
set_option maxHeartbeats 1000000 in
theorem mFewType' : ∀ N, Meets Try.prog 19 (ftFn N).sp
  | 0 => ⟨by kernel_rfl, by rintro xs vs E ro w K _ _ _ ⟨⟨h, _⟩, _⟩; obtain ⟨a, _, _, h⟩ := ftPre_open h; have := a.h_pos; omega⟩
  | N + 1 => by
    refine meets_fn Try.func19 ok19 1 (by rw [Try.ntmps19]; decide) (meetsAll_f (mLevel 20) (meetsAll_f (mFewType' N) (meetsAll_nil _))) ftFn_len ?_
    rintro av H K ⟨⟨h, rfl⟩, hK⟩
    obtain ⟨t, rfl, ht, hN⟩ := ftPre_open h
    have hK : K (bS (fewT t)) [] := by
      have : (ftFn (N + 1)).val [.va (.gs (tyC t))] = bA (fewT t) := by simp -dsimp only [go_sem]
      rw [this] at hK; exact hK
    clear h
    have hit := isTy_mk ht
    obtain ⟨k, s, n, e⟩ := t
    have hte := ht.e
    have hte2 := ht.len
    simp only [Ty.e] at hte hte2
    have fin : ∀ (x : Bool) (R : Hp), fewT (.mk k s n e) = x → W.Fin 0 K (bS x) R := fun x R h1 => by
      rw [h1] at hK
      exact .sel [] (by simp) (by simp) rfl (.done (by simpa [go_sem] using hK))
    have hcd := ty_dec (.mk k s n e)
    have hF := fewT.eq_1 k s n e
    rw [tyC, tysC_map] at hit hcd
    generalize hlv : levF 20 (.mk k s n e) = lv at hF
    have hl20 := levF_le 20 (.mk k s n e)
    rw [hlv] at hl20
    have e20 : ((20 : Nat) : Int) = 20 := rfl
    have hb20 : (20 ≤ 1000) = True := by simp
    simp (maxSteps := 1000000) -dsimp only [go_sem, tyC, tysC_map, pc19, rs19, hit, hcd, hlv, e20, hb20]
    refine ⟨fun h1 => fin false _ ?_, fun h1 => ?_⟩
    · rw [hF]
      simp only [Bool.or_eq_true, decide_eq_true_eq] at h1
      rw [show (decide (40 < (bl n).length) || decide (3 < e.length) || decide (8 < lv)) = true by simp only [Bool.or_eq_true, decide_eq_true_eq]; omega]; rfl
    have hF2 : fewT (.mk k s n e) = e.all fewT := by
      simp only [Bool.or_eq_false_iff, decide_eq_false_iff_not] at h1
      rw [hF, show (decide (40 < (bl n).length) || decide (3 < e.length) || decide (8 < lv)) = false by simp only [Bool.or_eq_false_iff, decide_eq_false_iff_not]; omega, fewTs_all]; rfl
    refine vc_loop (α := Nat) (fun i => [(1, .va (.c1 (.pt 0 0))), (3, iS .i64 i)]) (fun i => [.cells (tyC (.mk k s n e)) 40])
      (fun i => i ≤ e.length ∧ ∀ u ∈ e.take i, fewT u = true) (fun i => e.length - i) 0 1 ⟨Nat.zero_le _, fun u hu => by cases hu⟩ ?_ ?_ ?_
    · simp -dsimp only [go_sem] <;> simp
    · simp -dsimp only [go_sem, tyC, tysC_map]
    rintro i ⟨hi, ho⟩
    rcases Nat.lt_or_ge i e.length with hlt | hge
    · have hg : decide ((i : Int) < (e.length : Int)) = true := by simp; omega
      obtain ⟨u, hx⟩ : ∃ t, e[i]? = some t := ⟨_, List.getElem?_eq_getElem hlt⟩
      have hum := List.mem_of_getElem? hx
      have q1 := row_rg' (row := tyC) hx
      have hu : isTy (tyC u) := isTy_mk (hte u hum)
      have huh : (u.h ≤ N) = True := eq_true (by have := Ty.hs_mem hum; rw [Ty.h] at hN; omega)
      simp (maxSteps := 1000000) -dsimp only [go_sem, hg, ↓q1, tyC, tysC_map, tyC_len, hu, huh]
      refine ⟨by omega, fun h1 => fin false _ ?_, fun h1 => ?_⟩
      · rw [hF2, List.all_eq_false]; exact ⟨u, hum, by simpa using h1⟩
      · refine ⟨by omega, loop_next (i + 1) 1 ⟨by omega, fun v hv => ?_⟩ (by omega) ?_ ?_⟩
        · rw [take_next hx] at hv
          rcases List.mem_append.1 hv with h | h
          · exact ho v h
          · obtain rfl : v = u := by simpa using h
            simpa using h1
        · simp -dsimp only [go_sem] <;> simp
        · simp -dsimp only [go_sem, tyC, tysC_map]
    · have hg : decide ((i : Int) < (e.length : Int)) = false := by simp; omega
      obtain rfl : i = e.length := by omega
      rw [List.take_length] at ho
      simp (maxSteps := 1000000) -dsimp only [go_sem, hg, tyC, tysC_map]
      exact fin true _ (by rw [hF2, List.all_eq_true]; exact ho)
noncomputable def f0Fn : Fun := gFn isTy C.ty fun t => .bool (fewT t)
attribute [go_sem] f0Fn
theorem mFewType : Meets Try.prog 19 f0Fn.sp := meets_all 0 mFewType' fun av H K ⟨⟨h, e⟩, hK⟩ => by
  obtain ⟨_, rfl, t, rfl, ht⟩ := gPre_open h
  exact ⟨t.h, ⟨⟨⟨isTy_mk ht, by rw [ty_dec]; exact Nat.le_refl _⟩, e⟩, hK⟩⟩
end Go.Proofs.Ytpfmkfafagiicaa
/- The reference: Few. -/
namespace Go.Proofs.Ytpfmkfafagiicaa
open Go.W
def fewE (e : En) : Bool := !(decide (40 < (bl e.nm).length) || decide (18 < e.ns.length) || decide (18 < e.vs.length)) && e.ns.all fun n => !(decide (40 < (bl n).length))
def fewFl (f : Fl) : Bool := !(decide (40 < (bl f.nm).length) || !(fewT f.ty))
def fewSt (t : St) : Bool := !(decide (40 < (bl t.nm).length) || decide (18 < t.fs.length)) && t.fs.all fewFl
def fewS (s : Sc) : Bool := !(decide (18 < s.es.length) || decide (18 < s.ss.length)) && (s.es.all fewE && s.ss.all fewSt)
theorem few_fit {s : Sc} (h : s.ok) (hf : fewS s = true) : s.fit := by
  unfold fewS at hf
  simp only [Bool.and_eq_true, List.all_eq_true, Bool.not_eq_true', Bool.or_eq_false_iff, decide_eq_false_iff_not] at hf
  obtain ⟨_, he, hs⟩ := hf
  have hfl : ∀ t ∈ s.ss, t.fs.length ≤ 18 ∧ ∀ f ∈ t.fs, fewT f.ty = true := fun t ht => by
    have := hs t ht
    unfold fewSt at this
    simp only [Bool.and_eq_true, List.all_eq_true, Bool.not_eq_true', Bool.or_eq_false_iff, decide_eq_false_iff_not] at this
    refine ⟨by omega, fun f hf => ?_⟩
    have := this.2 f hf
    unfold fewFl at this
    simp only [Bool.not_eq_true', Bool.or_eq_false_iff, Bool.not_eq_false'] at this
    exact this.2
  refine ⟨h, fun t ht f hf => ?_, fun t ht => ⟨by have := (hfl t ht).1; omega, fun f hf => few_sm _ _ (Nat.le_refl _) ((hfl t ht).2 f hf)⟩, fun e hm => ?_⟩
  · have h1 := few_h ((hfl t ht).2 f hf)
    have h2 := lv_h _ f.ty (Nat.le_refl _)
    omega
  · have := he e hm
    unfold fewE at this
    simp only [Bool.and_eq_true, List.all_eq_true, Bool.not_eq_true', Bool.or_eq_false_iff, decide_eq_false_iff_not] at this
    omega
theorem all_step {α : Type} {l : List α} {i : Nat} {x : α} (hx : l[i]? = some x) (p : α → Bool) : (l.drop i).all p = (p x && (l.drop (i + 1)).all p) := by
  obtain ⟨h, rfl⟩ := List.getElem?_eq_some_iff.1 hx
  rw [List.drop_eq_getElem_cons h, List.all_cons]
theorem all_end {α : Type} {l : List α} (p : α → Bool) : (l.drop l.length).all p = true := by rw [List.drop_length]; rfl
set_option maxRecDepth 100000 in
set_option maxHeartbeats 4000000 in
theorem mFew : Meets Try.prog 10 (gFn isSc C.sc fun s => .bool (fewS s)).sp := by
  refine meets_fn Try.func10 ok10 1 (by rw [Try.ntmps10]; decide) (meetsAll_f mFewType (meetsAll_nil _)) gFn_len ?_
  rintro av H K ⟨⟨h, rfl⟩, hK⟩
  obtain ⟨_, rfl, s, rfl, hs⟩ := gPre_open h
  have hK : K (bS (fewS s)) [] := by
    have : (gFn isSc C.sc fun s => .bool (fewS s)).val [.va (.gs (scC s))] = bA (fewS s) := by simp -dsimp only [go_sem]
    rw [this] at hK; exact hK
  clear h
  obtain ⟨hv, hle, hls, hes, hss⟩ := hs
  have fin : ∀ (x : Bool) (R : Hp), fewS s = x → W.Fin 0 K (bS x) R := fun x R h1 => by
    rw [h1] at hK
    exact .sel [] (by simp) (by simp) rfl (.done (by simpa [go_sem] using hK))
  simp (maxSteps := 1000000) -dsimp only [go_sem, scC, pc10, rs10]
  refine ⟨fun h1 => fin false _ ?_, fun h1 => ?_⟩
  · unfold fewS
    rw [show (decide (18 < s.es.length) || decide (18 < s.ss.length)) = true by simp only [Bool.or_eq_true, decide_eq_true_eq] at h1 ⊢; omega]; rfl
  have hF : fewS s = (s.es.all fewE && s.ss.all fewSt) := by
    unfold fewS
    rw [show (decide (18 < s.es.length) || decide (18 < s.ss.length)) = false by simp only [Bool.or_eq_false_iff, decide_eq_false_iff_not] at h1 ⊢; omega]; rfl
  refine vc_loop (α := Nat) (fun i => [(1, .va (.c1 (.pt 0 0))), (3, iS .i64 i)]) (fun _ => [.cells (scC s) 25])
    (fun i => i ≤ s.es.length ∧ (s.es.drop i).all fewE = s.es.all fewE) (fun i => s.es.length - i) 0 1 ⟨Nat.zero_le _, rfl⟩ ?_ ?_ ?_
  · simp -dsimp only [go_sem] <;> simp
  · simp -dsimp only [go_sem, scC] <;> simp
  rintro i ⟨hi, ho⟩
  rcases Nat.lt_or_ge i s.es.length with hlt | hge
  · have hg : decide ((i : Int) < (s.es.length : Int)) = true := by simp; omega
    obtain ⟨e, hx⟩ : ∃ e, s.es[i]? = some e := ⟨_, List.getElem?_eq_getElem hlt⟩
    have hem := List.mem_of_getElem? hx
    have q1 := row_rg' (row := enC) hx
    obtain ⟨_, hln, hlv, _, _⟩ := hes e hem
    rw [all_step hx] at ho
    have bad : fewE e = false → ∀ R, W.Fin 0 K (bS false) R := fun h R => fin false R (by rw [hF, ← ho, h]; rfl)
    have cst : ∀ (a b : Nat), decide ((a : Int) < (b : Int)) = decide (a < b) := fun a b => by simp
    have hE : fewE e = (!(decide (40 < ((bl e.nm).length : Int)) || decide (18 < (e.ns.length : Int)) || decide (18 < (e.vs.length : Int))) && e.ns.all fun n => !(decide (40 < ((bl n).length : Int)))) := by
      unfold fewE
      have c40 : ∀ b : Nat, decide (40 < (b : Int)) = decide (40 < b) := fun b => by simp; omega
      have c18 : ∀ b : Nat, decide (18 < (b : Int)) = decide (18 < b) := fun b => by simp; omega
      simp only [c40, c18]
    cases d1 : decide (40 < ((bl e.nm).length : Int)) with
    | true =>
      rw [d1] at hE
      simp (maxSteps := 1000000) -dsimp only [go_sem, hg, ↓q1, enC, scC, d1]
      exact ⟨by omega, bad hE _⟩
    | false =>
    cases d2 : decide (18 < (e.ns.length : Int)) with
    | true =>
      rw [d1, d2] at hE
      simp (maxSteps := 1000000) -dsimp only [go_sem, hg, ↓q1, enC, scC, d1, d2]
      exact ⟨by omega, by omega, bad hE _⟩
    | false =>
    cases d3 : decide (18 < (e.vs.length : Int)) with
    | true =>
      rw [d1, d2, d3] at hE
      simp (maxSteps := 1000000) -dsimp only [go_sem, hg, ↓q1, enC, scC, d1, d2, d3]
      exact ⟨by omega, by omega, by omega, bad hE _⟩
    | false =>
      rw [d1, d2, d3] at hE
      simp only [Bool.or_self, Bool.not_false, Bool.true_and] at hE
      simp (maxSteps := 1000000) -dsimp only [go_sem, hg, ↓q1, enC, scC, d1, d2, d3]
      refine ⟨by omega, by omega, by omega, ?_⟩
      refine vc_loop (α := Nat) (fun k => [(1, .va (.c1 (.pt 0 0))), (3, iS .i64 i), (4, iS .i64 k)]) (fun _ => [.cells (scC s) 25])
        (fun k => k ≤ e.ns.length ∧ ((e.ns.drop k).all fun n => !(decide (40 < ((bl n).length : Int)))) = e.ns.all fun n => !(decide (40 < ((bl n).length : Int)))) (fun k => e.ns.length - k) 0 1 ⟨Nat.zero_le _, rfl⟩ ?_ ?_ ?_
      · simp -dsimp only [go_sem] <;> simp
      · simp -dsimp only [go_sem, scC] <;> simp
      rintro k ⟨hk, ho2⟩
      rcases Nat.lt_or_ge k e.ns.length with hkt | hkg
      · have hgk : decide ((k : Int) < (e.ns.length : Int)) = true := by simp; omega
        obtain ⟨n, hn⟩ : ∃ n, e.ns[k]? = some n := ⟨_, List.getElem?_eq_getElem hkt⟩
        have q2 := row_rg' (row := stR) hn
        rw [all_step hn] at ho2
        simp (maxSteps := 1000000) -dsimp only [go_sem, ↓q1, enC, scC, hgk]
        simp (maxSteps := 1000000) -dsimp only [go_sem, hn, Option.some.injEq, forall_eq']
        refine ⟨by omega, by omega, by omega, fun h2 => bad (by rw [hE, ← ho2, h2]; rfl) _, fun h2 => ?_⟩
        rw [h2] at ho2
        refine ⟨by omega, loop_next (k + 1) 1 ⟨by omega, by simpa using ho2⟩ (by omega) ?_ ?_⟩
        · simp -dsimp only [go_sem] <;> simp
        · simp -dsimp only [go_sem, scC] <;> simp
      · have hgk : decide ((k : Int) < (e.ns.length : Int)) = false := by simp; omega
        obtain rfl : k = e.ns.length := by omega
        rw [all_end] at ho2
        rw [hE, ← ho2, Bool.true_and] at ho
        simp (maxSteps := 1000000) -dsimp only [go_sem, ↓q1, enC, scC, hgk]
        refine ⟨by omega, by omega, loop_next (i + 1) 1 ⟨by omega, ho⟩ (by omega) ?_ ?_⟩
        · simp -dsimp only [go_sem] <;> simp
        · simp -dsimp only [go_sem, scC] <;> simp
  · have hg : decide ((i : Int) < (s.es.length : Int)) = false := by simp; omega
    obtain rfl : i = s.es.length := by omega
    rw [all_end] at ho
    rw [← ho, Bool.true_and] at hF
    simp (maxSteps := 1000000) -dsimp only [go_sem, hg, scC]
    clear ho hi hge hg
    refine vc_loop (α := Nat) (fun i => [(1, .va (.c1 (.pt 0 0))), (5, iS .i64 i)]) (fun _ => [.cells (scC s) 25])
      (fun i => i ≤ s.ss.length ∧ (s.ss.drop i).all fewSt = s.ss.all fewSt) (fun i => s.ss.length - i) 0 1 ⟨Nat.zero_le _, rfl⟩ ?_ ?_ ?_
    · simp -dsimp only [go_sem] <;> simp
    · simp -dsimp only [go_sem, scC] <;> simp
    rintro i ⟨hi, ho⟩
    rcases Nat.lt_or_ge i s.ss.length with hlt | hge
    · have hg : decide ((i : Int) < (s.ss.length : Int)) = true := by simp; omega
      obtain ⟨e, hx⟩ : ∃ e, s.ss[i]? = some e := ⟨_, List.getElem?_eq_getElem hlt⟩
      have hem := List.mem_of_getElem? hx
      have q1 := row_rg' (row := stC) hx
      obtain ⟨_, hln, hfs⟩ := hss e hem
      rw [all_step hx] at ho
      have bad : fewSt e = false → ∀ R, W.Fin 0 K (bS false) R := fun h R => fin false R (by rw [hF, ← ho, h]; rfl)
      have hE : fewSt e = (!(decide (40 < ((bl e.nm).length : Int)) || decide (18 < (e.fs.length : Int))) && e.fs.all fewFl) := by
        unfold fewSt
        have c40 : ∀ b : Nat, decide (40 < (b : Int)) = decide (40 < b) := fun b => by simp; omega
        have c18 : ∀ b : Nat, decide (18 < (b : Int)) = decide (18 < b) := fun b => by simp; omega
        simp only [c40, c18]
      cases d1 : decide (40 < ((bl e.nm).length : Int)) with
      | true =>
        rw [d1] at hE
        simp (maxSteps := 1000000) -dsimp only [go_sem, hg, ↓q1, stC, scC, d1]
        exact ⟨by omega, bad hE _⟩
      | false =>
      cases d2 : decide (18 < (e.fs.length : Int)) with
      | true =>
        rw [d1, d2] at hE
        simp (maxSteps := 1000000) -dsimp only [go_sem, hg, ↓q1, stC, scC, d1, d2]
        exact ⟨by omega, by omega, bad hE _⟩
      | false =>
        rw [d1, d2] at hE
        simp only [Bool.or_self, Bool.not_false, Bool.true_and] at hE
        simp (maxSteps := 1000000) -dsimp only [go_sem, hg, ↓q1, stC, scC, d1, d2]
        refine ⟨by omega, by omega, ?_⟩
        refine vc_loop (α := Nat) (fun k => [(1, .va (.c1 (.pt 0 0))), (5, iS .i64 i), (6, iS .i64 k)]) (fun _ => [.cells (scC s) 25])
          (fun k => k ≤ e.fs.length ∧ (e.fs.drop k).all fewFl = e.fs.all fewFl) (fun k => e.fs.length - k) 0 1 ⟨Nat.zero_le _, rfl⟩ ?_ ?_ ?_
        · simp -dsimp only [go_sem] <;> simp
        · simp -dsimp only [go_sem, scC] <;> simp
        rintro k ⟨hk, ho2⟩
        rcases Nat.lt_or_ge k e.fs.length with hkt | hkg
        · have hgk : decide ((k : Int) < (e.fs.length : Int)) = true := by simp; omega
          obtain ⟨f, hn⟩ : ∃ n, e.fs[k]? = some n := ⟨_, List.getElem?_eq_getElem hkt⟩
          have q2 := row_rg' (row := flC) hn
          have hity : isTy (tyC f.ty) := isTy_mk (hfs f (List.mem_of_getElem? hn)).ty
          rw [all_step hn] at ho2
          have hFl : fewFl f = !(decide (40 < ((bl f.nm).length : Int)) || !(fewT f.ty)) := by
            unfold fewFl
            have c40 : ∀ b : Nat, decide (40 < (b : Int)) = decide (40 < b) := fun b => by simp; omega
            simp only [c40]
          cases d3 : decide (40 < ((bl f.nm).length : Int)) with
          | true =>
            rw [d3] at hFl
            simp (maxSteps := 1000000) -dsimp only [go_sem, ↓q1, stC, scC, hgk]
            simp (maxSteps := 1000000) -dsimp only [go_sem, flC, hn, Option.some.injEq, forall_eq', d3]
            refine ⟨by omega, by omega, by omega, bad (by rw [hE, ← ho2, hFl]; rfl) _⟩
          | false =>
            rw [d3] at hFl
            simp only [Bool.false_or, Bool.not_not] at hFl
            rw [hFl] at ho2
            simp (maxSteps := 1000000) -dsimp only [go_sem, ↓q1, stC, scC, hgk]
            simp (maxSteps := 1000000) -dsimp only [go_sem, flC, fl_ty, hity, hn, Option.some.injEq, forall_eq', d3]
            refine ⟨by omega, by omega, by omega, by omega, by omega, fun h2 => bad (by rw [hE, ← ho2, h2]; rfl) _, fun h2 => ?_⟩
            rw [show fewT f.ty = true by simpa using h2, Bool.true_and] at ho2
            refine ⟨by omega, loop_next (k + 1) 1 ⟨by omega, ho2⟩ (by omega) ?_ ?_⟩
            · simp -dsimp only [go_sem] <;> simp
            · simp -dsimp only [go_sem, scC] <;> simp
        · have hgk : decide ((k : Int) < (e.fs.length : Int)) = false := by simp; omega
          obtain rfl : k = e.fs.length := by omega
          rw [all_end] at ho2
          rw [hE, ← ho2, Bool.true_and] at ho
          simp (maxSteps := 1000000) -dsimp only [go_sem, ↓q1, stC, scC, hgk]
          refine ⟨by omega, by omega, loop_next (i + 1) 1 ⟨by omega, ho⟩ (by omega) ?_ ?_⟩
          · simp -dsimp only [go_sem] <;> simp
          · simp -dsimp only [go_sem, scC] <;> simp
    · have hg : decide ((i : Int) < (s.ss.length : Int)) = false := by simp; omega
      obtain rfl : i = s.ss.length := by omega
      rw [all_end] at ho
      simp (maxSteps := 1000000) -dsimp only [go_sem, hg, scC]
      exact fin true _ (by rw [hF, ← ho])
end Go.Proofs.Ytpfmkfafagiicaa
namespace Go.Proofs.Ytpfmkfafagiicaa
open Go.W
/-- robotics/roboticslaw07.SchemaChecks -/
def pc3 : PC :=
  .seq (.reg /- 0 -/ [⟨(some 1), none, .e (.bx 25 (.t 0))⟩,
      ⟨(some 2), none, .q (.mv (.k (.bool false)))⟩])
  (.seq (.seq (.reg /- 1 -/ [⟨(some 3), none, .l (.ldn 3 (.t 1))⟩,
      ⟨(some 4), none, .cq 10 [(.t 3)]⟩,
      ⟨(some 5), none, .q (.not (.t 4))⟩])
    (.cond (.t 5)
      (.seq (.reg /- 2 -/ [⟨(some 6), none, .cq 11 []⟩,
      ⟨(some 2), none, .q (.mv (.t 6))⟩])
        (.ret))
      (.skip)))
    (.seq (.reg /- 3 -/ [⟨(some 7), none, .l (.ldn 3 (.t 1))⟩,
      ⟨(some 8), none, .cq 12 [(.t 7)]⟩,
      ⟨(some 9), none, .l (.ldn 3 (.t 1))⟩,
      ⟨(some 10), none, .cq 13 [(.t 9)]⟩,
      ⟨(some 11), none, .q (.bin .eql true (.t 8) (.t 10))⟩,
      ⟨(some 12), none, .q (.mv (.t 11))⟩,
      ⟨(some 13), (some (12, true)), .cq 11 []⟩,
      ⟨(some 14), none, .pick (.t 12) (.t 13) (.k (.bool false))⟩,
      ⟨(some 2), none, .q (.mv (.t 14))⟩])
      (.ret)))
def rs3 : List RV := [.mv (.t 2)]
theorem ok3 : trFn Try.prog true ⟨fun r k => if r = 1 ∧ k = 1 then .q else if r = 2 ∧ k = 0 then .q else if r = 3 ∧ k = 1 then .q else if r = 3 ∧ k = 3 then .q else if r = 3 ∧ k = 6 then .q else .own [], fun _ => false⟩ Try.f3 = some (pc3, rs3) := by kernel_rfl
/-- robotics/roboticslaw07.SchemaNests -/
def pc4 : PC :=
  .seq (.reg /- 0 -/ [⟨(some 2), none, .e (.bx 25 (.t 0))⟩,
      ⟨(some 4), none, .q (.mv (.k (.bool false)))⟩])
  (.seq (.seq (.reg /- 1 -/ [⟨(some 7), none, .l (.ldn 3 (.t 2))⟩,
      ⟨(some 8), none, .cq 10 [(.t 7)]⟩,
      ⟨(some 9), none, .q (.not (.t 8))⟩])
    (.cond (.t 9)
      (.seq (.reg /- 2 -/ [⟨(some 10), none, .cq 11 []⟩,
      ⟨(some 4), none, .q (.mv (.t 10))⟩])
        (.ret))
      (.skip)))
    (.seq (.seq (.reg /- 3 -/ [⟨(some 5), none, .q (.mv (.k (.int .i64 0)))⟩])
      (.block 0 (.loop (.seq (.seq (.reg /- 4 -/ [⟨(some 11), none, .q (.mv (.t 5))⟩,
      ⟨(some 12), none, .q (.fa 2 (.t 2))⟩,
      ⟨(some 13), none, .l (.ld1 (.t 12))⟩,
      ⟨(some 14), none, .q (.lnL (.t 13))⟩,
      ⟨(some 15), none, .q (.bin .lss true (.t 11) (.t 14))⟩])
            (.cond (.t 15)
              (.skip)
              (.exit 0)))
            (.seq (.block 1 (.seq (.reg /- 6 -/ [⟨(some 18), none, .q (.fa 2 (.t 2))⟩,
      ⟨(some 19), none, .l (.ld1 (.t 18))⟩,
      ⟨(some 20), none, .q (.mv (.t 5))⟩,
      ⟨(some 21), none, .l (.ia 2 (.t 19) (.t 20))⟩,
      ⟨(some 22), none, .q (.fa 0 (.t 21))⟩,
      ⟨(some 23), none, .l (.ld1 (.t 22))⟩,
      ⟨(some 6), none, .q (.mv (.t 23))⟩])
                (.seq (.ord /- 7 -/ [.q ⟨(some 24), none, .l (.ldn 3 (.t 2))⟩,
      .q ⟨(some 25), none, .q (.mv (.t 6))⟩,
      .q ⟨(some 27), none, .l (.ldn 3 (.t 2))⟩,
      .q ⟨(some 28), none, .q (.mv (.t 6))⟩,
      .m ⟨(some 26), none, .cq 14 [(.t 24), (.t 25)]⟩,
      .rc ⟨(some 27), none, .l (.ldn 3 (.t 2))⟩,
      .rc ⟨(some 28), none, .q (.mv (.t 6))⟩,
      .m ⟨(some 29), none, .cq 15 [(.t 27), (.t 28)]⟩,
      .q ⟨(some 30), none, .q (.bin .neq true (.t 26) (.t 29))⟩,
      .q ⟨(some 31), none, .q (.mv (.t 30))⟩,
      .q ⟨(some 32), (some (31, false)), .l (.ldn 3 (.t 2))⟩,
      .q ⟨(some 33), (some (31, false)), .q (.mv (.t 6))⟩,
      .q ⟨(some 35), (some (31, false)), .l (.ldn 3 (.t 2))⟩,
      .q ⟨(some 36), (some (31, false)), .q (.mv (.t 6))⟩,
      .m ⟨(some 34), (some (31, false)), .cl 17 [(.t 32), (.t 33)] []⟩,
      .rc ⟨(some 35), (some (31, false)), .l (.ldn 3 (.t 2))⟩,
      .rc ⟨(some 36), (some (31, false)), .q (.mv (.t 6))⟩,
      .m ⟨(some 37), (some (31, false)), .cl 18 [(.t 35), (.t 36)] []⟩,
      .m ⟨(some 38), (some (31, false)), .cq 16 [(.t 34), (.t 37)]⟩,
      .q ⟨(some 39), (some (31, false)), .q (.not (.t 38))⟩,
      .q ⟨(some 40), none, .pick (.t 31) (.k (.bool true)) (.t 39)⟩])
                  (.cond (.t 40)
                    (.seq (.reg /- 8 -/ [⟨(some 4), none, .q (.mv (.k (.bool false)))⟩])
                      (.ret))
                    (.skip)))))
              (.reg /- 5 -/ [⟨(some 16), none, .q (.mv (.t 5))⟩,
      ⟨(some 17), none, .q (.bin .add true (.t 16) (.k (.int .i64 1)))⟩,
      ⟨(some 5), none, .q (.mv (.t 17))⟩]))))))
      (.seq (.ord /- 9 -/ [.q ⟨(some 41), none, .l (.ldn 3 (.t 2))⟩,
      .q ⟨(some 42), none, .q (.mv (.t 1))⟩,
      .q ⟨(some 44), none, .l (.ldn 3 (.t 2))⟩,
      .q ⟨(some 45), none, .q (.mv (.t 1))⟩,
      .m ⟨(some 43), none, .cq 14 [(.t 41), (.t 42)]⟩,
      .rc ⟨(some 44), none, .l (.ldn 3 (.t 2))⟩,
      .rc ⟨(some 45), none, .q (.mv (.t 1))⟩,
      .m ⟨(some 46), none, .cq 15 [(.t 44), (.t 45)]⟩,
      .q ⟨(some 47), none, .q (.bin .eql true (.t 43) (.t 46))⟩,
      .q ⟨(some 48), none, .q (.mv (.t 47))⟩,
      .q ⟨(some 49), (some (48, true)), .l (.ldn 3 (.t 2))⟩,
      .q ⟨(some 50), (some (48, true)), .q (.mv (.t 1))⟩,
      .q ⟨(some 52), (some (48, true)), .l (.ldn 3 (.t 2))⟩,
      .q ⟨(some 53), (some (48, true)), .q (.mv (.t 1))⟩,
      .m ⟨(some 51), (some (48, true)), .cl 17 [(.t 49), (.t 50)] []⟩,
      .rc ⟨(some 52), (some (48, true)), .l (.ldn 3 (.t 2))⟩,
      .rc ⟨(some 53), (some (48, true)), .q (.mv (.t 1))⟩,
      .m ⟨(some 54), (some (48, true)), .cl 18 [(.t 52), (.t 53)] []⟩,
      .m ⟨(some 55), (some (48, true)), .cq 16 [(.t 51), (.t 54)]⟩,
      .q ⟨(some 56), none, .pick (.t 48) (.t 55) (.k (.bool false))⟩,
      .q ⟨(some 57), none, .q (.mv (.t 56))⟩,
      .m ⟨(some 58), (some (57, true)), .cq 11 []⟩,
      .q ⟨(some 59), none, .pick (.t 57) (.t 58) (.k (.bool false))⟩,
      .m ⟨(some 4), none, .q (.mv (.t 59))⟩])
        (.ret))))
def rs4 : List RV := [.mv (.t 4)]
theorem ok4 : trFn Try.prog true ⟨fun r k => if r = 1 ∧ k = 1 then .q else if r = 2 ∧ k = 0 then .q else if r = 7 ∧ k = 2 then .q else if r = 7 ∧ k = 5 then .q else if r = 7 ∧ k = 14 then .q else if r = 9 ∧ k = 2 then .q else if r = 9 ∧ k = 5 then .q else if r = 9 ∧ k = 14 then .q else if r = 9 ∧ k = 17 then .q else .own [], fun _ => false⟩ Try.f4 = some (pc4, rs4) := by kernel_rfl
/-- robotics/roboticslaw07.SchemaSame -/
def pc5 : PC :=
  .seq (.reg /- 0 -/ [⟨(some 2), none, .e (.bx 40 (.t 0))⟩,
      ⟨(some 3), none, .e (.bx 40 (.t 1))⟩,
      ⟨(some 4), none, .q (.mv (.k (.bool false)))⟩])
  (.seq (.seq (.reg /- 1 -/ [⟨(some 5), none, .l (.ldn 4 (.t 2))⟩,
      ⟨(some 6), none, .cq 19 [(.t 5)]⟩,
      ⟨(some 7), none, .q (.not (.t 6))⟩,
      ⟨(some 8), none, .q (.mv (.t 7))⟩,
      ⟨(some 9), (some (8, false)), .l (.ldn 4 (.t 3))⟩,
      ⟨(some 10), (some (8, false)), .cq 19 [(.t 9)]⟩,
      ⟨(some 11), (some (8, false)), .q (.not (.t 10))⟩,
      ⟨(some 12), none, .pick (.t 8) (.k (.bool true)) (.t 11)⟩])
    (.cond (.t 12)
      (.seq (.reg /- 2 -/ [⟨(some 13), none, .cq 11 []⟩,
      ⟨(some 4), none, .q (.mv (.t 13))⟩])
        (.ret))
      (.skip)))
    (.seq (.reg /- 3 -/ [⟨(some 14), none, .l (.ldn 4 (.t 2))⟩,
      ⟨(some 15), none, .l (.ldn 4 (.t 3))⟩,
      ⟨(some 16), none, .cq 20 [(.t 14), (.t 15)]⟩,
      ⟨(some 17), none, .l (.ldn 4 (.t 2))⟩,
      ⟨(some 18), none, .l (.ldn 4 (.t 3))⟩,
      ⟨(some 19), none, .cq 21 [(.t 17), (.t 18)]⟩,
      ⟨(some 20), none, .q (.eqB false (.t 16) (.t 19))⟩,
      ⟨(some 21), none, .q (.mv (.t 20))⟩,
      ⟨(some 22), (some (21, true)), .l (.ldn 4 (.t 3))⟩,
      ⟨(some 23), (some (21, true)), .l (.ldn 4 (.t 2))⟩,
      ⟨(some 24), (some (21, true)), .cq 20 [(.t 22), (.t 23)]⟩,
      ⟨(some 25), (some (21, true)), .l (.ldn 4 (.t 2))⟩,
      ⟨(some 26), (some (21, true)), .l (.ldn 4 (.t 3))⟩,
      ⟨(some 27), (some (21, true)), .cq 20 [(.t 25), (.t 26)]⟩,
      ⟨(some 28), (some (21, true)), .q (.eqB false (.t 24) (.t 27))⟩,
      ⟨(some 29), none, .pick (.t 21) (.t 28) (.k (.bool false))⟩,
      ⟨(some 30), none, .q (.mv (.t 29))⟩,
      ⟨(some 31), (some (30, true)), .l (.ldn 4 (.t 2))⟩,
      ⟨(some 32), (some (30, true)), .l (.ldn 4 (.t 2))⟩,
      ⟨(some 33), (some (30, true)), .cq 20 [(.t 31), (.t 32)]⟩,
      ⟨(some 34), none, .pick (.t 30) (.t 33) (.k (.bool false))⟩,
      ⟨(some 35), none, .q (.mv (.t 34))⟩,
      ⟨(some 36), (some (35, true)), .cq 11 []⟩,
      ⟨(some 37), none, .pick (.t 35) (.t 36) (.k (.bool false))⟩,
      ⟨(some 4), none, .q (.mv (.t 37))⟩])
      (.ret)))
def rs5 : List RV := [.mv (.t 4)]
theorem ok5 : trFn Try.prog true ⟨fun r k => if r = 1 ∧ k = 1 then .q else if r = 1 ∧ k = 5 then .q else if r = 2 ∧ k = 0 then .q else if r = 3 ∧ k = 2 then .q else if r = 3 ∧ k = 5 then .q else if r = 3 ∧ k = 10 then .q else if r = 3 ∧ k = 13 then .q else if r = 3 ∧ k = 19 then .q else if r = 3 ∧ k = 22 then .q else .own [], fun _ => false⟩ Try.f5 = some (pc5, rs5) := by kernel_rfl
/-- robotics/roboticslaw07.SchemaFinds -/
def pc6 : PC :=
  .seq (.reg /- 0 -/ [⟨(some 3), none, .e (.bx 25 (.t 0))⟩,
      ⟨(some 6), none, .q (.mv (.k (.bool false)))⟩])
  (.seq (.seq (.reg /- 1 -/ [⟨(some 20), none, .l (.ldn 3 (.t 3))⟩,
      ⟨(some 21), none, .cq 10 [(.t 20)]⟩,
      ⟨(some 22), none, .q (.not (.t 21))⟩])
    (.cond (.t 22)
      (.seq (.reg /- 2 -/ [⟨(some 23), none, .cq 11 []⟩,
      ⟨(some 6), none, .q (.mv (.t 23))⟩])
        (.ret))
      (.skip)))
    (.seq (.reg /- 3 -/ [⟨(some 25), none, .l (.ldn 3 (.t 3))⟩,
      ⟨(some 26), none, .q (.mv (.t 1))⟩,
      ⟨(some 27), none, .cl 22 [(.t 25), (.t 26)] []⟩,
      ⟨(some 24), none, .q (.mv (.t 27))⟩,
      ⟨(some 28), none, .q (.ex (.t 24) 0)⟩,
      ⟨(some 29), none, .q (.ex (.t 24) 1)⟩,
      ⟨(some 7), none, .e (.al (.agg #[(.string (mk [])), (.slice none 0 0)]) 32)⟩,
      ⟨none, none, .e (.st 2 (.t 7) (.t 28))⟩,
      ⟨(some 8), none, .q (.mv (.t 29))⟩])
      (.seq (.reg /- 4 -/ [⟨(some 31), none, .l (.ldn 3 (.t 3))⟩,
      ⟨(some 32), none, .q (.mv (.t 1))⟩,
      ⟨(some 33), none, .cl 23 [(.t 31), (.t 32)] []⟩,
      ⟨(some 30), none, .q (.mv (.t 33))⟩,
      ⟨(some 34), none, .q (.ex (.t 30) 0)⟩,
      ⟨(some 35), none, .q (.ex (.t 30) 1)⟩,
      ⟨(some 9), none, .e (.al (.agg #[(.string (mk [])), (.slice none 0 0)]) 32)⟩,
      ⟨none, none, .e (.st 2 (.t 9) (.t 34))⟩,
      ⟨(some 10), none, .q (.mv (.t 35))⟩])
        (.seq (.reg /- 5 -/ [⟨(some 37), none, .l (.ldn 3 (.t 3))⟩,
      ⟨(some 38), none, .q (.mv (.t 1))⟩,
      ⟨(some 39), none, .cl 24 [(.t 37), (.t 38)] []⟩,
      ⟨(some 36), none, .q (.mv (.t 39))⟩,
      ⟨(some 40), none, .q (.ex (.t 36) 0)⟩,
      ⟨(some 41), none, .q (.ex (.t 36) 1)⟩,
      ⟨(some 11), none, .e (.al (.agg #[(.string (mk [])), (.slice none 0 0), (.slice none 0 0)]) 47)⟩,
      ⟨none, none, .e (.st 3 (.t 11) (.t 40))⟩,
      ⟨(some 12), none, .q (.mv (.t 41))⟩])
          (.seq (.reg /- 6 -/ [⟨(some 43), none, .l (.ldn 3 (.t 3))⟩,
      ⟨(some 44), none, .q (.mv (.t 1))⟩,
      ⟨(some 45), none, .cl 25 [(.t 43), (.t 44)] []⟩,
      ⟨(some 42), none, .q (.mv (.t 45))⟩,
      ⟨(some 46), none, .q (.ex (.t 42) 0)⟩,
      ⟨(some 47), none, .q (.ex (.t 42) 1)⟩,
      ⟨(some 13), none, .e (.al (.agg #[(.string (mk [])), (.slice none 0 0), (.slice none 0 0)]) 47)⟩,
      ⟨none, none, .e (.st 3 (.t 13) (.t 46))⟩,
      ⟨(some 14), none, .q (.mv (.t 47))⟩])
            (.seq (.seq (.reg /- 7 -/ [⟨(some 48), none, .q (.mv (.t 8))⟩,
      ⟨(some 49), none, .q (.mv (.t 10))⟩,
      ⟨(some 50), none, .q (.eqB true (.t 48) (.t 49))⟩,
      ⟨(some 51), none, .q (.mv (.t 50))⟩,
      ⟨(some 52), (some (51, false)), .l (.ldn 2 (.t 7))⟩,
      ⟨(some 53), (some (51, false)), .l (.ldn 2 (.t 9))⟩,
      ⟨(some 54), (some (51, false)), .cq 26 [(.t 52), (.t 53)]⟩,
      ⟨(some 55), (some (51, false)), .q (.not (.t 54))⟩,
      ⟨(some 56), none, .pick (.t 51) (.k (.bool true)) (.t 55)⟩,
      ⟨(some 57), none, .q (.mv (.t 56))⟩,
      ⟨(some 58), (some (57, false)), .q (.mv (.t 12))⟩,
      ⟨(some 59), (some (57, false)), .q (.mv (.t 14))⟩,
      ⟨(some 60), (some (57, false)), .q (.eqB true (.t 58) (.t 59))⟩,
      ⟨(some 61), none, .pick (.t 57) (.k (.bool true)) (.t 60)⟩,
      ⟨(some 62), none, .q (.mv (.t 61))⟩,
      ⟨(some 63), (some (62, false)), .l (.ldn 3 (.t 11))⟩,
      ⟨(some 64), (some (62, false)), .l (.ldn 3 (.t 13))⟩,
      ⟨(some 65), (some (62, false)), .cq 27 [(.t 63), (.t 64)]⟩,
      ⟨(some 66), (some (62, false)), .q (.not (.t 65))⟩,
      ⟨(some 67), none, .pick (.t 62) (.k (.bool true)) (.t 66)⟩])
              (.cond (.t 67)
                (.seq (.reg /- 8 -/ [⟨(some 6), none, .q (.mv (.k (.bool false)))⟩])
                  (.ret))
                (.skip)))
              (.seq (.seq (.reg /- 9 -/ [⟨(some 15), none, .q (.mv (.k (.int .i64 0)))⟩])
                (.block 0 (.loop (.seq (.seq (.reg /- 10 -/ [⟨(some 68), none, .q (.mv (.t 15))⟩,
      ⟨(some 69), none, .q (.fa 2 (.t 3))⟩,
      ⟨(some 70), none, .l (.ld1 (.t 69))⟩,
      ⟨(some 71), none, .q (.lnL (.t 70))⟩,
      ⟨(some 72), none, .q (.bin .lss true (.t 68) (.t 71))⟩])
                      (.cond (.t 72)
                        (.skip)
                        (.exit 0)))
                      (.seq (.block 1 (.seq (.reg /- 12 -/ [⟨(some 76), none, .q (.fa 2 (.t 3))⟩,
      ⟨(some 77), none, .l (.ld1 (.t 76))⟩,
      ⟨(some 78), none, .q (.mv (.t 15))⟩,
      ⟨(some 79), none, .l (.ia 2 (.t 77) (.t 78))⟩,
      ⟨(some 80), none, .l (.ldn 2 (.t 79))⟩,
      ⟨(some 81), none, .q (.mv (.t 2))⟩,
      ⟨(some 82), none, .cl 28 [(.t 80), (.t 81)] []⟩,
      ⟨(some 75), none, .q (.mv (.t 82))⟩,
      ⟨(some 83), none, .q (.ex (.t 75) 0)⟩,
      ⟨(some 84), none, .q (.ex (.t 75) 1)⟩,
      ⟨(some 16), none, .e (.al (.agg #[(.int .i64 0), (.string (mk [])), (.int .i64 0), (.int .i64 0), (.string (mk [])), (.slice none 0 0), (.bool false)]) 53)⟩,
      ⟨none, none, .e (.st 7 (.t 16) (.t 83))⟩,
      ⟨(some 17), none, .q (.mv (.t 84))⟩])
                          (.seq (.reg /- 13 -/ [⟨(some 86), none, .q (.fa 2 (.t 3))⟩,
      ⟨(some 87), none, .l (.ld1 (.t 86))⟩,
      ⟨(some 88), none, .q (.mv (.t 15))⟩,
      ⟨(some 89), none, .l (.ia 2 (.t 87) (.t 88))⟩,
      ⟨(some 90), none, .l (.ldn 2 (.t 89))⟩,
      ⟨(some 91), none, .q (.mv (.t 2))⟩,
      ⟨(some 92), none, .cl 29 [(.t 90), (.t 91)] []⟩,
      ⟨(some 85), none, .q (.mv (.t 92))⟩,
      ⟨(some 93), none, .q (.ex (.t 85) 0)⟩,
      ⟨(some 94), none, .q (.ex (.t 85) 1)⟩,
      ⟨(some 18), none, .e (.al (.agg #[(.int .i64 0), (.string (mk [])), (.int .i64 0), (.int .i64 0), (.string (mk [])), (.slice none 0 0), (.bool false)]) 53)⟩,
      ⟨none, none, .e (.st 7 (.t 18) (.t 93))⟩,
      ⟨(some 19), none, .q (.mv (.t 94))⟩])
                            (.seq (.reg /- 14 -/ [⟨(some 95), none, .q (.mv (.t 17))⟩,
      ⟨(some 96), none, .q (.mv (.t 19))⟩,
      ⟨(some 97), none, .q (.eqB true (.t 95) (.t 96))⟩,
      ⟨(some 98), none, .q (.mv (.t 97))⟩,
      ⟨(some 99), (some (98, false)), .l (.ldn 7 (.t 16))⟩,
      ⟨(some 100), (some (98, false)), .l (.ldn 7 (.t 18))⟩,
      ⟨(some 101), (some (98, false)), .cq 30 [(.t 99), (.t 100)]⟩,
      ⟨(some 102), (some (98, false)), .q (.not (.t 101))⟩,
      ⟨(some 103), none, .pick (.t 98) (.k (.bool true)) (.t 102)⟩])
                              (.cond (.t 103)
                                (.seq (.reg /- 15 -/ [⟨(some 6), none, .q (.mv (.k (.bool false)))⟩])
                                  (.ret))
                                (.skip))))))
                        (.reg /- 11 -/ [⟨(some 73), none, .q (.mv (.t 15))⟩,
      ⟨(some 74), none, .q (.bin .add true (.t 73) (.k (.int .i64 1)))⟩,
      ⟨(some 15), none, .q (.mv (.t 74))⟩]))))))
                (.seq (.reg /- 16 -/ [⟨(some 104), none, .cq 11 []⟩,
      ⟨(some 6), none, .q (.mv (.t 104))⟩])
                  (.ret)))))))))
def rs6 : List RV := [.mv (.t 6)]
theorem ok6 : trFn Try.prog true ⟨fun r k => if r = 1 ∧ k = 1 then .q else if r = 2 ∧ k = 0 then .q else if r = 7 ∧ k = 6 then .q else if r = 7 ∧ k = 17 then .q else if r = 14 ∧ k = 6 then .q else if r = 16 ∧ k = 0 then .q else .own [], fun _ => false⟩ Try.f6 = some (pc6, rs6) := by kernel_rfl
/-- robotics/roboticslaw07.SchemaCloses -/
def pc7 : PC :=
  .seq (.reg /- 0 -/ [⟨(some 1), none, .e (.bx 25 (.t 0))⟩,
      ⟨(some 2), none, .q (.mv (.k (.bool false)))⟩])
  (.seq (.seq (.reg /- 1 -/ [⟨(some 14), none, .l (.ldn 3 (.t 1))⟩,
      ⟨(some 15), none, .cq 10 [(.t 14)]⟩,
      ⟨(some 16), none, .q (.not (.t 15))⟩,
      ⟨(some 17), none, .q (.mv (.t 16))⟩,
      ⟨(some 18), (some (17, false)), .l (.ldn 3 (.t 1))⟩,
      ⟨(some 19), (some (17, false)), .cq 12 [(.t 18)]⟩,
      ⟨(some 20), (some (17, false)), .q (.bin .neq true (.t 19) (.k (.int .i64 0)))⟩,
      ⟨(some 21), none, .pick (.t 17) (.k (.bool true)) (.t 20)⟩])
    (.cond (.t 21)
      (.seq (.reg /- 2 -/ [⟨(some 22), none, .cq 11 []⟩,
      ⟨(some 2), none, .q (.mv (.t 22))⟩])
        (.ret))
      (.skip)))
    (.seq (.seq (.reg /- 3 -/ [⟨(some 3), none, .q (.mv (.k (.int .i64 0)))⟩])
      (.block 0 (.loop (.seq (.seq (.reg /- 4 -/ [⟨(some 23), none, .q (.mv (.t 3))⟩,
      ⟨(some 24), none, .q (.fa 2 (.t 1))⟩,
      ⟨(some 25), none, .l (.ld1 (.t 24))⟩,
      ⟨(some 26), none, .q (.lnL (.t 25))⟩,
      ⟨(some 27), none, .q (.bin .lss true (.t 23) (.t 26))⟩])
            (.cond (.t 27)
              (.skip)
              (.exit 0)))
            (.seq (.block 1 (.seq (.reg /- 6 -/ [⟨(some 30), none, .q (.fa 2 (.t 1))⟩,
      ⟨(some 31), none, .l (.ld1 (.t 30))⟩,
      ⟨(some 32), none, .q (.mv (.t 3))⟩,
      ⟨(some 33), none, .l (.ia 2 (.t 31) (.t 32))⟩,
      ⟨(some 34), none, .q (.fa 0 (.t 33))⟩,
      ⟨(some 35), none, .l (.ld1 (.t 34))⟩,
      ⟨(some 4), none, .q (.mv (.t 35))⟩])
                (.seq (.reg /- 7 -/ [⟨(some 36), none, .l (.ldn 3 (.t 1))⟩,
      ⟨(some 37), none, .q (.mv (.t 4))⟩,
      ⟨(some 38), none, .cl 17 [(.t 36), (.t 37)] []⟩,
      ⟨(some 5), none, .q (.mv (.t 38))⟩])
                  (.seq (.seq (.reg /- 8 -/ [⟨(some 6), none, .q (.mv (.k (.int .i64 0)))⟩])
                    (.block 2 (.loop (.seq (.seq (.reg /- 9 -/ [⟨(some 39), none, .q (.mv (.t 6))⟩,
      ⟨(some 40), none, .q (.mv (.t 5))⟩,
      ⟨(some 41), none, .q (.lnL (.t 40))⟩,
      ⟨(some 42), none, .q (.bin .lss true (.t 39) (.t 41))⟩])
                          (.cond (.t 42)
                            (.skip)
                            (.exit 2)))
                          (.seq (.block 3 (.seq (.ord /- 11 -/ [.q ⟨(some 46), none, .l (.ldn 3 (.t 1))⟩,
      .q ⟨(some 47), none, .q (.mv (.t 5))⟩,
      .q ⟨(some 48), none, .q (.mv (.t 6))⟩,
      .q ⟨(some 49), none, .l (.ia 1 (.t 47) (.t 48))⟩,
      .q ⟨(some 50), none, .l (.ld1 (.t 49))⟩,
      .m ⟨(some 51), none, .cl 22 [(.t 46), (.t 50)] []⟩,
      .q ⟨(some 45), none, .q (.mv (.t 51))⟩,
      .q ⟨(some 52), none, .q (.ex (.t 45) 0)⟩,
      .q ⟨(some 53), none, .q (.ex (.t 45) 1)⟩,
      .m ⟨(some 7), none, .e (.al (.agg #[(.string (mk [])), (.slice none 0 0)]) 32)⟩,
      .rc ⟨(some 45), none, .q (.mv (.t 51))⟩,
      .rc ⟨(some 52), none, .q (.ex (.t 45) 0)⟩,
      .rc ⟨(some 53), none, .q (.ex (.t 45) 1)⟩,
      .m ⟨none, none, .e (.st 2 (.t 7) (.t 52))⟩,
      .rc ⟨(some 53), none, .q (.ex (.t 45) 1)⟩,
      .m ⟨(some 8), none, .q (.mv (.t 53))⟩])
                              (.seq (.ord /- 12 -/ [.q ⟨(some 55), none, .l (.ldn 3 (.t 1))⟩,
      .q ⟨(some 56), none, .q (.mv (.t 5))⟩,
      .q ⟨(some 57), none, .q (.mv (.t 6))⟩,
      .q ⟨(some 58), none, .l (.ia 1 (.t 56) (.t 57))⟩,
      .q ⟨(some 59), none, .l (.ld1 (.t 58))⟩,
      .m ⟨(some 60), none, .cl 24 [(.t 55), (.t 59)] []⟩,
      .q ⟨(some 54), none, .q (.mv (.t 60))⟩,
      .q ⟨(some 61), none, .q (.ex (.t 54) 0)⟩,
      .q ⟨(some 62), none, .q (.ex (.t 54) 1)⟩,
      .m ⟨(some 9), none, .e (.al (.agg #[(.string (mk [])), (.slice none 0 0), (.slice none 0 0)]) 47)⟩,
      .rc ⟨(some 54), none, .q (.mv (.t 60))⟩,
      .rc ⟨(some 61), none, .q (.ex (.t 54) 0)⟩,
      .rc ⟨(some 62), none, .q (.ex (.t 54) 1)⟩,
      .m ⟨none, none, .e (.st 3 (.t 9) (.t 61))⟩,
      .rc ⟨(some 62), none, .q (.ex (.t 54) 1)⟩,
      .m ⟨(some 10), none, .q (.mv (.t 62))⟩])
                                (.seq (.seq (.reg /- 13 -/ [⟨(some 63), none, .q (.mv (.t 8))⟩,
      ⟨(some 64), none, .q (.mv (.t 10))⟩,
      ⟨(some 65), none, .q (.eqB false (.t 63) (.t 64))⟩,
      ⟨(some 66), none, .q (.mv (.t 65))⟩,
      ⟨(some 67), (some (66, false)), .q (.mv (.t 6))⟩,
      ⟨(some 68), (some (66, false)), .q (.bin .gtr true (.t 67) (.k (.int .i64 0)))⟩,
      ⟨(some 69), (some (66, false)), .q (.mv (.t 68))⟩,
      ⟨(some 70), (some (69, true)), .q (.mv (.t 5))⟩,
      ⟨(some 71), (some (69, true)), .q (.mv (.t 6))⟩,
      ⟨(some 72), (some (69, true)), .q (.bin .sub true (.t 71) (.k (.int .i64 1)))⟩,
      ⟨(some 73), (some (69, true)), .l (.ia 1 (.t 70) (.t 72))⟩,
      ⟨(some 74), (some (69, true)), .l (.ld1 (.t 73))⟩,
      ⟨(some 75), (some (69, true)), .q (.mv (.t 5))⟩,
      ⟨(some 76), (some (69, true)), .q (.mv (.t 6))⟩,
      ⟨(some 77), (some (69, true)), .l (.ia 1 (.t 75) (.t 76))⟩,
      ⟨(some 78), (some (69, true)), .l (.ld1 (.t 77))⟩,
      ⟨(some 79), (some (69, true)), .q (.bin .geq true (.t 74) (.t 78))⟩,
      ⟨(some 80), (some (66, false)), .pick (.t 69) (.t 79) (.k (.bool false))⟩,
      ⟨(some 81), none, .pick (.t 66) (.k (.bool true)) (.t 80)⟩,
      ⟨(some 82), none, .q (.mv (.t 81))⟩,
      ⟨(some 83), (some (82, false)), .q (.mv (.t 5))⟩,
      ⟨(some 84), (some (82, false)), .q (.mv (.t 6))⟩,
      ⟨(some 85), (some (82, false)), .l (.ia 1 (.t 83) (.t 84))⟩,
      ⟨(some 86), (some (82, false)), .l (.ld1 (.t 85))⟩,
      ⟨(some 87), (some (82, false)), .q (.mv (.t 4))⟩,
      ⟨(some 88), (some (82, false)), .q (.bin .eql true (.t 86) (.t 87))⟩,
      ⟨(some 89), none, .pick (.t 82) (.k (.bool true)) (.t 88)⟩,
      ⟨(some 90), none, .q (.mv (.t 89))⟩,
      ⟨(some 91), (some (90, false)), .l (.ldn 3 (.t 1))⟩,
      ⟨(some 92), (some (90, false)), .q (.mv (.t 5))⟩,
      ⟨(some 93), (some (90, false)), .q (.mv (.t 6))⟩,
      ⟨(some 94), (some (90, false)), .l (.ia 1 (.t 92) (.t 93))⟩,
      ⟨(some 95), (some (90, false)), .l (.ld1 (.t 94))⟩,
      ⟨(some 96), (some (90, false)), .cq 14 [(.t 91), (.t 95)]⟩,
      ⟨(some 97), (some (90, false)), .l (.ldn 3 (.t 1))⟩,
      ⟨(some 98), (some (90, false)), .q (.mv (.t 4))⟩,
      ⟨(some 99), (some (90, false)), .cq 14 [(.t 97), (.t 98)]⟩,
      ⟨(some 100), (some (90, false)), .q (.bin .geq true (.t 96) (.t 99))⟩,
      ⟨(some 101), none, .pick (.t 90) (.k (.bool true)) (.t 100)⟩])
                                  (.cond (.t 101)
                                    (.seq (.reg /- 14 -/ [⟨(some 2), none, .q (.mv (.k (.bool false)))⟩])
                                      (.ret))
                                    (.skip)))
                                  (.seq (.reg /- 15 -/ [⟨(some 102), none, .l (.ldn 3 (.t 1))⟩,
      ⟨(some 103), none, .q (.mv (.t 5))⟩,
      ⟨(some 104), none, .q (.mv (.t 6))⟩,
      ⟨(some 105), none, .l (.ia 1 (.t 103) (.t 104))⟩,
      ⟨(some 106), none, .l (.ld1 (.t 105))⟩,
      ⟨(some 107), none, .cl 17 [(.t 102), (.t 106)] []⟩,
      ⟨(some 11), none, .q (.mv (.t 107))⟩])
                                    (.seq (.reg /- 16 -/ [⟨(some 12), none, .q (.mv (.k (.int .i64 0)))⟩])
                                      (.block 4 (.loop (.seq (.seq (.reg /- 17 -/ [⟨(some 108), none, .q (.mv (.t 12))⟩,
      ⟨(some 109), none, .q (.mv (.t 11))⟩,
      ⟨(some 110), none, .q (.lnL (.t 109))⟩,
      ⟨(some 111), none, .q (.bin .lss true (.t 108) (.t 110))⟩])
                                            (.cond (.t 111)
                                              (.skip)
                                              (.exit 4)))
                                            (.seq (.block 5 (.seq (.reg /- 19 -/ [⟨(some 114), none, .q (.mv (.t 5))⟩,
      ⟨(some 115), none, .q (.mv (.t 11))⟩,
      ⟨(some 116), none, .q (.mv (.t 12))⟩,
      ⟨(some 117), none, .l (.ia 1 (.t 115) (.t 116))⟩,
      ⟨(some 118), none, .l (.ld1 (.t 117))⟩,
      ⟨(some 119), none, .cq 31 [(.t 114), (.t 118)]⟩,
      ⟨(some 120), none, .q (.not (.t 119))⟩])
                                                (.cond (.t 120)
                                                  (.seq (.reg /- 20 -/ [⟨(some 2), none, .q (.mv (.k (.bool false)))⟩])
                                                    (.ret))
                                                  (.skip))))
                                              (.reg /- 18 -/ [⟨(some 112), none, .q (.mv (.t 12))⟩,
      ⟨(some 113), none, .q (.bin .add true (.t 112) (.k (.int .i64 1)))⟩,
      ⟨(some 12), none, .q (.mv (.t 113))⟩])))))))))))
                            (.reg /- 10 -/ [⟨(some 43), none, .q (.mv (.t 6))⟩,
      ⟨(some 44), none, .q (.bin .add true (.t 43) (.k (.int .i64 1)))⟩,
      ⟨(some 6), none, .q (.mv (.t 44))⟩]))))))
                    (.seq (.reg /- 21 -/ [⟨(some 121), none, .l (.ldn 3 (.t 1))⟩,
      ⟨(some 122), none, .q (.mv (.t 4))⟩,
      ⟨(some 123), none, .cq 14 [(.t 121), (.t 122)]⟩,
      ⟨(some 13), none, .q (.mv (.t 123))⟩])
                      (.seq (.reg /- 22 -/ [⟨(some 124), none, .q (.mv (.t 13))⟩,
      ⟨(some 125), none, .q (.bin .lss true (.t 124) (.k (.int .i64 1)))⟩,
      ⟨(some 126), none, .q (.mv (.t 125))⟩,
      ⟨(some 127), (some (126, false)), .q (.mv (.t 13))⟩,
      ⟨(some 128), (some (126, false)), .q (.bin .gtr true (.t 127) (.k (.int .i64 6)))⟩,
      ⟨(some 129), none, .pick (.t 126) (.k (.bool true)) (.t 128)⟩])
                        (.cond (.t 129)
                          (.seq (.reg /- 23 -/ [⟨(some 2), none, .q (.mv (.k (.bool false)))⟩])
                            (.ret))
                          (.skip))))))))
              (.reg /- 5 -/ [⟨(some 28), none, .q (.mv (.t 3))⟩,
      ⟨(some 29), none, .q (.bin .add true (.t 28) (.k (.int .i64 1)))⟩,
      ⟨(some 3), none, .q (.mv (.t 29))⟩]))))))
      (.seq (.reg /- 24 -/ [⟨(some 130), none, .cq 11 []⟩,
      ⟨(some 2), none, .q (.mv (.t 130))⟩])
        (.ret))))
def rs7 : List RV := [.mv (.t 2)]
theorem ok7 : trFn Try.prog true ⟨fun r k => if r = 1 ∧ k = 1 then .q else if r = 1 ∧ k = 5 then .q else if r = 2 ∧ k = 0 then .q else if r = 13 ∧ k = 33 then .q else if r = 13 ∧ k = 36 then .q else if r = 19 ∧ k = 5 then .q else if r = 21 ∧ k = 2 then .q else if r = 24 ∧ k = 0 then .q else .own [], fun _ => false⟩ Try.f7 = some (pc7, rs7) := by kernel_rfl
/-- robotics/roboticslaw07.SchemaDigests -/
def pc8 : PC :=
  .seq (.reg /- 0 -/ [⟨(some 4), none, .e (.bx 25 (.t 0))⟩,
      ⟨(some 5), none, .e (.bx 25 (.t 1))⟩,
      ⟨(some 8), none, .q (.mv (.k (.bool false)))⟩])
  (.seq (.seq (.reg /- 1 -/ [⟨(some 13), none, .l (.ldn 3 (.t 4))⟩,
      ⟨(some 14), none, .cq 10 [(.t 13)]⟩,
      ⟨(some 15), none, .q (.not (.t 14))⟩,
      ⟨(some 16), none, .q (.mv (.t 15))⟩,
      ⟨(some 17), (some (16, false)), .l (.ldn 3 (.t 5))⟩,
      ⟨(some 18), (some (16, false)), .cq 10 [(.t 17)]⟩,
      ⟨(some 19), (some (16, false)), .q (.not (.t 18))⟩,
      ⟨(some 20), none, .pick (.t 16) (.k (.bool true)) (.t 19)⟩])
    (.cond (.t 20)
      (.seq (.reg /- 2 -/ [⟨(some 21), none, .cq 11 []⟩,
      ⟨(some 8), none, .q (.mv (.t 21))⟩])
        (.ret))
      (.skip)))
    (.seq (.reg /- 3 -/ [⟨(some 22), none, .l (.ldn 3 (.t 4))⟩,
      ⟨(some 23), none, .q (.mv (.t 2))⟩,
      ⟨(some 24), none, .cq 32 [(.t 22), (.t 23)]⟩,
      ⟨(some 25), none, .l (.ldn 3 (.t 5))⟩,
      ⟨(some 26), none, .q (.mv (.t 3))⟩,
      ⟨(some 27), none, .cq 32 [(.t 25), (.t 26)]⟩,
      ⟨(some 9), none, .q (.mv (.t 24))⟩,
      ⟨(some 10), none, .q (.mv (.t 27))⟩])
      (.seq (.seq (.reg /- 4 -/ [⟨(some 28), none, .q (.mv (.t 9))⟩,
      ⟨(some 29), none, .l (.ldn 3 (.t 4))⟩,
      ⟨(some 30), none, .q (.mv (.t 2))⟩,
      ⟨(some 31), none, .cq 33 [(.t 29), (.t 30)]⟩,
      ⟨(some 32), none, .q (.bin .neq true (.t 28) (.t 31))⟩,
      ⟨(some 33), none, .q (.mv (.t 32))⟩,
      ⟨(some 34), (some (33, false)), .q (.mv (.t 10))⟩,
      ⟨(some 35), (some (33, false)), .l (.ldn 3 (.t 5))⟩,
      ⟨(some 36), (some (33, false)), .q (.mv (.t 3))⟩,
      ⟨(some 37), (some (33, false)), .cq 33 [(.t 35), (.t 36)]⟩,
      ⟨(some 38), (some (33, false)), .q (.bin .neq true (.t 34) (.t 37))⟩,
      ⟨(some 39), none, .pick (.t 33) (.k (.bool true)) (.t 38)⟩])
        (.cond (.t 39)
          (.seq (.reg /- 5 -/ [⟨(some 8), none, .q (.mv (.k (.bool false)))⟩])
            (.ret))
          (.skip)))
        (.seq (.seq (.reg /- 6 -/ [⟨(some 40), none, .l (.ldn 3 (.t 4))⟩,
      ⟨(some 41), none, .q (.mv (.t 2))⟩,
      ⟨(some 42), none, .cq 15 [(.t 40), (.t 41)]⟩,
      ⟨(some 43), none, .q (.bin .eql true (.t 42) (.k (.int .i64 0)))⟩,
      ⟨(some 44), none, .q (.mv (.t 43))⟩,
      ⟨(some 45), (some (44, false)), .l (.ldn 3 (.t 5))⟩,
      ⟨(some 46), (some (44, false)), .q (.mv (.t 3))⟩,
      ⟨(some 47), (some (44, false)), .cq 15 [(.t 45), (.t 46)]⟩,
      ⟨(some 48), (some (44, false)), .q (.bin .eql true (.t 47) (.k (.int .i64 0)))⟩,
      ⟨(some 49), none, .pick (.t 44) (.k (.bool true)) (.t 48)⟩])
          (.cond (.t 49)
            (.seq (.reg /- 7 -/ [⟨(some 50), none, .cq 11 []⟩,
      ⟨(some 8), none, .q (.mv (.t 50))⟩])
              (.ret))
            (.skip)))
          (.seq (.reg /- 8 -/ [⟨(some 51), none, .l (.ldn 3 (.t 4))⟩,
      ⟨(some 52), none, .l (.ldn 3 (.t 5))⟩,
      ⟨(some 53), none, .q (.mv (.t 2))⟩,
      ⟨(some 54), none, .q (.mv (.t 3))⟩,
      ⟨(some 55), none, .cq 34 [(.t 51), (.t 52), (.t 53), (.t 54)]⟩,
      ⟨(some 11), none, .q (.mv (.t 55))⟩])
            (.seq (.reg /- 9 -/ [⟨(some 56), none, .q (.mv (.t 9))⟩,
      ⟨(some 57), none, .q (.mv (.t 10))⟩,
      ⟨(some 58), none, .q (.bin .eql true (.t 56) (.t 57))⟩,
      ⟨(some 59), none, .q (.mv (.t 58))⟩,
      ⟨(some 60), (some (59, true)), .l (.ldn 3 (.t 4))⟩,
      ⟨(some 61), (some (59, true)), .q (.mv (.t 2))⟩,
      ⟨(some 62), (some (59, true)), .cq 35 [(.t 60), (.t 61)]⟩,
      ⟨(some 63), (some (59, true)), .l (.ldn 3 (.t 5))⟩,
      ⟨(some 64), (some (59, true)), .q (.mv (.t 3))⟩,
      ⟨(some 65), (some (59, true)), .cq 35 [(.t 63), (.t 64)]⟩,
      ⟨(some 66), (some (59, true)), .q (.bin .neq true (.t 62) (.t 65))⟩,
      ⟨(some 67), none, .pick (.t 59) (.t 66) (.k (.bool false))⟩,
      ⟨(some 12), none, .q (.mv (.t 67))⟩])
              (.seq (.reg /- 10 -/ [⟨(some 68), none, .q (.mv (.t 9))⟩,
      ⟨(some 69), none, .q (.mv (.t 10))⟩,
      ⟨(some 70), none, .q (.bin .eql true (.t 68) (.t 69))⟩,
      ⟨(some 71), none, .q (.mv (.t 11))⟩,
      ⟨(some 72), none, .q (.mv (.t 71))⟩,
      ⟨(some 73), (some (72, false)), .q (.mv (.t 12))⟩,
      ⟨(some 74), none, .pick (.t 72) (.k (.bool true)) (.t 73)⟩,
      ⟨(some 75), none, .q (.eqB false (.t 70) (.t 74))⟩,
      ⟨(some 76), none, .q (.mv (.t 75))⟩,
      ⟨(some 77), (some (76, true)), .cq 11 []⟩,
      ⟨(some 78), none, .pick (.t 76) (.t 77) (.k (.bool false))⟩,
      ⟨(some 8), none, .q (.mv (.t 78))⟩])
                (.ret))))))))
def rs8 : List RV := [.mv (.t 8)]
theorem ok8 : trFn Try.prog true ⟨fun r k => if r = 1 ∧ k = 1 then .q else if r = 1 ∧ k = 5 then .q else if r = 2 ∧ k = 0 then .q else if r = 3 ∧ k = 2 then .q else if r = 3 ∧ k = 5 then .q else if r = 4 ∧ k = 3 then .q else if r = 4 ∧ k = 9 then .q else if r = 6 ∧ k = 2 then .q else if r = 6 ∧ k = 7 then .q else if r = 7 ∧ k = 0 then .q else if r = 8 ∧ k = 4 then .q else if r = 9 ∧ k = 6 then .q else if r = 9 ∧ k = 9 then .q else if r = 10 ∧ k = 9 then .q else .own [], fun _ => false⟩ Try.f8 = some (pc8, rs8) := by kernel_rfl
/-- robotics/roboticslaw07.SchemaOrder -/
def pc9 : PC :=
  .seq (.reg /- 0 -/ [⟨(some 1), none, .e (.bx 25 (.t 0))⟩,
      ⟨(some 2), none, .q (.mv (.k (.bool false)))⟩])
  (.seq (.seq (.reg /- 1 -/ [⟨(some 14), none, .l (.ldn 3 (.t 1))⟩,
      ⟨(some 15), none, .cq 10 [(.t 14)]⟩,
      ⟨(some 16), none, .q (.not (.t 15))⟩,
      ⟨(some 17), none, .q (.mv (.t 16))⟩,
      ⟨(some 18), (some (17, false)), .l (.ldn 3 (.t 1))⟩,
      ⟨(some 19), (some (17, false)), .cq 13 [(.t 18)]⟩,
      ⟨(some 20), (some (17, false)), .q (.bin .neq true (.t 19) (.k (.int .i64 0)))⟩,
      ⟨(some 21), none, .pick (.t 17) (.k (.bool true)) (.t 20)⟩])
    (.cond (.t 21)
      (.seq (.reg /- 2 -/ [⟨(some 22), none, .cq 11 []⟩,
      ⟨(some 2), none, .q (.mv (.t 22))⟩])
        (.ret))
      (.skip)))
    (.seq (.reg /- 3 -/ [⟨(some 23), none, .q (.fa 0 (.t 1))⟩,
      ⟨(some 24), none, .l (.ld1 (.t 23))⟩,
      ⟨(some 25), none, .q (.bd [(.int .i64 0), (.slice none 0 0), (.slice none 0 0)] [(0, 1, (.t 24))])⟩,
      ⟨(some 3), none, .e (.al (.agg #[(.int .i64 0), (.slice none 0 0), (.slice none 0 0)]) 25)⟩,
      ⟨none, none, .e (.st 3 (.t 3) (.t 25))⟩])
      (.seq (.seq (.reg /- 4 -/ [⟨(some 26), none, .q (.fa 1 (.t 1))⟩,
      ⟨(some 27), none, .l (.ld1 (.t 26))⟩,
      ⟨(some 28), none, .q (.lnL (.t 27))⟩,
      ⟨(some 29), none, .q (.bin .sub true (.t 28) (.k (.int .i64 1)))⟩,
      ⟨(some 4), none, .q (.mv (.t 29))⟩])
        (.block 0 (.loop (.seq (.seq (.reg /- 5 -/ [⟨(some 30), none, .q (.mv (.t 4))⟩,
      ⟨(some 31), none, .q (.bin .geq true (.t 30) (.k (.int .i64 0)))⟩])
              (.cond (.t 31)
                (.skip)
                (.exit 0)))
              (.seq (.block 1 (.reg /- 7 -/ [⟨(some 34), none, .q (.fa 1 (.t 3))⟩,
      ⟨(some 35), none, .l (.ld1 (.t 34))⟩,
      ⟨(some 36), none, .q (.fa 1 (.t 1))⟩,
      ⟨(some 37), none, .l (.ld1 (.t 36))⟩,
      ⟨(some 38), none, .q (.mv (.t 4))⟩,
      ⟨(some 39), none, .l (.ia 3 (.t 37) (.t 38))⟩,
      ⟨(some 40), none, .l (.ldn 3 (.t 39))⟩,
      ⟨(some 41), none, .e (.bsl 47 3 [(.t 40)])⟩,
      ⟨(some 42), none, .e (.ap 47 3 64 (.t 35) (.t 41))⟩,
      ⟨(some 43), none, .q (.fa 1 (.t 3))⟩,
      ⟨none, none, .e (.st 1 (.t 43) (.t 42))⟩]))
                (.reg /- 6 -/ [⟨(some 32), none, .q (.mv (.t 4))⟩,
      ⟨(some 33), none, .q (.bin .sub true (.t 32) (.k (.int .i64 1)))⟩,
      ⟨(some 4), none, .q (.mv (.t 33))⟩]))))))
        (.seq (.seq (.reg /- 8 -/ [⟨(some 44), none, .q (.fa 2 (.t 1))⟩,
      ⟨(some 45), none, .l (.ld1 (.t 44))⟩,
      ⟨(some 46), none, .q (.lnL (.t 45))⟩,
      ⟨(some 47), none, .q (.bin .sub true (.t 46) (.k (.int .i64 1)))⟩,
      ⟨(some 5), none, .q (.mv (.t 47))⟩])
          (.block 2 (.loop (.seq (.seq (.reg /- 9 -/ [⟨(some 48), none, .q (.mv (.t 5))⟩,
      ⟨(some 49), none, .q (.bin .geq true (.t 48) (.k (.int .i64 0)))⟩])
                (.cond (.t 49)
                  (.skip)
                  (.exit 2)))
                (.seq (.block 3 (.reg /- 11 -/ [⟨(some 52), none, .q (.fa 2 (.t 3))⟩,
      ⟨(some 53), none, .l (.ld1 (.t 52))⟩,
      ⟨(some 54), none, .q (.fa 2 (.t 1))⟩,
      ⟨(some 55), none, .l (.ld1 (.t 54))⟩,
      ⟨(some 56), none, .q (.mv (.t 5))⟩,
      ⟨(some 57), none, .l (.ia 2 (.t 55) (.t 56))⟩,
      ⟨(some 58), none, .l (.ldn 2 (.t 57))⟩,
      ⟨(some 59), none, .e (.bsl 32 2 [(.t 58)])⟩,
      ⟨(some 60), none, .e (.ap 32 2 40 (.t 53) (.t 59))⟩,
      ⟨(some 61), none, .q (.fa 2 (.t 3))⟩,
      ⟨none, none, .e (.st 1 (.t 61) (.t 60))⟩]))
                  (.reg /- 10 -/ [⟨(some 50), none, .q (.mv (.t 5))⟩,
      ⟨(some 51), none, .q (.bin .sub true (.t 50) (.k (.int .i64 1)))⟩,
      ⟨(some 5), none, .q (.mv (.t 51))⟩]))))))
          (.seq (.reg /- 12 -/ [⟨(some 62), none, .q (.fa 1 (.t 1))⟩,
      ⟨(some 63), none, .l (.ld1 (.t 62))⟩,
      ⟨(some 64), none, .q (.fa 2 (.t 3))⟩,
      ⟨(some 65), none, .l (.ld1 (.t 64))⟩,
      ⟨(some 66), none, .q (.bd [(.int .i64 0), (.slice none 0 0), (.slice none 0 0)] [(0, 1, (.k (.int .i64 7))), (1, 1, (.t 63)), (2, 1, (.t 65))])⟩,
      ⟨(some 6), none, .e (.al (.agg #[(.int .i64 0), (.slice none 0 0), (.slice none 0 0)]) 25)⟩,
      ⟨none, none, .e (.st 3 (.t 6) (.t 66))⟩])
            (.seq (.seq (.reg /- 13 -/ [⟨(some 68), none, .l (.ldn 3 (.t 1))⟩,
      ⟨(some 69), none, .cl 23 [(.t 68), (.k (.string (mk [90, 122, 122])))] []⟩,
      ⟨(some 67), none, .q (.mv (.t 69))⟩,
      ⟨(some 70), none, .q (.ex (.t 67) 0)⟩,
      ⟨(some 71), none, .q (.ex (.t 67) 1)⟩,
      ⟨(some 7), none, .e (.al (.agg #[(.string (mk [])), (.slice none 0 0)]) 32)⟩,
      ⟨none, none, .e (.st 2 (.t 7) (.t 70))⟩,
      ⟨(some 8), none, .q (.mv (.t 71))⟩])
              (.seq (.reg /- 14 -/ [⟨(some 72), none, .q (.mv (.t 8))⟩,
      ⟨(some 73), none, .q (.not (.t 72))⟩,
      ⟨(some 74), none, .q (.mv (.t 73))⟩,
      ⟨(some 75), (some (74, true)), .q (.fa 1 (.t 1))⟩,
      ⟨(some 76), (some (74, true)), .l (.ld1 (.t 75))⟩,
      ⟨(some 77), (some (74, true)), .q (.lnL (.t 76))⟩,
      ⟨(some 78), (some (74, true)), .q (.fa 2 (.t 1))⟩,
      ⟨(some 79), (some (74, true)), .l (.ld1 (.t 78))⟩,
      ⟨(some 80), (some (74, true)), .q (.lnL (.t 79))⟩,
      ⟨(some 81), (some (74, true)), .q (.bin .add true (.t 77) (.t 80))⟩,
      ⟨(some 82), (some (74, true)), .q (.bin .lss true (.t 81) (.k (.int .i64 16)))⟩,
      ⟨(some 83), none, .pick (.t 74) (.t 82) (.k (.bool false))⟩])
                (.cond (.t 83)
                  (.seq (.reg /- 15 -/ [⟨(some 85), none, .l (.ldn 3 (.t 1))⟩,
      ⟨(some 86), none, .cl 25 [(.t 85), (.k (.string (mk [90, 122, 122])))] []⟩,
      ⟨(some 84), none, .q (.mv (.t 86))⟩,
      ⟨(some 87), none, .q (.ex (.t 84) 0)⟩,
      ⟨(some 88), none, .q (.ex (.t 84) 1)⟩,
      ⟨(some 9), none, .e (.al (.agg #[(.string (mk [])), (.slice none 0 0), (.slice none 0 0)]) 47)⟩,
      ⟨none, none, .e (.st 3 (.t 9) (.t 87))⟩,
      ⟨(some 10), none, .q (.mv (.t 88))⟩])
                    (.seq (.reg /- 16 -/ [⟨(some 89), none, .q (.mv (.t 10))⟩,
      ⟨(some 90), none, .q (.not (.t 89))⟩])
                      (.cond (.t 90)
                        (.reg /- 17 -/ [⟨(some 91), none, .q (.fa 2 (.t 6))⟩,
      ⟨(some 92), none, .l (.ld1 (.t 91))⟩,
      ⟨(some 93), none, .q (.bd [(.string (mk [])), (.slice none 0 0)] [(0, 1, (.k (.string (mk [90, 122, 122]))))])⟩,
      ⟨(some 94), none, .e (.bsl 32 2 [(.t 93)])⟩,
      ⟨(some 95), none, .e (.ap 32 2 40 (.t 92) (.t 94))⟩,
      ⟨(some 96), none, .q (.fa 2 (.t 6))⟩,
      ⟨none, none, .e (.st 1 (.t 96) (.t 95))⟩])
                        (.skip))))
                  (.skip))))
              (.seq (.seq (.reg /- 18 -/ [⟨(some 97), none, .l (.ldn 3 (.t 3))⟩,
      ⟨(some 98), none, .cq 12 [(.t 97)]⟩,
      ⟨(some 99), none, .q (.bin .neq true (.t 98) (.k (.int .i64 0)))⟩,
      ⟨(some 100), none, .q (.mv (.t 99))⟩,
      ⟨(some 101), (some (100, false)), .l (.ldn 3 (.t 6))⟩,
      ⟨(some 102), (some (100, false)), .cq 12 [(.t 101)]⟩,
      ⟨(some 103), (some (100, false)), .q (.bin .neq true (.t 102) (.k (.int .i64 0)))⟩,
      ⟨(some 104), none, .pick (.t 100) (.k (.bool true)) (.t 103)⟩])
                (.cond (.t 104)
                  (.seq (.reg /- 19 -/ [⟨(some 2), none, .q (.mv (.k (.bool false)))⟩])
                    (.ret))
                  (.skip)))
                (.seq (.seq (.reg /- 20 -/ [⟨(some 11), none, .q (.mv (.k (.int .i64 0)))⟩])
                  (.block 4 (.loop (.seq (.seq (.reg /- 21 -/ [⟨(some 105), none, .q (.mv (.t 11))⟩,
      ⟨(some 106), none, .q (.fa 2 (.t 1))⟩,
      ⟨(some 107), none, .l (.ld1 (.t 106))⟩,
      ⟨(some 108), none, .q (.lnL (.t 107))⟩,
      ⟨(some 109), none, .q (.bin .lss true (.t 105) (.t 108))⟩])
                        (.cond (.t 109)
                          (.skip)
                          (.exit 4)))
                        (.seq (.block 5 (.seq (.reg /- 23 -/ [⟨(some 112), none, .q (.fa 2 (.t 1))⟩,
      ⟨(some 113), none, .l (.ld1 (.t 112))⟩,
      ⟨(some 114), none, .q (.mv (.t 11))⟩,
      ⟨(some 115), none, .l (.ia 2 (.t 113) (.t 114))⟩,
      ⟨(some 116), none, .q (.fa 0 (.t 115))⟩,
      ⟨(some 117), none, .l (.ld1 (.t 116))⟩,
      ⟨(some 12), none, .q (.mv (.t 117))⟩])
                            (.seq (.reg /- 24 -/ [⟨(some 118), none, .l (.ldn 3 (.t 1))⟩,
      ⟨(some 119), none, .q (.mv (.t 12))⟩,
      ⟨(some 120), none, .cq 32 [(.t 118), (.t 119)]⟩,
      ⟨(some 13), none, .q (.mv (.t 120))⟩])
                              (.seq (.ord /- 25 -/ [.q ⟨(some 121), none, .l (.ldn 3 (.t 3))⟩,
      .q ⟨(some 122), none, .q (.mv (.t 12))⟩,
      .q ⟨(some 124), none, .q (.mv (.t 13))⟩,
      .m ⟨(some 123), none, .cq 32 [(.t 121), (.t 122)]⟩,
      .rc ⟨(some 124), none, .q (.mv (.t 13))⟩,
      .q ⟨(some 125), none, .q (.bin .neq true (.t 123) (.t 124))⟩,
      .q ⟨(some 126), none, .q (.mv (.t 125))⟩,
      .q ⟨(some 127), (some (126, false)), .l (.ldn 3 (.t 6))⟩,
      .q ⟨(some 128), (some (126, false)), .q (.mv (.t 12))⟩,
      .q ⟨(some 130), (some (126, false)), .q (.mv (.t 13))⟩,
      .m ⟨(some 129), (some (126, false)), .cq 32 [(.t 127), (.t 128)]⟩,
      .rc ⟨(some 130), (some (126, false)), .q (.mv (.t 13))⟩,
      .q ⟨(some 131), (some (126, false)), .q (.bin .neq true (.t 129) (.t 130))⟩,
      .q ⟨(some 132), none, .pick (.t 126) (.k (.bool true)) (.t 131)⟩,
      .q ⟨(some 133), none, .q (.mv (.t 132))⟩,
      .q ⟨(some 134), (some (133, false)), .l (.ldn 3 (.t 3))⟩,
      .q ⟨(some 135), (some (133, false)), .q (.mv (.t 12))⟩,
      .q ⟨(some 137), (some (133, false)), .l (.ldn 3 (.t 1))⟩,
      .q ⟨(some 138), (some (133, false)), .q (.mv (.t 12))⟩,
      .m ⟨(some 136), (some (133, false)), .cq 14 [(.t 134), (.t 135)]⟩,
      .rc ⟨(some 137), (some (133, false)), .l (.ldn 3 (.t 1))⟩,
      .rc ⟨(some 138), (some (133, false)), .q (.mv (.t 12))⟩,
      .m ⟨(some 139), (some (133, false)), .cq 14 [(.t 137), (.t 138)]⟩,
      .q ⟨(some 140), (some (133, false)), .q (.bin .neq true (.t 136) (.t 139))⟩,
      .q ⟨(some 141), none, .pick (.t 133) (.k (.bool true)) (.t 140)⟩,
      .q ⟨(some 142), none, .q (.mv (.t 141))⟩,
      .q ⟨(some 143), (some (142, false)), .l (.ldn 3 (.t 3))⟩,
      .q ⟨(some 144), (some (142, false)), .q (.mv (.t 12))⟩,
      .q ⟨(some 146), (some (142, false)), .l (.ldn 3 (.t 1))⟩,
      .q ⟨(some 147), (some (142, false)), .q (.mv (.t 12))⟩,
      .m ⟨(some 145), (some (142, false)), .cl 17 [(.t 143), (.t 144)] []⟩,
      .rc ⟨(some 146), (some (142, false)), .l (.ldn 3 (.t 1))⟩,
      .rc ⟨(some 147), (some (142, false)), .q (.mv (.t 12))⟩,
      .m ⟨(some 148), (some (142, false)), .cl 17 [(.t 146), (.t 147)] []⟩,
      .m ⟨(some 149), (some (142, false)), .cq 16 [(.t 145), (.t 148)]⟩,
      .q ⟨(some 150), (some (142, false)), .q (.not (.t 149))⟩,
      .q ⟨(some 151), none, .pick (.t 142) (.k (.bool true)) (.t 150)⟩])
                                (.cond (.t 151)
                                  (.seq (.reg /- 26 -/ [⟨(some 2), none, .q (.mv (.k (.bool false)))⟩])
                                    (.ret))
                                  (.skip))))))
                          (.reg /- 22 -/ [⟨(some 110), none, .q (.mv (.t 11))⟩,
      ⟨(some 111), none, .q (.bin .add true (.t 110) (.k (.int .i64 1)))⟩,
      ⟨(some 11), none, .q (.mv (.t 111))⟩]))))))
                  (.seq (.reg /- 27 -/ [⟨(some 152), none, .cq 11 []⟩,
      ⟨(some 2), none, .q (.mv (.t 152))⟩])
                    (.ret))))))))))
def rs9 : List RV := [.mv (.t 2)]
theorem ok9 : trFn Try.prog true ⟨fun r k => if r = 1 ∧ k = 1 then .q else if r = 1 ∧ k = 5 then .q else if r = 2 ∧ k = 0 then .q else if r = 18 ∧ k = 1 then .q else if r = 18 ∧ k = 5 then .q else if r = 24 ∧ k = 2 then .q else if r = 25 ∧ k = 2 then .q else if r = 25 ∧ k = 8 then .q else if r = 25 ∧ k = 15 then .q else if r = 25 ∧ k = 18 then .q else if r = 25 ∧ k = 28 then .q else if r = 27 ∧ k = 0 then .q else .own [], fun _ => false⟩ Try.f9 = some (pc9, rs9) := by kernel_rfl
/- robotics/roboticslaw07.awake -/
def pc11_6 : PC :=
  .seq (.gh (.reg /- 6 -/ [⟨(some 30), none, .l (.ldn 3 (.t 1))⟩,
      ⟨(some 31), none, .cq 12 [(.t 30)]⟩,
      ⟨(some 32), none, .q (.bin .eql true (.t 31) (.k (.int .i64 0)))⟩,
      ⟨(some 33), none, .q (.mv (.t 32))⟩,
      ⟨(some 34), (some (33, true)), .l (.ldn 3 (.t 2))⟩,
      ⟨(some 35), (some (33, true)), .cq 12 [(.t 34)]⟩,
      ⟨(some 36), (some (33, true)), .q (.bin .eql true (.t 35) (.k (.int .i64 19)))⟩,
      ⟨(some 37), none, .pick (.t 33) (.t 36) (.k (.bool false))⟩,
      ⟨(some 38), none, .q (.mv (.t 37))⟩,
      ⟨(some 39), (some (38, true)), .l (.ldn 3 (.t 1))⟩,
      ⟨(some 40), (some (38, true)), .cl 17 [(.t 39), (.k (.string (mk [80, 111, 115, 101])))] []⟩,
      ⟨(some 41), (some (38, true)), .e (.bsl 9 1 [(.k (.string (mk [77, 111, 100, 101]))), (.k (.string (mk [84, 97, 103])))])⟩,
      ⟨(some 42), (some (38, true)), .cq 16 [(.t 40), (.t 41)]⟩,
      ⟨(some 43), none, .pick (.t 38) (.t 42) (.k (.bool false))⟩,
      ⟨(some 44), none, .q (.mv (.t 43))⟩,
      ⟨(some 45), (some (44, true)), .l (.ldn 3 (.t 1))⟩,
      ⟨(some 46), (some (44, true)), .cq 14 [(.t 45), (.k (.string (mk [84, 97, 103])))]⟩,
      ⟨(some 47), (some (44, true)), .q (.bin .eql true (.t 46) (.k (.int .i64 1)))⟩,
      ⟨(some 48), none, .pick (.t 44) (.t 47) (.k (.bool false))⟩,
      ⟨(some 49), none, .q (.mv (.t 48))⟩,
      ⟨(some 50), (some (49, true)), .l (.ldn 3 (.t 1))⟩,
      ⟨(some 51), (some (49, true)), .cq 14 [(.t 50), (.k (.string (mk [80, 111, 115, 101])))]⟩,
      ⟨(some 52), (some (49, true)), .q (.bin .eql true (.t 51) (.k (.int .i64 3)))⟩,
      ⟨(some 53), none, .pick (.t 49) (.t 52) (.k (.bool false))⟩,
      ⟨(some 54), none, .q (.mv (.t 53))⟩,
      ⟨(some 55), (some (54, true)), .q (.mv (.t 4))⟩,
      ⟨(some 56), none, .pick (.t 54) (.t 55) (.k (.bool false))⟩,
      ⟨(some 57), none, .q (.mv (.t 56))⟩,
      ⟨(some 58), (some (57, true)), .q (.fa 0 (.t 3))⟩,
      ⟨(some 59), (some (57, true)), .l (.ld1 (.t 58))⟩,
      ⟨(some 60), (some (57, true)), .q (.bin .eql true (.t 59) (.k (.string (mk [84, 97, 103]))))⟩,
      ⟨(some 61), none, .pick (.t 57) (.t 60) (.k (.bool false))⟩,
      ⟨(some 62), none, .q (.mv (.t 61))⟩,
      ⟨(some 63), (some (62, true)), .q (.mv (.t 6))⟩,
      ⟨(some 64), none, .pick (.t 62) (.t 63) (.k (.bool false))⟩,
      ⟨(some 65), none, .q (.mv (.t 64))⟩,
      ⟨(some 66), (some (65, true)), .q (.fa 1 (.t 5))⟩,
      ⟨(some 67), (some (65, true)), .l (.ld1 (.t 66))⟩,
      ⟨(some 68), (some (65, true)), .q (.bin .eql true (.t 67) (.k (.string (mk [116, 97, 103, 115]))))⟩,
      ⟨(some 69), none, .pick (.t 65) (.t 68) (.k (.bool false))⟩,
      ⟨(some 0), none, .q (.mv (.t 69))⟩]))
  (.ret)
@[go_sem ↓] theorem fold11_6 (Γ : Env) (k0 : Nat) (fr : Fr) (H : Hp) (K : Ex → Fr → Hp → Prop) : vc Γ k0 pc11_6 fr H K = vcn Γ k0 pc11_6 fr H K ⟨⟩ := rfl
def pc11_5 : PC :=
  .seq (.gh (.reg /- 5 -/ [⟨(some 23), none, .q (.fa 2 (.t 1))⟩,
      ⟨(some 24), none, .l (.ld1 (.t 23))⟩,
      ⟨(some 25), none, .l (.ia 2 (.t 24) (.k (.int .i64 1)))⟩,
      ⟨(some 26), none, .l (.ldn 2 (.t 25))⟩,
      ⟨(some 27), none, .cl 28 [(.t 26), (.k (.int .i64 3))] []⟩,
      ⟨(some 22), none, .q (.mv (.t 27))⟩,
      ⟨(some 28), none, .q (.ex (.t 22) 0)⟩,
      ⟨(some 29), none, .q (.ex (.t 22) 1)⟩,
      ⟨(some 5), none, .e (.al (.agg #[(.int .i64 0), (.string (mk [])), (.int .i64 0), (.int .i64 0), (.string (mk [])), (.slice none 0 0), (.bool false)]) 53)⟩,
      ⟨none, none, .e (.st 7 (.t 5) (.t 28))⟩,
      ⟨(some 6), none, .q (.mv (.t 29))⟩]))
  (pc11_6)
@[go_sem ↓] theorem fold11_5 (Γ : Env) (k0 : Nat) (fr : Fr) (H : Hp) (K : Ex → Fr → Hp → Prop) : vc Γ k0 pc11_5 fr H K = vcn Γ k0 pc11_5 fr H K ⟨⟩ := rfl
def pc11_4 : PC :=
  .seq (.gh (.reg /- 4 -/ [⟨(some 18), none, .l (.ldn 3 (.t 1))⟩,
      ⟨(some 19), none, .cl 22 [(.t 18), (.k (.string (mk [84, 97, 103])))] []⟩,
      ⟨(some 17), none, .q (.mv (.t 19))⟩,
      ⟨(some 20), none, .q (.ex (.t 17) 0)⟩,
      ⟨(some 21), none, .q (.ex (.t 17) 1)⟩,
      ⟨(some 3), none, .e (.al (.agg #[(.string (mk [])), (.slice none 0 0)]) 32)⟩,
      ⟨none, none, .e (.st 2 (.t 3) (.t 20))⟩,
      ⟨(some 4), none, .q (.mv (.t 21))⟩]))
  (pc11_5)
@[go_sem ↓] theorem fold11_4 (Γ : Env) (k0 : Nat) (fr : Fr) (H : Hp) (K : Ex → Fr → Hp → Prop) : vc Γ k0 pc11_4 fr H K = vcn Γ k0 pc11_4 fr H K ⟨⟩ := rfl
def pc11 : PC :=
  .seq (.reg /- 0 -/ [⟨(some 0), none, .q (.mv (.k (.bool false)))⟩])
  (.seq (.reg /- 1 -/ [⟨(some 7), none, .cl 36 [] []⟩,
      ⟨(some 1), none, .e (.al (.agg #[(.int .i64 0), (.slice none 0 0), (.slice none 0 0)]) 25)⟩,
      ⟨none, none, .e (.st 3 (.t 1) (.t 7))⟩])
    (.seq (.reg /- 2 -/ [⟨(some 8), none, .cl 36 [] []⟩,
      ⟨(some 2), none, .e (.al (.agg #[(.int .i64 0), (.slice none 0 0), (.slice none 0 0)]) 25)⟩,
      ⟨none, none, .e (.st 3 (.t 2) (.t 8))⟩])
      (.seq (.reg /- 3 -/ [⟨(some 9), none, .q (.fa 2 (.t 2))⟩,
      ⟨(some 10), none, .l (.ld1 (.t 9))⟩,
      ⟨(some 11), none, .l (.ia 2 (.t 10) (.k (.int .i64 0)))⟩,
      ⟨(some 12), none, .q (.fa 1 (.t 11))⟩,
      ⟨(some 13), none, .l (.ld1 (.t 12))⟩,
      ⟨(some 14), none, .q (.bd [(.int .i64 0), (.int .i64 0), (.string (mk [])), (.slice none 0 0)] [(0, 1, (.k (.int .i64 6))), (2, 1, (.k (.string (mk [80, 111, 115, 101]))))])⟩,
      ⟨(some 15), none, .l (.ia 7 (.t 13) (.k (.int .i64 0)))⟩,
      ⟨(some 16), none, .q (.fa 2 (.t 15))⟩,
      ⟨none, none, .e (.st 4 (.t 16) (.t 14))⟩])
        (pc11_4))))
def rs11 : List RV := [.mv (.t 0)]
theorem ok11 : trFn Try.prog true ⟨fun r k => if r = 6 ∧ k = 1 then .q else if r = 6 ∧ k = 5 then .q else if r = 6 ∧ k = 12 then .q else if r = 6 ∧ k = 16 then .q else if r = 6 ∧ k = 21 then .q else .own [], fun r => [4, 5, 6].contains r⟩ Try.f11 = some (pc11, rs11) := by kernel_rfl
/-- robotics/roboticslaw07.names -/
def pc16 : PC :=
  .seq (.reg /- 0 -/ [⟨(some 4), none, .q (.mv (.k (.bool false)))⟩])
  (.seq (.seq (.reg /- 1 -/ [⟨(some 6), none, .q (.mv (.t 0))⟩,
      ⟨(some 7), none, .q (.lnL (.t 6))⟩,
      ⟨(some 8), none, .q (.mv (.t 1))⟩,
      ⟨(some 9), none, .q (.lnL (.t 8))⟩,
      ⟨(some 10), none, .q (.bin .neq true (.t 7) (.t 9))⟩])
    (.cond (.t 10)
      (.seq (.reg /- 2 -/ [⟨(some 4), none, .q (.mv (.k (.bool false)))⟩])
        (.ret))
      (.skip)))
    (.seq (.seq (.reg /- 3 -/ [⟨(some 5), none, .q (.mv (.k (.int .i64 0)))⟩])
      (.block 0 (.loop (.seq (.seq (.reg /- 4 -/ [⟨(some 11), none, .q (.mv (.t 5))⟩,
      ⟨(some 12), none, .q (.mv (.t 0))⟩,
      ⟨(some 13), none, .q (.lnL (.t 12))⟩,
      ⟨(some 14), none, .q (.bin .lss true (.t 11) (.t 13))⟩])
            (.cond (.t 14)
              (.skip)
              (.exit 0)))
            (.seq (.block 1 (.seq (.reg /- 6 -/ [⟨(some 17), none, .q (.mv (.t 0))⟩,
      ⟨(some 18), none, .q (.mv (.t 5))⟩,
      ⟨(some 19), none, .l (.ia 1 (.t 17) (.t 18))⟩,
      ⟨(some 20), none, .l (.ld1 (.t 19))⟩,
      ⟨(some 21), none, .q (.mv (.t 1))⟩,
      ⟨(some 22), none, .q (.mv (.t 5))⟩,
      ⟨(some 23), none, .l (.ia 1 (.t 21) (.t 22))⟩,
      ⟨(some 24), none, .l (.ld1 (.t 23))⟩,
      ⟨(some 25), none, .q (.bin .neq true (.t 20) (.t 24))⟩])
                (.cond (.t 25)
                  (.seq (.reg /- 7 -/ [⟨(some 4), none, .q (.mv (.k (.bool false)))⟩])
                    (.ret))
                  (.skip))))
              (.reg /- 5 -/ [⟨(some 15), none, .q (.mv (.t 5))⟩,
      ⟨(some 16), none, .q (.bin .add true (.t 15) (.k (.int .i64 1)))⟩,
      ⟨(some 5), none, .q (.mv (.t 16))⟩]))))))
      (.seq (.reg /- 8 -/ [⟨(some 4), none, .q (.mv (.k (.bool true)))⟩])
        (.ret))))
def rs16 : List RV := [.mv (.t 4)]
theorem ok16 : trFn Try.prog true ⟨fun _ _ => .own [], fun _ => false⟩ Try.f16 = some (pc16, rs16) := by kernel_rfl
/-- robotics/roboticslaw07.has -/
def pc31 : PC :=
  .seq (.reg /- 0 -/ [⟨(some 4), none, .q (.mv (.k (.bool false)))⟩])
  (.seq (.seq (.reg /- 1 -/ [⟨(some 5), none, .q (.mv (.k (.int .i64 0)))⟩])
    (.block 0 (.loop (.seq (.seq (.reg /- 2 -/ [⟨(some 6), none, .q (.mv (.t 5))⟩,
      ⟨(some 7), none, .q (.mv (.t 0))⟩,
      ⟨(some 8), none, .q (.lnL (.t 7))⟩,
      ⟨(some 9), none, .q (.bin .lss true (.t 6) (.t 8))⟩])
          (.cond (.t 9)
            (.skip)
            (.exit 0)))
          (.seq (.block 1 (.seq (.reg /- 4 -/ [⟨(some 12), none, .q (.mv (.t 0))⟩,
      ⟨(some 13), none, .q (.mv (.t 5))⟩,
      ⟨(some 14), none, .l (.ia 1 (.t 12) (.t 13))⟩,
      ⟨(some 15), none, .l (.ld1 (.t 14))⟩,
      ⟨(some 16), none, .q (.mv (.t 1))⟩,
      ⟨(some 17), none, .q (.bin .eql true (.t 15) (.t 16))⟩])
              (.cond (.t 17)
                (.seq (.reg /- 5 -/ [⟨(some 4), none, .q (.mv (.k (.bool true)))⟩])
                  (.ret))
                (.skip))))
            (.reg /- 3 -/ [⟨(some 10), none, .q (.mv (.t 5))⟩,
      ⟨(some 11), none, .q (.bin .add true (.t 10) (.k (.int .i64 1)))⟩,
      ⟨(some 5), none, .q (.mv (.t 11))⟩]))))))
    (.seq (.reg /- 6 -/ [⟨(some 4), none, .q (.mv (.k (.bool false)))⟩])
      (.ret)))
def rs31 : List RV := [.mv (.t 4)]
theorem ok31 : trFn Try.prog true ⟨fun _ _ => .own [], fun _ => false⟩ Try.f31 = some (pc31, rs31) := by kernel_rfl
/-- robotics/roboticslaw07.alike -/
def pc34 : PC :=
  .seq (.reg /- 0 -/ [⟨(some 4), none, .e (.bx 25 (.t 0))⟩,
      ⟨(some 5), none, .e (.bx 25 (.t 1))⟩,
      ⟨(some 8), none, .q (.mv (.k (.bool false)))⟩])
  (.seq (.ord /- 1 -/ [.q ⟨(some 24), none, .l (.ldn 3 (.t 4))⟩,
      .q ⟨(some 25), none, .q (.mv (.t 2))⟩,
      .q ⟨(some 27), none, .l (.ldn 3 (.t 5))⟩,
      .q ⟨(some 28), none, .q (.mv (.t 3))⟩,
      .m ⟨(some 26), none, .cl 18 [(.t 24), (.t 25)] []⟩,
      .rc ⟨(some 27), none, .l (.ldn 3 (.t 5))⟩,
      .rc ⟨(some 28), none, .q (.mv (.t 3))⟩,
      .m ⟨(some 29), none, .cl 18 [(.t 27), (.t 28)] []⟩,
      .m ⟨(some 9), none, .q (.mv (.t 26))⟩,
      .m ⟨(some 10), none, .q (.mv (.t 29))⟩])
    (.seq (.reg /- 2 -/ [⟨(some 31), none, .l (.ldn 3 (.t 4))⟩,
      ⟨(some 32), none, .q (.mv (.t 2))⟩,
      ⟨(some 33), none, .cl 23 [(.t 31), (.t 32)] []⟩,
      ⟨(some 30), none, .q (.mv (.t 33))⟩,
      ⟨(some 34), none, .q (.ex (.t 30) 0)⟩,
      ⟨(some 35), none, .q (.ex (.t 30) 1)⟩,
      ⟨(some 11), none, .e (.al (.agg #[(.string (mk [])), (.slice none 0 0)]) 32)⟩,
      ⟨none, none, .e (.st 2 (.t 11) (.t 34))⟩,
      ⟨(some 12), none, .q (.mv (.t 35))⟩])
      (.seq (.reg /- 3 -/ [⟨(some 37), none, .l (.ldn 3 (.t 5))⟩,
      ⟨(some 38), none, .q (.mv (.t 3))⟩,
      ⟨(some 39), none, .cl 23 [(.t 37), (.t 38)] []⟩,
      ⟨(some 36), none, .q (.mv (.t 39))⟩,
      ⟨(some 40), none, .q (.ex (.t 36) 0)⟩,
      ⟨(some 41), none, .q (.ex (.t 36) 1)⟩,
      ⟨(some 13), none, .e (.al (.agg #[(.string (mk [])), (.slice none 0 0)]) 32)⟩,
      ⟨none, none, .e (.st 2 (.t 13) (.t 40))⟩,
      ⟨(some 14), none, .q (.mv (.t 41))⟩])
        (.seq (.seq (.reg /- 4 -/ [⟨(some 42), none, .q (.mv (.t 9))⟩,
      ⟨(some 43), none, .q (.mv (.t 10))⟩,
      ⟨(some 44), none, .cq 16 [(.t 42), (.t 43)]⟩,
      ⟨(some 45), none, .q (.not (.t 44))⟩,
      ⟨(some 46), none, .q (.mv (.t 45))⟩,
      ⟨(some 47), (some (46, false)), .l (.ldn 2 (.t 11))⟩,
      ⟨(some 48), (some (46, false)), .l (.ldn 2 (.t 13))⟩,
      ⟨(some 49), (some (46, false)), .cq 26 [(.t 47), (.t 48)]⟩,
      ⟨(some 50), (some (46, false)), .q (.not (.t 49))⟩,
      ⟨(some 51), none, .pick (.t 46) (.k (.bool true)) (.t 50)⟩])
          (.cond (.t 51)
            (.seq (.reg /- 5 -/ [⟨(some 8), none, .q (.mv (.k (.bool false)))⟩])
              (.ret))
            (.skip)))
          (.seq (.seq (.reg /- 6 -/ [⟨(some 15), none, .q (.mv (.k (.int .i64 0)))⟩])
            (.block 0 (.loop (.seq (.seq (.reg /- 7 -/ [⟨(some 52), none, .q (.mv (.t 15))⟩,
      ⟨(some 53), none, .q (.mv (.t 9))⟩,
      ⟨(some 54), none, .q (.lnL (.t 53))⟩,
      ⟨(some 55), none, .q (.bin .lss true (.t 52) (.t 54))⟩])
                  (.cond (.t 55)
                    (.skip)
                    (.exit 0)))
                  (.seq (.block 1 (.seq (.ord /- 9 -/ [.q ⟨(some 59), none, .l (.ldn 3 (.t 4))⟩,
      .q ⟨(some 60), none, .q (.mv (.t 9))⟩,
      .q ⟨(some 61), none, .q (.mv (.t 15))⟩,
      .q ⟨(some 62), none, .l (.ia 1 (.t 60) (.t 61))⟩,
      .q ⟨(some 63), none, .l (.ld1 (.t 62))⟩,
      .m ⟨(some 64), none, .cl 23 [(.t 59), (.t 63)] []⟩,
      .q ⟨(some 58), none, .q (.mv (.t 64))⟩,
      .q ⟨(some 65), none, .q (.ex (.t 58) 0)⟩,
      .q ⟨(some 66), none, .q (.ex (.t 58) 1)⟩,
      .m ⟨(some 16), none, .e (.al (.agg #[(.string (mk [])), (.slice none 0 0)]) 32)⟩,
      .rc ⟨(some 58), none, .q (.mv (.t 64))⟩,
      .rc ⟨(some 65), none, .q (.ex (.t 58) 0)⟩,
      .rc ⟨(some 66), none, .q (.ex (.t 58) 1)⟩,
      .m ⟨none, none, .e (.st 2 (.t 16) (.t 65))⟩,
      .rc ⟨(some 66), none, .q (.ex (.t 58) 1)⟩,
      .m ⟨(some 17), none, .q (.mv (.t 66))⟩])
                      (.seq (.ord /- 10 -/ [.q ⟨(some 68), none, .l (.ldn 3 (.t 5))⟩,
      .q ⟨(some 69), none, .q (.mv (.t 10))⟩,
      .q ⟨(some 70), none, .q (.mv (.t 15))⟩,
      .q ⟨(some 71), none, .l (.ia 1 (.t 69) (.t 70))⟩,
      .q ⟨(some 72), none, .l (.ld1 (.t 71))⟩,
      .m ⟨(some 73), none, .cl 23 [(.t 68), (.t 72)] []⟩,
      .q ⟨(some 67), none, .q (.mv (.t 73))⟩,
      .q ⟨(some 74), none, .q (.ex (.t 67) 0)⟩,
      .q ⟨(some 75), none, .q (.ex (.t 67) 1)⟩,
      .m ⟨(some 18), none, .e (.al (.agg #[(.string (mk [])), (.slice none 0 0)]) 32)⟩,
      .rc ⟨(some 67), none, .q (.mv (.t 73))⟩,
      .rc ⟨(some 74), none, .q (.ex (.t 67) 0)⟩,
      .rc ⟨(some 75), none, .q (.ex (.t 67) 1)⟩,
      .m ⟨none, none, .e (.st 2 (.t 18) (.t 74))⟩,
      .rc ⟨(some 75), none, .q (.ex (.t 67) 1)⟩,
      .m ⟨(some 19), none, .q (.mv (.t 75))⟩])
                        (.seq (.ord /- 11 -/ [.q ⟨(some 77), none, .l (.ldn 3 (.t 4))⟩,
      .q ⟨(some 78), none, .q (.mv (.t 9))⟩,
      .q ⟨(some 79), none, .q (.mv (.t 15))⟩,
      .q ⟨(some 80), none, .l (.ia 1 (.t 78) (.t 79))⟩,
      .q ⟨(some 81), none, .l (.ld1 (.t 80))⟩,
      .m ⟨(some 82), none, .cl 25 [(.t 77), (.t 81)] []⟩,
      .q ⟨(some 76), none, .q (.mv (.t 82))⟩,
      .q ⟨(some 83), none, .q (.ex (.t 76) 0)⟩,
      .q ⟨(some 84), none, .q (.ex (.t 76) 1)⟩,
      .m ⟨(some 20), none, .e (.al (.agg #[(.string (mk [])), (.slice none 0 0), (.slice none 0 0)]) 47)⟩,
      .rc ⟨(some 76), none, .q (.mv (.t 82))⟩,
      .rc ⟨(some 83), none, .q (.ex (.t 76) 0)⟩,
      .rc ⟨(some 84), none, .q (.ex (.t 76) 1)⟩,
      .m ⟨none, none, .e (.st 3 (.t 20) (.t 83))⟩,
      .rc ⟨(some 84), none, .q (.ex (.t 76) 1)⟩,
      .m ⟨(some 21), none, .q (.mv (.t 84))⟩])
                          (.seq (.ord /- 12 -/ [.q ⟨(some 86), none, .l (.ldn 3 (.t 5))⟩,
      .q ⟨(some 87), none, .q (.mv (.t 10))⟩,
      .q ⟨(some 88), none, .q (.mv (.t 15))⟩,
      .q ⟨(some 89), none, .l (.ia 1 (.t 87) (.t 88))⟩,
      .q ⟨(some 90), none, .l (.ld1 (.t 89))⟩,
      .m ⟨(some 91), none, .cl 25 [(.t 86), (.t 90)] []⟩,
      .q ⟨(some 85), none, .q (.mv (.t 91))⟩,
      .q ⟨(some 92), none, .q (.ex (.t 85) 0)⟩,
      .q ⟨(some 93), none, .q (.ex (.t 85) 1)⟩,
      .m ⟨(some 22), none, .e (.al (.agg #[(.string (mk [])), (.slice none 0 0), (.slice none 0 0)]) 47)⟩,
      .rc ⟨(some 85), none, .q (.mv (.t 91))⟩,
      .rc ⟨(some 92), none, .q (.ex (.t 85) 0)⟩,
      .rc ⟨(some 93), none, .q (.ex (.t 85) 1)⟩,
      .m ⟨none, none, .e (.st 3 (.t 22) (.t 92))⟩,
      .rc ⟨(some 93), none, .q (.ex (.t 85) 1)⟩,
      .m ⟨(some 23), none, .q (.mv (.t 93))⟩])
                            (.seq (.reg /- 13 -/ [⟨(some 94), none, .q (.mv (.t 17))⟩,
      ⟨(some 95), none, .q (.mv (.t 19))⟩,
      ⟨(some 96), none, .q (.eqB true (.t 94) (.t 95))⟩,
      ⟨(some 97), none, .q (.mv (.t 96))⟩,
      ⟨(some 98), (some (97, false)), .l (.ldn 2 (.t 16))⟩,
      ⟨(some 99), (some (97, false)), .l (.ldn 2 (.t 18))⟩,
      ⟨(some 100), (some (97, false)), .cq 26 [(.t 98), (.t 99)]⟩,
      ⟨(some 101), (some (97, false)), .q (.not (.t 100))⟩,
      ⟨(some 102), none, .pick (.t 97) (.k (.bool true)) (.t 101)⟩,
      ⟨(some 103), none, .q (.mv (.t 102))⟩,
      ⟨(some 104), (some (103, false)), .l (.ldn 3 (.t 20))⟩,
      ⟨(some 105), (some (103, false)), .l (.ldn 3 (.t 22))⟩,
      ⟨(some 106), (some (103, false)), .cq 27 [(.t 104), (.t 105)]⟩,
      ⟨(some 107), (some (103, false)), .q (.not (.t 106))⟩,
      ⟨(some 108), none, .pick (.t 103) (.k (.bool true)) (.t 107)⟩])
                              (.cond (.t 108)
                                (.seq (.reg /- 14 -/ [⟨(some 8), none, .q (.mv (.k (.bool false)))⟩])
                                  (.ret))
                                (.skip))))))))
                    (.reg /- 8 -/ [⟨(some 56), none, .q (.mv (.t 15))⟩,
      ⟨(some 57), none, .q (.bin .add true (.t 56) (.k (.int .i64 1)))⟩,
      ⟨(some 15), none, .q (.mv (.t 57))⟩]))))))
            (.seq (.reg /- 15 -/ [⟨(some 8), none, .q (.mv (.k (.bool true)))⟩])
              (.ret)))))))
def rs34 : List RV := [.mv (.t 8)]
theorem ok34 : trFn Try.prog true ⟨fun r k => if r = 4 ∧ k = 2 then .q else if r = 4 ∧ k = 7 then .q else if r = 13 ∧ k = 6 then .q else if r = 13 ∧ k = 12 then .q else .own [], fun _ => false⟩ Try.f34 = some (pc34, rs34) := by kernel_rfl
/-- robotics/roboticslaw07.Example -/
def pc36 : PC :=
  .seq (.reg /- 0 -/ [⟨(some 0), none, .e (.al (.agg #[(.int .i64 0), (.slice none 0 0), (.slice none 0 0)]) 25)⟩])
  (.seq (.reg /- 1 -/ [⟨(some 4), none, .q (.bd [(.int .i64 0), (.int .i64 0), (.string (mk [])), (.slice none 0 0)] [(0, 1, (.k (.int .i64 7))), (2, 1, (.k (.string (mk [77, 111, 100, 101]))))])⟩,
      ⟨(some 5), none, .q (.bd [(.int .i64 0), (.string (mk [])), (.int .i64 0), (.int .i64 0), (.string (mk [])), (.slice none 0 0), (.bool false)] [(0, 1, (.k (.int .i64 1))), (1, 1, (.k (.string (mk [109, 111, 100, 101])))), (2, 4, (.t 4))])⟩,
      ⟨(some 6), none, .e (.bsl 53 7 [(.t 5)])⟩,
      ⟨(some 7), none, .q (.bd [(.string (mk [])), (.slice none 0 0)] [(0, 1, (.k (.string (mk [84, 97, 103])))), (1, 1, (.t 6))])⟩,
      ⟨(some 1), none, .e (.al (.agg #[(.string (mk [])), (.slice none 0 0)]) 32)⟩,
      ⟨none, none, .e (.st 2 (.t 1) (.t 7))⟩])
    (.seq (.reg /- 2 -/ [⟨(some 8), none, .q (.bd [(.int .i64 0), (.int .i64 0), (.string (mk [])), (.slice none 0 0)] [(0, 1, (.k (.int .i64 6))), (2, 1, (.k (.string (mk [84, 97, 103]))))])⟩,
      ⟨(some 9), none, .e (.bsl 40 4 [(.t 8)])⟩,
      ⟨(some 10), none, .q (.bd [(.int .i64 0), (.int .i64 0), (.string (mk [])), (.slice none 0 0)] [(0, 1, (.k (.int .i64 5))), (1, 1, (.k (.int .i64 4))), (3, 1, (.t 9))])⟩,
      ⟨(some 2), none, .e (.al (.agg #[(.int .i64 0), (.int .i64 0), (.string (mk [])), (.slice none 0 0)]) 40)⟩,
      ⟨none, none, .e (.st 4 (.t 2) (.t 10))⟩])
      (.seq (.reg /- 3 -/ [⟨(some 11), none, .q (.bd [(.int .i64 0), (.int .i64 0), (.string (mk [])), (.slice none 0 0)] [(0, 1, (.k (.int .i64 2))), (1, 1, (.k (.int .i64 32)))])⟩,
      ⟨(some 12), none, .q (.bd [(.int .i64 0), (.string (mk [])), (.int .i64 0), (.int .i64 0), (.string (mk [])), (.slice none 0 0), (.bool false)] [(0, 1, (.k (.int .i64 1))), (1, 1, (.k (.string (mk [120])))), (2, 4, (.t 11))])⟩,
      ⟨(some 13), none, .l (.ldn 4 (.t 2))⟩,
      ⟨(some 14), none, .q (.bd [(.int .i64 0), (.string (mk [])), (.int .i64 0), (.int .i64 0), (.string (mk [])), (.slice none 0 0), (.bool false)] [(0, 1, (.k (.int .i64 3))), (1, 1, (.k (.string (mk [116, 97, 103, 115])))), (2, 4, (.t 13))])⟩,
      ⟨(some 15), none, .e (.bslx 53 7 [(.t 12), (.t 14)])⟩,
      ⟨(some 16), none, .q (.bd [(.string (mk [])), (.slice none 0 0)] [(0, 1, (.k (.string (mk [80, 111, 115, 101])))), (1, 1, (.t 15))])⟩,
      ⟨(some 3), none, .e (.al (.agg #[(.string (mk [])), (.slice none 0 0)]) 32)⟩,
      ⟨none, none, .e (.st 2 (.t 3) (.t 16))⟩])
        (.seq (.reg /- 4 -/ [⟨(some 17), none, .e (.bsl 9 1 [(.k (.string (mk [105, 100, 108, 101]))), (.k (.string (mk [114, 117, 110])))])⟩,
      ⟨(some 18), none, .e (.bsl 3 1 [(.k (.int .i64 0)), (.k (.int .i64 1))])⟩,
      ⟨(some 19), none, .q (.bd [(.string (mk [])), (.slice none 0 0), (.slice none 0 0)] [(0, 1, (.k (.string (mk [77, 111, 100, 101])))), (1, 1, (.t 17)), (2, 1, (.t 18))])⟩,
      ⟨(some 20), none, .e (.bslx 47 3 [(.t 19)])⟩,
      ⟨(some 21), none, .l (.ldn 2 (.t 1))⟩,
      ⟨(some 22), none, .l (.ldn 2 (.t 3))⟩,
      ⟨(some 23), none, .e (.bslx 32 2 [(.t 21), (.t 22)])⟩,
      ⟨(some 24), none, .q (.bd [(.int .i64 0), (.slice none 0 0), (.slice none 0 0)] [(0, 1, (.k (.int .i64 1))), (1, 1, (.t 20)), (2, 1, (.t 23))])⟩,
      ⟨none, none, .e (.st 3 (.t 0) (.t 24))⟩])
          (.ret)))))
def rs36 : List RV := [.ld (.ldn 3 (.t 0))]
theorem ok36 : trFn Try.prog true ⟨fun r k => if r = 3 ∧ k = 4 then .q else if r = 4 ∧ k = 3 then .q else if r = 4 ∧ k = 6 then .q else .own [], fun _ => false⟩ Try.f36 = some (pc36, rs36) := by kernel_rfl
end Go.Proofs.Ytpfmkfafagiicaa
/- The law's example. -/
namespace Go.Proofs.Ytpfmkfafagiicaa
open Go.W
abbrev nMode : ByteArray := mk [77, 111, 100, 101]
abbrev nTag : ByteArray := mk [84, 97, 103]
abbrev nPose : ByteArray := mk [80, 111, 115, 101]
def tyMode : Ty := .mk 7 0 nMode []
def tyTag : Ty := .mk 6 0 nTag []
def tyPose : Ty := .mk 6 0 nPose []
def tyList : Ty := .mk 5 4 (mk []) [tyTag]
def tyInt : Ty := .mk 2 32 (mk []) []
def flMode : Fl := ⟨1, mk [109, 111, 100, 101], tyMode, false⟩
def flRound : Fl := ⟨1, mk [109, 111, 100, 101], tyPose, false⟩
def flX : Fl := ⟨1, mk [120], tyInt, false⟩
def flTags : Fl := ⟨3, mk [116, 97, 103, 115], tyList, false⟩
def stTag : St := ⟨nTag, [flMode]⟩
def stPose : St := ⟨nPose, [flX, flTags]⟩
def stRound : St := ⟨nTag, [flRound]⟩
def enMode : En := ⟨nMode, [mk [105, 100, 108, 101], mk [114, 117, 110]], [0, 1]⟩
def exS : Sc := ⟨1, [enMode], [stTag, stPose]⟩
def rdS : Sc := ⟨1, [enMode], [stRound, stPose]⟩
def exSp : W.Spec := fun av H K => av = [] ∧ H = [] ∧ K (.va (.gs [.vl (.int .i64 1), .fz [enC enMode], .sl 0 2])) [.rowx [[.vl (.string nTag), .sl 1 1], stC stPose] 32 2, .row [flC flMode] 53 7]
set_option maxRecDepth 100000 in
set_option maxHeartbeats 2000000 in
theorem mExample : Meets Try.prog 36 exSp := by
  refine meets_fn Try.func36 ok36 0 (by rw [Try.ntmps36]; decide) (meetsAll_nil _) (fun av H K h => by obtain ⟨rfl, _⟩ := h; rfl) ?_
  rintro av H K ⟨rfl, rfl, hK⟩
  simp (maxSteps := 1000000) -dsimp only [go_sem, pc36, rs36]
  refine .opn 1 _ _ _ rfl (.nfr 1 _ _ _ rfl (.shu 1 _ _ _ rfl ?_ ?_))
  · simp [C.nf, C.shut]
  refine .opn 3 _ _ _ rfl (.nfr 3 _ _ _ rfl (.shu 3 _ _ _ rfl ?_ (.pub 3 _ _ _ rfl ?_)))
  · simp [C.nf, C.shut]
  simp -dsimp only [go_sem, pubH, C.nf, C.pub]
  refine .nfr 5 _ _ _ rfl (.shu 5 _ _ _ rfl ?_ (.pub 5 _ _ _ rfl ?_))
  · simp [C.nf, C.shut]
  simp -dsimp only [go_sem, pubH, C.nf, C.pub]
  refine .pub 7 _ _ _ rfl (.pub 8 _ _ _ rfl ?_)
  simp -dsimp only [go_sem, pubH, C.pub]
  refine .shu 9 _ _ _ rfl ?_ (.pub 9 _ _ _ rfl ?_)
  · simp [C.shut]
  simp -dsimp only [go_sem, pubH, C.pub]
  refine .sel [10, 1] (by simp) (by simp) rfl (.done ?_)
  simp -dsimp only [go_sem]
  exact hK
end Go.Proofs.Ytpfmkfafagiicaa
/- The example's answers. -/
namespace Go.Proofs.Ytpfmkfafagiicaa
open Go.W
theorem ex_ok : ∀ t ∈ [tyMode, tyPose, tyInt, tyList], TyOk t := by
  have h : ∀ k s n, in64 k → in64 s → n.size ≤ 9223372036854775807 → TyOk (.mk k s n []) := fun k s n h1 h2 h3 => .mk h1 h2 h3 (Nat.zero_le _) (fun t h => by cases h)
  intro t ht
  simp only [List.mem_cons, List.not_mem_nil, or_false] at ht
  rcases ht with rfl | rfl | rfl | rfl
  · exact h _ _ _ (by unfold in64; omega) (by unfold in64; omega) (by decide)
  · exact h _ _ _ (by unfold in64; omega) (by unfold in64; omega) (by decide)
  · exact h _ _ _ (by unfold in64; omega) (by unfold in64; omega) (by decide)
  · refine .mk (by unfold in64; omega) (by unfold in64; omega) (by decide) (by decide) fun t ht => ?_
    simp only [List.mem_cons, List.not_mem_nil, or_false] at ht
    subst ht
    exact h _ _ _ (by unfold in64; omega) (by unfold in64; omega) (by decide)
theorem ex_sm : ∀ t ∈ [tyMode, tyPose, tyInt, tyList], TySm t := by
  have h : ∀ k s n, TySm (.mk k s n []) := fun k s n => .mk (Nat.zero_le _) (fun t h => by cases h)
  intro t ht
  simp only [List.mem_cons, List.not_mem_nil, or_false] at ht
  rcases ht with rfl | rfl | rfl | rfl
  · exact h _ _ _
  · exact h _ _ _
  · exact h _ _ _
  · refine .mk (by decide) fun t ht => ?_
    simp only [List.mem_cons, List.not_mem_nil, or_false] at ht
    subst ht
    exact h _ _ _
theorem fit_two {a b : St} (ha : a = stTag ∨ a = stRound) (hb : b = stPose) : (⟨1, [enMode], [a, b]⟩ : Sc).fit := by
  have hf : ∀ f ∈ [flMode, flRound, flX, flTags], f.ok ∧ (lvT f.ty).1 ≤ 1000000000 ∧ TySm f.ty := fun f hf => by
    simp only [List.mem_cons, List.not_mem_nil, or_false] at hf
    rcases hf with rfl | rfl | rfl | rfl
    · exact ⟨⟨by unfold in64; decide, by decide, ex_ok _ (by simp [flMode])⟩, by decide, ex_sm _ (by simp [flMode])⟩
    · exact ⟨⟨by unfold in64; decide, by decide, ex_ok _ (by simp [flRound])⟩, by decide, ex_sm _ (by simp [flRound])⟩
    · exact ⟨⟨by unfold in64; decide, by decide, ex_ok _ (by simp [flX])⟩, by decide, ex_sm _ (by simp [flX])⟩
    · exact ⟨⟨by unfold in64; decide, by decide, ex_ok _ (by simp [flTags])⟩, by decide, ex_sm _ (by simp [flTags])⟩
  have hs : ∀ t, (t = stTag ∨ t = stRound) ∨ t = stPose → t.nm.size ≤ 9223372036854775807 ∧ t.fs.length ≤ 2 ∧ ∀ f ∈ t.fs, f ∈ [flMode, flRound, flX, flTags] := fun t ht => by
    rcases ht with (rfl | rfl) | rfl
    · exact ⟨by decide, by decide, fun f hf => by simp [stTag] at hf; simp [hf]⟩
    · exact ⟨by decide, by decide, fun f hf => by simp [stRound] at hf; simp [hf]⟩
    · exact ⟨by decide, by decide, fun f hf => by simp [stPose] at hf; rcases hf with rfl | rfl <;> simp⟩
  have hm : ∀ t ∈ [a, b], (t = stTag ∨ t = stRound) ∨ t = stPose := fun t ht => by
    simp only [List.mem_cons, List.not_mem_nil, or_false] at ht
    rcases ht with rfl | rfl
    · exact .inl ha
    · exact .inr hb
  refine ⟨⟨⟨by show _ ≤ (1 : Int); omega, by show (1 : Int) ≤ _; omega⟩, by simp, by simp, fun e he => ?_, fun t ht => ?_⟩, fun t ht f hf' => (hf f ((hs t (hm t ht)).2.2 f hf')).2.1, fun t ht => ⟨by have := (hs t (hm t ht)).2.1; omega, fun f hf' => (hf f ((hs t (hm t ht)).2.2 f hf')).2.2⟩, fun e he => ?_⟩
  · simp only [List.mem_cons, List.not_mem_nil, or_false] at he
    subst he
    exact ⟨by decide, by decide, by decide, fun n hn => by simp [enMode] at hn; rcases hn with rfl | rfl <;> decide, fun n hn => by simp [enMode] at hn; rcases hn with rfl | rfl <;> (unfold in64; decide)⟩
  · obtain ⟨h1, h2, h3⟩ := hs t (hm t ht)
    exact ⟨h1, by omega, fun f hf' => (hf f (h3 f hf')).1⟩
  · simp only [List.mem_cons, List.not_mem_nil, or_false] at he
    subst he
    decide
theorem ex_fit : exS.fit := fit_two (.inl rfl) rfl
theorem rd_fit : rdS.fit := fit_two (.inr rfl) rfl
theorem ex_large : largeF exS = false := by decide +kernel
theorem rd_large : largeF rdS = false := by decide +kernel
theorem ex_en : enF exS = 0 := by decide +kernel
theorem rd_en : enF rdS = 0 := by decide +kernel
theorem ex_st : stF exS = 0 := by decide +kernel
theorem rd_st : stF rdS = 0 := by decide +kernel
theorem inB_uses (ss : List St) (n x : ByteArray) : inB (usesF ss n) x = inB (visAll ss n) x := by
  rw [Bool.eq_iff_iff, inB_iff, inB_iff, usesF, mem_srtB]
theorem ex_acy : exS.ss.any (fun t => inB (usesF exS.ss t.nm) t.nm) = false := by
  simp only [inB_uses]; decide +kernel
theorem rd_cyc : rdS.ss.any (fun t => inB (usesF rdS.ss t.nm) t.nm) = true := by
  simp only [inB_uses]; decide +kernel
theorem ex_vis : visAll exS.ss nPose = [nTag, nMode] := by decide +kernel
theorem ex_uses : usesF exS.ss nPose = [nMode, nTag] := by
  refine asc_ext (usesF_asc _ _) ?_ fun x => ?_
  · refine List.pairwise_cons.2 ⟨fun y hy => ?_, List.pairwise_cons.2 ⟨fun y hy => (List.not_mem_nil hy).elim, .nil⟩⟩
    obtain rfl : y = nTag := by simpa using hy
    show bl nMode < bl nTag
    decide
  · rw [usesF, mem_srtB, ex_vis]; simp [or_comm]
theorem ex_good : Gd exS.ss exS.es := good_of ex_fit ex_large ex_st
theorem ex_ac : Acy exS.ss := fun t ht => any_false ex_acy t ht
theorem ex_dTag : dD exS.ss nTag = 1 := by
  have h := dD_eq ex_good ex_ac (ex_good.nd stTag (by simp [exS]))
  rw [show nTag = stTag.nm from rfl, h]
  rfl
theorem ex_dPose : dD exS.ss nPose = 3 := by
  have h0 := dD_eq ex_good ex_ac (ex_good.nd stPose (by simp [exS]))
  rw [show nPose = stPose.nm from rfl, h0]
  have h : fdep (dD exS.ss) tyList = 1 + dD exS.ss nTag := by
    unfold fdep; rfl
  have h2 : fdep (dD exS.ss) tyInt = 0 := by unfold fdep; rfl
  have h3 : maxF (dD exS.ss) stPose.fs = max (max 0 (fdep (dD exS.ss) tyInt)) (fdep (dD exS.ss) tyList) := rfl
  rw [h3, h, h2, ex_dTag]; rfl
theorem ex_check : checkF exS = 0 := by
  have h : nestF exS.ss = 0 := by
    unfold nestF
    rw [ex_acy]
    have e : exS.ss.any (fun t => decide (6 < dD exS.ss t.nm)) = (decide (6 < dD exS.ss nTag) || (decide (6 < dD exS.ss nPose) || false)) := rfl
    rw [e, ex_dTag, ex_dPose]; rfl
  unfold checkF
  rw [ex_large, ex_en, ex_st, h]; rfl
theorem rd_check : checkF rdS = 19 := by
  have h : nestF rdS.ss = 19 := by unfold nestF; rw [rd_cyc]; rfl
  unfold checkF
  rw [rd_large, rd_en, rd_st, h]; rfl
theorem ex_depTag : dpF exS nTag = 1 := by
  unfold dpF okS; rw [ex_check, show hasS exS.ss nTag = true by decide +kernel, ex_dTag]; rfl
theorem ex_depPose : dpF exS nPose = 3 := by
  unfold dpF okS; rw [ex_check, show hasS exS.ss nPose = true by decide +kernel, ex_dPose]; rfl
theorem ex_usL : usL exS nPose = [nMode, nTag] := by
  unfold usL okS; rw [ex_check, show hasS exS.ss nPose = true by decide +kernel, ex_uses]; rfl
end Go.Proofs.Ytpfmkfafagiicaa
/- The laws' small functions: names, has. -/
namespace Go.Proofs.Ytpfmkfafagiicaa
open Go.W
def nsPre : List S → Prop := fun av => match av with
  | [.va (.c1 (.fz r)), .va (.c1 (.fz q))] => isBs r ∧ isBs q
  | _ => False
theorem nsPre_open {av : List S} (h : nsPre av) : ∃ a b : List ByteArray, av = [.va (.c1 (.fz (a.map stR))), .va (.c1 (.fz (b.map stR)))] ∧ a.length ≤ 9223372036854775807 ∧ b.length ≤ 9223372036854775807 := by
  unfold nsPre at h
  split at h
  · obtain ⟨⟨a, rfl, h1⟩, ⟨b, rfl, h2⟩⟩ := h
    exact ⟨a, b, rfl, h1, h2⟩
  · exact h.elim
noncomputable def nsVal : List S → A := fun av => match av with
  | [.va (.c1 (.fz r)), .va (.c1 (.fz q))] => bA (decide (r.map C.bs = q.map C.bs))
  | _ => .gs []
noncomputable def nsFn : Fun := ⟨nsPre, nsVal, fun av h => by obtain ⟨a, b, rfl, _⟩ := nsPre_open h; trivial⟩
theorem nsFn_len : ∀ av H K, nsFn.sp av H K → av.length = 2 := fun av H K h => by obtain ⟨a, b, rfl, _⟩ := nsPre_open h.1.1; rfl
attribute [go_sem] nsFn nsPre nsVal
set_option maxRecDepth 100000 in
theorem mNames : Meets Try.prog 16 nsFn.sp := by
  refine meets_fn Try.func16 ok16 2 (by rw [Try.ntmps16]; decide) (meetsAll_nil _) nsFn_len ?_
  rintro av H K ⟨⟨h, rfl⟩, hK⟩
  obtain ⟨a, b, rfl, ha, hb⟩ := nsPre_open h
  have hK : K (bS (decide (a = b))) [] := by
    have : nsFn.val [.va (.c1 (.fz (a.map stR))), .va (.c1 (.fz (b.map stR)))] = bA (decide (a = b)) := by simp -dsimp only [go_sem]
    rw [this] at hK; exact hK
  clear h
  have fin : ∀ x : Bool, decide (a = b) = x → W.Fin 0 K (bS x) [] := fun x h => by
    rw [h] at hK; exact .done hK
  simp (maxSteps := 1000000) -dsimp only [go_sem, pc16, rs16]
  refine ⟨fun h1 => fin false (decide_eq_false fun e => by subst e; simp at h1), fun h1 => ?_⟩
  have hl : a.length = b.length := by simp at h1; omega
  refine vc_loop (α := Nat) (fun i => [(0, .va (.c1 (.fz (a.map stR)))), (1, .va (.c1 (.fz (b.map stR)))), (5, iS .i64 i)]) (fun _ => [])
    (fun i => i ≤ a.length ∧ ∀ j, j < i → a[j]? = b[j]?) (fun i => a.length - i) 0 0 ⟨Nat.zero_le _, fun j hj => by omega⟩ ?_ ?_ ?_
  · simp [go_sem]
  · simp [go_sem]
  rintro i ⟨hi, ho⟩
  rcases Nat.lt_or_ge i a.length with hlt | hge
  · have hg : decide ((i : Int) < (a.length : Int)) = true := by simp; omega
    obtain ⟨x, hx⟩ : ∃ x, a[i]? = some x := ⟨_, List.getElem?_eq_getElem hlt⟩
    obtain ⟨y, hy⟩ : ∃ x, b[i]? = some x := ⟨_, List.getElem?_eq_getElem (by omega)⟩
    have q1 := row_rg' (row := stR) hx
    have q2 := row_rg' (row := stR) hy
    simp (maxSteps := 1000000) -dsimp only [go_sem, hg, ↓q1, ↓q2, bl_beq]
    refine ⟨by omega, by omega, fun hc => ?_, fun hc => ⟨by omega, loop_next (i + 1) 0 ⟨by omega, fun j hj => ?_⟩ (by omega) ?_ ?_⟩⟩
    · refine fin false (decide_eq_false fun e => ?_)
      subst e
      rw [hx] at hy
      obtain rfl := Option.some.inj hy
      simp at hc
    · rcases Nat.lt_or_ge j i with h4 | h4
      · exact ho j h4
      · obtain rfl : j = i := by omega
        have : x = y := by simpa using hc
        rw [hx, hy, this]
    · simp [go_sem]
    · simp [go_sem]
  · have hg : decide ((i : Int) < (a.length : Int)) = false := by simp; omega
    obtain rfl : i = a.length := by omega
    simp (maxSteps := 1000000) -dsimp only [go_sem, hg]
    exact fin true (decide_eq_true (list_ext_lt hl ho))
end Go.Proofs.Ytpfmkfafagiicaa
/- awake. -/
namespace Go.Proofs.Ytpfmkfafagiicaa
open Go.W
theorem gh_tail {Γ : Env} {k0 : Nat} {x : PC} {fr : Fr} {H : Hp} {K : Ex → Fr → Hp → Prop} {up : List (Nat × S)} {Hs : Hp} (ns : List Nat) (h : vc Γ k0 x.ungh (puts up) Hs K) (h3 : ns.Nodup) (h4 : ∀ n ∈ ns, n < H.length) (h5 : ns.take k0 = List.range k0)
    (h1 : agree' ns fr up) (h2 : (pickH H ns).map (B.ren (loc ns)) = Hs) : Gh k0 (fun fr' H' => vc Γ k0 x.ungh fr' H' K) fr H :=
  .sel ns h3 h4 h5 (.wk _ (puts_wk' h1) (.done (by rw [h2]; exact h)))
def awFn : Fun := ⟨fun av => av = [], fun _ => bA true, fun _av _ => trivial⟩
attribute [go_sem] awFn
set_option maxRecDepth 100000 in
set_option maxHeartbeats 4000000 in
theorem mAwake : Meets Try.prog 11 awFn.sp := by
  refine meets_fn Try.func11 ok11 0 (by rw [Try.ntmps11]; decide) (meetsAll_s mExample (meetsAll_s mStructP (meetsAll_s mFieldOfP (meetsAll_f mCheck (meetsAll_s mUsesP (meetsAll_f mNames (meetsAll_f mDepthP (meetsAll_nil _)))))))) (fun av H K h => by obtain ⟨⟨rfl, _⟩, _⟩ := h; rfl) ?_
  rintro av H K ⟨⟨rfl, rfl⟩, hK⟩
  have hK : K (bS true) [] := hK
  simp (maxSteps := 1000000) -dsimp only [go_sem, pc11, rs11]
  have e1 : stC stPose = [.vl (.string nPose), .fz [flC flX, flC flTags]] := rfl
  have e2 : flC flMode = [.vl (.int .i64 1), .vl (.string (mk [109, 111, 100, 101])), .vl (.int .i64 7), .vl (.int .i64 0), .vl (.string nMode), .fz [], .vl (.bool false)] := rfl
  refine ⟨rfl, rfl, ?_⟩
  simp (maxSteps := 1000000) -dsimp only [go_sem]
  refine ⟨rfl, rfl, ?_⟩
  simp (maxSteps := 1000000) -dsimp only [go_sem, e1, e2]
  refine ⟨by omega, fun r hr => ?_⟩
  subst hr
  simp (maxSteps := 1000000) -dsimp only [go_sem]
  and_intros
  all_goals first
    | omega
    | skip
  intro r hr
  subst hr
  have e3 : stC stTag = [.vl (.string nTag), .fz [flC flMode]] := rfl
  have e4 : scC exS = [.vl (.int .i64 1), .fz [enC enMode], .fz [stC stTag, stC stPose]] := rfl
  have e5 : scC rdS = [.vl (.int .i64 1), .fz [enC enMode], .fz [stC stRound, stC stPose]] := rfl
  have e6 : stC stRound = [.vl (.string nTag), .fz [flC flRound]] := rfl
  have e7 : flC flRound = [.vl (.int .i64 1), .vl (.string (mk [109, 111, 100, 101])), .vl (.int .i64 6), .vl (.int .i64 0), .vl (.string nPose), .fz [], .vl (.bool false)] := rfl
  refine vc_head rfl (.pub 1 _ _ _ rfl (.shu 0 _ _ _ rfl ?_ (.pub 0 _ _ _ rfl (.opn 4 _ _ _ rfl (.nfr 4 _ _ _ rfl (.shu 4 _ _ _ rfl ?_ (.pub 4 _ _ _ rfl (.shu 3 _ _ _ rfl ?_ (.pub 3 _ _ _ rfl ?_)))))))))
  · simp [C.shut, C.pub]
  · simp [C.shut, C.nf]
  · simp [C.shut, C.pub]
  refine gh_tail (up := [(1, .va (.c1 (.pt 0 0))), (2, .va (.c1 (.pt 1 0)))]) (Hs := [.cells (scC exS) 25, .cells (scC rdS) 25]) [2, 5] ?_ (by simp) (by simp [pubH]) rfl ?_ ?_
  · have hs0 : fS exS.ss nTag = some stTag := ex_good.nd stTag (by simp [exS])
    have hs1 : hasS exS.ss nTag = true := by rw [← fS_has, hs0]; rfl
    have hf0 : fF stPose.fs 3 = some flTags := rfl
    have hsf := isScF_mk ex_fit
    have hrf := isScF_mk rd_fit
    have hsd := sc_dec exS
    have hrd := sc_dec rdS
    rw [e4] at hsf hsd
    rw [e5] at hrf hrd
    have l1 : (scC exS).length = 3 := rfl
    simp (maxSteps := 1000000) -dsimp only [go_sem, pc11_4, e4, e5]
    refine stp_use (s := exS) ex_fit ?_
    rw [hs0, hs1]
    simp (maxSteps := 1000000) -dsimp only [go_sem, Option.getD_some, e3]
    refine vc_tail (up := [(1, .va (.c1 (.pt 0 0))), (2, .va (.c1 (.pt 1 0))), (3, .va (.c1 (.pt 2 0))), (4, bS true)]) (Hs := [.cells (scC exS) 25, .cells (scC rdS) 25, .cells (stC stTag) 32]) 3 ?_ ?_ ?_
    · simp (maxSteps := 1000000) -dsimp only [go_sem, pc11_5, e4, e5, e3]
      refine ⟨⟨by omega, fun r hr => by subst hr; rfl⟩, fun r hr => ?_⟩
      subst hr
      simp (maxSteps := 1000000) -dsimp only [go_sem, e1]
      refine fop_use (t := stPose) (ex_fit.ok.ss stPose (by simp [exS])) (ex_fit.sm stPose (by simp [exS])).2 ?_
      rw [hf0]
      have e8 : flC flTags = [.vl (.int .i64 3), .vl (.string (mk [116, 97, 103, 115])), .vl (.int .i64 5), .vl (.int .i64 4), .vl (.string (mk [])), .fz [tyC tyTag], .vl (.bool false)] := rfl
      simp (maxSteps := 1000000) -dsimp only [go_sem, Option.getD_some, Option.isSome_some, e8]
      refine vc_tail (up := [(1, .va (.c1 (.pt 0 0))), (2, .va (.c1 (.pt 1 0))), (3, .va (.c1 (.pt 2 0))), (4, bS true), (5, .va (.c1 (.pt 3 0))), (6, bS true)]) (Hs := [.cells (scC exS) 25, .cells (scC rdS) 25, .cells (stC stTag) 32, .cells (flC flTags) 53]) 4 ?_ ?_ ?_
      · rw [e3] at hsf hsd
        have k1 : ((0 : Int) == 0) = true := rfl
        have k2 : ((19 : Int) == 19) = true := rfl
        have k3 : ((1 : Int) == 1) = true := rfl
        have k4 : ((3 : Int) == 3) = true := rfl
        have hb : isBs ([nMode, nTag].map stR) := isBs_mk (by simp)
        have hm : [nMode, nTag].map stR = [[.vl (.string nMode)], [.vl (.string nTag)]] := rfl
        rw [hm] at hb
        have hbs : [[C.vl (.string nMode)], [.vl (.string nTag)]].map C.bs = [nMode, nTag] := bs_map [nMode, nTag]
        simp (maxSteps := 1000000) -dsimp only [go_sem, pc11_6, e4, e5, e3, e8, hsf, hrf, hsd, hrd, ex_check, rd_check, k1, k2]
        refine usp_use (s := exS) (n := nPose) ex_fit ?_
        rw [ex_usL, hm]
        simp (maxSteps := 1000000) -dsimp only [go_sem, hb, hbs, ex_depTag, ex_depPose, k3, k4, Bool.and_true]
        rw [decide_true]
        exact .sel [] (by simp) (by simp) rfl (.done (by simpa [go_sem] using hK))
      · simp -dsimp only [go_sem] <;> simp
      · simp -dsimp only [go_sem, e1, e2, e3, e4, e5, e6, e7, e8] <;> simp
    · simp -dsimp only [go_sem] <;> simp
    · simp -dsimp only [go_sem, e1, e2, e3, e4, e5, e6, e7] <;> simp
  · simp -dsimp only [go_sem] <;> simp
  · simp -dsimp only [go_sem, pubH, e1, e2, e3, e4, e5, e6, e7] <;> simp
end Go.Proofs.Ytpfmkfafagiicaa
/- From Meets to a call in a world without own blocks; the row's after-state. -/
namespace Go.W
open Go.RowKit
/-- What stood before stands as it was. -/
structure Stay (w w' : World) : Prop where
  os : w'.os = w.os
  out : w'.output = w.output
  size : w.heap.size ≤ w'.heap.size
  keep : ∀ b : Nat, b < w.heap.size → w'.heap[b]? = w.heap[b]?
theorem Stay.kept {w w' : World} (h : Stay w w') (may : MemPlace → Prop) : w.keptBut w' may := by
  refine ⟨h.os, h.out, fun i hi => ?_⟩
  rw [h.keep i hi]
  split
  · rename_i h1 h2; rw [h1] at h2; cases h2; exact ⟨rfl, rfl, rfl, fun _ _ => rfl⟩
  · rename_i h1 h2; rw [h1] at h2; cases h2; exact Or.inr ⟨rfl, rfl⟩
  · rfl
theorem Stay.frozen {w w' : World} (h : Stay w w') {a : Addr} (ha : a.block < w.heap.size) : w'.frozen? a = w.frozen? a := by
  unfold World.frozen?; rw [h.keep _ ha]
theorem Stay.cell {w w' : World} (h : Stay w w') {a : Addr} (ha : a.block < w.heap.size) : w'.cell? a = w.cell? a := by
  unfold World.cell?; rw [h.keep _ ha]
theorem rel_nil {w : World} {ro : RO} (h : ∀ (b off : Nat) (v : Value), ro b off = some v → w.cell? ⟨b, off, none⟩ = some v) : Rel ⟨w, blks [], ro, gm []⟩ [] ro w where
  own := fun n g blk h => by simp at h
  inj := fun n m gn gm bn bm b h => by simp at h
  apart := fun b off v _ n g blk h => by simp at h
  rd := h
  ro0 := fun _ _ _ h => h
  rob := fun b off v h => .inl h
  par := fun n b g blk h => by simp at h
  gx := .refl _
  sz := Nat.le_refl _
  keep := fun b _ _ => rfl
  os := rfl
  tape := rfl
  output := rfl
/-- A function without own blocks, called. -/
theorem Meets.run {P : Program} {f : FuncId} {s : Fun} (hm : Meets P f s.sp) {av : List S} {vs : List Value} {ro : RO} {w : World} {x : A} (hpre : s.pre av) (hval : s.val av = x) (hl : av.length = vs.length)
    (hrel : ∀ (i : Nat) (x : S) (v : Value), av[i]? = some x → vs[i]? = some v → x.rel (gm []) ro v) (hro : ∀ (b off : Nat) (v : Value), ro b off = some v → w.cell? ⟨b, off, none⟩ = some v) :
    Calls P f vs.toArray w fun e w' => ∃ v γ ro', e = .returned v ∧ S.rel γ ro' (.va x) v ∧ Stay w w' := by
  subst hval
  refine (hm.2 av vs [] ro w (fun r H => r = .va (s.val av) ∧ H = []) hl hrel (rel_nil hro) ⟨⟨hpre, rfl⟩, rfl, rfl⟩).mono ?_
  rintro e w' ⟨r, v, E', ro', rfl, h1, ⟨rfl, h2⟩, h3⟩
  exact ⟨v, _, ro', rfl, h1, h3.os, h3.output, h3.sz, fun b hb => h3.keep b hb (by simp [blks])⟩
theorem Meets.yes {P : Program} {f : FuncId} {s : Fun} (hm : Meets P f s.sp) {av : List S} {vs : List Value} {ro : RO} {w : World} (hpre : s.pre av) (hval : s.val av = .c1 (.vl (.bool true))) (hl : av.length = vs.length)
    (hrel : ∀ (i : Nat) (x : S) (v : Value), av[i]? = some x → vs[i]? = some v → x.rel (gm []) ro v) (hro : ∀ (b off : Nat) (v : Value), ro b off = some v → w.cell? ⟨b, off, none⟩ = some v) :
    Calls P f vs.toArray w fun e w' => e = .returned (.bool true) ∧ Stay w w' := by
  refine (hm.run hpre hval hl hrel hro).mono ?_
  rintro e w' ⟨v, γ, ro', rfl, h1, h2⟩
  have : v = .bool true := h1
  exact ⟨by rw [this], h2⟩
section
variable {H : Type} {enc : TypeId × Value → H} {P : Program}
/-- The after-state of a call that changes nothing that stood before. -/
theorem post_of_stay {f : Func} {s : ChangeSpec} {apart fresh handsOn again : Bool} {W W' : World} {args : Array Value} {v : Value} {ds gs : List (DataW H)} {before pa pv : List MemPlace}
    (hW : DataW.Whole enc P f.params.toList s.vars apart W args.toList ds gs before)
    (hres : ∀ (b : Nat) (sp : Nat → Bool) (hd : Bool), DataW.TrodAll enc P W' b sp hd f.resultTypes.toList (v.resultList f.resultTypes.size) (s.fn H (ds ++ gs)).results [])
    (hargs : ∀ sp : Nat → Bool, (∀ p ∈ before, sp p.block = true) → DataW.TrodAll enc P W' 0 sp true f.params.toList args.toList (s.fn H (ds ++ gs)).args pa)
    (hvars : ∀ sp : Nat → Bool, (∀ p ∈ before, sp p.block = true) → DataW.TrodVars enc P W' sp s.vars (s.fn H (ds ++ gs)).vars pv)
    (hps : before = pa ++ pv) (hs : Stay W W')
    (hok : ∀ (j : Nat) (t : TypeId) (r : Value), f.resultTypes[j]? = some t → (v.resultList f.resultTypes.size)[j]? = some r → Value.okWide P W' .any 0 t r) :
    s.post enc P f apart fresh handsOn again W args v W' := by
  have hlt : ∀ p ∈ before, p.block < W.heap.size := fun p hp => hW.lt p hp
  have hsp : ∀ p ∈ before, (fun b => decide (b < W.heap.size)) p.block = true := fun p hp => by simpa using hlt p hp
  have hall : ∀ p ∈ before, (fun _ : Nat => true) p.block = true := fun _ _ => rfl
  obtain ⟨_, _, _, _, _, hz, hn⟩ := id hW
  refine ⟨ds, gs, before, [], pa, pv, hW, hres _ _ _, hargs _ hsp, hvars _ hsp, World.keptBut_mono (fun p hp => ⟨hp, .inr ?_⟩) (hs.kept (· ∈ before)), fun _ => ⟨hok, _, _, ([] ++ pa) ++ pv,
    ⟨[] ++ pa, pv, ChangeShapes.trodAll_append (hargs _ hall) (hres _ _ _), hvars _ hall, rfl, fun b off hp => ?_, fun ha => ?_⟩, fun p hp _ => ?_⟩⟩
  · rw [hps, List.mem_append] at hp; exact hp
  · have hb : MemPlace.cell b off ∈ before := by rw [hps]; simpa using hp
    rw [hs.frozen (hlt _ hb)]
    exact hz b off hb
  · have := hn ha
    rw [hps] at this
    simpa using this
  · rw [hps]
    simpa using hp
end
end Go.W
/- Arguments as frozen memory; what was handed over reads as before. -/
namespace Go.W
open Go.RowKit
/-- All that stands in memory, as frozen memory. -/
def roW (W : World) : RO := fun b off => W.cell? ⟨b, off, none⟩
theorem roW_ok (W : World) : ∀ (b off : Nat) (v : Value), roW W b off = some v → W.cell? ⟨b, off, none⟩ = some v := fun _ _ _ h => h
theorem fz_nil (ro : RO) : FzR ro [] (.slice none 0 0) :=
  FzR.mk [] 1 none none (fun h => absurd rfl h) 0 (fun _ => .bool true) (by simp) (by simp) (by simp) (by simp) (by simp) (by simp) (by simp)
/-- A slice of rows of plain cells that stands in memory. -/
theorem fz_rows {W : World} {b off len cap sz : Nat} (hsz : 0 < sz) (R : Nat → List Value) (hl : ∀ i, i < len → (R i).length = sz) (hc : len ≤ cap)
    (h : ∀ i, i < len → ∀ j, j < sz → W.cell? ⟨b, off + (i * sz + j), none⟩ = (R i)[j]?) :
    FzR (roW W) ((List.range len).map fun i => (R i).map C.vl) (.slice (some ⟨b, off, none⟩) len cap) := by
  let xs : List (List C) := (List.range len).map fun i => (R i).map C.vl
  have hz : ∀ x ∈ xs, x.length = sz := fun x hx => by
    obtain ⟨i, hi, rfl⟩ := List.mem_map.1 hx
    rw [List.length_map]; exact hl i (List.mem_range.1 hi)
  have hfl : ∀ k c, xs.flatten[k]? = some c → ∃ v, c = .vl v ∧ W.cell? ⟨b, off + k, none⟩ = some v := fun k c hk => by
    have hkl : k < len * sz := by
      have h1 := (List.getElem?_eq_some_iff.1 hk).1
      rw [flat_len _ hz] at h1
      simpa [xs] using h1
    have hi : k / sz < len := (Nat.div_lt_iff_lt_mul hsz).2 hkl
    have hj := Nat.mod_lt k hsz
    have hg := flat_get hz (i := k / sz) (j := k % sz) (by simpa [xs] using hi) hj
    rw [Nat.mul_comm, Nat.div_add_mod, hk] at hg
    have hxi : xs[k / sz]? = some ((R (k / sz)).map C.vl) := by simp [xs, hi]
    rw [hxi, Option.bind_some, List.getElem?_map] at hg
    obtain ⟨v, hv, hcv⟩ := Option.map_eq_some_iff.1 hg.symm
    have := h (k / sz) hi (k % sz) hj
    rw [Nat.mul_comm, Nat.div_add_mod, hv] at this
    exact ⟨v, hcv.symm, this⟩
  have hr := FzR.mk (ro := roW W) xs sz (some (b, off)) (roA (some (b, off)) 0) (fun _ => rfl) cap (fun k => (W.cell? ⟨b, off + k, none⟩).getD undef) hz (by simpa [xs] using hc) (fun _ => rfl)
    (fun k c hk => by
      obtain ⟨v, _, h2⟩ := hfl k c hk
      simp [roW, h2])
    (fun k v hk => by
      obtain ⟨u, h1, h2⟩ := hfl k _ hk
      cases h1
      simp [h2])
    (fun k ys hk => by obtain ⟨u, h1, _⟩ := hfl k _ hk; cases h1)
    (fun c hc => by
      obtain ⟨k, hk⟩ := List.mem_iff_getElem?.1 hc
      obtain ⟨u, rfl, _⟩ := hfl k c hk
      rfl)
  simpa [roA, xs] using hr
/-- A slice argument of plain rows: 'row': an element's cells; 'Q': what an element's reading says. -/
theorem open_rows {H : Type} {enc : TypeId × Value → H} {P : Program} {W : World} {t e : TypeId} {fuel sz : Nat} {v : Value} {x : DataW H × List MemPlace} {r : Reach} {b0 : Nat} {α : Type} (row : α → List Value) (Q : DataW H → α → Prop)
    (ht : P.underlying t = some (.slice e)) (hce : P.cellsOf e = sz) (hpos : 0 < sz)
    (hel : ∀ n cs y, DataW.trod enc P W 0 (fun _ => true) true n e cs = some y → ∃ a, cs = row a ∧ Q y.1 a)
    (hx : DataW.trod enc P W 0 (fun _ => true) true fuel t v.cells.toList = some x) (hval : Value.okWide P W r b0 t v) :
    (v = .slice none 0 0 ∧ x.1 = .nil) ∨ ∃ (xs : List α) (els spr : List (DataW H)), x.1 = .slice els spr ∧ FzR (roW W) (xs.map fun a => (row a).map C.vl) v ∧ xs.length = els.length ∧
      ∀ (i : Nat) (a : α), xs[i]? = some a → ∃ d, els[i]? = some d ∧ Q d a := by
  obtain ⟨oa, l, c, rfl⟩ := Go.WideShapes.okWide_slice ht hval
  have hcs : (Value.slice oa l c).cells.toList = [.slice oa l c] := rfl
  rw [hcs] at hx
  rcases Go.Deep.open_slice ht hx with ⟨h1, rfl⟩ | ⟨a, len, cap, m, n, D, Pl, h1, _, hl, hm, hmm, rfl, hi⟩
  · cases h1
    exact .inl ⟨rfl, rfl⟩
  · right
    cases h1
    have hsp : a.spot = none := by
      simp [Value.okWide, Cell.okWide, Cell.ok, World.has, ht] at hval
      exact hval.2.2.2.1
    obtain ⟨b, off, spot⟩ := a
    obtain rfl : spot = none := hsp
    have hlm : l ≤ m := by rw [hmm]; split <;> omega
    have hall : ∀ i, i < l → ∃ a : α, (∀ j, j < sz → W.cell? ⟨b, off + (i * sz + j), none⟩ = (row a)[j]?) ∧ (row a).length = sz ∧ Q (D i) a := fun i hil => by
      obtain ⟨cs', h2, h3⟩ := hi i (by omega)
      obtain ⟨a, rfl, hq⟩ := hel _ _ _ h3
      rw [hce] at h2
      obtain ⟨_, h4, h5⟩ := World.cells?_some h2
      refine ⟨a, fun j hj => ?_, h4, hq⟩
      rw [← h5 j hj, Go.WideShapes.add_plain, Go.WideShapes.add_plain, Nat.add_assoc]
    by_cases h0 : l = 0
    · subst h0
      exact ⟨[], [], _, rfl, fz_rows hpos (fun _ => []) (fun i hi => by omega) (Nat.zero_le _) (fun i hi => by omega), rfl, fun i a h => by simp at h⟩
    · obtain ⟨a0, _⟩ := hall 0 (by omega)
      haveI : Inhabited α := ⟨a0⟩
      obtain ⟨A, hA⟩ := Go.Deep.choose_lt (p := fun i (a : α) => (∀ j, j < sz → W.cell? ⟨b, off + (i * sz + j), none⟩ = (row a)[j]?) ∧ (row a).length = sz ∧ Q (D i) a) hall
      refine ⟨(List.range l).map A, (List.range l).map D, _, rfl, ?_, by simp, fun i a h => ?_⟩
      · rw [List.map_map]
        exact fz_rows hpos (fun i => row (A i)) (fun i hi => (hA i hi).2.1) hl (fun i hi => (hA i hi).1)
      · have hil := (List.getElem?_eq_some_iff.1 h).1
        rw [List.length_map, List.length_range] at hil
        rw [List.getElem?_map, List.getElem?_range hil] at h
        cases h
        exact ⟨D i, by rw [List.getElem?_map, List.getElem?_range hil]; rfl, (hA i hil).2.2⟩
/-- Every slice's elements take room. -/
def slicesRoom (P : Program) : Bool := (List.range P.types.size).all fun t => match P.underlying t with | some (.slice e) => decide (0 < P.cellsOf e) | _ => true
section
variable {H : Type} {enc : TypeId × Value → H} {P : Program}
theorem stay_same {W W' : World} (h : Stay W W') {p : MemPlace} (hp : p.block < W.heap.size) : W.sameAt W' p := by
  cases p with
  | cell b off => exact h.cell (a := ⟨b, off, none⟩) hp
  | map b => exact h.keep b hp
theorem trodAll_stay {W W' : World} {sp : Nat → Bool} (hl : laidOutB P = true) (hm : mapsRowed P = true) (hs : slicesRoom P = true) (hst : Stay W W') :
    ∀ {ts : List TypeId} {vs : List Value} {ds : List (DataW H)} {ps : List MemPlace}, (∀ t ∈ ts, t < P.types.size) → DataW.TrodAll enc P W 0 (fun _ => true) true ts vs ds ps → (∀ p ∈ ps, p.block < W.heap.size) → (∀ p ∈ ps, sp p.block = true) →
      DataW.TrodAll enc P W' 0 sp true ts vs ds ps
  | [], [], [], ps, _, h, _, _ => h
  | t :: ts, v :: vs, d :: ds, ps, ht, h, hb, hp => by
    obtain ⟨p, q, ⟨n, h1⟩, h2, rfl⟩ := h
    have hsz : ∀ {t e : TypeId}, t < P.types.size → P.underlying t = some (.slice e) → 0 < P.cellsOf e := fun {t e} ht hu => by
      have := List.all_eq_true.1 hs t (List.mem_range.2 ht)
      rw [hu] at this
      simpa using this
    exact ⟨p, q, ⟨n, DataW.trod_stays (T := (· < P.types.size)) (kids_rows hl hm) hsz (fun h => by cases h) (ht t (by simp)) h1 (fun x hx => stay_same hst (hb x (by simp [hx]))) (fun x hx => hp x (by simp [hx]))⟩,
      trodAll_stay hl hm hs hst (fun u hu => ht u (by simp [hu])) h2 (fun x hx => hb x (by simp [hx])) (fun x hx => hp x (by simp [hx])), rfl⟩
  | [], _ :: _, _, _, _, h, _, _ => h.elim
  | [], [], _ :: _, _, _, h, _, _ => h.elim
  | _ :: _, [], _, _, _, h, _, _ => h.elim
  | _ :: _, _ :: _, [], _, _, h, _, _ => h.elim
/-- A law's call that returns true and leaves what stood: the row's after-state. -/
theorem law_post {f : Func} {s : ChangeSpec} {apart fresh handsOn again : Bool} {W W' : World} {args : Array Value} {ds gs : List (DataW H)} {before : List MemPlace} {tb : TypeId}
    (hl : laidOutB P = true) (hm : mapsRowed P = true) (hsr : slicesRoom P = true) (hps : ∀ t ∈ f.params.toList, t < P.types.size) (hrt : f.resultTypes = #[tb]) (htb : P.underlying tb = some .bool)
    (hvars : s.vars = []) (hW : DataW.Whole enc P f.params.toList s.vars apart W args.toList ds gs before) (hfn : s.fn H (ds ++ gs) = { results := [.lit (.bool true)], args := ds, vars := [] }) (hst : Stay W W') :
    s.post enc P f apart fresh handsOn again W args (.bool true) W' := by
  have hlt : ∀ p ∈ before, p.block < W.heap.size := fun p hp => hW.lt p hp
  obtain ⟨p, q, hA, hV, hb, _, _⟩ := id hW
  have hq : q = [] := by
    rw [hvars] at hV
    cases gs with
    | nil => exact hV
    | cons g gs => exact hV.elim
  subst hq
  have hbp : before = p := by rw [hb]; simp
  refine post_of_stay (pa := p) (pv := []) hW (fun b sp hd => ?_) (fun sp hsp => ?_) (fun sp hsp => ?_) hb hst ?_
  · rw [hrt, hfn]
    exact ⟨[], [], ⟨1, by simp [DataW.trod, Value.cells, htb]⟩, rfl, rfl⟩
  · rw [hfn]
    rw [hbp] at hlt hsp
    exact trodAll_stay hl hm hsr hst hps hA hlt hsp
  · rw [hfn, hvars]; rfl
  · intro j t r h1 h2
    rw [hrt] at h1 h2
    match j with
    | 0 =>
      cases h1
      cases h2
      simp [Value.okWide, Cell.okWide, Cell.ok, htb]
    | j + 1 => cases h1
end
end Go.W
/- The W library, part 26: arguments of any type made of numbers, booleans, strings, slices and structs, as frozen memory. -/
namespace Go.W
open Go.RowKit
/-- Cells that are a value of a type. -/
inductive Fit (P : Program) : TypeId → List C → Prop
  | int {t : TypeId} {k : IntKind} {n : Int} : P.underlying t = some (.int k) → (Lit.int k n).wf = true → Fit P t [.vl (.int k n)]
  | bool {t : TypeId} {b : Bool} : P.underlying t = some .bool → Fit P t [.vl (.bool b)]
  | str {t : TypeId} {s : ByteArray} : P.underlying t = some .string → s.size ≤ maxLen → Fit P t [.vl (.string s)]
  | sl {t e : TypeId} {xs : List (List C)} : P.underlying t = some (.slice e) → xs.length ≤ maxLen → (∀ r ∈ xs, Fit P e r) → Fit P t [.fz xs]
  | st {t : TypeId} {fs : Array Field} {parts : List (List C)} : P.underlying t = some (.struct fs) → parts.length = fs.size → (∀ (i : Nat) (f : Field) (p : List C), fs[i]? = some f → parts[i]? = some p → Fit P f.type p) → Fit P t parts.flatten
section
variable {P : Program} {t e : TypeId} {xs : List C}
theorem Fit.inv_int {k : IntKind} (ht : P.underlying t = some (.int k)) (h : Fit P t xs) : ∃ n : Int, xs = [.vl (.int k n)] ∧ (Lit.int k n).wf = true := by
  cases h with
  | int h1 h2 => rw [ht] at h1; cases h1; exact ⟨_, rfl, h2⟩
  | bool h1 => rw [ht] at h1; cases h1
  | str h1 => rw [ht] at h1; cases h1
  | sl h1 => rw [ht] at h1; cases h1
  | st h1 => rw [ht] at h1; cases h1
theorem Fit.inv_bool (ht : P.underlying t = some .bool) (h : Fit P t xs) : ∃ b : Bool, xs = [.vl (.bool b)] := by
  cases h with
  | int h1 h2 => rw [ht] at h1; cases h1
  | bool h1 => exact ⟨_, rfl⟩
  | str h1 => rw [ht] at h1; cases h1
  | sl h1 => rw [ht] at h1; cases h1
  | st h1 => rw [ht] at h1; cases h1
theorem Fit.inv_str (ht : P.underlying t = some .string) (h : Fit P t xs) : ∃ s : ByteArray, xs = [.vl (.string s)] ∧ s.size ≤ maxLen := by
  cases h with
  | int h1 h2 => rw [ht] at h1; cases h1
  | bool h1 => rw [ht] at h1; cases h1
  | str h1 h2 => exact ⟨_, rfl, h2⟩
  | sl h1 => rw [ht] at h1; cases h1
  | st h1 => rw [ht] at h1; cases h1
theorem Fit.inv_sl (ht : P.underlying t = some (.slice e)) (h : Fit P t xs) : ∃ ys : List (List C), xs = [.fz ys] ∧ ys.length ≤ maxLen ∧ ∀ r ∈ ys, Fit P e r := by
  cases h with
  | int h1 h2 => rw [ht] at h1; cases h1
  | bool h1 => rw [ht] at h1; cases h1
  | str h1 => rw [ht] at h1; cases h1
  | sl h1 h2 h3 => rw [ht] at h1; cases h1; exact ⟨_, rfl, h2, h3⟩
  | st h1 => rw [ht] at h1; cases h1
theorem Fit.inv_st {fs : Array Field} (ht : P.underlying t = some (.struct fs)) (h : Fit P t xs) : ∃ parts : List (List C), xs = parts.flatten ∧ parts.length = fs.size ∧ ∀ (i : Nat) (f : Field) (p : List C), fs[i]? = some f → parts[i]? = some p → Fit P f.type p := by
  cases h with
  | int h1 h2 => rw [ht] at h1; cases h1
  | bool h1 => rw [ht] at h1; cases h1
  | str h1 => rw [ht] at h1; cases h1
  | sl h1 => rw [ht] at h1; cases h1
  | st h1 h2 h3 => rw [ht] at h1; cases h1; exact ⟨_, rfl, h2, h3⟩
end
/-- A slice of elements that are Fit. -/
theorem Fit.rows {P : Program} {e : TypeId} {α : Type} {row : α → List C} {Q : α → Prop} {ys : List (List C)} (hi : ∀ r, Fit P e r → ∃ a, r = row a ∧ Q a) (h : ∀ r ∈ ys, Fit P e r) : ∃ l : List α, ys = l.map row ∧ ∀ a ∈ l, Q a := by
  induction ys with
  | nil => exact ⟨[], rfl, fun a h => by cases h⟩
  | cons r ys ih =>
    obtain ⟨l, h1, h2⟩ := ih fun r hr => h r (List.mem_cons_of_mem _ hr)
    obtain ⟨a, h3, h4⟩ := hi r (h r (by simp))
    refine ⟨a :: l, by rw [h1, h3]; rfl, fun x hx => ?_⟩
    rcases List.mem_cons.1 hx with rfl | hx
    · exact h4
    · exact h2 x hx
def offs (P : Program) : Nat → List Field → Option Nat
  | o, [] => some o
  | o, f :: r => if f.offset = o then offs P (o + P.cellsOf f.type) r else none
/-- Types made of numbers, booleans, strings, slices and structs, all of them in the list. -/
def tysOk (P : Program) (ts : List TypeId) : Bool := ts.all fun t => match P.underlying t with
  | some (.int _) | some .bool | some .string => true
  | some (.slice e) => ts.contains e && decide (0 < P.cellsOf e)
  | some (.struct fs) => fs.toList.all (fun f => ts.contains f.type) && offs P 0 fs.toList == some (P.cellsOf t)
  | _ => false
theorem glue {P : Program} {R : C → Value → Prop} {Q : Field → List C → Prop} {cs : List Value} : ∀ (fs : List Field) (o : Nat), offs P o fs = some cs.length →
    (∀ (i : Nat) (f : Field), fs[i]? = some f → ∃ p, Q f p ∧ All2 R p ((cs.drop f.offset).take (P.cellsOf f.type))) →
    ∃ parts : List (List C), parts.length = fs.length ∧ (∀ (i : Nat) (f : Field) (p : List C), fs[i]? = some f → parts[i]? = some p → Q f p) ∧ All2 R parts.flatten (cs.drop o)
  | [], o, ho, _ => by
    simp only [offs, Option.some.injEq] at ho
    subst ho
    exact ⟨[], rfl, fun i f p h => by simp at h, by simpa using All2.nil⟩
  | f :: fs, o, ho, h => by
    simp only [offs] at ho
    split at ho
    · rename_i hf
      obtain ⟨parts, h1, h2, h3⟩ := glue fs _ ho fun i f hf => h (i + 1) f (by simpa using hf)
      obtain ⟨p, h4, h5⟩ := h 0 f rfl
      refine ⟨p :: parts, by simp [h1], fun i g q hg hq => ?_, ?_⟩
      · cases i with
        | zero => simp at hg hq; subst hg hq; exact h4
        | succ i => exact h2 i g q (by simpa using hg) (by simpa using hq)
      · have : cs.drop o = (cs.drop f.offset).take (P.cellsOf f.type) ++ cs.drop (o + P.cellsOf f.type) := by
          rw [hf, ← List.drop_drop, List.take_append_drop]
        rw [List.flatten_cons, this]
        exact h5.app h3
    · cases ho
section
variable {H : Type} {enc : TypeId × Value → H} {P : Program} {W : World} {ts : List TypeId}
theorem fz_any {b off len cap sz : Nat} {oa : Option Addr} (hoa : len ≠ 0 → oa = some ⟨b, off, none⟩) (hsz : 0 < sz) (X : Nat → List C) (hl : ∀ i, i < len → (X i).length = sz) (hc : len ≤ cap)
    (h : ∀ i, i < len → ∀ j c, (X i)[j]? = some c → ∃ v, W.cell? ⟨b, off + (i * sz + j), none⟩ = some v ∧ c.fv (roW W) v ∧ c.shut = true) :
    FzR (roW W) ((List.range len).map X) (.slice oa len cap) := by
  have hz : ∀ x ∈ (List.range len).map X, x.length = sz := fun x hx => by
    obtain ⟨i, hi, rfl⟩ := List.mem_map.1 hx
    exact hl i (List.mem_range.1 hi)
  have hfl : ∀ k c, ((List.range len).map X).flatten[k]? = some c → ∃ v, W.cell? ⟨b, off + k, none⟩ = some v ∧ c.fv (roW W) v ∧ c.shut = true := fun k c hk => by
    have hkl : k < len * sz := by
      have h1 := (List.getElem?_eq_some_iff.1 hk).1
      rw [flat_len _ hz] at h1
      simpa using h1
    have hi : k / sz < len := (Nat.div_lt_iff_lt_mul hsz).2 hkl
    have hj := Nat.mod_lt k hsz
    have hg := flat_get hz (i := k / sz) (j := k % sz) (by simpa using hi) hj
    rw [Nat.mul_comm, Nat.div_add_mod, hk] at hg
    have hxi : ((List.range len).map X)[k / sz]? = some (X (k / sz)) := by simp [hi]
    rw [hxi, Option.bind_some] at hg
    have := h (k / sz) hi (k % sz) c hg.symm
    rwa [Nat.mul_comm, Nat.div_add_mod] at this
  have hr := FzR.mk (ro := roW W) ((List.range len).map X) sz (some (b, off)) oa (fun hne => hoa (fun e => by subst e; simp at hne)) cap (fun k => (W.cell? ⟨b, off + k, none⟩).getD undef) hz (by simpa using hc) (fun _ => rfl)
    (fun k c hk => by
      obtain ⟨v, h2, _⟩ := hfl k c hk
      simp [roW, h2])
    (fun k v hk => by
      obtain ⟨u, h1, h2, _⟩ := hfl k _ hk
      have : u = v := h2
      simp [h1, this])
    (fun k ys hk => by
      obtain ⟨u, h1, h2, _⟩ := hfl k _ hk
      have : FzR (roW W) ys u := h2
      simpa [h1] using this)
    (fun c hc => by
      obtain ⟨k, hk⟩ := List.mem_iff_getElem?.1 hc
      obtain ⟨u, _, _, h3⟩ := hfl k c hk
      exact h3)
  simpa using hr
theorem fit_of_trod (hok : tysOk P ts = true) : ∀ (n : Nat) (t : TypeId) (cs : List Value) (y : DataW H × List MemPlace), t ∈ ts → DataW.trod enc P W 0 (fun _ => true) true n t cs = some y →
    ∃ xs, Fit P t xs ∧ All2 (C.fv (roW W)) xs cs ∧ ∀ c ∈ xs, c.shut = true
  | 0, t, cs, y, _, h => by simp [DataW.trod] at h
  | n + 1, t, cs, y, ht, h => by
    have h1 := List.all_eq_true.1 hok t ht
    split at h1
    · rename_i k hu
      obtain ⟨m, rfl, _, hw⟩ := DataW.trod_int hu h
      exact ⟨_, .int hu hw, .cons rfl .nil, fun c hc => by simp at hc; subst hc; rfl⟩
    · rename_i hu
      obtain ⟨b, rfl, _⟩ := DataW.trod_bool hu h
      exact ⟨_, .bool hu, .cons rfl .nil, fun c hc => by simp at hc; subst hc; rfl⟩
    · rename_i hu
      obtain ⟨s, rfl, _, hs⟩ := DataW.trod_string hu h
      exact ⟨_, .str hu hs, .cons rfl .nil, fun c hc => by simp at hc; subst hc; rfl⟩
    · rename_i e hu
      simp only [Bool.and_eq_true, List.contains_iff_mem, decide_eq_true_eq] at h1
      obtain ⟨he, hpos⟩ := h1
      rcases DataW.trod_slice hu h with ⟨rfl, _⟩ | ⟨a, len, cap, elems, rest, n', hn', rfl, _, _, hl, hm, hel, hi, _⟩
      · exact ⟨_, .sl hu (Nat.zero_le _) (fun r hr => by cases hr), .cons (fz_nil _) .nil, fun c hc => by simp at hc; subst hc; rfl⟩
      · obtain rfl : n = n' := by omega
        have hall : ∀ i, i < len → ∃ x : List C, Fit P e x ∧ x.length = P.cellsOf e ∧ (∀ j c, x[j]? = some c → ∃ v, W.cell? ((a.add (i * P.cellsOf e)).add j) = some v ∧ c.fv (roW W) v ∧ c.shut = true) := fun i hil => by
          have h1 := hi i hil
          rw [List.getElem?_eq_getElem (by omega)] at h1
          obtain ⟨cs', h2, h3⟩ := Option.bind_eq_some_iff.1 h1
          obtain ⟨x, h4, h5, h6⟩ := fit_of_trod hok n e cs' _ he h3
          obtain ⟨_, h7, h8⟩ := World.cells?_some h2
          refine ⟨x, h4, h5.1.trans h7, fun j c hj => ?_⟩
          obtain ⟨v, h9, h10⟩ := h5.get hj
          have hjl : j < P.cellsOf e := by rw [← h7, ← h5.1]; exact (List.getElem?_eq_some_iff.1 hj).1
          refine ⟨v, ?_, h10, h6 c (List.mem_of_getElem? hj)⟩
          have := h8 j hjl
          rwa [h9] at this
        by_cases h0 : len = 0
        · subst h0
          refine ⟨[.fz []], .sl hu (Nat.zero_le _) (fun r hr => by cases hr), .cons ?_ .nil, fun c hc => by simp at hc; subst hc; rfl⟩
          exact fz_any (b := 0) (off := 0) (fun h => absurd rfl h) hpos (fun _ => []) (fun i hi => by omega) (Nat.zero_le _) (fun i hi => by omega)
        · obtain ⟨x0, _, hx0l, hx0⟩ := hall 0 (by omega)
          have hsp : a.spot = none := by
            have hx : ∃ c, x0[0]? = some c := ⟨_, List.getElem?_eq_getElem (by omega)⟩
            obtain ⟨c, hc⟩ := hx
            obtain ⟨v, hv, _⟩ := hx0 0 c hc
            unfold World.cell? at hv
            split at hv
            · split at hv
              · cases hv
              · rename_i hs; simpa [Addr.add] using hs
            · cases hv
          obtain ⟨b, off, spot⟩ := a
          obtain rfl : spot = none := hsp
          haveI : Inhabited (List C) := ⟨[]⟩
          obtain ⟨X, hX⟩ := Go.Deep.choose_lt hall
          refine ⟨[.fz ((List.range len).map X)], .sl hu (by simp; omega) (fun r hr => ?_), .cons ?_ .nil, fun c hc => by simp at hc; subst hc; rfl⟩
          · obtain ⟨i, hi, rfl⟩ := List.mem_map.1 hr
            exact (hX i (List.mem_range.1 hi)).1
          · exact fz_any (fun _ => rfl) hpos X (fun i hi => (hX i hi).2.1) hl (fun i hi j c hj => by
              obtain ⟨v, h2, h3⟩ := (hX i hi).2.2 j c hj
              exact ⟨v, by simpa [Go.WideShapes.add_plain, Nat.add_assoc] using h2, h3⟩)
    · rename_i fs hu
      simp only [Bool.and_eq_true, List.all_eq_true, List.contains_iff_mem, beq_iff_eq] at h1
      obtain ⟨hft, hof⟩ := h1
      obtain ⟨ys, n', hn, _, hcl, hyl, hf⟩ := DataW.trod_struct hu h
      obtain rfl : n = n' := by omega
      obtain ⟨parts, k1, k2, k3⟩ := glue (P := P) (R := fun c v => C.fv (roW W) c v ∧ c.shut = true) (Q := fun f p => Fit P f.type p) (cs := cs) fs.toList 0 (by rw [hcl]; exact hof) (fun i f hfi => by
        have hfi' : fs[i]? = some f := by simpa using hfi
        have h2 := hf i f hfi'
        have hil : i < fs.size := (Array.getElem?_eq_some_iff.1 hfi').1
        rw [List.getElem?_eq_getElem (by omega)] at h2
        obtain ⟨x, h4, h5, h6⟩ := fit_of_trod hok n f.type _ _ (hft f (List.mem_of_getElem? hfi)) h2
        exact ⟨x, h4, ⟨h5.1, fun j c v hc hv => ⟨h5.2 j c v hc hv, h6 c (List.mem_of_getElem? hc)⟩⟩⟩)
      refine ⟨parts.flatten, .st hu (by simpa using k1) (fun i f p hfi hp => k2 i f p (by simpa using hfi) hp), ?_, fun c hc => ?_⟩
      · simpa using k3.imp (fun _ _ h => h.1)
      · obtain ⟨j, hj⟩ := List.mem_iff_getElem?.1 hc
        obtain ⟨v, _, _, h3⟩ := k3.get hj
        exact h3
    · cases h1
/-- An argument, as frozen memory. -/
theorem fit_of_arg (hok : tysOk P ts = true) {t : TypeId} {v : Value} {d : DataW H} {ps : List MemPlace} (ht : t ∈ ts) (h : DataW.Trod enc P W 0 (fun _ => true) true t v d ps) : ∃ xs, Fit P t xs ∧ All2 (C.fv (roW W)) xs v.cells.toList ∧ ∀ c ∈ xs, c.shut = true := by
  obtain ⟨n, h⟩ := h
  exact fit_of_trod hok n t _ _ ht h
theorem arg_c1 {c : C} {v : Value} (h : All2 (C.fv (roW W)) [c] v.cells.toList) (hv : v.cells.toList = [v]) (hs : c.shut = true) : (S.va (.c1 c)).rel (gm []) (roW W) v := by
  rw [hv] at h
  exact (C.rel_shut hs).2 (h.2 0 c v rfl rfl)
theorem arg_gs {cs : List C} {vs : Array Value} (h : All2 (C.fv (roW W)) cs (Value.agg vs).cells.toList) (hs : ∀ c ∈ cs, c.shut = true) : (S.va (.gs cs)).rel (gm []) (roW W) (.agg vs) :=
  ⟨vs.toList, by simp, ⟨by simpa [Value.cells] using h.1, fun i c v hc hv => (C.rel_shut (hs c (List.mem_of_getElem? hc))).2 (h.2 i c v hc (by simpa [Value.cells] using hv))⟩⟩
end
end Go.W
/- Schemas as arguments. -/
namespace Go.Proofs.Ytpfmkfafagiicaa
open Go.W
theorem v3 : Try.prog.underlying 3 = some (.int .i64) := by kernel_rfl
theorem v4 : Try.prog.underlying 4 = some .bool := by kernel_rfl
theorem v9 : Try.prog.underlying 9 = some .string := by kernel_rfl
theorem v22 : Try.prog.underlying 22 = some (.slice 47) := by kernel_rfl
theorem v23 : Try.prog.underlying 23 = some (.slice 32) := by kernel_rfl
theorem v30 : Try.prog.underlying 30 = some (.slice 53) := by kernel_rfl
theorem v35 : Try.prog.underlying 35 = some (.slice 9) := by kernel_rfl
theorem v38 : Try.prog.underlying 38 = some (.slice 40) := by kernel_rfl
theorem v45 : Try.prog.underlying 45 = some (.slice 3) := by kernel_rfl
theorem v40 : Try.prog.underlying 40 = some (.struct #[⟨"Kind", 3, 0, false, "", "", 0⟩, ⟨"Size", 3, 1, false, "", "", 8⟩, ⟨"Name", 9, 2, false, "", "", 16⟩, ⟨"Elem", 38, 3, false, "", "", 32⟩]) := by kernel_rfl
theorem v53 : Try.prog.underlying 53 = some (.struct #[⟨"Number", 3, 0, false, "", "", 0⟩, ⟨"Name", 9, 1, false, "", "", 8⟩, ⟨"Type", 40, 2, false, "", "", 24⟩, ⟨"Optional", 4, 6, false, "", "", 80⟩]) := by kernel_rfl
theorem v32 : Try.prog.underlying 32 = some (.struct #[⟨"Name", 9, 0, false, "", "", 0⟩, ⟨"Fields", 30, 1, false, "", "", 16⟩]) := by kernel_rfl
theorem v47 : Try.prog.underlying 47 = some (.struct #[⟨"Name", 9, 0, false, "", "", 0⟩, ⟨"Names", 35, 1, false, "", "", 16⟩, ⟨"Numbers", 45, 2, false, "", "", 40⟩]) := by kernel_rfl
theorem v25 : Try.prog.underlying 25 = some (.struct #[⟨"Version", 3, 0, false, "", "", 0⟩, ⟨"Enums", 22, 1, false, "", "", 8⟩, ⟨"Structs", 23, 2, false, "", "", 32⟩]) := by kernel_rfl
theorem rows_of {α : Type} {row : α → List C} {Q : α → Prop} {ys : List (List C)} (h : ∀ r ∈ ys, ∃ a, r = row a ∧ Q a) : ∃ l : List α, ys = l.map row ∧ ∀ a ∈ l, Q a := by
  induction ys with
  | nil => exact ⟨[], rfl, fun a h => by cases h⟩
  | cons r ys ih =>
    obtain ⟨l, h1, h2⟩ := ih fun r hr => h r (List.mem_cons_of_mem _ hr)
    obtain ⟨a, h3, h4⟩ := h r List.mem_cons_self
    refine ⟨a :: l, by rw [h1, h3]; rfl, fun x hx => ?_⟩
    rcases List.mem_cons.1 hx with rfl | hx
    · exact h4
    · exact h2 x hx
theorem wf64 {n : Int} (h : (Lit.int .i64 n).wf = true) : in64 n := by simpa [in64, Lit.wf, IntKind.min, IntKind.max, IntKind.signed, IntKind.bits] using h
theorem mx47 {n : Nat} (h : n ≤ maxLen) : n ≤ 9223372036854775807 := by unfold maxLen at h; exact h
theorem fitT : ∀ {t : TypeId} {cs : List C}, Fit Try.prog t cs → (t = 40 → ∃ a, cs = tyC a ∧ TyOk a) ∧ (t = 38 → ∃ l : List Ty, cs = [.fz (l.map tyC)] ∧ l.length ≤ 9223372036854775807 ∧ ∀ a ∈ l, TyOk a) := by
  intro t cs h
  induction h with
  | int h1 _ => exact ⟨fun e => (by rw [e, v40] at h1; cases h1), fun e => (by rw [e, v38] at h1; cases h1)⟩
  | bool h1 => exact ⟨fun e => (by rw [e, v40] at h1; cases h1), fun e => (by rw [e, v38] at h1; cases h1)⟩
  | str h1 _ => exact ⟨fun e => (by rw [e, v40] at h1; cases h1), fun e => (by rw [e, v38] at h1; cases h1)⟩
  | @sl t e xs h1 h2 h3 ih =>
    refine ⟨fun e => (by rw [e, v40] at h1; cases h1), fun e => ?_⟩
    subst e
    rw [v38] at h1
    cases h1
    obtain ⟨l, rfl, hl⟩ := rows_of (row := tyC) (Q := TyOk) fun r hr => (ih r hr).1 rfl
    exact ⟨l, rfl, by have := mx47 h2; simpa using this, hl⟩
  | @st t fs parts h1 h2 h3 ih =>
    refine ⟨fun e => ?_, fun e => (by rw [e, v38] at h1; cases h1)⟩
    subst e
    rw [v40] at h1
    cases h1
    match parts, h2 with
    | [p0, p1, p2, p3], _ =>
      obtain ⟨k, rfl, hk⟩ := Fit.inv_int v3 (h3 0 _ p0 rfl rfl)
      obtain ⟨s, rfl, hs⟩ := Fit.inv_int v3 (h3 1 _ p1 rfl rfl)
      obtain ⟨n, rfl, hn⟩ := Fit.inv_str v9 (h3 2 _ p2 rfl rfl)
      obtain ⟨l, rfl, hl, ho⟩ := (ih 3 _ p3 rfl rfl).2 rfl
      exact ⟨.mk k s n l, by rw [tyC, tysC_map]; rfl, .mk (wf64 hk) (wf64 hs) (mx47 hn) hl ho⟩
theorem fitTy {cs : List C} (h : Fit Try.prog 40 cs) : ∃ a, cs = tyC a ∧ TyOk a := (fitT h).1 rfl
theorem fitFl {cs : List C} (h : Fit Try.prog 53 cs) : ∃ a : Fl, cs = flC a ∧ a.ok := by
  obtain ⟨parts, rfl, h2, h3⟩ := Fit.inv_st v53 h
  match parts, h2 with
  | [p0, p1, p2, p3], _ =>
    obtain ⟨k, rfl, hk⟩ := Fit.inv_int v3 (h3 0 _ p0 rfl rfl)
    obtain ⟨n, rfl, hn⟩ := Fit.inv_str v9 (h3 1 _ p1 rfl rfl)
    obtain ⟨t, rfl, ht⟩ := fitTy (h3 2 _ p2 rfl rfl)
    obtain ⟨b, rfl⟩ := Fit.inv_bool v4 (h3 3 _ p3 rfl rfl)
    exact ⟨⟨k, n, t, b⟩, by rw [tyC_eq]; rfl, wf64 hk, mx47 hn, ht⟩
theorem fitSt {cs : List C} (h : Fit Try.prog 32 cs) : ∃ a : St, cs = stC a ∧ a.ok := by
  obtain ⟨parts, rfl, h2, h3⟩ := Fit.inv_st v32 h
  match parts, h2 with
  | [p0, p1], _ =>
    obtain ⟨n, rfl, hn⟩ := Fit.inv_str v9 (h3 0 _ p0 rfl rfl)
    obtain ⟨ys, rfl, hl, hy⟩ := Fit.inv_sl v30 (h3 1 _ p1 rfl rfl)
    obtain ⟨l, rfl, ho⟩ := rows_of (row := flC) (Q := Fl.ok) fun r hr => fitFl (hy r hr)
    exact ⟨⟨n, l⟩, rfl, mx47 hn, by have := mx47 hl; simpa using this, ho⟩
theorem fitEn {cs : List C} (h : Fit Try.prog 47 cs) : ∃ a : En, cs = enC a ∧ a.ok := by
  obtain ⟨parts, rfl, h2, h3⟩ := Fit.inv_st v47 h
  match parts, h2 with
  | [p0, p1, p2], _ =>
    obtain ⟨n, rfl, hn⟩ := Fit.inv_str v9 (h3 0 _ p0 rfl rfl)
    obtain ⟨ys, rfl, hl, hy⟩ := Fit.inv_sl v35 (h3 1 _ p1 rfl rfl)
    obtain ⟨zs, rfl, hl2, hz⟩ := Fit.inv_sl v45 (h3 2 _ p2 rfl rfl)
    obtain ⟨l, rfl, ho⟩ := rows_of (row := stR) (Q := fun b => b.size ≤ 9223372036854775807) fun r hr => by
      obtain ⟨s, rfl, hs⟩ := Fit.inv_str v9 (hy r hr); exact ⟨s, rfl, mx47 hs⟩
    obtain ⟨m, rfl, hm⟩ := rows_of (row := inR) (Q := in64) fun r hr => by
      obtain ⟨s, rfl, hs⟩ := Fit.inv_int v3 (hz r hr); exact ⟨s, rfl, wf64 hs⟩
    exact ⟨⟨n, l, m⟩, rfl, mx47 hn, by have := mx47 hl; simpa using this, by have := mx47 hl2; simpa using this, ho, hm⟩
theorem fitSc (cs : List C) (h : Fit Try.prog 25 cs) : ∃ a : Sc, cs = scC a ∧ a.ok := by
  obtain ⟨parts, rfl, h2, h3⟩ := Fit.inv_st v25 h
  match parts, h2 with
  | [p0, p1, p2], _ =>
    obtain ⟨n, rfl, hn⟩ := Fit.inv_int v3 (h3 0 _ p0 rfl rfl)
    obtain ⟨ys, rfl, hl, hy⟩ := Fit.inv_sl v22 (h3 1 _ p1 rfl rfl)
    obtain ⟨zs, rfl, hl2, hz⟩ := Fit.inv_sl v23 (h3 2 _ p2 rfl rfl)
    obtain ⟨l, rfl, ho⟩ := rows_of (row := enC) (Q := En.ok) fun r hr => fitEn (hy r hr)
    obtain ⟨m, rfl, hm⟩ := rows_of (row := stC) (Q := St.ok) fun r hr => fitSt (hz r hr)
    exact ⟨⟨n, l, m⟩, rfl, wf64 hn, by have := mx47 hl; simpa using this, by have := mx47 hl2; simpa using this, ho, hm⟩
theorem fitTy' (cs : List C) (h : Fit Try.prog 40 cs) : ∃ a, cs = tyC a ∧ TyOk a := fitTy h
end Go.Proofs.Ytpfmkfafagiicaa
/- SchemaChecks, SchemaSame. -/
namespace Go.Proofs.Ytpfmkfafagiicaa
open Go.W
noncomputable def lawFn : Fun := gFn isSc C.sc fun _ => .bool true
attribute [go_sem] lawFn
theorem okT : (true && true) = true := rfl
set_option maxRecDepth 100000 in
theorem mLawChecks : Meets Try.prog 3 lawFn.sp := by
  refine meets_fn Try.func3 ok3 1 (by rw [Try.ntmps3]; decide) (meetsAll_f mFew (meetsAll_f mAwake (meetsAll_f mCheck (meetsAll_f mRCheck (meetsAll_nil _))))) gFn_len ?_
  rintro av H K ⟨⟨h, rfl⟩, hK⟩
  obtain ⟨_, rfl, s, rfl, hs⟩ := gPre_open h
  have hK : K (bS true) [] := hK
  clear h
  have fin : ∀ R : Hp, W.Fin 0 K (bS true) R := fun R => .sel [] (by simp) (by simp) rfl (.done (by simpa [go_sem] using hK))
  have hsc : isSc (scC s) := isSc_mk hs
  have hdec : C.sc [.vl (.int .i64 s.ver), .fz (s.es.map enC), .fz (s.ss.map stC)] = s := sc_dec s
  rw [scC] at hsc
  cases hf : fewS s with
  | false =>
    simp (maxSteps := 1000000) -dsimp only [go_sem, scC, pc3, rs3, hsc, hdec, hf]
    exact fin _
  | true =>
    have hsf := isScF_mk (few_fit hs hf)
    rw [scC] at hsf
    have he : (checkF s == checkF s) = true := by simp
    simp (maxSteps := 1000000) -dsimp only [go_sem, scC, pc3, rs3, hsc, hdec, hf, hsf, he]
    exact fin _
end Go.Proofs.Ytpfmkfafagiicaa
/- SchemaNests. -/
namespace Go.Proofs.Ytpfmkfafagiicaa
open Go.W
noncomputable def lawFnN : Fun := snFn isSc C.sc (fun _ _ => bA true) (fun _ _ => trivial)
attribute [go_sem] lawFnN
theorem usL_len {s : Sc} (h : s.fit) (n : ByteArray) : (usL s n).length ≤ 32 := by
  unfold usL
  cases hok : okS s n with
  | false => exact Nat.zero_le _
  | true =>
    have := (check_good h (okS_true hok).1).1.vlen n
    rw [Bool.cond_true, usesF_len]; exact this
theorem usL_bs {s : Sc} (h : s.fit) (n : ByteArray) : isBs ((usL s n).map stR) := isBs_mk (by have := usL_len h n; omega)
set_option maxRecDepth 100000 in
set_option maxHeartbeats 4000000 in
theorem mLawNests : Meets Try.prog 4 lawFnN.sp := by
  refine meets_fn Try.func4 ok4 2 (by rw [Try.ntmps4]; decide) (meetsAll_f mFew (meetsAll_f mAwake (meetsAll_f mDepthP (meetsAll_f mRDepth (meetsAll_s mUsesP (meetsAll_s mRUses (meetsAll_f mNames (meetsAll_nil _)))))))) snFn_len ?_
  rintro av H K ⟨⟨h, rfl⟩, hK⟩
  obtain ⟨_, n, rfl, s, rfl, hs⟩ := snPre_open h
  have hK : K (bS true) [] := hK
  clear h
  have fin : ∀ R : Hp, W.Fin 0 K (bS true) R := fun R => .sel [] (by simp) (by simp) rfl (.done (by simpa [go_sem] using hK))
  have hsc : isSc (scC s) := isSc_mk hs
  have hdec : C.sc [.vl (.int .i64 s.ver), .fz (s.es.map enC), .fz (s.ss.map stC)] = s := sc_dec s
  rw [scC] at hsc
  cases hf : fewS s with
  | false =>
    simp (maxSteps := 1000000) -dsimp only [go_sem, scC, pc4, rs4, hsc, hdec, hf]
    exact fin _
  | true =>
    have hfit := few_fit hs hf
    have hls := hfit.ok.ls
    have hsf := isScF_mk hfit
    rw [scC] at hsf
    have d1 : ∀ x, (dpF s x != dpF s x) = false := fun x => by simp
    have d2 : ∀ x, (dpF s x == dpF s x) = true := fun x => by simp
    have d3 : ∀ x : ByteArray, decide (usL s x = usL s x) = true := fun x => by simp
    simp (maxSteps := 1000000) -dsimp only [go_sem, scC, pc4, rs4, hsc, hdec, hf]
    refine vc_loop (α := Nat) (fun i => [(1, tS n), (2, .va (.c1 (.pt 0 0))), (5, iS .i64 i)]) (fun _ => [.cells (scC s) 25])
      (fun i => i ≤ s.ss.length) (fun i => s.ss.length - i) 0 1 (Nat.zero_le _) ?_ ?_ ?_
    · simp -dsimp only [go_sem] <;> simp
    · simp -dsimp only [go_sem, scC] <;> simp
    intro i hi
    rcases Nat.lt_or_ge i s.ss.length with hlt | hge
    · have hg : decide ((i : Int) < (s.ss.length : Int)) = true := by simp; omega
      obtain ⟨t, hx⟩ : ∃ e, s.ss[i]? = some e := ⟨_, List.getElem?_eq_getElem hlt⟩
      have q1 := row_rg' (row := stC) hx
      have u1 := usL_bs hfit t.nm
      simp (maxSteps := 1000000) -dsimp only [go_sem, hg, ↓q1, stC, scC, hsf, hdec, d1]
      refine ⟨by omega, usp_use hfit ?_⟩
      simp (maxSteps := 1000000) -dsimp only [go_sem]
      refine usp_use hfit ?_
      simp (maxSteps := 1000000) -dsimp only [go_sem, u1]
      refine ⟨fun h => absurd h (by simp), fun _ => ⟨by omega, loop_next (i + 1) 1 (by omega) (by omega) ?_ ?_⟩⟩
      · simp -dsimp only [go_sem] <;> simp
      · simp -dsimp only [go_sem, scC] <;> simp
    · have hg : decide ((i : Int) < (s.ss.length : Int)) = false := by simp; omega
      have u1 := usL_bs hfit n
      simp (maxSteps := 1000000) -dsimp only [go_sem, hg, scC, hsf, hdec, d2]
      refine usp_use hfit ?_
      simp (maxSteps := 1000000) -dsimp only [go_sem]
      refine usp_use hfit ?_
      simp (maxSteps := 1000000) -dsimp only [go_sem, u1]
      exact fin _
end Go.Proofs.Ytpfmkfafagiicaa
/- slices.Clone of strings and of ints: an own row. -/
namespace Go.Proofs
open Go.Shelf
def Try.lays16_ren : Go.Shelf.Ren := ⟨fun | 16 => 57 | n => n, fun | 24 => 35 | n => n, fun | n => n⟩
theorem Try.lays16 : Go.Proofs.Lays2.n16 Try.prog Try.lays16_ren := {
  mixed := by kernel_rfl
  f16 := Try.func57.trans (congrArg some (by kernel_rfl))
  t4 := Try.underlying4
  a4 := Try.isAgg4
  z4 := Try.sizeOf4
  v4 := Try.zeroValue4
  t9 := Try.underlying9
  a9 := Try.isAgg9
  z9 := Try.sizeOf9
  v9 := Try.zeroValue9
  t24 := Try.underlying35
  a24 := Try.isAgg35
  z24 := Try.sizeOf35
  v24 := Try.zeroValue35
  i9 := by kernel_rfl }
def Try.lays15_ren : Go.Shelf.Ren := ⟨fun | 15 => 58 | n => n, fun | 22 => 45 | n => n, fun | n => n⟩
theorem Try.lays15 : Go.Proofs.Lays2.n15 Try.prog Try.lays15_ren := {
  mixed := by kernel_rfl
  f15 := Try.func58.trans (congrArg some (by kernel_rfl))
  t3 := Try.underlying3
  a3 := Try.isAgg3
  z3 := Try.sizeOf3
  v3 := Try.zeroValue3
  t4 := Try.underlying4
  a4 := Try.isAgg4
  z4 := Try.sizeOf4
  v4 := Try.zeroValue4
  t22 := Try.underlying45
  a22 := Try.isAgg45
  z22 := Try.sizeOf45
  v22 := Try.zeroValue45
  i3 := by kernel_rfl }
end Go.Proofs
namespace Go.Proofs.Ytpfmkfafagiicaa
open Go.W Go.RowKit
theorem new_any {X : Ctx} {E : Es} {ro : RO} {w w' : World} (h : Rel X E ro w) {blk : B} {g : Gb} (hb : ∀ k, k < w.heap.size → w'.heap[k]? = w.heap[k]?) (hsz : w.heap.size ≤ w'.heap.size)
    (h1 : w'.os = w.os) (h2 : w'.tape = w.tape) (h3 : w'.output = w.output) (hob : ∀ b, g.ob = some b → w.heap.size ≤ b) (hon : blk.On (gm (E ++ [(g, blk)])) ro w' g) : Rel X (E ++ [(g, blk)]) ro w' := by
  have hext : GExt (gm E) (gm (E ++ [(g, blk)])) := gext_app _
  have hget : ∀ (n : Nat) (y : Gb × B), (E ++ [(g, blk)])[n]? = some y → (n = E.length ∧ y = (g, blk)) ∨ (n < E.length ∧ E[n]? = some y) := by
    intro n y hy
    rw [List.getElem?_append] at hy
    split at hy
    · exact .inr ⟨by assumption, hy⟩
    · have : n - E.length = 0 := by
        rcases Nat.eq_zero_or_pos (n - E.length) with h0 | h0
        · exact h0
        · rw [List.getElem?_eq_none (by simp; omega)] at hy; cases hy
      rw [this] at hy
      exact .inl ⟨by omega, by simpa using hy.symm⟩
  have old : ∀ (n k : Nat) (gn : Gb) (bk : B), E[n]? = some (gn, bk) → gn.ob = some k → bk.live = true → k < w.heap.size := fun n k gn bk hy hk hl => (h.own n _ bk hy).lt hl hk
  refine ⟨fun n g' bk hy => ?_, fun n m gn gm bn bm k hy hz en em ln lm => ?_, fun k off c hc n gn bk hy en => ?_, fun k off c hc => ?_, h.ro0, h.rob, fun n k gn bk hy en ln => ?_, h.gx.trans hext, Nat.le_trans h.sz hsz, fun k hk hp => ?_, by rw [h1]; exact h.os, by rw [h2]; exact h.tape, by rw [h3]; exact h.output⟩
  · rcases hget n _ hy with ⟨rfl, he⟩ | ⟨hlt, hy'⟩
    · simp only [Prod.mk.injEq] at he; obtain ⟨rfl, rfl⟩ := he; exact hon
    · by_cases hlv : bk.live = true
      · exact (h.own n g' bk hy').same hext (Ext.refl _) fun k hk => hb k (old n k g' bk hy' hk hlv)
      · cases bk <;> simp [B.live] at hlv; trivial
  · rcases hget n _ hy with ⟨rfl, he⟩ | ⟨hlt, hy'⟩ <;> rcases hget m _ hz with ⟨rfl, he2⟩ | ⟨hlt2, hz'⟩
    · rfl
    · simp only [Prod.mk.injEq] at he; obtain ⟨rfl, rfl⟩ := he; have := old m k gm bm hz' em lm; have := hob k en; omega
    · simp only [Prod.mk.injEq] at he2; obtain ⟨rfl, rfl⟩ := he2; have := old n k gn bn hy' en ln; have := hob k em; omega
    · exact h.inj n m gn gm bn bm k hy' hz' en em ln lm
  · rcases hget n _ hy with ⟨rfl, he⟩ | ⟨hlt, hy'⟩
    · simp only [Prod.mk.injEq] at he; obtain ⟨rfl, rfl⟩ := he; have := h.cell_lt hc; have := hob k en; omega
    · exact h.apart k off c hc n gn bk hy' en
  · have := h.rd k off c hc
    rw [← this]
    simp only [World.cell?, hb k (h.cell_lt hc)]
  · rcases hget n _ hy with ⟨rfl, he⟩ | ⟨hlt, hy'⟩
    · simp only [Prod.mk.injEq] at he; obtain ⟨rfl, rfl⟩ := he; have := hob k en; have := h.sz; exact .inl (by omega)
    · exact h.par n k gn bk hy' en ln
  · rw [hb k (by have := h.sz; omega)]
    exact h.keep k hk hp
/-- A contract's own row, as frozen memory. -/
theorem row_any {X : Ctx} {ro : RO} {w w' : World} (h : Rel X [] ro w) (hX : X.g0.length = 0) {T : TypeId} {v : Value} {cs : List Value} (hne : cs ≠ []) (_hone : ∀ u ∈ cs, u.oneCell' = true) (ho : w'.ownsRow w.heap.size T 1 v cs.length cs) (hb : Below w.heap.size w w') {K : S → Hp → Prop} (hK : K (.va (.c1 (.fz (cs.map fun u => [C.vl u])))) []) :
    ∃ r' E' ro', K r' (hp E') ∧ r'.rel (gm E') ro' v ∧ Rel X E' ro' w' := by
  have hlen : 0 < cs.length := List.length_pos_iff.2 hne
  obtain ⟨h1, h2⟩ := ho
  rcases h2 with ⟨_, h0⟩ | ⟨b, cap, cur, rfl, hbb, hcell, hcap, hmax, hcs, htk⟩
  · omega
  have hfl : (cs.map fun u => [C.vl u]).flatten = cs.map C.vl := by
    clear h1 hlen hcap htk hK hne _hone
    induction cs with
    | nil => rfl
    | cons x l ih => rw [List.map_cons, List.flatten_cons, ih]; rfl
  let g : Gb := ⟨some b, true, cs.length, cap, T, cs⟩
  have hR : Rel X ([] ++ [(g, .row (cs.map fun u => [C.vl u]) T 1)]) ro w' := by
    refine new_any h (fun k hk => hb.block k hk) hb.size hb.os hb.tape hb.output (fun b' hb' => by cases hb'; exact hbb) ⟨rfl, by simp [g], fun x hx => ?_, fun c hc => ?_, ⟨by simp [g], .inr ⟨b, cap, cur, ?_, Nat.zero_le _, hcell, by simp; exact hcap, hmax, hcs, ?_⟩⟩, ?_, fun b' _ => (by show 0 < cap; omega)⟩
    · obtain ⟨y, _, rfl⟩ := List.mem_map.1 hx; rfl
    · rw [hfl] at hc; obtain ⟨y, _, rfl⟩ := List.mem_map.1 hc; rfl
    · simp [obA, g]
    · rw [List.length_map]; exact htk
    · rw [hfl]
      refine ⟨by simp [g], fun i x y hx hy => ?_⟩
      rw [List.getElem?_map] at hx
      have hy : cs[i]? = some y := hy
      rw [hy] at hx
      cases hx; rfl
  refine fin_sound (X := X) (k0 := 0) hX (r := .va (.c1 (.sl 0 (cs.map fun u => [C.vl u]).length))) (.pub 0 _ T 1 (by rfl) (.sel [] (by simp) (by simp [pubH]) rfl (.done ?_))) rfl ?_ hR
  · simp -dsimp only [go_sem, pubH]; simpa using hK
  · refine ⟨g, rfl, rfl, by simp [g], ⟨_, _, _, rfl⟩, fun _ => ?_⟩
    simp [g, obA]
theorem empty_any {X : Ctx} {ro : RO} {w w' : World} (h : Rel X [] ro w) {o : Option Addr} {c : Nat} (hb : Below w.heap.size w w') {K : S → Hp → Prop} (hK : K (.va (.c1 (.fz []))) []) :
    ∃ r' E' ro', K r' (hp E') ∧ r'.rel (gm E') ro' (.slice o 0 c) ∧ Rel X E' ro' w' :=
  ⟨.va (.c1 (.fz [])), [], ro, hK, FzR.mk (ro := ro) [] 1 none o (fun h => absurd rfl h) c (fun _ => undef) (by simp) (Nat.zero_le _) (by simp) (by simp) (by simp) (by simp) (by simp), h.aside (fun k hk => hb.block k hk) hb.size hb.os hb.tape hb.output⟩
def clSSp : W.Spec := fun av H K => ∃ l : List ByteArray, av = [.va (.c1 (.fz (l.map stR)))] ∧ H = [] ∧ l.length ≤ 1000000000 ∧ K (.va (.c1 (.fz (l.map stR)))) []
theorem clS_use {l : List ByteArray} {K : S → Hp → Prop} (h : l.length ≤ 1000000000) (hK : K (.va (.c1 (.fz (l.map stR)))) []) : clSSp [.va (.c1 (.fz (l.map stR)))] [] K := ⟨l, rfl, rfl, h, hK⟩
theorem clS_flat (l : List ByteArray) : (l.map stR).flatten = (l.map Value.string).map C.vl := by
  induction l with
  | nil => rfl
  | cons x l ih => rw [List.map_cons, List.flatten_cons, ih]; rfl
theorem clS_rows (l : List ByteArray) : (l.map Value.string).map (fun u => [C.vl u]) = l.map stR := by rw [List.map_map]; rfl
theorem mclS : Meets Try.prog 57 clSSp := by
  refine ⟨by kernel_rfl, fun av vs E ro w K hlen hrel hR hs => ?_⟩
  obtain ⟨l, rfl, hH, hl, hK⟩ := hs
  match E, hH with
  | [], _ =>
    match vs, hlen with
    | [v0], _ =>
      have r0 : FzR ro (l.map stR) v0 := hrel 0 _ _ rfl rfl
      cases hl0 : l with
      | nil =>
        subst hl0
        generalize hx : ([] : List ByteArray).map stR = xs at r0
        cases r0 with
        | mk xs sz o oa hoa cap us hz hc ho h1 h2 h3 h4 =>
          subst hx
          have hK : K (.va (.c1 (.fz []))) [] := hK
          cases oa with
          | none =>
            refine (Any.slices_Clone_string_nil Try.lays16 0 cap w).mono ?_
            rintro e w' ⟨rfl, rfl⟩
            obtain ⟨r', E', ro', a1, a2, a3⟩ := empty_any (o := none) (c := 0) hR (Below.refl _ _) hK
            exact ⟨r', _, E', ro', rfl, a2, a1, a3⟩
          | some a =>
            refine (Any.slices_Clone_string_zero Try.lays16 a cap w).mono ?_
            rintro e w' ⟨v', rfl, hown, _, hb⟩
            obtain ⟨o', c', rfl⟩ : ∃ o' c', v' = .slice o' 0 c' := by
              rcases hown.2 with ⟨rfl, _⟩ | ⟨b, c', cur, rfl, _⟩
              · exact ⟨none, 0, rfl⟩
              · exact ⟨_, c', rfl⟩
            obtain ⟨r', E', ro', a1, a2, a3⟩ := empty_any (o := o') (c := c') hR hb hK
            exact ⟨r', _, E', ro', rfl, a2, a1, a3⟩
      | cons x0 lt =>
        have hne : l ≠ [] := by rw [hl0]; exact List.cons_ne_nil _ _
        clear hl0
        generalize hx : l.map stR = xs at r0
        cases r0 with
        | mk xs sz o oa hoa cap us hz hc ho h1 h2 h3 h4 =>
          subst hx
          have hne2 : l.map stR ≠ [] := by simpa using hne
          obtain ⟨⟨b, off⟩, rfl⟩ := Option.isSome_iff_exists.1 (ho hne2)
          obtain rfl := hoa hne2
          have hcell : ∀ j, j < l.length → w.cell? ⟨b, off + j, none⟩ = some (Value.string (l.getD j ByteArray.empty)) := fun j hj => by
            have hf : (l.map stR).flatten[j]? = some (.vl (Value.string (l.getD j ByteArray.empty))) := by
              rw [clS_flat, List.getElem?_map, List.getElem?_map, List.getElem?_eq_getElem hj]
              simp [hj]
            have e1 := h1 j _ hf
            have e2 := h2 j _ hf
            rw [e2] at e1
            exact hR.rd b (off + j) _ e1
          have key := Any.slices_Clone_string Try.lays16 b off l.length cap l w (Nat.le_refl _) (by omega) hcell
          rw [List.take_length] at key
          rw [List.length_map]
          refine key.mono ?_
          rintro e w' ⟨v', rfl, hown, _, hb⟩
          rw [← List.length_map (f := Value.string)] at hown
          obtain ⟨r', E', ro', a1, a2, a3⟩ := row_any hR rfl (cs := l.map Value.string) (by simpa using hne) (fun u hu => by obtain ⟨y, _, rfl⟩ := List.mem_map.1 hu; rfl) hown hb (by rw [clS_rows]; exact hK)
          exact ⟨r', _, E', ro', rfl, a2, a1, a3⟩
def clISp : W.Spec := fun av H K => ∃ l : List Int, av = [.va (.c1 (.fz (l.map inR)))] ∧ H = [] ∧ l.length ≤ 1000000000 ∧ K (.va (.c1 (.fz (l.map inR)))) []
theorem clI_use {l : List Int} {K : S → Hp → Prop} (h : l.length ≤ 1000000000) (hK : K (.va (.c1 (.fz (l.map inR)))) []) : clISp [.va (.c1 (.fz (l.map inR)))] [] K := ⟨l, rfl, rfl, h, hK⟩
theorem clI_flat (l : List Int) : (l.map inR).flatten = (l.map (Value.int .i64)).map C.vl := by
  induction l with
  | nil => rfl
  | cons x l ih => rw [List.map_cons, List.flatten_cons, ih]; rfl
theorem clI_rows (l : List Int) : (l.map (Value.int .i64)).map (fun u => [C.vl u]) = l.map inR := by rw [List.map_map]; rfl
theorem mclI : Meets Try.prog 58 clISp := by
  refine ⟨by kernel_rfl, fun av vs E ro w K hlen hrel hR hs => ?_⟩
  obtain ⟨l, rfl, hH, hl, hK⟩ := hs
  match E, hH with
  | [], _ =>
    match vs, hlen with
    | [v0], _ =>
      have r0 : FzR ro (l.map inR) v0 := hrel 0 _ _ rfl rfl
      cases hl0 : l with
      | nil =>
        subst hl0
        generalize hx : ([] : List Int).map inR = xs at r0
        cases r0 with
        | mk xs sz o oa hoa cap us hz hc ho h1 h2 h3 h4 =>
          subst hx
          have hK : K (.va (.c1 (.fz []))) [] := hK
          cases oa with
          | none =>
            refine (Any.slices_Clone_int_nil Try.lays15 0 cap w).mono ?_
            rintro e w' ⟨rfl, rfl⟩
            obtain ⟨r', E', ro', a1, a2, a3⟩ := empty_any (o := none) (c := 0) hR (Below.refl _ _) hK
            exact ⟨r', _, E', ro', rfl, a2, a1, a3⟩
          | some a =>
            refine (Any.slices_Clone_int_zero Try.lays15 a cap w).mono ?_
            rintro e w' ⟨v', rfl, hown, _, hb⟩
            obtain ⟨o', c', rfl⟩ : ∃ o' c', v' = .slice o' 0 c' := by
              rcases hown.2 with ⟨rfl, _⟩ | ⟨b, c', cur, rfl, _⟩
              · exact ⟨none, 0, rfl⟩
              · exact ⟨_, c', rfl⟩
            obtain ⟨r', E', ro', a1, a2, a3⟩ := empty_any (o := o') (c := c') hR hb hK
            exact ⟨r', _, E', ro', rfl, a2, a1, a3⟩
      | cons x0 lt =>
        have hne : l ≠ [] := by rw [hl0]; exact List.cons_ne_nil _ _
        clear hl0
        generalize hx : l.map inR = xs at r0
        cases r0 with
        | mk xs sz o oa hoa cap us hz hc ho h1 h2 h3 h4 =>
          subst hx
          have hne2 : l.map inR ≠ [] := by simpa using hne
          obtain ⟨⟨b, off⟩, rfl⟩ := Option.isSome_iff_exists.1 (ho hne2)
          obtain rfl := hoa hne2
          have hcell : ∀ j, j < l.length → w.cell? ⟨b, off + j, none⟩ = some (Value.int .i64 (l.getD j 0)) := fun j hj => by
            have hf : (l.map inR).flatten[j]? = some (.vl (Value.int .i64 (l.getD j 0))) := by
              rw [clI_flat, List.getElem?_map, List.getElem?_map, List.getElem?_eq_getElem hj]
              simp [hj]
            have e1 := h1 j _ hf
            have e2 := h2 j _ hf
            rw [e2] at e1
            exact hR.rd b (off + j) _ e1
          have key := Any.slices_Clone_int Try.lays15 b off l.length cap l w (Nat.le_refl _) (by omega) hcell
          rw [List.take_length] at key
          rw [List.length_map]
          refine key.mono ?_
          rintro e w' ⟨v', rfl, hown, _, hb⟩
          rw [← List.length_map (f := (Value.int .i64))] at hown
          obtain ⟨r', E', ro', a1, a2, a3⟩ := row_any hR rfl (cs := l.map (Value.int .i64)) (by simpa using hne) (fun u hu => by obtain ⟨y, _, rfl⟩ := List.mem_map.1 hu; rfl) hown hb (by rw [clI_rows]; exact hK)
          exact ⟨r', _, E', ro', rfl, a2, a1, a3⟩
end Go.Proofs.Ytpfmkfafagiicaa
/- Enum. -/
namespace Go.Proofs.Ytpfmkfafagiicaa
open Go.W
set_option maxRecDepth 100000 in
theorem mEnumP : Meets Try.prog 24 enSpP := by
  refine meets_fn Try.func24 ok24 2 (by rw [Try.ntmps24]; decide) (meetsAll_s mclS (meetsAll_s mclI (meetsAll_nil _))) (fun av H K h => by obtain ⟨_, _, rfl, _⟩ := h; rfl) ?_
  rintro av H K ⟨s, n, rfl, rfl, hs, hK⟩
  rw [← fEn_has] at hK
  have hl := hs.ok.le
  simp -dsimp only [go_sem, scC, pc24, rs24]
  refine vc_loop (α := Nat) (fun i => [(1, tS n), (2, .va (.c1 (.pt 0 0))), (4, .va (.c1 (.pt 1 0))), (9, .va (.c1 (.fz (s.es.map enC)))), (10, iS .i64 s.es.length), (11, iS .i64 i)]) (fun _ => [.cells (scC s) 25, .cells [.vl (.string (mk [])), .vl (.slice none 0 0), .vl (.slice none 0 0)] 47])
    (fun i => i ≤ s.es.length ∧ fEn (s.es.drop i) n = fEn s.es n) (fun i => s.es.length - i) 0 2 ⟨Nat.zero_le _, rfl⟩ ?_ ?_ ?_
  · simp [go_sem]
  · simp [go_sem, scC]
  rintro i ⟨hi, ho⟩
  rcases Nat.lt_or_ge i s.es.length with hlt | hge
  · have hg : decide ((i : Int) < (s.es.length : Int)) = true := by simp; omega
    obtain ⟨t, hx⟩ : ∃ e, s.es[i]? = some e := ⟨_, List.getElem?_eq_getElem hlt⟩
    have q2 := row_rg' (row := enC) hx
    have htm := List.mem_of_getElem? hx
    rw [fEn, fnd_step hx] at ho
    cases hc : decide (t.nm = n) with
    | true =>
      rw [hc, Bool.cond_true] at ho
      rw [← ho] at hK
      simp (maxSteps := 1000000) -dsimp only [go_sem, hg, ↓q2, enC, scC, bl_beq, hc]
      refine ⟨by omega, clS_use (hs.en t htm).1 ?_⟩
      simp (maxSteps := 1000000) -dsimp only [go_sem]
      refine clI_use (hs.en t htm).2 ?_
      simp (maxSteps := 1000000) -dsimp only [go_sem]
      exact .sel [] (by simp) (by simp) rfl (.done (by simpa [go_sem, enC] using hK))
    | false =>
      rw [hc, Bool.cond_false] at ho
      simp (maxSteps := 1000000) -dsimp only [go_sem, hg, ↓q2, enC, scC, bl_beq, hc]
      refine ⟨by omega, by omega, loop_next (i + 1) 2 ⟨by omega, ho⟩ (by omega) ?_ ?_⟩
      · simp [go_sem]
      · simp [go_sem, scC]
  · have hg : decide ((i : Int) < (s.es.length : Int)) = false := by simp; omega
    obtain rfl : i = s.es.length := by omega
    rw [List.drop_length] at ho
    rw [← ho] at hK
    simp -dsimp only [go_sem, hg, scC]
    exact .sel [] (by simp) (by simp) rfl (.done (by simpa [go_sem, fEn, enC_def] using hK))
end Go.Proofs.Ytpfmkfafagiicaa
/- What a struct of a valid schema uses: it exists, it is less deep; has. -/
namespace Go.Proofs.Ytpfmkfafagiicaa
open Go.W
theorem disj {s : Sc} (hf : s.fit) (h : checkF s = 0) {n : ByteArray} (hn : hasS s.ss n = true) : hasE s.es n = false := by
  obtain ⟨_, _, _, h2, _⟩ := check_good hf h
  obtain ⟨t, ht⟩ := hasS_some hn
  obtain ⟨htm, rfl⟩ := fS_mem ht
  obtain ⟨i, hi⟩ := List.mem_iff_getElem?.1 htm
  exact (cn_zero (st_zero hi (fE_zero h2 i (List.getElem?_eq_some_iff.1 hi).1)).1).2.1
theorem ref_lt {s : Sc} (hf : s.fit) (h : checkF s = 0) {a b : ByteArray} (hr : isRef s.ss a b) (hb : hasS s.ss b = true) : dD s.ss b < dD s.ss a := by
  obtain ⟨g, ha, _⟩ := check_good hf h
  obtain ⟨t, f, hs, htm, hfm, hn, rfl⟩ := ref_mem hr
  have hD := dD_eq g ha hs
  have hm := maxF_ge (dp := dD s.ss) hfm
  obtain ⟨_, h2, _, h4⟩ := val_lv s.ss s.es _ _ (Nat.le_refl _) (g.val t htm f hfm)
  have hk : ((lvT f.ty).2.k == 6) = true := by
    have hE := disj hf h hb
    unfold isNamed at hn
    unfold nmOf at hE
    rw [h2] at hn h4 hE
    revert hn h4 hE
    generalize (lvT f.ty).2 = u
    obtain ⟨k, z, n, e⟩ := u
    intro hn h4 hE
    simp only [Ty.k, Ty.n, Bool.or_eq_true, beq_iff_eq] at hn hE ⊢
    rcases hn with rfl | rfl
    · rfl
    · rw [val7, hE] at h4; simp at h4
  have hfd : fdep (dD s.ss) f.ty = (lvT f.ty).1 + dD s.ss (nmOf f.ty) := by
    unfold fdep nmOf
    rw [hk, h2]; rfl
  omega
theorem reach_lt {s : Sc} (hf : s.fit) (h : checkF s = 0) {a b : ByteArray} (hr : Reach s.ss a b) : hasS s.ss b = true → dD s.ss b < dD s.ss a := by
  induction hr with
  | one h1 => exact fun hb => ref_lt hf h h1 hb
  | more _ h2 ih =>
    intro hb
    obtain ⟨t, _, hs, _⟩ := ref_mem h2
    have h3 := ih (by rw [← fS_has, hs]; rfl)
    have h4 := ref_lt hf h h2 hb
    omega
theorem okS_mem {s : Sc} (h : checkF s = 0) {t : St} (ht : t ∈ s.ss) : okS s t.nm = true := by
  unfold okS; rw [h]
  have : hasS s.ss t.nm = true := by unfold hasS; rw [List.any_eq_true]; exact ⟨t, ht, by simp⟩
  rw [this]; rfl
theorem dpF_lt {s : Sc} (hf : s.fit) (h : checkF s = 0) {t : St} (ht : t ∈ s.ss) {x : ByteArray} (hx : x ∈ usesF s.ss t.nm) : dpF s x < dpF s t.nm := by
  have hr := mem_usesF.1 hx
  unfold dpF
  rw [okS_mem h ht]
  cases hok : okS s x with
  | true => exact reach_lt hf h hr (okS_true hok).2
  | false =>
    have := dN_pos s.ss (dK + 1) t.nm
    simp only [Bool.cond_false, Bool.cond_true]
    rw [dD_def]; omega
theorem usL_sub {s : Sc} {n x y : ByteArray} (hx : x ∈ usesF s.ss n) (hy : y ∈ usL s x) : y ∈ usesF s.ss n := by
  unfold usL at hy
  cases hok : okS s x with
  | false => rw [hok] at hy; cases hy
  | true =>
    rw [hok] at hy
    exact mem_usesF.2 ((mem_usesF.1 hx).trans (mem_usesF.1 hy))
theorem one_of {s : Sc} (hf : s.fit) (h : checkF s = 0) {n x : ByteArray} (hx : x ∈ usesF s.ss n) : (hasS s.ss x = true ∧ hasE s.es x = false) ∨ (hasS s.ss x = false ∧ hasE s.es x = true) := by
  obtain ⟨g, _⟩ := check_good hf h
  rcases reach_nm g (mem_usesF.1 hx) with h1 | h1
  · exact .inl ⟨h1, disj hf h h1⟩
  · right
    refine ⟨?_, h1⟩
    cases h2 : hasS s.ss x with
    | false => rfl
    | true => rw [disj hf h h2] at h1; cases h1
set_option maxRecDepth 100000 in
theorem mHas : Meets Try.prog 31 (csFn fun l x => .bool (inB l x)).sp := by
  refine meets_fn Try.func31 ok31 2 (by rw [Try.ntmps31]; decide) (meetsAll_nil _) csFn_len ?_
  rintro av H K ⟨⟨h, rfl⟩, hK⟩
  obtain ⟨l, x, rfl, hl⟩ := csPre_open h
  have hK : K (bS (inB l x)) [] := by
    have : (csFn fun l x => .bool (inB l x)).val [.va (.c1 (.fz (l.map stR))), tS x] = bA (inB l x) := by simp -dsimp only [go_sem]
    rw [this] at hK; exact hK
  simp (maxSteps := 1000000) -dsimp only [go_sem, pc31, rs31]
  refine vc_loop (α := Nat) (fun i => [(0, .va (.c1 (.fz (l.map stR)))), (1, tS x), (5, iS .i64 i)]) (fun _ => [])
    (fun i => i ≤ l.length ∧ inB (l.drop i) x = inB l x) (fun i => l.length - i) 0 0 ⟨Nat.zero_le _, rfl⟩ ?_ ?_ ?_
  · simp [go_sem]
  · simp [go_sem]
  rintro i ⟨hi, ho⟩
  rcases Nat.lt_or_ge i l.length with hlt | hge
  · have hg : decide ((i : Int) < (l.length : Int)) = true := by simp; omega
    obtain ⟨y, hx⟩ : ∃ y, l[i]? = some y := ⟨_, List.getElem?_eq_getElem hlt⟩
    have q2 := row_rg' (row := stR) hx
    rw [inB, any_step hx] at ho
    simp (maxSteps := 1000000) -dsimp only [go_sem, hg, ↓q2, bl_beq]
    have hsy : decide (y = x) = decide (x = y) := by simp [eq_comm]
    refine ⟨by omega, fun hc => ?_, fun hc => ⟨by omega, loop_next (i + 1) 0 ⟨by omega, ?_⟩ (by omega) ?_ ?_⟩⟩
    · rw [← hsy, hc, Bool.true_or] at ho
      rw [← ho] at hK
      exact .done hK
    · rw [← hsy, hc, Bool.false_or] at ho
      exact ho
    · simp [go_sem]
    · simp [go_sem]
  · have hg : decide ((i : Int) < (l.length : Int)) = false := by simp; omega
    obtain rfl : i = l.length := by omega
    rw [inB, any_end] at ho
    rw [← ho] at hK
    simp (maxSteps := 1000000) -dsimp only [go_sem, hg]
    exact .done hK
end Go.Proofs.Ytpfmkfafagiicaa
namespace Go.Proofs.Ytpfmkfafagiicaa
open Go.W
/- robotics/roboticslaw07.SchemaFinds -/
def pcF6_14 : PC :=
  .seq (.gh (.reg /- 14 -/ [⟨(some 95), none, .q (.mv (.t 17))⟩,
      ⟨(some 96), none, .q (.mv (.t 19))⟩,
      ⟨(some 97), none, .q (.eqB true (.t 95) (.t 96))⟩,
      ⟨(some 98), none, .q (.mv (.t 97))⟩,
      ⟨(some 99), (some (98, false)), .l (.ldn 7 (.t 16))⟩,
      ⟨(some 100), (some (98, false)), .l (.ldn 7 (.t 18))⟩,
      ⟨(some 101), (some (98, false)), .cq 30 [(.t 99), (.t 100)]⟩,
      ⟨(some 102), (some (98, false)), .q (.not (.t 101))⟩,
      ⟨(some 103), none, .pick (.t 98) (.k (.bool true)) (.t 102)⟩]))
  (.cond (.t 103)
    (.seq (.reg /- 15 -/ [⟨(some 6), none, .q (.mv (.k (.bool false)))⟩])
      (.ret))
    (.skip))
@[go_sem ↓] theorem foldF6_14 (Γ : Env) (k0 : Nat) (fr : Fr) (H : Hp) (K : Ex → Fr → Hp → Prop) : vc Γ k0 pcF6_14 fr H K = vcn Γ k0 pcF6_14 fr H K ⟨⟩ := rfl
def pcF6_13 : PC :=
  .seq (.gh (.reg /- 13 -/ [⟨(some 86), none, .q (.fa 2 (.t 3))⟩,
      ⟨(some 87), none, .l (.ld1 (.t 86))⟩,
      ⟨(some 88), none, .q (.mv (.t 15))⟩,
      ⟨(some 89), none, .l (.ia 2 (.t 87) (.t 88))⟩,
      ⟨(some 90), none, .l (.ldn 2 (.t 89))⟩,
      ⟨(some 91), none, .q (.mv (.t 2))⟩,
      ⟨(some 92), none, .cl 29 [(.t 90), (.t 91)] []⟩,
      ⟨(some 85), none, .q (.mv (.t 92))⟩,
      ⟨(some 93), none, .q (.ex (.t 85) 0)⟩,
      ⟨(some 94), none, .q (.ex (.t 85) 1)⟩,
      ⟨(some 18), none, .e (.al (.agg #[(.int .i64 0), (.string (mk [])), (.int .i64 0), (.int .i64 0), (.string (mk [])), (.slice none 0 0), (.bool false)]) 53)⟩,
      ⟨none, none, .e (.st 7 (.t 18) (.t 93))⟩,
      ⟨(some 19), none, .q (.mv (.t 94))⟩]))
  (pcF6_14)
@[go_sem ↓] theorem foldF6_13 (Γ : Env) (k0 : Nat) (fr : Fr) (H : Hp) (K : Ex → Fr → Hp → Prop) : vc Γ k0 pcF6_13 fr H K = vcn Γ k0 pcF6_13 fr H K ⟨⟩ := rfl
def pcF6_7 : PC :=
  .seq (.seq (.gh (.reg /- 7 -/ [⟨(some 48), none, .q (.mv (.t 8))⟩,
      ⟨(some 49), none, .q (.mv (.t 10))⟩,
      ⟨(some 50), none, .q (.eqB true (.t 48) (.t 49))⟩,
      ⟨(some 51), none, .q (.mv (.t 50))⟩,
      ⟨(some 52), (some (51, false)), .l (.ldn 2 (.t 7))⟩,
      ⟨(some 53), (some (51, false)), .l (.ldn 2 (.t 9))⟩,
      ⟨(some 54), (some (51, false)), .cq 26 [(.t 52), (.t 53)]⟩,
      ⟨(some 55), (some (51, false)), .q (.not (.t 54))⟩,
      ⟨(some 56), none, .pick (.t 51) (.k (.bool true)) (.t 55)⟩,
      ⟨(some 57), none, .q (.mv (.t 56))⟩,
      ⟨(some 58), (some (57, false)), .q (.mv (.t 12))⟩,
      ⟨(some 59), (some (57, false)), .q (.mv (.t 14))⟩,
      ⟨(some 60), (some (57, false)), .q (.eqB true (.t 58) (.t 59))⟩,
      ⟨(some 61), none, .pick (.t 57) (.k (.bool true)) (.t 60)⟩,
      ⟨(some 62), none, .q (.mv (.t 61))⟩,
      ⟨(some 63), (some (62, false)), .l (.ldn 3 (.t 11))⟩,
      ⟨(some 64), (some (62, false)), .l (.ldn 3 (.t 13))⟩,
      ⟨(some 65), (some (62, false)), .cq 27 [(.t 63), (.t 64)]⟩,
      ⟨(some 66), (some (62, false)), .q (.not (.t 65))⟩,
      ⟨(some 67), none, .pick (.t 62) (.k (.bool true)) (.t 66)⟩]))
  (.cond (.t 67)
    (.seq (.reg /- 8 -/ [⟨(some 6), none, .q (.mv (.k (.bool false)))⟩])
      (.ret))
    (.skip)))
  (.seq (.seq (.reg /- 9 -/ [⟨(some 15), none, .q (.mv (.k (.int .i64 0)))⟩])
    (.block 0 (.loop (.seq (.seq (.reg /- 10 -/ [⟨(some 68), none, .q (.mv (.t 15))⟩,
      ⟨(some 69), none, .q (.fa 2 (.t 3))⟩,
      ⟨(some 70), none, .l (.ld1 (.t 69))⟩,
      ⟨(some 71), none, .q (.lnL (.t 70))⟩,
      ⟨(some 72), none, .q (.bin .lss true (.t 68) (.t 71))⟩])
          (.cond (.t 72)
            (.skip)
            (.exit 0)))
          (.seq (.block 1 (.seq (.reg /- 12 -/ [⟨(some 76), none, .q (.fa 2 (.t 3))⟩,
      ⟨(some 77), none, .l (.ld1 (.t 76))⟩,
      ⟨(some 78), none, .q (.mv (.t 15))⟩,
      ⟨(some 79), none, .l (.ia 2 (.t 77) (.t 78))⟩,
      ⟨(some 80), none, .l (.ldn 2 (.t 79))⟩,
      ⟨(some 81), none, .q (.mv (.t 2))⟩,
      ⟨(some 82), none, .cl 28 [(.t 80), (.t 81)] []⟩,
      ⟨(some 75), none, .q (.mv (.t 82))⟩,
      ⟨(some 83), none, .q (.ex (.t 75) 0)⟩,
      ⟨(some 84), none, .q (.ex (.t 75) 1)⟩,
      ⟨(some 16), none, .e (.al (.agg #[(.int .i64 0), (.string (mk [])), (.int .i64 0), (.int .i64 0), (.string (mk [])), (.slice none 0 0), (.bool false)]) 53)⟩,
      ⟨none, none, .e (.st 7 (.t 16) (.t 83))⟩,
      ⟨(some 17), none, .q (.mv (.t 84))⟩])
              (pcF6_13)))
            (.reg /- 11 -/ [⟨(some 73), none, .q (.mv (.t 15))⟩,
      ⟨(some 74), none, .q (.bin .add true (.t 73) (.k (.int .i64 1)))⟩,
      ⟨(some 15), none, .q (.mv (.t 74))⟩]))))))
    (.seq (.reg /- 16 -/ [⟨(some 104), none, .cq 11 []⟩,
      ⟨(some 6), none, .q (.mv (.t 104))⟩])
      (.ret)))
@[go_sem ↓] theorem foldF6_7 (Γ : Env) (k0 : Nat) (fr : Fr) (H : Hp) (K : Ex → Fr → Hp → Prop) : vc Γ k0 pcF6_7 fr H K = vcn Γ k0 pcF6_7 fr H K ⟨⟩ := rfl
def pcF6_6 : PC :=
  .seq (.gh (.reg /- 6 -/ [⟨(some 43), none, .l (.ldn 3 (.t 3))⟩,
      ⟨(some 44), none, .q (.mv (.t 1))⟩,
      ⟨(some 45), none, .cl 25 [(.t 43), (.t 44)] []⟩,
      ⟨(some 42), none, .q (.mv (.t 45))⟩,
      ⟨(some 46), none, .q (.ex (.t 42) 0)⟩,
      ⟨(some 47), none, .q (.ex (.t 42) 1)⟩,
      ⟨(some 13), none, .e (.al (.agg #[(.string (mk [])), (.slice none 0 0), (.slice none 0 0)]) 47)⟩,
      ⟨none, none, .e (.st 3 (.t 13) (.t 46))⟩,
      ⟨(some 14), none, .q (.mv (.t 47))⟩]))
  (pcF6_7)
@[go_sem ↓] theorem foldF6_6 (Γ : Env) (k0 : Nat) (fr : Fr) (H : Hp) (K : Ex → Fr → Hp → Prop) : vc Γ k0 pcF6_6 fr H K = vcn Γ k0 pcF6_6 fr H K ⟨⟩ := rfl
def pcF6_5 : PC :=
  .seq (.gh (.reg /- 5 -/ [⟨(some 37), none, .l (.ldn 3 (.t 3))⟩,
      ⟨(some 38), none, .q (.mv (.t 1))⟩,
      ⟨(some 39), none, .cl 24 [(.t 37), (.t 38)] []⟩,
      ⟨(some 36), none, .q (.mv (.t 39))⟩,
      ⟨(some 40), none, .q (.ex (.t 36) 0)⟩,
      ⟨(some 41), none, .q (.ex (.t 36) 1)⟩,
      ⟨(some 11), none, .e (.al (.agg #[(.string (mk [])), (.slice none 0 0), (.slice none 0 0)]) 47)⟩,
      ⟨none, none, .e (.st 3 (.t 11) (.t 40))⟩,
      ⟨(some 12), none, .q (.mv (.t 41))⟩]))
  (pcF6_6)
@[go_sem ↓] theorem foldF6_5 (Γ : Env) (k0 : Nat) (fr : Fr) (H : Hp) (K : Ex → Fr → Hp → Prop) : vc Γ k0 pcF6_5 fr H K = vcn Γ k0 pcF6_5 fr H K ⟨⟩ := rfl
def pcF6_4 : PC :=
  .seq (.gh (.reg /- 4 -/ [⟨(some 31), none, .l (.ldn 3 (.t 3))⟩,
      ⟨(some 32), none, .q (.mv (.t 1))⟩,
      ⟨(some 33), none, .cl 23 [(.t 31), (.t 32)] []⟩,
      ⟨(some 30), none, .q (.mv (.t 33))⟩,
      ⟨(some 34), none, .q (.ex (.t 30) 0)⟩,
      ⟨(some 35), none, .q (.ex (.t 30) 1)⟩,
      ⟨(some 9), none, .e (.al (.agg #[(.string (mk [])), (.slice none 0 0)]) 32)⟩,
      ⟨none, none, .e (.st 2 (.t 9) (.t 34))⟩,
      ⟨(some 10), none, .q (.mv (.t 35))⟩]))
  (pcF6_5)
@[go_sem ↓] theorem foldF6_4 (Γ : Env) (k0 : Nat) (fr : Fr) (H : Hp) (K : Ex → Fr → Hp → Prop) : vc Γ k0 pcF6_4 fr H K = vcn Γ k0 pcF6_4 fr H K ⟨⟩ := rfl
def pcF6 : PC :=
  .seq (.reg /- 0 -/ [⟨(some 3), none, .e (.bx 25 (.t 0))⟩,
      ⟨(some 6), none, .q (.mv (.k (.bool false)))⟩])
  (.seq (.seq (.reg /- 1 -/ [⟨(some 20), none, .l (.ldn 3 (.t 3))⟩,
      ⟨(some 21), none, .cq 10 [(.t 20)]⟩,
      ⟨(some 22), none, .q (.not (.t 21))⟩])
    (.cond (.t 22)
      (.seq (.reg /- 2 -/ [⟨(some 23), none, .cq 11 []⟩,
      ⟨(some 6), none, .q (.mv (.t 23))⟩])
        (.ret))
      (.skip)))
    (.seq (.reg /- 3 -/ [⟨(some 25), none, .l (.ldn 3 (.t 3))⟩,
      ⟨(some 26), none, .q (.mv (.t 1))⟩,
      ⟨(some 27), none, .cl 22 [(.t 25), (.t 26)] []⟩,
      ⟨(some 24), none, .q (.mv (.t 27))⟩,
      ⟨(some 28), none, .q (.ex (.t 24) 0)⟩,
      ⟨(some 29), none, .q (.ex (.t 24) 1)⟩,
      ⟨(some 7), none, .e (.al (.agg #[(.string (mk [])), (.slice none 0 0)]) 32)⟩,
      ⟨none, none, .e (.st 2 (.t 7) (.t 28))⟩,
      ⟨(some 8), none, .q (.mv (.t 29))⟩])
      (pcF6_4)))
def rsF6 : List RV := [.mv (.t 6)]
theorem okF6 : trFn Try.prog true ⟨fun r k => if r = 1 ∧ k = 1 then .q else if r = 2 ∧ k = 0 then .q else if r = 7 ∧ k = 6 then .q else if r = 7 ∧ k = 17 then .q else if r = 14 ∧ k = 6 then .q else if r = 16 ∧ k = 0 then .q else .own [], fun r => [4, 5, 6, 7, 13, 14].contains r⟩ Try.f6 = some (pcF6, rsF6) := by kernel_rfl
/- robotics/roboticslaw07.SchemaCloses -/
def pcF7_16 : PC :=
  .seq (.gh (.reg /- 16 -/ [⟨(some 12), none, .q (.mv (.k (.int .i64 0)))⟩]))
  (.block 4 (.loop (.seq (.seq (.reg /- 17 -/ [⟨(some 108), none, .q (.mv (.t 12))⟩,
      ⟨(some 109), none, .q (.mv (.t 11))⟩,
      ⟨(some 110), none, .q (.lnL (.t 109))⟩,
      ⟨(some 111), none, .q (.bin .lss true (.t 108) (.t 110))⟩])
        (.cond (.t 111)
          (.skip)
          (.exit 4)))
        (.seq (.block 5 (.seq (.reg /- 19 -/ [⟨(some 114), none, .q (.mv (.t 5))⟩,
      ⟨(some 115), none, .q (.mv (.t 11))⟩,
      ⟨(some 116), none, .q (.mv (.t 12))⟩,
      ⟨(some 117), none, .l (.ia 1 (.t 115) (.t 116))⟩,
      ⟨(some 118), none, .l (.ld1 (.t 117))⟩,
      ⟨(some 119), none, .cq 31 [(.t 114), (.t 118)]⟩,
      ⟨(some 120), none, .q (.not (.t 119))⟩])
            (.cond (.t 120)
              (.seq (.reg /- 20 -/ [⟨(some 2), none, .q (.mv (.k (.bool false)))⟩])
                (.ret))
              (.skip))))
          (.reg /- 18 -/ [⟨(some 112), none, .q (.mv (.t 12))⟩,
      ⟨(some 113), none, .q (.bin .add true (.t 112) (.k (.int .i64 1)))⟩,
      ⟨(some 12), none, .q (.mv (.t 113))⟩])))))
@[go_sem ↓] theorem foldF7_16 (Γ : Env) (k0 : Nat) (fr : Fr) (H : Hp) (K : Ex → Fr → Hp → Prop) : vc Γ k0 pcF7_16 fr H K = vcn Γ k0 pcF7_16 fr H K ⟨⟩ := rfl
def pcF7_15 : PC :=
  .seq (.gh (.reg /- 15 -/ [⟨(some 102), none, .l (.ldn 3 (.t 1))⟩,
      ⟨(some 103), none, .q (.mv (.t 5))⟩,
      ⟨(some 104), none, .q (.mv (.t 6))⟩,
      ⟨(some 105), none, .l (.ia 1 (.t 103) (.t 104))⟩,
      ⟨(some 106), none, .l (.ld1 (.t 105))⟩,
      ⟨(some 107), none, .cl 17 [(.t 102), (.t 106)] []⟩,
      ⟨(some 11), none, .q (.mv (.t 107))⟩]))
  (pcF7_16)
@[go_sem ↓] theorem foldF7_15 (Γ : Env) (k0 : Nat) (fr : Fr) (H : Hp) (K : Ex → Fr → Hp → Prop) : vc Γ k0 pcF7_15 fr H K = vcn Γ k0 pcF7_15 fr H K ⟨⟩ := rfl
def pcF7_13 : PC :=
  .seq (.seq (.gh (.reg /- 13 -/ [⟨(some 63), none, .q (.mv (.t 8))⟩,
      ⟨(some 64), none, .q (.mv (.t 10))⟩,
      ⟨(some 65), none, .q (.eqB false (.t 63) (.t 64))⟩,
      ⟨(some 66), none, .q (.mv (.t 65))⟩,
      ⟨(some 67), (some (66, false)), .q (.mv (.t 6))⟩,
      ⟨(some 68), (some (66, false)), .q (.bin .gtr true (.t 67) (.k (.int .i64 0)))⟩,
      ⟨(some 69), (some (66, false)), .q (.mv (.t 68))⟩,
      ⟨(some 70), (some (69, true)), .q (.mv (.t 5))⟩,
      ⟨(some 71), (some (69, true)), .q (.mv (.t 6))⟩,
      ⟨(some 72), (some (69, true)), .q (.bin .sub true (.t 71) (.k (.int .i64 1)))⟩,
      ⟨(some 73), (some (69, true)), .l (.ia 1 (.t 70) (.t 72))⟩,
      ⟨(some 74), (some (69, true)), .l (.ld1 (.t 73))⟩,
      ⟨(some 75), (some (69, true)), .q (.mv (.t 5))⟩,
      ⟨(some 76), (some (69, true)), .q (.mv (.t 6))⟩,
      ⟨(some 77), (some (69, true)), .l (.ia 1 (.t 75) (.t 76))⟩,
      ⟨(some 78), (some (69, true)), .l (.ld1 (.t 77))⟩,
      ⟨(some 79), (some (69, true)), .q (.bin .geq true (.t 74) (.t 78))⟩,
      ⟨(some 80), (some (66, false)), .pick (.t 69) (.t 79) (.k (.bool false))⟩,
      ⟨(some 81), none, .pick (.t 66) (.k (.bool true)) (.t 80)⟩,
      ⟨(some 82), none, .q (.mv (.t 81))⟩,
      ⟨(some 83), (some (82, false)), .q (.mv (.t 5))⟩,
      ⟨(some 84), (some (82, false)), .q (.mv (.t 6))⟩,
      ⟨(some 85), (some (82, false)), .l (.ia 1 (.t 83) (.t 84))⟩,
      ⟨(some 86), (some (82, false)), .l (.ld1 (.t 85))⟩,
      ⟨(some 87), (some (82, false)), .q (.mv (.t 4))⟩,
      ⟨(some 88), (some (82, false)), .q (.bin .eql true (.t 86) (.t 87))⟩,
      ⟨(some 89), none, .pick (.t 82) (.k (.bool true)) (.t 88)⟩,
      ⟨(some 90), none, .q (.mv (.t 89))⟩,
      ⟨(some 91), (some (90, false)), .l (.ldn 3 (.t 1))⟩,
      ⟨(some 92), (some (90, false)), .q (.mv (.t 5))⟩,
      ⟨(some 93), (some (90, false)), .q (.mv (.t 6))⟩,
      ⟨(some 94), (some (90, false)), .l (.ia 1 (.t 92) (.t 93))⟩,
      ⟨(some 95), (some (90, false)), .l (.ld1 (.t 94))⟩,
      ⟨(some 96), (some (90, false)), .cq 14 [(.t 91), (.t 95)]⟩,
      ⟨(some 97), (some (90, false)), .l (.ldn 3 (.t 1))⟩,
      ⟨(some 98), (some (90, false)), .q (.mv (.t 4))⟩,
      ⟨(some 99), (some (90, false)), .cq 14 [(.t 97), (.t 98)]⟩,
      ⟨(some 100), (some (90, false)), .q (.bin .geq true (.t 96) (.t 99))⟩,
      ⟨(some 101), none, .pick (.t 90) (.k (.bool true)) (.t 100)⟩]))
  (.cond (.t 101)
    (.seq (.reg /- 14 -/ [⟨(some 2), none, .q (.mv (.k (.bool false)))⟩])
      (.ret))
    (.skip)))
  (pcF7_15)
@[go_sem ↓] theorem foldF7_13 (Γ : Env) (k0 : Nat) (fr : Fr) (H : Hp) (K : Ex → Fr → Hp → Prop) : vc Γ k0 pcF7_13 fr H K = vcn Γ k0 pcF7_13 fr H K ⟨⟩ := rfl
def pcF7_12 : PC :=
  .seq (.gh (.ord /- 12 -/ [.q ⟨(some 55), none, .l (.ldn 3 (.t 1))⟩,
      .q ⟨(some 56), none, .q (.mv (.t 5))⟩,
      .q ⟨(some 57), none, .q (.mv (.t 6))⟩,
      .q ⟨(some 58), none, .l (.ia 1 (.t 56) (.t 57))⟩,
      .q ⟨(some 59), none, .l (.ld1 (.t 58))⟩,
      .m ⟨(some 60), none, .cl 24 [(.t 55), (.t 59)] []⟩,
      .q ⟨(some 54), none, .q (.mv (.t 60))⟩,
      .q ⟨(some 61), none, .q (.ex (.t 54) 0)⟩,
      .q ⟨(some 62), none, .q (.ex (.t 54) 1)⟩,
      .m ⟨(some 9), none, .e (.al (.agg #[(.string (mk [])), (.slice none 0 0), (.slice none 0 0)]) 47)⟩,
      .rc ⟨(some 54), none, .q (.mv (.t 60))⟩,
      .rc ⟨(some 61), none, .q (.ex (.t 54) 0)⟩,
      .rc ⟨(some 62), none, .q (.ex (.t 54) 1)⟩,
      .m ⟨none, none, .e (.st 3 (.t 9) (.t 61))⟩,
      .rc ⟨(some 62), none, .q (.ex (.t 54) 1)⟩,
      .m ⟨(some 10), none, .q (.mv (.t 62))⟩]))
  (pcF7_13)
@[go_sem ↓] theorem foldF7_12 (Γ : Env) (k0 : Nat) (fr : Fr) (H : Hp) (K : Ex → Fr → Hp → Prop) : vc Γ k0 pcF7_12 fr H K = vcn Γ k0 pcF7_12 fr H K ⟨⟩ := rfl
def pcF7_21 : PC :=
  .seq (.gh (.reg /- 21 -/ [⟨(some 121), none, .l (.ldn 3 (.t 1))⟩,
      ⟨(some 122), none, .q (.mv (.t 4))⟩,
      ⟨(some 123), none, .cq 14 [(.t 121), (.t 122)]⟩,
      ⟨(some 13), none, .q (.mv (.t 123))⟩]))
  (.seq (.reg /- 22 -/ [⟨(some 124), none, .q (.mv (.t 13))⟩,
      ⟨(some 125), none, .q (.bin .lss true (.t 124) (.k (.int .i64 1)))⟩,
      ⟨(some 126), none, .q (.mv (.t 125))⟩,
      ⟨(some 127), (some (126, false)), .q (.mv (.t 13))⟩,
      ⟨(some 128), (some (126, false)), .q (.bin .gtr true (.t 127) (.k (.int .i64 6)))⟩,
      ⟨(some 129), none, .pick (.t 126) (.k (.bool true)) (.t 128)⟩])
    (.cond (.t 129)
      (.seq (.reg /- 23 -/ [⟨(some 2), none, .q (.mv (.k (.bool false)))⟩])
        (.ret))
      (.skip)))
@[go_sem ↓] theorem foldF7_21 (Γ : Env) (k0 : Nat) (fr : Fr) (H : Hp) (K : Ex → Fr → Hp → Prop) : vc Γ k0 pcF7_21 fr H K = vcn Γ k0 pcF7_21 fr H K ⟨⟩ := rfl
def pcF7_8 : PC :=
  .seq (.seq (.gh (.reg /- 8 -/ [⟨(some 6), none, .q (.mv (.k (.int .i64 0)))⟩]))
  (.block 2 (.loop (.seq (.seq (.reg /- 9 -/ [⟨(some 39), none, .q (.mv (.t 6))⟩,
      ⟨(some 40), none, .q (.mv (.t 5))⟩,
      ⟨(some 41), none, .q (.lnL (.t 40))⟩,
      ⟨(some 42), none, .q (.bin .lss true (.t 39) (.t 41))⟩])
        (.cond (.t 42)
          (.skip)
          (.exit 2)))
        (.seq (.block 3 (.seq (.ord /- 11 -/ [.q ⟨(some 46), none, .l (.ldn 3 (.t 1))⟩,
      .q ⟨(some 47), none, .q (.mv (.t 5))⟩,
      .q ⟨(some 48), none, .q (.mv (.t 6))⟩,
      .q ⟨(some 49), none, .l (.ia 1 (.t 47) (.t 48))⟩,
      .q ⟨(some 50), none, .l (.ld1 (.t 49))⟩,
      .m ⟨(some 51), none, .cl 22 [(.t 46), (.t 50)] []⟩,
      .q ⟨(some 45), none, .q (.mv (.t 51))⟩,
      .q ⟨(some 52), none, .q (.ex (.t 45) 0)⟩,
      .q ⟨(some 53), none, .q (.ex (.t 45) 1)⟩,
      .m ⟨(some 7), none, .e (.al (.agg #[(.string (mk [])), (.slice none 0 0)]) 32)⟩,
      .rc ⟨(some 45), none, .q (.mv (.t 51))⟩,
      .rc ⟨(some 52), none, .q (.ex (.t 45) 0)⟩,
      .rc ⟨(some 53), none, .q (.ex (.t 45) 1)⟩,
      .m ⟨none, none, .e (.st 2 (.t 7) (.t 52))⟩,
      .rc ⟨(some 53), none, .q (.ex (.t 45) 1)⟩,
      .m ⟨(some 8), none, .q (.mv (.t 53))⟩])
            (pcF7_12)))
          (.reg /- 10 -/ [⟨(some 43), none, .q (.mv (.t 6))⟩,
      ⟨(some 44), none, .q (.bin .add true (.t 43) (.k (.int .i64 1)))⟩,
      ⟨(some 6), none, .q (.mv (.t 44))⟩]))))))
  (pcF7_21)
@[go_sem ↓] theorem foldF7_8 (Γ : Env) (k0 : Nat) (fr : Fr) (H : Hp) (K : Ex → Fr → Hp → Prop) : vc Γ k0 pcF7_8 fr H K = vcn Γ k0 pcF7_8 fr H K ⟨⟩ := rfl
def pcF7 : PC :=
  .seq (.reg /- 0 -/ [⟨(some 1), none, .e (.bx 25 (.t 0))⟩,
      ⟨(some 2), none, .q (.mv (.k (.bool false)))⟩])
  (.seq (.seq (.reg /- 1 -/ [⟨(some 14), none, .l (.ldn 3 (.t 1))⟩,
      ⟨(some 15), none, .cq 10 [(.t 14)]⟩,
      ⟨(some 16), none, .q (.not (.t 15))⟩,
      ⟨(some 17), none, .q (.mv (.t 16))⟩,
      ⟨(some 18), (some (17, false)), .l (.ldn 3 (.t 1))⟩,
      ⟨(some 19), (some (17, false)), .cq 12 [(.t 18)]⟩,
      ⟨(some 20), (some (17, false)), .q (.bin .neq true (.t 19) (.k (.int .i64 0)))⟩,
      ⟨(some 21), none, .pick (.t 17) (.k (.bool true)) (.t 20)⟩])
    (.cond (.t 21)
      (.seq (.reg /- 2 -/ [⟨(some 22), none, .cq 11 []⟩,
      ⟨(some 2), none, .q (.mv (.t 22))⟩])
        (.ret))
      (.skip)))
    (.seq (.seq (.reg /- 3 -/ [⟨(some 3), none, .q (.mv (.k (.int .i64 0)))⟩])
      (.block 0 (.loop (.seq (.seq (.reg /- 4 -/ [⟨(some 23), none, .q (.mv (.t 3))⟩,
      ⟨(some 24), none, .q (.fa 2 (.t 1))⟩,
      ⟨(some 25), none, .l (.ld1 (.t 24))⟩,
      ⟨(some 26), none, .q (.lnL (.t 25))⟩,
      ⟨(some 27), none, .q (.bin .lss true (.t 23) (.t 26))⟩])
            (.cond (.t 27)
              (.skip)
              (.exit 0)))
            (.seq (.block 1 (.seq (.reg /- 6 -/ [⟨(some 30), none, .q (.fa 2 (.t 1))⟩,
      ⟨(some 31), none, .l (.ld1 (.t 30))⟩,
      ⟨(some 32), none, .q (.mv (.t 3))⟩,
      ⟨(some 33), none, .l (.ia 2 (.t 31) (.t 32))⟩,
      ⟨(some 34), none, .q (.fa 0 (.t 33))⟩,
      ⟨(some 35), none, .l (.ld1 (.t 34))⟩,
      ⟨(some 4), none, .q (.mv (.t 35))⟩])
                (.seq (.reg /- 7 -/ [⟨(some 36), none, .l (.ldn 3 (.t 1))⟩,
      ⟨(some 37), none, .q (.mv (.t 4))⟩,
      ⟨(some 38), none, .cl 17 [(.t 36), (.t 37)] []⟩,
      ⟨(some 5), none, .q (.mv (.t 38))⟩])
                  (pcF7_8))))
              (.reg /- 5 -/ [⟨(some 28), none, .q (.mv (.t 3))⟩,
      ⟨(some 29), none, .q (.bin .add true (.t 28) (.k (.int .i64 1)))⟩,
      ⟨(some 3), none, .q (.mv (.t 29))⟩]))))))
      (.seq (.reg /- 24 -/ [⟨(some 130), none, .cq 11 []⟩,
      ⟨(some 2), none, .q (.mv (.t 130))⟩])
        (.ret))))
def rsF7 : List RV := [.mv (.t 2)]
theorem okF7 : trFn Try.prog true ⟨fun r k => if r = 1 ∧ k = 1 then .q else if r = 1 ∧ k = 5 then .q else if r = 2 ∧ k = 0 then .q else if r = 13 ∧ k = 33 then .q else if r = 13 ∧ k = 36 then .q else if r = 19 ∧ k = 5 then .q else if r = 21 ∧ k = 2 then .q else if r = 24 ∧ k = 0 then .q else .own [], fun r => [8, 12, 13, 15, 16, 21].contains r⟩ Try.f7 = some (pcF7, rsF7) := by kernel_rfl
end Go.Proofs.Ytpfmkfafagiicaa
