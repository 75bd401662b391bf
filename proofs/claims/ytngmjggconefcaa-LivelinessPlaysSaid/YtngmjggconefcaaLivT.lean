/- The reference: find, time, next, sorted. -/
import Derived.Test.YtngmjggconefcaaLivK
import Derived.Test.YtngmjggconefcaaPe
namespace Go.Proofs.Ytngmjggconefcaa
open Go.W
abbrev lsG (s : Ls) : A := .gs [.vl (.int .i64 s.now), .fz (s.all.map lzC), .fz (s.pend.map chC)]
def isG (now : Int) (ra rp : List (List C)) : Prop := ∃ s : Ls, now = s.now ∧ ra = s.all.map lzC ∧ rp = s.pend.map chC ∧ s.ok
theorem isG_mk {s : Ls} (h : s.ok) : isG s.now (s.all.map lzC) (s.pend.map chC) := ⟨s, rfl, rfl, rfl, h⟩
/-- A function of a set and a number. -/
def g1Pre : List S → Prop := fun xs => match xs with
  | [.va (.gs [.vl (.int .i64 now), .fz ra, .fz rp]), .va (.c1 (.vl (.int .i64 _)))] => isG now ra rp
  | _ => False
theorem g1Pre_open {xs : List S} (h : g1Pre xs) : ∃ (s : Ls) (n : Int), xs = [.va (lsG s), iS .i64 n] ∧ s.ok := by
  unfold g1Pre at h
  split at h
  · obtain ⟨s, rfl, rfl, rfl, hs⟩ := h; exact ⟨s, _, rfl, hs⟩
  · exact h.elim
def g1V (f : Ls → Int → Value) : List S → A := fun xs => match xs with
  | [.va (.gs [.vl (.int .i64 now), .fz ra, .fz rp]), .va (.c1 (.vl (.int .i64 n)))] => .c1 (.vl (f ⟨now, ra.map C.lz, rp.map C.chg⟩ n))
  | _ => .c1 (.vl undef)
def g1Fn (f : Ls → Int → Value) : Fun := ⟨g1Pre, g1V f, fun xs h => by obtain ⟨s, n, rfl, _⟩ := g1Pre_open h; trivial⟩
theorem g1_len {f : Ls → Int → Value} : ∀ xs H K, (g1Fn f).sp xs H K → xs.length = 2 := fun xs H K h => by obtain ⟨_, _, rfl, _⟩ := g1Pre_open h.1.1; rfl
theorem g1_val (f : Ls → Int → Value) (s : Ls) (n : Int) : g1V f [.va (lsG s), iS .i64 n] = .c1 (.vl (f s n)) := by
  show A.c1 (.vl (f ⟨s.now, (s.all.map lzC).map C.lz, (s.pend.map chC).map C.chg⟩ n)) = _
  rw [lz_map, chg_map]
attribute [go_sem] g1Fn g1Pre g1V
theorem lz_shut (l : List Lz) : ∀ r ∈ l.map lzC, ∀ c ∈ r, c.shut = true ∧ c.one := by
  intro r hr c hc
  obtain ⟨y, _, rfl⟩ := List.mem_map.1 hr
  simp only [List.mem_cons, List.not_mem_nil, or_false] at hc
  rcases hc with rfl | rfl | rfl | rfl <;> exact ⟨rfl, rfl⟩
set_option maxRecDepth 100000 in
theorem mFindR : Meets Try.prog 31 (g1Fn fun s id => .int .i64 (findL s.all id 0)).sp := by
  refine meets_fn Try.func31 ok31 2 (by rw [Try.ntmps31]; decide) (meetsAll_nil _) g1_len ?_
  rintro av H K ⟨⟨h, rfl⟩, hK⟩
  obtain ⟨s, id, rfl, hs⟩ := g1Pre_open h
  have hal := hs.al
  have hK' : K (iS .i64 (findL s.all id 0)) [] := by
    have := hK; unfold g1Fn at this; simp only at this; rw [g1_val] at this; exact this
  clear hK
  simp -dsimp only [go_sem, pc31, rs31]
  refine vc_loop (α := Nat) (fun i => [(1, iS .i64 id), (2, .va (.c1 (.pt 0 0))), (5, iS .i64 i)]) (fun _ => [.cells [.vl (.int .i64 s.now), .fz (s.all.map lzC), .fz (s.pend.map chC)] 48]) (fun i => i ≤ s.all.length ∧ findL (s.all.drop i) id i = findL s.all id 0) (fun i => s.all.length - i) 0 1 ⟨by omega, rfl⟩ ?_ ?_ ?_
  · simp [go_sem]
  · simp [go_sem]
  rintro i ⟨hi, hf⟩
  rcases Nat.lt_or_ge i s.all.length with hlt | hge
  · obtain ⟨x, hx⟩ : ∃ x, s.all[i]? = some x := ⟨_, List.getElem?_eq_getElem hlt⟩
    have q1 := rg_at (row := lzC) hx
    have q2 := rg_at' (row := lzC) hx
    have hg : decide ((i : Int) < (s.all.length : Int)) = true := by simp; omega
    rw [drop_lz hx] at hf
    simp only [findL] at hf
    cases hc : x.id == id with
    | true =>
      rw [hc, Bool.cond_true] at hf
      simp -dsimp only [go_sem, hg, hc, ↓q1, ↓q2]
      rw [← hf] at hK'
      exact ⟨⟨by omega, by omega⟩, .sel [] (by simp) (by simp) rfl (.done hK')⟩
    | false =>
      rw [hc, Bool.cond_false] at hf
      simp -dsimp only [go_sem, hg, hc, ↓q1, ↓q2]
      refine ⟨⟨by omega, by omega⟩, ⟨by omega, by omega⟩, loop_next (i + 1) 1 ⟨by omega, hf⟩ (by omega) ?_ ?_⟩
      · simp [go_sem]
      · simp [go_sem]
  · have hg : decide ((i : Int) < (s.all.length : Int)) = false := by simp; omega
    simp -dsimp only [go_sem, hg]
    have : s.all.drop i = [] := List.drop_eq_nil_iff.2 (by omega)
    rw [this] at hf
    simp only [findL] at hf
    rw [← hf] at hK'
    exact .sel [] (by simp) (by simp) rfl (.done hK')
def timP : List S → Prop := fun xs => match xs with
  | [.va (.c1 (.vl (.int .i64 _)))] => True
  | _ => False
theorem mTimeR : Meets Try.prog 37 (i1Fn fun n => .bool (timB n)).sp := by
  refine meets_fn Try.func37 ok37 1 (by rw [Try.ntmps37]; decide) (meetsAll_nil _) i1Fn_len ?_
  rintro xs H K ⟨⟨h, rfl⟩, hK⟩
  obtain ⟨a, rfl⟩ := i1Pre_open h
  simp -dsimp only [go_sem, pc37, rs37] at hK ⊢
  exact .done hK
/-! ### The lease that expires next -/
def evt (x : Lz) : Chg := ⟨x.id, x.ren + x.len, false⟩
def better (x : Lz) (b : Option (Nat × Lz)) : Bool := match b with | none => true | some (_, y) => ltC (evt x) (evt y)
def nxB (e : Int) : List Lz → Nat → Option (Nat × Lz) → Option (Nat × Lz)
  | [], _, b => b
  | x :: l, i, b => nxB e l (i + 1) (bif dueB e x && better x b then some (i, x) else b)
def bestI (b : Option (Nat × Lz)) : Int := match b with | none => -1 | some (k, _) => k
def nxI (s : Ls) (e : Int) : Int := bestI (nxB e s.all 0 none)
set_option maxRecDepth 100000 in
theorem mNextI : Meets Try.prog 30 (g1Fn fun s e => .int .i64 (nxI s e)).sp := by
  refine meets_fn Try.func30 ok30 2 (by rw [Try.ntmps30]; decide) (meetsAll_nil _) g1_len ?_
  rintro av H K ⟨⟨h, rfl⟩, hK⟩
  obtain ⟨s, e, rfl, hs⟩ := g1Pre_open h
  have hal := hs.al
  have hK' : K (iS .i64 (nxI s e)) [] := by
    have := hK; unfold g1Fn at this; simp only at this; rw [g1_val] at this; exact this
  clear hK
  simp -dsimp only [go_sem, pc30, rs30]
  refine vc_loop (α := Nat × Option (Nat × Lz)) (fun z => [(1, iS .i64 e), (2, .va (.c1 (.pt 0 0))), (5, iS .i64 (bestI z.2)), (6, iS .i64 z.1)]) (fun _ => [.cells [.vl (.int .i64 s.now), .fz (s.all.map lzC), .fz (s.pend.map chC)] 48])
    (fun z => (z.1 ≤ s.all.length ∧ nxB e (s.all.drop z.1) z.1 z.2 = nxB e s.all 0 none) ∧ ∀ k y, z.2 = some (k, y) → s.all[k]? = some y) (fun z => s.all.length - z.1) (0, none) 1 ⟨⟨by simp, rfl⟩, fun k y h => by cases h⟩ ?_ ?_ ?_
  · simp [go_sem, bestI]
  · simp [go_sem]
  rintro ⟨i, b⟩ ⟨⟨hi, hn⟩, hb⟩
  simp only at hi hn hb
  rcases Nat.lt_or_ge i s.all.length with hlt | hge
  · obtain ⟨x, hx⟩ : ∃ x, s.all[i]? = some x := ⟨_, List.getElem?_eq_getElem hlt⟩
    obtain ⟨x1, x2, x3, x4⟩ := hs.lz x (List.mem_of_getElem? hx)
    have q1 := rg_at (row := lzC) hx
    have q2 := rg_at' (row := lzC) hx
    have hg : decide ((i : Int) < (s.all.length : Int)) = true := by simp; omega
    rw [drop_lz hx] at hn
    simp only [nxB] at hn
    have key : ∀ (z : Bool), dueB e x = z → dueB e x = z := fun _ h => h
    cases hu : x.up with
    | false =>
      have hd : dueB e x = false := by unfold dueB; rw [hu]; rfl
      rw [hd, Bool.false_and, Bool.cond_false] at hn
      simp -dsimp only [go_sem, hg, hu, ↓q1, ↓q2]
      and_intros
      all_goals first
        | omega
        | (simp; done)
        | skip
      refine loop_next (i + 1, b) 1 ⟨⟨by simp only; omega, hn⟩, hb⟩ (by simp only; omega) ?_ ?_
      · simp [go_sem, bestI]
      · simp [go_sem]
    | true =>
      cases h0 : x.len == 0 with
      | true =>
        have hd : dueB e x = false := by unfold dueB; have : x.len = 0 := by simpa using h0
                                         rw [this]; simp
        rw [hd, Bool.false_and, Bool.cond_false] at hn
        simp -dsimp only [go_sem, hg, hu, h0, ↓q1, ↓q2]
        and_intros
        all_goals first
          | omega
          | (simp; done)
          | skip
        refine loop_next (i + 1, b) 1 ⟨⟨by simp only; omega, hn⟩, hb⟩ (by simp only; omega) ?_ ?_
        · simp [go_sem, bestI]
        · simp [go_sem]
      | false =>
        cases h1 : decide (e ≤ x.ren + x.len) with
        | true =>
          have hd : dueB e x = false := by unfold dueB; simp at h1 ⊢; omega
          rw [hd, Bool.false_and, Bool.cond_false] at hn
          simp -dsimp only [go_sem, hg, hu, h0, h1, ↓q1, ↓q2]
          and_intros
          all_goals first
            | omega
            | (simp; done)
            | skip
          refine loop_next (i + 1, b) 1 ⟨⟨by simp only; omega, hn⟩, hb⟩ (by simp only; omega) ?_ ?_
          · simp [go_sem, bestI]
          · simp [go_sem]
        | false =>
          have hd : dueB e x = true := by
            unfold dueB; have : x.len ≠ 0 := by simpa using h0
            simp at h1 ⊢; exact ⟨⟨hu, by omega⟩, by omega⟩
          rw [hd, Bool.true_and] at hn
          cases b with
          | none =>
            have hm : decide ((-1 : Int) < 0) = true := rfl
            simp -dsimp only [go_sem, hg, hu, h0, h1, bestI, hm, ↓q1, ↓q2]
            and_intros
            all_goals first
              | omega
              | (simp; done)
              | skip
            refine loop_next (i + 1, some (i, x)) 1 ⟨⟨by simp only; omega, hn⟩, fun k2 y2 h => by cases h; exact hx⟩ (by simp only; omega) ?_ ?_
            · simp [go_sem, bestI]
            · simp [go_sem]
          | some p =>
            obtain ⟨k, y⟩ := p
            have hy := hb k y rfl
            have hkl := (List.getElem?_eq_some_iff.1 hy).1
            obtain ⟨y1, y2, y3, y4⟩ := hs.lz y (List.mem_of_getElem? hy)
            have r1 := rg_at (row := lzC) hy
            have r2 := rg_at' (row := lzC) hy
            have hm : decide ((k : Int) < 0) = false := by simp
            have hbt : better x (some (k, y)) = (decide (x.ren + x.len < y.ren + y.len) || (x.ren + x.len == y.ren + y.len && decide (x.id < y.id))) := by unfold better; simp only; rw [ltC_eq]; rfl
            rw [hbt] at hn
            cases f1 : decide (x.ren + x.len < y.ren + y.len) with
            | true =>
              rw [f1] at hn
              simp -dsimp only [go_sem, hg, hu, h0, h1, bestI, hm, f1, ↓q1, ↓q2, ↓r1, ↓r2]
              and_intros
              all_goals first
                | omega
                | (simp; done)
                | skip
              refine loop_next (i + 1, some (i, x)) 1 ⟨⟨by simp only; omega, hn⟩, fun k2 y2 h => by cases h; exact hx⟩ (by simp only; omega) ?_ ?_
              · simp [go_sem, bestI]
              · simp [go_sem]
            | false =>
              rw [f1] at hn
              cases f2 : x.ren + x.len == y.ren + y.len with
              | false =>
                rw [f2] at hn
                simp -dsimp only [go_sem, hg, hu, h0, h1, bestI, hm, f1, f2, ↓q1, ↓q2, ↓r1, ↓r2]
                and_intros
                all_goals first
                  | omega
                  | (simp; done)
                  | skip
                refine loop_next (i + 1, some (k, y)) 1 ⟨⟨by simp only; omega, hn⟩, hb⟩ (by simp only; omega) ?_ ?_
                · simp [go_sem, bestI]
                · simp [go_sem]
              | true =>
                rw [f2] at hn
                cases f3 : decide (x.id < y.id) with
                | true =>
                  rw [f3] at hn
                  simp -dsimp only [go_sem, hg, hu, h0, h1, bestI, hm, f1, f2, f3, ↓q1, ↓q2, ↓r1, ↓r2]
                  and_intros
                  all_goals first
                    | omega
                    | (simp; done)
                    | skip
                  refine loop_next (i + 1, some (i, x)) 1 ⟨⟨by simp only; omega, hn⟩, fun k2 y2 h => by cases h; exact hx⟩ (by simp only; omega) ?_ ?_
                  · simp [go_sem, bestI]
                  · simp [go_sem]
                | false =>
                  rw [f3] at hn
                  simp -dsimp only [go_sem, hg, hu, h0, h1, bestI, hm, f1, f2, f3, ↓q1, ↓q2, ↓r1, ↓r2]
                  and_intros
                  all_goals first
                    | omega
                    | (simp; done)
                    | skip
                  refine loop_next (i + 1, some (k, y)) 1 ⟨⟨by simp only; omega, hn⟩, hb⟩ (by simp only; omega) ?_ ?_
                  · simp [go_sem, bestI]
                  · simp [go_sem]
  · have hg : decide ((i : Int) < (s.all.length : Int)) = false := by simp; omega
    simp -dsimp only [go_sem, hg]
    have : s.all.drop i = [] := List.drop_eq_nil_iff.2 (by omega)
    rw [this] at hn
    simp only [nxB] at hn
    unfold nxI at hK'
    rw [← hn] at hK'
    exact .sel [] (by simp) (by simp) rfl (.done hK')
end Go.Proofs.Ytngmjggconefcaa
