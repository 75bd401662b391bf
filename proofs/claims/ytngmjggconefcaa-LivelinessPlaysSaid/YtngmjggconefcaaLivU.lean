/- The reference: sorted. -/
import Derived.Test.YtngmjggconefcaaLivT
namespace Go.Proofs.Ytngmjggconefcaa
open Go.W
theorem rg_to {α : Type} {row : α → List C} {l : List α} {n : Nat} {e : Int} {c : α} (h : l[n]? = some c) (he : e.toNat = n) (p : List C → Prop) : (∀ r, (l.map row)[e.toNat]? = some r → p r) = p (row c) := by
  rw [he, List.getElem?_map, h]; simp
theorem both {A B P : Prop} (p : P) (f : P → A) (g : P → B) : A ∧ B := ⟨f p, g p⟩
theorem ins_at {A : List Chg} {x : Chg} {d : Nat} (hd : d ≤ A.length) (h2 : ∀ y ∈ A.drop d, ltC x y = true) (h1 : ∀ y, d ≠ 0 → A[d - 1]? = some y → ltC x y = false) : inI [] A x [] d = insR ltC A x := by
  have hi := insR_split (lt := ltC) (A.take d) (A.drop d) x h2 (fun y hy => by
    rw [List.getLast?_eq_getElem?, List.length_take, Nat.min_eq_left hd] at hy
    by_cases h0 : d = 0
    · subst h0; simp at hy
    · rw [List.getElem?_take, if_pos (by omega)] at hy
      exact h1 y h0 hy)
  rw [List.take_append_drop] at hi
  rw [hi]; unfold inI; simp
def srtSp : W.Spec := fun av H K =>
  match av, H with
  | [.va (.c1 (.fz rs))], [] => isCh rs ∧ K (.va (.c1 (.fz ((srt ltC (rs.map C.chg)).map chC)))) []
  | _, _ => False
theorem srtSp_open {av : List S} {H : Hp} {K : S → Hp → Prop} (h : srtSp av H K) : ∃ l : List Chg, av = [.va (.c1 (.fz (l.map chC)))] ∧ H = [] ∧ l.length ≤ 600000 ∧ K (.va (.c1 (.fz ((srt ltC l).map chC)))) [] := by
  unfold srtSp at h
  split at h
  · obtain ⟨⟨l, rfl, h1⟩, hK⟩ := h
    rw [chg_map] at hK
    exact ⟨l, rfl, rfl, h1, hK⟩
  · exact h.elim
attribute [go_sem ↓] srtSp
set_option maxRecDepth 100000 in
theorem mSortedR : Meets Try.prog 39 srtSp := by
  refine meets_fn Try.func39 ok39 1 (by rw [Try.ntmps39]; decide) (meetsAll_nil _) (fun av H K h => by obtain ⟨_, rfl, _⟩ := srtSp_open h; rfl) ?_
  intro av H K h
  obtain ⟨l, rfl, rfl, hl, hK⟩ := srtSp_open h
  simp -dsimp only [go_sem, pc39, rs39]
  refine vc_loop_gh (α := Nat) (fun i => [(0, .va (.c1 (.fz (l.map chC)))), (3, .va (.c1 (.sl 0 i))), (4, iS .i64 i)]) (fun i => [.row ((srt ltC (l.take i)).map chC) 31 3]) (fun i => i ≤ l.length) (fun i => l.length - i) (.nil 3 31 3 rfl (gh_at 0 1 (by omega) ?_ ?_)) ?_
  · simp [go_sem]
  · simp [go_sem, srt]
  intro i hi
  rcases Nat.lt_or_ge i l.length with hlt | hge
  · obtain ⟨x, hx⟩ : ∃ x, l[i]? = some x := ⟨_, List.getElem?_eq_getElem hlt⟩
    have q1 := rg_at (row := chC) hx
    have q2 := rg_at' (row := chC) hx
    have hg : decide ((i : Int) < (l.length : Int)) = true := by simp; omega
    obtain ⟨A, hA⟩ : ∃ A, A = srt ltC (l.take i) := ⟨_, rfl⟩
    have hAl : A.length = i := by rw [hA, srt_len, List.length_take]; omega
    have hsn : srt ltC (l.take (i + 1)) = insR ltC A x := by rw [List.take_add_one, hx, hA]; exact srt_snoc _ _
    rw [← hA]
    simp -dsimp only [go_sem, hg, ↓q1, ↓q2]
    refine ⟨⟨by omega, by omega⟩, hAl, by omega, hAl, by omega, ?_⟩
    refine vc_loop (α := Nat) (fun d => [(0, .va (.c1 (.fz (l.map chC)))), (3, .va (.c1 (.sl 0 (i + 1)))), (4, iS .i64 i), (5, iS .i64 d)]) (fun d => [.row ((inI [] A x [] d).map chC) 31 3]) (fun d => d ≤ i ∧ ∀ y ∈ A.drop d, ltC x y = true) (fun d => d) i 1 ⟨Nat.le_refl _, by rw [List.drop_of_length_le (by omega)]; intro y hy; cases hy⟩ ?_ ?_ ?_
    · simp [go_sem]
    · have : inI [] A x [] i = A ++ [x] := by unfold inI; rw [List.take_of_length_le (by omega), List.drop_of_length_le (by omega)]; simp
      rw [this]; simp [go_sem]
    rintro d ⟨hd, hgt⟩
    obtain ⟨L, hL⟩ : ∃ L, L = inI [] A x [] d := ⟨_, rfl⟩
    have hLl : L.length = i + 1 := by rw [hL, inI_len, hAl]; simp
    have hgx : L[d]? = some x := by
      have := in_get [] A x [] (d := d) (by omega)
      rw [hL]; simpa using this
    have hxq1 := rg_at (row := chC) hgx
    have hxq2 := rg_at' (row := chC) hgx
    rw [← hL]
    cases d with
    | zero =>
      have hg2 : decide ((0 : Int) < ((0 : Nat) : Int)) = false := by simp
      simp -dsimp only [go_sem, hg2]
      refine ⟨by omega, loop_next (i + 1) 1 (by omega) (by omega) ?_ ?_⟩
      · simp [go_sem]
      · rw [hsn, hL, ins_at (by omega) hgt (fun y h => absurd rfl h)]; rfl
    | succ d =>
      have hdk : d < A.length := by omega
      obtain ⟨y, hy⟩ : ∃ y, A[d]? = some y := ⟨_, List.getElem?_eq_getElem hdk⟩
      have hgy : L[d]? = some y := by
        have := in_get1 [] A x [] (d := d) (by omega) hy
        rw [hL]; simpa using this
      have hg2 : decide ((0 : Int) < ((d + 1 : Nat) : Int)) = true := by simp only [decide_eq_true_eq]; omega
      have r1 := rg_to (row := chC) (e := ((d + 1 : Nat) : Int) - 1) hgy (by omega)
      have r2 := rg_at (row := chC) hgy
      have hi1 : (((d + 1 : Nat) : Int) - 1).toNat = d := by omega
      have hgy2 : (L.set (d + 1) y)[d]? = some y := by rw [List.getElem?_set, if_neg (by omega)]; exact hgy
      have r3 := rg_at (row := chC) hgy2
      have r4 := rg_to (row := chC) (e := ((d + 1 : Nat) : Int) - 1) hgy2 (by omega)
      have hlt' : ltC x y = (decide (x.at' < y.at') || (x.at' == y.at' && decide (x.id < y.id))) := ltC_eq x y
      cases f1 : decide (x.at' < y.at') with
      | true =>
        simp -dsimp only [go_sem, hg2, f1, ↓hxq1, ↓hxq2, ↓r1, ↓r2, ↓r3, ↓r4, row_set, hi1]
        and_intros
        all_goals first
          | omega
          | exact hLl
          | (simp; done)
          | (simp only [List.length_set]; omega)
          | skip
        refine loop_next d 1 ⟨by omega, fun z hz => ?_⟩ (by omega) ?_ ?_
        · have hdr : A.drop d = y :: A.drop (d + 1) := by
            rw [List.drop_eq_getElem_cons hdk]
            rw [List.getElem?_eq_getElem hdk] at hy
            rw [Option.some.inj hy]
          rw [hdr] at hz
          rcases List.mem_cons.1 hz with rfl | hz
          · rw [hlt', f1]; rfl
          · exact hgt z hz
        · simp [go_sem]
        · have := in_swap [] A x [] (d := d) (by omega) hy
          rw [← hL] at this
          simp at this
          rw [← this]; rfl
      | false =>
        cases f2 : x.at' == y.at' with
        | false =>
          simp -dsimp only [go_sem, hg2, f1, f2, ↓hxq1, ↓hxq2, ↓r1, ↓r2, ↓r3, ↓r4, row_set, hi1]
          and_intros
          all_goals first
            | omega
            | exact hLl
            | skip
          refine loop_next (i + 1) 1 (by omega) (by omega) ?_ ?_
          · simp [go_sem]
          · rw [hsn, hL, ins_at (by omega) hgt (fun z _ hz => by
              rw [Nat.add_sub_cancel, hy] at hz
              cases hz
              rw [hlt', f1, f2]; rfl)]
            rfl
        | true =>
          cases f3 : decide (x.id < y.id) with
          | false =>
            simp -dsimp only [go_sem, hg2, f1, f2, f3, ↓hxq1, ↓hxq2, ↓r1, ↓r2, ↓r3, ↓r4, row_set, hi1]
            and_intros
            all_goals first
              | omega
              | exact hLl
              | skip
            refine loop_next (i + 1) 1 (by omega) (by omega) ?_ ?_
            · simp [go_sem]
            · rw [hsn, hL, ins_at (by omega) hgt (fun z _ hz => by
                rw [Nat.add_sub_cancel, hy] at hz
                cases hz
                rw [hlt', f1, f2, f3]; rfl)]
              rfl
          | true =>
            simp -dsimp only [go_sem, hg2, f1, f2, f3, ↓hxq1, ↓hxq2, ↓r1, ↓r2, ↓r3, ↓r4, row_set, hi1]
            and_intros
            all_goals first
              | omega
              | exact hLl
              | (simp; done)
              | (simp only [List.length_set]; omega)
              | skip
            refine loop_next d 1 ⟨by omega, fun z hz => ?_⟩ (by omega) ?_ ?_
            · have hdr : A.drop d = y :: A.drop (d + 1) := by
                rw [List.drop_eq_getElem_cons hdk]
                rw [List.getElem?_eq_getElem hdk] at hy
                rw [Option.some.inj hy]
              rw [hdr] at hz
              rcases List.mem_cons.1 hz with rfl | hz
              · rw [hlt', f1, f2, f3]; rfl
              · exact hgt z hz
            · simp [go_sem]
            · have := in_swap [] A x [] (d := d) (by omega) hy
              rw [← hL] at this
              simp at this
              rw [← this]; rfl
  · obtain rfl : i = l.length := by omega
    have hg : decide ((l.length : Int) < (l.length : Int)) = false := by simp
    simp -dsimp only [go_sem, hg]
    refine .pub 0 _ _ _ rfl (.sel [] (by simp) (by simp [pubH]) rfl (.done ?_))
    simpa [go_sem, srt_len] using hK
end Go.Proofs.Ytngmjggconefcaa
