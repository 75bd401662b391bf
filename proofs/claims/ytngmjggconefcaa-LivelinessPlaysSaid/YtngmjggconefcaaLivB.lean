/- Insertion sort. -/
import Derived.Test.YtngmjggconefcaaLivA
namespace Go.Proofs.Ytngmjggconefcaa
open Go.W
abbrev cmpV : S := .va (.c1 (.fn 34 []))
abbrev chH (l : List Chg) : Hp := [.row (l.map chC) 44 3]
/-- Between two places of a row. -/
def insSp : W.Spec := fun av H K => ∃ P Q R : List Chg, av = [.va (.c1 (.sl 0 (P ++ Q ++ R).length)), iS .i64 P.length, iS .i64 (P.length + Q.length : Nat), cmpV] ∧ H = chH (P ++ Q ++ R) ∧ (P ++ Q ++ R).length ≤ 1000000 ∧
  K (.tu []) (chH (P ++ srt ltC Q ++ R))
/-- What is read at a known place of a row. -/
theorem row_at' {l : List Chg} {n : Nat} {c : Chg} (h : l[n]? = some c) (p : List C → Prop) : (∀ r, (l.map chC)[n]? = some r → p r) = p (chC c) := by
  rw [List.getElem?_map, h]; simp
theorem row_set (l : List Chg) (n : Nat) (c : Chg) : (l.map chC).set n (chC c) = (l.set n c).map chC := by rw [List.map_set]
theorem row_at {l : List Chg} {i : Int} {n : Nat} {c : Chg} (hi : i.toNat = n) (h : l[n]? = some c) (p : List C → Prop) : (∀ r, (l.map chC)[i.toNat]? = some r → p r) = p (chC c) := by
  rw [hi, List.getElem?_map, h]; simp
def outI (P Q R : List Chg) (k : Nat) : List Chg := P ++ (srt ltC (Q.take k) ++ Q.drop k) ++ R
def inI (P A : List Chg) (x : Chg) (B : List Chg) (d : Nat) : List Chg := P ++ (A.take d ++ x :: (A.drop d ++ B))
theorem outI_len (P Q R : List Chg) (k : Nat) : (outI P Q R k).length = P.length + Q.length + R.length := by
  unfold outI
  simp only [List.length_append, srt_len, List.length_take, List.length_drop]; omega
theorem inI_len {P A : List Chg} {x : Chg} {B : List Chg} {d : Nat} : (inI P A x B d).length = P.length + A.length + 1 + B.length := by
  unfold inI
  simp only [List.length_append, List.length_cons, List.length_take, List.length_drop]; omega
theorem out_in {P Q R : List Chg} {k : Nat} {x : Chg} (h : Q[k]? = some x) : outI P Q R k = inI P (srt ltC (Q.take k)) x (Q.drop (k + 1) ++ R) k := by
  have hk := (List.getElem?_eq_some_iff.1 h).1
  have hl : (srt ltC (Q.take k)).length = k := by rw [srt_len, List.length_take]; omega
  have hd : Q.drop k = x :: Q.drop (k + 1) := by
    rw [List.drop_eq_getElem_cons hk]
    rw [List.getElem?_eq_getElem hk] at h
    rw [Option.some.inj h]
  unfold outI inI
  rw [hd, List.take_of_length_le (l := srt ltC (Q.take k)) (by omega), List.drop_of_length_le (l := srt ltC (Q.take k)) (by omega)]
  simp
theorem in_out {P Q R : List Chg} {k d : Nat} {x : Chg} (h : Q[k]? = some x) (hd : d ≤ k) (h2 : ∀ y ∈ (srt ltC (Q.take k)).drop d, ltC x y = true) (h1 : ∀ y, d ≠ 0 → (srt ltC (Q.take k))[d - 1]? = some y → ltC x y = false) :
    inI P (srt ltC (Q.take k)) x (Q.drop (k + 1) ++ R) d = outI P Q R (k + 1) := by
  have hk := (List.getElem?_eq_some_iff.1 h).1
  have hl : (srt ltC (Q.take k)).length = k := by rw [srt_len, List.length_take]; omega
  have ht : Q.take (k + 1) = Q.take k ++ [x] := by rw [List.take_add_one, h]; rfl
  have hi := insR_split (lt := ltC) ((srt ltC (Q.take k)).take d) ((srt ltC (Q.take k)).drop d) x h2 (fun y hy => by
    rw [List.getLast?_eq_getElem?, List.length_take, hl, Nat.min_eq_left hd] at hy
    by_cases h0 : d = 0
    · subst h0; simp at hy
    · rw [List.getElem?_take, if_pos (by omega)] at hy
      exact h1 y h0 hy)
  rw [List.take_append_drop] at hi
  unfold outI inI
  rw [ht, srt_snoc, hi]
  simp
theorem in_get (P A : List Chg) (x : Chg) (B : List Chg) {d : Nat} (h : d ≤ A.length) : (inI P A x B d)[P.length + d]? = some x := by
  unfold inI
  rw [← List.append_assoc]
  exact get_mid _ _ _ (by rw [List.length_append, List.length_take]; omega)
theorem in_get1 (P A : List Chg) (x : Chg) (B : List Chg) {d : Nat} {y : Chg} (hd : d + 1 ≤ A.length) (h : A[d]? = some y) : (inI P A x B (d + 1))[P.length + d]? = some y := by
  unfold inI
  rw [List.getElem?_append_right (by omega), Nat.add_sub_cancel_left, List.getElem?_append_left (by rw [List.length_take]; omega), List.getElem?_take, if_pos (by omega)]
  exact h
theorem in_swap (P A : List Chg) (x : Chg) (B : List Chg) {d : Nat} {y : Chg} (hd : d + 1 ≤ A.length) (h : A[d]? = some y) : ((inI P A x B (d + 1)).set (P.length + (d + 1)) y).set (P.length + d) x = inI P A x B d := by
  have hy := (List.getElem?_eq_some_iff.1 h).1
  have ht : A.take (d + 1) = A.take d ++ [y] := by rw [List.take_add_one, h]; rfl
  have hdr : A.drop d = y :: A.drop (d + 1) := by
    rw [List.drop_eq_getElem_cons hy]
    rw [List.getElem?_eq_getElem hy] at h
    rw [Option.some.inj h]
  unfold inI
  rw [ht, hdr, ← List.append_assoc, set_mid _ _ _ _ (by simp only [List.length_append, List.length_take, List.length_cons, List.length_nil]; omega)]
  have : P ++ (A.take d ++ [y]) ++ y :: (A.drop (d + 1) ++ B) = (P ++ A.take d) ++ y :: (y :: (A.drop (d + 1) ++ B)) := by simp
  rw [this, set_mid _ _ _ _ (by simp only [List.length_append, List.length_take]; omega)]
  simp
set_option maxRecDepth 100000 in
theorem mIns : Meets Try.prog 42 insSp := by
  refine meets_fn Try.func42 ok42 4 (by rw [Try.ntmps42]; decide) (meetsAll_f mCmp (meetsAll_nil _)) (fun av H K h => by obtain ⟨_, _, _, rfl, _⟩ := h; rfl) ?_
  intro av H K h
  obtain ⟨P, Q, R, rfl, rfl, hn, hK⟩ := h
  have hlen : (P ++ Q ++ R).length = P.length + Q.length + R.length := by rw [List.length_append, List.length_append]
  rw [hlen] at hn ⊢
  obtain ⟨n, hN⟩ : ∃ n, n = P.length + Q.length + R.length := ⟨_, rfl⟩
  rw [← hN] at hn ⊢
  have h1 : outI P Q R 1 = P ++ Q ++ R := by
    unfold outI
    cases Q with
    | nil => rfl
    | cons x Q => simp [srt, insR, insK]
  simp -dsimp only [go_sem, pc42, rs42]
  refine ⟨by omega, vc_loop (α := Nat) (fun k => [(0, .va (.c1 (.sl 0 n))), (1, iS .i64 P.length), (2, iS .i64 (P.length + Q.length : Nat)), (3, cmpV), (8, iS .i64 (P.length + k : Nat))]) (fun k => chH (outI P Q R k)) (fun k => 1 ≤ k ∧ (k ≤ Q.length ∨ k = 1)) (fun k => Q.length + 1 - k) 1 1 ⟨by omega, .inr rfl⟩ ?_ ?_ ?_⟩
  · simp [go_sem]
  · rw [h1]; rfl
  rintro k ⟨hk1, hk2⟩
  simp -dsimp only [go_sem]
  refine ⟨fun h2 => ?_, fun h2 => ?_⟩
  · have hkQ : k < Q.length := by simp at h2; omega
    obtain ⟨x, hx⟩ : ∃ x, Q[k]? = some x := ⟨_, List.getElem?_eq_getElem hkQ⟩
    have hAl : (srt ltC (Q.take k)).length = k := by rw [srt_len, List.length_take]; omega
    refine vc_loop (α := Nat) (fun d => [(0, .va (.c1 (.sl 0 n))), (1, iS .i64 P.length), (2, iS .i64 (P.length + Q.length : Nat)), (3, cmpV), (8, iS .i64 (P.length + k : Nat)), (9, iS .i64 (P.length + d : Nat))])
      (fun d => chH (inI P (srt ltC (Q.take k)) x (Q.drop (k + 1) ++ R) d)) (fun d => d ≤ k ∧ ∀ y ∈ (srt ltC (Q.take k)).drop d, ltC x y = true) (fun d => d) k 1 ⟨Nat.le_refl _, by rw [List.drop_of_length_le (by omega)]; intro y hy; cases hy⟩ ?_ ?_ ?_
    · simp [go_sem]
    · rw [out_in hx]; rfl
    rintro d ⟨hd, hgt⟩
    obtain ⟨L, hL⟩ : ∃ L, L = inI P (srt ltC (Q.take k)) x (Q.drop (k + 1) ++ R) d := ⟨_, rfl⟩
    have hLl : L.length = n := by rw [hL, inI_len, hAl, List.length_append, List.length_drop]; omega
    have hgx : L[P.length + d]? = some x := by rw [hL]; exact in_get _ _ _ _ (by omega)
    rw [← hL]
    cases d with
    | zero =>
      have hg : decide ((P.length : Int) < (P.length : Int)) = false := by simp
      simp -dsimp only [go_sem, hg]
      refine ⟨by omega, loop_next (k + 1) 1 ⟨by omega, .inl (by omega)⟩ (by omega) ?_ ?_⟩
      · simp [go_sem]; omega
      · rw [hL, in_out hx hd hgt (fun y h0 => absurd rfl h0)]; rfl
    | succ d =>
      have hdk : d < (srt ltC (Q.take k)).length := by omega
      obtain ⟨y, hy⟩ : ∃ y, (srt ltC (Q.take k))[d]? = some y := ⟨_, List.getElem?_eq_getElem hdk⟩
      have hgy : L[P.length + d]? = some y := by rw [hL]; exact in_get1 _ _ _ _ (by omega) hy
      have hg : decide ((P.length : Int) < ((P.length + (d + 1) : Nat) : Int)) = true := by simp; omega
      have hi1 : (((P.length + (d + 1) : Nat) : Int) - 1).toNat = P.length + d := by omega
      have hq1 := row_at (i := ((P.length + (d + 1) : Nat) : Int)) (by omega) hgx
      have hq2 := row_at (i := ((P.length + (d + 1) : Nat) : Int) - 1) hi1 hgy
      have hq3 := row_at' hgx
      have hgy2 : (L.set (P.length + (d + 1)) y)[P.length + d]? = some y := by rw [List.getElem?_set, if_neg (by omega)]; exact hgy
      have hq4 := row_at' hgy2
      have hq6 := row_at' hgy
      have hcv : ∀ a b : Chg, ccFn.val [.va (.gs (chC a)), .va (.gs (chC b))] = iA .i64 (cmpC a b) := fun _ _ => rfl
      have hq5 := row_at (i := ((P.length + (d + 1) : Nat) : Int) - 1) hi1 hgy2
      have hlt : decide (cmpC x y < 0) = ltC x y := rfl
      simp -dsimp only [go_sem, hg, ↓hq1, ↓hq2, ↓hq3, ↓hq4, ↓hq5, ↓hq6, row_set, hcv, hlt, hi1]
      refine ⟨⟨⟨by omega, by omega⟩, hLl⟩, ⟨hLl, by omega⟩, by omega, ⟨⟨by omega, by omega⟩, hLl⟩, ⟨hLl, by omega⟩, ccPre_mk x y, fun h3 => ?_, fun h3 => ?_⟩
      · and_intros
        all_goals first
          | omega
          | (simp; omega)
          | skip
        refine loop_next d 1 ⟨by omega, fun z hz => ?_⟩ (by omega) ?_ ?_
        · have hdr : (srt ltC (Q.take k)).drop d = y :: (srt ltC (Q.take k)).drop (d + 1) := by
            rw [List.drop_eq_getElem_cons hdk]
            rw [List.getElem?_eq_getElem hdk] at hy
            rw [Option.some.inj hy]
          rw [hdr] at hz
          rcases List.mem_cons.1 hz with rfl | hz
          · exact h3
          · exact hgt z hz
        · simp [go_sem]; omega
        · have hsw := in_swap P _ x (Q.drop (k + 1) ++ R) (by omega) hy
          rw [← hL] at hsw
          rw [← hsw]
          rfl
      · refine ⟨by omega, loop_next (k + 1) 1 ⟨by omega, .inl (by omega)⟩ (by omega) ?_ ?_⟩
        · simp [go_sem]; omega
        · rw [hL, in_out hx hd hgt (fun z _ hz => by
            rw [Nat.add_sub_cancel, hy] at hz
            rw [← Option.some.inj hz]; exact h3)]
          rfl
  · have hk : Q.length ≤ k := by simp at h2; omega
    have : outI P Q R k = P ++ srt ltC Q ++ R := by
      unfold outI
      rw [List.take_of_length_le hk, List.drop_of_length_le hk, List.append_nil]
    rw [this]
    exact .done hK
end Go.Proofs.Ytngmjggconefcaa
