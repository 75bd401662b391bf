/- The W library, part 18: stable sorting and merging, in plain lists. -/
import Derived.Test.YtngmjggconefcaaW17
namespace Go.W
/-- A strict weak order, told by a test. -/
structure Swo {α : Type} (lt : α → α → Bool) : Prop where
  asym : ∀ a b, lt a b = true → lt b a = false
  ntr : ∀ a b c, lt b a = false → lt c b = false → lt c a = false
section
variable {α : Type} {lt : α → α → Bool}
theorem Swo.irr (h : Swo lt) (a : α) : lt a a = false := by
  cases e : lt a a with
  | false => rfl
  | true => have := h.asym a a e; rw [e] at this; exact this
theorem Swo.tr (h : Swo lt) {a b c : α} (h1 : lt a b = true) (h2 : lt b c = true) : lt a c = true := by
  cases e : lt a c with
  | true => rfl
  | false =>
    have h3 := h.asym a b h1
    have := h.ntr c a b e h3
    rw [h2] at this; cases this
/-- x < b ≤ a: x < a. -/
theorem Swo.lt_le (h : Swo lt) {x a b : α} (h1 : lt x b = true) (h2 : lt a b = false) : lt x a = true := by
  cases e : lt x a with
  | true => rfl
  | false => have := h.ntr b a x h2 e; rw [h1] at this; cases this
/-- b ≤ x < a: b < a. -/
theorem Swo.le_lt (h : Swo lt) {x a b : α} (h1 : lt x b = false) (h2 : lt x a = true) : lt b a = true := by
  cases e : lt b a with
  | true => rfl
  | false => have := h.ntr a b x e h1; rw [h2] at this; cases this
/-- In order: nothing is less than what stands before it. -/
def Srt (lt : α → α → Bool) (l : List α) : Prop := l.Pairwise fun a b => lt b a = false
/-- How many stay in front of x that is moved in from behind. -/
def insK (lt : α → α → Bool) (l : List α) (x : α) : Nat := l.length - (l.reverse.takeWhile (lt x)).length
def insR (lt : α → α → Bool) (l : List α) (x : α) : List α := l.take (insK lt l x) ++ x :: l.drop (insK lt l x)
def srt (lt : α → α → Bool) (l : List α) : List α := l.foldl (insR lt) []
theorem takeWhile_split (p : α → Bool) (l1 l2 : List α) (h1 : ∀ y ∈ l1, p y = true) (h2 : ∀ y, l2.head? = some y → p y = false) : (l1 ++ l2).takeWhile p = l1 := by
  induction l1 with
  | nil =>
    cases l2 with
    | nil => rfl
    | cons y l2 => rw [List.nil_append, List.takeWhile_cons, h2 y rfl]; rfl
  | cons y l1 ih => rw [List.cons_append, List.takeWhile_cons, if_pos (h1 y (by simp)), ih fun z hz => h1 z (by simp [hz])]
theorem insR_split (l1 l2 : List α) (x : α) (h2 : ∀ y ∈ l2, lt x y = true) (h1 : ∀ y, l1.getLast? = some y → lt x y = false) : insR lt (l1 ++ l2) x = l1 ++ x :: l2 := by
  have e : ((l1 ++ l2).reverse.takeWhile (lt x)) = l2.reverse := by
    rw [List.reverse_append]
    exact takeWhile_split _ _ _ (fun y hy => h2 y (by simpa using hy)) (fun y hy => h1 y (by rwa [List.head?_reverse] at hy))
  have k : insK lt (l1 ++ l2) x = l1.length := by unfold insK; rw [e]; simp
  unfold insR
  rw [k]
  simp
theorem insR_len (l : List α) (x : α) : (insR lt l x).length = l.length + 1 := by
  unfold insR
  rw [List.length_append, List.length_cons, List.length_take, List.length_drop]
  have : insK lt l x ≤ l.length := by unfold insK; omega
  omega
theorem insR_perm (l : List α) (x : α) : (insR lt l x).Perm (x :: l) := by
  unfold insR
  refine (List.perm_middle).trans ?_
  rw [List.take_append_drop]
theorem srt_snoc (l : List α) (x : α) : srt lt (l ++ [x]) = insR lt (srt lt l) x := by unfold srt; rw [List.foldl_append]; rfl
theorem foldl_perm (l : List α) : ∀ acc, (l.foldl (insR lt) acc).Perm (acc ++ l) := by
  induction l with
  | nil => intro acc; simp
  | cons x l ih =>
    intro acc
    rw [List.foldl_cons]
    refine (ih _).trans (((insR_perm acc x).append_right l).trans ?_)
    rw [List.cons_append]
    exact (List.perm_middle).symm
theorem srt_perm (l : List α) : (srt lt l).Perm l := by have := foldl_perm (lt := lt) l []; simpa [srt] using this
theorem srt_len (l : List α) : (srt lt l).length = l.length := (srt_perm l).length_eq
/-- A list in order, cut where x belongs. -/
theorem cut_at (h : Swo lt) : ∀ (l : List α) (x : α), Srt lt l → ∃ l1 l2, l = l1 ++ l2 ∧ (∀ y ∈ l1, lt x y = false) ∧ (∀ y ∈ l2, lt x y = true)
  | [], x, _ => ⟨[], [], rfl, by simp, by simp⟩
  | y :: l, x, hs => by
    have hp := List.pairwise_cons.1 hs
    cases e : lt x y with
    | true => exact ⟨[], y :: l, rfl, by simp, fun z hz => by
        rcases List.mem_cons.1 hz with rfl | hz
        · exact e
        · exact h.lt_le e (hp.1 z hz)⟩
    | false =>
      obtain ⟨l1, l2, rfl, h1, h2⟩ := cut_at h l x hp.2
      exact ⟨y :: l1, l2, rfl, fun z hz => by
        rcases List.mem_cons.1 hz with rfl | hz
        · exact e
        · exact h1 z hz, h2⟩
theorem insR_srt (h : Swo lt) {l : List α} {x : α} (hs : Srt lt l) : Srt lt (insR lt l x) := by
  obtain ⟨l1, l2, rfl, h1, h2⟩ := cut_at h l x hs
  rw [insR_split l1 l2 x h2 fun y hy => h1 y (List.mem_of_getLast? hy)]
  have hp := List.pairwise_append.1 hs
  refine List.pairwise_append.2 ⟨hp.1, List.pairwise_cons.2 ⟨fun y hy => h.asym _ _ (h2 y hy), hp.2.1⟩, fun a ha b hb => ?_⟩
  rcases List.mem_cons.1 hb with rfl | hb
  · exact h1 a ha
  · exact hp.2.2 a ha b hb
theorem srt_srt (h : Swo lt) (l : List α) : Srt lt (srt lt l) := by
  have : ∀ (l acc : List α), Srt lt acc → Srt lt (l.foldl (insR lt) acc) := by
    intro l
    induction l with
    | nil => intro acc ha; exact ha
    | cons x l ih => intro acc ha; exact ih _ (insR_srt h ha)
  exact this l [] List.Pairwise.nil
theorem srt_id (h : Swo lt) : ∀ (l : List α), Srt lt l → srt lt l = l := by
  have : ∀ (l acc : List α), Srt lt (acc ++ l) → l.foldl (insR lt) acc = acc ++ l := by
    intro l
    induction l with
    | nil => intro acc _; simp
    | cons x l ih =>
      intro acc ha
      have hp := List.pairwise_append.1 ha
      have e : insR lt acc x = acc ++ [x] := by
        have := insR_split (lt := lt) acc [] x (by simp) (fun y hy => hp.2.2 y (List.mem_of_getLast? hy) x (by simp))
        simpa using this
      rw [List.foldl_cons, e, ih (acc ++ [x]) (by simpa using ha)]
      simp
  intro l hl
  exact this l [] (by simpa using hl)
/-- The stable merge. -/
def mrgL (lt : α → α → Bool) : List α → List α → List α
  | [], ys => ys
  | x :: xs, [] => x :: xs
  | x :: xs, y :: ys => if lt y x = true then y :: mrgL lt (x :: xs) ys else x :: mrgL lt xs (y :: ys)
  termination_by xs ys => xs.length + ys.length
theorem mrg_nil (ys : List α) : mrgL lt [] ys = ys := by rw [mrgL.eq_def]
theorem mrg_nil' (xs : List α) : mrgL lt xs [] = xs := by cases xs <;> rw [mrgL.eq_def]
theorem mrg_cons (x y : α) (xs ys : List α) : mrgL lt (x :: xs) (y :: ys) = if lt y x = true then y :: mrgL lt (x :: xs) ys else x :: mrgL lt xs (y :: ys) := by rw [mrgL.eq_def]
theorem mrg_perm : ∀ (xs ys : List α), (mrgL lt xs ys).Perm (xs ++ ys)
  | [], ys => by rw [mrg_nil]; exact List.Perm.refl _
  | x :: xs, [] => by rw [mrg_nil', List.append_nil]
  | x :: xs, y :: ys => by
    rw [mrg_cons]
    split
    · exact ((mrg_perm (x :: xs) ys).cons y).trans (List.perm_middle).symm
    · exact (mrg_perm xs (y :: ys)).cons x
  termination_by xs ys => xs.length + ys.length
theorem mrg_len (xs ys : List α) : (mrgL lt xs ys).length = xs.length + ys.length := by rw [(mrg_perm xs ys).length_eq, List.length_append]
theorem mrg_split : ∀ (A1 B1 A2 B2 : List α), (∀ a ∈ A1, ∀ b ∈ B2, lt b a = false) → (∀ b ∈ B1, ∀ a ∈ A2, lt b a = true) → mrgL lt (A1 ++ A2) (B1 ++ B2) = mrgL lt A1 B1 ++ mrgL lt A2 B2
  | [], [], A2, B2, _, _ => by rw [mrg_nil]; rfl
  | [], b :: B1, A2, B2, h1, h2 => by
    rw [mrg_nil]
    have ih := mrg_split [] B1 A2 B2 h1 fun c hc => h2 c (by simp [hc])
    rw [mrg_nil] at ih
    simp only [List.nil_append, List.cons_append] at ih ⊢
    cases A2 with
    | nil => rw [mrg_nil, mrg_nil]
    | cons a A2 => rw [mrg_cons, if_pos (h2 b (by simp) a (by simp)), ih]
  | a :: A1, [], A2, B2, h1, h2 => by
    rw [mrg_nil']
    have ih := mrg_split A1 [] A2 B2 (fun c hc => h1 c (by simp [hc])) h2
    rw [mrg_nil'] at ih
    simp only [List.nil_append, List.cons_append] at ih ⊢
    cases B2 with
    | nil => rw [mrg_nil', mrg_nil']
    | cons b B2 => rw [mrg_cons, if_neg (by rw [h1 a (by simp) b (by simp)]; decide), ih]
  | a :: A1, b :: B1, A2, B2, h1, h2 => by
    simp only [List.cons_append]
    rw [mrg_cons, mrg_cons]
    split
    · have ih := mrg_split (a :: A1) B1 A2 B2 h1 fun c hc => h2 c (by simp [hc])
      simp only [List.cons_append] at ih ⊢
      rw [ih]
    · have ih := mrg_split A1 (b :: B1) A2 B2 (fun c hc => h1 c (by simp [hc])) h2
      simp only [List.cons_append] at ih ⊢
      rw [ih]
  termination_by A1 B1 => A1.length + B1.length
theorem mem_mrg {xs ys : List α} {z : α} : z ∈ mrgL lt xs ys ↔ z ∈ xs ∨ z ∈ ys := by rw [(mrg_perm xs ys).mem_iff, List.mem_append]
theorem mrg_srt (h : Swo lt) : ∀ (xs ys : List α), Srt lt xs → Srt lt ys → Srt lt (mrgL lt xs ys)
  | [], ys, _, hy => by rw [mrg_nil]; exact hy
  | x :: xs, [], hx, _ => by rw [mrg_nil']; exact hx
  | x :: xs, y :: ys, hx, hy => by
    have px := List.pairwise_cons.1 hx
    have py := List.pairwise_cons.1 hy
    rw [mrg_cons]
    split
    · rename_i e
      refine List.pairwise_cons.2 ⟨fun z hz => ?_, mrg_srt h (x :: xs) ys hx py.2⟩
      rcases mem_mrg.1 hz with hz | hz
      · rcases List.mem_cons.1 hz with rfl | hz
        · exact h.asym _ _ e
        · exact h.asym _ _ (h.lt_le e (px.1 z hz))
      · exact py.1 z hz
    · rename_i e
      have e' : lt y x = false := by simpa using e
      refine List.pairwise_cons.2 ⟨fun z hz => ?_, mrg_srt h xs (y :: ys) px.2 hy⟩
      rcases mem_mrg.1 hz with hz | hz
      · exact px.1 z hz
      · rcases List.mem_cons.1 hz with rfl | hz
        · exact e'
        · exact h.ntr _ _ _ e' (py.1 z hz)
  termination_by xs ys => xs.length + ys.length
/-- Merging what was sorted apart is sorting. -/
theorem srt_mrg (h : Swo lt) (A : List α) : ∀ (n : Nat) (B : List α), B.length = n → mrgL lt (srt lt A) (srt lt B) = srt lt (A ++ B)
  | 0, B, hB => by
    obtain rfl := List.eq_nil_of_length_eq_zero hB
    rw [List.append_nil]
    exact mrg_nil' _
  | n + 1, B, hB => by
    obtain ⟨B', x, rfl⟩ : ∃ B' x, B = B' ++ [x] := by
      have hne : B ≠ [] := fun e => by rw [e] at hB; cases hB
      exact ⟨B.dropLast, B.getLast hne, (List.dropLast_concat_getLast hne).symm⟩
    have hB' : B'.length = n := by simpa using hB
    have ih := srt_mrg h A n B' hB'
    rw [← List.append_assoc, srt_snoc, srt_snoc, ← ih]
    obtain ⟨S1, S2, hS, s1, s2⟩ := cut_at h (srt lt A) x (srt_srt h A)
    obtain ⟨T1, T2, hT, t1, t2⟩ := cut_at h (srt lt B') x (srt_srt h B')
    rw [hS, hT, insR_split T1 T2 x t2 fun y hy => t1 y (List.mem_of_getLast? hy)]
    have c1 : ∀ a ∈ S1, ∀ b ∈ T2, lt b a = false := fun a ha b hb => by
      cases e : lt b a with
      | false => rfl
      | true => have := h.tr (t2 b hb) e; rw [s1 a ha] at this; cases this
    have c2 : ∀ b ∈ T1, ∀ a ∈ S2, lt b a = true := fun b hb a ha => h.le_lt (t1 b hb) (s2 a ha)
    have e1 : mrgL lt (S1 ++ S2) (T1 ++ x :: T2) = mrgL lt S1 (T1 ++ [x]) ++ mrgL lt S2 T2 := by
      have := mrg_split S1 (T1 ++ [x]) S2 T2 c1 (fun b hb a ha => by
        rcases List.mem_append.1 hb with hb | hb
        · exact c2 b hb a ha
        · simp only [List.mem_cons, List.not_mem_nil, or_false] at hb
          subst hb
          exact s2 a ha)
      simpa using this
    have e2 : mrgL lt S1 (T1 ++ [x]) = mrgL lt S1 T1 ++ [x] := by
      have := mrg_split S1 T1 [] [x] (fun a ha b hb => by
        simp only [List.mem_cons, List.not_mem_nil, or_false] at hb
        subst hb
        exact s1 a ha) (fun b _ a ha => by cases ha)
      simpa [mrg_nil] using this
    rw [e1, e2, mrg_split S1 T1 S2 T2 c1 c2, insR_split _ _ x (fun y hy => by
      rcases mem_mrg.1 hy with hy | hy
      · exact s2 y hy
      · exact t2 y hy) (fun y hy => by
      rcases mem_mrg.1 (List.mem_of_getLast? hy) with hy | hy
      · exact s1 y hy
      · exact t1 y hy)]
    simp
theorem srt_le {U : List α} (hs : Srt lt U) {i j : Nat} {a b : α} (hij : i < j) (h1 : U[i]? = some a) (h2 : U[j]? = some b) : lt b a = false := by
  have hj := (List.getElem?_eq_some_iff.1 h2)
  have hi := (List.getElem?_eq_some_iff.1 h1)
  obtain ⟨hj1, rfl⟩ := hj
  obtain ⟨hi1, rfl⟩ := hi
  exact List.pairwise_iff_getElem.1 hs i j hi1 hj1 hij
theorem srt_le' (h : Swo lt) {U : List α} (hs : Srt lt U) {i j : Nat} {a b : α} (hij : i ≤ j) (h1 : U[i]? = some a) (h2 : U[j]? = some b) : lt b a = false := by
  rcases Nat.lt_or_ge i j with hlt | hge
  · exact srt_le hs hlt h1 h2
  · obtain rfl : i = j := by omega
    rw [h1] at h2
    rw [Option.some.inj h2]
    exact h.irr _
/-- A merge, cut where a search ends. -/
theorem mrg_cut (h : Swo lt) {U V : List α} (hU : Srt lt U) (hV : Srt lt V) {s e : Nat}
    (h1 : s = 0 ∨ V.length ≤ e ∨ ∃ u v, U[s - 1]? = some u ∧ V[e]? = some v ∧ lt v u = false) (h2 : U.length ≤ s ∨ e = 0 ∨ ∃ u v, U[s]? = some u ∧ V[e - 1]? = some v ∧ lt v u = true) :
    mrgL lt U V = mrgL lt (U.take s) (V.take e) ++ mrgL lt (U.drop s) (V.drop e) := by
  conv => lhs; rw [← List.take_append_drop s U, ← List.take_append_drop e V]
  refine mrg_split _ _ _ _ (fun a ha b hb => ?_) (fun b hb a ha => ?_)
  · obtain ⟨i, hi⟩ := List.mem_iff_getElem?.1 ha
    obtain ⟨j, hj⟩ := List.mem_iff_getElem?.1 hb
    rw [List.getElem?_take] at hi
    rw [List.getElem?_drop] at hj
    split at hi
    · rename_i his
      rcases h1 with h1 | h1 | ⟨u, v, hu, hv, huv⟩
      · omega
      · have := (List.getElem?_eq_some_iff.1 hj).1; omega
      · exact h.ntr a u b (srt_le' h hU (by omega) hi hu) (h.ntr u v b huv (srt_le' h hV (by omega) hv hj))
    · cases hi
  · obtain ⟨i, hi⟩ := List.mem_iff_getElem?.1 ha
    obtain ⟨j, hj⟩ := List.mem_iff_getElem?.1 hb
    rw [List.getElem?_take] at hj
    rw [List.getElem?_drop] at hi
    split at hj
    · rename_i hje
      rcases h2 with h2 | h2 | ⟨u, v, hu, hv, huv⟩
      · have := (List.getElem?_eq_some_iff.1 hi).1; omega
      · omega
      · exact h.lt_le (h.le_lt (srt_le' h hV (by omega) hj hv) huv) (srt_le' h hU (by omega) hu hi)
    · cases hj
/-- A place in a list, and what is put there. -/
theorem set_mid (P Q : List α) (x y : α) {n : Nat} (h : P.length = n) : (P ++ x :: Q).set n y = P ++ y :: Q := by
  subst h
  rw [List.set_append_right _ _ (Nat.le_refl _), Nat.sub_self]; rfl
theorem get_mid (P Q : List α) (x : α) {n : Nat} (h : P.length = n) : (P ++ x :: Q)[n]? = some x := by
  subst h
  rw [List.getElem?_append_right (Nat.le_refl _), Nat.sub_self]; rfl
end
end Go.W
