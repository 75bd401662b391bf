/- The W library, part 19: sorting by blocks, in plain lists. -/
import Derived.Test.YtngmjggconefcaaW18
namespace Go.W
section
variable {α : Type} {lt : α → α → Bool}
/-- A stretch of a list. -/
def seg (l : List α) (p q : Nat) : List α := (l.take q).drop p
theorem seg_get (l : List α) (p q i : Nat) : (seg l p q)[i]? = if p + i < q then l[p + i]? else none := by
  unfold seg
  rw [List.getElem?_drop, List.getElem?_take]
theorem seg_len (l : List α) (p q : Nat) : (seg l p q).length = min q l.length - p := by unfold seg; rw [List.length_drop, List.length_take]
theorem seg_app (l : List α) {p q r : Nat} (h1 : p ≤ q) (h2 : q ≤ r) : seg l p q ++ seg l q r = seg l p r := by
  refine List.ext_getElem? fun i => ?_
  rw [List.getElem?_append, seg_len, seg_get, seg_get, seg_get]
  split
  · rename_i h
    rw [if_pos (by omega), if_pos (by omega)]
  · rename_i h
    by_cases hq : q ≤ l.length
    · rw [show q + (i - (min q l.length - p)) = p + i by omega]
    · rw [List.getElem?_eq_none (by omega : l.length ≤ q + _), List.getElem?_eq_none (by omega : l.length ≤ p + i)]
      split <;> split <;> rfl
theorem seg_all {l : List α} {q : Nat} (h : l.length ≤ q) : seg l 0 q = l := by unfold seg; rw [List.take_of_length_le h, List.drop_zero]
theorem seg_end {l : List α} {p q r : Nat} (h1 : l.length ≤ q) (h2 : l.length ≤ r) : seg l p q = seg l p r := by unfold seg; rw [List.take_of_length_le h1, List.take_of_length_le h2]
theorem seg_none {l : List α} {p q : Nat} (h : l.length ≤ p) : seg l p q = [] := List.eq_nil_of_length_eq_zero (by rw [seg_len]; omega)
/-- A stretch replaced. -/
def rep (l : List α) (a : Nat) (x : List α) (b : Nat) : List α := l.take a ++ x ++ l.drop b
theorem rep_len {l x : List α} {a b : Nat} (hx : x.length = b - a) (hab : a ≤ b) (hb : b ≤ l.length) : (rep l a x b).length = l.length := by
  unfold rep
  simp only [List.length_append, List.length_take, List.length_drop]; omega
theorem rep_get {l x : List α} {a b : Nat} (hx : x.length = b - a) (hab : a ≤ b) (hb : b ≤ l.length) (i : Nat) : (rep l a x b)[i]? = if i < a then l[i]? else if i < b then x[i - a]? else l[i]? := by
  unfold rep
  rw [List.getElem?_append, List.getElem?_append, List.length_append, List.length_take, hx, Nat.min_eq_left (by omega), List.getElem?_take, List.getElem?_drop]
  by_cases h1 : i < a
  · rw [if_pos (by omega), if_pos h1, if_pos h1, if_pos h1]
  · by_cases h2 : i < b
    · rw [if_pos (by omega), if_neg h1, if_neg h1, if_pos h2]
    · rw [if_neg (by omega), if_neg h1, if_neg h2]; congr 1; omega
theorem seg_rep_eq {l x : List α} {a b : Nat} (hx : x.length = b - a) (hab : a ≤ b) (hb : b ≤ l.length) : seg (rep l a x b) a b = x := by
  refine List.ext_getElem? fun i => ?_
  rw [seg_get, rep_get hx hab hb]
  by_cases h : a + i < b
  · rw [if_pos h, if_neg (by omega), if_pos h, Nat.add_sub_cancel_left]
  · rw [if_neg h, List.getElem?_eq_none (by omega)]
theorem seg_rep_off {l x : List α} {a b p q : Nat} (hx : x.length = b - a) (hab : a ≤ b) (hb : b ≤ l.length) (h : q ≤ a ∨ b ≤ p) : seg (rep l a x b) p q = seg l p q := by
  refine List.ext_getElem? fun i => ?_
  rw [seg_get, seg_get, rep_get hx hab hb]
  split
  · rename_i hpq
    rcases h with h | h
    · rw [if_pos (by omega)]
    · rw [if_neg (by omega), if_neg (by omega)]
  · rfl
/-- Sorted block by block. -/
def Blk (lt : α → α → Bool) (c : Nat) (L M : List α) : Prop := M.length = L.length ∧ ∀ k, seg M (k * c) (k * c + c) = srt lt (seg L (k * c) (k * c + c))
theorem blk_all {c : Nat} {L M : List α} (h : Blk lt c L M) (hc : L.length ≤ c) : M = srt lt L := by
  have := h.2 0
  rw [Nat.zero_mul, Nat.zero_add, seg_all (by rw [h.1]; exact hc), seg_all hc] at this
  exact this
/-- The first blocks, one by one. -/
structure Ins (lt : α → α → Bool) (c : Nat) (L M : List α) (k : Nat) : Prop where
  len : M.length = L.length
  low : ∀ j, j < k → seg M (j * c) (j * c + c) = srt lt (seg L (j * c) (j * c + c))
  high : ∀ p q, k * c ≤ p → seg M p q = seg L p q
theorem ins_zero (c : Nat) (L : List α) : Ins lt c L L 0 := ⟨rfl, fun j hj => by omega, fun _ _ _ => rfl⟩
theorem mul_le {j k c : Nat} (h : j < k) : j * c + c ≤ k * c := by rw [← Nat.succ_mul]; exact Nat.mul_le_mul_right c h
theorem ins_next {c : Nat} {L M : List α} {k : Nat} (h : Ins lt c L M k) (hb : k * c + c ≤ L.length) : Ins lt c L (rep M (k * c) (srt lt (seg M (k * c) (k * c + c))) (k * c + c)) (k + 1) := by
  have hx : (srt lt (seg M (k * c) (k * c + c))).length = k * c + c - k * c := by rw [srt_len, seg_len, h.len]; omega
  have hb' : k * c + c ≤ M.length := by rw [h.len]; exact hb
  refine ⟨by rw [rep_len hx (by omega) hb', h.len], fun j hj => ?_, fun p q hp => ?_⟩
  · rcases Nat.lt_or_ge j k with hjk | hjk
    · rw [seg_rep_off hx (by omega) hb' (.inl (mul_le hjk))]; exact h.low j hjk
    · obtain rfl : j = k := by omega
      rw [seg_rep_eq hx (by omega) hb', h.high _ _ (Nat.le_refl _)]
  · rw [Nat.succ_mul] at hp
    rw [seg_rep_off hx (by omega) hb' (.inr hp)]
    exact h.high p q (by omega)
theorem ins_last {c : Nat} {L M : List α} {k : Nat} (h : Ins lt c L M k) (ha : k * c ≤ L.length) (hb : L.length < k * c + c) : Blk lt c L (rep M (k * c) (srt lt (seg M (k * c) L.length)) L.length) := by
  have hx : (srt lt (seg M (k * c) L.length)).length = L.length - k * c := by rw [srt_len, seg_len, h.len]; omega
  have hb' : L.length ≤ M.length := by rw [h.len]; exact Nat.le_refl _
  have hl := rep_len hx ha hb'
  refine ⟨by rw [hl, h.len], fun j => ?_⟩
  rcases Nat.lt_trichotomy j k with hjk | hjk | hjk
  · rw [seg_rep_off hx ha hb' (.inl (mul_le hjk))]; exact h.low j hjk
  · subst hjk
    rw [seg_end (r := L.length) (by rw [hl, h.len]; omega) (by rw [hl, h.len]; exact Nat.le_refl _), seg_rep_eq hx ha hb', h.high _ _ (Nat.le_refl _), seg_end (l := L) (q := L.length) (r := j * c + c) (Nat.le_refl _) (by omega)]
  · have := mul_le (c := c) hjk
    rw [seg_none (by rw [hl, h.len]; omega), seg_none (l := L) (by omega)]; rfl
/-- Blocks merged by twos. -/
structure Two (lt : α → α → Bool) (c : Nat) (L M : List α) (k : Nat) : Prop where
  len : M.length = L.length
  low : ∀ j, j < k → seg M (j * (2 * c)) (j * (2 * c) + 2 * c) = srt lt (seg L (j * (2 * c)) (j * (2 * c) + 2 * c))
  high : ∀ j, k * (2 * c) ≤ j * c → seg M (j * c) (j * c + c) = srt lt (seg L (j * c) (j * c + c))
theorem two_zero {c : Nat} {L M : List α} (h : Blk lt c L M) : Two lt c L M 0 := ⟨h.1, fun j hj => by omega, fun j _ => h.2 j⟩
theorem two_half {c : Nat} {L M : List α} {k : Nat} (h : Two lt c L M k) : seg M (k * (2 * c)) (k * (2 * c) + c) = srt lt (seg L (k * (2 * c)) (k * (2 * c) + c)) ∧
    seg M (k * (2 * c) + c) (k * (2 * c) + 2 * c) = srt lt (seg L (k * (2 * c) + c) (k * (2 * c) + 2 * c)) := by
  have e1 : 2 * k * c = k * (2 * c) := by rw [Nat.mul_comm 2 k, Nat.mul_assoc]
  have e2 : (2 * k + 1) * c = k * (2 * c) + c := by rw [Nat.succ_mul, e1]
  have h1 := h.high (2 * k) (by omega)
  have h2 := h.high (2 * k + 1) (by omega)
  rw [e1] at h1
  rw [e2, show k * (2 * c) + c + c = k * (2 * c) + 2 * c by omega] at h2
  exact ⟨h1, h2⟩
theorem two_next (hs : Swo lt) {c : Nat} {L M : List α} {k : Nat} (h : Two lt c L M k) (hb : k * (2 * c) + 2 * c ≤ L.length) :
    Two lt c L (rep M (k * (2 * c)) (mrgL lt (seg M (k * (2 * c)) (k * (2 * c) + c)) (seg M (k * (2 * c) + c) (k * (2 * c) + 2 * c))) (k * (2 * c) + 2 * c)) (k + 1) := by
  obtain ⟨h1, h2⟩ := two_half h
  have hb' : k * (2 * c) + 2 * c ≤ M.length := by rw [h.len]; exact hb
  have hm : mrgL lt (seg M (k * (2 * c)) (k * (2 * c) + c)) (seg M (k * (2 * c) + c) (k * (2 * c) + 2 * c)) = srt lt (seg L (k * (2 * c)) (k * (2 * c) + 2 * c)) := by
    rw [h1, h2, srt_mrg hs _ _ _ rfl, seg_app _ (by omega) (by omega)]
  rw [hm]
  have hx : (srt lt (seg L (k * (2 * c)) (k * (2 * c) + 2 * c))).length = k * (2 * c) + 2 * c - k * (2 * c) := by rw [srt_len, seg_len]; omega
  refine ⟨by rw [rep_len hx (by omega) hb', h.len], fun j hj => ?_, fun j hj => ?_⟩
  · rcases Nat.lt_or_ge j k with hjk | hjk
    · rw [seg_rep_off hx (by omega) hb' (.inl (mul_le hjk))]; exact h.low j hjk
    · obtain rfl : j = k := by omega
      rw [seg_rep_eq hx (by omega) hb']
  · rw [Nat.succ_mul] at hj
    rw [seg_rep_off hx (by omega) hb' (.inr hj)]
    exact h.high j (by omega)
theorem two_over {c : Nat} {L M : List α} {k : Nat} (h : Two lt c L M k) (hb : L.length ≤ k * (2 * c) + c) : Blk lt (2 * c) L M := by
  obtain ⟨h1, h2⟩ := two_half h
  refine ⟨h.len, fun j => ?_⟩
  rcases Nat.lt_trichotomy j k with hjk | hjk | hjk
  · exact h.low j hjk
  · subst hjk
    rw [seg_end (l := M) (r := j * (2 * c) + c) (by rw [h.len]; omega) (by rw [h.len]; omega), h1, seg_end (l := L) (q := j * (2 * c) + c) (r := j * (2 * c) + 2 * c) (by omega) (by omega)]
  · have := mul_le (c := 2 * c) hjk
    rw [seg_none (by rw [h.len]; omega), seg_none (l := L) (by omega)]; rfl
theorem two_last (hs : Swo lt) {c : Nat} {L M : List α} {k : Nat} (h : Two lt c L M k) (ha : k * (2 * c) + c ≤ L.length) (hb : L.length < k * (2 * c) + 2 * c) :
    Blk lt (2 * c) L (rep M (k * (2 * c)) (mrgL lt (seg M (k * (2 * c)) (k * (2 * c) + c)) (seg M (k * (2 * c) + c) L.length)) L.length) := by
  obtain ⟨h1, h2⟩ := two_half h
  have hb' : L.length ≤ M.length := by rw [h.len]; exact Nat.le_refl _
  have hm : mrgL lt (seg M (k * (2 * c)) (k * (2 * c) + c)) (seg M (k * (2 * c) + c) L.length) = srt lt (seg L (k * (2 * c)) L.length) := by
    rw [seg_end (l := M) (q := L.length) (r := k * (2 * c) + 2 * c) (by rw [h.len]; exact Nat.le_refl _) (by rw [h.len]; omega), h1, h2, seg_end (l := L) (q := k * (2 * c) + 2 * c) (r := L.length) (by omega) (Nat.le_refl _), srt_mrg hs _ _ _ rfl, seg_app _ (by omega) ha]
  rw [hm]
  have hx : (srt lt (seg L (k * (2 * c)) L.length)).length = L.length - k * (2 * c) := by rw [srt_len, seg_len]; omega
  have hab : k * (2 * c) ≤ L.length := by omega
  have hl := rep_len hx hab hb'
  refine ⟨by rw [hl, h.len], fun j => ?_⟩
  rcases Nat.lt_trichotomy j k with hjk | hjk | hjk
  · rw [seg_rep_off hx hab hb' (.inl (mul_le hjk))]; exact h.low j hjk
  · subst hjk
    rw [seg_end (r := L.length) (by rw [hl, h.len]; omega) (by rw [hl, h.len]; exact Nat.le_refl _), seg_rep_eq hx hab hb', seg_end (l := L) (q := L.length) (r := j * (2 * c) + 2 * c) (Nat.le_refl _) (by omega)]
  · have := mul_le (c := 2 * c) hjk
    rw [seg_none (by rw [hl, h.len]; omega), seg_none (l := L) (by omega)]; rfl
end
end Go.W
