/- The law of apartness, plain. -/
import Derived.Test.YtngmjggconefcaaLivZ
namespace Go.Proofs.Ytngmjggconefcaa
open Go.W
abbrev isI (id : Int) (x : Lz) : Bool := x.id == id
theorem findL_split : ∀ (l : List Lz) (id : Int) (i : Nat), 0 ≤ findL l id i → ∃ l1 x l2, l = l1 ++ x :: l2 ∧ (∀ z ∈ l1, isI id z = false) ∧ x.id = id ∧ findL l id i = (i + l1.length : Nat)
  | [], _, _, h => by simp [findL] at h
  | x :: l, id, i, h => by
    cases hx : x.id == id with
    | true => exact ⟨[], x, l, rfl, fun z hz => (by cases hz), by simpa using hx, by simp [findL, hx]⟩
    | false =>
      have e : findL (x :: l) id i = findL l id (i + 1) := by simp [findL, hx]
      rw [e] at h ⊢
      obtain ⟨l1, y, l2, h1, h2, h3, h4⟩ := findL_split l id (i + 1) h
      refine ⟨x :: l1, y, l2, by rw [h1]; rfl, fun z hz => ?_, h3, by rw [h4]; simp; omega⟩
      rcases List.mem_cons.1 hz with rfl | hz
      · exact hx
      · exact h2 z hz
theorem findL_ge : ∀ (l : List Lz) (id : Int) (i : Nat), (∃ x ∈ l, x.id = id) → 0 ≤ findL l id i
  | [], _, _, h => by obtain ⟨x, hx, _⟩ := h; cases hx
  | x :: l, id, i, h => by
    simp only [findL]
    cases hx : x.id == id with
    | true => simp
    | false =>
      obtain ⟨y, hy, hi⟩ := h
      rcases List.mem_cons.1 hy with rfl | hy
      · rw [hi] at hx; simp at hx
      · exact findL_ge l id (i + 1) ⟨y, hy, hi⟩
theorem findL_sign {l m : List Lz} {id : Int} (h : l.filter (isI id) = m.filter (isI id)) : decide (findL l id 0 < 0) = decide (findL m id 0 < 0) := by
  have key : ∀ {a b : List Lz}, a.filter (isI id) = b.filter (isI id) → 0 ≤ findL a id 0 → 0 ≤ findL b id 0 := fun {a b} h h0 => by
    obtain ⟨l1, x, l2, rfl, _, hx, _⟩ := findL_split a id 0 h0
    have : x ∈ b.filter (isI id) := by rw [← h]; exact List.mem_filter.2 ⟨by simp, by simpa using hx⟩
    exact findL_ge b id 0 ⟨x, (List.mem_filter.1 this).1, hx⟩
  have := key h; have := key h.symm
  rw [Bool.eq_iff_iff]; simp only [decide_eq_true_eq]; omega
/-- The filter, where a list is split at the first of an id. -/
theorem filt_none {l : List Lz} {id : Int} (h : ∀ z ∈ l, isI id z = false) : l.filter (isI id) = [] := List.filter_eq_nil_iff.2 fun z hz => by rw [h z hz]; simp
theorem filt_split {l1 l2 : List Lz} {x : Lz} {id : Int} (h : ∀ z ∈ l1, isI id z = false) (hx : x.id = id) : (l1 ++ x :: l2).filter (isI id) = x :: l2.filter (isI id) := by
  rw [List.filter_append, filt_none h, List.nil_append, List.filter_cons, if_pos (by simpa using hx)]
theorem filt_other {l1 l2 : List Lz} {x y : Lz} {id : Int} (hx : x.id ≠ id) (hy : y.id = x.id) : (l1 ++ x :: l2).filter (isI id) = (l1 ++ y :: l2).filter (isI id) := by
  rw [List.filter_append, List.filter_append, List.filter_cons, List.filter_cons, if_neg (by simpa using hx), if_neg (by simpa [hy] using hx)]
theorem filt_del {l1 l2 : List Lz} {x : Lz} {id : Int} (hx : x.id ≠ id) : (l1 ++ x :: l2).filter (isI id) = (l1 ++ l2).filter (isI id) := by
  rw [List.filter_append, List.filter_append, List.filter_cons, if_neg (by simpa using hx)]
theorem set_at {l1 l2 : List Lz} {x y : Lz} : (l1 ++ x :: l2).set l1.length y = l1 ++ y :: l2 := set_mid _ _ _ _ rfl
theorem del_at {l1 l2 : List Lz} {x : Lz} : (l1 ++ x :: l2).eraseIdx l1.length = l1 ++ l2 := by
  rw [List.eraseIdx_append_of_length_le (Nat.le_refl _), Nat.sub_self]; rfl
theorem get_at {l1 l2 : List Lz} {x : Lz} : (l1 ++ x :: l2)[l1.length]? = some x := get_mid _ _ _ rfl
/-- The same but for what is not of the id; what is not of the id in the second one never expires. -/
structure Co (id hp : Int) (b o : Ls) : Prop where
  now : o.now = b.now
  all : o.all.filter (isI id) = b.all.filter (isI id)
  rest : ∀ x ∈ o.all, x.id = id ∨ (x.len = 0 ∧ x.up = true)
  pend : o.pend = b.pend.filter fun c => c.id == id
theorem filt_mv (e id : Int) (l : List Lz) : (l.map (mv1 e)).filter (isI id) = (l.filter (isI id)).map (mv1 e) := by
  rw [List.filter_map]
  congr 1
  refine List.filter_congr fun x _ => ?_
  simp [isI, mv1_id]
theorem filt_end (e id : Int) (l : List Lz) : (endL e l).filter (fun c => c.id == id) = endL e (l.filter (isI id)) := by
  unfold endL
  rw [List.filter_map, List.filter_filter, List.filter_filter]
  congr 1
  refine List.filter_congr fun x _ => ?_
  simp [isI, Bool.and_comm]
theorem end_rest (e id : Int) (l : List Lz) (h : ∀ x ∈ l, x.id = id ∨ (x.len = 0 ∧ x.up = true)) : endL e l = endL e (l.filter (isI id)) := by
  unfold endL
  rw [List.filter_filter]
  congr 1
  refine List.filter_congr fun x hx => ?_
  rcases h x hx with h | ⟨h, _⟩
  · simp [isI, h]
  · unfold dueB; simp [h]
theorem co_mv {id hp : Int} {b o : Ls} (h : Co id hp b o) (t e : Int) : Co id hp (b.mv t e) (o.mv t e) := by
  refine ⟨rfl, ?_, fun x hx => ?_, ?_⟩
  · show (o.all.map (mv1 e)).filter _ = (b.all.map (mv1 e)).filter _
    rw [filt_mv, filt_mv, h.all]
  · obtain ⟨y, hy, rfl⟩ := List.mem_map.1 hx
    rcases h.rest y hy with h | ⟨h1, h2⟩
    · exact .inl (by rw [mv1_id]; exact h)
    · refine .inr ?_
      have : mv1 e y = y := by unfold mv1; have : dueB e y = false := by unfold dueB; simp [h1]
                               rw [this]; rfl
      rw [this]; exact ⟨h1, h2⟩
  · show o.pend ++ srt ltC (endL e o.all) = (b.pend ++ srt ltC (endL e b.all)).filter _
    rw [List.filter_append, srt_filter swo, filt_end, h.pend, end_rest e id o.all h.rest, h.all]
/-- Nothing expires. -/
def calm (e : Int) (s : Ls) : Prop := ∀ x ∈ s.all, dueB e x = false
theorem mv_calm {e : Int} {s : Ls} (h : calm e s) (t : Int) : s.mv t e = ⟨t, s.all, s.pend⟩ := by
  have h1 : endL e s.all = [] := by
    unfold endL
    rw [List.filter_eq_nil_iff.2 fun x hx => by rw [h x hx]; simp]; rfl
  have h2 : s.all.map (mv1 e) = s.all := by
    refine (List.map_congr_left fun x hx => ?_).trans (List.map_id _)
    unfold mv1; rw [h x hx]; rfl
  unfold Ls.mv
  rw [h1, h2]; simp [srt]
theorem calm_mv (t e : Int) (s : Ls) : calm e (s.mv t e) := fun x hx => by
  obtain ⟨y, _, rfl⟩ := List.mem_map.1 hx
  unfold mv1
  cases h : dueB e y with
  | true => rfl
  | false => exact h
/-- The other one's own lease, renewed. -/
theorem co_help {id hp : Int} {b o : Ls} (h : Co id hp b o) (hne : hp ≠ id) (hh : ∃ x ∈ o.all, x.id = hp) {a : Int} (hc : calm a b) (hn : b.now = a) (hta : timB a = true) : Co id hp b (asrL o hp a) ∧ ∃ x ∈ (asrL o hp a).all, x.id = hp := by
  have h0 := findL_ge o.all hp 0 hh
  obtain ⟨l1, x, l2, h1, h2, h3, h4⟩ := findL_split o.all hp 0 h0
  have hE : asrE o hp a = 0 := by
    have e1 : decide (findL o.all hp 0 < 0) = false := by simp; omega
    have e2 : decide (a < o.now) = false := by rw [h.now, hn]; simp
    simp only [asrE, e1, e2, hta, Bool.cond_false, Bool.not_true]
  have hco : calm a o := fun y hy => by
    rcases h.rest y hy with h5 | ⟨h5, _⟩
    · have : y ∈ b.all.filter (isI id) := by rw [← h.all]; exact List.mem_filter.2 ⟨hy, by simpa using h5⟩
      exact hc y (List.mem_filter.1 this).1
    · unfold dueB; simp [h5]
  have hmv := mv_calm hco a
  have hF : (findL o.all hp 0).toNat = l1.length := by omega
  have hxo : x ∈ o.all := by rw [h1]; simp
  have hx := (h.rest x hxo).resolve_left (by rw [h3]; exact hne)
  have hL : asrL o hp a = ⟨a, l1 ++ ⟨x.id, x.len, a, true⟩ :: l2, o.pend⟩ := by
    unfold asrL
    rw [hE, hmv, hF]
    simp only
    rw [h1, get_at]
    simp only
    rw [set_at, hx.2]; rfl
  rw [hL]
  refine ⟨⟨hn.symm, ?_, fun y hy => ?_, h.pend⟩, ⟨⟨x.id, x.len, a, true⟩, by simp, h3⟩⟩
  · simp only
    rw [← h.all, h1]
    exact (filt_other (x := x) (y := ⟨x.id, x.len, a, true⟩) (by rw [h3]; exact hne) rfl).symm
  · simp only at hy
    rcases List.mem_append.1 hy with hy | hy
    · exact h.rest y (by rw [h1]; simp [hy])
    · rcases List.mem_cons.1 hy with rfl | hy
      · exact .inr ⟨hx.1, rfl⟩
      · exact h.rest y (by rw [h1]; simp [hy])
/-! ### The calls -/
theorem co_addE {id hp : Int} {b o : Ls} (h : Co id hp b o) (len a : Int) : addE o id len a = addE b id len a := by
  have := findL_sign h.all
  have e : decide (0 ≤ findL o.all id 0) = decide (0 ≤ findL b.all id 0) := by
    rw [Bool.eq_iff_iff] at this ⊢
    simp only [decide_eq_true_eq] at this ⊢; omega
  unfold addE
  rw [h.now, e]
theorem calm_add {s : Ls} {id len a : Int} (hE : addE s id len a = 0) (hlen : 0 ≤ len) : calm a (addL s id len a) := by
  unfold addL
  rw [hE]
  intro x hx
  rcases List.mem_append.1 hx with hx | hx
  · exact calm_mv a a s x hx
  · simp at hx; subst hx; unfold dueB; simp; omega
theorem addE_len {s : Ls} {id len a : Int} (hE : addE s id len a = 0) : 0 ≤ len ∧ timB a = true := by
  unfold addE at hE
  cases h1 : decide (id < 1) || !timB len || !timB a with
  | true => rw [h1] at hE; simp at hE
  | false =>
    simp at h1
    have := h1.1.2
    unfold timB at this; simp at this
    exact ⟨this.1, h1.2⟩
theorem co_add_own {id hp : Int} {b o : Ls} (h : Co id hp b o) (len a : Int) : Co id hp (addL b id len a) (addL o id len a) := by
  have hE := co_addE h len a
  unfold addL
  rw [hE]
  cases he : addE b id len a == 0 with
  | false => exact h
  | true =>
    obtain ⟨c1, c2, c3, c4⟩ := co_mv h a a
    refine ⟨rfl, ?_, fun x hx => ?_, c4⟩
    · simp only [Bool.cond_true]
      rw [List.filter_append, List.filter_append, c2]
    · simp only [Bool.cond_true] at hx
      rcases List.mem_append.1 hx with hx | hx
      · exact c3 x hx
      · simp at hx; subst hx; exact .inl rfl
theorem has_add {hp : Int} {o : Ls} (h : ∃ x ∈ o.all, x.id = hp) (id len a : Int) : ∃ x ∈ (addL o id len a).all, x.id = hp := by
  unfold addL
  cases he : addE o id len a == 0 with
  | false => exact h
  | true =>
    obtain ⟨x, hx, hi⟩ := h
    refine ⟨mv1 a x, ?_, by rw [mv1_id]; exact hi⟩
    simp only [Bool.cond_true]
    exact List.mem_append_left _ (List.mem_map.2 ⟨x, hx, rfl⟩)
/-- Add of another one. -/
theorem co_add_else {id hp : Int} {b o : Ls} (h : Co id hp b o) {id' len a : Int} (hne : id' ≠ id) (hE : addE b id' len a = 0) : Co id hp (addL b id' len a) (o.mv a a) := by
  obtain ⟨c1, c2, c3, c4⟩ := co_mv h a a
  unfold addL
  rw [hE]
  refine ⟨rfl, ?_, c3, c4⟩
  show _ = ((b.mv a a).all ++ [_]).filter _
  rw [List.filter_append, c2]
  have : [(⟨id', len, a, true⟩ : Lz)].filter (isI id) = [] := by rw [List.filter_cons, if_neg (by simpa using hne)]; rfl
  rw [this, List.append_nil]
theorem has_mv {hp : Int} {o : Ls} (h : ∃ x ∈ o.all, x.id = hp) (t e : Int) : ∃ x ∈ (o.mv t e).all, x.id = hp := by
  obtain ⟨x, hx, hi⟩ := h
  exact ⟨mv1 e x, List.mem_map.2 ⟨x, hx, rfl⟩, by rw [mv1_id]; exact hi⟩
/-- A renewal moves the time first. -/
theorem asr_mv {o : Ls} {hp a : Int} (hn : o.now ≤ a) (hf : 0 ≤ findL o.all hp 0) (ht : timB a = true) : asrL (o.mv a a) hp a = asrL o hp a := by
  have e1 : findL (o.mv a a).all hp 0 = findL o.all hp 0 := by
    show findL (o.all.map (mv1 a)) hp 0 = _
    have : ∀ (l : List Lz) (i : Nat), findL (l.map (mv1 a)) hp i = findL l hp i := fun l => by
      induction l with
      | nil => intro i; rfl
      | cons x l ih => intro i; simp only [List.map_cons, findL, mv1_id, ih]
    exact this _ _
  have h0 : decide (findL o.all hp 0 < 0) = false := by simp; omega
  have e2 : asrE (o.mv a a) hp a = 0 := by
    have h1 : decide (a < (o.mv a a).now) = false := by show decide (a < a) = false; simp
    simp only [asrE, e1, h0, h1, ht, Bool.cond_false, Bool.not_true]
  have e4 : asrE o hp a = 0 := by
    have h1 : decide (a < o.now) = false := by simp; omega
    simp only [asrE, h0, h1, ht, Bool.cond_false, Bool.not_true]
  have e3 : (o.mv a a).mv a a = o.mv a a := mv_calm (calm_mv a a o) a
  unfold asrL
  rw [e2, e1, e3, e4]
  obtain ⟨_, x, hx, _⟩ := findL_get o.all hp 0 hf
  rw [Nat.sub_zero] at hx
  have : (o.mv a a).all[(findL o.all hp 0).toNat]? = some (mv1 a x) := by
    show (o.all.map (mv1 a))[_]? = _
    rw [List.getElem?_map, hx]; rfl
  rw [this]; rfl
/-- What is told of both at the head of a round. -/
structure Ap (id hp : Int) (b o : Ls) (i : Nat) : Prop where
  co : Co id hp b o
  has : ∃ x ∈ o.all, x.id = hp
  nw : 0 ≤ b.now
  nu : b.now ≤ 7 * i
  bal : b.all.length ≤ i
  oal : o.all.length ≤ i + 1
  bpl : b.pend.length ≤ 50 * i
  blz : ∀ x ∈ b.all, x.ok
  olz : ∀ x ∈ o.all, x.ok
theorem Ap.opl {id hp : Int} {b o : Ls} {i : Nat} (h : Ap id hp b o i) : o.pend.length ≤ 50 * i := by
  rw [h.co.pend]; exact Nat.le_trans (List.length_filter_le _ _) h.bpl
theorem Ap.bfit {id hp : Int} {b o : Ls} {i : Nat} (h : Ap id hp b o i) (hi : i ≤ 40) : b.fit := ⟨by have := h.bal; omega, by have := h.bpl; omega, h.blz, h.nw⟩
theorem Ap.ofit {id hp : Int} {b o : Ls} {i : Nat} (h : Ap id hp b o i) (hi : i ≤ 40) : o.fit := ⟨by have := h.oal; omega, by have := h.opl; omega, h.olz, by rw [h.co.now]; exact h.nw⟩
/-- Bounds that one call keeps. -/
structure Bs (s : Ls) (m n : Nat) : Prop where
  al : s.all.length ≤ m
  pl : s.pend.length ≤ n
  lz : ∀ x ∈ s.all, x.ok
theorem bs_mv {s : Ls} {m n : Nat} (h : Bs s m n) (t e : Int) : Bs (s.mv t e) m (n + m) := by
  refine ⟨by show (s.all.map _).length ≤ m; rw [List.length_map]; exact h.al, ?_, fun x hx => ?_⟩
  · have := endL_len e s.all; have := h.al; have := h.pl
    show (s.pend ++ _).length ≤ _
    rw [List.length_append, srt_len]; omega
  · obtain ⟨y, hy, rfl⟩ := List.mem_map.1 hx
    exact mv1_ok (h.lz y hy)
theorem timB_le {n : Int} : timB n = true ↔ 0 ≤ n ∧ n ≤ 1099511627776 := by unfold timB; simp
theorem bs_add {s : Ls} {m n : Nat} (h : Bs s m n) (id len a : Int) : Bs (addL s id len a) (m + 1) (n + m) := by
  cases hE : addE s id len a == 0 with
  | false =>
    have : addL s id len a = s := by unfold addL; rw [hE]; rfl
    rw [this]; exact ⟨by have := h.al; omega, by have := h.pl; omega, h.lz⟩
  | true =>
    have e : addL s id len a = ⟨a, (s.mv a a).all ++ [⟨id, len, a, true⟩], (s.mv a a).pend⟩ := by unfold addL; rw [hE]; rfl
    have hE' : addE s id len a = 0 := by simpa using hE
    obtain ⟨h1, h2, h3⟩ := bs_mv h a a
    obtain ⟨t1, t2⟩ := timB_le.1 (addE_len hE').2
    have hl : len ≤ 1099511627776 := by
      unfold addE at hE'
      cases h1 : decide (id < 1) || !timB len || !timB a with
      | true => rw [h1] at hE'; simp at hE'
      | false => simp at h1; exact (timB_le.1 h1.1.2).2
    rw [e]
    refine ⟨by simp only [List.length_append, List.length_singleton]; omega, h2, fun x hx => ?_⟩
    rcases List.mem_append.1 hx with hx | hx
    · exact h3 x hx
    · simp at hx; subst hx; exact ⟨(addE_len hE').1, hl, t1, t2⟩
theorem bs_asr {s : Ls} {m n : Nat} (h : Bs s m n) (id a : Int) : Bs (asrL s id a) m (n + m + 1) := by
  have same : Bs s m (n + m + 1) := ⟨h.al, by have := h.pl; omega, h.lz⟩
  cases hE : asrE s id a == 0 with
  | false =>
    have : asrL s id a = s := by unfold asrL; rw [hE]; rfl
    rw [this]; exact same
  | true =>
    have hta : timB a = true := by
      simp only [asrE] at hE
      cases h1 : decide (findL s.all id 0 < 0) with
      | true => rw [h1] at hE; simp at hE
      | false =>
        cases h2 : !timB a with
        | true => rw [h1, h2] at hE; simp at hE
        | false => simpa using h2
    obtain ⟨t1, t2⟩ := timB_le.1 hta
    obtain ⟨h1, h2, h3⟩ := bs_mv h a a
    cases hx : (s.mv a a).all[(findL s.all id 0).toNat]? with
    | none =>
      have : asrL s id a = s := by unfold asrL; rw [hE, hx]; rfl
      rw [this]; exact same
    | some x =>
      have e : asrL s id a = ⟨a, (s.mv a a).all.set (findL s.all id 0).toNat ⟨x.id, x.len, a, true⟩, bif x.up then (s.mv a a).pend else (s.mv a a).pend ++ [⟨id, a, true⟩]⟩ := by unfold asrL; rw [hE, hx]; rfl
      rw [e]
      have hxo := h3 x (List.mem_of_getElem? hx)
      refine ⟨by simp only [List.length_set]; exact h1, ?_, fun y hy => ?_⟩
      · cases x.up <;> simp <;> omega
      · rcases List.mem_or_eq_of_mem_set hy with hy | rfl
        · exact h3 y hy
        · exact ⟨hxo.1, hxo.2.1, t1, t2⟩
theorem bs_rm {s : Ls} {m n : Nat} (h : Bs s m n) (id : Int) : Bs (rmL s id) m n := by
  unfold rmL
  cases decide (findL s.all id 0 < 0) with
  | true => exact h
  | false => exact ⟨Nat.le_trans (List.length_eraseIdx_le _ _) h.al, h.pl, fun x hx => h.lz x (List.mem_of_mem_eraseIdx hx)⟩
theorem bs_chk {s : Ls} {m n : Nat} (h : Bs s m n) (a : Int) : Bs (chkL s a) m n := by
  unfold chkL
  cases chkB s a with
  | true => exact h
  | false => obtain ⟨h1, _, h3⟩ := bs_mv h a (a + 1); exact ⟨h1, Nat.zero_le _, h3⟩
end Go.Proofs.Ytngmjggconefcaa
