/- The law of apartness, plain: the calls. -/
import Derived.Test.YtngmjggconefcaaLivAa
namespace Go.Proofs.Ytngmjggconefcaa
open Go.W
theorem Ap.same {id hp : Int} {b o : Ls} {i : Nat} (h : Ap id hp b o i) : Ap id hp b o (i + 1) :=
  ⟨h.co, h.has, h.nw, by have := h.nu; omega, by have := h.bal; omega, by have := h.oal; omega, by have := h.bpl; omega, h.blz, h.olz⟩
/-- When a call comes. -/
structure At (b : Ls) (i : Nat) (a : Int) : Prop where
  lo : 7 * (i : Int) ≤ a
  hi : a ≤ 7 * i + 6
theorem At.tim {b : Ls} {i : Nat} {a : Int} (h : At b i a) (hi : i < 40) : timB a = true := timB_le.2 ⟨by have := h.lo; omega, by have := h.hi; omega⟩
theorem Ap.after {id hp : Int} {b o : Ls} {i : Nat} (h : Ap id hp b o i) {a : Int} (ha : At b i a) : decide (a < b.now) = false := by
  have := h.nu; have := ha.lo; simp; omega
theorem ap_next {id hp : Int} {b o b' o' : Ls} {i : Nat} (h : Ap id hp b o i) (hi : i < 40) {a : Int} (ha : At b i a) (hn : b'.now = a) (hc : Co id hp b' o') (hh : ∃ x ∈ o'.all, x.id = hp) {n : Nat} (hb : Bs b' (i + 1) (50 * (i + 1))) (ho : Bs o' (i + 2) n) : Ap id hp b' o' (i + 1) :=
  ⟨hc, hh, by have := ha.lo; omega, by have := ha.hi; omega, hb.al, ho.al, hb.pl, hb.lz, ho.lz⟩
theorem Ap.bs {id hp : Int} {b o : Ls} {i : Nat} (h : Ap id hp b o i) : Bs b i (50 * i) ∧ Bs o (i + 1) (50 * i) := ⟨⟨h.bal, h.bpl, h.blz⟩, ⟨h.oal, h.opl, h.olz⟩⟩
theorem Bs.up {s : Ls} {m n m' n' : Nat} (h : Bs s m n) (h1 : m ≤ m') (h2 : n ≤ n') : Bs s m' n' := ⟨Nat.le_trans h.al h1, Nat.le_trans h.pl h2, h.lz⟩
theorem addL_no {s : Ls} {id len a : Int} (h : (addE s id len a == 0) = false) : addL s id len a = s := by unfold addL; rw [h]; rfl
theorem addL_now {s : Ls} {id len a : Int} (h : addE s id len a = 0) : (addL s id len a).now = a := by unfold addL; rw [h]; rfl
theorem ap_add_own {id hp : Int} {b o : Ls} {i : Nat} (h : Ap id hp b o i) (hi : i < 40) (hne : hp ≠ id) {len a : Int} (ha : At b i a) (hE : addE b id len a = 0) : Ap id hp (addL b id len a) (asrL (addL o id len a) hp a) (i + 1) := by
  have hl := (addE_len hE).1
  obtain ⟨c1, c2⟩ := co_help (co_add_own h.co len a) hne (has_add h.has id len a) (calm_add hE hl) (addL_now hE) (ha.tim hi)
  obtain ⟨b1, b2⟩ := h.bs
  exact ap_next h hi ha (addL_now hE) c1 c2 ((bs_add b1 _ _ _).up (Nat.le_refl _) (by omega)) (bs_asr (bs_add b2 _ _ _) _ _)
theorem ap_add_no {id hp : Int} {b o : Ls} {i : Nat} (h : Ap id hp b o i) {len a : Int} (hE : (addE b id len a == 0) = false) : Ap id hp (addL b id len a) (addL o id len a) (i + 1) := by
  rw [addL_no hE, addL_no (by rw [co_addE h.co]; exact hE)]; exact h.same
theorem ap_add_else {id hp : Int} {b o : Ls} {i : Nat} (h : Ap id hp b o i) (hi : i < 40) (hne : hp ≠ id) {id' len a : Int} (hid : id' ≠ id) (ha : At b i a) (hE : addE b id' len a = 0) : Ap id hp (addL b id' len a) (asrL o hp a) (i + 1) := by
  have hl := (addE_len hE).1
  obtain ⟨c1, c2⟩ := co_help (co_add_else h.co hid hE) hne (has_mv h.has a a) (calm_add hE hl) (addL_now hE) (ha.tim hi)
  have hn : o.now ≤ a := by rw [h.co.now]; have := h.nu; have := ha.lo; omega
  rw [asr_mv hn (findL_ge _ _ _ h.has) (ha.tim hi)] at c1 c2
  obtain ⟨b1, b2⟩ := h.bs
  exact ap_next h hi ha (addL_now hE) c1 c2 ((bs_add b1 _ _ _).up (Nat.le_refl _) (by omega)) ((bs_asr b2 hp a).up (by omega) (Nat.le_refl _))
theorem ap_add_else_no {id hp : Int} {b o : Ls} {i : Nat} (h : Ap id hp b o i) {id' len a : Int} (hE : (addE b id' len a == 0) = false) : Ap id hp (addL b id' len a) o (i + 1) := by
  rw [addL_no hE]; exact h.same
/-! ### Remove -/
theorem co_rmE {id hp : Int} {b o : Ls} (h : Co id hp b o) : decide (findL o.all id 0 < 0) = decide (findL b.all id 0 < 0) := findL_sign h.all
theorem filt_rm (s : Ls) (id : Int) : (rmL s id).all.filter (isI id) = (s.all.filter (isI id)).tail := by
  unfold rmL
  cases h : decide (findL s.all id 0 < 0) with
  | true =>
    have : s.all.filter (isI id) = [] := filt_none fun z hz => by
      have := findL_no s.all id 0 (by simpa using h) z hz
      simpa [isI] using this
    simp only [Bool.cond_true]
    rw [this]; rfl
  | false =>
    obtain ⟨l1, x, l2, h1, h2, h3, h4⟩ := findL_split s.all id 0 (by simp at h; exact h)
    have hF : (findL s.all id 0).toNat = l1.length := by omega
    simp only [Bool.cond_false]
    rw [hF, h1, del_at, filt_split h2 h3, List.filter_append, filt_none h2]; rfl
theorem filt_rm_else (s : Ls) {id id' : Int} (hne : id' ≠ id) : (rmL s id').all.filter (isI id) = s.all.filter (isI id) := by
  unfold rmL
  cases h : decide (findL s.all id' 0 < 0) with
  | true => rfl
  | false =>
    obtain ⟨l1, x, l2, h1, h2, h3, h4⟩ := findL_split s.all id' 0 (by simp at h; exact h)
    have hF : (findL s.all id' 0).toNat = l1.length := by omega
    simp only [Bool.cond_false]
    rw [hF, h1, del_at]
    exact (filt_del (by rw [h3]; exact hne)).symm
theorem rm_sub (s : Ls) (id : Int) : ∀ x ∈ (rmL s id).all, x ∈ s.all := by
  unfold rmL
  cases decide (findL s.all id 0 < 0) with
  | true => exact fun _ h => h
  | false => exact fun x hx => List.mem_of_mem_eraseIdx hx
theorem rm_rest (s : Ls) (id : Int) : (rmL s id).now = s.now ∧ (rmL s id).pend = s.pend := by
  unfold rmL; cases decide (findL s.all id 0 < 0) <;> exact ⟨rfl, rfl⟩
theorem has_rm {hp id : Int} {o : Ls} (hne : hp ≠ id) (h : ∃ x ∈ o.all, x.id = hp) : ∃ x ∈ (rmL o id).all, x.id = hp := by
  obtain ⟨x, hx, hi⟩ := h
  have : x ∈ (rmL o id).all.filter (isI hp) := by rw [filt_rm_else o (Ne.symm hne)]; exact List.mem_filter.2 ⟨hx, by simpa using hi⟩
  exact ⟨x, (List.mem_filter.1 this).1, hi⟩
theorem ap_rm_own {id hp : Int} {b o : Ls} {i : Nat} (h : Ap id hp b o i) (hne : hp ≠ id) : Ap id hp (rmL b id) (rmL o id) (i + 1) := by
  obtain ⟨b1, b2⟩ := h.bs
  have r1 := bs_rm b1 id; have r2 := bs_rm b2 id
  obtain ⟨n1, p1⟩ := rm_rest b id; obtain ⟨n2, p2⟩ := rm_rest o id
  refine ⟨⟨by rw [n1, n2]; exact h.co.now, by rw [filt_rm, filt_rm, h.co.all], fun x hx => h.co.rest x (rm_sub o id x hx), by rw [p1, p2]; exact h.co.pend⟩, has_rm hne h.has, by rw [n1]; exact h.nw, by rw [n1]; have := h.nu; omega, ?_, ?_, ?_, r1.lz, r2.lz⟩
  · have := r1.al; omega
  · have := r2.al; omega
  · have := r1.pl; omega
theorem ap_rm_else {id hp : Int} {b o : Ls} {i : Nat} (h : Ap id hp b o i) {id' : Int} (hid : id' ≠ id) : Ap id hp (rmL b id') o (i + 1) := by
  obtain ⟨b1, b2⟩ := h.bs
  have r1 := bs_rm b1 id'
  obtain ⟨n1, p1⟩ := rm_rest b id'
  refine ⟨⟨by rw [n1]; exact h.co.now, by rw [filt_rm_else b hid]; exact h.co.all, h.co.rest, by rw [p1]; exact h.co.pend⟩, h.has, by rw [n1]; exact h.nw, by rw [n1]; have := h.nu; omega, ?_, ?_, ?_, r1.lz, b2.lz⟩
  · have := r1.al; omega
  · have := b2.al; omega
  · have := r1.pl; omega
/-! ### Assert -/
theorem co_asrE {id hp : Int} {b o : Ls} (h : Co id hp b o) (a : Int) : asrE o id a = asrE b id a := by
  unfold asrE; rw [findL_sign h.all, h.now]
theorem asrL_no {s : Ls} {id a : Int} (h : (asrE s id a == 0) = false) : asrL s id a = s := by unfold asrL; rw [h]; rfl
theorem asr_found {s : Ls} {id a : Int} (h : asrE s id a = 0) : 0 ≤ findL s.all id 0 := by
  unfold asrE at h
  cases h1 : decide (findL s.all id 0 < 0) with
  | true => rw [h1] at h; simp at h
  | false => simpa using h1
theorem mv_split {e : Int} {l l1 l2 : List Lz} {x : Lz} (h : l = l1 ++ x :: l2) : l.map (mv1 e) = l1.map (mv1 e) ++ mv1 e x :: l2.map (mv1 e) := by rw [h, List.map_append, List.map_cons]
/-- What a renewal does, where the first of the id stands. -/
theorem asr_split {s : Ls} {id a : Int} (h : asrE s id a = 0) : ∃ l1 x l2, s.all = l1 ++ x :: l2 ∧ (∀ z ∈ l1, isI id z = false) ∧ x.id = id ∧
    asrL s id a = ⟨a, l1.map (mv1 a) ++ ⟨x.id, x.len, a, true⟩ :: l2.map (mv1 a), bif (mv1 a x).up then (s.mv a a).pend else (s.mv a a).pend ++ [⟨id, a, true⟩]⟩ := by
  obtain ⟨l1, x, l2, h1, h2, h3, h4⟩ := findL_split s.all id 0 (asr_found h)
  have hF : (findL s.all id 0).toNat = (l1.map (mv1 a)).length := by rw [List.length_map]; omega
  refine ⟨l1, x, l2, h1, h2, h3, ?_⟩
  have hall : (s.mv a a).all = l1.map (mv1 a) ++ mv1 a x :: l2.map (mv1 a) := mv_split h1
  have e1 : (mv1 a x).id = x.id := mv1_id a x
  have e2 : (mv1 a x).len = x.len := by unfold mv1; cases dueB a x <;> rfl
  unfold asrL
  rw [h, hF, hall, get_at]
  simp only
  rw [set_at, e1, e2]; rfl
theorem mapfilt_none {e id : Int} {l : List Lz} (h : ∀ z ∈ l, isI id z = false) : ∀ z ∈ l.map (mv1 e), isI id z = false := fun z hz => by
  obtain ⟨y, hy, rfl⟩ := List.mem_map.1 hz
  have := h y hy
  simpa [isI, mv1_id] using this
theorem calm_asr {s : Ls} {id a : Int} (hz : ∀ x ∈ s.all, x.ok) (h : asrE s id a = 0) : calm a (asrL s id a) := by
  obtain ⟨l1, x, l2, h1, h2, h3, h4⟩ := asr_split h
  have hx := hz x (by rw [h1]; simp)
  rw [h4]
  have c := calm_mv a a s
  intro y hy
  simp only at hy
  rcases List.mem_append.1 hy with hy | hy
  · exact c y (by show y ∈ s.all.map _; rw [mv_split h1]; simp [hy])
  · rcases List.mem_cons.1 hy with rfl | hy
    · unfold dueB; have := hx.1; simp; omega
    · exact c y (by show y ∈ s.all.map _; rw [mv_split h1]; simp [hy])
theorem asr_now {s : Ls} {id a : Int} (h : asrE s id a = 0) : (asrL s id a).now = a := by
  obtain ⟨l1, x, l2, _, _, _, h4⟩ := asr_split h
  rw [h4]
theorem co_asr_own {id hp : Int} {b o : Ls} (h : Co id hp b o) {a : Int} (hE : asrE b id a = 0) : Co id hp (asrL b id a) (asrL o id a) := by
  have hE2 : asrE o id a = 0 := by rw [co_asrE h]; exact hE
  obtain ⟨l1, x, l2, h1, h2, h3, h4⟩ := asr_split hE
  obtain ⟨m1, y, m2, k1, k2, k3, k4⟩ := asr_split hE2
  obtain ⟨c1, c2, c3, c4⟩ := co_mv h a a
  have hf := h.all
  rw [h1, k1, filt_split h2 h3, filt_split k2 k3] at hf
  simp only [List.cons.injEq] at hf
  obtain ⟨rfl, hf2⟩ := hf
  rw [h4, k4]
  refine ⟨rfl, ?_, fun z hz => ?_, ?_⟩
  · simp only
    rw [filt_split (x := ⟨y.id, y.len, a, true⟩) (mapfilt_none h2) h3, filt_split (x := ⟨y.id, y.len, a, true⟩) (mapfilt_none k2) k3, filt_mv, filt_mv, hf2]
  · simp only at hz
    have hm : ∀ z ∈ m1.map (mv1 a) ++ mv1 a y :: m2.map (mv1 a), z.id = id ∨ (z.len = 0 ∧ z.up = true) := fun z hz => c3 z (by show z ∈ o.all.map _; rw [mv_split k1]; exact hz)
    rcases List.mem_append.1 hz with hz | hz
    · exact hm z (by simp [hz])
    · rcases List.mem_cons.1 hz with rfl | hz
      · exact .inl k3
      · exact hm z (by simp [hz])
  · simp only
    cases (mv1 a y).up with
    | true => exact c4
    | false =>
      simp only [Bool.cond_false]
      rw [List.filter_append, c4]; simp
theorem co_asr_else {id hp : Int} {b o : Ls} (h : Co id hp b o) {id' a : Int} (hne : id' ≠ id) (hE : asrE b id' a = 0) : Co id hp (asrL b id' a) (o.mv a a) := by
  obtain ⟨l1, x, l2, h1, h2, h3, h4⟩ := asr_split hE
  obtain ⟨c1, c2, c3, c4⟩ := co_mv h a a
  have hall : (b.mv a a).all = l1.map (mv1 a) ++ mv1 a x :: l2.map (mv1 a) := mv_split h1
  rw [h4]
  refine ⟨rfl, ?_, c3, ?_⟩
  · rw [c2, hall]
    exact filt_other (x := mv1 a x) (y := ⟨x.id, x.len, a, true⟩) (by rw [mv1_id, h3]; exact hne) (mv1_id a x).symm
  · rw [c4]
    simp only
    cases (mv1 a x).up with
    | true => rfl
    | false =>
      simp only [Bool.cond_false]
      rw [List.filter_append]; simp [hne]
theorem has_asr {hp id a : Int} {o : Ls} (h : ∃ x ∈ o.all, x.id = hp) : ∃ x ∈ (asrL o id a).all, x.id = hp := by
  cases hE : asrE o id a == 0 with
  | false => rw [asrL_no hE]; exact h
  | true =>
    obtain ⟨l1, x, l2, h1, h2, h3, h4⟩ := asr_split (s := o) (id := id) (a := a) (by simpa using hE)
    obtain ⟨y, hy, hi⟩ := h
    rw [h4]
    rw [h1] at hy
    rcases List.mem_append.1 hy with hy | hy
    · exact ⟨mv1 a y, by simp only; exact List.mem_append_left _ (List.mem_map.2 ⟨y, hy, rfl⟩), by rw [mv1_id]; exact hi⟩
    · rcases List.mem_cons.1 hy with rfl | hy
      · exact ⟨⟨y.id, y.len, a, true⟩, by simp, hi⟩
      · exact ⟨mv1 a y, by simp only; exact List.mem_append_right _ (List.mem_cons_of_mem _ (List.mem_map.2 ⟨y, hy, rfl⟩)), by rw [mv1_id]; exact hi⟩
theorem ap_asr_own {id hp : Int} {b o : Ls} {i : Nat} (h : Ap id hp b o i) (hi : i < 40) (hne : hp ≠ id) {a : Int} (ha : At b i a) (hE : asrE b id a = 0) : Ap id hp (asrL b id a) (asrL (asrL o id a) hp a) (i + 1) := by
  obtain ⟨c1, c2⟩ := co_help (co_asr_own h.co hE) hne (has_asr h.has) (calm_asr h.blz hE) (asr_now hE) (ha.tim hi)
  obtain ⟨b1, b2⟩ := h.bs
  exact ap_next h hi ha (asr_now hE) c1 c2 ((bs_asr b1 _ _).up (by omega) (by omega)) ((bs_asr (bs_asr b2 _ _) _ _).up (by omega) (Nat.le_refl _))
theorem ap_asr_no {id hp : Int} {b o : Ls} {i : Nat} (h : Ap id hp b o i) {a : Int} (hE : (asrE b id a == 0) = false) : Ap id hp (asrL b id a) (asrL o id a) (i + 1) := by
  rw [asrL_no hE, asrL_no (by rw [co_asrE h.co]; exact hE)]; exact h.same
theorem ap_asr_else {id hp : Int} {b o : Ls} {i : Nat} (h : Ap id hp b o i) (hi : i < 40) (hne : hp ≠ id) {id' a : Int} (hid : id' ≠ id) (ha : At b i a) (hE : asrE b id' a = 0) : Ap id hp (asrL b id' a) (asrL o hp a) (i + 1) := by
  obtain ⟨c1, c2⟩ := co_help (co_asr_else h.co hid hE) hne (has_mv h.has a a) (calm_asr h.blz hE) (asr_now hE) (ha.tim hi)
  have hn : o.now ≤ a := by rw [h.co.now]; have := h.nu; have := ha.lo; omega
  rw [asr_mv hn (findL_ge _ _ _ h.has) (ha.tim hi)] at c1 c2
  obtain ⟨b1, b2⟩ := h.bs
  exact ap_next h hi ha (asr_now hE) c1 c2 ((bs_asr b1 _ _).up (by omega) (by omega)) ((bs_asr b2 hp a).up (by omega) (Nat.le_refl _))
theorem ap_asr_else_no {id hp : Int} {b o : Ls} {i : Nat} (h : Ap id hp b o i) {id' a : Int} (hE : (asrE b id' a == 0) = false) : Ap id hp (asrL b id' a) o (i + 1) := by
  rw [asrL_no hE]; exact h.same
/-! ### Check -/
theorem ap_chkB {id hp : Int} {b o : Ls} {i : Nat} (h : Ap id hp b o i) (hi : i < 40) {a : Int} (ha : At b i a) : chkB b a = false ∧ chkB o a = false := by
  have h1 := h.after ha
  have h2 : decide (1099511627776 < a) = false := by have := ha.hi; simp; omega
  unfold chkB
  rw [h.co.now, h1, h2]; exact ⟨rfl, rfl⟩
theorem ap_chk {id hp : Int} {b o : Ls} {i : Nat} (h : Ap id hp b o i) (hi : i < 40) {a : Int} (ha : At b i a) : Ap id hp (chkL b a) (chkL o a) (i + 1) ∧ chkG o a = (chkG b a).filter fun c => c.id == id := by
  obtain ⟨e1, e2⟩ := ap_chkB h hi ha
  obtain ⟨c1, c2, c3, c4⟩ := co_mv h.co a (a + 1)
  obtain ⟨b1, b2⟩ := h.bs
  have r1 := bs_chk b1 a; have r2 := bs_chk b2 a
  have l1 : chkL b a = ⟨a, (b.mv a (a + 1)).all, []⟩ := by unfold chkL; rw [e1]; rfl
  have l2 : chkL o a = ⟨a, (o.mv a (a + 1)).all, []⟩ := by unfold chkL; rw [e2]; rfl
  refine ⟨ap_next h hi ha (by rw [l1]) (by rw [l1, l2]; exact ⟨rfl, c2, c3, rfl⟩) (by rw [l2]; exact has_mv h.has a (a + 1)) (r1.up (by omega) (by omega)) (r2.up (by omega) (Nat.le_refl _)), ?_⟩
  unfold chkG
  rw [e1, e2]
  simp only [Bool.cond_false]
  rw [srt_filter swo, c4]
theorem ap_alv {id hp : Int} {b o : Ls} {i : Nat} (h : Ap id hp b o i) : alvB o id = alvB b id := by
  have hs := findL_sign h.co.all
  have e : decide (0 ≤ findL o.all id 0) = decide (0 ≤ findL b.all id 0) := by
    rw [Bool.eq_iff_iff] at hs ⊢
    simp only [decide_eq_true_eq] at hs ⊢; omega
  unfold alvB
  rw [e]
  cases hd : decide (0 ≤ findL b.all id 0) with
  | false => rfl
  | true =>
    rw [hd] at e
    obtain ⟨l1, x, l2, h1, h2, h3, h4⟩ := findL_split b.all id 0 (by simpa using hd)
    obtain ⟨m1, y, m2, k1, k2, k3, k4⟩ := findL_split o.all id 0 (by simpa using e)
    have hf := h.co.all
    rw [h1, k1, filt_split h2 h3, filt_split k2 k3] at hf
    simp only [List.cons.injEq] at hf
    have f1 : (findL b.all id 0).toNat = l1.length := by omega
    have f2 : (findL o.all id 0).toNat = m1.length := by omega
    rw [f1, f2, h1, k1, get_at, get_at, hf.1]
theorem ap_zero {id hp : Int} (h : 1 ≤ hp) (hne : hp ≠ id) : Ap id hp Ls.empty (addL Ls.empty hp 0 0) 0 ∧ addE Ls.empty hp 0 0 = 0 := by
  have hE : addE Ls.empty hp 0 0 = 0 := by
    unfold addE
    have : decide (hp < 1) = false := by simp; omega
    rw [this]; rfl
  have hL : addL Ls.empty hp 0 0 = ⟨0, [⟨hp, 0, 0, true⟩], []⟩ := by unfold addL; rw [hE]; rfl
  rw [hL]
  refine ⟨⟨⟨rfl, ?_, fun x hx => ?_, rfl⟩, ⟨_, List.mem_singleton.2 rfl, rfl⟩, Int.le_refl _, Int.le_refl _, Nat.le_refl _, Nat.le_refl _, Nat.le_refl _, fun x hx => (by cases hx), fun x hx => ?_⟩, hE⟩
  · simp only
    rw [List.filter_cons, if_neg (by simpa [isI] using hne)]; rfl
  · simp at hx; subst hx; exact .inr ⟨rfl, rfl⟩
  · simp at hx; subst hx; exact ⟨Int.le_refl _, by show (0 : Int) ≤ _; omega, Int.le_refl _, by show (0 : Int) ≤ _; omega⟩
end Go.Proofs.Ytngmjggconefcaa
