/- The changes of one lease alternate: plain law. -/
import Derived.Test.YtngmjggconefcaaLivK
namespace Go.Proofs.Ytngmjggconefcaa
open Go.W
theorem ins_filter {α : Type} {lt : α → α → Bool} (h : Swo lt) (p : α → Bool) {l : List α} (hl : Srt lt l) (x : α) : (insR lt l x).filter p = bif p x then insR lt (l.filter p) x else l.filter p := by
  obtain ⟨l1, l2, rfl, h1, h2⟩ := cut_at h l x hl
  rw [insR_split l1 l2 x h2 (fun y hy => h1 y (List.mem_of_getLast? hy))]
  rw [List.filter_append, List.filter_append, List.filter_cons]
  cases hp : p x with
  | true =>
    rw [if_pos rfl, Bool.cond_true, insR_split _ _ x (fun y hy => h2 y (List.mem_filter.1 hy).1) (fun y hy => h1 y (List.mem_filter.1 (List.mem_of_getLast? hy)).1)]
  | false => simp
theorem srt_filter {α : Type} {lt : α → α → Bool} (h : Swo lt) (p : α → Bool) (l : List α) : (srt lt l).filter p = srt lt (l.filter p) := by
  have key : ∀ (n : Nat) (l : List α), l.length = n → (srt lt l).filter p = srt lt (l.filter p) := by
    intro n
    induction n with
    | zero => intro l hl; obtain rfl := List.length_eq_zero_iff.1 hl; rfl
    | succ n ih =>
      intro l hl
      rcases List.eq_nil_or_concat l with rfl | ⟨r, x, rfl⟩
      · cases hl
      · rw [List.concat_eq_append] at hl ⊢
        have hr : r.length = n := by simpa using hl
        rw [srt_snoc, ins_filter h p (srt_srt h r), ih r hr, List.filter_append]
        cases hp : p x <;> simp [hp, srt_snoc]
  exact key _ l rfl
def sq (l : List Chg) (id : Int) : List Chg := l.filter fun c => c.id == id
theorem sq_app (l m : List Chg) (id : Int) : sq (l ++ m) id = sq l id ++ sq m id := List.filter_append ..
theorem sq_id {l : List Chg} {id : Int} {c : Chg} (h : c ∈ sq l id) : c.id = id := by simpa using (List.mem_filter.1 h).2
def altOK : Bool → Int → List Chg → Prop
  | _, _, [] => True
  | b, t, c :: l => c.up = !b ∧ t ≤ c.at' ∧ altOK c.up c.at' l
def endB : Bool → List Chg → Bool
  | b, [] => b
  | _, c :: l => endB c.up l
def endT : Int → List Chg → Int
  | t, [] => t
  | _, c :: l => endT c.at' l
theorem alt_app : ∀ (l m : List Chg) (b : Bool) (t : Int), altOK b t (l ++ m) ↔ altOK b t l ∧ altOK (endB b l) (endT t l) m
  | [], m, b, t => by simp [altOK, endB, endT]
  | c :: l, m, b, t => by simp [altOK, endB, endT, alt_app l m, and_assoc]
theorem endB_app : ∀ (l m : List Chg) (b : Bool), endB b (l ++ m) = endB (endB b l) m
  | [], _, _ => rfl
  | c :: l, m, b => endB_app l m c.up
theorem endT_app : ∀ (l m : List Chg) (t : Int), endT t (l ++ m) = endT (endT t l) m
  | [], _, _ => rfl
  | c :: l, m, t => endT_app l m c.at'
theorem alt_srt : ∀ (l : List Chg) (b : Bool) (t id : Int), (∀ c ∈ l, c.id = id) → altOK b t l → Srt ltC l ∧ ∀ c ∈ l, t ≤ c.at'
  | [], _, _, _, _, _ => ⟨List.Pairwise.nil, fun c h => by cases h⟩
  | c :: l, b, t, id, hi, ⟨_, h2, h3⟩ => by
    obtain ⟨k1, k2⟩ := alt_srt l c.up c.at' id (fun d hd => hi d (by simp [hd])) h3
    refine ⟨List.Pairwise.cons (fun d hd => ?_) k1, fun d hd => ?_⟩
    · have a1 := k2 d hd
      have a2 := hi d (by simp [hd])
      have a3 := hi c (by simp)
      rw [ltC_eq]; unfold before
      simp; omega
    · rcases List.mem_cons.1 hd with rfl | hd
      · exact h2
      · have := k2 d hd; omega
structure good (now : Int) (x : Lz) (l : List Chg) : Prop where
  alt : altOK true 0 l
  up : endB true l = x.up
  tm : endT 0 l ≤ now
  rn : x.up = true → endT 0 l ≤ x.ren
  nw : x.ren ≤ now
structure Law (s : Ls) (acc : List Chg) : Prop where
  nd : (s.all.map fun x => x.id).Nodup
  gd : ∀ x ∈ s.all, good s.now x (sq (acc ++ s.pend) x.id)
  cv : ∀ c ∈ acc ++ s.pend, ∃ x ∈ s.all, x.id = c.id
theorem endL_sq (e : Int) : ∀ (l : List Lz), (l.map fun x => x.id).Nodup → ∀ x ∈ l, sq (endL e l) x.id = bif dueB e x then [⟨x.id, x.ren + x.len, false⟩] else []
  | [], _, x, h => by cases h
  | y :: l, hn, x, h => by
    rw [List.map_cons, List.nodup_cons] at hn
    have hno : ∀ z : Int, (∀ w ∈ l, w.id ≠ z) → sq (endL e l) z = [] := fun z hz => by
      refine List.filter_eq_nil_iff.2 fun c hc => ?_
      obtain ⟨w, hw, rfl⟩ := List.mem_map.1 hc
      simpa using hz w (List.mem_filter.1 hw).1
    have hstep : sq (endL e (y :: l)) x.id = (bif dueB e y && (y.id == x.id) then [⟨y.id, y.ren + y.len, false⟩] else []) ++ sq (endL e l) x.id := by
      unfold endL
      rw [List.filter_cons]
      cases hd : dueB e y with
      | true =>
        rw [if_pos rfl, List.map_cons]
        unfold sq
        rw [List.filter_cons]
        cases hy : y.id == x.id <;> simp [hy]
      | false => simp
    rw [hstep]
    rcases List.mem_cons.1 h with rfl | h
    · rw [hno x.id (fun w hw he => hn.1 (List.mem_map.2 ⟨w, hw, he⟩))]
      cases hd : dueB e x <;> simp
    · have hne : (y.id == x.id) = false := by
        simp; intro he; exact hn.1 (List.mem_map.2 ⟨x, h, he.symm⟩)
      rw [hne, Bool.and_false, endL_sq e l hn.2 x h]; rfl
theorem mv1_id (e : Int) (x : Lz) : (mv1 e x).id = x.id := by unfold mv1; cases dueB e x <;> rfl
theorem law_mv {s : Ls} {acc : List Chg} (h : Law s acc) (hz : ∀ x ∈ s.all, x.ok) {t e : Int} (ht : s.now ≤ t) (he : e ≤ t + 1) : Law (s.mv t e) acc := by
  have hid : (s.mv t e).all.map (fun x => x.id) = s.all.map fun x => x.id := by
    show (s.all.map (mv1 e)).map _ = _
    rw [List.map_map]; exact List.map_congr_left fun x _ => mv1_id e x
  refine ⟨by rw [hid]; exact h.nd, fun y hy => ?_, fun c hc => ?_⟩
  · obtain ⟨x, hx, rfl⟩ := List.mem_map.1 hy
    have g := h.gd x hx
    obtain ⟨o1, o2, o3, o4⟩ := hz x hx
    rw [mv1_id]
    have hs : sq (acc ++ (s.mv t e).pend) x.id = sq (acc ++ s.pend) x.id ++ (bif dueB e x then [⟨x.id, x.ren + x.len, false⟩] else []) := by
      show sq (acc ++ (s.pend ++ srt ltC (endL e s.all))) x.id = _
      rw [← List.append_assoc, sq_app (acc ++ s.pend)]
      congr 1
      unfold sq
      rw [srt_filter swo]
      have := endL_sq e s.all h.nd x hx
      unfold sq at this
      rw [this]
      cases dueB e x <;> rfl
    rw [hs]
    cases hd : dueB e x with
    | false =>
      have hm : mv1 e x = x := by unfold mv1; rw [hd]; rfl
      rw [hm, Bool.cond_false, List.append_nil]
      exact ⟨g.alt, g.up, by have := g.tm; show _ ≤ t; omega, g.rn, by have := g.nw; show _ ≤ t; omega⟩
    | true =>
      have hm : mv1 e x = ⟨x.id, x.len, x.ren, false⟩ := by unfold mv1; rw [hd]; rfl
      have hup : x.up = true := by unfold dueB at hd; simp at hd; exact hd.1.1
      have hdt : x.ren + x.len < e := by unfold dueB at hd; simp at hd; exact hd.2
      have hr := g.rn hup
      rw [hm, Bool.cond_true]
      refine ⟨(alt_app _ _ _ _).2 ⟨g.alt, ?_⟩, ?_, ?_, (fun h => by cases h), ?_⟩
      · rw [g.up, hup]; exact ⟨rfl, by simp only; omega, trivial⟩
      · rw [endB_app]; rfl
      · rw [endT_app]; show x.ren + x.len ≤ t; omega
      · have := g.nw; show x.ren ≤ t; omega
  · have hc' : c ∈ acc ++ s.pend ∨ c ∈ srt ltC (endL e s.all) := by
      have : c ∈ (acc ++ s.pend) ++ srt ltC (endL e s.all) := by rw [List.append_assoc]; exact hc
      exact List.mem_append.1 this
    have hx : ∃ x ∈ s.all, x.id = c.id := by
      rcases hc' with hc | hc
      · exact h.cv c hc
      · rw [(srt_perm _).mem_iff] at hc
        obtain ⟨x, hx, rfl⟩ := List.mem_map.1 hc
        exact ⟨x, (List.mem_filter.1 hx).1, rfl⟩
    obtain ⟨x, hx, hi⟩ := hx
    exact ⟨mv1 e x, List.mem_map.2 ⟨x, hx, rfl⟩, by rw [mv1_id, hi]⟩
theorem findL_no : ∀ (l : List Lz) (id : Int) (i : Nat), findL l id i < 0 → ∀ x ∈ l, x.id ≠ id
  | [], _, _, _, x, h => by cases h
  | y :: l, id, i, hf, x, h => by
    simp only [findL] at hf
    cases hy : y.id == id with
    | true => rw [hy, Bool.cond_true] at hf; omega
    | false =>
      rw [hy, Bool.cond_false] at hf
      rcases List.mem_cons.1 h with rfl | h
      · simpa using hy
      · exact findL_no l id (i + 1) hf x h
theorem law_add {s : Ls} {acc : List Chg} (h : Law s acc) (hz : ∀ x ∈ s.all, x.ok) (id len a : Int) : Law (addL s id len a) acc := by
  unfold addL
  cases hE : addE s id len a == 0 with
  | false => exact h
  | true =>
    rw [Bool.cond_true]
    simp only [addE] at hE
    cases h1 : decide (id < 1) || !timB len || !timB a with
    | true => rw [h1] at hE; simp at hE
    | false =>
      cases h2 : decide (a < s.now) with
      | true => rw [h1, h2] at hE; simp at hE
      | false =>
        cases h3 : decide (0 ≤ findL s.all id 0) with
        | true => rw [h1, h2, h3] at hE; simp at hE
        | false =>
          have hno := findL_no s.all id 0 (by simpa using h3)
          have hta : timB a = true := by simp at h1; exact h1.2
          have ha : 0 ≤ a := by unfold timB at hta; simp at hta; exact hta.1
          have hm := law_mv h hz (t := a) (e := a) (by simpa using h2) (by omega)
          have hid : (s.mv a a).all.map (fun x => x.id) = s.all.map fun x => x.id := by
            show (s.all.map (mv1 a)).map _ = _
            rw [List.map_map]; exact List.map_congr_left fun x _ => mv1_id a x
          have hno' : ∀ x ∈ (s.mv a a).all, x.id ≠ id := fun x hx => by
            obtain ⟨y, hy, rfl⟩ := List.mem_map.1 hx
            rw [mv1_id]; exact hno y hy
          refine ⟨?_, fun x hx => ?_, fun c hc => ?_⟩
          · simp only [List.map_append, List.map_cons, List.map_nil]
            refine List.nodup_append.2 ⟨hm.nd, by simp, fun z hz w hw => ?_⟩
            obtain ⟨x, hx, rfl⟩ := List.mem_map.1 hz
            simp at hw
            subst hw
            exact hno' x hx
          · rcases List.mem_append.1 hx with hx | hx
            · exact hm.gd x hx
            · simp at hx
              subst hx
              have : sq (acc ++ (s.mv a a).pend) id = [] := by
                refine List.filter_eq_nil_iff.2 fun c hc => ?_
                obtain ⟨x, hx, hi⟩ := hm.cv c hc
                have := hno' x hx
                simp; omega
              rw [this]
              exact ⟨trivial, rfl, ha, fun _ => ha, by simp only; omega⟩
          · obtain ⟨x, hx, hi⟩ := hm.cv c hc
            exact ⟨x, List.mem_append_left _ hx, hi⟩
theorem law_asr {s : Ls} {acc : List Chg} (h : Law s acc) (hz : ∀ x ∈ s.all, x.ok) (id a : Int) : Law (asrL s id a) acc := by
  unfold asrL
  cases hE : asrE s id a == 0 with
  | false => exact h
  | true =>
    rw [Bool.cond_true]
    simp only [asrE] at hE
    cases h1 : decide (findL s.all id 0 < 0) with
    | true => rw [h1] at hE; simp at hE
    | false =>
      cases h2 : !timB a with
      | true => rw [h1, h2] at hE; simp at hE
      | false =>
        cases h3 : decide (a < s.now) with
        | true => rw [h1, h2, h3] at hE; simp at hE
        | false =>
          have hm := law_mv h hz (t := a) (e := a) (by simpa using h3) (by omega)
          obtain ⟨_, y, hy, hyi⟩ := findL_get s.all id 0 (by simpa using h1)
          obtain ⟨F, hF⟩ : ∃ F, F = (findL s.all id 0).toNat := ⟨_, rfl⟩
          rw [← hF, Nat.sub_zero] at hy
          rw [← hF]
          obtain ⟨M, hM⟩ : ∃ M, M = s.mv a a := ⟨_, rfl⟩
          have hx : M.all[F]? = some (mv1 a y) := by rw [hM]; show (s.all.map (mv1 a))[F]? = _; rw [List.getElem?_map, hy]; rfl
          have hMn : M.now = a := by rw [hM]; rfl
          rw [← hM] at hm ⊢
          obtain ⟨x, hxe⟩ : ∃ x, x = mv1 a y := ⟨_, rfl⟩
          have hxi : x.id = id := by rw [hxe, mv1_id, hyi]
          rw [← hxe] at hx
          rw [hx]
          simp only
          have hFl := (List.getElem?_eq_some_iff.1 hx).1
          have hmap : (M.all.set F ⟨x.id, x.len, a, true⟩).map (fun x => x.id) = M.all.map fun x => x.id := by
            refine List.ext_getElem? fun j => ?_
            rw [List.getElem?_map, List.getElem?_map, List.getElem?_set]
            split
            · rename_i hj; subst hj; rw [hx]; rfl
            · rfl
          have g := hm.gd x (List.mem_of_getElem? hx)
          have hP : ∀ z : Int, sq (acc ++ (bif x.up then M.pend else M.pend ++ [⟨id, a, true⟩])) z = sq (acc ++ M.pend) z ++ (bif !x.up && (id == z) then [⟨id, a, true⟩] else []) := fun z => by
            cases x.up with
            | true => simp
            | false =>
              rw [Bool.cond_false, ← List.append_assoc, sq_app (acc ++ M.pend)]
              unfold sq
              cases hz : id == z <;> simp [hz]
          refine ⟨by simp only [hmap]; exact hm.nd, fun w hw => ?_, fun c hc => ?_⟩
          · rw [hP]
            obtain ⟨j, hj⟩ := List.mem_iff_getElem?.1 hw
            rw [List.getElem?_set] at hj
            split at hj
            · rename_i hjF
              obtain rfl := Option.some.inj hj
              have hte := g.tm
              rw [hMn] at hte
              simp only [hxi, beq_self_eq_true, Bool.and_true]
              rw [hxi] at g hte
              cases hu : x.up with
              | true =>
                simp only [Bool.not_true, Bool.cond_false, List.append_nil]
                exact ⟨g.alt, by rw [g.up, hu], hte, fun _ => hte, Int.le_refl _⟩
              | false =>
                simp only [Bool.not_false, Bool.cond_true]
                refine ⟨(alt_app _ _ _ _).2 ⟨g.alt, ?_⟩, by rw [endB_app]; rfl, by rw [endT_app]; exact Int.le_refl _, fun _ => by rw [endT_app]; exact Int.le_refl _, Int.le_refl _⟩
                rw [g.up, hu]; exact ⟨rfl, hte, trivial⟩
            · rename_i hjF
              have hne : (id == w.id) = false := by
                simp; intro he
                have i1 : (M.all.map fun x => x.id)[F]? = some id := by rw [List.getElem?_map, hx, ← hxi]; rfl
                have i2 : (M.all.map fun x => x.id)[j]? = some id := by rw [List.getElem?_map, hj, he]; rfl
                have hj' := (List.getElem?_eq_some_iff.1 i2).1
                exact hjF ((List.getElem?_inj (by simpa using hFl) hm.nd).1 (i1.trans i2.symm))
              rw [hne, Bool.and_false, Bool.cond_false, List.append_nil]
              have := hm.gd w (List.mem_of_getElem? hj)
              rw [hMn] at this
              exact this
          · have hc' : c ∈ acc ++ M.pend ∨ c.id = id := by
              cases hu : x.up with
              | true => rw [hu, Bool.cond_true] at hc; exact .inl hc
              | false =>
                rw [hu, Bool.cond_false, ← List.append_assoc] at hc
                rcases List.mem_append.1 hc with hc | hc
                · exact .inl hc
                · simp at hc; subst hc; exact .inr rfl
            have hx' : ∃ z ∈ M.all.map (fun x => x.id), z = c.id := by
              rcases hc' with hc | hc
              · obtain ⟨w, hw, hi⟩ := hm.cv c hc
                exact ⟨w.id, List.mem_map.2 ⟨w, hw, rfl⟩, hi⟩
              · exact ⟨x.id, List.mem_map.2 ⟨x, List.mem_of_getElem? hx, rfl⟩, by rw [hxi, hc]⟩
            rw [← hmap] at hx'
            obtain ⟨z, hz, hi⟩ := hx'
            obtain ⟨w, hw, rfl⟩ := List.mem_map.1 hz
            exact ⟨w, hw, hi⟩
def chkL (s : Ls) (a : Int) : Ls := bif chkB s a then s else ⟨a, (s.mv a (a + 1)).all, []⟩
def chkG (s : Ls) (a : Int) : List Chg := bif chkB s a then [] else srt ltC (s.mv a (a + 1)).pend
theorem law_chk {s : Ls} {acc : List Chg} (h : Law s acc) (hz : ∀ x ∈ s.all, x.ok) (a : Int) : Law (chkL s a) (acc ++ chkG s a) := by
  unfold chkL chkG
  cases hE : chkB s a with
  | true => simp only [Bool.cond_true, List.append_nil]; exact h
  | false =>
    simp only [Bool.cond_false]
    have hn : s.now ≤ a := by unfold chkB at hE; simp at hE; exact hE.1
    have hm := law_mv h hz (t := a) (e := a + 1) hn (by omega)
    obtain ⟨M, hM⟩ : ∃ M, M = s.mv a (a + 1) := ⟨_, rfl⟩
    have hMn : M.now = a := by rw [hM]; rfl
    rw [← hM] at hm ⊢
    refine ⟨hm.nd, fun x hx => ?_, fun c hc => ?_⟩
    · have g := hm.gd x hx
      rw [hMn] at g
      have : sq ((acc ++ srt ltC M.pend) ++ []) x.id = sq (acc ++ M.pend) x.id := by
        rw [List.append_nil, sq_app, sq_app]
        congr 1
        have ha := g.alt
        rw [sq_app, alt_app] at ha
        obtain ⟨k1, _⟩ := alt_srt _ _ _ x.id (fun c hc => sq_id hc) ha.2
        show (srt ltC M.pend).filter _ = _
        rw [srt_filter swo]
        exact srt_id swo _ k1
      simp only
      rw [this]
      exact g
    · refine hm.cv c ?_
      simp only [List.append_nil] at hc
      rcases List.mem_append.1 hc with hc | hc
      · exact List.mem_append_left _ hc
      · rw [(srt_perm _).mem_iff] at hc
        exact List.mem_append_right _ hc
theorem law_all {s : Ls} {acc : List Chg} (h : Law s acc) (id : Int) : altOK true 0 (sq acc id) := by
  by_cases hx : ∃ x ∈ s.all, x.id = id
  · obtain ⟨x, hx, rfl⟩ := hx
    have := (h.gd x hx).alt
    rw [sq_app, alt_app] at this
    exact this.1
  · have : sq acc id = [] := by
      refine List.filter_eq_nil_iff.2 fun c hc => ?_
      obtain ⟨x, hm, hi⟩ := h.cv c (List.mem_append_left _ hc)
      simp; intro he
      exact hx ⟨x, hm, by rw [hi, he]⟩
    rw [this]; trivial
end Go.Proofs.Ytngmjggconefcaa
