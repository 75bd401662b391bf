/- The set of leases: find, until, move. -/
import Derived.Test.YtngmjggconefcaaLivG
import Derived.Test.YtngmjggconefcaaPb
namespace Go.Proofs.Ytngmjggconefcaa
open Go.W
structure Lz where
  id : Int
  len : Int
  ren : Int
  up : Bool
structure Ls where
  now : Int
  all : List Lz
  pend : List Chg
abbrev lzC (x : Lz) : List C := [.vl (.int .i64 x.id), .vl (.int .i64 x.len), .vl (.int .i64 x.ren), .vl (.bool x.up)]
def C.lz (r : List C) : Lz := match r with
  | [.vl (.int .i64 i), .vl (.int .i64 l), .vl (.int .i64 t), .vl (.bool b)] => ⟨i, l, t, b⟩
  | _ => ⟨0, 0, 0, false⟩
@[go_sem] theorem lz_map (l : List Lz) : (l.map lzC).map C.lz = l := by
  rw [List.map_map, show (C.lz ∘ lzC) = id from funext fun c => rfl, List.map_id]
abbrev lsH (s : Ls) : Hp := [.cells [.vl (.int .i64 s.now), .sl 1 s.all.length, .sl 2 s.pend.length] 59, .row (s.all.map lzC) 63 4, .row (s.pend.map chC) 44 3]
def Lz.ok (x : Lz) : Prop := 0 ≤ x.len ∧ x.len ≤ 1099511627776 ∧ 0 ≤ x.ren ∧ x.ren ≤ 1099511627776
structure Ls.ok (s : Ls) : Prop where
  al : s.all.length ≤ 1000
  pl : s.pend.length ≤ 500000
  lz : ∀ x ∈ s.all, x.ok
/-- What an own block of leases says. -/
def isLs (ra rp : List (List C)) (na np : Nat) : Prop := ∃ s : Ls, ra = s.all.map lzC ∧ rp = s.pend.map chC ∧ na = s.all.length ∧ np = s.pend.length ∧ s.ok
theorem isLs_mk {s : Ls} (h : s.ok) : isLs (s.all.map lzC) (s.pend.map chC) s.all.length s.pend.length := ⟨s, rfl, rfl, rfl, rfl, h⟩
def findL : List Lz → Int → Nat → Int
  | [], _, _ => -1
  | x :: l, id, i => bif x.id == id then (i : Int) else findL l id (i + 1)
def findSp : W.Spec := fun av H K =>
  match av, H with
  | [.va (.c1 (.pt 0 0)), .va (.c1 (.vl (.int .i64 id)))], [.cells [.vl (.int .i64 now), .sl 1 na, .sl 2 np] 59, .row ra 63 4, .row rp 44 3] =>
    isLs ra rp na np ∧ K (iS .i64 (findL (ra.map C.lz) id 0)) [.cells [.vl (.int .i64 now), .sl 1 na, .sl 2 np] 59, .row ra 63 4, .row rp 44 3]
  | _, _ => False
theorem findSp_open {av : List S} {H : Hp} {K : S → Hp → Prop} (h : findSp av H K) : ∃ (s : Ls) (id : Int), av = [.va (.c1 (.pt 0 0)), iS .i64 id] ∧ H = lsH s ∧ s.ok ∧ K (iS .i64 (findL s.all id 0)) (lsH s) := by
  unfold findSp at h
  split at h
  · rename_i id now na np ra rp
    obtain ⟨⟨s, rfl, rfl, rfl, rfl, hs⟩, hK⟩ := h
    rw [lz_map] at hK
    exact ⟨⟨now, s.all, s.pend⟩, id, rfl, rfl, ⟨hs.al, hs.pl, hs.lz⟩, hK⟩
  · exact h.elim
attribute [go_sem ↓] findSp
theorem drop_lz {l : List Lz} {i : Nat} {x : Lz} (h : l[i]? = some x) : l.drop i = x :: l.drop (i + 1) := by
  have hi := (List.getElem?_eq_some_iff.1 h).1
  rw [List.drop_eq_getElem_cons hi]
  rw [List.getElem?_eq_getElem hi] at h
  rw [Option.some.inj h]
theorem mFind : Meets Try.prog 22 findSp := by
  refine meets_fn Try.func22 ok22 2 (by rw [Try.ntmps22]; decide) (meetsAll_nil _) (fun av H K h => by obtain ⟨_, _, rfl, _⟩ := findSp_open h; rfl) ?_
  intro av H K h
  obtain ⟨s, id, rfl, rfl, hs, hK⟩ := findSp_open h
  have hal := hs.al
  simp -dsimp only [go_sem, pc22, rs22]
  refine vc_loop (α := Nat) (fun i => [(0, .va (.c1 (.pt 0 0))), (1, iS .i64 id), (10, iS .i64 s.all.length), (11, iS .i64 i)]) (fun _ => lsH s) (fun i => i ≤ s.all.length ∧ findL (s.all.drop i) id i = findL s.all id 0) (fun i => s.all.length - i) 0 3 ⟨by omega, rfl⟩ ?_ ?_ ?_
  · simp [go_sem]
  · simp [go_sem]
  rintro i ⟨hi, hf⟩
  simp -dsimp only [go_sem]
  refine ⟨fun h1 => ?_, fun h1 => ?_⟩
  · simp at h1
    refine ⟨by omega, by omega, fun x hx => ?_⟩
    rw [drop_lz hx] at hf
    simp only [findL] at hf
    refine ⟨fun h2 => ?_, fun h2 => ?_⟩
    · rw [h2] at hf
      exact .done (by rw [show (i : Int) = findL s.all id 0 from hf]; exact hK)
    · rw [h2] at hf
      refine ⟨by omega, loop_next (i + 1) 3 ⟨by omega, hf⟩ (by omega) ?_ ?_⟩
      · simp [go_sem]
      · simp [go_sem]
  · simp at h1
    have : s.all.drop i = [] := List.drop_eq_nil_iff.2 (by omega)
    rw [this] at hf
    simp only [findL] at hf
    exact .done (by rw [hf]; exact hK)
/-! ### until -/
def untSp : W.Spec := fun av H K =>
  match av with
  | [.va (.gs [.vl (.int .i64 _), .vl (.int .i64 l), .vl (.int .i64 r), .vl (.bool u)])] => (H = [] ∧ 0 ≤ l ∧ l ≤ 1099511627776 ∧ 0 ≤ r ∧ r ≤ 1099511627776) ∧ K (.tu [iA .i64 (r + l), bA (u && decide (0 < l))]) []
  | _ => False
theorem untSp_open {av : List S} {H : Hp} {K : S → Hp → Prop} (h : untSp av H K) : ∃ x : Lz, av = [.va (.gs (lzC x))] ∧ H = [] ∧ x.ok ∧ K (.tu [iA .i64 (x.ren + x.len), bA (x.up && decide (0 < x.len))]) [] := by
  unfold untSp at h
  split at h
  · rename_i i l r u
    exact ⟨⟨i, l, r, u⟩, rfl, h.1.1, h.1.2, h.2⟩
  · exact h.elim
attribute [go_sem ↓] untSp
theorem mUntil : Meets Try.prog 25 untSp := by
  refine meets_fn Try.func25 ok25 1 (by rw [Try.ntmps25]; decide) (meetsAll_nil _) (fun av H K h => by obtain ⟨_, rfl, _⟩ := untSp_open h; rfl) ?_
  intro av H K h
  obtain ⟨x, rfl, rfl, hx, hK⟩ := untSp_open h
  obtain ⟨h1, h2, h3, h4⟩ := hx
  simp -dsimp only [go_sem, pc25, rs25]
  exact ⟨by omega, .sel [] (by simp) (by simp) rfl (.done hK)⟩
/-! ### move -/
def dueB (e : Int) (x : Lz) : Bool := x.up && decide (0 < x.len) && decide (x.ren + x.len < e)
def mv1 (e : Int) (x : Lz) : Lz := bif dueB e x then ⟨x.id, x.len, x.ren, false⟩ else x
def endL (e : Int) (l : List Lz) : List Chg := (l.filter (dueB e)).map fun x => ⟨x.id, x.ren + x.len, false⟩
def mvI (l : List Lz) (e : Int) (i : Nat) : List Lz := (l.take i).map (mv1 e) ++ l.drop i
def Ls.mv (s : Ls) (t e : Int) : Ls := ⟨t, s.all.map (mv1 e), s.pend ++ srt ltC (endL e s.all)⟩
theorem mv1_ok {e : Int} {x : Lz} (h : x.ok) : (mv1 e x).ok := by unfold mv1; cases dueB e x <;> exact h
theorem endL_len (e : Int) (l : List Lz) : (endL e l).length ≤ l.length := by unfold endL; rw [List.length_map]; exact List.length_filter_le _ _
theorem mvI_len (l : List Lz) (e : Int) (i : Nat) : (mvI l e i).length = l.length := by
  unfold mvI
  simp only [List.length_append, List.length_map, List.length_take, List.length_drop]; omega
theorem mvI_get {l : List Lz} {e : Int} {i : Nat} {x : Lz} (h : l[i]? = some x) : (mvI l e i)[i]? = some x := by
  have hi := (List.getElem?_eq_some_iff.1 h).1
  unfold mvI
  rw [drop_lz h]
  exact get_mid _ _ _ (by rw [List.length_map, List.length_take]; omega)
theorem mvI_set {l : List Lz} {e : Int} {i : Nat} {x : Lz} (h : l[i]? = some x) : (mvI l e i).set i (mv1 e x) = mvI l e (i + 1) := by
  have hi := (List.getElem?_eq_some_iff.1 h).1
  unfold mvI
  rw [drop_lz h, set_mid _ _ _ _ (by rw [List.length_map, List.length_take]; omega), List.take_add_one, h]
  simp
theorem mvI_same {l : List Lz} {e : Int} {i : Nat} {x : Lz} (h : l[i]? = some x) (hd : dueB e x = false) : mvI l e i = mvI l e (i + 1) := by
  rw [← mvI_set h]
  have : mv1 e x = x := by unfold mv1; rw [hd]; rfl
  rw [this]
  refine (List.ext_getElem? fun j => ?_).symm
  rw [List.getElem?_set]
  split
  · rename_i hj
    subst hj
    rw [if_pos (by rw [mvI_len]; exact (List.getElem?_eq_some_iff.1 h).1), mvI_get h]
  · rfl
theorem endL_step {l : List Lz} {e : Int} {i : Nat} {x : Lz} (h : l[i]? = some x) : endL e (l.take (i + 1)) = endL e (l.take i) ++ (bif dueB e x then [⟨x.id, x.ren + x.len, false⟩] else []) := by
  unfold endL
  rw [List.take_add_one, h, List.filter_append, List.map_append]
  cases hd : dueB e x <;> simp [hd]
def movSp : W.Spec := fun av H K =>
  match av, H with
  | [.va (.c1 (.pt 0 0)), .va (.c1 (.vl (.int .i64 t))), .va (.c1 (.vl (.int .i64 e)))], [.cells [.vl (.int .i64 now), .sl 1 na, .sl 2 np] 59, .row ra 63 4, .row rp 44 3] =>
    isLs ra rp na np ∧ K (.tu []) (lsH (Ls.mv ⟨now, ra.map C.lz, rp.map C.chg⟩ t e))
  | _, _ => False
theorem movSp_open {av : List S} {H : Hp} {K : S → Hp → Prop} (h : movSp av H K) : ∃ (s : Ls) (t e : Int), av = [.va (.c1 (.pt 0 0)), iS .i64 t, iS .i64 e] ∧ H = lsH s ∧ s.ok ∧ K (.tu []) (lsH (s.mv t e)) := by
  unfold movSp at h
  split at h
  · rename_i t e now na np ra rp
    obtain ⟨⟨s, rfl, rfl, rfl, rfl, hs⟩, hK⟩ := h
    rw [lz_map, chg_map] at hK
    exact ⟨⟨now, s.all, s.pend⟩, t, e, rfl, rfl, ⟨hs.al, hs.pl, hs.lz⟩, hK⟩
  · exact h.elim
attribute [go_sem ↓] movSp
theorem rg_at {α : Type} {row : α → List C} {l : List α} {n : Nat} {c : α} (h : l[n]? = some c) (p : List C → Prop) : (∀ r, (l.map row)[n]? = some r → p r) = p (row c) := by
  rw [List.getElem?_map, h]; simp
theorem rg_at' {α : Type} {row : α → List C} {l : List α} {n : Nat} {c : α} (h : l[n]? = some c) (p : List C → Prop) : (∀ r, (l.map row)[((n : Nat) : Int).toNat]? = some r → p r) = p (row c) := by
  rw [Int.toNat_natCast, List.getElem?_map, h]; simp
set_option maxRecDepth 100000 in
theorem mMove : Meets Try.prog 23 movSp := by
  refine meets_fn Try.func23 ok23 3 (by rw [Try.ntmps23]; decide) (meetsAll_s mUntil (meetsAll_s mSorted (meetsAll_nil _))) (fun av H K h => by obtain ⟨_, _, _, rfl, _⟩ := movSp_open h; rfl) ?_
  intro av H K h
  obtain ⟨s, t, e, rfl, rfl, hs, hK⟩ := movSp_open h
  have hal := hs.al
  have hpl := hs.pl
  simp -dsimp only [go_sem, pc23, rs23]
  refine vc_loop_gh (α := Nat) (fun i => [(0, .va (.c1 (.pt 0 0))), (1, iS .i64 t), (2, iS .i64 e), (6, .va (.c1 (.sl 3 (endL e (s.all.take i)).length))), (14, iS .i64 s.all.length), (15, iS .i64 i)])
    (fun i => [.cells [.vl (.int .i64 s.now), .sl 1 s.all.length, .sl 2 s.pend.length] 59, .row ((mvI s.all e i).map lzC) 63 4, .row (s.pend.map chC) 44 3, .row ((endL e (s.all.take i)).map chC) 44 3])
    (fun i => i ≤ s.all.length) (fun i => s.all.length - i) (.nil 6 44 3 rfl (gh_at 0 4 (by omega) ?_ ?_)) ?_
  · simp [go_sem, endL]
  · simp [go_sem, endL, mvI]
  intro i hi
  have hel : (endL e (s.all.take i)).length ≤ 1000 := by have := endL_len e (s.all.take i); rw [List.length_take] at this; omega
  have hml := mvI_len s.all e i
  rcases Nat.lt_or_ge i s.all.length with hlt | hge
  · obtain ⟨x, hx⟩ : ∃ x, s.all[i]? = some x := ⟨_, List.getElem?_eq_getElem hlt⟩
    have hxo := hs.lz x (List.mem_of_getElem? hx)
    obtain ⟨x1, x2, x3, x4⟩ := id hxo
    obtain ⟨M, hM⟩ : ∃ M, M = mvI s.all e i := ⟨_, rfl⟩
    obtain ⟨Z, hZ⟩ : ∃ Z, Z = endL e (s.all.take i) := ⟨_, rfl⟩
    have hMl : M.length = s.all.length := by rw [hM, hml]
    have gx : M[i]? = some x := by rw [hM]; exact mvI_get hx
    have q1 := rg_at (row := lzC) gx
    have q2 := rg_at' (row := lzC) gx
    have gx2 : (M.set i ⟨x.id, x.len, x.ren, false⟩)[i]? = some ⟨x.id, x.len, x.ren, false⟩ := by rw [List.getElem?_set, if_pos rfl, if_pos (by omega)]
    have q3 := rg_at (row := lzC) gx2
    have q4 := rg_at' (row := lzC) gx2
    have hg : decide ((i : Int) < (s.all.length : Int)) = true := by simp; omega
    have hset : (M.map lzC).set i [.vl (.int .i64 x.id), .vl (.int .i64 x.len), .vl (.int .i64 x.ren), .vl (.bool false)] = (M.set i ⟨x.id, x.len, x.ren, false⟩).map lzC := by rw [List.map_set]
    have hMl2 : (M.set i ⟨x.id, x.len, x.ren, false⟩).length = s.all.length := by rw [List.length_set, hMl]
    rw [← hM, ← hZ]
    rw [← hZ] at hel
    simp -dsimp only [go_sem, hg, ↓q1, ↓q2, ↓q3, ↓q4, hset]
    have hst := endL_step (e := e) hx
    rw [← hZ] at hst
    refine ⟨⟨⟨by omega, by omega⟩, hMl⟩, ⟨hMl, by omega⟩, ⟨x1, x2, x3, x4⟩, fun h1 => ?_, fun h1 => ?_⟩
    · have hd : dueB e x = true := h1
      have hm1 : mv1 e x = ⟨x.id, x.len, x.ren, false⟩ := by unfold mv1; rw [hd]; rfl
      rw [hd, Bool.cond_true] at hst
      have hms := mvI_set (e := e) hx
      rw [← hM, hm1] at hms
      refine ⟨⟨⟨by omega, by omega⟩, hMl⟩, hMl, ⟨hMl, by omega⟩, ⟨⟨by omega, by omega⟩, hMl2⟩, hMl2, ⟨hMl2, by omega⟩, by omega, by omega, ?_⟩
      refine loop_next (i + 1) 4 (by omega) (by omega) ?_ ?_
      · simp [go_sem, hst]
      · rw [← hms, hst]; simp [go_sem]
    · have hd : dueB e x = false := h1
      rw [hd, Bool.cond_false, List.append_nil] at hst
      have hms := mvI_same (e := e) hx hd
      rw [← hM] at hms
      refine ⟨by omega, loop_next (i + 1) 4 (by omega) (by omega) ?_ ?_⟩
      · simp [go_sem, hst]
      · rw [← hms, hst]; simp [go_sem]
  · obtain rfl : i = s.all.length := by omega
    have hg : decide ((s.all.length : Int) < (s.all.length : Int)) = false := by simp
    have hmv : mvI s.all e s.all.length = s.all.map (mv1 e) := by unfold mvI; simp
    rw [List.take_length] at hel ⊢
    rw [hmv]
    simp -dsimp only [go_sem, hg]
    have hsl := srt_len (lt := ltC) (endL e s.all)
    refine ⟨⟨⟨_, rfl, rfl⟩, by omega⟩, ⟨hsl, fun r hr c hc => ?_⟩, by omega, ?_⟩
    · obtain ⟨y, _, rfl⟩ := List.mem_map.1 hr
      simp only [List.mem_cons, List.not_mem_nil, or_false] at hc
      rcases hc with rfl | rfl | rfl <;> exact ⟨rfl, rfl⟩
    · refine .sel [0, 1, 2] (by simp) (by simp) rfl (.done ?_)
      have hE : lsH (s.mv t e) = [.cells [.vl (.int .i64 t), .sl 1 s.all.length, .sl 2 (s.pend.length + (srt ltC (endL e s.all)).length)] 59, .row ((s.all.map (mv1 e)).map lzC) 63 4, .row (s.pend.map chC ++ (srt ltC (endL e s.all)).map chC) 44 3] := by
        simp [Ls.mv]
      rw [hE] at hK
      simp -dsimp only [go_sem]
      exact hK
end Go.Proofs.Ytngmjggconefcaa
