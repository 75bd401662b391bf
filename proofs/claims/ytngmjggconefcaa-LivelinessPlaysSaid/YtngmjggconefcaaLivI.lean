/- The set of leases: Add, Assert, Check. -/
import Derived.Test.YtngmjggconefcaaLivH
namespace Go.Proofs.Ytngmjggconefcaa
open Go.W
@[go_sem] theorem ls_eta (s : Ls) : Ls.mk s.now s.all s.pend = s := rfl
structure Ls.fit (s : Ls) : Prop where
  al : s.all.length ≤ 900
  pl : s.pend.length ≤ 400000
  lz : ∀ x ∈ s.all, x.ok
  nw : 0 ≤ s.now
theorem Ls.fit.ok {s : Ls} (h : s.fit) : s.ok := ⟨by have := h.al; omega, by have := h.pl; omega, h.lz⟩
theorem mv_ok {s : Ls} (h : s.fit) (t e : Int) : (s.mv t e).ok := by
  have h1 := h.al; have h2 := h.pl
  have h3 := endL_len e s.all
  refine ⟨by simp only [Ls.mv, List.length_map]; omega, by simp only [Ls.mv, List.length_append, srt_len]; omega, fun x hx => ?_⟩
  simp only [Ls.mv] at hx
  obtain ⟨y, hy, rfl⟩ := List.mem_map.1 hx
  exact mv1_ok (h.lz y hy)
def isFit (now : Int) (ra rp : List (List C)) (na np : Nat) : Prop := ∃ s : Ls, now = s.now ∧ ra = s.all.map lzC ∧ rp = s.pend.map chC ∧ na = s.all.length ∧ np = s.pend.length ∧ s.fit
theorem isFit_mk {s : Ls} (h : s.fit) : isFit s.now (s.all.map lzC) (s.pend.map chC) s.all.length s.pend.length := ⟨s, rfl, rfl, rfl, rfl, rfl, h⟩
def timB (n : Int) : Bool := decide (0 ≤ n) && decide (n ≤ 1099511627776)
theorem mTimely : Meets Try.prog 21 (i1Fn fun n => .bool (timB n)).sp := by
  refine meets_fn Try.func21 ok21 1 (by rw [Try.ntmps21]; decide) (meetsAll_nil _) i1Fn_len ?_
  rintro xs H K ⟨⟨h, rfl⟩, hK⟩
  obtain ⟨a, rfl⟩ := i1Pre_open h
  simp -dsimp only [go_sem, pc21, rs21] at hK ⊢
  exact .done hK
/-! ### Add -/
def addE (s : Ls) (id len at' : Int) : Int := bif decide (id < 1) || !timB len || !timB at' then 4 else bif decide (at' < s.now) then 17 else bif decide (0 ≤ findL s.all id 0) then 7 else 0
def addL (s : Ls) (id len at' : Int) : Ls := bif addE s id len at' == 0 then ⟨at', (s.mv at' at').all ++ [⟨id, len, at', true⟩], (s.mv at' at').pend⟩ else s
def addSp : W.Spec := fun av H K =>
  match av, H with
  | [.va (.c1 (.pt 0 0)), .va (.c1 (.vl (.int .i64 id))), .va (.c1 (.vl (.int .i64 len))), .va (.c1 (.vl (.int .i64 a)))], [.cells [.vl (.int .i64 now), .sl 1 na, .sl 2 np] 59, .row ra 63 4, .row rp 44 3] =>
    isFit now ra rp na np ∧ K (iS .i64 (addE ⟨now, ra.map C.lz, rp.map C.chg⟩ id len a)) (lsH (addL ⟨now, ra.map C.lz, rp.map C.chg⟩ id len a))
  | _, _ => False
theorem addSp_open {av : List S} {H : Hp} {K : S → Hp → Prop} (h : addSp av H K) : ∃ (s : Ls) (id len a : Int), av = [.va (.c1 (.pt 0 0)), iS .i64 id, iS .i64 len, iS .i64 a] ∧ H = lsH s ∧ s.fit ∧ K (iS .i64 (addE s id len a)) (lsH (addL s id len a)) := by
  unfold addSp at h
  split at h
  · rename_i id len a now na np ra rp
    obtain ⟨⟨s, rfl, rfl, rfl, rfl, rfl, hs⟩, hK⟩ := h
    rw [lz_map, chg_map] at hK
    exact ⟨s, id, len, a, rfl, rfl, hs, hK⟩
  · exact h.elim
attribute [go_sem ↓] addSp
set_option maxRecDepth 100000 in
theorem mAdd : Meets Try.prog 10 addSp := by
  refine meets_fn Try.func10 ok10 4 (by rw [Try.ntmps10]; decide) (meetsAll_f mTimely (meetsAll_s mFind (meetsAll_s mMove (meetsAll_nil _)))) (fun av H K h => by obtain ⟨_, _, _, _, rfl, _⟩ := addSp_open h; rfl) ?_
  intro av H K h
  obtain ⟨s, id, len, a, rfl, rfl, hs, hK⟩ := addSp_open h
  have hal := hs.al
  have hl : isLs (s.all.map lzC) (s.pend.map chC) s.all.length s.pend.length := isLs_mk hs.ok
  simp -dsimp only [go_sem, pc10, rs10]
  refine ⟨fun h1 => .done ?_, fun h1 => ⟨fun h2 => .done ?_, fun h2 => ⟨hl, fun h3 => .done ?_, fun h3 => ?_⟩⟩⟩
  · unfold addL at hK
    simp only [addE, h1, Bool.cond_true] at hK
    exact hK
  · unfold addL at hK
    simp only [addE, h1, h2, Bool.cond_true, Bool.cond_false] at hK
    exact hK
  · unfold addL at hK
    simp only [addE, h1, h2, h3, Bool.cond_true, Bool.cond_false] at hK
    exact hK
  · have hE : addE s id len a = 0 := by simp only [addE, h1, h2, h3, Bool.cond_false]
    have hL : addL s id len a = ⟨a, (s.mv a a).all ++ [⟨id, len, a, true⟩], (s.mv a a).pend⟩ := by unfold addL; rw [hE]; rfl
    rw [hE, hL] at hK
    refine ⟨hl, by have := (mv_ok hs a a).al; omega, .sel [0, 1, 2] (by simp) (by simp) rfl (.done ?_)⟩
    have e : lsH ⟨a, (s.mv a a).all ++ [⟨id, len, a, true⟩], (s.mv a a).pend⟩ = [.cells [.vl (.int .i64 (s.mv a a).now), .sl 1 ((s.mv a a).all.length + 1), .sl 2 (s.mv a a).pend.length] 59, .row ((s.mv a a).all.map lzC ++ [[.vl (.int .i64 id), .vl (.int .i64 len), .vl (.int .i64 a), .vl (.bool true)]]) 63 4, .row ((s.mv a a).pend.map chC) 44 3] := by simp [Ls.mv]
    rw [e] at hK
    simp -dsimp only [go_sem]
    exact hK
/-! ### Assert -/
theorem findL_get : ∀ (l : List Lz) (id : Int) (i : Nat), 0 ≤ findL l id i → i ≤ (findL l id i).toNat ∧ ∃ x, l[(findL l id i).toNat - i]? = some x ∧ x.id = id
  | [], _, _, h => by simp [findL] at h
  | x :: l, id, i, h => by
    simp only [findL] at h ⊢
    cases hx : x.id == id with
    | true =>
      simp only [Bool.cond_true]
      exact ⟨by omega, x, by simp, by simpa using hx⟩
    | false =>
      rw [hx] at h
      simp only [Bool.cond_false] at h ⊢
      obtain ⟨h1, y, h2, h3⟩ := findL_get l id (i + 1) h
      refine ⟨by omega, y, ?_, h3⟩
      have : (findL l id (i + 1)).toNat - i = ((findL l id (i + 1)).toNat - (i + 1)) + 1 := by omega
      rw [this, List.getElem?_cons_succ]
      exact h2
def asrE (s : Ls) (id at' : Int) : Int := bif decide (findL s.all id 0 < 0) then 6 else bif !timB at' then 4 else bif decide (at' < s.now) then 17 else 0
def asrL (s : Ls) (id at' : Int) : Ls := bif asrE s id at' == 0 then
    (match (s.mv at' at').all[(findL s.all id 0).toNat]? with
    | some x => ⟨at', (s.mv at' at').all.set (findL s.all id 0).toNat ⟨x.id, x.len, at', true⟩, bif x.up then (s.mv at' at').pend else (s.mv at' at').pend ++ [⟨id, at', true⟩]⟩
    | none => s) else s
def asrSp : W.Spec := fun av H K =>
  match av, H with
  | [.va (.c1 (.pt 0 0)), .va (.c1 (.vl (.int .i64 id))), .va (.c1 (.vl (.int .i64 a)))], [.cells [.vl (.int .i64 now), .sl 1 na, .sl 2 np] 59, .row ra 63 4, .row rp 44 3] =>
    isFit now ra rp na np ∧ K (iS .i64 (asrE ⟨now, ra.map C.lz, rp.map C.chg⟩ id a)) (lsH (asrL ⟨now, ra.map C.lz, rp.map C.chg⟩ id a))
  | _, _ => False
theorem asrSp_open {av : List S} {H : Hp} {K : S → Hp → Prop} (h : asrSp av H K) : ∃ (s : Ls) (id a : Int), av = [.va (.c1 (.pt 0 0)), iS .i64 id, iS .i64 a] ∧ H = lsH s ∧ s.fit ∧ K (iS .i64 (asrE s id a)) (lsH (asrL s id a)) := by
  unfold asrSp at h
  split at h
  · rename_i id a now na np ra rp
    obtain ⟨⟨s, rfl, rfl, rfl, rfl, rfl, hs⟩, hK⟩ := h
    rw [lz_map, chg_map] at hK
    exact ⟨s, id, a, rfl, rfl, hs, hK⟩
  · exact h.elim
attribute [go_sem ↓] asrSp
set_option maxRecDepth 100000 in
theorem mAssert : Meets Try.prog 11 asrSp := by
  refine meets_fn Try.func11 ok11 3 (by rw [Try.ntmps11]; decide) (meetsAll_f mTimely (meetsAll_s mFind (meetsAll_s mMove (meetsAll_nil _)))) (fun av H K h => by obtain ⟨_, _, _, rfl, _⟩ := asrSp_open h; rfl) ?_
  intro av H K h
  obtain ⟨s, id, a, rfl, rfl, hs, hK⟩ := asrSp_open h
  have hal := hs.al
  have hl : isLs (s.all.map lzC) (s.pend.map chC) s.all.length s.pend.length := isLs_mk hs.ok
  obtain ⟨F, hF⟩ : ∃ F, F = findL s.all id 0 := ⟨_, rfl⟩
  obtain ⟨M, hM⟩ : ∃ M, M = (s.mv a a).all := ⟨_, rfl⟩
  obtain ⟨Z, hZ⟩ : ∃ Z, Z = (s.mv a a).pend := ⟨_, rfl⟩
  have hMl : M.length = s.all.length := by rw [hM]; exact List.length_map _
  have hZl : Z.length ≤ 500000 := by rw [hZ]; exact (mv_ok hs a a).pl
  cases h1 : decide (F < 0) with
  | true =>
    simp -dsimp only [go_sem, pc11, rs11, ← hF, h1]
    unfold asrL at hK
    simp only [asrE, ← hF, h1, Bool.cond_true] at hK
    exact ⟨hl, .done hK⟩
  | false =>
    have h0 : 0 ≤ F := by simp at h1; omega
    obtain ⟨_, x0, hx0, hxid⟩ := findL_get s.all id 0 (by omega)
    rw [← hF, Nat.sub_zero] at hx0
    have hx : M[F.toNat]? = some (mv1 a x0) := by rw [hM]; show (s.all.map (mv1 a))[F.toNat]? = _; rw [List.getElem?_map, hx0]; rfl
    have hFl := (List.getElem?_eq_some_iff.1 hx0).1
    obtain ⟨x, hxx⟩ : ∃ x, x = mv1 a x0 := ⟨_, rfl⟩
    rw [← hxx] at hx
    have q1 := rg_at (row := lzC) hx
    have hset1 : (M.map lzC).set F.toNat [.vl (.int .i64 x.id), .vl (.int .i64 x.len), .vl (.int .i64 a), .vl (.bool x.up)] = (M.set F.toNat ⟨x.id, x.len, a, x.up⟩).map lzC := by rw [List.map_set]
    have hx2 : (M.set F.toNat ⟨x.id, x.len, a, x.up⟩)[F.toNat]? = some ⟨x.id, x.len, a, x.up⟩ := by rw [List.getElem?_set, if_pos rfl, if_pos (by omega)]
    have q2 := rg_at (row := lzC) hx2
    have hset2 : ((M.set F.toNat ⟨x.id, x.len, a, x.up⟩).map lzC).set F.toNat [.vl (.int .i64 x.id), .vl (.int .i64 x.len), .vl (.int .i64 a), .vl (.bool true)] = (M.set F.toNat ⟨x.id, x.len, a, true⟩).map lzC := by rw [show [C.vl (.int .i64 x.id), C.vl (.int .i64 x.len), C.vl (.int .i64 a), C.vl (.bool true)] = lzC ⟨x.id, x.len, a, true⟩ from rfl, ← List.map_set, List.set_set]
    simp -dsimp only [go_sem, pc11, rs11, ← hF, h1, ← hM, ← hZ, ↓q1, ↓q2, hset1, hset2]
    have hMl3 : ∀ y : Lz, (M.set F.toNat y).length = M.length := fun y => List.length_set
    refine ⟨hl, fun h2 => .done ?_, fun h2 => ⟨fun h3 => .done ?_, fun h3 => ?_⟩⟩
    · unfold asrL at hK
      simp only [asrE, ← hF, h1, h2, Bool.cond_true, Bool.cond_false, Bool.not_false] at hK
      exact hK
    · unfold asrL at hK
      simp only [asrE, ← hF, h1, h2, h3, Bool.cond_true, Bool.cond_false] at hK
      exact hK
    · have hE : asrE s id a = 0 := by simp only [asrE, ← hF, h1, h2, h3, Bool.cond_false]
      have hL : asrL s id a = ⟨a, M.set F.toNat ⟨x.id, x.len, a, true⟩, bif x.up then Z else Z ++ [⟨id, a, true⟩]⟩ := by
        unfold asrL
        rw [hE, ← hF, ← hM, ← hZ, hx]; rfl
      rw [hE, hL] at hK
      have hMZ : (s.mv a a).now = a := rfl
      refine ⟨hl, by omega, by omega, fun h4 => ?_, fun h4 => ?_⟩
      · rw [h4, Bool.cond_false] at hK
        have e : lsH ⟨a, M.set F.toNat ⟨x.id, x.len, a, true⟩, Z ++ [⟨id, a, true⟩]⟩ = [.cells [.vl (.int .i64 (s.mv a a).now), .sl 1 M.length, .sl 2 (Z.length + 1)] 59, .row ((M.set F.toNat ⟨x.id, x.len, a, true⟩).map lzC) 63 4, .row (Z.map chC ++ [[.vl (.int .i64 id), .vl (.int .i64 a), .vl (.bool true)]]) 44 3] := by simp [Ls.mv]
        rw [e] at hK
        and_intros
        all_goals first
          | omega
          | (exact hMl3 _)
          | (rw [hMl3]; omega)
          | skip
        exact .sel [0, 1, 2] (by simp) (by simp) rfl (.done (by simp -dsimp only [go_sem]; exact hK))
      · have h4' : x.up = true := by simpa using h4
        rw [h4', Bool.cond_true] at hK
        have e : lsH ⟨a, M.set F.toNat ⟨x.id, x.len, a, true⟩, Z⟩ = [.cells [.vl (.int .i64 (s.mv a a).now), .sl 1 M.length, .sl 2 Z.length] 59, .row ((M.set F.toNat ⟨x.id, x.len, a, true⟩).map lzC) 63 4, .row (Z.map chC) 44 3] := by simp [Ls.mv]
        rw [e] at hK
        and_intros
        all_goals first
          | omega
          | (exact hMl3 _)
          | (rw [hMl3]; omega)
          | skip
        exact .done hK
end Go.Proofs.Ytngmjggconefcaa
