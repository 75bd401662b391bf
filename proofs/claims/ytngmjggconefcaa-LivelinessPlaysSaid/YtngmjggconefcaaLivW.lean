/- The reference: move. -/
import Derived.Test.YtngmjggconefcaaLivV
namespace Go.Proofs.Ytngmjggconefcaa
open Go.W
theorem isG_of {s : Ls} {now : Int} {ra rp : List (List C)} (h1 : now = s.now) (h2 : ra = s.all.map lzC) (h3 : rp = s.pend.map chC) (h : s.ok) : isG now ra rp := ⟨s, h1, h2, h3, h⟩
abbrev ownG (s : Ls) : A := .gs [.vl (.int .i64 s.now), .sl 0 s.all.length, .sl 1 s.pend.length]
abbrev ownH (s : Ls) : Hp := [.row (s.all.map lzC) 74 4, .row (s.pend.map chC) 31 3]
def movRSp : W.Spec := fun av H K =>
  match av, H with
  | [.va (.gs [.vl (.int .i64 now), .fz ra, .fz rp]), .va (.c1 (.vl (.int .i64 t))), .va (.c1 (.vl (.int .i64 e)))], [] =>
    isFit now ra rp ra.length rp.length ∧ K (.va (ownG (Ls.mv ⟨now, ra.map C.lz, rp.map C.chg⟩ t e))) (ownH (Ls.mv ⟨now, ra.map C.lz, rp.map C.chg⟩ t e))
  | _, _ => False
theorem movRSp_open {av : List S} {H : Hp} {K : S → Hp → Prop} (h : movRSp av H K) : ∃ (s : Ls) (t e : Int), av = [.va (lsG s), iS .i64 t, iS .i64 e] ∧ H = [] ∧ s.fit ∧ K (.va (ownG (s.mv t e))) (ownH (s.mv t e)) := by
  unfold movRSp at h
  split at h
  · rename_i now ra rp t e
    obtain ⟨⟨s, rfl, rfl, rfl, _, _, hs⟩, hK⟩ := h
    rw [lz_map, chg_map] at hK
    exact ⟨s, t, e, rfl, rfl, hs, hK⟩
  · exact h.elim
attribute [go_sem ↓] movRSp
theorem g1V_mk (f : Ls → Int → Value) (now : Int) (l : List Lz) (p : List Chg) (n : Int) : g1V f [.va (.gs [.vl (.int .i64 now), .fz (l.map lzC), .fz (p.map chC)]), iS .i64 n] = .c1 (.vl (f ⟨now, l, p⟩ n)) := g1_val f ⟨now, l, p⟩ n
theorem ch_shut (l : List Chg) : ∀ r ∈ l.map chC, ∀ c ∈ r, c.shut = true ∧ c.one := by
  intro r hr c hc
  obtain ⟨y, _, rfl⟩ := List.mem_map.1 hr
  simp only [List.mem_cons, List.not_mem_nil, or_false] at hc
  rcases hc with rfl | rfl | rfl <;> exact ⟨rfl, rfl⟩
theorem lz_len4 (l : List Lz) : ∀ r ∈ l.map lzC, r.length = 4 := fun r hr => by obtain ⟨y, _, rfl⟩ := List.mem_map.1 hr; rfl
theorem ch_len3 (l : List Chg) : ∀ r ∈ l.map chC, r.length = 3 := fun r hr => by obtain ⟨y, _, rfl⟩ := List.mem_map.1 hr; rfl
abbrev movH (s : Ls) (t : Int) (l : List Lz) (Q : List Chg) : Hp :=
  [.cells [.vl (.int .i64 s.now), .fz (s.all.map lzC), .fz (s.pend.map chC)] 48, .cells [.vl (.int .i64 0), nilC, nilC] 48, .row (l.map lzC) 74 4, .row (Q.map chC) 31 3, .cells [.vl (.int .i64 t), .sl 2 l.length, .sl 3 Q.length] 48]
structure MvI (s : Ls) (e : Int) (l : List Lz) (S : List Chg) : Prop where
  len : l.length = s.all.length
  ok : ∀ x ∈ l, x.ok
  mv : l.map (mv1 e) = s.all.map (mv1 e)
  st : S ++ srt ltC (endL e l) = srt ltC (endL e s.all)
theorem MvI.sl {s : Ls} {e : Int} {l : List Lz} {S : List Chg} (h : MvI s e l S) : S.length ≤ s.all.length := by
  have h1 := congrArg List.length h.st
  have h2 := endL_len e s.all
  rw [List.length_append, srt_len, srt_len] at h1
  omega
set_option maxRecDepth 100000 in
theorem mMoveR : Meets Try.prog 38 movRSp := by
  refine meets_fn Try.func38 ok38 3 (by rw [Try.ntmps38]; decide) (meetsAll_f mNextI (meetsAll_nil _)) (fun av H K h => by obtain ⟨_, _, _, rfl, _⟩ := movRSp_open h; rfl) ?_
  intro av H K h
  obtain ⟨s, t, e, rfl, rfl, hs, hK⟩ := movRSp_open h
  have hal := hs.al
  have hpl := hs.pl
  have w1 := lz_shut s.all
  have w2 := ch_shut s.pend
  have w3 := lz_len4 s.all
  have w4 := ch_len3 s.pend
  have gI : ∀ (l : List Lz) (Q : List Chg), l.length ≤ 1000 → Q.length ≤ 500000 → (∀ x ∈ l, x.ok) → isG t (l.map lzC) (Q.map chC) := fun l Q h1 h2 h3 => ⟨⟨t, l, Q⟩, rfl, rfl, rfl, ⟨h1, h2, h3⟩⟩
  have g0 := gI s.all s.pend (by omega) (by omega) hs.lz
  simp -dsimp only [go_sem, pc38, rs38, g0, g1V_mk]
  refine ⟨⟨w3, w1⟩, by omega, ⟨w4, w2⟩, by omega, ?_⟩
  refine vc_loop (α := List Lz × List Chg) (fun z => [(2, iS .i64 e), (6, .va (.c1 (.pt 1 0))), (9, .va (.c1 (.pt 4 0))), (10, iS .i64 (bestI (nxB e z.1 0 none)))]) (fun z => movH s t z.1 (s.pend ++ z.2)) (fun z => MvI s e z.1 z.2) (fun z => (endL e z.1).length) (s.all, []) 5 ⟨rfl, hs.lz, rfl, rfl⟩ ?_ ?_ ?_
  · simp [go_sem, g1V_mk, nxI]
  · simp [go_sem, nilC]
  rintro ⟨l, S⟩ hI
  simp only at hI
  have hll : l.length = s.all.length := hI.len
  have hSl : S.length ≤ s.all.length := hI.sl
  obtain ⟨Q, hQ⟩ : ∃ Q, Q = s.pend ++ S := ⟨_, rfl⟩
  have hQl : Q.length ≤ s.pend.length + s.all.length := by rw [hQ, List.length_append]; omega
  simp only
  rw [← hQ]
  cases hn : nxB e l 0 none with
  | none =>
    have hg : decide ((0 : Int) ≤ -1) = false := rfl
    have hE := nx_none hn
    have hst := hI.st
    rw [hE] at hst
    have hS : S = srt ltC (endL e s.all) := by rw [← hst]; simp [srt]
    have hmv : l = s.all.map (mv1 e) := by
      rw [← hI.mv]
      refine (List.map_id' l).symm.trans (List.map_congr_left fun x hx => ?_)
      have : dueB e x = false := ((nxB_spec e l 0 none).1 hn).2 x hx
      unfold mv1; rw [this]; rfl
    simp -dsimp only [go_sem, bestI, hg]
    have hM : s.mv t e = ⟨t, l, Q⟩ := by rw [hmv, hQ, hS]; rfl
    rw [hM] at hK
    refine .sel [2, 3] (by decide) (by simp) rfl (.done ?_)
    simp -dsimp only [go_sem]
    exact hK
  | some p =>
    obtain ⟨i, x⟩ := p
    obtain ⟨hx, hd, h1, h2, h3⟩ := nx_some hn
    have hil := (List.getElem?_eq_some_iff.1 hx).1
    obtain ⟨x1, x2, x3, x4⟩ := hI.ok x (List.mem_of_getElem? hx)
    have hg : decide ((0 : Int) ≤ (i : Int)) = true := by simp
    have q1 := rg_at (row := lzC) hx
    have q2 := rg_at' (row := lzC) hx
    obtain ⟨y, hy⟩ : ∃ y : Lz, y = ⟨x.id, x.len, x.ren, false⟩ := ⟨_, rfl⟩
    have hgy : (l.set i y)[i]? = some y := by rw [List.getElem?_set, if_pos rfl, if_pos hil]
    have q3 := rg_at (row := lzC) hgy
    have q4 := rg_at' (row := lzC) hgy
    have hset : (l.map lzC).set i [.vl (.int .i64 x.id), .vl (.int .i64 x.len), .vl (.int .i64 x.ren), .vl (.bool false)] = (l.set i y).map lzC := by rw [List.map_set, hy]
    have hsl : (l.set i y).length = l.length := List.length_set
    have hsok : ∀ z ∈ l.set i y, z.ok := fun z hz => by
      rcases List.mem_or_eq_of_mem_set hz with hz | rfl
      · exact hI.ok z hz
      · rw [hy]; exact ⟨x1, x2, x3, x4⟩
    obtain ⟨Q', hQ'⟩ : ∃ Q', Q' = Q ++ [evt x] := ⟨_, rfl⟩
    have hap : Q.map chC ++ [[.vl (.int .i64 y.id), .vl (.int .i64 (y.ren + y.len)), .vl (.bool false)]] = Q'.map chC := by rw [hQ', hy, List.map_append]; rfl
    have hQl' : Q'.length = Q.length + 1 := by rw [hQ']; simp
    have g1 := gI (l.set i y) Q' (by omega) (by omega) hsok
    simp -dsimp only [go_sem, bestI, hg, ↓q1, ↓q2, ↓q3, ↓q4, hset, hap, hsl, hQl', g1, g1V_mk]
    have hyl : y.ren + y.len = x.ren + x.len := by rw [hy]
    and_intros
    all_goals first
      | omega
      | skip
    rw [← hy] at h1 h2 h3
    refine loop_next (l.set i y, S ++ [evt x]) 5 ⟨by simp only; omega, hsok, by simp only; rw [h3]; exact hI.mv, by
      have := hI.st
      rw [h1] at this
      simp only [List.append_assoc, List.singleton_append]
      exact this⟩ (by simp only; omega) ?_ ?_
    · simp [go_sem, nxI]
    · have : s.pend ++ (S ++ [evt x]) = Q' := by rw [hQ', hQ, List.append_assoc]
      simp only [this]
      simp [go_sem, hsl, hQl', nilC]
end Go.Proofs.Ytngmjggconefcaa
