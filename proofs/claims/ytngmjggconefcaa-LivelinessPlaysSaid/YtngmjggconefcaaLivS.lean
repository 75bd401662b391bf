/- slices.Delete at the leases: one lease taken out. -/
import Derived.Test.YtngmjggconefcaaLivH
import Derived.Shelf.RegionOpenPlain
import Derived.WalkKit
import Derived.Deep.LoopGhost
import Derived.Deep.RegionLaw
import Derived.Lib.Walk
import Derived.Sort.WalkB12
import Derived.Lib.SliceRun
import Derived.Lib.SlicesDelete
import Derived.Deep.MidRow
namespace Go.Proofs.Ytngmjggconefcaa
open Go.Shelf Go.RowKit Go.Lib Go.Sort
theorem zLz_cells (n : Nat) : (Builtin.zeroCells (Value.agg #[.int .i64 0, .int .i64 0, .int .i64 0, .bool false]).cells n).toList.length = n * 4 := by
  simp [Builtin.zeroCells, Value.cells]
theorem zLz_one (n : Nat) : ∀ v ∈ (Builtin.zeroCells (Value.agg #[.int .i64 0, .int .i64 0, .int .i64 0, .bool false]).cells n).toList, v.oneCell' = true := by
  intro v hv
  simp [Builtin.zeroCells, Value.cells] at hv
  obtain ⟨k, _, rfl⟩ := hv
  have : k % 4 = 0 ∨ k % 4 = 1 ∨ k % 4 = 2 ∨ k % 4 = 3 := by omega
  rcases this with h | h | h | h <;> simp [h] <;> rfl
theorem run_clear_rows {P : Program} (w : World) (t e ty : TypeId) (z : Value) (ht : P.underlying t = some (.slice e)) (hv : ∀ w, (zeroValue e).run P w = .ok z w) (b o n c : Nat) (hn : 0 < n) (h1 : ∀ v ∈ (Builtin.zeroCells z.cells n).toList, v.oneCell' = true)
    (hc : ∀ j, j < (Builtin.zeroCells z.cells n).toList.length → (w.cell? ⟨b, o + j, none⟩).isSome = true) (hf : ∀ j, j < (Builtin.zeroCells z.cells n).toList.length → w.frozen? ⟨b, o + j, none⟩ = false) :
    (Builtin.clear_ #[t] ty #[.slice (some ⟨b, o, none⟩) n c]).run P w = .ok (.tuple #[]) (w.setCells b o (Builtin.zeroCells z.cells n).toList) := by
  have hst := run_storeCells_cells (P := P) b o (Builtin.zeroCells z.cells n).toList 0 w (by simpa using hc) (by simpa using hf) h1
  simp only [Nat.add_zero] at hst
  obtain ⟨m, rfl⟩ : ∃ m, n = m + 1 := ⟨n - 1, by omega⟩
  simp [Builtin.clear_, run_underlying ht, hv, hst]
theorem info63 : Try.prog.info? 63 = some ((Try.prog.info? 63).getD default) := by kernel_rfl
theorem size63 : ((Try.prog.info? 63).getD default).size = 4 := by kernel_rfl
set_option maxHeartbeats 4000000 in
set_option maxRecDepth 1000000 in
/-- One lease is taken out of a row of leases: the cells behind it are moved to the left. -/
theorem del_calls (w : World) (b n cap i j : Nat) (hij : i < j) (hij' : j ≤ i + 1) (vs : List Value) (hl : vs.length = n * 4) (hi : i < n) (hcap : n ≤ cap) (hm : cap ≤ 9223372036854775807) (h1 : ∀ v ∈ vs, v.oneCell' = true)
    (hc : ∀ k, k < n * 4 → w.cell? ⟨b, k, none⟩ = vs[k]?) (hf : ∀ k, k < n * 4 → w.frozen? ⟨b, k, none⟩ = false) :
    Calls Try.prog 32 #[.slice (some ⟨b, 0, none⟩) n cap, .int .i64 i, .int .i64 (j : Nat)] w fun e w' => e = .returned (.slice (some ⟨b, 0, none⟩) (n - 1) cap) ∧
      w' = (w.drew.setCells b (i * 4) (vs.drop (j * 4))).setCells b ((n - 1) * 4) (Builtin.zeroCells (Value.agg #[.int .i64 0, .int .i64 0, .int .i64 0, .bool false]).cells 1).toList := by
  obtain ⟨news, hnews⟩ : ∃ news, news = vs.drop (j * 4) := ⟨_, rfl⟩
  have hlen : news.length = (n - j) * 4 := by rw [hnews, List.length_drop, hl, Nat.sub_mul]
  obtain ⟨A, hA, hsrc⟩ : ∃ A : Addr, (if cap = j then some (⟨b, 0, none⟩ : Addr) else some ⟨b, j * 4, none⟩) = some A ∧ Hid (∀ t u, news[t]? = some u → w.drew.cell? (A.add t) = some u) := by
    by_cases h : cap = j
    · refine ⟨⟨b, 0, none⟩, by simp [h], fun t u hu => ?_⟩
      have h0 : news.length = 0 := by rw [hlen, show n - j = 0 by omega, Nat.zero_mul]
      rw [List.length_eq_zero_iff.1 h0] at hu
      simp at hu
    · refine ⟨⟨b, j * 4, none⟩, by simp [h], fun t u hu => ?_⟩
      have ht : t < (n - j) * 4 := by
        have := (List.getElem?_eq_some_iff.1 hu).1
        rwa [hlen] at this
      rw [hnews, List.getElem?_drop] at hu
      rw [Addr.add_lit]
      exact (hc (j * 4 + t) (by omega)).trans hu
  have s1 : Hid (news.length = (n - j) * 4) := hlen
  have s2 : Hid (∀ u ∈ news, u.oneCell' = true) := by
    intro u hu
    rw [hnews] at hu
    exact h1 u (List.mem_of_mem_drop hu)
  have s3 : Hid (∀ t, t < news.length → (w.drew.cell? ⟨b, 0 + i * 4 + t, none⟩).isSome = true ∧ w.drew.frozen? ⟨b, 0 + i * 4 + t, none⟩ = false) := by
    intro t ht
    rw [hlen] at ht
    rw [Nat.zero_add]
    refine ⟨?_, hf _ (by omega)⟩
    show (w.cell? _).isSome = true
    rw [hc _ (by omega), List.getElem?_eq_getElem (by omega)]; rfl
  obtain ⟨W1, hW1⟩ : ∃ W1, W1 = w.drew.setCells b (0 + i * 4) news := ⟨_, rfl⟩
  obtain ⟨m, hm'⟩ : ∃ m, m = i + (n - j) := ⟨_, rfl⟩
  have hm2 : m = n - 1 := by omega
  have hcl : ∀ ty, (Builtin.clear_ #[57] ty #[.slice (some ⟨b, (i + (n - j)) * 4, none⟩) (n - (i + (n - j))) (cap - (i + (n - j)))]).run Try.prog W1 = .ok (.tuple #[]) (W1.setCells b ((i + (n - j)) * 4) (Builtin.zeroCells (Value.agg #[.int .i64 0, .int .i64 0, .int .i64 0, .bool false]).cells (n - (i + (n - j)))).toList) := by
    rw [← hm']
    exact fun ty => run_clear_rows W1 _ _ ty _ Try.underlying57 Try.zeroValue63 b (m * 4) (n - m) _ (by omega) (zLz_one _) (fun t ht => by
      rw [zLz_cells] at ht
      rw [hW1]
      refine World.isSome_setCells b _ _ _ _ ?_
      show (w.cell? _).isSome = true
      rw [hc _ (by omega), List.getElem?_eq_getElem (by omega)]; rfl) (fun t ht => by
      rw [zLz_cells] at ht
      rw [hW1, World.frozen?_setCells]
      exact hf _ (by omega))
  clear hm' hm2
  have hW : Hid (W1 = w.drew.setCells b (0 + i * 4) news) := hW1
  have X : Aside (W1 = w.drew.setCells b (0 + i * 4) news) := hW1
  have hic : i ≤ cap := by omega
  have hjc : j ≤ cap := by omega
  clear hW1 hc hf hlen h1 hl
  have mixed : Try.prog.follows Departure.mixedOrders = true := by kernel_rfl
  have hjn : j ≤ n := by omega
  go_enter Try.func32, Try.ntmps32
  go_wp2_with fail
  go_region_law_o (refine step_append_room rfl (.tmp 22) (.tmp 25) 57 rfl 63 _ 4 Try.underlying57 info63 size63 b 0 i cap (by simp [Act.eval, Act.put]) A (n - j) (cap - j) news (by simp [Act.eval, Act.put, hA]) s1.out hsrc.out s2.out (by omega) s3.out ?_; rw [← hW.out])
  go_wp2
  go_ret
  have e1 : i + (n - j) = n - 1 := by omega
  have e2 : n - (n - 1) = 1 := by omega
  refine ⟨by rw [e1]; rfl, ?_⟩
  rw [e1, e2, X.out, Nat.zero_add, hnews]; rfl
theorem heap_setCells (b : Nat) (T : TypeId) : ∀ (xs : List Value) (off : Nat) (w : World) (cur : Array Value), w.heap[b]? = some (.cells cur T (0, 0)) → off + xs.length ≤ cur.size →
    ∃ cur', (w.setCells b off xs).heap[b]? = some (.cells cur' T (0, 0)) ∧ cur'.size = cur.size ∧ cur'.toList = cur.toList.take off ++ xs ++ cur.toList.drop (off + xs.length)
  | [], off, w, cur, h, _ => ⟨cur, h, rfl, by simp⟩
  | x :: xs, off, w, cur, h, hl => by
    simp only [List.length_cons] at hl
    have h1 : (w.setCell ⟨b, off, none⟩ x).heap[b]? = some (.cells (cur.setIfInBounds off x) T (0, 0)) := by
      simp [World.setCell, Array.getElem?_modify, h]
    obtain ⟨cur', h2, h3, h4⟩ := heap_setCells b T xs (off + 1) _ _ h1 (by simp; omega)
    refine ⟨cur', h2, by simpa using h3, ?_⟩
    rw [h4]
    simp only [Array.toList_setIfInBounds, List.length_cons]
    rw [List.drop_set_of_lt (by omega), show off + 1 + xs.length = off + (xs.length + 1) by omega]
    have hlt : off < cur.toList.length := by simp; omega
    have : (cur.toList.set off x).take (off + 1) = cur.toList.take off ++ [x] := by
      rw [List.take_add_one, List.take_set_of_le (by omega), List.getElem?_set, if_pos rfl, if_pos hlt]; rfl
    rw [this]; simp
theorem size_setCells' (b : Nat) : ∀ (vs : List Value) (o : Nat) (w : World), (w.setCells b o vs).heap.size = w.heap.size
  | [], _, _ => rfl
  | v :: vs, o, w => by rw [World.setCells, size_setCells' b vs]; simp [World.setCell]
theorem heap_setCells_ne {b k : Nat} (h : k ≠ b) : ∀ (vs : List Value) (o : Nat) (w : World), (w.setCells b o vs).heap[k]? = w.heap[k]?
  | [], _, _ => rfl
  | v :: vs, o, w => by rw [World.setCells, heap_setCells_ne h vs]; simp [World.setCell, Array.getElem?_modify, Ne.symm h]
theorem rest_setCells (b : Nat) : ∀ (vs : List Value) (o : Nat) (w : World), (w.setCells b o vs).os = w.os ∧ (w.setCells b o vs).tape = w.tape ∧ (w.setCells b o vs).output = w.output
  | [], _, _ => ⟨rfl, rfl, rfl⟩
  | v :: vs, o, w => rest_setCells b vs (o + 1) _
section
open Go.W
theorem map_erase {α β : Type} (f : α → β) : ∀ (l : List α) (i : Nat), (l.map f).eraseIdx i = (l.eraseIdx i).map f
  | [], _ => rfl
  | _ :: _, 0 => rfl
  | x :: l, i + 1 => by simp only [List.map_cons, List.eraseIdx_cons_succ, map_erase f l i]
def delSp : W.Spec := fun av H K =>
  match av, H with
  | [.va (.c1 (.sl 0 n)), .va (.c1 (.vl (.int .i64 i))), .va (.c1 (.vl (.int .i64 j)))], [.row rs 63 4] =>
    ((∃ L : List Lz, rs = L.map lzC ∧ L.length = n) ∧ 0 ≤ i ∧ i < n ∧ j = i + 1) ∧ K (.va (.c1 (.sl 1 (n - 1)))) [.dead, .row (rs.eraseIdx i.toNat) 63 4]
  | _, _ => False
theorem delSp_open {av : List S} {H : Hp} {K : S → Hp → Prop} (h : delSp av H K) : ∃ (L : List Lz) (i : Nat), av = [.va (.c1 (.sl 0 L.length)), iS .i64 i, iS .i64 (i + 1 : Nat)] ∧ H = [.row (L.map lzC) 63 4] ∧ i < L.length ∧ K (.va (.c1 (.sl 1 (L.length - 1)))) [.dead, .row ((L.eraseIdx i).map lzC) 63 4] := by
  unfold delSp at h
  split at h
  · rename_i n i j rs
    obtain ⟨⟨⟨L, rfl, rfl⟩, h1, h2, rfl⟩, hK⟩ := h
    obtain ⟨k, rfl⟩ := Int.eq_ofNat_of_zero_le h1
    refine ⟨L, k, rfl, rfl, by omega, ?_⟩
    rw [Int.toNat_natCast, map_erase] at hK
    exact hK
  · exact h.elim
attribute [go_sem ↓] delSp
theorem lz_flat (L : List Lz) : (L.map lzC).flatten.length = L.length * 4 := by
  induction L with
  | nil => rfl
  | cons x L ih => simp only [List.map_cons, List.flatten_cons, List.length_append, ih, List.length_cons, List.length_nil]; omega
theorem lz_flat_erase : ∀ (L : List Lz) (i : Nat), i < L.length → ((L.eraseIdx i).map lzC).flatten = (L.map lzC).flatten.take (i * 4) ++ (L.map lzC).flatten.drop ((i + 1) * 4)
  | [], i, h => by cases h
  | x :: L, 0, _ => by simp
  | x :: L, i + 1, h => by
    have ih := lz_flat_erase L i (by simpa using h)
    simp only [List.eraseIdx_cons_succ, List.map_cons, List.flatten_cons, ih]
    rw [show (i + 1) * 4 = i * 4 + 4 by omega, show (i + 1 + 1) * 4 = (i + 1) * 4 + 4 by omega]
    simp only [List.cons_append, List.nil_append, List.take_succ_cons, List.drop_succ_cons]
    rw [show (i + 1) * 4 = i * 4 + 4 by omega]
theorem all2_take {R : C → Value → Prop} {l : List C} {m : List Value} (h : All2 R l m) (n : Nat) : All2 R (l.take n) (m.take n) := h.take n
theorem mDelete : Meets Try.prog 32 delSp := by
  refine ⟨by kernel_rfl, fun av vs E ro w K hlen hrel hR hs => ?_⟩
  obtain ⟨L, i, rfl, hH, hi, hK⟩ := delSp_open hs
  match E, hH with
  | [(g, blk)], hH =>
    obtain rfl : blk = .row (L.map lzC) 63 4 := by simpa [hp] using hH
    match vs, hlen with
    | [v0, v1, v2], _ =>
      have r0 := hrel 0 _ _ rfl rfl
      obtain rfl : v1 = .int .i64 i := hrel 1 _ _ rfl rfl
      obtain rfl : v2 = .int .i64 (i + 1 : Nat) := hrel 2 _ _ rfl rfl
      have hon := hR.own 0 g _ rfl
      obtain ⟨o1, o2, o3, o4, o5, o6, o7⟩ := hon
      rw [List.length_map] at o2 o5
      obtain ⟨g', hg', _, _, _, hv0⟩ := r0
      obtain rfl : g = g' := by simpa [gm] using hg'
      obtain rfl := hv0 o2.symm
      obtain ⟨l1, l2⟩ := o5
      rcases l2 with ⟨hn, h0⟩ | ⟨b, cap, cur, hsl, _, hb, hcap, hmax, hcs, htk⟩
      · omega
      · have hob : g.ob = some b := by
          cases hgo : g.ob with
          | none => rw [hgo] at hsl; simp [obA] at hsl
          | some b' => rw [hgo] at hsl; simp [obA] at hsl; rw [hsl.1]
        have hgc : g.cap = cap := by simp at hsl; exact hsl.2
        have hcell : ∀ k, k < L.length * 4 → w.cell? ⟨b, k, none⟩ = g.vs[k]? := fun k hk => by
          rw [← htk, List.getElem?_take, if_pos hk]
          simp [World.cell?, hb]
        have h1 : ∀ v ∈ g.vs, v.oneCell' = true := by
          intro v hv
          obtain ⟨k, hk⟩ := List.mem_iff_getElem?.1 hv
          obtain ⟨c, hc, hr⟩ := o6.get' hk
          obtain ⟨r, hr1, hr2⟩ := List.mem_flatten.1 (List.mem_of_getElem? hc)
          obtain ⟨x, _, rfl⟩ := List.mem_map.1 hr1
          simp only [List.mem_cons, List.not_mem_nil, or_false] at hr2
          rcases hr2 with rfl | rfl | rfl | rfl <;> (obtain rfl := hr; rfl)
        have hm : cap ≤ 9223372036854775807 := Nat.le_trans hmax (by decide)
        rw [hob, hgc]
        refine (del_calls w b L.length cap i (i + 1) (by omega) (by omega) g.vs l1 hi hcap hm h1 hcell (fun k _ => by simp [World.frozen?, hb])).mono ?_
        rintro e w' ⟨rfl, rfl⟩
        have hnl : (g.vs.drop ((i + 1) * 4)).length = (L.length - 1 - i) * 4 := by rw [List.length_drop, l1]; omega
        obtain ⟨zs, hzs⟩ : ∃ zs, zs = (Builtin.zeroCells (Value.agg #[.int .i64 0, .int .i64 0, .int .i64 0, .bool false]).cells 1).toList := ⟨_, rfl⟩
        have hzl : zs.length = 4 := by rw [hzs, zLz_cells]
        rw [← hzs]
        obtain ⟨cur1, c1, c2, c3⟩ := heap_setCells b 63 (g.vs.drop ((i + 1) * 4)) (i * 4) w.drew cur hb (by rw [hnl]; omega)
        obtain ⟨cur2, c4, c5, c6⟩ := heap_setCells b 63 zs ((L.length - 1) * 4) _ cur1 c1 (by rw [hzl]; omega)
        obtain ⟨W2, hW2⟩ : ∃ W2, W2 = (w.drew.setCells b (i * 4) (g.vs.drop ((i + 1) * 4))).setCells b ((L.length - 1) * 4) zs := ⟨_, rfl⟩
        have hne : ∀ k, k ≠ b → W2.heap[k]? = w.heap[k]? := fun k hk => by rw [hW2, heap_setCells_ne hk, heap_setCells_ne hk]; rfl
        have hsz : W2.heap.size = w.heap.size := by rw [hW2, size_setCells', size_setCells']; rfl
        have hrest : W2.os = w.os ∧ W2.tape = w.tape ∧ W2.output = w.output := by
          obtain ⟨x1, x2, x3⟩ := rest_setCells b zs ((L.length - 1) * 4) (w.drew.setCells b (i * 4) (g.vs.drop ((i + 1) * 4)))
          obtain ⟨y1, y2, y3⟩ := rest_setCells b (g.vs.drop ((i + 1) * 4)) (i * 4) w.drew
          rw [hW2]
          exact ⟨x1.trans y1, x2.trans y2, x3.trans y3⟩
        rw [← hW2] at c4 ⊢
        have hel : (L.eraseIdx i).length = L.length - 1 := List.length_eraseIdx_of_lt hi
        obtain ⟨vs', hvs'⟩ : ∃ vs', vs' = g.vs.take (i * 4) ++ g.vs.drop ((i + 1) * 4) := ⟨_, rfl⟩
        have hvl : vs'.length = (L.length - 1) * 4 := by rw [hvs', List.length_append, List.length_take, hnl, l1]; omega
        have htk2 : cur2.toList.take ((L.length - 1) * 4) = vs' := by
          have a1 : (cur.toList.take (i * 4) ++ g.vs.drop ((i + 1) * 4)).length = (L.length - 1) * 4 := by rw [List.length_append, List.length_take, hnl]; simp; omega
          have a2 : g.vs.take (i * 4) = cur.toList.take (i * 4) := by rw [← htk, List.take_take, Nat.min_eq_left (by omega)]
          have a3 : cur1.toList.take ((L.length - 1) * 4) = vs' := by
            rw [c3, List.take_append_of_le_length (by rw [a1]; exact Nat.le_refl _), List.take_of_length_le (by rw [a1]; exact Nat.le_refl _), hvs', a2]
          rw [c6, List.append_assoc, List.take_append_of_le_length (by rw [a3, hvl]; exact Nat.le_refl _), List.take_take, Nat.min_self, a3]
        have hown2 : B.On (gm [(g, .dead), (⟨some b, true, L.length - 1, cap, g.T, vs'⟩, .row ((L.eraseIdx i).map lzC) 63 4)]) ro W2 ⟨some b, true, L.length - 1, cap, g.T, vs'⟩ (.row ((L.eraseIdx i).map lzC) 63 4) := by
          refine ⟨rfl, by rw [List.length_map, hel], fun x hx => ?_, fun c hc => ?_, ⟨?_, .inr ⟨b, cap, cur2, rfl, Nat.zero_le _, c4, ?_, hmax, by omega, ?_⟩⟩, ?_, fun b' _ => (by show 0 < cap; omega)⟩
          · obtain ⟨y, _, rfl⟩ := List.mem_map.1 hx; rfl
          · rw [lz_flat_erase L i hi] at hc
            rcases List.mem_append.1 hc with hc | hc
            · exact o4 c (List.mem_of_mem_take hc)
            · exact o4 c (List.mem_of_mem_drop hc)
          · rw [List.length_map, hel]; exact hvl
          · rw [List.length_map, hel]; omega
          · rw [List.length_map, hel]; exact htk2
          · rw [lz_flat_erase L i hi]
            show All2 _ _ vs'
            rw [hvs']
            exact (o6.take _).app (o6.drop _)
        refine ⟨.va (.c1 (.sl 1 (L.length - 1))), _, [(g, .dead), (⟨some b, true, L.length - 1, cap, g.T, vs'⟩, .row ((L.eraseIdx i).map lzC) 63 4)], ro, rfl, ⟨_, rfl, rfl, Nat.le_refl _, ⟨_, _, _, rfl⟩, fun _ => rfl⟩, hK, ?_⟩
        have hpb : b ∈ blks [(g, .row (L.map lzC) 63 4)] := by
          rcases hR.par 0 b g _ rfl hob rfl with h | h
          · have hlt : b < w.heap.size := by
              rcases Nat.lt_or_ge b w.heap.size with h' | h'
              · exact h'
              · rw [Array.getElem?_eq_none h'] at hb; cases hb
            exact absurd h (Nat.not_le.2 hlt)
          · exact h
        refine ⟨fun n gn bn hn => ?_, fun n m gn gm' bn bm b' hn hm h1 h2 l1 l2 => ?_, fun b' off v hv n gn bn hn hgb => ?_, fun b' off v hv => ?_, hR.ro0, hR.rob, fun n b' gn bn hn hgb hl => ?_, ?_, by rw [hsz]; exact Nat.le_refl _, fun k hk hkb => hne k (fun e => hkb (e ▸ hpb)), hrest.1, hrest.2.1, hrest.2.2⟩
        · match n, hn with
          | 0, hn => cases hn; trivial
          | 1, hn => cases hn; exact hown2
          | n + 2, hn => cases hn
        · match n, m, hn, hm with
          | 0, _, hn, _ => cases hn; cases l1
          | _, 0, _, hm => cases hm; cases l2
          | 1, 1, _, _ => rfl
          | n + 2, _, hn, _ => cases hn
          | _, m + 2, _, hm => cases hm
        · match n, hn with
          | 0, hn => cases hn; rfl
          | 1, hn =>
            cases hn
            have hbb : b = b' := by simpa using hgb
            subst hbb
            exact absurd (hR.apart b off v hv 0 g _ rfl hob) (by simp [B.live])
          | n + 2, hn => cases hn
        · have hne' : b' ≠ b := fun e => by
            subst e
            exact absurd (hR.apart b' off v hv 0 g _ rfl hob) (by simp [B.live])
          have := hR.rd b' off v hv
          rw [World.cell?_of_block (hne b' hne')]
          exact this
        · match n, hn with
          | 0, hn => cases hn; cases hl
          | 1, hn => cases hn; have : b = b' := by simpa using hgb
                     subst this; exact .inr hpb
          | n + 2, hn => cases hn
        · intro n g2 h2
          match n, h2 with
          | 0, h2 => exact ⟨g2, h2, g2.le_refl⟩
          | n + 1, h2 => cases h2
end
end Go.Proofs.Ytngmjggconefcaa
