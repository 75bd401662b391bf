/- Lemmas and walks for the proof. -/
import Derived.Test.YtpfmkfafagiicaaLc
import Derived.Test.YtpfmkfafagiicaaProg
import Derived.Shelf.Sort.Plain
import Derived.Shelf.Slices.In.SortNone
/- Maps by name. indexOf. -/
namespace Go.Proofs.Ytpfmkfafagiicaa
open Go.W
abbrev nmK (ns : List ByteArray) : List Value := ns.map Value.string
def sidx : List ByteArray → ByteArray → Option Nat
  | [], _ => none
  | k :: ks, q => bif decide (q = k) then some 0 else (sidx ks q).map (· + 1)
theorem keyEq_str (a b : ByteArray) : keyEq (.string a) (.string b) = decide (a = b) := by
  rw [Bool.eq_iff_iff, keyEq_iff (d := .string) (by simp [MapKept.IsKey]) (by simp [MapKept.IsKey])]; simp
theorem midx_nm (q : ByteArray) : ∀ ns : List ByteArray, midx (nmK ns) (.string q) = sidx ns q
  | [] => rfl
  | k :: ks => by
    have := midx_nm q ks
    simp only [nmK, List.map_cons, midx, sidx, keyEq_str] at this ⊢
    rw [this]
theorem sidx_some {q : ByteArray} : ∀ {ns : List ByteArray} {i : Nat}, sidx ns q = some i → ns[i]? = some q ∧ i < ns.length
  | [], _, h => by cases h
  | k :: ks, i, h => by
    simp only [sidx] at h
    by_cases hk : q = k
    · simp [hk] at h; subst h; simp [hk]
    · simp [hk] at h
      obtain ⟨j, h1, rfl⟩ := h
      have := sidx_some h1
      simpa using this
theorem sidx_app (ns : List ByteArray) (q n : ByteArray) : sidx (ns ++ [q]) n = match sidx ns n with | some i => some i | none => bif decide (n = q) then some ns.length else none := by
  induction ns with
  | nil => simp only [List.nil_append, sidx, List.length_nil, Option.map_none]
  | cons k ks ih =>
    simp only [List.cons_append, sidx, ih]
    by_cases hk : n = k
    · simp [hk]
    · simp only [hk, decide_false, cond_false]
      cases sidx ks n with
      | some i => rfl
      | none => by_cases hq : n = q <;> simp [hq]
theorem mget_nm {α : Type} (row : α → A) (ns : List ByteArray) (l : List α) (n : ByteArray) : mget (nmK ns) (l.map row) (.string n) = (sidx ns n).bind fun i => (l[i]?).map row := by
  unfold mget; rw [midx_nm]; simp only [List.getElem?_map]
theorem put_ex {α : Type} (row : α → A) {ns : List ByteArray} {l : List α} (h : ns.length = l.length) (q : ByteArray) (x : α) : ∃ (ns' : List ByteArray) (l' : List α), mputK (nmK ns) (.string q) = nmK ns' ∧ mputV (nmK ns) (l.map row) (.string q) (row x) = l'.map row ∧
    ns'.length = l'.length ∧ ∀ n, mget (nmK ns') (l'.map row) (.string n) = bif decide (n = q) then some (row x) else mget (nmK ns) (l.map row) (.string n) := by
  cases hm : sidx ns q with
  | none =>
    refine ⟨ns ++ [q], l ++ [x], ?_, ?_, by simp [h], fun n => ?_⟩
    · unfold mputK; rw [midx_nm, hm]; simp
    · unfold mputV; rw [midx_nm, hm]; simp
    · rw [mget_nm, mget_nm, sidx_app]
      by_cases hn : n = q
      · subst hn; rw [hm]; simp [h]
      · simp only [hn, decide_false, cond_false]
        cases hs : sidx ns n with
        | none => rfl
        | some i => have := (sidx_some hs).2; simp [List.getElem?_append_left (show i < l.length by omega)]
  | some i =>
    obtain ⟨h1, h2⟩ := sidx_some hm
    refine ⟨ns, l.set i x, ?_, ?_, by simp [h], fun n => ?_⟩
    · unfold mputK; rw [midx_nm, hm]
    · unfold mputV; rw [midx_nm, hm]; simp only [List.map_set]
    · rw [mget_nm, mget_nm]
      by_cases hn : n = q
      · subst hn; rw [hm]; simp [show i < l.length by omega]
      · simp only [hn, decide_false, cond_false]
        cases hs : sidx ns n with
        | none => rfl
        | some j =>
          have hj := sidx_some hs
          have : i ≠ j := fun e => hn (by subst e; rw [h1] at hj; exact (Option.some.inj hj.1).symm)
          simp [List.getElem?_set, this]
theorem fS_step {ss : List St} {k : Nat} {x : St} (hx : ss[k]? = some x) (n : ByteArray) : fS (ss.drop k) n = bif decide (n = x.nm) then some x else fS (ss.drop (k + 1)) n := by
  obtain ⟨h, rfl⟩ := List.getElem?_eq_some_iff.1 hx
  rw [List.drop_eq_getElem_cons h]
  unfold fS
  rw [List.find?_cons]
  by_cases hn : n = ss[k].nm
  · simp [hn]
  · simp [hn, show ¬ ss[k].nm = n from fun e => hn e.symm]
theorem fEn_step {ss : List En} {k : Nat} {x : En} (hx : ss[k]? = some x) (n : ByteArray) : fEn (ss.drop k) n = bif decide (n = x.nm) then some x else fEn (ss.drop (k + 1)) n := by
  obtain ⟨h, rfl⟩ := List.getElem?_eq_some_iff.1 hx
  rw [List.drop_eq_getElem_cons h]
  unfold fEn
  rw [List.find?_cons]
  by_cases hn : n = ss[k].nm
  · simp [hn]
  · simp [hn, show ¬ ss[k].nm = n from fun e => hn e.symm]
def ioSp : W.Spec := fun av H K => ∃ s : Sc, av = [.va (.gs (scC s))] ∧ H = [] ∧ s.ok ∧ ∀ ks vs ks' vs', IxS ks vs s.ss → IxE ks' vs' s.es → K ixV (ixH ks vs ks' vs')
theorem io_use {s : Sc} {K : S → Hp → Prop} (h : s.ok) (hK : ∀ ks vs ks' vs', IxS ks vs s.ss → IxE ks' vs' s.es → K ixV (ixH ks vs ks' vs')) : ioSp [.va (.gs (scC s))] [] K := ⟨s, rfl, rfl, h, hK⟩
abbrev nm2 : B := .cells [.vl (.map none), .vl (.map none)] 69
set_option maxRecDepth 100000 in
theorem mIndexOf : Meets Try.prog 40 ioSp := by
  refine meets_fn Try.func40 ok40 1 (by rw [Try.ntmps40]; decide) (meetsAll_nil _) (fun av H K h => by obtain ⟨_, rfl, _⟩ := h; rfl) ?_
  rintro av H K ⟨s, rfl, rfl, hs, hK⟩
  obtain ⟨_, hle, hls, _, _⟩ := hs
  simp -dsimp only [go_sem, scC, pc40, rs40]
  refine ⟨by omega, vc_loop (α := Nat × List ByteArray × List St) (fun z => [(1, .va (.c1 (.pt 0 0))), (2, .va (.c1 (.pt 1 0))), (3, .va (.c1 (.pt 4 0))), (4, iS .i64 ((z.1 : Int) - 1))]) (fun z => [.cells (scC s) 25, nm2, .map .string (nmK z.2.1) (z.2.2.map stA), .map .string [] [], .cells [.mp 2, .mp 3] 69])
    (fun z => z.1 ≤ s.ss.length ∧ z.2.1.length = z.2.2.length ∧ ∀ n, mget (nmK z.2.1) (z.2.2.map stA) (.string n) = (fS (s.ss.drop z.1) n).map stA) (fun z => z.1) (s.ss.length, [], []) 5 ⟨Nat.le_refl _, rfl, fun n => by rw [List.drop_length]; rfl⟩ ?_ ?_ ?_⟩
  · simp -dsimp only [go_sem] <;> simp
  · simp -dsimp only [go_sem, scC] <;> simp
  rintro ⟨m, ns, l⟩ ⟨hm, hnl, hg⟩
  simp only at hm hnl hg ⊢
  cases m with
  | zero =>
    have e0 : decide (0 ≤ ((0 : Nat) : Int) - 1) = false := rfl
    rw [List.drop_zero] at hg
    simp -dsimp only [go_sem, scC, e0]
    refine ⟨by omega, vc_loop (α := Nat × List ByteArray × List En) (fun z => [(1, .va (.c1 (.pt 0 0))), (2, .va (.c1 (.pt 1 0))), (3, .va (.c1 (.pt 4 0))), (5, iS .i64 ((z.1 : Int) - 1))]) (fun z => [.cells (scC s) 25, nm2, .map .string (nmK ns) (l.map stA), .map .string (nmK z.2.1) (z.2.2.map enA), .cells [.mp 2, .mp 3] 69])
      (fun z => z.1 ≤ s.es.length ∧ z.2.1.length = z.2.2.length ∧ ∀ n, mget (nmK z.2.1) (z.2.2.map enA) (.string n) = (fEn (s.es.drop z.1) n).map enA) (fun z => z.1) (s.es.length, [], []) 5 ⟨Nat.le_refl _, rfl, fun n => by rw [List.drop_length]; rfl⟩ ?_ ?_ ?_⟩
    · simp -dsimp only [go_sem] <;> simp
    · simp -dsimp only [go_sem, scC] <;> simp
    clear hnl hm
    rintro ⟨m, ms, j⟩ ⟨hm, hnl, hge⟩
    simp only at hm hnl hge ⊢
    cases m with
    | zero =>
      rw [List.drop_zero] at hge
      simp -dsimp only [go_sem, scC, e0]
      exact .sel [2, 3] (by simp) (by simp) rfl (.done (by simp -dsimp only [go_sem]; simpa [go_sem] using hK (nmK ns) l (nmK ms) j hg hge))
    | succ k =>
      obtain ⟨x, hx⟩ : ∃ x, s.es[k]? = some x := ⟨_, List.getElem?_eq_getElem (by omega)⟩
      have q2 := row_rg' (row := enC) hx
      have e1 : ((k + 1 : Nat) : Int) - 1 = (k : Int) := by omega
      have e2 : decide (0 ≤ (k : Int)) = true := by simp
      obtain ⟨ns', l', p1, p2, p3, p4⟩ := put_ex enA hnl x.nm x
      simp -dsimp only [go_sem, scC, e1, e2, ↓q2, enC]
      refine ⟨by omega, by omega, by omega, loop_next (k, ns', l') 5 ⟨by simp only; omega, p3, fun n => ?_⟩ (Nat.lt_succ_self _) ?_ ?_⟩
      · simp only; rw [p4, fEn_step hx, hge]; cases decide (n = x.nm) <;> rfl
      · simp -dsimp only [go_sem] <;> simp
      · simp -dsimp only [go_sem, scC, p1] <;> simp
        exact (congrArg (List.map (A.ren (san 5))) p2).trans (enA_ren _ _)
  | succ k =>
    obtain ⟨x, hx⟩ : ∃ x, s.ss[k]? = some x := ⟨_, List.getElem?_eq_getElem (by omega)⟩
    have q2 := row_rg' (row := stC) hx
    have e1 : ((k + 1 : Nat) : Int) - 1 = (k : Int) := by omega
    have e2 : decide (0 ≤ (k : Int)) = true := by simp
    obtain ⟨ns', l', p1, p2, p3, p4⟩ := put_ex stA hnl x.nm x
    simp -dsimp only [go_sem, scC, e1, e2, ↓q2, stC]
    refine ⟨by omega, by omega, by omega, loop_next (k, ns', l') 5 ⟨by simp only; omega, p3, fun n => ?_⟩ (Nat.lt_succ_self _) ?_ ?_⟩
    · simp only; rw [p4, fS_step hx, hg]; cases decide (n = x.nm) <;> rfl
    · simp -dsimp only [go_sem] <;> simp
    · simp -dsimp only [go_sem, scC, p1] <;> simp
      exact (congrArg (List.map (A.ren (san 5))) p2).trans (stA_ren _ _)
end Go.Proofs.Ytpfmkfafagiicaa
namespace Go.Proofs.Ytpfmkfafagiicaa
open Go.W
/-- robotics/schema.Check -/
def pc12 : PC :=
  .seq (.reg /- 0 -/ [⟨(some 1), none, .e (.bx 25 (.t 0))⟩,
      ⟨(some 2), none, .q (.mv (.k (.int .i64 0)))⟩])
  (.seq (.seq (.reg /- 1 -/ [⟨(some 13), none, .q (.fa 0 (.t 1))⟩,
      ⟨(some 14), none, .l (.ld1 (.t 13))⟩,
      ⟨(some 15), none, .q (.bin .lss true (.t 14) (.k (.int .i64 1)))⟩,
      ⟨(some 16), none, .q (.mv (.t 15))⟩,
      ⟨(some 17), (some (16, false)), .q (.fa 0 (.t 1))⟩,
      ⟨(some 18), (some (16, false)), .l (.ld1 (.t 17))⟩,
      ⟨(some 19), (some (16, false)), .q (.bin .gtr true (.t 18) (.k (.int .i64 999)))⟩,
      ⟨(some 20), none, .pick (.t 16) (.k (.bool true)) (.t 19)⟩])
    (.cond (.t 20)
      (.seq (.reg /- 2 -/ [⟨(some 2), none, .q (.mv (.k (.int .i64 4)))⟩])
        (.ret))
      (.skip)))
    (.seq (.seq (.reg /- 3 -/ [⟨(some 21), none, .l (.ldn 3 (.t 1))⟩,
      ⟨(some 22), none, .cq 37 [(.t 21)]⟩])
      (.cond (.t 22)
        (.seq (.reg /- 4 -/ [⟨(some 2), none, .q (.mv (.k (.int .i64 3)))⟩])
          (.ret))
        (.skip)))
      (.seq (.seq (.reg /- 5 -/ [⟨(some 23), none, .q (.fa 1 (.t 1))⟩,
      ⟨(some 24), none, .l (.ld1 (.t 23))⟩,
      ⟨(some 25), none, .q (.lnL (.t 24))⟩,
      ⟨(some 26), none, .q (.mv (.k (.int .i64 0)))⟩])
        (.block 0 (.loop (.seq (.reg /- 6 -/ [⟨(some 27), none, .q (.bin .lss true (.t 26) (.t 25))⟩])
              (.seq (.cond (.t 27)
                (.skip)
                (.exit 0))
                (.seq (.block 1 (.seq (.reg /- 7 -/ [⟨(some 28), none, .q (.mv (.t 26))⟩,
      ⟨(some 29), none, .l (.ia 3 (.t 24) (.t 26))⟩,
      ⟨(some 30), none, .l (.ldn 3 (.t 29))⟩,
      ⟨(some 4), none, .e (.al (.agg #[(.string (mk [])), (.slice none 0 0), (.slice none 0 0)]) 47)⟩,
      ⟨(some 3), none, .q (.mv (.t 28))⟩,
      ⟨none, none, .e (.st 3 (.t 4) (.t 30))⟩])
                    (.seq (.seq (.reg /- 8 -/ [⟨(some 31), none, .q (.fa 0 (.t 4))⟩,
      ⟨(some 32), none, .l (.ld1 (.t 31))⟩,
      ⟨(some 33), none, .cq 38 [(.t 32)]⟩,
      ⟨(some 34), none, .q (.not (.t 33))⟩])
                      (.cond (.t 34)
                        (.seq (.reg /- 9 -/ [⟨(some 2), none, .q (.mv (.k (.int .i64 5)))⟩])
                          (.ret))
                        (.skip)))
                      (.seq (.seq (.reg /- 10 -/ [⟨(some 35), none, .q (.fa 1 (.t 1))⟩,
      ⟨(some 36), none, .l (.ld1 (.t 35))⟩,
      ⟨(some 37), none, .q (.mv (.t 3))⟩,
      ⟨(some 38), none, .q (.sf 3 (.t 36) none (some (.t 37)))⟩,
      ⟨(some 39), none, .q (.lnL (.t 38))⟩,
      ⟨(some 40), none, .q (.mv (.k (.int .i64 0)))⟩])
                        (.block 2 (.loop (.seq (.reg /- 11 -/ [⟨(some 41), none, .q (.bin .lss true (.t 40) (.t 39))⟩])
                              (.seq (.cond (.t 41)
                                (.skip)
                                (.exit 2))
                                (.seq (.block 3 (.seq (.reg /- 12 -/ [⟨(some 42), none, .l (.ia 3 (.t 38) (.t 40))⟩,
      ⟨(some 43), none, .l (.ldn 3 (.t 42))⟩,
      ⟨(some 6), none, .e (.al (.agg #[(.string (mk [])), (.slice none 0 0), (.slice none 0 0)]) 47)⟩,
      ⟨none, none, .e (.st 3 (.t 6) (.t 43))⟩])
                                    (.seq (.reg /- 13 -/ [⟨(some 44), none, .q (.fa 0 (.t 6))⟩,
      ⟨(some 45), none, .l (.ld1 (.t 44))⟩,
      ⟨(some 46), none, .q (.fa 0 (.t 4))⟩,
      ⟨(some 47), none, .l (.ld1 (.t 46))⟩,
      ⟨(some 48), none, .q (.bin .eql true (.t 45) (.t 47))⟩])
                                      (.cond (.t 48)
                                        (.seq (.reg /- 14 -/ [⟨(some 2), none, .q (.mv (.k (.int .i64 7)))⟩])
                                          (.ret))
                                        (.skip)))))
                                  (.reg /- 15 -/ [⟨(some 49), none, .q (.bin .add true (.t 40) (.k (.int .i64 1)))⟩,
      ⟨(some 40), none, .q (.mv (.t 49))⟩])))))))
                        (.seq (.reg /- 16 -/ [⟨(some 50), none, .l (.ldn 3 (.t 4))⟩,
      ⟨(some 51), none, .cq 39 [(.t 50)]⟩,
      ⟨(some 7), none, .q (.mv (.t 51))⟩])
                          (.seq (.reg /- 17 -/ [⟨(some 52), none, .q (.mv (.t 7))⟩,
      ⟨(some 53), none, .q (.bin .neq true (.t 52) (.k (.int .i64 0)))⟩])
                            (.cond (.t 53)
                              (.seq (.reg /- 18 -/ [⟨(some 54), none, .q (.mv (.t 7))⟩,
      ⟨(some 2), none, .q (.mv (.t 54))⟩])
                                (.ret))
                              (.skip))))))))
                  (.reg /- 19 -/ [⟨(some 55), none, .q (.bin .add true (.t 26) (.k (.int .i64 1)))⟩,
      ⟨(some 26), none, .q (.mv (.t 55))⟩])))))))
        (.seq (.reg /- 20 -/ [⟨(some 56), none, .l (.ldn 3 (.t 1))⟩,
      ⟨(some 57), none, .cl 40 [(.t 56)] []⟩,
      ⟨(some 8), none, .e (.al (.agg #[(.map none), (.map none)]) 69)⟩,
      ⟨none, none, .e (.st 2 (.t 8) (.t 57))⟩])
          (.seq (.seq (.reg /- 21 -/ [⟨(some 58), none, .q (.fa 2 (.t 1))⟩,
      ⟨(some 59), none, .l (.ld1 (.t 58))⟩,
      ⟨(some 60), none, .q (.lnL (.t 59))⟩,
      ⟨(some 61), none, .q (.mv (.k (.int .i64 0)))⟩])
            (.block 4 (.loop (.seq (.reg /- 22 -/ [⟨(some 62), none, .q (.bin .lss true (.t 61) (.t 60))⟩])
                  (.seq (.cond (.t 62)
                    (.skip)
                    (.exit 4))
                    (.seq (.block 5 (.seq (.reg /- 23 -/ [⟨(some 63), none, .q (.mv (.t 61))⟩,
      ⟨(some 64), none, .l (.ia 2 (.t 59) (.t 61))⟩,
      ⟨(some 65), none, .l (.ldn 2 (.t 64))⟩,
      ⟨(some 10), none, .e (.al (.agg #[(.string (mk [])), (.slice none 0 0)]) 32)⟩,
      ⟨(some 9), none, .q (.mv (.t 63))⟩,
      ⟨none, none, .e (.st 2 (.t 10) (.t 65))⟩])
                        (.seq (.seq (.reg /- 24 -/ [⟨(some 66), none, .l (.ldn 3 (.t 1))⟩,
      ⟨(some 67), none, .q (.mv (.t 9))⟩,
      ⟨(some 68), none, .q (.fa 0 (.t 10))⟩,
      ⟨(some 69), none, .l (.ld1 (.t 68))⟩,
      ⟨(some 70), none, .cq 41 [(.t 66), (.t 67), (.t 69)]⟩,
      ⟨(some 11), none, .q (.mv (.t 70))⟩])
                          (.seq (.reg /- 25 -/ [⟨(some 71), none, .q (.mv (.t 11))⟩,
      ⟨(some 72), none, .q (.bin .neq true (.t 71) (.k (.int .i64 0)))⟩])
                            (.cond (.t 72)
                              (.seq (.reg /- 26 -/ [⟨(some 73), none, .q (.mv (.t 11))⟩,
      ⟨(some 2), none, .q (.mv (.t 73))⟩])
                                (.ret))
                              (.skip))))
                          (.seq (.reg /- 27 -/ [⟨(some 74), none, .l (.ldn 2 (.t 8))⟩,
      ⟨(some 75), none, .l (.ldn 2 (.t 10))⟩,
      ⟨(some 76), none, .cl 42 [(.t 74), (.t 75)] [1, 2]⟩,
      ⟨(some 12), none, .q (.mv (.t 76))⟩])
                            (.seq (.reg /- 28 -/ [⟨(some 77), none, .q (.mv (.t 12))⟩,
      ⟨(some 78), none, .q (.bin .neq true (.t 77) (.k (.int .i64 0)))⟩])
                              (.cond (.t 78)
                                (.seq (.reg /- 29 -/ [⟨(some 79), none, .q (.mv (.t 12))⟩,
      ⟨(some 2), none, .q (.mv (.t 79))⟩])
                                  (.ret))
                                (.skip)))))))
                      (.reg /- 30 -/ [⟨(some 80), none, .q (.bin .add true (.t 61) (.k (.int .i64 1)))⟩,
      ⟨(some 61), none, .q (.mv (.t 80))⟩])))))))
            (.seq (.reg /- 31 -/ [⟨(some 81), none, .l (.ldn 3 (.t 1))⟩,
      ⟨(some 82), none, .l (.ldn 2 (.t 8))⟩,
      ⟨(some 83), none, .cl 43 [(.t 81), (.t 82)] [1, 2]⟩,
      ⟨(some 2), none, .q (.mv (.t 83))⟩])
              (.ret)))))))
def rs12 : List RV := [.mv (.t 2)]
theorem ok12 : trFn Try.prog true ⟨fun r k => if r = 3 ∧ k = 1 then .q else if r = 8 ∧ k = 2 then .q else if r = 16 ∧ k = 1 then .q else if r = 24 ∧ k = 4 then .q else if r = 27 ∧ k = 2 then .own [1, 2] else if r = 31 ∧ k = 2 then .own [1, 2] else .own [], fun _ => false⟩ Try.f12 = some (pc12, rs12) := by kernel_rfl
/-- robotics/schema.Depth -/
def pc14 : PC :=
  .seq (.reg /- 0 -/ [⟨(some 2), none, .e (.bx 25 (.t 0))⟩,
      ⟨(some 4), none, .q (.mv (.k (.int .i64 0)))⟩])
  (.seq (.reg /- 1 -/ [⟨(some 8), none, .l (.ldn 3 (.t 2))⟩,
      ⟨(some 9), none, .q (.mv (.t 1))⟩,
      ⟨(some 10), none, .cl 50 [(.t 8), (.t 9)] []⟩,
      ⟨(some 7), none, .q (.mv (.t 10))⟩,
      ⟨(some 11), none, .q (.ex (.t 7) 0)⟩,
      ⟨(some 12), none, .q (.ex (.t 7) 1)⟩,
      ⟨(some 5), none, .e (.al (.agg #[(.map none), (.map none)]) 69)⟩,
      ⟨none, none, .e (.st 2 (.t 5) (.t 11))⟩,
      ⟨(some 6), none, .q (.mv (.t 12))⟩])
    (.seq (.seq (.reg /- 2 -/ [⟨(some 13), none, .q (.mv (.t 6))⟩,
      ⟨(some 14), none, .q (.not (.t 13))⟩])
      (.cond (.t 14)
        (.seq (.reg /- 3 -/ [⟨(some 4), none, .q (.mv (.k (.int .i64 0)))⟩])
          (.ret))
        (.skip)))
      (.seq (.reg /- 4 -/ [⟨(some 15), none, .l (.ldn 2 (.t 5))⟩,
      ⟨(some 16), none, .q (.fa 0 (.t 5))⟩,
      ⟨(some 17), none, .l (.ld1 (.t 16))⟩,
      ⟨(some 18), none, .q (.mv (.t 1))⟩,
      ⟨(some 19), none, .l (.lk .string (.agg #[(.string (mk [])), (.slice none 0 0)]) false (.t 17) (.t 18))⟩,
      ⟨(some 20), none, .cl 51 [(.t 15), (.t 19)] [1, 2]⟩,
      ⟨(some 4), none, .q (.mv (.t 20))⟩])
        (.ret))))
def rs14 : List RV := [.mv (.t 4)]
theorem ok14 : trFn Try.prog true ⟨fun r k => if r = 4 ∧ k = 5 then .own [1, 2] else .own [], fun _ => false⟩ Try.f14 = some (pc14, rs14) := by kernel_rfl
/-- robotics/schema.Uses -/
def pc17 : PC :=
  .seq (.reg /- 0 -/ [⟨(some 2), none, .e (.bx 25 (.t 0))⟩,
      ⟨(some 4), none, .q (.mv (.k (.slice none 0 0)))⟩])
  (.seq (.reg /- 1 -/ [⟨(some 8), none, .l (.ldn 3 (.t 2))⟩,
      ⟨(some 9), none, .q (.mv (.t 1))⟩,
      ⟨(some 10), none, .cl 50 [(.t 8), (.t 9)] []⟩,
      ⟨(some 7), none, .q (.mv (.t 10))⟩,
      ⟨(some 11), none, .q (.ex (.t 7) 0)⟩,
      ⟨(some 12), none, .q (.ex (.t 7) 1)⟩,
      ⟨(some 5), none, .e (.al (.agg #[(.map none), (.map none)]) 69)⟩,
      ⟨none, none, .e (.st 2 (.t 5) (.t 11))⟩,
      ⟨(some 6), none, .q (.mv (.t 12))⟩])
    (.seq (.seq (.reg /- 2 -/ [⟨(some 13), none, .q (.mv (.t 6))⟩,
      ⟨(some 14), none, .q (.not (.t 13))⟩])
      (.cond (.t 14)
        (.seq (.reg /- 3 -/ [⟨(some 4), none, .q (.mv (.k (.slice none 0 0)))⟩])
          (.ret))
        (.skip)))
      (.seq (.reg /- 4 -/ [⟨(some 15), none, .l (.ldn 2 (.t 5))⟩,
      ⟨(some 16), none, .q (.mv (.t 1))⟩,
      ⟨(some 17), none, .cl 54 [(.t 15), (.t 16)] [1, 2]⟩,
      ⟨(some 4), none, .q (.mv (.t 17))⟩])
        (.ret))))
def rs17 : List RV := [.mv (.t 4)]
theorem ok17 : trFn Try.prog true ⟨fun r k => if r = 4 ∧ k = 2 then .own [1, 2] else .own [], fun _ => false⟩ Try.f17 = some (pc17, rs17) := by kernel_rfl
/-- robotics/schema.Same -/
def pc20 : PC :=
  .seq (.reg /- 0 -/ [⟨(some 2), none, .e (.bx 40 (.t 0))⟩,
      ⟨(some 3), none, .e (.bx 40 (.t 1))⟩,
      ⟨(some 4), none, .q (.mv (.k (.bool false)))⟩])
  (.seq (.seq (.reg /- 1 -/ [⟨(some 6), none, .q (.fa 0 (.t 2))⟩,
      ⟨(some 7), none, .l (.ld1 (.t 6))⟩,
      ⟨(some 8), none, .q (.fa 0 (.t 3))⟩,
      ⟨(some 9), none, .l (.ld1 (.t 8))⟩,
      ⟨(some 10), none, .q (.bin .neq true (.t 7) (.t 9))⟩,
      ⟨(some 11), none, .q (.mv (.t 10))⟩,
      ⟨(some 12), (some (11, false)), .q (.fa 1 (.t 2))⟩,
      ⟨(some 13), (some (11, false)), .l (.ld1 (.t 12))⟩,
      ⟨(some 14), (some (11, false)), .q (.fa 1 (.t 3))⟩,
      ⟨(some 15), (some (11, false)), .l (.ld1 (.t 14))⟩,
      ⟨(some 16), (some (11, false)), .q (.bin .neq true (.t 13) (.t 15))⟩,
      ⟨(some 17), none, .pick (.t 11) (.k (.bool true)) (.t 16)⟩,
      ⟨(some 18), none, .q (.mv (.t 17))⟩,
      ⟨(some 19), (some (18, false)), .q (.fa 2 (.t 2))⟩,
      ⟨(some 20), (some (18, false)), .l (.ld1 (.t 19))⟩,
      ⟨(some 21), (some (18, false)), .q (.fa 2 (.t 3))⟩,
      ⟨(some 22), (some (18, false)), .l (.ld1 (.t 21))⟩,
      ⟨(some 23), (some (18, false)), .q (.bin .neq true (.t 20) (.t 22))⟩,
      ⟨(some 24), none, .pick (.t 18) (.k (.bool true)) (.t 23)⟩,
      ⟨(some 25), none, .q (.mv (.t 24))⟩,
      ⟨(some 26), (some (25, false)), .q (.fa 3 (.t 2))⟩,
      ⟨(some 27), (some (25, false)), .l (.ld1 (.t 26))⟩,
      ⟨(some 28), (some (25, false)), .q (.lnL (.t 27))⟩,
      ⟨(some 29), (some (25, false)), .q (.fa 3 (.t 3))⟩,
      ⟨(some 30), (some (25, false)), .l (.ld1 (.t 29))⟩,
      ⟨(some 31), (some (25, false)), .q (.lnL (.t 30))⟩,
      ⟨(some 32), (some (25, false)), .q (.bin .neq true (.t 28) (.t 31))⟩,
      ⟨(some 33), none, .pick (.t 25) (.k (.bool true)) (.t 32)⟩])
    (.cond (.t 33)
      (.seq (.reg /- 2 -/ [⟨(some 4), none, .q (.mv (.k (.bool false)))⟩])
        (.ret))
      (.skip)))
    (.seq (.seq (.reg /- 3 -/ [⟨(some 34), none, .q (.fa 3 (.t 2))⟩,
      ⟨(some 35), none, .l (.ld1 (.t 34))⟩,
      ⟨(some 36), none, .q (.lnL (.t 35))⟩,
      ⟨(some 37), none, .q (.mv (.k (.int .i64 0)))⟩])
      (.block 0 (.loop (.seq (.reg /- 4 -/ [⟨(some 38), none, .q (.bin .lss true (.t 37) (.t 36))⟩])
            (.seq (.cond (.t 38)
              (.skip)
              (.exit 0))
              (.seq (.block 1 (.seq (.reg /- 5 -/ [⟨(some 39), none, .q (.mv (.t 37))⟩,
      ⟨(some 5), none, .q (.mv (.t 39))⟩])
                  (.seq (.reg /- 6 -/ [⟨(some 40), none, .q (.fa 3 (.t 2))⟩,
      ⟨(some 41), none, .l (.ld1 (.t 40))⟩,
      ⟨(some 42), none, .q (.mv (.t 5))⟩,
      ⟨(some 43), none, .l (.ia 4 (.t 41) (.t 42))⟩,
      ⟨(some 44), none, .l (.ldn 4 (.t 43))⟩,
      ⟨(some 45), none, .q (.fa 3 (.t 3))⟩,
      ⟨(some 46), none, .l (.ld1 (.t 45))⟩,
      ⟨(some 47), none, .q (.mv (.t 5))⟩,
      ⟨(some 48), none, .l (.ia 4 (.t 46) (.t 47))⟩,
      ⟨(some 49), none, .l (.ldn 4 (.t 48))⟩,
      ⟨(some 50), none, .cq 20 [(.t 44), (.t 49)]⟩,
      ⟨(some 51), none, .q (.not (.t 50))⟩])
                    (.cond (.t 51)
                      (.seq (.reg /- 7 -/ [⟨(some 4), none, .q (.mv (.k (.bool false)))⟩])
                        (.ret))
                      (.skip)))))
                (.reg /- 8 -/ [⟨(some 52), none, .q (.bin .add true (.t 37) (.k (.int .i64 1)))⟩,
      ⟨(some 37), none, .q (.mv (.t 52))⟩])))))))
      (.seq (.reg /- 9 -/ [⟨(some 4), none, .q (.mv (.k (.bool true)))⟩])
        (.ret))))
def rs20 : List RV := [.mv (.t 4)]
theorem ok20 : trFn Try.prog true ⟨fun r k => if r = 6 ∧ k = 10 then .q else .own [], fun _ => false⟩ Try.f20 = some (pc20, rs20) := by kernel_rfl
/-- robotics/schema.Struct -/
def pc22 : PC :=
  .seq (.reg /- 0 -/ [⟨(some 2), none, .e (.bx 25 (.t 0))⟩,
      ⟨(some 4), none, .e (.al (.agg #[(.string (mk [])), (.slice none 0 0)]) 32)⟩,
      ⟨(some 5), none, .q (.mv (.k (.bool false)))⟩])
  (.seq (.seq (.reg /- 1 -/ [⟨(some 8), none, .q (.fa 2 (.t 2))⟩,
      ⟨(some 9), none, .l (.ld1 (.t 8))⟩,
      ⟨(some 10), none, .q (.lnL (.t 9))⟩,
      ⟨(some 11), none, .q (.mv (.k (.int .i64 0)))⟩])
    (.block 0 (.loop (.seq (.reg /- 2 -/ [⟨(some 12), none, .q (.bin .lss true (.t 11) (.t 10))⟩])
          (.seq (.cond (.t 12)
            (.skip)
            (.exit 0))
            (.seq (.block 1 (.seq (.reg /- 3 -/ [⟨(some 13), none, .l (.ia 2 (.t 9) (.t 11))⟩,
      ⟨(some 14), none, .l (.ldn 2 (.t 13))⟩,
      ⟨(some 7), none, .e (.al (.agg #[(.string (mk [])), (.slice none 0 0)]) 32)⟩,
      ⟨none, none, .e (.st 2 (.t 7) (.t 14))⟩])
                (.seq (.reg /- 4 -/ [⟨(some 15), none, .q (.fa 0 (.t 7))⟩,
      ⟨(some 16), none, .l (.ld1 (.t 15))⟩,
      ⟨(some 17), none, .q (.mv (.t 1))⟩,
      ⟨(some 18), none, .q (.bin .eql true (.t 16) (.t 17))⟩])
                  (.cond (.t 18)
                    (.seq (.reg /- 5 -/ [⟨(some 19), none, .l (.ldn 2 (.t 7))⟩,
      ⟨(some 20), none, .cl 56 [(.t 19)] []⟩,
      ⟨none, none, .e (.st 2 (.t 4) (.t 20))⟩,
      ⟨(some 5), none, .q (.mv (.k (.bool true)))⟩])
                      (.ret))
                    (.skip)))))
              (.reg /- 6 -/ [⟨(some 21), none, .q (.bin .add true (.t 11) (.k (.int .i64 1)))⟩,
      ⟨(some 11), none, .q (.mv (.t 21))⟩])))))))
    (.seq (.reg /- 7 -/ [⟨(some 22), none, .q (.bd [(.string (mk [])), (.slice none 0 0)] [])⟩,
      ⟨none, none, .e (.st 2 (.t 4) (.t 22))⟩,
      ⟨(some 5), none, .q (.mv (.k (.bool false)))⟩])
      (.ret)))
def rs22 : List RV := [.ld (.ldn 2 (.t 4)), .mv (.t 5)]
theorem ok22 : trFn Try.prog true ⟨fun _ _ => .own [], fun _ => false⟩ Try.f22 = some (pc22, rs22) := by kernel_rfl
/-- robotics/schema.Enum -/
def pc24 : PC :=
  .seq (.reg /- 0 -/ [⟨(some 2), none, .e (.bx 25 (.t 0))⟩,
      ⟨(some 4), none, .e (.al (.agg #[(.string (mk [])), (.slice none 0 0), (.slice none 0 0)]) 47)⟩,
      ⟨(some 5), none, .q (.mv (.k (.bool false)))⟩])
  (.seq (.seq (.reg /- 1 -/ [⟨(some 8), none, .q (.fa 1 (.t 2))⟩,
      ⟨(some 9), none, .l (.ld1 (.t 8))⟩,
      ⟨(some 10), none, .q (.lnL (.t 9))⟩,
      ⟨(some 11), none, .q (.mv (.k (.int .i64 0)))⟩])
    (.block 0 (.loop (.seq (.reg /- 2 -/ [⟨(some 12), none, .q (.bin .lss true (.t 11) (.t 10))⟩])
          (.seq (.cond (.t 12)
            (.skip)
            (.exit 0))
            (.seq (.block 1 (.seq (.reg /- 3 -/ [⟨(some 13), none, .l (.ia 3 (.t 9) (.t 11))⟩,
      ⟨(some 14), none, .l (.ldn 3 (.t 13))⟩,
      ⟨(some 7), none, .e (.al (.agg #[(.string (mk [])), (.slice none 0 0), (.slice none 0 0)]) 47)⟩,
      ⟨none, none, .e (.st 3 (.t 7) (.t 14))⟩])
                (.seq (.reg /- 4 -/ [⟨(some 15), none, .q (.fa 0 (.t 7))⟩,
      ⟨(some 16), none, .l (.ld1 (.t 15))⟩,
      ⟨(some 17), none, .q (.mv (.t 1))⟩,
      ⟨(some 18), none, .q (.bin .eql true (.t 16) (.t 17))⟩])
                  (.cond (.t 18)
                    (.seq (.ord /- 5 -/ [.q ⟨(some 19), none, .q (.fa 0 (.t 7))⟩,
      .q ⟨(some 20), none, .l (.ld1 (.t 19))⟩,
      .q ⟨(some 21), none, .q (.fa 1 (.t 7))⟩,
      .q ⟨(some 22), none, .l (.ld1 (.t 21))⟩,
      .q ⟨(some 24), none, .q (.fa 2 (.t 7))⟩,
      .q ⟨(some 25), none, .l (.ld1 (.t 24))⟩,
      .m ⟨(some 23), none, .cl 57 [(.t 22)] []⟩,
      .rc ⟨(some 19), none, .q (.fa 0 (.t 7))⟩,
      .rc ⟨(some 20), none, .l (.ld1 (.t 19))⟩,
      .rc ⟨(some 24), none, .q (.fa 2 (.t 7))⟩,
      .rc ⟨(some 25), none, .l (.ld1 (.t 24))⟩,
      .m ⟨(some 26), none, .cl 58 [(.t 25)] []⟩,
      .rc ⟨(some 19), none, .q (.fa 0 (.t 7))⟩,
      .rc ⟨(some 20), none, .l (.ld1 (.t 19))⟩,
      .q ⟨(some 27), none, .q (.bd [(.string (mk [])), (.slice none 0 0), (.slice none 0 0)] [(0, 1, (.t 20)), (1, 1, (.t 23)), (2, 1, (.t 26))])⟩,
      .m ⟨none, none, .e (.st 3 (.t 4) (.t 27))⟩,
      .m ⟨(some 5), none, .q (.mv (.k (.bool true)))⟩])
                      (.ret))
                    (.skip)))))
              (.reg /- 6 -/ [⟨(some 28), none, .q (.bin .add true (.t 11) (.k (.int .i64 1)))⟩,
      ⟨(some 11), none, .q (.mv (.t 28))⟩])))))))
    (.seq (.reg /- 7 -/ [⟨(some 29), none, .q (.bd [(.string (mk [])), (.slice none 0 0), (.slice none 0 0)] [])⟩,
      ⟨none, none, .e (.st 3 (.t 4) (.t 29))⟩,
      ⟨(some 5), none, .q (.mv (.k (.bool false)))⟩])
      (.ret)))
def rs24 : List RV := [.ld (.ldn 3 (.t 4)), .mv (.t 5)]
theorem ok24 : trFn Try.prog true ⟨fun _ _ => .own [], fun _ => false⟩ Try.f24 = some (pc24, rs24) := by kernel_rfl
/-- robotics/schema.FieldOf -/
def pc28 : PC :=
  .seq (.reg /- 0 -/ [⟨(some 2), none, .e (.bx 32 (.t 0))⟩,
      ⟨(some 4), none, .e (.al (.agg #[(.int .i64 0), (.string (mk [])), (.int .i64 0), (.int .i64 0), (.string (mk [])), (.slice none 0 0), (.bool false)]) 53)⟩,
      ⟨(some 5), none, .q (.mv (.k (.bool false)))⟩])
  (.seq (.seq (.reg /- 1 -/ [⟨(some 8), none, .q (.fa 1 (.t 2))⟩,
      ⟨(some 9), none, .l (.ld1 (.t 8))⟩,
      ⟨(some 10), none, .q (.lnL (.t 9))⟩,
      ⟨(some 11), none, .q (.mv (.k (.int .i64 0)))⟩])
    (.block 0 (.loop (.seq (.reg /- 2 -/ [⟨(some 12), none, .q (.bin .lss true (.t 11) (.t 10))⟩])
          (.seq (.cond (.t 12)
            (.skip)
            (.exit 0))
            (.seq (.block 1 (.seq (.reg /- 3 -/ [⟨(some 13), none, .l (.ia 7 (.t 9) (.t 11))⟩,
      ⟨(some 14), none, .l (.ldn 7 (.t 13))⟩,
      ⟨(some 7), none, .e (.al (.agg #[(.int .i64 0), (.string (mk [])), (.int .i64 0), (.int .i64 0), (.string (mk [])), (.slice none 0 0), (.bool false)]) 53)⟩,
      ⟨none, none, .e (.st 7 (.t 7) (.t 14))⟩])
                (.seq (.reg /- 4 -/ [⟨(some 15), none, .q (.fa 0 (.t 7))⟩,
      ⟨(some 16), none, .l (.ld1 (.t 15))⟩,
      ⟨(some 17), none, .q (.mv (.t 1))⟩,
      ⟨(some 18), none, .q (.bin .eql true (.t 16) (.t 17))⟩])
                  (.cond (.t 18)
                    (.seq (.reg /- 5 -/ [⟨(some 19), none, .l (.ldn 7 (.t 7))⟩,
      ⟨(some 20), none, .cl 59 [(.t 19)] []⟩,
      ⟨none, none, .e (.st 7 (.t 4) (.t 20))⟩,
      ⟨(some 5), none, .q (.mv (.k (.bool true)))⟩])
                      (.ret))
                    (.skip)))))
              (.reg /- 6 -/ [⟨(some 21), none, .q (.bin .add true (.t 11) (.k (.int .i64 1)))⟩,
      ⟨(some 11), none, .q (.mv (.t 21))⟩])))))))
    (.seq (.reg /- 7 -/ [⟨(some 22), none, .q (.bd [(.int .i64 0), (.string (mk [])), (.int .i64 0), (.int .i64 0), (.string (mk [])), (.slice none 0 0), (.bool false)] [])⟩,
      ⟨none, none, .e (.st 7 (.t 4) (.t 22))⟩,
      ⟨(some 5), none, .q (.mv (.k (.bool false)))⟩])
      (.ret)))
def rs28 : List RV := [.ld (.ldn 7 (.t 4)), .mv (.t 5)]
theorem ok28 : trFn Try.prog true ⟨fun _ _ => .own [], fun _ => false⟩ Try.f28 = some (pc28, rs28) := by kernel_rfl
/-- robotics/schema.checkNesting -/
def pc43 : PC :=
  .seq (.reg /- 0 -/ [⟨(some 2), none, .e (.bx 25 (.t 0))⟩,
      ⟨(some 3), none, .e (.bx 69 (.t 1))⟩,
      ⟨(some 4), none, .q (.mv (.k (.int .i64 0)))⟩])
  (.seq (.seq (.reg /- 1 -/ [⟨(some 9), none, .q (.fa 2 (.t 2))⟩,
      ⟨(some 10), none, .l (.ld1 (.t 9))⟩,
      ⟨(some 11), none, .q (.lnL (.t 10))⟩,
      ⟨(some 12), none, .q (.mv (.k (.int .i64 0)))⟩])
    (.block 0 (.loop (.seq (.reg /- 2 -/ [⟨(some 13), none, .q (.bin .lss true (.t 12) (.t 11))⟩])
          (.seq (.cond (.t 13)
            (.skip)
            (.exit 0))
            (.seq (.block 1 (.seq (.reg /- 3 -/ [⟨(some 14), none, .l (.ia 2 (.t 10) (.t 12))⟩,
      ⟨(some 15), none, .l (.ldn 2 (.t 14))⟩,
      ⟨(some 6), none, .e (.al (.agg #[(.string (mk [])), (.slice none 0 0)]) 32)⟩,
      ⟨none, none, .e (.st 2 (.t 6) (.t 15))⟩])
                (.seq (.ord /- 4 -/ [.q ⟨(some 16), none, .l (.ldn 2 (.t 3))⟩,
      .q ⟨(some 17), none, .q (.fa 0 (.t 6))⟩,
      .q ⟨(some 18), none, .l (.ld1 (.t 17))⟩,
      .q ⟨(some 20), none, .q (.fa 0 (.t 6))⟩,
      .q ⟨(some 21), none, .l (.ld1 (.t 20))⟩,
      .m ⟨(some 19), none, .cl 54 [(.t 16), (.t 18)] [0, 1]⟩,
      .rc ⟨(some 20), none, .q (.fa 0 (.t 6))⟩,
      .rc ⟨(some 21), none, .l (.ld1 (.t 20))⟩,
      .m ⟨(some 22), none, .cq 66 [(.t 19), (.t 21)]⟩])
                  (.cond (.t 22)
                    (.seq (.reg /- 5 -/ [⟨(some 4), none, .q (.mv (.k (.int .i64 19)))⟩])
                      (.ret))
                    (.skip)))))
              (.reg /- 6 -/ [⟨(some 23), none, .q (.bin .add true (.t 12) (.k (.int .i64 1)))⟩,
      ⟨(some 12), none, .q (.mv (.t 23))⟩])))))))
    (.seq (.seq (.reg /- 7 -/ [⟨(some 24), none, .q (.fa 2 (.t 2))⟩,
      ⟨(some 25), none, .l (.ld1 (.t 24))⟩,
      ⟨(some 26), none, .q (.lnL (.t 25))⟩,
      ⟨(some 27), none, .q (.mv (.k (.int .i64 0)))⟩])
      (.block 2 (.loop (.seq (.reg /- 8 -/ [⟨(some 28), none, .q (.bin .lss true (.t 27) (.t 26))⟩])
            (.seq (.cond (.t 28)
              (.skip)
              (.exit 2))
              (.seq (.block 3 (.seq (.reg /- 9 -/ [⟨(some 29), none, .l (.ia 2 (.t 25) (.t 27))⟩,
      ⟨(some 30), none, .l (.ldn 2 (.t 29))⟩,
      ⟨(some 8), none, .e (.al (.agg #[(.string (mk [])), (.slice none 0 0)]) 32)⟩,
      ⟨none, none, .e (.st 2 (.t 8) (.t 30))⟩])
                  (.seq (.reg /- 10 -/ [⟨(some 31), none, .l (.ldn 2 (.t 3))⟩,
      ⟨(some 32), none, .l (.ldn 2 (.t 8))⟩,
      ⟨(some 33), none, .cl 51 [(.t 31), (.t 32)] [0, 1]⟩,
      ⟨(some 34), none, .q (.bin .gtr true (.t 33) (.k (.int .i64 6)))⟩])
                    (.cond (.t 34)
                      (.seq (.reg /- 11 -/ [⟨(some 4), none, .q (.mv (.k (.int .i64 9)))⟩])
                        (.ret))
                      (.skip)))))
                (.reg /- 12 -/ [⟨(some 35), none, .q (.bin .add true (.t 27) (.k (.int .i64 1)))⟩,
      ⟨(some 27), none, .q (.mv (.t 35))⟩])))))))
      (.seq (.reg /- 13 -/ [⟨(some 4), none, .q (.mv (.k (.int .i64 0)))⟩])
        (.ret))))
def rs43 : List RV := [.mv (.t 4)]
theorem ok43 : trFn Try.prog true ⟨fun r k => if r = 4 ∧ k = 3 then .own [0, 1] else if r = 4 ∧ k = 6 then .q else if r = 10 ∧ k = 2 then .own [0, 1] else .own [], fun _ => false⟩ Try.f43 = some (pc43, rs43) := by kernel_rfl
/-- robotics/schema.found -/
def pc50 : PC :=
  .seq (.reg /- 0 -/ [⟨(some 2), none, .e (.bx 25 (.t 0))⟩,
      ⟨(some 4), none, .e (.al (.agg #[(.map none), (.map none)]) 69)⟩,
      ⟨(some 5), none, .q (.mv (.k (.bool false)))⟩])
  (.seq (.seq (.reg /- 1 -/ [⟨(some 9), none, .l (.ldn 3 (.t 2))⟩,
      ⟨(some 10), none, .cq 12 [(.t 9)]⟩,
      ⟨(some 11), none, .q (.bin .neq true (.t 10) (.k (.int .i64 0)))⟩])
    (.cond (.t 11)
      (.seq (.reg /- 2 -/ [⟨(some 12), none, .q (.bd [(.map none), (.map none)] [])⟩,
      ⟨none, none, .e (.st 2 (.t 4) (.t 12))⟩,
      ⟨(some 5), none, .q (.mv (.k (.bool false)))⟩])
        (.ret))
      (.skip)))
    (.seq (.reg /- 3 -/ [⟨(some 13), none, .l (.ldn 3 (.t 2))⟩,
      ⟨(some 14), none, .cl 40 [(.t 13)] []⟩,
      ⟨(some 6), none, .e (.al (.agg #[(.map none), (.map none)]) 69)⟩,
      ⟨none, none, .e (.st 2 (.t 6) (.t 14))⟩])
      (.seq (.reg /- 4 -/ [⟨(some 16), none, .q (.fa 0 (.t 6))⟩,
      ⟨(some 17), none, .l (.ld1 (.t 16))⟩,
      ⟨(some 18), none, .q (.mv (.t 1))⟩,
      ⟨(some 19), none, .l (.lk .string (.agg #[(.string (mk [])), (.slice none 0 0)]) true (.t 17) (.t 18))⟩,
      ⟨(some 15), none, .q (.mv (.t 19))⟩,
      ⟨(some 20), none, .q (.ex (.t 15) 0)⟩,
      ⟨(some 21), none, .q (.ex (.t 15) 1)⟩,
      ⟨(some 7), none, .e (.al (.agg #[(.string (mk [])), (.slice none 0 0)]) 32)⟩,
      ⟨none, none, .e (.st 2 (.t 7) (.t 20))⟩,
      ⟨(some 8), none, .q (.mv (.t 21))⟩])
        (.seq (.reg /- 5 -/ [⟨(some 22), none, .l (.ldn 2 (.t 6))⟩,
      ⟨(some 23), none, .q (.mv (.t 8))⟩,
      ⟨none, none, .e (.st 2 (.t 4) (.t 22))⟩,
      ⟨(some 5), none, .q (.mv (.t 23))⟩])
          (.ret)))))
def rs50 : List RV := [.ld (.ldn 2 (.t 4)), .mv (.t 5)]
theorem ok50 : trFn Try.prog true ⟨fun r k => if r = 1 ∧ k = 1 then .q else .own [], fun _ => false⟩ Try.f50 = some (pc50, rs50) := by kernel_rfl
/-- robotics/schema.depth -/
def pc51 : PC :=
  .seq (.reg /- 0 -/ [⟨(some 2), none, .e (.bx 69 (.t 0))⟩,
      ⟨(some 3), none, .e (.bx 32 (.t 1))⟩,
      ⟨(some 4), none, .q (.mv (.k (.int .i64 0)))⟩])
  (.seq (.reg /- 1 -/ [⟨(some 7), none, .e (.mm .string)⟩,
      ⟨(some 5), none, .e (.al (.map none) 94)⟩,
      ⟨none, none, .e (.st 1 (.t 5) (.t 7))⟩])
    (.seq (.reg /- 2 -/ [⟨(some 6), none, .e (.al .nilFunc 95)⟩])
      (.seq (.reg /- 3 -/ [⟨(some 8), none, .q (.mf 73 [(.t 5), (.t 6), (.t 2)])⟩,
      ⟨none, none, .e (.st 1 (.t 6) (.t 8))⟩])
        (.seq (.reg /- 4 -/ [⟨(some 9), none, .l (.ld1 (.t 6))⟩,
      ⟨(some 10), none, .l (.ldn 2 (.t 3))⟩,
      ⟨(some 11), none, .ca (.t 9) [(.t 10)] [0, 1, 2, 4, 5, 6]⟩,
      ⟨(some 4), none, .q (.mv (.t 11))⟩])
          (.ret)))))
def rs51 : List RV := [.mv (.t 4)]
theorem ok51 : trFn Try.prog true ⟨fun r k => if r = 4 ∧ k = 2 then .own [0, 1, 2, 4, 5, 6] else .own [], fun _ => false⟩ Try.f51 = some (pc51, rs51) := by kernel_rfl
/-- robotics/schema.uses -/
def pc54 : PC :=
  .seq (.reg /- 0 -/ [⟨(some 2), none, .e (.bx 69 (.t 0))⟩,
      ⟨(some 4), none, .q (.mv (.k (.slice none 0 0)))⟩])
  (.seq (.reg /- 1 -/ [⟨(some 8), none, .e (.mm .string)⟩,
      ⟨(some 5), none, .e (.al (.map none) 97)⟩,
      ⟨none, none, .e (.st 1 (.t 5) (.t 8))⟩])
    (.seq (.reg /- 2 -/ [⟨(some 6), none, .e (.al (.slice none 0 0) 35)⟩])
      (.seq (.reg /- 3 -/ [⟨(some 7), none, .e (.al .nilFunc 98)⟩])
        (.seq (.reg /- 4 -/ [⟨(some 9), none, .q (.mf 74 [(.t 5), (.t 6), (.t 2), (.t 7)])⟩,
      ⟨none, none, .e (.st 1 (.t 7) (.t 9))⟩])
          (.seq (.gh (.reg /- 5 -/ [⟨(some 10), none, .l (.ld1 (.t 7))⟩,
      ⟨(some 11), none, .q (.fa 0 (.t 2))⟩,
      ⟨(some 12), none, .l (.ld1 (.t 11))⟩,
      ⟨(some 13), none, .q (.mv (.t 1))⟩,
      ⟨(some 14), none, .l (.lk .string (.agg #[(.string (mk [])), (.slice none 0 0)]) false (.t 12) (.t 13))⟩,
      ⟨(some 15), none, .ca (.t 10) [(.t 14)] [0, 1, 2, 3, 4, 5, 6, 7]⟩]))
            (.seq (.reg /- 6 -/ [⟨(some 16), none, .l (.ld1 (.t 6))⟩,
      ⟨(some 17), none, .cl 76 [(.t 16)] [7]⟩])
              (.seq (.reg /- 7 -/ [⟨(some 18), none, .l (.ld1 (.t 6))⟩,
      ⟨(some 4), none, .q (.mv (.t 18))⟩])
                (.ret))))))))
def rs54 : List RV := [.mv (.t 4)]
theorem ok54 : trFn Try.prog true ⟨fun r k => if r = 5 ∧ k = 5 then .own [0, 1, 2, 3, 4, 5, 6, 7] else if r = 6 ∧ k = 1 then .own [7] else .own [], fun r => [5].contains r⟩ Try.f54 = some (pc54, rs54) := by kernel_rfl
/-- robotics/schema.copyStruct -/
def pc56 : PC :=
  .seq (.reg /- 0 -/ [⟨(some 1), none, .e (.bx 32 (.t 0))⟩,
      ⟨(some 2), none, .e (.al (.agg #[(.string (mk [])), (.slice none 0 0)]) 32)⟩])
  (.seq (.reg /- 1 -/ [⟨(some 6), none, .q (.fa 0 (.t 1))⟩,
      ⟨(some 7), none, .l (.ld1 (.t 6))⟩,
      ⟨(some 8), none, .q (.bd [(.string (mk [])), (.slice none 0 0)] [(0, 1, (.t 7))])⟩,
      ⟨(some 3), none, .e (.al (.agg #[(.string (mk [])), (.slice none 0 0)]) 32)⟩,
      ⟨none, none, .e (.st 2 (.t 3) (.t 8))⟩])
    (.seq (.seq (.reg /- 2 -/ [⟨(some 9), none, .q (.fa 1 (.t 1))⟩,
      ⟨(some 10), none, .l (.ld1 (.t 9))⟩,
      ⟨(some 11), none, .q (.lnL (.t 10))⟩,
      ⟨(some 12), none, .q (.mv (.k (.int .i64 0)))⟩])
      (.block 0 (.loop (.seq (.reg /- 3 -/ [⟨(some 13), none, .q (.bin .lss true (.t 12) (.t 11))⟩])
            (.seq (.cond (.t 13)
              (.skip)
              (.exit 0))
              (.seq (.block 1 (.seq (.reg /- 4 -/ [⟨(some 14), none, .l (.ia 7 (.t 10) (.t 12))⟩,
      ⟨(some 15), none, .l (.ldn 7 (.t 14))⟩,
      ⟨(some 5), none, .e (.al (.agg #[(.int .i64 0), (.string (mk [])), (.int .i64 0), (.int .i64 0), (.string (mk [])), (.slice none 0 0), (.bool false)]) 53)⟩,
      ⟨none, none, .e (.st 7 (.t 5) (.t 15))⟩])
                  (.ord /- 5 -/ [.q ⟨(some 16), none, .q (.fa 1 (.t 3))⟩,
      .q ⟨(some 17), none, .l (.ld1 (.t 16))⟩,
      .q ⟨(some 18), none, .l (.ldn 7 (.t 5))⟩,
      .m ⟨(some 19), none, .cl 59 [(.t 18)] []⟩,
      .rc ⟨(some 16), none, .q (.fa 1 (.t 3))⟩,
      .rc ⟨(some 17), none, .l (.ld1 (.t 16))⟩,
      .m ⟨(some 20), none, .e (.bsl 53 7 [(.t 19)])⟩,
      .rc ⟨(some 16), none, .q (.fa 1 (.t 3))⟩,
      .rc ⟨(some 17), none, .l (.ld1 (.t 16))⟩,
      .m ⟨(some 21), none, .e (.ap 53 7 88 (.t 17) (.t 20))⟩,
      .q ⟨(some 22), none, .q (.fa 1 (.t 3))⟩,
      .m ⟨none, none, .e (.st 1 (.t 22) (.t 21))⟩])))
                (.reg /- 6 -/ [⟨(some 23), none, .q (.bin .add true (.t 12) (.k (.int .i64 1)))⟩,
      ⟨(some 12), none, .q (.mv (.t 23))⟩])))))))
      (.seq (.reg /- 7 -/ [⟨(some 24), none, .l (.ldn 2 (.t 3))⟩,
      ⟨none, none, .e (.st 2 (.t 2) (.t 24))⟩])
        (.ret))))
def rs56 : List RV := [.ld (.ldn 2 (.t 2))]
theorem ok56 : trFn Try.prog true ⟨fun _ _ => .own [], fun _ => false⟩ Try.f56 = some (pc56, rs56) := by kernel_rfl
/-- robotics/schema.copyField -/
def pc59 : PC :=
  .seq (.reg /- 0 -/ [⟨(some 1), none, .e (.bx 53 (.t 0))⟩,
      ⟨(some 2), none, .e (.al (.agg #[(.int .i64 0), (.string (mk [])), (.int .i64 0), (.int .i64 0), (.string (mk [])), (.slice none 0 0), (.bool false)]) 53)⟩])
  (.seq (.reg /- 1 -/ [⟨(some 3), none, .q (.fa 2 (.t 1))⟩,
      ⟨(some 4), none, .l (.ldn 4 (.t 3))⟩,
      ⟨(some 5), none, .cl 77 [(.t 4)] []⟩,
      ⟨(some 6), none, .q (.fa 2 (.t 1))⟩,
      ⟨none, none, .e (.st 4 (.t 6) (.t 5))⟩])
    (.seq (.reg /- 2 -/ [⟨(some 7), none, .l (.ldn 7 (.t 1))⟩,
      ⟨none, none, .e (.st 7 (.t 2) (.t 7))⟩])
      (.ret)))
def rs59 : List RV := [.ld (.ldn 7 (.t 2))]
theorem ok59 : trFn Try.prog true ⟨fun _ _ => .own [], fun _ => false⟩ Try.f59 = some (pc59, rs59) := by kernel_rfl
/-- robotics/schema.depth$1 -/
def pc73 : PC :=
  .seq (.reg /- 0 -/ [⟨(some 4), none, .e (.bx 32 (.t 0))⟩,
      ⟨(some 5), none, .q (.mv (.k (.int .i64 0)))⟩])
  (.seq (.seq (.reg /- 1 -/ [⟨(some 14), none, .l (.ld1 (.t 1))⟩,
      ⟨(some 15), none, .q (.fa 0 (.t 4))⟩,
      ⟨(some 16), none, .l (.ld1 (.t 15))⟩,
      ⟨(some 17), none, .l (.lk .string (.int .i64 0) true (.t 14) (.t 16))⟩,
      ⟨(some 13), none, .q (.mv (.t 17))⟩,
      ⟨(some 18), none, .q (.ex (.t 13) 0)⟩,
      ⟨(some 19), none, .q (.ex (.t 13) 1)⟩,
      ⟨(some 6), none, .q (.mv (.t 18))⟩,
      ⟨(some 7), none, .q (.mv (.t 19))⟩])
    (.seq (.reg /- 2 -/ [⟨(some 20), none, .q (.mv (.t 7))⟩])
      (.cond (.t 20)
        (.seq (.reg /- 3 -/ [⟨(some 21), none, .q (.mv (.t 6))⟩,
      ⟨(some 5), none, .q (.mv (.t 21))⟩])
          (.ret))
        (.skip))))
    (.seq (.reg /- 4 -/ [⟨(some 8), none, .q (.mv (.k (.int .i64 0)))⟩])
      (.seq (.seq (.reg /- 5 -/ [⟨(some 22), none, .q (.fa 1 (.t 4))⟩,
      ⟨(some 23), none, .l (.ld1 (.t 22))⟩,
      ⟨(some 24), none, .q (.lnL (.t 23))⟩,
      ⟨(some 25), none, .q (.mv (.k (.int .i64 0)))⟩])
        (.block 0 (.loop (.seq (.reg /- 6 -/ [⟨(some 26), none, .q (.bin .lss true (.t 25) (.t 24))⟩])
              (.seq (.cond (.t 26)
                (.skip)
                (.exit 0))
                (.seq (.block 1 (.seq (.reg /- 7 -/ [⟨(some 27), none, .l (.ia 7 (.t 23) (.t 25))⟩,
      ⟨(some 28), none, .l (.ldn 7 (.t 27))⟩,
      ⟨(some 10), none, .e (.al (.agg #[(.int .i64 0), (.string (mk [])), (.int .i64 0), (.int .i64 0), (.string (mk [])), (.slice none 0 0), (.bool false)]) 53)⟩,
      ⟨none, none, .e (.st 7 (.t 10) (.t 28))⟩])
                    (.seq (.ord /- 8 -/ [.q ⟨(some 29), none, .q (.fa 2 (.t 10))⟩,
      .q ⟨(some 30), none, .l (.ldn 4 (.t 29))⟩,
      .m ⟨(some 12), none, .e (.al (.agg #[(.int .i64 0), (.int .i64 0), (.string (mk [])), (.slice none 0 0)]) 40)⟩,
      .rc ⟨(some 29), none, .q (.fa 2 (.t 10))⟩,
      .rc ⟨(some 30), none, .l (.ldn 4 (.t 29))⟩,
      .m ⟨(some 11), none, .q (.mv (.k (.int .i64 0)))⟩,
      .rc ⟨(some 29), none, .q (.fa 2 (.t 10))⟩,
      .rc ⟨(some 30), none, .l (.ldn 4 (.t 29))⟩,
      .m ⟨none, none, .e (.st 4 (.t 12) (.t 30))⟩])
                      (.seq (.block 2 (.loop (.seq (.seq (.reg /- 9 -/ [⟨(some 31), none, .q (.fa 0 (.t 12))⟩,
      ⟨(some 32), none, .l (.ld1 (.t 31))⟩,
      ⟨(some 33), none, .q (.bin .eql true (.t 32) (.k (.int .i64 5)))⟩])
                            (.cond (.t 33)
                              (.skip)
                              (.exit 2)))
                            (.block 3 (.seq (.reg /- 10 -/ [⟨(some 34), none, .q (.mv (.t 11))⟩,
      ⟨(some 35), none, .q (.bin .add true (.t 34) (.k (.int .i64 1)))⟩,
      ⟨(some 11), none, .q (.mv (.t 35))⟩])
                                (.reg /- 11 -/ [⟨(some 36), none, .q (.fa 3 (.t 12))⟩,
      ⟨(some 37), none, .l (.ld1 (.t 36))⟩,
      ⟨(some 38), none, .l (.ia 4 (.t 37) (.k (.int .i64 0)))⟩,
      ⟨(some 39), none, .l (.ldn 4 (.t 38))⟩,
      ⟨none, none, .e (.st 4 (.t 12) (.t 39))⟩]))))))
                        (.seq (.seq (.reg /- 12 -/ [⟨(some 40), none, .q (.fa 0 (.t 12))⟩,
      ⟨(some 41), none, .l (.ld1 (.t 40))⟩,
      ⟨(some 42), none, .q (.bin .eql true (.t 41) (.k (.int .i64 6)))⟩])
                          (.cond (.t 42)
                            (.reg /- 13 -/ [⟨(some 43), none, .q (.mv (.t 11))⟩,
      ⟨(some 44), none, .l (.ld1 (.t 2))⟩,
      ⟨(some 45), none, .q (.fa 0 (.t 3))⟩,
      ⟨(some 46), none, .l (.ld1 (.t 45))⟩,
      ⟨(some 47), none, .q (.fa 2 (.t 12))⟩,
      ⟨(some 48), none, .l (.ld1 (.t 47))⟩,
      ⟨(some 49), none, .l (.lk .string (.agg #[(.string (mk [])), (.slice none 0 0)]) false (.t 46) (.t 48))⟩,
      ⟨(some 50), none, .ca (.t 44) [(.t 49)] [0, 1, 2, 3, 4, 5]⟩,
      ⟨(some 51), none, .q (.bin .add true (.t 43) (.t 50))⟩,
      ⟨(some 11), none, .q (.mv (.t 51))⟩])
                            (.skip)))
                          (.reg /- 14 -/ [⟨(some 52), none, .q (.mv (.t 8))⟩,
      ⟨(some 53), none, .q (.mv (.t 11))⟩,
      ⟨(some 54), none, .q (.mx true (.t 52) (.t 53))⟩,
      ⟨(some 8), none, .q (.mv (.t 54))⟩]))))))
                  (.reg /- 15 -/ [⟨(some 55), none, .q (.bin .add true (.t 25) (.k (.int .i64 1)))⟩,
      ⟨(some 25), none, .q (.mv (.t 55))⟩])))))))
        (.seq (.reg /- 16 -/ [⟨(some 56), none, .l (.ld1 (.t 1))⟩,
      ⟨(some 57), none, .q (.fa 0 (.t 4))⟩,
      ⟨(some 58), none, .l (.ld1 (.t 57))⟩,
      ⟨(some 59), none, .q (.mv (.t 8))⟩,
      ⟨(some 60), none, .q (.bin .add true (.t 59) (.k (.int .i64 1)))⟩,
      ⟨none, none, .e (.mu .string (.t 56) (.t 58) (.t 60))⟩])
          (.seq (.reg /- 17 -/ [⟨(some 61), none, .q (.mv (.t 8))⟩,
      ⟨(some 62), none, .q (.bin .add true (.t 61) (.k (.int .i64 1)))⟩,
      ⟨(some 5), none, .q (.mv (.t 62))⟩])
            (.ret))))))
def rs73 : List RV := [.mv (.t 5)]
theorem ok73 : trFn Try.prog true ⟨fun r k => if r = 13 ∧ k = 7 then .own [0, 1, 2, 3, 4, 5] else .own [], fun _ => false⟩ Try.f73 = some (pc73, rs73) := by kernel_rfl
/-- robotics/schema.uses$1 -/
def pc74 : PC :=
  .seq (.reg /- 0 -/ [⟨(some 5), none, .e (.bx 32 (.t 0))⟩])
  (.seq (.reg /- 1 -/ [⟨(some 12), none, .q (.fa 1 (.t 5))⟩,
      ⟨(some 13), none, .l (.ld1 (.t 12))⟩,
      ⟨(some 14), none, .q (.lnL (.t 13))⟩,
      ⟨(some 15), none, .q (.mv (.k (.int .i64 0)))⟩])
    (.block 0 (.loop (.seq (.reg /- 2 -/ [⟨(some 16), none, .q (.bin .lss true (.t 15) (.t 14))⟩])
          (.seq (.cond (.t 16)
            (.skip)
            (.exit 0))
            (.seq (.block 1 (.seq (.reg /- 3 -/ [⟨(some 17), none, .l (.ia 7 (.t 13) (.t 15))⟩,
      ⟨(some 18), none, .l (.ldn 7 (.t 17))⟩,
      ⟨(some 7), none, .e (.al (.agg #[(.int .i64 0), (.string (mk [])), (.int .i64 0), (.int .i64 0), (.string (mk [])), (.slice none 0 0), (.bool false)]) 53)⟩,
      ⟨none, none, .e (.st 7 (.t 7) (.t 18))⟩])
                (.seq (.reg /- 4 -/ [⟨(some 20), none, .q (.fa 2 (.t 7))⟩,
      ⟨(some 21), none, .l (.ldn 4 (.t 20))⟩,
      ⟨(some 22), none, .cl 75 [(.t 21)] []⟩,
      ⟨(some 19), none, .q (.mv (.t 22))⟩,
      ⟨(some 23), none, .q (.ex (.t 19) 0)⟩,
      ⟨(some 24), none, .q (.ex (.t 19) 1)⟩,
      ⟨(some 8), none, .q (.mv (.t 23))⟩,
      ⟨(some 9), none, .q (.mv (.t 24))⟩])
                  (.seq (.seq (.reg /- 5 -/ [⟨(some 25), none, .q (.mv (.t 9))⟩,
      ⟨(some 26), none, .q (.not (.t 25))⟩,
      ⟨(some 27), none, .q (.mv (.t 26))⟩,
      ⟨(some 28), (some (27, false)), .l (.ld1 (.t 1))⟩,
      ⟨(some 29), (some (27, false)), .q (.mv (.t 8))⟩,
      ⟨(some 30), (some (27, false)), .l (.lk .string (.bool false) false (.t 28) (.t 29))⟩,
      ⟨(some 31), none, .pick (.t 27) (.k (.bool true)) (.t 30)⟩])
                    (.cond (.t 31)
                      (.exit 1)
                      (.skip)))
                    (.seq (.reg /- 6 -/ [⟨(some 32), none, .l (.ld1 (.t 1))⟩,
      ⟨(some 33), none, .q (.mv (.t 8))⟩,
      ⟨none, none, .e (.mu .string (.t 32) (.t 33) (.k (.bool true)))⟩])
                      (.seq (.reg /- 7 -/ [⟨(some 34), none, .l (.ld1 (.t 2))⟩,
      ⟨(some 35), none, .q (.mv (.t 8))⟩,
      ⟨(some 36), none, .e (.bsl 9 1 [(.t 35)])⟩,
      ⟨(some 37), none, .e (.ap 9 1 16 (.t 34) (.t 36))⟩,
      ⟨none, none, .e (.st 1 (.t 2) (.t 37))⟩])
                        (.seq (.reg /- 8 -/ [⟨(some 39), none, .q (.fa 0 (.t 3))⟩,
      ⟨(some 40), none, .l (.ld1 (.t 39))⟩,
      ⟨(some 41), none, .q (.mv (.t 8))⟩,
      ⟨(some 42), none, .l (.lk .string (.agg #[(.string (mk [])), (.slice none 0 0)]) true (.t 40) (.t 41))⟩,
      ⟨(some 38), none, .q (.mv (.t 42))⟩,
      ⟨(some 43), none, .q (.ex (.t 38) 0)⟩,
      ⟨(some 44), none, .q (.ex (.t 38) 1)⟩,
      ⟨(some 10), none, .e (.al (.agg #[(.string (mk [])), (.slice none 0 0)]) 32)⟩,
      ⟨none, none, .e (.st 2 (.t 10) (.t 43))⟩,
      ⟨(some 11), none, .q (.mv (.t 44))⟩])
                          (.seq (.reg /- 9 -/ [⟨(some 45), none, .q (.mv (.t 11))⟩])
                            (.cond (.t 45)
                              (.reg /- 10 -/ [⟨(some 46), none, .l (.ld1 (.t 4))⟩,
      ⟨(some 47), none, .l (.ldn 2 (.t 10))⟩,
      ⟨(some 48), none, .ca (.t 46) [(.t 47)] [0, 1, 2, 3, 4, 5, 6, 7]⟩])
                              (.skip))))))))))
              (.reg /- 11 -/ [⟨(some 49), none, .q (.bin .add true (.t 15) (.k (.int .i64 1)))⟩,
      ⟨(some 15), none, .q (.mv (.t 49))⟩])))))))
def rs74 : List RV := []
theorem ok74 : trFn Try.prog true ⟨fun r k => if r = 10 ∧ k = 2 then .own [0, 1, 2, 3, 4, 5, 6, 7] else .own [], fun _ => false⟩ Try.f74 = some (pc74, rs74) := by kernel_rfl
/-- robotics/schema.named -/
def pc75 : PC :=
  .seq (.reg /- 0 -/ [⟨(some 1), none, .e (.bx 40 (.t 0))⟩,
      ⟨(some 2), none, .q (.mv (.k (.string (mk []))))⟩,
      ⟨(some 3), none, .q (.mv (.k (.bool false)))⟩])
  (.seq (.block 0 (.loop (.seq (.seq (.reg /- 1 -/ [⟨(some 4), none, .q (.fa 0 (.t 1))⟩,
      ⟨(some 5), none, .l (.ld1 (.t 4))⟩,
      ⟨(some 6), none, .q (.bin .eql true (.t 5) (.k (.int .i64 5)))⟩,
      ⟨(some 7), none, .q (.mv (.t 6))⟩,
      ⟨(some 8), (some (7, true)), .q (.fa 3 (.t 1))⟩,
      ⟨(some 9), (some (7, true)), .l (.ld1 (.t 8))⟩,
      ⟨(some 10), (some (7, true)), .q (.lnL (.t 9))⟩,
      ⟨(some 11), (some (7, true)), .q (.bin .eql true (.t 10) (.k (.int .i64 1)))⟩,
      ⟨(some 12), none, .pick (.t 7) (.t 11) (.k (.bool false))⟩])
        (.cond (.t 12)
          (.skip)
          (.exit 0)))
        (.block 1 (.reg /- 2 -/ [⟨(some 13), none, .q (.fa 3 (.t 1))⟩,
      ⟨(some 14), none, .l (.ld1 (.t 13))⟩,
      ⟨(some 15), none, .l (.ia 4 (.t 14) (.k (.int .i64 0)))⟩,
      ⟨(some 16), none, .l (.ldn 4 (.t 15))⟩,
      ⟨none, none, .e (.st 4 (.t 1) (.t 16))⟩])))))
    (.seq (.reg /- 3 -/ [⟨(some 17), none, .q (.fa 2 (.t 1))⟩,
      ⟨(some 18), none, .l (.ld1 (.t 17))⟩,
      ⟨(some 19), none, .q (.fa 0 (.t 1))⟩,
      ⟨(some 20), none, .l (.ld1 (.t 19))⟩,
      ⟨(some 21), none, .q (.bin .eql true (.t 20) (.k (.int .i64 6)))⟩,
      ⟨(some 22), none, .q (.mv (.t 21))⟩,
      ⟨(some 23), (some (22, false)), .q (.fa 0 (.t 1))⟩,
      ⟨(some 24), (some (22, false)), .l (.ld1 (.t 23))⟩,
      ⟨(some 25), (some (22, false)), .q (.bin .eql true (.t 24) (.k (.int .i64 7)))⟩,
      ⟨(some 26), none, .pick (.t 22) (.k (.bool true)) (.t 25)⟩,
      ⟨(some 2), none, .q (.mv (.t 18))⟩,
      ⟨(some 3), none, .q (.mv (.t 26))⟩])
      (.ret)))
def rs75 : List RV := [.mv (.t 2), .mv (.t 3)]
theorem ok75 : trFn Try.prog true ⟨fun _ _ => .own [], fun _ => false⟩ Try.f75 = some (pc75, rs75) := by kernel_rfl
/-- robotics/schema.copyType -/
def pc77 : PC :=
  .seq (.reg /- 0 -/ [⟨(some 1), none, .e (.bx 40 (.t 0))⟩,
      ⟨(some 2), none, .e (.al (.agg #[(.int .i64 0), (.int .i64 0), (.string (mk [])), (.slice none 0 0)]) 40)⟩])
  (.seq (.reg /- 1 -/ [⟨(some 6), none, .q (.fa 0 (.t 1))⟩,
      ⟨(some 7), none, .l (.ld1 (.t 6))⟩,
      ⟨(some 8), none, .q (.fa 1 (.t 1))⟩,
      ⟨(some 9), none, .l (.ld1 (.t 8))⟩,
      ⟨(some 10), none, .q (.fa 2 (.t 1))⟩,
      ⟨(some 11), none, .l (.ld1 (.t 10))⟩,
      ⟨(some 12), none, .q (.bd [(.int .i64 0), (.int .i64 0), (.string (mk [])), (.slice none 0 0)] [(0, 1, (.t 7)), (1, 1, (.t 9)), (2, 1, (.t 11))])⟩,
      ⟨(some 3), none, .e (.al (.agg #[(.int .i64 0), (.int .i64 0), (.string (mk [])), (.slice none 0 0)]) 40)⟩,
      ⟨none, none, .e (.st 4 (.t 3) (.t 12))⟩])
    (.seq (.seq (.reg /- 2 -/ [⟨(some 13), none, .q (.fa 3 (.t 1))⟩,
      ⟨(some 14), none, .l (.ld1 (.t 13))⟩,
      ⟨(some 15), none, .q (.lnL (.t 14))⟩,
      ⟨(some 16), none, .q (.mv (.k (.int .i64 0)))⟩])
      (.block 0 (.loop (.seq (.reg /- 3 -/ [⟨(some 17), none, .q (.bin .lss true (.t 16) (.t 15))⟩])
            (.seq (.cond (.t 17)
              (.skip)
              (.exit 0))
              (.seq (.block 1 (.seq (.reg /- 4 -/ [⟨(some 18), none, .l (.ia 4 (.t 14) (.t 16))⟩,
      ⟨(some 19), none, .l (.ldn 4 (.t 18))⟩,
      ⟨(some 5), none, .e (.al (.agg #[(.int .i64 0), (.int .i64 0), (.string (mk [])), (.slice none 0 0)]) 40)⟩,
      ⟨none, none, .e (.st 4 (.t 5) (.t 19))⟩])
                  (.ord /- 5 -/ [.q ⟨(some 20), none, .q (.fa 3 (.t 3))⟩,
      .q ⟨(some 21), none, .l (.ld1 (.t 20))⟩,
      .q ⟨(some 22), none, .l (.ldn 4 (.t 5))⟩,
      .m ⟨(some 23), none, .cl 77 [(.t 22)] []⟩,
      .rc ⟨(some 20), none, .q (.fa 3 (.t 3))⟩,
      .rc ⟨(some 21), none, .l (.ld1 (.t 20))⟩,
      .m ⟨(some 24), none, .e (.bsl 40 4 [(.t 23)])⟩,
      .rc ⟨(some 20), none, .q (.fa 3 (.t 3))⟩,
      .rc ⟨(some 21), none, .l (.ld1 (.t 20))⟩,
      .m ⟨(some 25), none, .e (.ap 40 4 56 (.t 21) (.t 24))⟩,
      .q ⟨(some 26), none, .q (.fa 3 (.t 3))⟩,
      .m ⟨none, none, .e (.st 1 (.t 26) (.t 25))⟩])))
                (.reg /- 6 -/ [⟨(some 27), none, .q (.bin .add true (.t 16) (.k (.int .i64 1)))⟩,
      ⟨(some 16), none, .q (.mv (.t 27))⟩])))))))
      (.seq (.reg /- 7 -/ [⟨(some 28), none, .l (.ldn 4 (.t 3))⟩,
      ⟨none, none, .e (.st 4 (.t 2) (.t 28))⟩])
        (.ret))))
def rs77 : List RV := [.ld (.ldn 4 (.t 2))]
theorem ok77 : trFn Try.prog true ⟨fun _ _ => .own [], fun _ => false⟩ Try.f77 = some (pc77, rs77) := by kernel_rfl
end Go.Proofs.Ytpfmkfafagiicaa
/- named. -/
namespace Go.Proofs.Ytpfmkfafagiicaa
open Go.W
mutual
def namedT : Ty → Ty
  | .mk k s n e => bif k == 5 then namedL e (.mk k s n e) else .mk k s n e
def namedL : List Ty → Ty → Ty
  | [], d => d
  | u :: r, d => bif r.isEmpty then namedT u else d
end
def isNamed (t : Ty) : Bool := (namedT t).k == 6 || (namedT t).k == 7
def nmOf (t : Ty) : ByteArray := (namedT t).n
theorem named_one {s : Int} {n : ByteArray} {u : Ty} : namedT (.mk 5 s n [u]) = namedT u := by simp [namedT, namedL]
theorem named_stop {k s : Int} {n : ByteArray} {e : List Ty} (h : (k == 5 && (e.length : Int) == 1) = false) : namedT (.mk k s n e) = .mk k s n e := by
  rw [namedT]
  cases hk : k == 5 with
  | false => rfl
  | true =>
    rw [hk, Bool.true_and] at h
    match e, h with
    | [], _ => rfl
    | [u], h => simp at h
    | u :: v :: r, _ => simp [namedL]
def naSp : W.Spec := fun av H K => match av, H with
  | [.va (.gs r)], [] => isTy r ∧ K (.tu [.c1 (.vl (.string (nmOf (C.ty r)))), bA (isNamed (C.ty r))]) []
  | _, _ => False
theorem naSp_open {av : List S} {H : Hp} {K : S → Hp → Prop} (h : naSp av H K) : ∃ t : Ty, av = [.va (.gs (tyC t))] ∧ H = [] ∧ TyOk t ∧ K (.tu [.c1 (.vl (.string (nmOf t))), bA (isNamed t)]) [] := by
  unfold naSp at h
  split at h
  · obtain ⟨⟨t, rfl, ht⟩, hK⟩ := h
    rw [ty_dec] at hK
    exact ⟨t, rfl, rfl, ht, hK⟩
  · exact h.elim
attribute [go_sem ↓] naSp
theorem tyC_one (t : Ty) : ∀ c ∈ tyC t, c.one := by rw [tyC_eq]; simp [go_sem]
set_option maxRecDepth 100000 in
theorem mNamed : Meets Try.prog 75 naSp := by
  refine meets_fn Try.func75 ok75 1 (by rw [Try.ntmps75]; decide) (meetsAll_nil _) (fun av H K h => by obtain ⟨_, rfl, _⟩ := naSp_open h; rfl) ?_
  intro av H K h
  obtain ⟨t, rfl, rfl, ht, hK⟩ := naSp_open h
  simp -dsimp only [go_sem, pc75, rs75]
  refine vc_loop (α := Ty) (fun z => [(1, .va (.c1 (.pt 0 0)))]) (fun z => [.cells (tyC z) 40]) (fun z => namedT z = namedT t) (fun z => z.h) t 1 rfl ?_ ?_ ?_
  · simp -dsimp only [go_sem] <;> simp
  · simp -dsimp only [go_sem] <;> simp
  intro z hz
  cases z with
  | mk k s n e =>
  cases hc : (k == 5 && (e.length : Int) == 1) with
  | true =>
    simp only [Bool.and_eq_true, beq_iff_eq] at hc
    obtain ⟨rfl, hl⟩ := hc
    obtain ⟨u, rfl⟩ : ∃ u, e = [u] := List.length_eq_one_iff.1 (by omega)
    rw [named_one] at hz
    simp -dsimp only [go_sem, tyC, tysC_map]
    refine ⟨fun _ => ⟨⟨by omega, fun r hr => by subst hr; exact tyC_len u⟩, fun r hr => ?_⟩, fun h => by simp at h⟩
    subst hr
    simp -dsimp only [go_sem, tyC_len]
    refine ⟨tyC_one u, loop_next u 1 hz (by simp only [Ty.h, Ty.hs]; omega) ?_ ?_⟩
    · simp -dsimp only [go_sem] <;> simp
    · simp -dsimp only [go_sem] <;> simp
  | false =>
    rw [named_stop hc] at hz
    simp -dsimp only [go_sem, tyC, tysC_map, hc]
    rw [nmOf, isNamed, ← hz] at hK
    exact .sel [] (by simp) (by simp) rfl (.done (by simpa [go_sem, Ty.n, Ty.k] using hK))
end Go.Proofs.Ytpfmkfafagiicaa
/- uses: the visit. -/
namespace Go.Proofs.Ytpfmkfafagiicaa
open Go.W
abbrev trA : ByteArray → A := fun _ => .c1 (.vl (.bool true))
@[go_sem] theorem trA_ren (f : Nat → Option Nat) (l : List ByteArray) : (l.map trA).map (A.ren f) = l.map trA := by rw [List.map_map]; rfl
@[go_sem] theorem trA_pub (n : Nat) (xs : List (List C)) (l : List ByteArray) : (l.map trA).map (A.pub n xs) = l.map trA := by rw [List.map_map]; rfl
def vStep (go : St → List ByteArray → List ByteArray) (ss : List St) (o : List ByteArray) (f : Fl) : List ByteArray :=
  bif !(isNamed f.ty) || inB o (nmOf f.ty) then o else match fS ss (nmOf f.ty) with
    | some t => go t (o ++ [nmOf f.ty])
    | none => o ++ [nmOf f.ty]
def vis (ss : List St) : Nat → St → List ByteArray → List ByteArray
  | 0, _, o => o
  | N + 1, t, o => t.fs.foldl (vStep (vis ss N) ss) o
theorem sidx_has (n : ByteArray) : ∀ ns : List ByteArray, (sidx ns n).isSome = inB ns n
  | [] => rfl
  | k :: ks => by
    have := sidx_has n ks
    unfold inB at this
    simp only [sidx, inB, List.any_cons]
    by_cases h : n = k
    · simp [h]
    · simp [h, this]
theorem mget_tr (o : List ByteArray) (n : ByteArray) : mget (nmK o) (o.map trA) (.string n) = bif inB o n then some (.c1 (.vl (.bool true))) else none := by
  rw [mget_nm, ← sidx_has]
  cases h : sidx o n with
  | none => rfl
  | some i => simp [List.getElem?_eq_getElem (sidx_some h).2]
theorem mputK_tr {o : List ByteArray} {n : ByteArray} (h : inB o n = false) : mputK (nmK o) (.string n) = nmK (o ++ [n]) := by
  rw [← sidx_has] at h
  unfold mputK; rw [midx_nm]
  cases h2 : sidx o n with
  | none => simp
  | some i => rw [h2] at h; cases h
theorem mputV_tr {o : List ByteArray} {n : ByteArray} (h : inB o n = false) : mputV (nmK o) (o.map trA) (.string n) (.c1 (.vl (.bool true))) = (o ++ [n]).map trA := by
  rw [← sidx_has] at h
  unfold mputV; rw [midx_nm]
  cases h2 : sidx o n with
  | none => simp
  | some i => rw [h2] at h; cases h
/-- How many structs are not in a list. -/
def fresh : List St → List ByteArray → Nat
  | [], _ => 0
  | s :: ss, o => (bif inB o s.nm then 0 else 1) + fresh ss o
theorem inB_app (o p : List ByteArray) (n : ByteArray) : inB (o ++ p) n = (inB o n || inB p n) := by simp [inB]
theorem fresh_app (o p : List ByteArray) : ∀ ss : List St, fresh ss (o ++ p) ≤ fresh ss o
  | [] => Nat.le_refl _
  | s :: ss => by
    have := fresh_app o p ss
    simp only [fresh, inB_app]
    cases inB o s.nm <;> cases inB p s.nm <;> simp only [Bool.or_true, Bool.or_false, Bool.cond_true, Bool.cond_false] <;> omega
theorem fresh_lt {o : List ByteArray} {n : ByteArray} {t : St} (hn : inB o n = false) : ∀ {ss : List St}, fS ss n = some t → fresh ss (o ++ [n]) < fresh ss o
  | [], h => by cases h
  | s :: ss, h => by
    unfold fS at h
    rw [List.find?_cons] at h
    simp only [fresh, inB_app]
    by_cases hs : s.nm = n
    · have h1 := fresh_app o [n] ss
      have h2 : inB [n] s.nm = true := by simp [inB, hs]
      have h3 : inB o s.nm = false := by rw [hs]; exact hn
      rw [h2, h3]; simp only [Bool.or_true, Bool.cond_true, Bool.cond_false]; omega
    · simp only [hs, decide_false] at h
      have := fresh_lt hn h
      have h2 : inB [n] s.nm = false := by simp [inB, hs]
      rw [h2, Bool.or_false]
      omega
def Pfx (o p : List ByteArray) : Prop := ∃ q, p = o ++ q
theorem Pfx.refl (o : List ByteArray) : Pfx o o := ⟨[], by simp⟩
theorem Pfx.trans {a b c : List ByteArray} (h : Pfx a b) (k : Pfx b c) : Pfx a c := by
  obtain ⟨p, rfl⟩ := h; obtain ⟨q, rfl⟩ := k; exact ⟨p ++ q, by simp⟩
theorem Pfx.len {a b : List ByteArray} (h : Pfx a b) : a.length ≤ b.length := by obtain ⟨p, rfl⟩ := h; simp
theorem Pfx.fresh {ss : List St} {a b : List ByteArray} (h : Pfx a b) : fresh ss b ≤ fresh ss a := by obtain ⟨p, rfl⟩ := h; exact fresh_app _ _ _
theorem vStep_pfx {go : St → List ByteArray → List ByteArray} (hg : ∀ t o, Pfx o (go t o)) (ss : List St) (o : List ByteArray) (f : Fl) : Pfx o (vStep go ss o f) := by
  unfold vStep
  cases !(isNamed f.ty) || inB o (nmOf f.ty) with
  | true => exact .refl _
  | false =>
    cases fS ss (nmOf f.ty) with
    | none => exact ⟨_, rfl⟩
    | some t => exact Pfx.trans ⟨_, rfl⟩ (hg _ _)
theorem fold_pfx {g : List ByteArray → Fl → List ByteArray} (hg : ∀ o f, Pfx o (g o f)) : ∀ (l : List Fl) (o : List ByteArray), Pfx o (l.foldl g o)
  | [], _o => .refl _
  | f :: l, o => (hg o f).trans (fold_pfx hg l _)
theorem vis_pfx (ss : List St) : ∀ (N : Nat) (t : St) (o : List ByteArray), Pfx o (vis ss N t o)
  | 0, _, _o => .refl _
  | N + 1, t, o => fold_pfx (fun o f => vStep_pfx (vis_pfx ss N) ss o f) t.fs o
abbrev visV : A := .c1 (.fn 74 [(false, [.pt 4 0]), (false, [.pt 5 0]), (false, [.pt 2 0]), (false, [.pt 6 0])])
abbrev visH (ks : List Value) (vs : List St) (ks' : List Value) (vs' : List En) (o : List ByteArray) : Hp :=
  [.map .string ks (vs.map stA), .map .string ks' (vs'.map enA), .cells [.mp 0, .mp 1] 69, .map .string (nmK o) (o.map trA), .cells [.mp 3] 97, .cells [.sl 7 o.length] 35, .cells [.fn 74 [(false, [.pt 4 0]), (false, [.pt 5 0]), (false, [.pt 2 0]), (false, [.pt 6 0])]] 98, .row (o.map stR) 9 1]
def visSp (N : Nat) : W.Spec := fun av H K => ∃ (ss : List St) (t : St) (ks : List Value) (vs : List St) (ks' : List Value) (vs' : List En) (o : List ByteArray), av = [.va (.gs (stC t)), .va (.c1 (.pt 4 0)), .va (.c1 (.pt 5 0)), .va (.c1 (.pt 2 0)), .va (.c1 (.pt 6 0))] ∧ H = visH ks vs ks' vs' o ∧
  IxS ks vs ss ∧ (∀ s ∈ ss, s.ok) ∧ t.ok ∧ fresh ss o < N ∧ (vis ss N t o).length ≤ 1000000000 ∧ K (.tu []) (visH ks vs ks' vs' (vis ss N t o))
theorem vis_use {N : Nat} {ss : List St} {t : St} {ks : List Value} {vs : List St} {ks' : List Value} {vs' : List En} {o : List ByteArray} {K : S → Hp → Prop} {H : Hp} (hH : H = visH ks vs ks' vs' o) (h1 : IxS ks vs ss) (h2 : ∀ s ∈ ss, s.ok) (h3 : t.ok) (h4 : fresh ss o < N) (h5 : (vis ss N t o).length ≤ 1000000000) (hK : K (.tu []) (visH ks vs ks' vs' (vis ss N t o))) :
  visSp N [.va (.gs (stC t)), .va (.c1 (.pt 4 0)), .va (.c1 (.pt 5 0)), .va (.c1 (.pt 2 0)), .va (.c1 (.pt 6 0))] H K := ⟨ss, t, ks, vs, ks', vs', o, rfl, hH, h1, h2, h3, h4, h5, hK⟩
theorem fold_step {g : List ByteArray → Fl → List ByteArray} {l : List Fl} {i : Nat} {f : Fl} (hx : l[i]? = some f) (o : List ByteArray) : (l.drop i).foldl g o = (l.drop (i + 1)).foldl g (g o f) := by
  obtain ⟨h, rfl⟩ := List.getElem?_eq_some_iff.1 hx
  rw [List.drop_eq_getElem_cons h]; rfl
set_option maxRecDepth 100000 in
set_option maxHeartbeats 2000000 in
theorem mVisit : ∀ N, Meets Try.prog 74 (visSp N)
  | 0 => ⟨by kernel_rfl, by rintro xs vs E ro w K _ _ _ ⟨_, _, _, _, _, _, _, _, _, _, _, _, h, _⟩; exact absurd h (Nat.not_lt_zero _)⟩
  | N + 1 => by
    refine meets_fn Try.func74 ok74 5 (by rw [Try.ntmps74]; decide) (meetsAll_s (mVisit N) (meetsAll_s mNamed (meetsAll_nil _))) (fun av H K h => by obtain ⟨_, _, _, _, _, _, _, rfl, _⟩ := h; rfl) ?_
    rintro av H K ⟨ss, t, ks, vs, ks', vs', o0, rfl, rfl, h1, h2, h3, h4, h5, hK⟩
    obtain ⟨_, hl, hfs⟩ := h3
    simp -dsimp only [go_sem, stC, pc74, rs74]
    refine vc_loop (α := Nat × List ByteArray) (fun z => [(1, .va (.c1 (.pt 4 0))), (2, .va (.c1 (.pt 5 0))), (3, .va (.c1 (.pt 2 0))), (4, .va (.c1 (.pt 6 0))), (13, .va (.c1 (.fz (t.fs.map flC)))), (14, iS .i64 t.fs.length), (15, iS .i64 z.1)]) (fun z => visH ks vs ks' vs' z.2)
      (fun z => z.1 ≤ t.fs.length ∧ (t.fs.drop z.1).foldl (vStep (vis ss N) ss) z.2 = vis ss (N + 1) t o0 ∧ fresh ss z.2 < N + 1) (fun z => t.fs.length - z.1) (0, o0) 8 ⟨Nat.zero_le _, rfl, h4⟩ ?_ ?_ ?_
    · simp -dsimp only [go_sem] <;> simp
    · simp -dsimp only [go_sem] <;> simp
    rintro ⟨i, o⟩ ⟨hi, ho, hfr⟩
    simp only at hi ho hfr ⊢
    rcases Nat.lt_or_ge i t.fs.length with hlt | hge
    · have hg : decide ((i : Int) < (t.fs.length : Int)) = true := by simp; omega
      obtain ⟨f, hx⟩ : ∃ nm, t.fs[i]? = some nm := ⟨_, List.getElem?_eq_getElem hlt⟩
      have q1 := row_rg' (row := flC) hx
      have hf : f.ok := hfs f (List.mem_of_getElem? hx)
      rw [fold_step hx] at ho
      have ht : isTy (tyC f.ty) := isTy_mk hf.ty
      cases c1 : isNamed f.ty with
      | false =>
        simp (maxSteps := 1000000) -dsimp only [go_sem, hg, ↓q1, flC, fl_ty, ht, c1]
        have hv : vStep (vis ss N) ss o f = o := by unfold vStep; rw [c1]; rfl
        rw [hv] at ho
        refine ⟨by omega, by omega, loop_next (i + 1, o) 8 ⟨by simp only; omega, ho, hfr⟩ (by simp only; omega) ?_ ?_⟩
        · simp -dsimp only [go_sem] <;> simp
        · simp -dsimp only [go_sem] <;> simp
      | true =>
      have hm := mget_tr o (nmOf f.ty)
      cases c2 : inB o (nmOf f.ty) with
      | true =>
        have hv : vStep (vis ss N) ss o f = o := by unfold vStep; rw [c1, c2]; rfl
        rw [hv] at ho
        rw [c2] at hm
        simp only [Bool.cond_true] at hm
        simp (maxSteps := 1000000) -dsimp only [go_sem, hg, ↓q1, flC, fl_ty, ht, c1, hm]
        refine ⟨by omega, by omega, loop_next (i + 1, o) 8 ⟨by simp only; omega, ho, hfr⟩ (by simp only; omega) ?_ ?_⟩
        · simp -dsimp only [go_sem] <;> simp
        · simp -dsimp only [go_sem] <;> simp
      | false =>
        rw [c2] at hm
        simp only [Bool.cond_false] at hm
        have mk1 := mputK_tr c2
        have mv1 := mputV_tr c2
        have hx1 := h1 (nmOf f.ty)
        have hb1 : (vStep (vis ss N) ss o f).length ≤ 1000000000 := by
          have := (fold_pfx (fun o f => vStep_pfx (vis_pfx ss N) ss o f) (t.fs.drop (i + 1)) (vStep (vis ss N) ss o f)).len
          rw [ho] at this; omega
        have hb : (o ++ [nmOf f.ty]).length ≤ 1000000000 := by
          refine Nat.le_trans (Pfx.len ?_) hb1
          unfold vStep; rw [c1, c2]
          cases fS ss (nmOf f.ty) with
          | none => exact .refl _
          | some t => exact vis_pfx _ _ _ _
        cases hs : fS ss (nmOf f.ty) with
        | none =>
          have hv : vStep (vis ss N) ss o f = o ++ [nmOf f.ty] := by unfold vStep; rw [c1, c2, hs]; rfl
          rw [hv] at ho
          rw [hs] at hx1
          simp only [Option.map_none] at hx1
          simp (maxSteps := 1000000) -dsimp only [go_sem, hg, ↓q1, flC, fl_ty, ht, c1, hm, mk1, mv1, hx1]
          refine ⟨by omega, by simp at hb; omega, by omega, loop_next (i + 1, o ++ [nmOf f.ty]) 8 ⟨by simp only; omega, ho, by have := fresh_app o [nmOf f.ty] ss; simp only; omega⟩ (by simp only; omega) ?_ ?_⟩
          · simp -dsimp only [go_sem] <;> simp
          · simp -dsimp only [go_sem] <;> simp
        | some d =>
          have hv : vStep (vis ss N) ss o f = vis ss N d (o ++ [nmOf f.ty]) := by unfold vStep; rw [c1, c2, hs]; rfl
          rw [hv] at ho hb1
          rw [hs] at hx1
          simp only [Option.map_some] at hx1
          have hd : d.ok := h2 d (List.mem_of_find?_eq_some hs)
          have hfl := fresh_lt c2 hs
          simp (maxSteps := 1000000) -dsimp only [go_sem, hg, ↓q1, flC, fl_ty, ht, c1, hm, mk1, mv1, hx1, stC]
          refine ⟨by omega, by simp at hb; omega, vis_use (o := o ++ [nmOf f.ty]) (ks' := ks') (vs' := vs') (by simp [go_sem]) h1 h2 hd (by omega) hb1 ?_⟩
          simp (maxSteps := 1000000) -dsimp only [go_sem]
          refine ⟨by omega, loop_next (i + 1, vis ss N d (o ++ [nmOf f.ty])) 8 ⟨by simp only; omega, ho, by have := (vis_pfx ss N d (o ++ [nmOf f.ty])).fresh (ss := ss); simp only; omega⟩ (by simp only; omega) ?_ ?_⟩
          · simp -dsimp only [go_sem] <;> simp
          · simp -dsimp only [go_sem] <;> simp
    · have hg : decide ((i : Int) < (t.fs.length : Int)) = false := by simp; omega
      obtain rfl : i = t.fs.length := by omega
      rw [List.drop_length] at ho
      simp only [List.foldl_nil] at ho
      simp -dsimp only [go_sem, hg]
      rw [← ho] at hK
      exact .sel [0, 1, 2, 3, 4, 5, 6, 7] (by simp) (by simp) rfl (.done (by simp -dsimp only [go_sem]; simpa [go_sem] using hK))
end Go.Proofs.Ytpfmkfafagiicaa
/- The shelf's contract of slices.Sort of strings at this dump. -/
namespace Go.Proofs
open Go.Shelf
def Try.lays190_ren : Go.Shelf.Ren := ⟨fun | 190 => 76 | 125 => 89 | 258 => 88 | 128 => 101 | 129 => 102 | 302 => 92 | 303 => 93 | 304 => 94 | 305 => 95 | 306 => 96 | 307 => 97 | 308 => 98 | 309 => 99 | 310 => 100 | 333 => 104 | 329 => 105 | 330 => 106 | 334 => 107 | 335 => 108 | 336 => 109 | 344 => 111 | n => n, fun | 31 => 35 | 9 => 9 | 3 => 3 | 46 => 112 | 0 => 0 | 51 => 125 | 53 => 59 | 4 => 4 | 183 => 118 | 182 => 117 | 131 => 96 | 5 => 5 | 218 => 127 | 222 => 131 | 228 => 133 | 229 => 134 | n => n, fun | n => n⟩
theorem Try.lays190 : Go.Proofs.Lays.n190 Try.prog Try.lays190_ren := {
  mixed := by kernel_rfl
  f125 := Try.func89.trans (congrArg some (by kernel_rfl))
  f128 := Try.func101.trans (congrArg some (by kernel_rfl))
  f129 := Try.func102.trans (congrArg some (by kernel_rfl))
  f190 := Try.func76.trans (congrArg some (by kernel_rfl))
  f258 := Try.func88.trans (congrArg some (by kernel_rfl))
  f302 := Try.func92.trans (congrArg some (by kernel_rfl))
  f303 := Try.func93.trans (congrArg some (by kernel_rfl))
  f304 := Try.func94.trans (congrArg some (by kernel_rfl))
  f305 := Try.func95.trans (congrArg some (by kernel_rfl))
  f306 := Try.func96.trans (congrArg some (by kernel_rfl))
  f307 := Try.func97.trans (congrArg some (by kernel_rfl))
  f308 := Try.func98.trans (congrArg some (by kernel_rfl))
  f309 := Try.func99.trans (congrArg some (by kernel_rfl))
  f310 := Try.func100.trans (congrArg some (by kernel_rfl))
  f329 := Try.func105.trans (congrArg some (by kernel_rfl))
  f330 := Try.func106.trans (congrArg some (by kernel_rfl))
  f333 := Try.func104.trans (congrArg some (by kernel_rfl))
  f334 := Try.func107.trans (congrArg some (by kernel_rfl))
  f335 := Try.func108.trans (congrArg some (by kernel_rfl))
  f336 := Try.func109.trans (congrArg some (by kernel_rfl))
  f344 := Try.func111.trans (congrArg some (by kernel_rfl))
  t0 := Try.underlying0
  a0 := Try.isAgg0
  z0 := Try.sizeOf0
  v0 := Try.zeroValue0
  t3 := Try.underlying3
  a3 := Try.isAgg3
  z3 := Try.sizeOf3
  v3 := Try.zeroValue3
  t4 := Try.underlying4
  a4 := Try.isAgg4
  z4 := Try.sizeOf4
  v4 := Try.zeroValue4
  t5 := Try.underlying5
  a5 := Try.isAgg5
  z5 := Try.sizeOf5
  v5 := Try.zeroValue5
  t9 := Try.underlying9
  a9 := Try.isAgg9
  z9 := Try.sizeOf9
  v9 := Try.zeroValue9
  t31 := Try.underlying35
  a31 := Try.isAgg35
  z31 := Try.sizeOf35
  v31 := Try.zeroValue35
  t46 := Try.underlying112
  a46 := Try.isAgg112
  z46 := Try.sizeOf112
  v46 := Try.zeroValue112
  t51 := Try.underlying125
  a51 := Try.isAgg125
  z51 := Try.sizeOf125
  v51 := Try.zeroValue125
  t53 := Try.underlying59
  a53 := Try.isAgg59
  z53 := Try.sizeOf59
  v53 := Try.zeroValue59
  t131 := Try.underlying96
  a131 := Try.isAgg96
  z131 := Try.sizeOf96
  v131 := Try.zeroValue96
  t182 := Try.underlying117
  a182 := Try.isAgg117
  z182 := Try.sizeOf117
  v182 := Try.zeroValue117
  t183 := Try.underlying118
  a183 := Try.isAgg118
  z183 := Try.sizeOf118
  v183 := Try.zeroValue118
  t218 := Try.underlying127
  a218 := Try.isAgg127
  z218 := Try.sizeOf127
  v218 := Try.zeroValue127
  t222 := Try.underlying131
  a222 := Try.isAgg131
  z222 := Try.sizeOf131
  v222 := Try.zeroValue131
  t228 := Try.underlying133
  a228 := Try.isAgg133
  z228 := Try.sizeOf133
  v228 := Try.zeroValue133
  t229 := Try.underlying134
  a229 := Try.isAgg134
  z229 := Try.sizeOf134
  v229 := Try.zeroValue134 }
end Go.Proofs
/- slices.Sort of strings, as a function that sorts an own row. (under way: adapt mDelete of LivS) -/
namespace Go.Proofs.Ytpfmkfafagiicaa
open Go.W Go.Sort
def srtB (l : List ByteArray) : List ByteArray := ((l.map bl).mergeSort fun x y => decide (x ≤ y)).map mk
theorem srtB_len (l : List ByteArray) : (srtB l).length = l.length := by simp [srtB]
theorem heap_grow_old (w : World) (os : Array Obj) {k : Nat} (h : k < w.heap.size) : (grow w os).heap[k]? = w.heap[k]? := by
  simp [grow, Array.getElem?_append_left h]
theorem heap_putRow (enc : List UInt8 → Value) (w : World) (b : Nat) (d : Array (List UInt8)) {cur : Array Value} {T : TypeId} {p : Nat × Nat} (h : w.heap[b]? = some (.cells cur T p)) : (putRow enc w b 0 d).heap[b]? = some (.cells (putCells enc 0 d cur) T p) := by
  unfold putRow mapBlock
  simp [Array.getElem?_modify, h, onCells]
theorem heap_putRow_ne (enc : List UInt8 → Value) (w : World) {b k : Nat} (d : Array (List UInt8)) (h : k ≠ b) : (putRow enc w b 0 d).heap[k]? = w.heap[k]? := by
  unfold putRow mapBlock
  simp [Array.getElem?_modify, Ne.symm h]
def soSp : W.Spec := fun av H K => ∃ l : List ByteArray, av = [.va (.c1 (.sl 0 l.length))] ∧ H = [.row (l.map stR) 9 1] ∧ l.length ≤ 1000000000 ∧ K (.tu []) [.row ((srtB l).map stR) 9 1]
theorem so_use {l : List ByteArray} {K : S → Hp → Prop} (h : l.length ≤ 1000000000) (hK : K (.tu []) [.row ((srtB l).map stR) 9 1]) : soSp [.va (.c1 (.sl 0 l.length))] [.row (l.map stR) 9 1] K := ⟨l, rfl, rfl, h, hK⟩
theorem stR_flat (l : List ByteArray) : (l.map stR).flatten = l.map fun x => C.vl (.string x) := by
  induction l with
  | nil => rfl
  | cons x l ih => rw [List.map_cons, List.flatten_cons, ih]; rfl
theorem vs_str {l : List ByteArray} {vs : List Value} {ro : RO} (h : All2 (C.fv ro) (l.map stR).flatten vs) : vs = l.map Value.string := by
  rw [stR_flat] at h
  refine List.ext_getElem? fun i => ?_
  obtain ⟨h1, h2⟩ := h
  rw [List.length_map] at h1
  rw [List.getElem?_map]
  rcases Nat.lt_or_ge i l.length with hi | hi
  · obtain ⟨x, hx⟩ : ∃ x, l[i]? = some x := ⟨_, List.getElem?_eq_getElem hi⟩
    obtain ⟨v, hv⟩ : ∃ v, vs[i]? = some v := ⟨_, List.getElem?_eq_getElem (by omega)⟩
    have := h2 i _ v (by rw [List.getElem?_map, hx]; rfl) hv
    rw [hv, hx]; exact congrArg some this
  · rw [List.getElem?_eq_none (by omega), List.getElem?_eq_none hi]; rfl
theorem mSort : Meets Try.prog 76 soSp := by
  refine ⟨by kernel_rfl, fun av vs E ro w K hlen hrel hR hs => ?_⟩
  obtain ⟨l, rfl, hH, hl, hK⟩ := hs
  match E, hH with
  | [(g, blk)], hH =>
    obtain rfl : blk = .row (l.map stR) 9 1 := by simpa [hp] using hH
    match vs, hlen with
    | [v0], _ =>
      have r0 := hrel 0 _ _ rfl rfl
      have hon := hR.own 0 g _ rfl
      obtain ⟨o1, o2, o3, o4, o5, o6, o7⟩ := hon
      rw [List.length_map] at o2 o5
      obtain ⟨g', hg', _, _, _, hv0⟩ := r0
      obtain rfl : g = g' := by simpa [gm] using hg'
      obtain rfl := hv0 o2.symm
      have hvs := vs_str o6
      obtain ⟨l1, l2⟩ := o5
      rcases Nat.eq_zero_or_pos l.length with h0 | h0
      · obtain rfl := List.eq_nil_of_length_eq_zero h0
        refine (Any.slices_Sort_string_none Try.lays190 _ _ w).mono ?_
        rintro e w' ⟨rfl, rfl⟩
        rw [show srtB [] = [] by simp [srtB]] at hK
        exact ⟨.tu [], _, [(g, .row ([].map stR) 9 1)], ro, rfl, ⟨[], rfl, .nil⟩, hK, hR⟩
      rcases l2 with ⟨_, h1⟩ | ⟨b, cap, cur, hsl, _, hb, hcap, hmax, hcs, htk⟩
      · omega
      have hob : g.ob = some b := by
        cases hgo : g.ob with
        | none => rw [hgo] at hsl; simp [obA] at hsl
        | some b' => rw [hgo] at hsl; simp [obA] at hsl; rw [hsl.1]
      have hgc : g.cap = cap := by simp at hsl; exact hsl.2
      have hbs : b < w.heap.size := by
        rcases Nat.lt_or_ge b w.heap.size with h' | h'
        · exact h'
        · rw [Array.getElem?_eq_none h'] at hb; cases hb
      have hcell : ∀ k, k < l.length → w.cell? ⟨b, k, none⟩ = (l.map Value.string)[k]? := fun k hk => by
        rw [← hvs, ← htk, List.getElem?_take, if_pos (by omega)]
        simp [World.cell?, hb]
      rw [hob, hgc]
      have key := Any.slices_Sort_string Try.lays190 b 0 cap (l.map bl) w (fun j hj => by
        have hj' : j < l.length := by simpa using hj
        refine ⟨?_, by simp [World.frozen?, hb]⟩
        rw [Nat.zero_add, hcell j hj']
        simp [hj']
        exact (mk_bl _).symm) hbs (by simp; omega)
      rw [List.length_map] at key
      refine key.mono ?_
      rintro e w' ⟨rfl, n, os, rfl⟩
      obtain ⟨D, hD⟩ : ∃ D, D = (l.map bl).mergeSort fun x y => decide (x ≤ y) := ⟨_, rfl⟩
      have hDl : D.length = l.length := by rw [hD]; simp
      have hsD : srtB l = D.map mk := by rw [hD]; rfl
      rw [← hD]
      obtain ⟨W', hW⟩ : ∃ W', W' = grow (putRow encStr (Sort.ahead w n) b 0 D.toArray) os := ⟨_, rfl⟩
      have hmod : (putRow encStr (Sort.ahead w n) b 0 D.toArray).heap.size = w.heap.size := by simp [putRow, mapBlock, Sort.ahead]
      have hb' : W'.heap[b]? = some (.cells (putCells encStr 0 D.toArray cur) 9 (0, 0)) := by
        rw [hW, heap_grow_old _ _ (by rw [hmod]; exact hbs)]
        exact heap_putRow encStr _ b D.toArray hb
      have hne : ∀ k, k ≠ b → k < w.heap.size → W'.heap[k]? = w.heap[k]? := fun k h1 h2 => by
        rw [hW, heap_grow_old _ _ (by rw [hmod]; exact h2), heap_putRow_ne encStr _ D.toArray h1]; rfl
      have hsz : w.heap.size ≤ W'.heap.size := by rw [hW]; simp [hmod]
      have hrest : W'.os = w.os ∧ W'.tape = w.tape ∧ W'.output = w.output := by rw [hW]; exact ⟨rfl, rfl, rfl⟩
      rw [← hW]
      clear hW
      have htk' : (putCells encStr 0 D.toArray cur).toList.take l.length = (srtB l).map Value.string := by
        have hsl' : (srtB l).length = l.length := srtB_len l
        refine List.ext_getElem? fun k => ?_
        rw [List.getElem?_take, List.getElem?_map]
        rcases Nat.lt_or_ge k l.length with hk | hk
        · rw [if_pos hk, hsD]
          have h1 : k < cur.size := by omega
          have h2 : k < D.length := by omega
          simp [putCells, h1, hDl]
          rw [if_pos hk, List.getElem?_eq_getElem h2]; rfl
        · rw [if_neg (by omega), List.getElem?_eq_none (by omega)]; rfl
      have hown : B.On (gm [(⟨some b, true, l.length, cap, g.T, (srtB l).map Value.string⟩, .row ((srtB l).map stR) 9 1)]) ro W' ⟨some b, true, l.length, cap, g.T, (srtB l).map Value.string⟩ (.row ((srtB l).map stR) 9 1) := by
        have hsl' : (srtB l).length = l.length := srtB_len l
        refine ⟨rfl, by rw [List.length_map, hsl'], fun x hx => ?_, fun c hc => ?_, ⟨?_, .inr ⟨b, cap, putCells encStr 0 D.toArray cur, ?_, Nat.zero_le _, hb', ?_, hmax, by simp [putCells]; omega, ?_⟩⟩, ?_, fun b' _ => (by show 0 < cap; omega)⟩
        · obtain ⟨y, _, rfl⟩ := List.mem_map.1 hx; rfl
        · rw [stR_flat] at hc; obtain ⟨y, _, rfl⟩ := List.mem_map.1 hc; rfl
        · simp
        · simp [obA]
        · rw [List.length_map, hsl']; exact hcap
        · rw [List.length_map, hsl', Nat.mul_one]; exact htk'
        · rw [stR_flat]
          refine ⟨by simp, fun i x y hx hy => ?_⟩
          rw [List.getElem?_map] at hx hy
          cases hi : (srtB l)[i]? with
          | none => rw [hi] at hx; cases hx
          | some z => rw [hi] at hx hy; cases hx; cases hy; rfl
      have hpb : b ∈ blks [(g, .row (l.map stR) 9 1)] := by
        rcases hR.par 0 b g _ rfl hob rfl with h | h
        · exact absurd h (Nat.not_le.2 hbs)
        · exact h
      refine ⟨.tu [], _, [(⟨some b, true, l.length, cap, g.T, (srtB l).map Value.string⟩, .row ((srtB l).map stR) 9 1)], ro, rfl, ⟨[], rfl, .nil⟩, hK, ?_⟩
      refine ⟨fun n gn bn hn => ?_, fun n m gn gm' bn bm b' hn hm h1 h2 l1 l2 => ?_, fun b' off v hv n gn bn hn hgb => ?_, fun b' off v hv => ?_, hR.ro0, hR.rob, fun n b' gn bn hn hgb hl => ?_, ?_, hsz, fun k hk hkb => hne k (fun e => hkb (e ▸ hpb)) hk, hrest.1, hrest.2.1, hrest.2.2⟩
      · match n, hn with
        | 0, hn => cases hn; exact hown
        | n + 1, hn => cases hn
      · match n, m, hn, hm with
        | 0, 0, _, _ => rfl
        | n + 1, _, hn, _ => cases hn
        | _, m + 1, _, hm => cases hm
      · match n, hn with
        | 0, hn =>
          cases hn
          have hbb : b = b' := by simpa using hgb
          subst hbb
          exact absurd (hR.apart b off v hv 0 g _ rfl hob) (by simp [B.live])
        | n + 1, hn => cases hn
      · have hne' : b' ≠ b := fun e => by
          subst e
          exact absurd (hR.apart b' off v hv 0 g _ rfl hob) (by simp [B.live])
        have := hR.rd b' off v hv
        rcases Nat.lt_or_ge b' w.heap.size with h' | h'
        · rw [World.cell?_of_block (hne b' hne' h')]
          exact this
        · simp [World.cell?, Array.getElem?_eq_none h'] at this
      · match n, hn with
        | 0, hn => cases hn; have : b = b' := by simpa using hgb
                   subst this; exact .inr hpb
        | n + 1, hn => cases hn
      · intro n g2 h2
        match n, h2 with
        | 0, h2 =>
          cases h2
          exact ⟨_, rfl, o1.symm, .inl ⟨hob.symm, o2.symm, hgc.symm⟩⟩
        | n + 1, h2 => cases h2
end Go.Proofs.Ytpfmkfafagiicaa
/- uses. -/
namespace Go.Proofs.Ytpfmkfafagiicaa
open Go.W
def visAll (ss : List St) (n : ByteArray) : List ByteArray := vis ss (ss.length + 1) ((fS ss n).getD default) []
def usesF (ss : List St) (n : ByteArray) : List ByteArray := srtB (visAll ss n)
theorem fresh_le (ss : List St) (o : List ByteArray) : fresh ss o ≤ ss.length := by
  induction ss with
  | nil => exact Nat.le_refl _
  | cons s ss ih => simp only [fresh, List.length_cons]; cases inB o s.nm <;> simp only [Bool.cond_true, Bool.cond_false] <;> omega
theorem St.ok_default : (default : St).ok := ⟨by decide, by decide, fun f h => by cases h⟩
def usSp : W.Spec := fun av H K => ∃ (ss : List St) (n : ByteArray) (ks : List Value) (vs : List St) (ks' : List Value) (vs' : List En), av = [ixV, tS n] ∧ H = ixH ks vs ks' vs' ∧
  IxS ks vs ss ∧ (∀ s ∈ ss, s.ok) ∧ (visAll ss n).length ≤ 1000000000 ∧ K (.va (.c1 (.fz ((usesF ss n).map stR)))) (ixH ks vs ks' vs')
theorem us_use {ss : List St} {n : ByteArray} {ks : List Value} {vs : List St} {ks' : List Value} {vs' : List En} {K : S → Hp → Prop} (h1 : IxS ks vs ss) (h2 : ∀ s ∈ ss, s.ok) (h3 : (visAll ss n).length ≤ 1000000000) (hK : K (.va (.c1 (.fz ((usesF ss n).map stR)))) (ixH ks vs ks' vs')) :
    usSp [ixV, tS n] (ixH ks vs ks' vs') K := ⟨ss, n, ks, vs, ks', vs', rfl, rfl, h1, h2, h3, hK⟩
set_option maxRecDepth 100000 in
theorem mUses : Meets Try.prog 54 usSp := by
  refine meets_all 0 (t := fun N => fun av H K => ∃ (ss : List St) (n : ByteArray) (ks : List Value) (vs : List St) (ks' : List Value) (vs' : List En), av = [ixV, tS n] ∧ H = ixH ks vs ks' vs' ∧
    IxS ks vs ss ∧ (∀ s ∈ ss, s.ok) ∧ ss.length = N ∧ (visAll ss n).length ≤ 1000000000 ∧ K (.va (.c1 (.fz ((usesF ss n).map stR)))) (ixH ks vs ks' vs')) (fun N => ?_) fun av H K ⟨ss, n, ks, vs, ks', vs', e1, e2, h1, h2, h3, hK⟩ => ⟨ss.length, ss, n, ks, vs, ks', vs', e1, e2, h1, h2, rfl, h3, hK⟩
  refine meets_fn Try.func54 ok54 2 (by rw [Try.ntmps54]; decide) (meetsAll_s (mVisit (N + 1)) (meetsAll_s mSort (meetsAll_nil _))) (fun av H K h => by obtain ⟨_, _, _, _, _, _, rfl, _⟩ := h; rfl) ?_
  rintro av H K ⟨ss, n, ks, vs, ks', vs', rfl, rfl, h1, h2, rfl, h3, hK⟩
  have hx := h1 n
  simp -dsimp only [go_sem, pc54, rs54]
  refine .nilc 5 0 9 1 [.vl (.slice none 0 0)] 35 rfl rfl (.done ?_)
  cases hs : fS ss n with
  | none =>
    rw [hs] at hx
    simp only [Option.map_none] at hx
    simp -dsimp only [go_sem, hx]
    have hF : visAll ss n = vis ss (ss.length + 1) default [] := by unfold visAll; rw [hs]; rfl
    have hU : usesF ss n = srtB (vis ss (ss.length + 1) default []) := by unfold usesF; rw [hF]
    rw [hF] at h3
    rw [hU] at hK
    have hfr := fresh_le ss []
    refine vis_use (ss := ss) (t := default) (ks := ks) (vs := vs) (ks' := ks') (vs' := vs') (o := []) rfl h1 h2 St.ok_default (by omega) h3 ?_
    generalize vis ss (ss.length + 1) default [] = o at h3 hK
    simp -dsimp only [go_sem]
    refine so_use h3 ?_
    simp -dsimp only [go_sem]
    rw [← srtB_len o]
    refine .pub 7 _ _ _ rfl (.sel [0, 1] (by simp) (by simp [pubH]) rfl (.done ?_))
    simp -dsimp only [go_sem, pubH]; exact hK
  | some d =>
    rw [hs] at hx
    simp only [Option.map_some] at hx
    simp -dsimp only [go_sem, hx, stC]
    have hF : visAll ss n = vis ss (ss.length + 1) d [] := by unfold visAll; rw [hs]; rfl
    have hU : usesF ss n = srtB (vis ss (ss.length + 1) d []) := by unfold usesF; rw [hF]
    rw [hF] at h3
    rw [hU] at hK
    have hfr := fresh_le ss []
    refine vis_use (ss := ss) (t := d) (ks := ks) (vs := vs) (ks' := ks') (vs' := vs') (o := []) rfl h1 h2 (h2 d (List.mem_of_find?_eq_some hs)) (by omega) h3 ?_
    generalize vis ss (ss.length + 1) d [] = o at h3 hK
    simp -dsimp only [go_sem]
    refine so_use h3 ?_
    simp -dsimp only [go_sem]
    rw [← srtB_len o]
    refine .pub 7 _ _ _ rfl (.sel [0, 1] (by simp) (by simp [pubH]) rfl (.done ?_))
    simp -dsimp only [go_sem, pubH]; exact hK
end Go.Proofs.Ytpfmkfafagiicaa
/- depth. -/
namespace Go.Proofs.Ytpfmkfafagiicaa
open Go.W
mutual
/-- How many lists stand around a type, and the type within. -/
def lvT : Ty → Nat × Ty
  | .mk k s n e => bif k == 5 then lvL e (.mk k s n e) else (0, .mk k s n e)
def lvL : List Ty → Ty → Nat × Ty
  | [], d => (0, d)
  | u :: _, _ => ((lvT u).1 + 1, (lvT u).2)
end
/-- The depth of a field's type, given those of structs. -/
def fdep (dp : ByteArray → Int) (t : Ty) : Int := (lvT t).1 + bif (lvT t).2.k == 6 then dp (lvT t).2.n else 0
def maxF (dp : ByteArray → Int) (fs : List Fl) : Int := fs.foldl (fun m f => max m (fdep dp f.ty)) 0
def dN (ss : List St) : Nat → ByteArray → Int
  | 0, _ => 1
  | N + 1, n => maxF (dN ss N) ((fS ss n).getD default).fs + 1
/-- Every list has an element, down to the type within. -/
inductive LOk : Ty → Prop
  | stop {k s n e} : (k == 5) = false → LOk (.mk k s n e)
  | list {s n u r} : LOk u → LOk (.mk 5 s n (u :: r))
abbrev inA (d : Int) : A := .c1 (.vl (.int .i64 d))
@[go_sem] theorem inA_ren (f : Nat → Option Nat) (l : List Int) : (l.map inA).map (A.ren f) = l.map inA := by rw [List.map_map]; rfl
@[go_sem] theorem inA_pub (n : Nat) (xs : List (List C)) (l : List Int) : (l.map inA).map (A.pub n xs) = l.map inA := by rw [List.map_map]; rfl
/-- What depth counts on: D are the depths, r falls along references. -/
structure Dp (ss : List St) (D : ByteArray → Int) (r : ByteArray → Nat) : Prop where
  ok : ∀ s ∈ ss, s.ok
  eq : ∀ n t, fS ss n = some t → D n = maxF D t.fs + 1
  lo : ∀ n, 0 ≤ D n
  hi : ∀ n, D n ≤ 1000000000000
  ls : ∀ n t, fS ss n = some t → ∀ f ∈ t.fs, LOk f.ty
  rf : ∀ n t, fS ss n = some t → ∀ f ∈ t.fs, ((lvT f.ty).2.k == 6) = true → ∃ u, fS ss (lvT f.ty).2.n = some u ∧ r (lvT f.ty).2.n < r n
def Known (D : ByteArray → Int) (ms : List ByteArray) (ds : List Int) : Prop := ms.length = ds.length ∧ ∀ n v, mget (nmK ms) (ds.map inA) (.string n) = some v → v = inA (D n)
abbrev depH (ks : List Value) (vs : List St) (ks' : List Value) (vs' : List En) (ms : List ByteArray) (ds : List Int) : Hp :=
  [.map .string ks (vs.map stA), .map .string ks' (vs'.map enA), .cells [.mp 0, .mp 1] 69, .map .string (nmK ms) (ds.map inA), .cells [.mp 3] 94, .cells [.fn 73 [(false, [.pt 4 0]), (false, [.pt 5 0]), (false, [.pt 2 0])]] 95]
def depSp (N : Nat) : W.Spec := fun av H K => ∃ (ss : List St) (D : ByteArray → Int) (r : ByteArray → Nat) (t : St) (ks : List Value) (vs : List St) (ks' : List Value) (vs' : List En) (ms : List ByteArray) (ds : List Int),
  av = [.va (.gs (stC t)), .va (.c1 (.pt 4 0)), .va (.c1 (.pt 5 0)), .va (.c1 (.pt 2 0))] ∧ H = depH ks vs ks' vs' ms ds ∧
  IxS ks vs ss ∧ Dp ss D r ∧ fS ss t.nm = some t ∧ r t.nm < N ∧ Known D ms ds ∧ ∀ ms' ds', Known D ms' ds' → K (iS .i64 (D t.nm)) (depH ks vs ks' vs' ms' ds')
end Go.Proofs.Ytpfmkfafagiicaa
/- depth: the visit. (under way) -/
namespace Go.Proofs.Ytpfmkfafagiicaa
open Go.W
theorem known_get {D : ByteArray → Int} {ms : List ByteArray} {ds : List Int} (h : Known D ms ds) (n : ByteArray) : mget (nmK ms) (ds.map inA) (.string n) = none ∨ mget (nmK ms) (ds.map inA) (.string n) = some (inA (D n)) := by
  cases hm : mget (nmK ms) (ds.map inA) (.string n) with
  | none => exact .inl rfl
  | some v => rw [h.2 n v hm]; exact .inr rfl
theorem known_put {D : ByteArray → Int} {ms : List ByteArray} {ds : List Int} (h : Known D ms ds) (n : ByteArray) : ∃ ms' ds', mputK (nmK ms) (.string n) = nmK ms' ∧ mputV (nmK ms) (ds.map inA) (.string n) (inA (D n)) = ds'.map inA ∧ Known D ms' ds' := by
  obtain ⟨ms', ds', h1, h2, h3, h4⟩ := put_ex inA h.1 n (D n)
  refine ⟨ms', ds', h1, h2, h3, fun k v hk => ?_⟩
  rw [h4] at hk
  by_cases e : k = n
  · subst e; simp at hk; exact hk.symm
  · simp [e] at hk; exact h.2 k v hk
abbrev gF (D : ByteArray → Int) : Int → Fl → Int := fun m f => max m (fdep D f.ty)
theorem gF_le (D : ByteArray → Int) : ∀ (l : List Fl) (m : Int), m ≤ l.foldl (gF D) m
  | [], _ => Int.le_refl _
  | f :: l, m => by
    have := gF_le D l (max m (fdep D f.ty))
    show m ≤ l.foldl (gF D) (max m (fdep D f.ty)); omega
theorem gF_step {D : ByteArray → Int} {l : List Fl} {i : Nat} {f : Fl} (hx : l[i]? = some f) (m : Int) : (l.drop i).foldl (gF D) m = (l.drop (i + 1)).foldl (gF D) (max m (fdep D f.ty)) := by
  obtain ⟨h, rfl⟩ := List.getElem?_eq_some_iff.1 hx
  rw [List.drop_eq_getElem_cons h]; rfl
set_option maxRecDepth 100000 in
set_option maxHeartbeats 2000000 in
theorem mDep : ∀ N, Meets Try.prog 73 (depSp N)
  | 0 => ⟨by kernel_rfl, by rintro xs vs E ro w K _ _ _ ⟨_, _, _, _, _, _, _, _, _, _, _, _, _, _, _, h, _⟩; exact absurd h (Nat.not_lt_zero _)⟩
  | N + 1 => by
    refine meets_fn Try.func73 ok73 4 (by rw [Try.ntmps73]; decide) (meetsAll_s (mDep N) (meetsAll_nil _)) (fun av H K h => by obtain ⟨_, _, _, _, _, _, _, _, _, _, rfl, _⟩ := h; rfl) ?_
    rintro av H K ⟨ss, D, r, t, ks, vs, ks', vs', ms, ds, rfl, rfl, h1, h2, ht, hr, hk, hK⟩
    have htok := h2.ok t (List.mem_of_find?_eq_some ht)
    obtain ⟨_, hl, hfs⟩ := htok
    rcases known_get hk t.nm with hm | hm
    · simp (maxSteps := 1000000) -dsimp only [go_sem, stC, pc73, rs73, hm]
      have hD := h2.eq t.nm t ht
      have hDh := h2.hi t.nm
      refine vc_loop (α := Nat × Int × List ByteArray × List Int) (fun z => [(1, .va (.c1 (.pt 4 0))), (2, .va (.c1 (.pt 5 0))), (3, .va (.c1 (.pt 2 0))), (4, .va (.c1 (.pt 6 0))), (8, iS .i64 z.2.1), (23, .va (.c1 (.fz (t.fs.map flC)))), (24, iS .i64 t.fs.length), (25, iS .i64 z.1)])
        (fun z => depH ks vs ks' vs' z.2.2.1 z.2.2.2 ++ [.cells (stC t) 32])
        (fun z => z.1 ≤ t.fs.length ∧ 0 ≤ z.2.1 ∧ (t.fs.drop z.1).foldl (gF D) z.2.1 = maxF D t.fs ∧ Known D z.2.2.1 z.2.2.2) (fun z => t.fs.length - z.1) (0, 0, ms, ds) 7 ⟨Nat.zero_le _, Int.le_refl _, rfl, hk⟩ ?_ ?_ ?_
      · simp -dsimp only [go_sem] <;> simp
      · simp -dsimp only [go_sem, stC] <;> simp
      clear hk hm
      rintro ⟨i, m, ms, ds⟩ ⟨hi, hm0, ho, hk⟩
      simp only at hi hm0 ho hk ⊢
      have hmb : m ≤ 1000000000000 := by have := gF_le D (t.fs.drop i) m; rw [ho] at this; omega
      rcases Nat.lt_or_ge i t.fs.length with hlt | hge
      · have hg : decide ((i : Int) < (t.fs.length : Int)) = true := by simp; omega
        obtain ⟨f, hx⟩ : ∃ nm, t.fs[i]? = some nm := ⟨_, List.getElem?_eq_getElem hlt⟩
        have q1 := row_rg' (row := flC) hx
        have hf : f.ok := hfs f (List.mem_of_getElem? hx)
        rw [gF_step hx] at ho
        have hfb : fdep D f.ty ≤ 1000000000000 := by have := gF_le D (t.fs.drop (i + 1)) (max m (fdep D f.ty)); rw [ho] at this; omega
        simp (maxSteps := 1000000) -dsimp only [go_sem, hg, ↓q1, flC, fl_ty]
        have hlo := h2.ls t.nm t ht f (List.mem_of_getElem? hx)
        refine ⟨by omega, ⟨tyC_one _, tyC_len _⟩, by rw [tyC_len]; exact Nat.le_refl _, ?_⟩
        refine vc_loop (α := Nat × Ty) (fun z => [(1, .va (.c1 (.pt 4 0))), (2, .va (.c1 (.pt 5 0))), (3, .va (.c1 (.pt 2 0))), (4, .va (.c1 (.pt 6 0))), (8, iS .i64 m), (11, iS .i64 z.1), (12, .va (.c1 (.pt 8 0))), (23, .va (.c1 (.fz (t.fs.map flC)))), (24, iS .i64 t.fs.length), (25, iS .i64 i)])
          (fun z => depH ks vs ks' vs' ms ds ++ [.cells (stC t) 32, .cells (flC f) 53, .cells (tyC z.2) 40])
          (fun z => LOk z.2 ∧ z.1 + (lvT z.2).1 = (lvT f.ty).1 ∧ (lvT z.2).2 = (lvT f.ty).2) (fun z => z.2.h) (0, f.ty) 9 ⟨hlo, by simp, rfl⟩ ?_ ?_ ?_
        · simp -dsimp only [go_sem] <;> simp
        · simp -dsimp only [go_sem, stC, flC, tyC_len] <;> simp
        rintro ⟨n, u⟩ ⟨hu1, hu2, hu3⟩
        simp only at hu1 hu2 hu3 ⊢
        have hlv : ((lvT f.ty).1 : Int) ≤ 1000000000000 := by
          have hd0 := h2.lo (lvT f.ty).2.n
          unfold fdep at hfb
          cases hq : (lvT f.ty).2.k == 6 <;> rw [hq] at hfb <;> simp only [Bool.cond_true, Bool.cond_false] at hfb <;> omega
        cases hu1 with
        | list hv =>
          rename_i s' n' v r'
          have hl5 : lvT (.mk 5 s' n' (v :: r')) = ((lvT v).1 + 1, (lvT v).2) := by simp [lvT, lvL]
          rw [hl5] at hu2 hu3
          simp (maxSteps := 1000000) -dsimp only [go_sem, tyC, tysC_map]
          refine ⟨by omega, ⟨by omega, fun r hr => by subst hr; exact tyC_len v⟩, fun r hr => ?_⟩
          subst hr
          simp -dsimp only [go_sem, tyC_len]
          refine ⟨tyC_one v, loop_next (n + 1, v) 9 ⟨hv, by simp only at hu2 ⊢; omega, hu3⟩ (by simp only [Ty.h, Ty.hs]; omega) ?_ ?_⟩
          · simp -dsimp only [go_sem] <;> simp
          · simp -dsimp only [go_sem, stC, flC] <;> simp
        | stop hk5 =>
          rename_i k' s' n' e'
          have hl0 : lvT (.mk k' s' n' e') = (0, .mk k' s' n' e') := by rw [lvT, hk5]; rfl
          rw [hl0] at hu2 hu3
          simp only [Nat.add_zero] at hu2
          have hfd : fdep D f.ty = (n : Int) + bif k' == 6 then D n' else 0 := by unfold fdep; rw [← hu2, ← hu3]; rfl
          cases k6 : k' == 6 with
          | false =>
            rw [k6, Bool.cond_false, Int.add_zero] at hfd
            rw [hfd] at ho
            simp (maxSteps := 1000000) -dsimp only [go_sem, tyC, tysC_map, hk5, k6]
            refine ⟨by omega, loop_next (i + 1, max m (n : Int), ms, ds) 7 ⟨by simp only; omega, by simp only; omega, ho, hk⟩ (by simp only; omega) ?_ ?_⟩
            · simp -dsimp only [go_sem] <;> simp
            · simp -dsimp only [go_sem, stC] <;> simp
          | true =>
            rw [k6, Bool.cond_true] at hfd
            rw [hfd] at ho
            obtain ⟨w, hw, hrw⟩ := h2.rf t.nm t ht f (List.mem_of_getElem? hx) (by rw [← hu3]; exact k6)
            rw [← hu3] at hw hrw
            have hx1 := h1 n'
            rw [show fS ss n' = some w from hw] at hx1
            simp only [Option.map_some] at hx1
            simp (maxSteps := 1000000) -dsimp only [go_sem, tyC, tysC_map, hk5, k6, hx1, stC]
            have hwn : w.nm = n' := by have := List.find?_some hw; simp only [decide_eq_true_eq] at this; exact this
            refine ⟨ss, D, r, w, ks, vs, ks', vs', ms, ds, rfl, rfl, h1, h2, by rw [hwn]; exact hw, by rw [hwn]; exact Nat.lt_of_lt_of_le hrw (Nat.le_of_lt_succ hr), hk, fun ms' ds' hk' => ?_⟩
            rw [hwn]
            have hd0 := h2.lo n'
            have hd1 := h2.hi n'
            simp (maxSteps := 1000000) -dsimp only [go_sem]
            refine ⟨by omega, by omega, loop_next (i + 1, max m ((n : Int) + D n'), ms', ds') 7 ⟨by simp only; omega, by simp only; omega, ho, hk'⟩ (by simp only; omega) ?_ ?_⟩
            · simp -dsimp only [go_sem] <;> simp
            · simp -dsimp only [go_sem, stC] <;> simp
      · have hg : decide ((i : Int) < (t.fs.length : Int)) = false := by simp; omega
        obtain rfl : i = t.fs.length := by omega
        rw [List.drop_length] at ho
        simp only [List.foldl_nil] at ho
        obtain ⟨ms', ds', p1, p2, p3⟩ := known_put hk t.nm
        have e1 : m + 1 = D t.nm := by omega
        simp (maxSteps := 1000000) -dsimp only [go_sem, hg, stC, e1, p1, p2]
        refine ⟨by have := h2.lo t.nm; omega, by have := h2.lo t.nm; omega, .sel [0, 1, 2, 3, 4, 5] (by simp) (by simp) rfl (.done (by simp -dsimp only [go_sem]; simpa [go_sem] using hK ms' ds' p3))⟩
    · simp (maxSteps := 1000000) -dsimp only [go_sem, stC, pc73, rs73, hm]
      exact .sel [0, 1, 2, 3, 4, 5] (by simp) (by simp) rfl (.done (by simp -dsimp only [go_sem]; simpa [go_sem] using hK ms ds hk))
end Go.Proofs.Ytpfmkfafagiicaa
/- depth. -/
namespace Go.Proofs.Ytpfmkfafagiicaa
open Go.W
def dpSp : W.Spec := fun av H K => ∃ (ss : List St) (D : ByteArray → Int) (r : ByteArray → Nat) (t : St) (ks : List Value) (vs : List St) (ks' : List Value) (vs' : List En), av = [ixV, .va (.gs (stC t))] ∧ H = ixH ks vs ks' vs' ∧
  IxS ks vs ss ∧ Dp ss D r ∧ fS ss t.nm = some t ∧ K (iS .i64 (D t.nm)) (ixH ks vs ks' vs')
theorem dp_use {ss : List St} {D : ByteArray → Int} {r : ByteArray → Nat} {t : St} {ks : List Value} {vs : List St} {ks' : List Value} {vs' : List En} {K : S → Hp → Prop} (h1 : IxS ks vs ss) (h2 : Dp ss D r) (h3 : fS ss t.nm = some t) (hK : K (iS .i64 (D t.nm)) (ixH ks vs ks' vs')) :
    dpSp [ixV, .va (.gs (stC t))] (ixH ks vs ks' vs') K := ⟨ss, D, r, t, ks, vs, ks', vs', rfl, rfl, h1, h2, h3, hK⟩
set_option maxRecDepth 100000 in
theorem mDepth : Meets Try.prog 51 dpSp := by
  refine meets_all 0 (t := fun N => fun av H K => ∃ (ss : List St) (D : ByteArray → Int) (r : ByteArray → Nat) (t : St) (ks : List Value) (vs : List St) (ks' : List Value) (vs' : List En), av = [ixV, .va (.gs (stC t))] ∧ H = ixH ks vs ks' vs' ∧
    IxS ks vs ss ∧ Dp ss D r ∧ fS ss t.nm = some t ∧ r t.nm < N ∧ K (iS .i64 (D t.nm)) (ixH ks vs ks' vs')) (fun N => ?_) fun av H K ⟨ss, D, r, t, ks, vs, ks', vs', e1, e2, h1, h2, h3, hK⟩ => ⟨r t.nm + 1, ss, D, r, t, ks, vs, ks', vs', e1, e2, h1, h2, h3, Nat.lt_succ_self _, hK⟩
  refine meets_fn Try.func51 ok51 2 (by rw [Try.ntmps51]; decide) (meetsAll_s (mDep N) (meetsAll_nil _)) (fun av H K h => by obtain ⟨_, _, _, _, _, _, _, _, rfl, _⟩ := h; rfl) ?_
  rintro av H K ⟨ss, D, r, t, ks, vs, ks', vs', rfl, rfl, h1, h2, ht, hr, hK⟩
  simp -dsimp only [go_sem, stC, pc51, rs51]
  refine ⟨ss, D, r, t, ks, vs, ks', vs', [], [], rfl, rfl, h1, h2, ht, hr, ⟨rfl, fun n v h => by cases h⟩, fun ms ds _ => ?_⟩
  simp -dsimp only [go_sem]
  exact .sel [0, 1] (by simp) (by simp) rfl (.done (by simp -dsimp only [go_sem]; exact hK))
end Go.Proofs.Ytpfmkfafagiicaa
/- What a struct uses: all that can be reached from it. -/
namespace Go.Proofs.Ytpfmkfafagiicaa
open Go.W
def refT (t : St) (b : ByteArray) : Prop := ∃ f ∈ t.fs, isNamed f.ty = true ∧ nmOf f.ty = b
def isRef (ss : List St) (a b : ByteArray) : Prop := refT ((fS ss a).getD default) b
inductive Reach (ss : List St) : ByteArray → ByteArray → Prop
  | one {a b : ByteArray} : isRef ss a b → Reach ss a b
  | more {a b c : ByteArray} : Reach ss a b → isRef ss b c → Reach ss a c
theorem Reach.head {ss : List St} {a b c : ByteArray} (h : isRef ss a b) (r : Reach ss b c) : Reach ss a c := by
  induction r with
  | one h2 => exact .more (.one h) h2
  | more _ h2 ih => exact .more ih h2
theorem Reach.trans {ss : List St} {a b c : ByteArray} (h : Reach ss a b) (r : Reach ss b c) : Reach ss a c := by
  induction r with
  | one h2 => exact .more h h2
  | more _ h2 ih => exact .more ih h2
theorem Reach.first {ss : List St} {a c : ByteArray} (r : Reach ss a c) : ∃ b, isRef ss a b ∧ (c = b ∨ Reach ss b c) := by
  induction r with
  | one h => exact ⟨_, h, .inl rfl⟩
  | more _ h2 ih =>
    obtain ⟨b, h3, h4⟩ := ih
    refine ⟨b, h3, .inr ?_⟩
    rcases h4 with rfl | h4
    · exact .one h2
    · exact .more h4 h2
theorem not_inB {o : List ByteArray} {n : ByteArray} : inB o n = false ↔ n ∉ o := by
  rw [← Bool.not_eq_true, inB_iff]
theorem vstep_cl (ss : List St) {N : Nat} (ih : ∀ t o, fresh ss o < N → (∀ b, refT t b → b ∈ vis ss N t o) ∧ ∀ x ∈ vis ss N t o, x ∉ o → ∀ y, isRef ss x y → y ∈ vis ss N t o) (o : List ByteArray) (f : Fl) (h : fresh ss o < N + 1) :
    (isNamed f.ty = true → nmOf f.ty ∈ vStep (vis ss N) ss o f) ∧ ∀ x ∈ vStep (vis ss N) ss o f, x ∉ o → ∀ y, isRef ss x y → y ∈ vStep (vis ss N) ss o f := by
  cases c1 : isNamed f.ty with
  | false =>
    have : vStep (vis ss N) ss o f = o := by unfold vStep; rw [c1]; rfl
    rw [this]; exact ⟨fun h => by simp at h, fun x hx hn => absurd hx hn⟩
  | true =>
  cases c2 : inB o (nmOf f.ty) with
  | true =>
    have : vStep (vis ss N) ss o f = o := by unfold vStep; rw [c1, c2]; rfl
    rw [this]; exact ⟨fun _ => (inB_iff _ _).1 c2, fun x hx hn => absurd hx hn⟩
  | false =>
    cases hs : fS ss (nmOf f.ty) with
    | none =>
      have : vStep (vis ss N) ss o f = o ++ [nmOf f.ty] := by unfold vStep; rw [c1, c2, hs]; rfl
      rw [this]
      refine ⟨fun _ => by simp, fun x hx hn y hy => ?_⟩
      have : x = nmOf f.ty := by simpa [hn] using hx
      subst this
      unfold isRef at hy; rw [hs] at hy
      obtain ⟨g, hg, _⟩ := hy; cases hg
    | some d =>
      have : vStep (vis ss N) ss o f = vis ss N d (o ++ [nmOf f.ty]) := by unfold vStep; rw [c1, c2, hs]; rfl
      rw [this]
      have hl := fresh_lt c2 hs
      obtain ⟨i1, i2⟩ := ih d (o ++ [nmOf f.ty]) (by omega)
      obtain ⟨q, hq⟩ := vis_pfx ss N d (o ++ [nmOf f.ty])
      refine ⟨fun _ => by rw [hq]; simp, fun x hx hn y hy => ?_⟩
      by_cases hxn : x = nmOf f.ty
      · subst hxn
        unfold isRef at hy; rw [hs] at hy
        exact i1 y hy
      · exact i2 x hx (by simp [hn, hxn]) y hy
theorem vfold_cl (ss : List St) {N : Nat} (ih : ∀ t o, fresh ss o < N → (∀ b, refT t b → b ∈ vis ss N t o) ∧ ∀ x ∈ vis ss N t o, x ∉ o → ∀ y, isRef ss x y → y ∈ vis ss N t o) : ∀ (l : List Fl) (o : List ByteArray), fresh ss o < N + 1 →
    (∀ f ∈ l, isNamed f.ty = true → nmOf f.ty ∈ l.foldl (vStep (vis ss N) ss) o) ∧ ∀ x ∈ l.foldl (vStep (vis ss N) ss) o, x ∉ o → ∀ y, isRef ss x y → y ∈ l.foldl (vStep (vis ss N) ss) o
  | [], o, _ => ⟨fun f h => (List.not_mem_nil h).elim, fun x hx hn => absurd hx hn⟩
  | f :: l, o, h => by
    obtain ⟨s1, s2⟩ := vstep_cl ss ih o f h
    have hp := vStep_pfx (vis_pfx ss N) ss o f
    obtain ⟨r1, r2⟩ := vfold_cl ss ih l (vStep (vis ss N) ss o f) (by have := hp.fresh (ss := ss); omega)
    obtain ⟨q, hq⟩ := fold_pfx (fun o f => vStep_pfx (vis_pfx ss N) ss o f) l (vStep (vis ss N) ss o f)
    have hin : ∀ x, x ∈ vStep (vis ss N) ss o f → x ∈ l.foldl (vStep (vis ss N) ss) (vStep (vis ss N) ss o f) := fun x hx => by rw [hq]; simp [hx]
    rw [List.foldl_cons]
    refine ⟨fun g hg hn => ?_, fun x hx hn y hy => ?_⟩
    · rcases List.mem_cons.1 hg with rfl | hg
      · exact hin _ (s1 hn)
      · exact r1 g hg hn
    · by_cases hx2 : x ∈ vStep (vis ss N) ss o f
      · exact hin _ (s2 x hx2 hn y hy)
      · exact r2 x hx hx2 y hy
theorem vis_cl (ss : List St) : ∀ (N : Nat) (t : St) (o : List ByteArray), fresh ss o < N → (∀ b, refT t b → b ∈ vis ss N t o) ∧ ∀ x ∈ vis ss N t o, x ∉ o → ∀ y, isRef ss x y → y ∈ vis ss N t o
  | 0, _, _, h => absurd h (Nat.not_lt_zero _)
  | N + 1, t, o, h => by
    obtain ⟨r1, r2⟩ := vfold_cl ss (vis_cl ss N) t.fs o h
    exact ⟨fun b ⟨f, hf, hn, hb⟩ => hb ▸ r1 f hf hn, r2⟩
theorem vis_sound (ss : List St) : ∀ (N : Nat) (t : St) (o : List ByteArray), ∀ x ∈ vis ss N t o, x ∈ o ∨ ∃ b, refT t b ∧ (x = b ∨ Reach ss b x)
  | 0, _, o => fun x hx => .inl hx
  | N + 1, t, o => by
    have step : ∀ (o : List ByteArray) (f : Fl), ∀ x ∈ vStep (vis ss N) ss o f, x ∈ o ∨ (isNamed f.ty = true ∧ (x = nmOf f.ty ∨ Reach ss (nmOf f.ty) x)) := fun o f x hx => by
      cases c1 : isNamed f.ty with
      | false =>
        have : vStep (vis ss N) ss o f = o := by unfold vStep; rw [c1]; rfl
        rw [this] at hx; exact .inl hx
      | true =>
      cases c2 : inB o (nmOf f.ty) with
      | true =>
        have : vStep (vis ss N) ss o f = o := by unfold vStep; rw [c1, c2]; rfl
        rw [this] at hx; exact .inl hx
      | false =>
        cases hs : fS ss (nmOf f.ty) with
        | none =>
          have : vStep (vis ss N) ss o f = o ++ [nmOf f.ty] := by unfold vStep; rw [c1, c2, hs]; rfl
          rw [this] at hx
          rcases List.mem_append.1 hx with h | h
          · exact .inl h
          · exact .inr ⟨rfl, .inl (by simpa using h)⟩
        | some d =>
          have : vStep (vis ss N) ss o f = vis ss N d (o ++ [nmOf f.ty]) := by unfold vStep; rw [c1, c2, hs]; rfl
          rw [this] at hx
          rcases vis_sound ss N d _ x hx with h | ⟨b, hb, h⟩
          · rcases List.mem_append.1 h with h | h
            · exact .inl h
            · exact .inr ⟨rfl, .inl (by simpa using h)⟩
          · have hr : isRef ss (nmOf f.ty) b := by unfold isRef; rw [hs]; exact hb
            refine .inr ⟨rfl, .inr ?_⟩
            rcases h with rfl | h
            · exact .one hr
            · exact .head hr h
    have fold : ∀ (l : List Fl) (o : List ByteArray), ∀ x ∈ l.foldl (vStep (vis ss N) ss) o, x ∈ o ∨ ∃ f ∈ l, isNamed f.ty = true ∧ (x = nmOf f.ty ∨ Reach ss (nmOf f.ty) x) := by
      intro l
      induction l with
      | nil => exact fun o x hx => .inl hx
      | cons f l ih =>
        intro o x hx
        rw [List.foldl_cons] at hx
        rcases ih _ x hx with h | ⟨g, hg, h⟩
        · rcases step o f x h with h | h
          · exact .inl h
          · exact .inr ⟨f, List.mem_cons_self, h⟩
        · exact .inr ⟨g, List.mem_cons_of_mem _ hg, h⟩
    intro x hx
    rcases fold t.fs o x hx with h | ⟨f, hf, hn, h⟩
    · exact .inl h
    · exact .inr ⟨nmOf f.ty, ⟨f, hf, hn, rfl⟩, h⟩
theorem vis_nodup (ss : List St) : ∀ (N : Nat) (t : St) (o : List ByteArray), o.Nodup → (vis ss N t o).Nodup
  | 0, _, _ => id
  | N + 1, t, o => by
    have step : ∀ (o : List ByteArray) (f : Fl), o.Nodup → (vStep (vis ss N) ss o f).Nodup := fun o f ho => by
      have app : inB o (nmOf f.ty) = false → (o ++ [nmOf f.ty]).Nodup := fun c2 => by
        rw [not_inB] at c2
        rw [List.nodup_append]
        exact ⟨ho, by simp, fun a ha b hb => by simp at hb; subst hb; exact fun e => c2 (e ▸ ha)⟩
      unfold vStep
      cases c1 : isNamed f.ty with
      | false => exact ho
      | true =>
      cases c2 : inB o (nmOf f.ty) with
      | true => exact ho
      | false =>
        cases hs : fS ss (nmOf f.ty) with
        | none => exact app c2
        | some d => exact vis_nodup ss N d _ (app c2)
    show o.Nodup → (t.fs.foldl (vStep (vis ss N) ss) o).Nodup
    generalize t.fs = l
    induction l generalizing o with
    | nil => exact id
    | cons f l ih => exact fun h => ih _ (step o f h)
theorem mem_visAll (ss : List St) (n x : ByteArray) : x ∈ visAll ss n ↔ Reach ss n x := by
  unfold visAll
  constructor
  · intro h
    rcases vis_sound ss _ _ _ x h with h | ⟨b, hb, h⟩
    · cases h
    · rcases h with rfl | h
      · exact .one hb
      · exact .head hb h
  · intro h
    obtain ⟨c1, c2⟩ := vis_cl ss (ss.length + 1) ((fS ss n).getD default) [] (Nat.lt_succ_of_le (fresh_le ss []))
    induction h with
    | one h => exact c1 _ h
    | more _ h2 ih => exact c2 _ ih (by simp) _ h2
theorem visAll_nodup (ss : List St) (n : ByteArray) : (visAll ss n).Nodup := vis_nodup ss _ _ _ .nil
theorem mem_srtB {l : List ByteArray} {x : ByteArray} : x ∈ srtB l ↔ x ∈ l := by
  unfold srtB
  rw [List.mem_map]
  constructor
  · rintro ⟨y, hy, rfl⟩
    rw [List.mem_mergeSort, List.mem_map] at hy
    obtain ⟨z, hz, rfl⟩ := hy
    rw [mk_bl]; exact hz
  · intro h
    exact ⟨bl x, by rw [List.mem_mergeSort]; exact List.mem_map_of_mem h, mk_bl x⟩
theorem mem_usesF {ss : List St} {n x : ByteArray} : x ∈ usesF ss n ↔ Reach ss n x := by unfold usesF; rw [mem_srtB, mem_visAll]
theorem usesF_len (ss : List St) (n : ByteArray) : (usesF ss n).length = (visAll ss n).length := srtB_len _
end Go.Proofs.Ytpfmkfafagiicaa
/- Depths of structs without cycles. -/
namespace Go.Proofs.Ytpfmkfafagiicaa
open Go.W
/-- A schema whose names and fields have been checked. -/
structure Gd (ss : List St) (es : List En) : Prop where
  ok : ∀ s ∈ ss, s.ok
  n : ss.length ≤ 16
  m : es.length ≤ 16
  val : ∀ s ∈ ss, ∀ f ∈ s.fs, valF ss es f.ty = true
  lv : ∀ s ∈ ss, ∀ f ∈ s.fs, (lvT f.ty).1 ≤ 1000000000
  nd : ∀ s ∈ ss, fS ss s.nm = some s
def Acy (ss : List St) : Prop := ∀ s ∈ ss, inB (usesF ss s.nm) s.nm = false
theorem val_list {ss : List St} {es : List En} {s : Int} {n : ByteArray} {e : List Ty} (h : valF ss es (.mk 5 s n e) = true) : ∃ u, e = [u] ∧ valF ss es u = true := by
  rw [valF] at h
  simp only [show ((5 : Int) == 1) = false from rfl, show ((5 : Int) == 2) = false from rfl, show ((5 : Int) == 3) = false from rfl, show ((5 : Int) == 4) = false from rfl, show ((5 : Int) == 5) = true from rfl, Bool.cond_true, Bool.cond_false, Bool.and_eq_true] at h
  obtain ⟨_, h⟩ := h
  match e, h with
  | [], h => simp [valFs] at h
  | [u], h => exact ⟨u, rfl, by simpa [valFs] using h⟩
  | u :: v :: r, h => simp [valFs] at h
theorem val_lv (ss : List St) (es : List En) : ∀ (N : Nat) (t : Ty), t.h ≤ N → valF ss es t = true → LOk t ∧ namedT t = (lvT t).2 ∧ ((namedT t).k == 5) = false ∧ valF ss es (namedT t) = true
  | 0, t, h, _ => absurd h (by have := t.h_pos; omega)
  | N + 1, .mk k s n e, h, hv => by
    cases k5 : k == 5 with
    | true =>
      obtain rfl : k = 5 := by simpa using k5
      obtain ⟨u, rfl, hu⟩ := val_list hv
      obtain ⟨i1, i2, i3, i4⟩ := val_lv ss es N u (by rw [Ty.h, Ty.hs, Ty.hs] at h; omega) hu
      rw [named_one]
      exact ⟨.list i1, by rw [i2]; simp [lvT, lvL], i3, i4⟩
    | false =>
      have h1 : namedT (.mk k s n e) = .mk k s n e := named_stop (by rw [k5]; rfl)
      rw [h1]
      exact ⟨.stop k5, by rw [lvT, k5]; rfl, k5, hv⟩
theorem val_nm {ss : List St} {es : List En} {t : Ty} (hv : valF ss es t = true) (hn : isNamed t = true) : hasS ss (nmOf t) = true ∨ hasE es (nmOf t) = true := by
  obtain ⟨_, _, _, h⟩ := val_lv ss es t.h t (Nat.le_refl _) hv
  unfold isNamed at hn
  unfold nmOf
  revert h hn
  generalize namedT t = u
  cases u with
  | mk k s n e =>
  intro hn h
  simp only [Ty.k, Bool.or_eq_true, beq_iff_eq] at hn
  rcases hn with rfl | rfl
  · left; rw [valF] at h; simp at h; exact h.1.1
  · right; rw [valF] at h; simp at h; exact h.1.1
theorem val_str {ss : List St} {es : List En} {t : Ty} (hv : valF ss es t = true) (hk : ((lvT t).2.k == 6) = true) : isNamed t = true ∧ nmOf t = (lvT t).2.n ∧ hasS ss (lvT t).2.n = true ∧ LOk t := by
  obtain ⟨h1, h2, _, h⟩ := val_lv ss es t.h t (Nat.le_refl _) hv
  unfold isNamed nmOf
  rw [h2] at h ⊢
  refine ⟨by rw [hk]; rfl, rfl, ?_, h1⟩
  revert h hk
  generalize (lvT t).2 = u
  cases u with
  | mk k s n e =>
  intro hk h
  obtain rfl : k = 6 := by simpa [Ty.k] using hk
  rw [valF] at h; simp at h; exact h.1.1
theorem fS_mem {ss : List St} {n : ByteArray} {t : St} (h : fS ss n = some t) : t ∈ ss ∧ t.nm = n := ⟨List.mem_of_find?_eq_some h, by have := List.find?_some h; simpa using this⟩
theorem fEn_mem {ss : List En} {n : ByteArray} {t : En} (h : fEn ss n = some t) : t ∈ ss ∧ t.nm = n := ⟨List.mem_of_find?_eq_some h, by have := List.find?_some h; simpa using this⟩
theorem ref_mem {ss : List St} {a b : ByteArray} (h : isRef ss a b) : ∃ t f, fS ss a = some t ∧ t ∈ ss ∧ f ∈ t.fs ∧ isNamed f.ty = true ∧ nmOf f.ty = b := by
  obtain ⟨f, hf, hn, hb⟩ := h
  cases hs : fS ss a with
  | none => rw [hs] at hf; cases hf
  | some t => rw [hs] at hf; exact ⟨t, f, rfl, (fS_mem hs).1, hf, hn, hb⟩
theorem reach_nm {ss : List St} {es : List En} (g : Gd ss es) {a b : ByteArray} (h : Reach ss a b) : hasS ss b = true ∨ hasE es b = true := by
  have : ∃ c, isRef ss c b := by cases h with
    | one h => exact ⟨_, h⟩
    | more _ h => exact ⟨_, h⟩
  obtain ⟨c, h⟩ := this
  obtain ⟨t, f, _, ht, hf, hn, rfl⟩ := ref_mem h
  exact val_nm (g.val t ht f hf) hn
theorem nodup_sub {α : Type} [DecidableEq α] : ∀ {l m : List α}, l.Nodup → (∀ x ∈ l, x ∈ m) → l.length ≤ m.length
  | [], _, _, _ => Nat.zero_le _
  | x :: l, m, h, hs => by
    have h2 := List.nodup_cons.1 h
    have hx := hs x List.mem_cons_self
    have := nodup_sub (m := m.erase x) h2.2 fun y hy => (List.mem_erase_of_ne (fun e => h2.1 (by rw [← e]; exact hy))).2 (hs y (List.mem_cons_of_mem _ hy))
    rw [List.length_erase_of_mem hx] at this
    have hp := List.length_pos_of_mem hx
    simp only [List.length_cons]; omega
theorem Gd.vlen {ss : List St} {es : List En} (g : Gd ss es) (n : ByteArray) : (visAll ss n).length ≤ 32 := by
  have h := nodup_sub (m := ss.map (·.nm) ++ es.map (·.nm)) (visAll_nodup ss n) fun x hx => by
    rw [mem_visAll] at hx
    rw [List.mem_append, List.mem_map, List.mem_map]
    rcases reach_nm g hx with h | h
    · left; unfold hasS at h; rw [List.any_eq_true] at h; obtain ⟨t, h1, h2⟩ := h; exact ⟨t, h1, of_decide_eq_true h2⟩
    · right; unfold hasE at h; rw [List.any_eq_true] at h; obtain ⟨t, h1, h2⟩ := h; exact ⟨t, h1, of_decide_eq_true h2⟩
  have h1 := g.n
  have h2 := g.m
  simp only [List.length_append, List.length_map] at h
  omega
/-! ### Ranks -/
def rank (ss : List St) (n : ByteArray) : Nat := ss.countP fun s => inB (visAll ss n) s.nm
theorem countP_lt {α : Type} {p q : α → Bool} : ∀ {l : List α}, (∀ x ∈ l, p x = true → q x = true) → (∃ x ∈ l, q x = true ∧ p x = false) → l.countP p < l.countP q
  | [], _, ⟨_, h, _⟩ => by cases h
  | y :: l, h, ⟨x, hx, h1, h2⟩ => by
    have hm := List.countP_mono_left fun z hz => h z (List.mem_cons_of_mem _ hz)
    have hy := h y List.mem_cons_self
    rw [List.countP_cons, List.countP_cons]
    rcases List.mem_cons.1 hx with rfl | hx
    · rw [h1, h2]; simp; omega
    · have := countP_lt (fun z hz => h z (List.mem_cons_of_mem _ hz)) ⟨x, hx, h1, h2⟩
      cases hp : p y with
      | true => rw [hy hp]; simp; exact this
      | false => cases q y <;> simp <;> omega
theorem rank_le (ss : List St) (n : ByteArray) : rank ss n ≤ ss.length := List.countP_le_length
theorem rank_lt {ss : List St} {n m : ByteArray} {u : St} (h : isRef ss n m) (hu : fS ss m = some u) (ha : Acy ss) : rank ss m < rank ss n := by
  obtain ⟨h1, h2⟩ := fS_mem hu
  refine countP_lt (fun s _ hs => ?_) ⟨u, h1, ?_, ?_⟩
  · rw [inB_iff, mem_visAll] at hs ⊢; exact .head h hs
  · rw [inB_iff, mem_visAll, h2]; exact .one h
  · rw [not_inB, mem_visAll, ← mem_usesF, ← not_inB]
    have := ha u h1
    rw [h2] at this ⊢; exact this
/-! ### Depths -/
theorem maxF_le {dp : ByteArray → Int} {B : Int} (hB : 0 ≤ B) {l : List Fl} (h : ∀ f ∈ l, fdep dp f.ty ≤ B) : maxF dp l ≤ B := by
  have key : ∀ (l : List Fl) (m : Int), m ≤ B → (∀ f ∈ l, fdep dp f.ty ≤ B) → l.foldl (gF dp) m ≤ B := by
    intro l
    induction l with
    | nil => exact fun m hm _ => hm
    | cons f l ih => exact fun m hm h => ih _ (by have := h f List.mem_cons_self; show max m (fdep dp f.ty) ≤ B; omega) fun g hg => h g (List.mem_cons_of_mem _ hg)
  exact key l 0 hB h
theorem maxF_nonneg (dp : ByteArray → Int) (l : List Fl) : 0 ≤ maxF dp l := gF_le dp l 0
theorem maxF_ge {dp : ByteArray → Int} {l : List Fl} {f : Fl} (h : f ∈ l) : fdep dp f.ty ≤ maxF dp l := by
  have key : ∀ (l : List Fl) (m : Int), f ∈ l → fdep dp f.ty ≤ l.foldl (gF dp) m := by
    intro l
    induction l with
    | nil => exact fun m h => by cases h
    | cons g l ih =>
      intro m h
      rcases List.mem_cons.1 h with rfl | h
      · refine Int.le_trans ?_ (gF_le dp l (max m (fdep dp f.ty)))
        omega
      · exact ih _ h
  exact key l 0 h
theorem maxF_congr {dp dq : ByteArray → Int} {l : List Fl} (h : ∀ f ∈ l, fdep dp f.ty = fdep dq f.ty) : maxF dp l = maxF dq l := by
  have key : ∀ (l : List Fl) (m : Int), (∀ f ∈ l, fdep dp f.ty = fdep dq f.ty) → l.foldl (gF dp) m = l.foldl (gF dq) m := by
    intro l
    induction l with
    | nil => exact fun _ _ => rfl
    | cons f l ih => exact fun m h => by rw [List.foldl_cons, List.foldl_cons, gF, h f List.mem_cons_self]; exact ih _ fun g hg => h g (List.mem_cons_of_mem _ hg)
  exact key l 0 h
def dK : Nat := 99
def dD (ss : List St) (n : ByteArray) : Int := dN ss (dK + 1) n
theorem dN_succ (ss : List St) (N : Nat) (n : ByteArray) : dN ss (N + 1) n = maxF (dN ss N) ((fS ss n).getD default).fs + 1 := rfl
theorem dK_eq : dK = 99 := rfl
theorem dD_def (ss : List St) (n : ByteArray) : dD ss n = dN ss (dK + 1) n := rfl
attribute [irreducible] dK
theorem dN_pos (ss : List St) : ∀ (N : Nat) (n : ByteArray), 1 ≤ dN ss N n
  | 0, _ => Int.le_refl _
  | N + 1, n => by have := maxF_nonneg (dN ss N) ((fS ss n).getD default).fs; rw [dN]; omega
theorem dN_hi {ss : List St} {es : List En} (g : Gd ss es) : ∀ (N : Nat) (n : ByteArray), dN ss N n ≤ 1 + N * 1000000001
  | 0, _ => by rw [dN]; omega
  | N + 1, n => by
    have : maxF (dN ss N) ((fS ss n).getD default).fs ≤ 1000000001 + N * 1000000001 := by
      refine maxF_le (by omega) fun f hf => ?_
      cases hs : fS ss n with
      | none => rw [hs] at hf; cases hf
      | some t =>
        rw [hs] at hf
        have h1 := g.lv t (fS_mem hs).1 f hf
        have h2 := dN_hi g N (lvT f.ty).2.n
        unfold fdep
        cases (lvT f.ty).2.k == 6 <;> simp only [Bool.cond_true, Bool.cond_false] <;> omega
    rw [dN]; omega
theorem str_ref {ss : List St} {es : List En} (g : Gd ss es) {n : ByteArray} {t : St} (hs : fS ss n = some t) {f : Fl} (hf : f ∈ t.fs) (hk : ((lvT f.ty).2.k == 6) = true) : isRef ss n (lvT f.ty).2.n ∧ ∃ u, fS ss (lvT f.ty).2.n = some u := by
  obtain ⟨h1, h2, h3, _⟩ := val_str (g.val t (fS_mem hs).1 f hf) hk
  refine ⟨⟨f, by rw [hs]; exact hf, h1, h2⟩, ?_⟩
  rw [← fS_has] at h3
  exact Option.isSome_iff_exists.1 h3
theorem dN_stable {ss : List St} {es : List En} (g : Gd ss es) (ha : Acy ss) : ∀ (N : Nat) (n : ByteArray), rank ss n < N → dN ss (N + 1) n = dN ss N n
  | 0, _, h => absurd h (Nat.not_lt_zero _)
  | N + 1, n, h => by
    rw [dN, dN]
    congr 1
    refine maxF_congr fun f hf => ?_
    cases hs : fS ss n with
    | none => rw [hs] at hf; cases hf
    | some t =>
      rw [hs] at hf
      unfold fdep
      cases hk : (lvT f.ty).2.k == 6 with
      | false => rfl
      | true =>
        obtain ⟨h1, u, h2⟩ := str_ref g hs hf hk
        have := rank_lt h1 h2 ha
        rw [dN_stable g ha N _ (by omega)]
theorem dD_lo (ss : List St) (n : ByteArray) : 0 ≤ dD ss n := Int.le_trans (by decide) (dN_pos ss (dK + 1) n)
theorem dD_hi {ss : List St} {es : List En} (g : Gd ss es) (n : ByteArray) : dD ss n ≤ 1000000000000 := by
  refine Int.le_trans (dN_hi g (dK + 1) n) ?_
  have := dK_eq
  generalize dK = k at *
  subst this
  decide
theorem dD_fd {ss : List St} {es : List En} (g : Gd ss es) (ha : Acy ss) (f : Fl) : fdep (dN ss dK) f.ty = fdep (dD ss) f.ty := by
  have h2 := rank_le ss (lvT f.ty).2.n
  have h3 := g.n
  have h4 := dK_eq
  have h5 := dN_stable g ha dK (lvT f.ty).2.n (by omega)
  unfold fdep
  rw [dD_def, h5]
theorem dD_eq {ss : List St} {es : List En} (g : Gd ss es) (ha : Acy ss) {n : ByteArray} {t : St} (hs : fS ss n = some t) : dD ss n = maxF (dD ss) t.fs + 1 := by
  have h1 := dN_succ ss dK n
  have h2 : maxF (dN ss dK) t.fs = maxF (dD ss) t.fs := maxF_congr fun f _ => dD_fd g ha f
  rw [hs, Option.getD_some, h2] at h1
  rw [dD_def]
  exact h1
theorem Gd.dp {ss : List St} {es : List En} (g : Gd ss es) (ha : Acy ss) : Dp ss (dD ss) (rank ss) := by
  refine ⟨g.ok, fun n t hs => dD_eq g ha hs, dD_lo ss, dD_hi g, fun n t hs f hf => (val_lv ss es _ _ (Nat.le_refl _) (g.val t (fS_mem hs).1 f hf)).1, fun n t hs f hf hk => ?_⟩
  obtain ⟨h1, u, h2⟩ := str_ref g hs hf hk
  exact ⟨u, h2, rank_lt h1 h2 ha⟩
end Go.Proofs.Ytpfmkfafagiicaa
/- checkNesting. -/
namespace Go.Proofs.Ytpfmkfafagiicaa
open Go.W
def nestF (ss : List St) : Int := bif ss.any (fun t => inB (usesF ss t.nm) t.nm) then 19 else bif ss.any (fun t => decide (6 < dD ss t.nm)) then 9 else 0
def neSp : W.Spec := fun av H K => ∃ (s : Sc) (ks : List Value) (vs : List St) (ks' : List Value) (vs' : List En), av = [.va (.gs (scC s)), ixV] ∧ H = ixH ks vs ks' vs' ∧
  IxS ks vs s.ss ∧ Gd s.ss s.es ∧ s.ok ∧ K (iS .i64 (nestF s.ss)) (ixH ks vs ks' vs')
theorem ne_use {s : Sc} {ks : List Value} {vs : List St} {ks' : List Value} {vs' : List En} {K : S → Hp → Prop} (h1 : IxS ks vs s.ss) (h2 : Gd s.ss s.es) (h3 : s.ok) (hK : K (iS .i64 (nestF s.ss)) (ixH ks vs ks' vs')) :
    neSp [.va (.gs (scC s)), ixV] (ixH ks vs ks' vs') K := ⟨s, ks, vs, ks', vs', rfl, rfl, h1, h2, h3, hK⟩
theorem any_false {α : Type} {l : List α} {p : α → Bool} (h : l.any p = false) : ∀ x ∈ l, p x = false := fun x hx => by
  rw [List.any_eq_false] at h; simpa using h x hx
set_option maxRecDepth 100000 in
theorem mNesting : Meets Try.prog 43 neSp := by
  refine meets_fn Try.func43 ok43 2 (by rw [Try.ntmps43]; decide) (meetsAll_s mUses (meetsAll_f mContainsS (meetsAll_s mDepth (meetsAll_nil _)))) (fun av H K h => by obtain ⟨_, _, _, _, _, rfl, _⟩ := h; rfl) ?_
  rintro av H K ⟨s, ks, vs, ks', vs', rfl, rfl, h1, hg, hs, hK⟩
  have fin : ∀ (x : Int) (R : Hp), nestF s.ss = x → W.Fin 2 K (iS .i64 x) (.map .string ks (vs.map stA) :: .map .string ks' (vs'.map enA) :: R) := fun x R h => by
    rw [h] at hK
    exact .sel [0, 1] (by simp) (by simp) rfl (.done (by simp -dsimp only [go_sem]; simpa using hK))
  obtain ⟨_, _, hls, _, hss⟩ := hs
  simp -dsimp only [go_sem, scC, pc43, rs43]
  refine vc_loop (α := Nat) (fun i => [(2, .va (.c1 (.pt 2 0))), (3, .va (.c1 (.pt 3 0))), (10, .va (.c1 (.fz (s.ss.map stC)))), (11, iS .i64 s.ss.length), (12, iS .i64 i)]) (fun _ => [.map .string ks (vs.map stA), .map .string ks' (vs'.map enA), .cells (scC s) 25, .cells [.mp 0, .mp 1] 69])
    (fun i => i ≤ s.ss.length ∧ (s.ss.drop i).any (fun t => inB (usesF s.ss t.nm) t.nm) = s.ss.any (fun t => inB (usesF s.ss t.nm) t.nm)) (fun i => s.ss.length - i) 0 4 ⟨Nat.zero_le _, rfl⟩ ?_ ?_ ?_
  · simp -dsimp only [go_sem] <;> simp
  · simp -dsimp only [go_sem, scC] <;> simp
  rintro i ⟨hi, ho⟩
  rcases Nat.lt_or_ge i s.ss.length with hlt | hge
  · have hgi : decide ((i : Int) < (s.ss.length : Int)) = true := by simp; omega
    obtain ⟨t, hx⟩ : ∃ t, s.ss[i]? = some t := ⟨_, List.getElem?_eq_getElem hlt⟩
    have q1 := row_rg' (row := stC) hx
    rw [any_step hx] at ho
    have hv := hg.vlen t.nm
    have hbs : isBs ((usesF s.ss t.nm).map stR) := isBs_mk (by rw [usesF_len]; omega)
    simp (maxSteps := 1000000) -dsimp only [go_sem, hgi, ↓q1, stC, scC]
    refine ⟨by omega, us_use h1 hss (by omega) ?_⟩
    simp (maxSteps := 1000000) -dsimp only [go_sem, hbs]
    cases hc : inB (usesF s.ss t.nm) t.nm with
    | true =>
      rw [hc, Bool.true_or] at ho
      simp -dsimp only [go_sem]
      exact fin 19 _ (by unfold nestF; rw [← ho]; rfl)
    | false =>
      rw [hc, Bool.false_or] at ho
      simp -dsimp only [go_sem]
      refine ⟨by omega, loop_next (i + 1) 4 ⟨by omega, ho⟩ (by omega) ?_ ?_⟩
      · simp -dsimp only [go_sem] <;> simp
      · simp -dsimp only [go_sem, scC] <;> simp
  · have hgi : decide ((i : Int) < (s.ss.length : Int)) = false := by simp; omega
    obtain rfl : i = s.ss.length := by omega
    rw [any_end] at ho
    have ha : Acy s.ss := fun t ht => any_false ho.symm t ht
    have hD := hg.dp ha
    have hF : nestF s.ss = bif s.ss.any (fun t => decide (6 < dD s.ss t.nm)) then 9 else 0 := by unfold nestF; rw [← ho]; rfl
    simp -dsimp only [go_sem, hgi, scC]
    refine vc_loop (α := Nat) (fun i => [(3, .va (.c1 (.pt 3 0))), (25, .va (.c1 (.fz (s.ss.map stC)))), (26, iS .i64 s.ss.length), (27, iS .i64 i)]) (fun _ => [.map .string ks (vs.map stA), .map .string ks' (vs'.map enA), .cells (scC s) 25, .cells [.mp 0, .mp 1] 69])
      (fun i => i ≤ s.ss.length ∧ (s.ss.drop i).any (fun t => decide (6 < dD s.ss t.nm)) = s.ss.any (fun t => decide (6 < dD s.ss t.nm))) (fun i => s.ss.length - i) 0 4 ⟨Nat.zero_le _, rfl⟩ ?_ ?_ ?_
    · simp -dsimp only [go_sem] <;> simp
    · simp -dsimp only [go_sem, scC] <;> simp
    clear ho
    rintro i ⟨hi, ho⟩
    rcases Nat.lt_or_ge i s.ss.length with hlt | hge
    · have hgi : decide ((i : Int) < (s.ss.length : Int)) = true := by simp; omega
      obtain ⟨t, hx⟩ : ∃ t, s.ss[i]? = some t := ⟨_, List.getElem?_eq_getElem hlt⟩
      have q1 := row_rg' (row := stC) hx
      rw [any_step hx] at ho
      have hnd := hg.nd t (List.mem_of_getElem? hx)
      simp (maxSteps := 1000000) -dsimp only [go_sem, hgi, ↓q1, stC, scC]
      refine ⟨by omega, dp_use h1 hD hnd ?_⟩
      simp (maxSteps := 1000000) -dsimp only [go_sem]
      cases hc : decide (6 < dD s.ss t.nm) with
      | true =>
        rw [hc, Bool.true_or] at ho
        simp -dsimp only [go_sem]
        exact fin 9 _ (by rw [hF, ← ho]; rfl)
      | false =>
        rw [hc, Bool.false_or] at ho
        simp -dsimp only [go_sem]
        refine ⟨by omega, loop_next (i + 1) 4 ⟨by omega, ho⟩ (by omega) ?_ ?_⟩
        · simp -dsimp only [go_sem] <;> simp
        · simp -dsimp only [go_sem, scC] <;> simp
    · have hgi : decide ((i : Int) < (s.ss.length : Int)) = false := by simp; omega
      obtain rfl : i = s.ss.length := by omega
      rw [any_end] at ho
      simp -dsimp only [go_sem, hgi, scC]
      exact fin 0 _ (by rw [hF, ← ho]; rfl)
end Go.Proofs.Ytpfmkfafagiicaa
/- What Check answers, and what a schema without a first error is. -/
namespace Go.Proofs.Ytpfmkfafagiicaa
open Go.W
def enAt (s : Sc) (i : Nat) : Int := match s.es[i]? with
  | some e => bif !(tnB (bl e.nm)) then 5 else bif hasE (s.es.take i) e.nm then 7 else ceF e
  | none => 0
def stAt (s : Sc) (i : Nat) : Int := match s.ss[i]? with
  | some t => bif cnF s i t.nm != 0 then cnF s i t.nm else cfF s.ss s.es t
  | none => 0
def enF (s : Sc) : Int := fE (enAt s) (s.es.length - 0) 0
def stF (s : Sc) : Int := fE (stAt s) (s.ss.length - 0) 0
def checkF (s : Sc) : Int := bif decide (s.ver < 1) || decide (999 < s.ver) then 4 else bif largeF s then 3 else bif enF s != 0 then enF s else bif stF s != 0 then stF s else nestF s.ss
/-- Types whose lists of elements are not too long. -/
inductive TySm : Ty → Prop
  | mk {k s : Int} {n : ByteArray} {e : List Ty} : e.length ≤ 1000000000 → (∀ t ∈ e, TySm t) → TySm (.mk k s n e)
structure Sc.fit (s : Sc) : Prop where
  ok : s.ok
  lv : ∀ t ∈ s.ss, ∀ f ∈ t.fs, (lvT f.ty).1 ≤ 1000000000
  sm : ∀ t ∈ s.ss, t.fs.length ≤ 1000000000 ∧ ∀ f ∈ t.fs, TySm f.ty
  en : ∀ e ∈ s.es, e.ns.length ≤ 1000000000 ∧ e.vs.length ≤ 1000000000
theorem fE_all {f : Nat → Int} {m : Nat} : ∀ (k i : Nat), i + k = m → fE f (m - i) i = 0 → ∀ j, i ≤ j → j < m → f j = 0
  | 0, i, h, _ => fun j h1 h2 => by omega
  | k + 1, i, h, h0 => fun j h1 h2 => by
    have hi : i < m := by omega
    by_cases e : f i = 0
    · rw [fE_ok hi e] at h0
      rcases Nat.lt_or_ge i j with h3 | h3
      · exact fE_all k (i + 1) (by omega) h0 j h3 h2
      · obtain rfl : i = j := by omega
        exact e
    · rw [fE_err hi e] at h0; exact absurd h0 e
theorem fE_zero {f : Nat → Int} {m : Nat} (h : fE f (m - 0) 0 = 0) : ∀ j, j < m → f j = 0 := fun j hj => fE_all m 0 (by omega) h j (Nat.zero_le _) hj
theorem fS_first {ss : List St} {i : Nat} {t : St} (hx : ss[i]? = some t) (h : hasS (ss.take i) t.nm = false) : fS ss t.nm = some t := by
  obtain ⟨hl, ht⟩ := List.getElem?_eq_some_iff.1 hx
  have h1 : (ss.take i).find? (fun s => decide (s.nm = t.nm)) = none := by
    rw [List.find?_eq_none]
    intro x hx
    have := any_false h x hx
    simpa using this
  have h2 : ss = ss.take i ++ (t :: ss.drop (i + 1)) := by rw [← ht, ← List.drop_eq_getElem_cons hl, List.take_append_drop]
  unfold fS
  rw [h2, List.find?_append, h1]
  simp
theorem fEn_first {ss : List En} {i : Nat} {t : En} (hx : ss[i]? = some t) (h : hasE (ss.take i) t.nm = false) : fEn ss t.nm = some t := by
  obtain ⟨hl, ht⟩ := List.getElem?_eq_some_iff.1 hx
  have h1 : (ss.take i).find? (fun s => decide (s.nm = t.nm)) = none := by
    rw [List.find?_eq_none]
    intro x hx
    have := any_false h x hx
    simpa using this
  have h2 : ss = ss.take i ++ (t :: ss.drop (i + 1)) := by rw [← ht, ← List.drop_eq_getElem_cons hl, List.take_append_drop]
  unfold fEn
  rw [h2, List.find?_append, h1]
  simp
theorem cf_zero {ss : List St} {es : List En} {t : St} (h : cfF ss es t = 0) : ∀ f ∈ t.fs, (1 ≤ f.num ∧ f.num ≤ 127) ∧ isNm (bl f.nm) = true ∧ valF ss es f.ty = true := fun f hf => by
  obtain ⟨i, hi⟩ := List.mem_iff_getElem?.1 hf
  have := fE_zero h i (List.getElem?_eq_some_iff.1 hi).1
  unfold cfAt at this
  rw [hi] at this
  simp only at this
  cases c1 : decide (f.num < 1) || decide (127 < f.num) with
  | true => rw [c1] at this; simp at this
  | false =>
  rw [c1] at this
  simp only [Bool.cond_false] at this
  revert this
  generalize (decide (0 < (i : Int)) && (match t.fs[i - 1]? with | some g => decide (f.num ≤ g.num) | none => false)) = b
  intro this
  cases b with
  | true => simp at this
  | false =>
  simp only [Bool.cond_false] at this
  simp only [Bool.or_eq_false_iff, decide_eq_false_iff_not] at c1
  refine ⟨by omega, ?_⟩
  cases c2 : isNm (bl f.nm) with
  | false => rw [c2] at this; simp at this
  | true =>
  rw [c2] at this
  cases c3 : (t.fs.take i).any (fun g => decide (g.nm = f.nm)) with
  | true => rw [c3] at this; simp at this
  | false =>
  rw [c3] at this
  cases c4 : valF ss es f.ty with
  | false => rw [c4] at this; simp at this
  | true => exact ⟨rfl, rfl⟩
theorem cn_zero {s : Sc} {i : Nat} {n : ByteArray} (h : cnF s i n = 0) : tnB (bl n) = true ∧ hasE s.es n = false ∧ hasS (s.ss.take i) n = false := by
  unfold cnF at h
  cases c1 : tnB (bl n) with
  | false => rw [c1] at h; simp at h
  | true =>
  rw [c1] at h
  cases c2 : hasE s.es n with
  | true => rw [c2] at h; simp at h
  | false =>
  rw [c2] at h
  cases c3 : hasS (s.ss.take i) n with
  | true => rw [c3] at h; simp at h
  | false => exact ⟨rfl, rfl, rfl⟩
theorem st_zero {s : Sc} {i : Nat} {t : St} (hx : s.ss[i]? = some t) (h : stAt s i = 0) : cnF s i t.nm = 0 ∧ cfF s.ss s.es t = 0 := by
  unfold stAt at h
  rw [hx] at h
  simp only at h
  by_cases e : cnF s i t.nm = 0
  · rw [e] at h; exact ⟨e, by simpa using h⟩
  · rw [show (cnF s i t.nm != 0) = true by simpa using e] at h
    exact absurd h e
theorem en_zero {s : Sc} {i : Nat} {t : En} (hx : s.es[i]? = some t) (h : enAt s i = 0) : tnB (bl t.nm) = true ∧ hasE (s.es.take i) t.nm = false ∧ ceF t = 0 := by
  unfold enAt at h
  rw [hx] at h
  simp only at h
  cases c1 : tnB (bl t.nm) with
  | false => rw [c1] at h; simp at h
  | true =>
  rw [c1] at h
  cases c2 : hasE (s.es.take i) t.nm with
  | true => rw [c2] at h; simp at h
  | false =>
  rw [c2] at h
  exact ⟨rfl, rfl, by simpa using h⟩
theorem large_false {s : Sc} (h : largeF s = false) : s.es.length ≤ 16 ∧ s.es.length + s.ss.length ≤ 16 ∧ (∀ e ∈ s.es, e.ns.length ≤ 16) ∧ ∀ t ∈ s.ss, t.fs.length ≤ 16 := by
  unfold largeF at h
  simp only [Bool.or_eq_false_iff, decide_eq_false_iff_not] at h
  obtain ⟨⟨⟨h1, h2⟩, h3⟩, h4⟩ := h
  refine ⟨by omega, by omega, fun e he => ?_, fun t ht => ?_⟩
  · have := any_false h3 e he; simp at this; exact this
  · have := any_false h4 t ht; simp at this; exact this
theorem good_of {s : Sc} (hf : s.fit) (h1 : largeF s = false) (h2 : stF s = 0) : Gd s.ss s.es := by
  obtain ⟨l1, l2, l3, l4⟩ := large_false h1
  have key : ∀ t ∈ s.ss, ∃ i, s.ss[i]? = some t ∧ cnF s i t.nm = 0 ∧ cfF s.ss s.es t = 0 := fun t ht => by
    obtain ⟨i, hi⟩ := List.mem_iff_getElem?.1 ht
    exact ⟨i, hi, st_zero hi (fE_zero h2 i (List.getElem?_eq_some_iff.1 hi).1)⟩
  refine ⟨hf.ok.ss, by omega, by omega, fun t ht f hm => ?_, hf.lv, fun t ht => ?_⟩
  · obtain ⟨i, hi, c1, c2⟩ := key t ht
    exact (cf_zero c2 f hm).2.2
  · obtain ⟨i, hi, c1, c2⟩ := key t ht
    exact fS_first hi (cn_zero c1).2.2
end Go.Proofs.Ytpfmkfafagiicaa
/- Check. -/
namespace Go.Proofs.Ytpfmkfafagiicaa
open Go.W
def isScF (r : List C) : Prop := ∃ s : Sc, r = scC s ∧ s.fit
theorem isScF_mk {s : Sc} (h : s.fit) : isScF (scC s) := ⟨s, rfl, h⟩
noncomputable def ckFn : Fun := gFn isScF C.sc fun s => .int .i64 (checkF s)
attribute [go_sem] ckFn
theorem cond_err {a b : Int} (h : a ≠ 0) : (bif a != 0 then a else b) = a := by rw [bne, beq_eq_false_iff_ne.2 h]; rfl
theorem cond_ok {a b : Int} (h : a = 0) : (bif a != 0 then a else b) = b := by rw [h]; rfl
set_option maxRecDepth 100000 in
set_option maxHeartbeats 2000000 in
theorem mCheck : Meets Try.prog 12 ckFn.sp := by
  refine meets_fn Try.func12 ok12 1 (by rw [Try.ntmps12]; decide) (meetsAll_f mLarge (meetsAll_f mTypeName (meetsAll_f mCheckEnum (meetsAll_s mIndexOf (meetsAll_f mCheckName (meetsAll_s mCheckFields (meetsAll_s mNesting (meetsAll_nil _)))))))) gFn_len ?_
  rintro av H K ⟨⟨h, rfl⟩, hK⟩
  obtain ⟨_, rfl, s, rfl, hs⟩ := gPre_open h
  have hK : K (iS .i64 (checkF s)) [] := by
    have : ckFn.val [.va (.gs (scC s))] = iA .i64 (checkF s) := by simp -dsimp only [go_sem]
    rw [this] at hK; exact hK
  clear h
  have hfit := hs
  have hsc : isSc (scC s) := isSc_mk hs.ok
  obtain ⟨⟨hv, hle, hls, hes, hss⟩, hlv, _, _⟩ := hs
  have fin : ∀ (x : Int) (R : Hp), checkF s = x → W.Fin 0 K (iS .i64 x) R := fun x R h1 => by
    rw [h1] at hK
    exact .sel [] (by simp) (by simp) rfl (.done (by simpa [go_sem] using hK))
  have hsc' := hsc
  simp only [scC] at hsc'
  have hdec : C.sc [.vl (.int .i64 s.ver), .fz (s.es.map enC), .fz (s.ss.map stC)] = s := sc_dec s
  simp (maxSteps := 1000000) -dsimp only [go_sem, scC, pc12, rs12, hsc', hdec]
  refine ⟨fun h1 => fin 4 _ (by unfold checkF; rw [h1]; rfl), fun c1 => ⟨fun h1 => fin 3 _ (by unfold checkF; rw [c1, h1]; rfl), fun c2 => ?_⟩⟩
  have hF : checkF s = bif enF s != 0 then enF s else bif stF s != 0 then stF s else nestF s.ss := by unfold checkF; rw [c1, c2]; rfl
  refine vc_loop (α := Nat) (fun i => [(1, .va (.c1 (.pt 0 0))), (24, .va (.c1 (.fz (s.es.map enC)))), (25, iS .i64 s.es.length), (26, iS .i64 i)]) (fun _ => [.cells (scC s) 25])
    (fun i => i ≤ s.es.length ∧ fE (enAt s) (s.es.length - i) i = enF s) (fun i => s.es.length - i) 0 1 ⟨Nat.zero_le _, rfl⟩ ?_ ?_ ?_
  · simp -dsimp only [go_sem] <;> simp
  · simp -dsimp only [go_sem, scC] <;> simp
  rintro i ⟨hi, ho⟩
  rcases Nat.lt_or_ge i s.es.length with hlt | hge
  · have hg : decide ((i : Int) < (s.es.length : Int)) = true := by simp; omega
    obtain ⟨e, hx⟩ : ∃ e, s.es[i]? = some e := ⟨_, List.getElem?_eq_getElem hlt⟩
    have q1 := row_rg' (row := enC) hx
    have he : e.ok := hes e (List.mem_of_getElem? hx)
    have hie : isEn (enC e) := isEn_mk he
    have hie' := hie
    simp only [enC] at hie'
    have hed : C.en [.vl (.string e.nm), .fz (e.ns.map stR), .fz (e.vs.map inR)] = e := en_dec e
    have hA : enAt s i = bif !(tnB (bl e.nm)) then 5 else bif hasE (s.es.take i) e.nm then 7 else ceF e := by unfold enAt; rw [hx]
    have fin' : ∀ (x : Int) (R : Hp), enAt s i = x → x ≠ 0 → W.Fin 0 K (iS .i64 x) R := fun x R h1 h2 => fin x R (by
      rw [hF, ← ho, fE_err hlt (by rw [h1]; exact h2), h1]; exact cond_err h2)
    have nxt : enAt s i = 0 → fE (enAt s) (s.es.length - (i + 1)) (i + 1) = enF s := fun h1 => by rw [← ho, fE_ok hlt h1]
    simp (maxSteps := 1000000) -dsimp only [go_sem, hg, ↓q1, enC, scC]
    refine ⟨by omega, fun h1 => fin' 5 _ (by rw [hA, h1]; rfl) (by decide), fun c3 => ?_⟩
    rw [c3] at hA
    simp only [Bool.cond_false] at hA
    have hlj := len_take s.es i
    simp -dsimp only [all_rows enC_len]
    refine ⟨by simp; omega, ?_⟩
    generalize hm : s.es.take i = m at *
    refine vc_loop (α := Nat) (fun j => [(1, .va (.c1 (.pt 0 0))), (4, .va (.c1 (.pt 1 0))), (24, .va (.c1 (.fz (s.es.map enC)))), (25, iS .i64 s.es.length), (26, iS .i64 i), (38, .va (.c1 (.fz (m.map enC)))), (39, iS .i64 m.length), (40, iS .i64 j)]) (fun _ => [.cells (scC s) 25, .cells (enC e) 47])
      (fun j => j ≤ m.length ∧ hasE (m.drop j) e.nm = hasE m e.nm) (fun j => m.length - j) 0 2 ⟨Nat.zero_le _, rfl⟩ ?_ ?_ ?_
    · simp -dsimp only [go_sem] <;> simp
      rw [← hm]; exact ⟨List.map_take.symm, by simp⟩
    · simp -dsimp only [go_sem, scC, enC] <;> simp
    rintro j ⟨hj, ho2⟩
    rcases Nat.lt_or_ge j m.length with hjt | hjg
    · have hgj : decide ((j : Int) < (m.length : Int)) = true := by simp; omega
      obtain ⟨d, hd⟩ : ∃ e, m[j]? = some e := ⟨_, List.getElem?_eq_getElem hjt⟩
      have q5 := row_rg' (row := enC) hd
      rw [hasE, any_step hd] at ho2
      simp (maxSteps := 1000000) -dsimp only [go_sem, hgj, ↓q5, enC, scC, bl_beq]
      and_intros
      all_goals first
        | omega
        | skip
      · intro hc
        rw [hc, Bool.true_or] at ho2
        exact fin' 7 _ (by rw [hA, ← ho2]; rfl) (by decide)
      · intro hc
        rw [hc, Bool.false_or] at ho2
        refine ⟨by omega, loop_next (j + 1) 2 ⟨by omega, ho2⟩ (by omega) ?_ ?_⟩
        · simp -dsimp only [go_sem] <;> simp
        · simp -dsimp only [go_sem, scC, enC] <;> simp
    · have hgj : decide ((j : Int) < (m.length : Int)) = false := by simp; omega
      obtain rfl : j = m.length := by omega
      rw [hasE, any_end] at ho2
      rw [← ho2] at hA
      simp only [Bool.cond_false] at hA
      simp (maxSteps := 1000000) -dsimp only [go_sem, hgj, enC, scC, hie', hed]
      refine ⟨fun h1 => fin' _ _ hA (by simpa using h1), fun h1 => ?_⟩
      refine ⟨by omega, loop_next (i + 1) 1 ⟨by omega, nxt (by rw [hA]; simpa using h1)⟩ (by omega) ?_ ?_⟩
      · simp -dsimp only [go_sem] <;> simp
      · simp -dsimp only [go_sem, scC] <;> simp
  · have hg : decide ((i : Int) < (s.es.length : Int)) = false := by simp; omega
    obtain rfl : i = s.es.length := by omega
    rw [fE_end] at ho
    rw [cond_ok ho.symm] at hF
    simp (maxSteps := 1000000) -dsimp only [go_sem, hg, scC]
    refine io_use hfit.ok fun ks vs ks' vs' x1 x2 => ?_
    simp (maxSteps := 1000000) -dsimp only [go_sem]
    clear hi hge hg
    refine vc_loop (α := Nat) (fun i => [(1, .va (.c1 (.pt 0 0))), (8, .va (.c1 (.pt 3 0))), (59, .va (.c1 (.fz (s.ss.map stC)))), (60, iS .i64 s.ss.length), (61, iS .i64 i)]) (fun _ => [.cells (scC s) 25, .map .string ks (vs.map stA), .map .string ks' (vs'.map enA), .cells [.mp 1, .mp 2] 69])
      (fun i => i ≤ s.ss.length ∧ fE (stAt s) (s.ss.length - i) i = stF s) (fun i => s.ss.length - i) 0 4 ⟨Nat.zero_le _, rfl⟩ ?_ ?_ ?_
    · simp -dsimp only [go_sem] <;> simp
    · simp -dsimp only [go_sem, scC] <;> simp
    clear ho
    rintro i ⟨hi, ho⟩
    rcases Nat.lt_or_ge i s.ss.length with hlt | hge
    · have hg : decide ((i : Int) < (s.ss.length : Int)) = true := by simp; omega
      obtain ⟨t, hx⟩ : ∃ e, s.ss[i]? = some e := ⟨_, List.getElem?_eq_getElem hlt⟩
      have q1 := row_rg' (row := stC) hx
      have ht : t.ok := hss t (List.mem_of_getElem? hx)
      have hA : stAt s i = bif cnF s i t.nm != 0 then cnF s i t.nm else cfF s.ss s.es t := by unfold stAt; rw [hx]
      have fin' : ∀ (x : Int) (R : Hp), stAt s i = x → x ≠ 0 → W.Fin 0 K (iS .i64 x) R := fun x R h1 h2 => fin x R (by
        rw [hF, ← ho, fE_err hlt (by rw [h1]; exact h2), h1]; exact cond_err h2)
      have nxt : stAt s i = 0 → fE (stAt s) (s.ss.length - (i + 1)) (i + 1) = stF s := fun h1 => by rw [← ho, fE_ok hlt h1]
      have q0 : decide (0 ≤ (i : Int)) = true := by simp
      simp (maxSteps := 1000000) -dsimp only [go_sem, hg, ↓q1, stC, scC, hsc', hdec, Int.toNat_natCast]
      refine ⟨by omega, ⟨by omega, by omega⟩, fun h1 => fin' _ _ (by rw [hA]; exact cond_err (by simpa using h1)) (by simpa using h1), fun h1 => ?_⟩
      have h1 : cnF s i t.nm = 0 := by simpa using h1
      rw [cond_ok h1] at hA
      refine cf_use x1 x2 ht ?_
      simp (maxSteps := 1000000) -dsimp only [go_sem]
      refine ⟨fun h1 => fin' _ _ hA (by simpa using h1), fun h1 => ?_⟩
      refine ⟨by omega, loop_next (i + 1) 4 ⟨by omega, nxt (by rw [hA]; simpa using h1)⟩ (by omega) ?_ ?_⟩
      · simp -dsimp only [go_sem] <;> simp
      · simp -dsimp only [go_sem, scC] <;> simp
    · have hg : decide ((i : Int) < (s.ss.length : Int)) = false := by simp; omega
      obtain rfl : i = s.ss.length := by omega
      rw [fE_end] at ho
      rw [cond_ok ho.symm] at hF
      simp (maxSteps := 1000000) -dsimp only [go_sem, hg, scC]
      refine ne_use x1 (good_of hfit c2 ho.symm) hfit.ok ?_
      simp (maxSteps := 1000000) -dsimp only [go_sem]
      exact fin _ _ hF
end Go.Proofs.Ytpfmkfafagiicaa
/- found, Depth, Uses. -/
namespace Go.Proofs.Ytpfmkfafagiicaa
open Go.W
def faSp : W.Spec := fun av H K => ∃ (s : Sc) (n : ByteArray), av = [.va (.gs (scC s)), tS n] ∧ H = [] ∧ s.fit ∧ (checkF s ≠ 0 → K (.tu [.gs [.vl (.map none), .vl (.map none)], bA false]) []) ∧
  (checkF s = 0 → ∀ ks vs ks' vs', IxS ks vs s.ss → IxE ks' vs' s.es → K (.tu [.gs [.mp 0, .mp 1], bA (hasS s.ss n)]) (ixH ks vs ks' vs'))
theorem fa_use {s : Sc} {n : ByteArray} {K : S → Hp → Prop} (h : s.fit) (h1 : checkF s ≠ 0 → K (.tu [.gs [.vl (.map none), .vl (.map none)], bA false]) []) (h2 : checkF s = 0 → ∀ ks vs ks' vs', IxS ks vs s.ss → IxE ks' vs' s.es → K (.tu [.gs [.mp 0, .mp 1], bA (hasS s.ss n)]) (ixH ks vs ks' vs')) :
    faSp [.va (.gs (scC s)), tS n] [] K := ⟨s, n, rfl, rfl, h, h1, h2⟩
set_option maxRecDepth 100000 in
theorem mFound : Meets Try.prog 50 faSp := by
  refine meets_fn Try.func50 ok50 2 (by rw [Try.ntmps50]; decide) (meetsAll_f mCheck (meetsAll_s mIndexOf (meetsAll_nil _))) (fun av H K h => by obtain ⟨_, _, rfl, _⟩ := h; rfl) ?_
  rintro av H K ⟨s, n, rfl, rfl, hs, k1, k2⟩
  have hsc := isScF_mk hs
  simp only [scC] at hsc
  have hdec : C.sc [.vl (.int .i64 s.ver), .fz (s.es.map enC), .fz (s.ss.map stC)] = s := sc_dec s
  simp (maxSteps := 1000000) -dsimp only [go_sem, scC, pc50, rs50, hsc, hdec]
  refine ⟨fun h => ?_, fun h => ?_⟩
  · exact .sel [] (by simp) (by simp) rfl (.done (by simp -dsimp only [go_sem]; exact k1 (by simpa using h)))
  · refine io_use hs.ok fun ks vs ks' vs' x1 x2 => ?_
    have hx := x1 n
    have k2 := k2 (by simpa using h) ks vs ks' vs' x1 x2
    cases hf : fS s.ss n with
    | none =>
      rw [hf] at hx
      simp only [Option.map_none] at hx
      rw [← fS_has, hf] at k2
      simp (maxSteps := 1000000) -dsimp only [go_sem, hx]
      exact .sel [2, 3] (by simp) (by simp) rfl (.done (by simp -dsimp only [go_sem]; exact k2))
    | some t =>
      rw [hf] at hx
      simp only [Option.map_some] at hx
      rw [← fS_has, hf] at k2
      simp (maxSteps := 1000000) -dsimp only [go_sem, hx, stC]
      exact .sel [2, 3] (by simp) (by simp) rfl (.done (by simp -dsimp only [go_sem]; exact k2))
def snPre (p : List C → Prop) : List S → Prop := fun av => match av with
  | [.va (.gs r), .va (.c1 (.vl (.string _)))] => p r
  | _ => False
theorem snPre_open {p : List C → Prop} {av : List S} (h : snPre p av) : ∃ r n, av = [.va (.gs r), tS n] ∧ p r := by
  unfold snPre at h
  split at h
  · exact ⟨_, _, rfl, h⟩
  · exact h.elim
def snVal {α : Type} (d : List C → α) (f : α → ByteArray → A) : List S → A := fun av => match av with
  | [.va (.gs r), .va (.c1 (.vl (.string n)))] => f (d r) n
  | _ => .gs []
noncomputable def snFn {α : Type} (p : List C → Prop) (d : List C → α) (f : α → ByteArray → A) (hf : ∀ a n, (f a n).flat) : Fun := ⟨snPre p, snVal d f, fun av h => by obtain ⟨r, n, rfl, _⟩ := snPre_open h; exact hf _ _⟩
theorem snFn_len {α : Type} {p : List C → Prop} {d : List C → α} {f : α → ByteArray → A} {hf : ∀ a n, (f a n).flat} : ∀ av H K, (snFn p d f hf).sp av H K → av.length = 2 := fun av H K h => by obtain ⟨r, n, rfl, _⟩ := snPre_open h.1.1; rfl
attribute [go_sem] snFn snPre snVal
def okS (s : Sc) (n : ByteArray) : Bool := checkF s == 0 && hasS s.ss n
def dpF (s : Sc) (n : ByteArray) : Int := bif okS s n then dD s.ss n else 0
def usL (s : Sc) (n : ByteArray) : List ByteArray := bif okS s n then usesF s.ss n else []
theorem check_good {s : Sc} (hf : s.fit) (h : checkF s = 0) : Gd s.ss s.es ∧ Acy s.ss ∧ enF s = 0 ∧ stF s = 0 ∧ largeF s = false ∧ 1 ≤ s.ver ∧ s.ver ≤ 999 ∧ ∀ t ∈ s.ss, dD s.ss t.nm ≤ 6 := by
  unfold checkF at h
  cases c1 : decide (s.ver < 1) || decide (999 < s.ver) with
  | true => rw [c1] at h; simp at h
  | false =>
  rw [c1] at h
  cases c2 : largeF s with
  | true => rw [c2] at h; simp at h
  | false =>
  rw [c2] at h
  simp only [Bool.cond_false] at h
  by_cases e1 : enF s = 0
  · rw [cond_ok e1] at h
    by_cases e2 : stF s = 0
    · rw [cond_ok e2] at h
      have g := good_of hf c2 e2
      unfold nestF at h
      cases c3 : s.ss.any (fun t => inB (usesF s.ss t.nm) t.nm) with
      | true => rw [c3] at h; simp at h
      | false =>
      rw [c3] at h
      cases c4 : s.ss.any (fun t => decide (6 < dD s.ss t.nm)) with
      | true => rw [c4] at h; simp at h
      | false =>
      simp only [Bool.or_eq_false_iff, decide_eq_false_iff_not] at c1
      refine ⟨g, any_false c3, e1, e2, rfl, by omega, by omega, fun t ht => ?_⟩
      have := any_false c4 t ht
      simpa using this
    · rw [cond_err e2] at h; exact absurd h e2
  · rw [cond_err e1] at h; exact absurd h e1
noncomputable def dpFn : Fun := snFn isScF C.sc (fun s n => iA .i64 (dpF s n)) (fun _ _ => trivial)
attribute [go_sem] dpFn
set_option maxRecDepth 100000 in
theorem mDepthP : Meets Try.prog 14 dpFn.sp := by
  refine meets_fn Try.func14 ok14 2 (by rw [Try.ntmps14]; decide) (meetsAll_s mFound (meetsAll_s mDepth (meetsAll_nil _))) snFn_len ?_
  rintro av H K ⟨⟨h, rfl⟩, hK⟩
  obtain ⟨_, n, rfl, s, rfl, hs⟩ := snPre_open h
  have hK : K (iS .i64 (dpF s n)) [] := by
    have : dpFn.val [.va (.gs (scC s)), tS n] = iA .i64 (dpF s n) := by simp -dsimp only [go_sem]
    rw [this] at hK; exact hK
  clear h
  have fin : ∀ (x : Int) (R : Hp), dpF s n = x → W.Fin 0 K (iS .i64 x) R := fun x R h1 => by
    rw [h1] at hK
    exact .sel [] (by simp) (by simp) rfl (.done (by simpa [go_sem] using hK))
  simp -dsimp only [go_sem, scC, pc14, rs14]
  refine fa_use hs (fun h => ?_) fun h ks vs ks' vs' x1 x2 => ?_
  · simp (maxSteps := 1000000) -dsimp only [go_sem]
    exact fin 0 _ (by unfold dpF okS; rw [beq_eq_false_iff_ne.2 h]; rfl)
  · have hx := x1 n
    obtain ⟨g, ha, _⟩ := check_good hs h
    rw [← fS_has]
    cases hf : fS s.ss n with
    | none =>
      simp (maxSteps := 1000000) -dsimp only [go_sem, Option.isSome_none]
      exact fin 0 _ (by unfold dpF okS; rw [← fS_has, hf]; simp)
    | some t =>
      rw [hf] at hx
      simp only [Option.map_some] at hx
      obtain ⟨ht, rfl⟩ := fS_mem hf
      simp (maxSteps := 1000000) -dsimp only [go_sem, Option.isSome_some, hx, stC]
      refine dp_use x1 (g.dp ha) hf ?_
      simp (maxSteps := 1000000) -dsimp only [go_sem]
      exact fin _ _ (by unfold dpF okS; rw [← fS_has, hf, h]; rfl)
def usSpP : W.Spec := fun av H K => ∃ (s : Sc) (n : ByteArray), av = [.va (.gs (scC s)), tS n] ∧ H = [] ∧ s.fit ∧ K (.va (.c1 (.fz ((usL s n).map stR)))) []
theorem usp_use {s : Sc} {n : ByteArray} {K : S → Hp → Prop} (h : s.fit) (hK : K (.va (.c1 (.fz ((usL s n).map stR)))) []) : usSpP [.va (.gs (scC s)), tS n] [] K := ⟨s, n, rfl, rfl, h, hK⟩
set_option maxRecDepth 100000 in
theorem mUsesP : Meets Try.prog 17 usSpP := by
  refine meets_fn Try.func17 ok17 2 (by rw [Try.ntmps17]; decide) (meetsAll_s mFound (meetsAll_s mUses (meetsAll_nil _))) (fun av H K h => by obtain ⟨_, _, rfl, _⟩ := h; rfl) ?_
  rintro av H K ⟨s, n, rfl, rfl, hs, hK⟩
  have fin : ∀ (x : List ByteArray) (R : Hp), usL s n = x → W.Fin 0 K (.va (.c1 (.fz (x.map stR)))) R := fun x R h1 => by
    rw [h1] at hK
    exact .sel [] (by simp) (by simp) rfl (.done (by simpa [go_sem] using hK))
  simp -dsimp only [go_sem, scC, pc17, rs17]
  refine fa_use hs (fun h => ?_) fun h ks vs ks' vs' x1 x2 => ?_
  · simp (maxSteps := 1000000) -dsimp only [go_sem]
    exact fin [] _ (by unfold usL okS; rw [beq_eq_false_iff_ne.2 h]; rfl)
  · obtain ⟨g, ha, _⟩ := check_good hs h
    cases hf : hasS s.ss n with
    | false =>
      simp (maxSteps := 1000000) -dsimp only [go_sem]
      exact fin [] _ (by unfold usL okS; rw [hf]; simp)
    | true =>
      simp (maxSteps := 1000000) -dsimp only [go_sem]
      refine us_use x1 hs.ok.ss (by have := g.vlen n; omega) ?_
      simp (maxSteps := 1000000) -dsimp only [go_sem]
      exact fin _ _ (by unfold usL okS; rw [hf, h]; rfl)
end Go.Proofs.Ytpfmkfafagiicaa
/- Copies of types, fields, structs. -/
namespace Go.Proofs.Ytpfmkfafagiicaa
open Go.W
def ctSp (N : Nat) : W.Spec := fun av H K => ∃ t : Ty, av = [.va (.gs (tyC t))] ∧ H = [] ∧ TyOk t ∧ TySm t ∧ t.h ≤ N ∧ K (.va (.gs (tyC t))) []
theorem ct_use {N : Nat} {t : Ty} {K : S → Hp → Prop} (h1 : TyOk t) (h2 : TySm t) (h3 : t.h ≤ N) (hK : K (.va (.gs (tyC t))) []) : ctSp N [.va (.gs (tyC t))] [] K := ⟨t, rfl, rfl, h1, h2, h3, hK⟩
theorem take_next {α : Type} {l : List α} {i : Nat} {x : α} (h : l[i]? = some x) : l.take (i + 1) = l.take i ++ [x] := by rw [List.take_add_one, h]; rfl
theorem tyC_ss (t : Ty) : ∀ c ∈ tyC t, c.shut = true ∧ c.one := by rw [tyC_eq]; simp [go_sem, C.shut]
set_option maxRecDepth 100000 in
theorem mCopyType : ∀ N, Meets Try.prog 77 (ctSp N)
  | 0 => ⟨by kernel_rfl, by rintro xs vs E ro w K _ _ _ ⟨t, _, _, _, _, h, _⟩; have := t.h_pos; omega⟩
  | N + 1 => by
    refine meets_fn Try.func77 ok77 1 (by rw [Try.ntmps77]; decide) (meetsAll_s (mCopyType N) (meetsAll_nil _)) (fun av H K h => by obtain ⟨_, rfl, _⟩ := h; rfl) ?_
    rintro av H K ⟨⟨k, s, n, e⟩, rfl, rfl, h1, h2, h3, hK⟩
    have hle := h1.len
    have hoe := h1.e
    obtain ⟨hl, hse⟩ : e.length ≤ 1000000000 ∧ ∀ t ∈ e, TySm t := by cases h2; exact ⟨by assumption, by assumption⟩
    simp only [Ty.e] at hle hoe
    simp (maxSteps := 1000000) -dsimp only [go_sem, tyC, tysC_map, pc77, rs77]
    refine vc_loop_gh (α := Nat) (fun i => [(2, .va (.c1 (.pt 1 0))), (3, .va (.c1 (.pt 2 0))), (14, .va (.c1 (.fz (e.map tyC)))), (15, iS .i64 e.length), (16, iS .i64 i)]) (fun i => [.cells (tyC (.mk k s n e)) 40, .cells [.vl (.int .i64 0), .vl (.int .i64 0), .vl (.string (mk [])), .vl (.slice none 0 0)] 40, .cells [.vl (.int .i64 k), .vl (.int .i64 s), .vl (.string n), .sl 3 i] 40, .row ((e.take i).map tyC) 40 4])
      (fun i => i ≤ e.length) (fun i => e.length - i) (.nilc 2 3 40 4 [.vl (.int .i64 k), .vl (.int .i64 s), .vl (.string n), .vl (.slice none 0 0)] 40 rfl rfl (gh_at 0 4 (Nat.zero_le _) ?_ ?_)) ?_
    · simp -dsimp only [go_sem] <;> simp
    · simp -dsimp only [go_sem, tyC, tysC_map] <;> simp
    intro i hi
    have hz : (e.take i).length = i := by rw [List.length_take]; omega
    rcases Nat.lt_or_ge i e.length with hlt | hge
    · have hg : decide ((i : Int) < (e.length : Int)) = true := by simp; omega
      obtain ⟨u, hx⟩ : ∃ t, e[i]? = some t := ⟨_, List.getElem?_eq_getElem hlt⟩
      have q1 := row_rg' (row := tyC) hx
      have hu := List.mem_of_getElem? hx
      simp (maxSteps := 1000000) -dsimp only [go_sem, hg, ↓q1, tyC_len]
      refine ⟨by omega, tyC_one u, ct_use (hoe u hu) (hse u hu) ?_ ?_⟩
      · have := Ty.hs_mem hu; rw [Ty.h] at h3; omega
      simp (maxSteps := 1000000) -dsimp only [go_sem, tyC_len]
      refine ⟨tyC_ss u, tyC_ss u, hz, by omega, by omega, loop_next (i + 1) 4 (by omega) (by omega) ?_ ?_⟩
      · simp -dsimp only [go_sem] <;> simp
      · simp -dsimp only [go_sem, tyC, tysC_map, take_next hx] <;> simp
    · have hg : decide ((i : Int) < (e.length : Int)) = false := by simp; omega
      obtain rfl : i = e.length := by omega
      rw [List.take_length]
      simp (maxSteps := 1000000) -dsimp only [go_sem, hg]
      refine .pub 3 _ _ _ rfl (.sel [] (by simp) (by simp [pubH]) rfl (.done ?_))
      simp -dsimp only [go_sem, pubH]
      simpa [tyC, tysC_map] using hK
end Go.Proofs.Ytpfmkfafagiicaa
/- Copies of fields and structs; Struct, FieldOf. -/
namespace Go.Proofs.Ytpfmkfafagiicaa
open Go.W
def cdSp : W.Spec := fun av H K => ∃ f : Fl, av = [.va (.gs (flC f))] ∧ H = [] ∧ f.ok ∧ TySm f.ty ∧ K (.va (.gs (flC f))) []
theorem cd_use {f : Fl} {K : S → Hp → Prop} (h1 : f.ok) (h2 : TySm f.ty) (hK : K (.va (.gs (flC f))) []) : cdSp [.va (.gs (flC f))] [] K := ⟨f, rfl, rfl, h1, h2, hK⟩
theorem tyC_drop (t : Ty) : ∀ (a b : C), ((a :: b :: tyC t).drop 2) = tyC t := fun _ _ => rfl
set_option maxRecDepth 100000 in
theorem mCopyField : Meets Try.prog 59 cdSp := by
  refine meets_all 0 (t := fun N => fun av H K => ∃ f : Fl, av = [.va (.gs (flC f))] ∧ H = [] ∧ f.ok ∧ TySm f.ty ∧ f.ty.h = N ∧ K (.va (.gs (flC f))) []) (fun N => ?_) fun av H K ⟨f, e1, e2, h1, h2, hK⟩ => ⟨f.ty.h, f, e1, e2, h1, h2, rfl, hK⟩
  refine meets_fn Try.func59 ok59 1 (by rw [Try.ntmps59]; decide) (meetsAll_s (mCopyType N) (meetsAll_nil _)) (fun av H K h => by obtain ⟨_, rfl, _⟩ := h; rfl) ?_
  rintro av H K ⟨f, rfl, rfl, h1, h2, rfl, hK⟩
  simp (maxSteps := 1000000) -dsimp only [go_sem, flC, pc59, rs59, fl_ty]
  refine ct_use h1.ty h2 (Nat.le_refl _) ?_
  simp (maxSteps := 1000000) -dsimp only [go_sem, tyC_eq]
  exact .sel [] (by simp) (by simp) rfl (.done (by simpa [go_sem, flC] using hK))
theorem flC_ss (f : Fl) : ∀ c ∈ flC f, c.shut = true ∧ c.one := by simp [flC, go_sem, C.shut]
def csSp' : W.Spec := fun av H K => ∃ t : St, av = [.va (.gs (stC t))] ∧ H = [] ∧ t.ok ∧ (t.fs.length ≤ 1000000000 ∧ ∀ f ∈ t.fs, TySm f.ty) ∧ K (.va (.gs (stC t))) []
theorem cs_use {t : St} {K : S → Hp → Prop} (h1 : t.ok) (h2 : t.fs.length ≤ 1000000000 ∧ ∀ f ∈ t.fs, TySm f.ty) (hK : K (.va (.gs (stC t))) []) : csSp' [.va (.gs (stC t))] [] K := ⟨t, rfl, rfl, h1, h2, hK⟩
set_option maxRecDepth 100000 in
theorem mCopyStruct : Meets Try.prog 56 csSp' := by
  refine meets_fn Try.func56 ok56 1 (by rw [Try.ntmps56]; decide) (meetsAll_s mCopyField (meetsAll_nil _)) (fun av H K h => by obtain ⟨_, rfl, _⟩ := h; rfl) ?_
  rintro av H K ⟨⟨n, l⟩, rfl, rfl, h1, ⟨hl, hse⟩, hK⟩
  obtain ⟨hn, _, hfs⟩ := h1
  simp only at hn hl hse hfs
  simp (maxSteps := 1000000) -dsimp only [go_sem, stC, pc56, rs56]
  refine vc_loop_gh (α := Nat) (fun i => [(2, .va (.c1 (.pt 1 0))), (3, .va (.c1 (.pt 2 0))), (10, .va (.c1 (.fz (l.map flC)))), (11, iS .i64 l.length), (12, iS .i64 i)]) (fun i => [.cells (stC ⟨n, l⟩) 32, .cells [.vl (.string (mk [])), .vl (.slice none 0 0)] 32, .cells [.vl (.string n), .sl 3 i] 32, .row ((l.take i).map flC) 53 7])
    (fun i => i ≤ l.length) (fun i => l.length - i) (.nilc 2 1 53 7 [.vl (.string n), .vl (.slice none 0 0)] 32 rfl rfl (gh_at 0 4 (Nat.zero_le _) ?_ ?_)) ?_
  · simp -dsimp only [go_sem] <;> simp
  · simp -dsimp only [go_sem, stC] <;> simp
  intro i hi
  have hz : (l.take i).length = i := by rw [List.length_take]; omega
  rcases Nat.lt_or_ge i l.length with hlt | hge
  · have hg : decide ((i : Int) < (l.length : Int)) = true := by simp; omega
    obtain ⟨u, hx⟩ : ∃ t, l[i]? = some t := ⟨_, List.getElem?_eq_getElem hlt⟩
    have q1 := row_rg' (row := flC) hx
    have hu := List.mem_of_getElem? hx
    have hcd : flC u = [.vl (.int .i64 u.num), .vl (.string u.nm), .vl (.int .i64 u.ty.k), .vl (.int .i64 u.ty.s), .vl (.string u.ty.n), .fz (u.ty.e.map tyC), .vl (.bool u.opt)] := rfl
    simp (maxSteps := 1000000) -dsimp only [go_sem, hg, ↓q1, flC]
    refine ⟨by omega, cd_use (hfs u hu) (hse u hu) ?_⟩
    simp (maxSteps := 1000000) -dsimp only [go_sem, flC]
    refine ⟨hz, by omega, by omega, loop_next (i + 1) 4 (by omega) (by omega) ?_ ?_⟩
    · simp -dsimp only [go_sem] <;> simp
    · simp -dsimp only [go_sem, stC, take_next hx] <;> simp [flC]
  · have hg : decide ((i : Int) < (l.length : Int)) = false := by simp; omega
    obtain rfl : i = l.length := by omega
    rw [List.take_length]
    simp (maxSteps := 1000000) -dsimp only [go_sem, hg]
    refine .pub 3 _ _ _ rfl (.sel [] (by simp) (by simp [pubH]) rfl (.done ?_))
    simp -dsimp only [go_sem, pubH]
    simpa [stC] using hK
theorem fnd_step {α : Type} {l : List α} {i : Nat} {x : α} (hx : l[i]? = some x) (p : α → Bool) : (l.drop i).find? p = bif p x then some x else (l.drop (i + 1)).find? p := by
  obtain ⟨h, rfl⟩ := List.getElem?_eq_some_iff.1 hx
  rw [List.drop_eq_getElem_cons h, List.find?_cons]
  cases p l[i] <;> rfl
def stSpP : W.Spec := fun av H K => ∃ (s : Sc) (n : ByteArray), av = [.va (.gs (scC s)), tS n] ∧ H = [] ∧ s.fit ∧ K (.tu [.gs (stC ((fS s.ss n).getD default)), bA (hasS s.ss n)]) []
theorem stp_use {s : Sc} {n : ByteArray} {K : S → Hp → Prop} (h : s.fit) (hK : K (.tu [.gs (stC ((fS s.ss n).getD default)), bA (hasS s.ss n)]) []) : stSpP [.va (.gs (scC s)), tS n] [] K := ⟨s, n, rfl, rfl, h, hK⟩
theorem stC_def : stC default = [.vl (.string (mk [])), .fz []] := rfl
theorem flC_def : flC default = [.vl (.int .i64 0), .vl (.string (mk [])), .vl (.int .i64 0), .vl (.int .i64 0), .vl (.string (mk [])), .fz [], .vl (.bool false)] := rfl
set_option maxRecDepth 100000 in
theorem mStructP : Meets Try.prog 22 stSpP := by
  refine meets_fn Try.func22 ok22 2 (by rw [Try.ntmps22]; decide) (meetsAll_s mCopyStruct (meetsAll_nil _)) (fun av H K h => by obtain ⟨_, _, rfl, _⟩ := h; rfl) ?_
  rintro av H K ⟨s, n, rfl, rfl, hs, hK⟩
  rw [← fS_has] at hK
  have hl := hs.ok.ls
  simp -dsimp only [go_sem, scC, pc22, rs22]
  refine vc_loop (α := Nat) (fun i => [(1, tS n), (2, .va (.c1 (.pt 0 0))), (4, .va (.c1 (.pt 1 0))), (9, .va (.c1 (.fz (s.ss.map stC)))), (10, iS .i64 s.ss.length), (11, iS .i64 i)]) (fun _ => [.cells (scC s) 25, .cells [.vl (.string (mk [])), .vl (.slice none 0 0)] 32])
    (fun i => i ≤ s.ss.length ∧ fS (s.ss.drop i) n = fS s.ss n) (fun i => s.ss.length - i) 0 2 ⟨Nat.zero_le _, rfl⟩ ?_ ?_ ?_
  · simp [go_sem]
  · simp [go_sem, scC]
  rintro i ⟨hi, ho⟩
  rcases Nat.lt_or_ge i s.ss.length with hlt | hge
  · have hg : decide ((i : Int) < (s.ss.length : Int)) = true := by simp; omega
    obtain ⟨t, hx⟩ : ∃ e, s.ss[i]? = some e := ⟨_, List.getElem?_eq_getElem hlt⟩
    have q2 := row_rg' (row := stC) hx
    have htm := List.mem_of_getElem? hx
    rw [fS, fnd_step hx] at ho
    cases hc : decide (t.nm = n) with
    | true =>
      rw [hc, Bool.cond_true] at ho
      rw [← ho] at hK
      simp (maxSteps := 1000000) -dsimp only [go_sem, hg, ↓q2, stC, scC, bl_beq, hc]
      refine ⟨by omega, cs_use (hs.ok.ss t htm) (hs.sm t htm) ?_⟩
      simp (maxSteps := 1000000) -dsimp only [go_sem, stC]
      exact .sel [] (by simp) (by simp) rfl (.done (by simpa [go_sem, stC] using hK))
    | false =>
      rw [hc, Bool.cond_false] at ho
      simp (maxSteps := 1000000) -dsimp only [go_sem, hg, ↓q2, stC, scC, bl_beq, hc]
      refine ⟨by omega, by omega, loop_next (i + 1) 2 ⟨by omega, ho⟩ (by omega) ?_ ?_⟩
      · simp [go_sem]
      · simp [go_sem, scC]
  · have hg : decide ((i : Int) < (s.ss.length : Int)) = false := by simp; omega
    obtain rfl : i = s.ss.length := by omega
    rw [List.drop_length] at ho
    rw [← ho] at hK
    simp -dsimp only [go_sem, hg, scC]
    exact .sel [] (by simp) (by simp) rfl (.done (by simpa [go_sem, fS, stC_def] using hK))
def fF (l : List Fl) (k : Int) : Option Fl := l.find? fun f => decide (f.num = k)
def foSpP : W.Spec := fun av H K => ∃ (t : St) (k : Int), av = [.va (.gs (stC t)), iS .i64 k] ∧ H = [] ∧ t.ok ∧ (∀ f ∈ t.fs, TySm f.ty) ∧ K (.tu [.gs (flC ((fF t.fs k).getD default)), bA (fF t.fs k).isSome]) []
theorem fop_use {t : St} {k : Int} {K : S → Hp → Prop} (h : t.ok) (h2 : ∀ f ∈ t.fs, TySm f.ty) (hK : K (.tu [.gs (flC ((fF t.fs k).getD default)), bA (fF t.fs k).isSome]) []) : foSpP [.va (.gs (stC t)), iS .i64 k] [] K := ⟨t, k, rfl, rfl, h, h2, hK⟩
set_option maxRecDepth 100000 in
theorem mFieldOfP : Meets Try.prog 28 foSpP := by
  refine meets_fn Try.func28 ok28 2 (by rw [Try.ntmps28]; decide) (meetsAll_s mCopyField (meetsAll_nil _)) (fun av H K h => by obtain ⟨_, _, rfl, _⟩ := h; rfl) ?_
  rintro av H K ⟨s, n, rfl, rfl, hs, hsm, hK⟩
  have hl := hs.len
  simp -dsimp only [go_sem, stC, pc28, rs28]
  refine vc_loop (α := Nat) (fun i => [(1, iS .i64 n), (2, .va (.c1 (.pt 0 0))), (4, .va (.c1 (.pt 1 0))), (9, .va (.c1 (.fz (s.fs.map flC)))), (10, iS .i64 s.fs.length), (11, iS .i64 i)]) (fun _ => [.cells (stC s) 32, .cells [.vl (.int .i64 0), .vl (.string (mk [])), .vl (.int .i64 0), .vl (.int .i64 0), .vl (.string (mk [])), .vl (.slice none 0 0), .vl (.bool false)] 53])
    (fun i => i ≤ s.fs.length ∧ fF (s.fs.drop i) n = fF s.fs n) (fun i => s.fs.length - i) 0 2 ⟨Nat.zero_le _, rfl⟩ ?_ ?_ ?_
  · simp [go_sem]
  · simp [go_sem, stC]
  rintro i ⟨hi, ho⟩
  rcases Nat.lt_or_ge i s.fs.length with hlt | hge
  · have hg : decide ((i : Int) < (s.fs.length : Int)) = true := by simp; omega
    obtain ⟨t, hx⟩ : ∃ e, s.fs[i]? = some e := ⟨_, List.getElem?_eq_getElem hlt⟩
    have q2 := row_rg' (row := flC) hx
    have htm := List.mem_of_getElem? hx
    rw [fF, fnd_step hx] at ho
    have hq : (t.num == n) = decide (t.num = n) := rfl
    cases hc : decide (t.num = n) with
    | true =>
      rw [hc, Bool.cond_true] at ho
      rw [← ho] at hK
      simp (maxSteps := 1000000) -dsimp only [go_sem, hg, ↓q2, flC, stC, hq, hc]
      refine ⟨by omega, cd_use (hs.fs t htm) (hsm t htm) ?_⟩
      simp (maxSteps := 1000000) -dsimp only [go_sem, flC]
      exact .sel [] (by simp) (by simp) rfl (.done (by simpa [go_sem, flC] using hK))
    | false =>
      rw [hc, Bool.cond_false] at ho
      simp (maxSteps := 1000000) -dsimp only [go_sem, hg, ↓q2, flC, stC, hq, hc]
      refine ⟨by omega, by omega, loop_next (i + 1) 2 ⟨by omega, ho⟩ (by omega) ?_ ?_⟩
      · simp [go_sem]
      · simp [go_sem, stC]
  · have hg : decide ((i : Int) < (s.fs.length : Int)) = false := by simp; omega
    obtain rfl : i = s.fs.length := by omega
    rw [List.drop_length] at ho
    rw [← ho] at hK
    simp -dsimp only [go_sem, hg, stC]
    exact .sel [] (by simp) (by simp) rfl (.done (by simpa [go_sem, fF, flC_def] using hK))
end Go.Proofs.Ytpfmkfafagiicaa
/- Same. -/
namespace Go.Proofs.Ytpfmkfafagiicaa
open Go.W
@[go_sem] theorem tyC_bor (t : Ty) (H : Hp) : (tyC t).map (C.bor H) = tyC t := by rw [tyC_eq]; rfl
noncomputable def tyB (a b : Ty) : Bool := @decide (a = b) (Classical.propDecidable _)
theorem tyB_eq {a b : Ty} (h : a = b) : tyB a b = true := by unfold tyB; simp [h]
theorem tyB_ne {a b : Ty} (h : a ≠ b) : tyB a b = false := by unfold tyB; simp [h]
theorem tyB_iff {a b : Ty} : tyB a b = true ↔ a = b := by unfold tyB; simp
def saPre (N : Nat) : List S → Prop := fun av => match av with
  | [.va (.gs r), .va (.gs q)] => isTy r ∧ isTy q ∧ (C.ty r).h ≤ N
  | _ => False
theorem saPre_open {N : Nat} {av : List S} (h : saPre N av) : ∃ a b, av = [.va (.gs (tyC a)), .va (.gs (tyC b))] ∧ TyOk a ∧ TyOk b ∧ a.h ≤ N := by
  unfold saPre at h
  split at h
  · obtain ⟨⟨a, rfl, ha⟩, ⟨b, rfl, hb⟩, hh⟩ := h
    rw [ty_dec] at hh
    exact ⟨a, b, rfl, ha, hb, hh⟩
  · exact h.elim
noncomputable def saVal : List S → A := fun av => match av with
  | [.va (.gs r), .va (.gs q)] => bA (tyB (C.ty r) (C.ty q))
  | _ => .gs []
noncomputable def saFn (N : Nat) : Fun := ⟨saPre N, saVal, fun av h => by obtain ⟨a, b, rfl, _⟩ := saPre_open h; trivial⟩
theorem saFn_len {N : Nat} : ∀ av H K, (saFn N).sp av H K → av.length = 2 := fun av H K h => by obtain ⟨a, b, rfl, _⟩ := saPre_open h.1.1; rfl
attribute [go_sem] saFn saPre saVal
theorem mk_eq {k s k' s' : Int} {n n' : ByteArray} {e e' : List Ty} : (Ty.mk k s n e = Ty.mk k' s' n' e') ↔ (k = k' ∧ s = s' ∧ n = n' ∧ e = e') := by simp
set_option maxRecDepth 100000 in
theorem mSameP : ∀ N, Meets Try.prog 20 (saFn N).sp
  | 0 => ⟨by kernel_rfl, by rintro xs vs E ro w K _ _ _ ⟨⟨h, _⟩, _⟩; obtain ⟨a, _, _, _, _, h⟩ := saPre_open h; have := a.h_pos; omega⟩
  | N + 1 => by
    refine meets_fn Try.func20 ok20 2 (by rw [Try.ntmps20]; decide) (meetsAll_f (mSameP N) (meetsAll_nil _)) saFn_len ?_
    rintro av H K ⟨⟨h, rfl⟩, hK⟩
    obtain ⟨a, b, rfl, ha, hb, hh⟩ := saPre_open h
    have hK : K (bS (tyB a b)) [] := by
      have : (saFn (N + 1)).val [.va (.gs (tyC a)), .va (.gs (tyC b))] = bA (tyB a b) := by simp -dsimp only [go_sem]
      rw [this] at hK; exact hK
    clear h
    have fin : ∀ (x : Bool) (R : Hp), tyB a b = x → W.Fin 0 K (bS x) R := fun x R h => by
      rw [h] at hK
      exact .sel [] (by simp) (by simp) rfl (.done (by simpa [go_sem] using hK))
    obtain ⟨k, s, n, e⟩ := a
    obtain ⟨k', s', n', e'⟩ := b
    have hla := ha.len
    have hoa := ha.e
    have hob := hb.e
    simp only [Ty.e] at hla hoa hob
    simp (maxSteps := 1000000) -dsimp only [go_sem, tyC, tysC_map, pc20, rs20, bl_beq]
    refine ⟨fun h1 => fin false _ (tyB_ne fun he => ?_), fun h1 => ?_⟩
    · obtain ⟨rfl, rfl, rfl, rfl⟩ := mk_eq.1 he
      simp at h1
    simp only [Bool.or_eq_false_iff, bne_eq_false_iff_eq, Bool.not_eq_false', decide_eq_true_eq] at h1
    obtain ⟨⟨⟨rfl, rfl⟩, rfl⟩, hl⟩ := h1
    have hl : e.length = e'.length := by omega
    refine vc_loop (α := Nat) (fun i => [(2, .va (.c1 (.pt 0 0))), (3, .va (.c1 (.pt 1 0))), (36, iS .i64 e.length), (37, iS .i64 i)]) (fun i => [.cells (tyC (.mk k s n e)) 40, .cells (tyC (.mk k s n e')) 40])
      (fun i => i ≤ e.length ∧ ∀ j, j < i → e[j]? = e'[j]?) (fun i => e.length - i) 0 2 ⟨Nat.zero_le _, fun j hj => by omega⟩ ?_ ?_ ?_
    · simp -dsimp only [go_sem] <;> simp
    · simp -dsimp only [go_sem, tyC, tysC_map] <;> simp
    rintro i ⟨hi, ho⟩
    rcases Nat.lt_or_ge i e.length with hlt | hge
    · have hg : decide ((i : Int) < (e.length : Int)) = true := by simp; omega
      obtain ⟨u, hx⟩ : ∃ t, e[i]? = some t := ⟨_, List.getElem?_eq_getElem hlt⟩
      obtain ⟨v, hy⟩ : ∃ t, e'[i]? = some t := ⟨_, List.getElem?_eq_getElem (by omega)⟩
      have q1 := row_rg' (row := tyC) hx
      have q2 := row_rg' (row := tyC) hy
      have hu : isTy (tyC u) := isTy_mk (hoa u (List.mem_of_getElem? hx))
      have hv : isTy (tyC v) := isTy_mk (hob v (List.mem_of_getElem? hy))
      have huh : u.h ≤ N := by have := Ty.hs_mem (List.mem_of_getElem? hx); rw [Ty.h] at hh; omega
      simp (maxSteps := 1000000) -dsimp only [go_sem, hg, tyC, tysC_map]
      simp (maxSteps := 1000000) -dsimp only [go_sem, tyC_len, hu, hv, hx, hy, Option.some.injEq, forall_eq']
      refine ⟨by omega, by omega, huh, fun h1 => fin false _ (tyB_ne fun he => ?_), fun h1 => ?_⟩
      · obtain ⟨_, _, _, rfl⟩ := mk_eq.1 he
        rw [hx] at hy
        rw [tyB_eq (Option.some.inj hy)] at h1
        simp at h1
      · have h1 : u = v := tyB_iff.1 (by simpa using h1)
        subst h1
        refine ⟨by omega, loop_next (i + 1) 2 ⟨by omega, fun j hj => ?_⟩ (by omega) ?_ ?_⟩
        · rcases Nat.lt_or_ge j i with h4 | h4
          · exact ho j h4
          · obtain rfl : j = i := by omega
            rw [hx, hy]
        · simp -dsimp only [go_sem] <;> simp
        · simp -dsimp only [go_sem, tyC, tysC_map] <;> simp
    · have hg : decide ((i : Int) < (e.length : Int)) = false := by simp; omega
      obtain rfl : i = e.length := by omega
      simp (maxSteps := 1000000) -dsimp only [go_sem, hg]
      refine fin true _ (tyB_eq ?_)
      rw [mk_eq]
      refine ⟨rfl, rfl, rfl, List.ext_getElem? fun j => ?_⟩
      rcases Nat.lt_or_ge j e.length with h4 | h4
      · exact ho j h4
      · rw [List.getElem?_eq_none h4, List.getElem?_eq_none (by omega)]
def sPre : List S → Prop := fun av => match av with
  | [.va (.gs r), .va (.gs q)] => isTy r ∧ isTy q
  | _ => False
theorem sPre_open {av : List S} (h : sPre av) : ∃ a b, av = [.va (.gs (tyC a)), .va (.gs (tyC b))] ∧ TyOk a ∧ TyOk b := by
  unfold sPre at h
  split at h
  · obtain ⟨⟨a, rfl, ha⟩, ⟨b, rfl, hb⟩⟩ := h
    exact ⟨a, b, rfl, ha, hb⟩
  · exact h.elim
noncomputable def sFn : Fun := ⟨sPre, saVal, fun av h => by obtain ⟨a, b, rfl, _⟩ := sPre_open h; trivial⟩
attribute [go_sem] sFn sPre
theorem mSameS : Meets Try.prog 20 sFn.sp := meets_all 0 mSameP fun av H K ⟨⟨h, e⟩, hK⟩ => by
  obtain ⟨a, b, rfl, ha, hb⟩ := sPre_open h
  exact ⟨a.h, ⟨⟨⟨isTy_mk ha, isTy_mk hb, by rw [ty_dec]; exact Nat.le_refl _⟩, e⟩, hK⟩⟩
end Go.Proofs.Ytpfmkfafagiicaa
/- The reference: names. -/
namespace Go.Proofs.Ytpfmkfafagiicaa
open Go.W
set_option maxRecDepth 100000 in
set_option maxHeartbeats 4000000 in
theorem mRIsName : Meets Try.prog 69 (strFn fun l => .bool (isNm l)).sp := by
  refine meets_fn Try.func69 ok69 1 (by rw [Try.ntmps69]; decide) (meetsAll_nil _) strFn_len ?_
  rintro xs H K ⟨⟨h, rfl⟩, hK⟩
  obtain ⟨s, rfl⟩ := strPre_open h
  simp -dsimp only [go_sem, pc69, rs69] at hK ⊢
  refine ⟨fun h1 => ?_, fun h1 => ?_⟩
  · refine fin_eq hK ?_
    have : isNm (bl s) = false := by
      simp at h1
      rcases h1 with h1 | h1
      · have : bl s = [] := List.length_eq_zero_iff.1 (by omega)
        rw [this]; rfl
      · exact isNm_long (by omega)
    rw [this]
  · have hlen : 0 < (bl s).length ∧ (bl s).length ≤ 16 := by simp at h1; omega
    obtain ⟨hl0, hl⟩ := hlen
    refine vc_loop (α := Nat) (fun i => [(0, tS s), (3, iS .i64 i)]) (fun i => []) (fun i => i ≤ (bl s).length ∧ (∀ (j : Nat) (x : UInt8), j < i → (bl s)[j]? = some x → wordB x = true) ∧ (0 < i → ∀ x, (bl s)[0]? = some x → isLet x.toNat = true)) (fun i => (bl s).length - i) 0 0 ⟨by omega, by omega, by omega⟩ ?_ ?_ ?_
    · simp -dsimp only [go_sem]; simp
    · simp [go_sem]
    rintro i ⟨hi, ha, hb⟩
    rcases Nat.lt_or_ge i (bl s).length with hlt | hge
    · have hg : decide ((i : Int) < ((bl s).length : Int)) = true := by simp; omega
      obtain ⟨c, hc⟩ : ∃ c, (bl s)[i]? = some c := ⟨_, List.getElem?_eq_getElem hlt⟩
      have bad : (i = 0 ∧ isLet c.toNat = false) ∨ wordB c = false → W.Fin 0 K (bS false) [] := fun h => fin_eq hK (by
        rcases h with ⟨rfl, h⟩ | h
        · rw [isNm_first hc h]
        · rw [isNm_at hc h])
      have nxt : wordB c = true → (i = 0 → isLet c.toNat = true) → (i + 1 ≤ (bl s).length ∧ (∀ (j : Nat) (x : UInt8), j < i + 1 → (bl s)[j]? = some x → wordB x = true) ∧ (0 < i + 1 → ∀ x, (bl s)[0]? = some x → isLet x.toNat = true)) := fun h1 h2 => ⟨by omega, fun j x hj hx => by
        rcases Nat.lt_or_ge j i with h4 | h4
        · exact ha j x h4 hx
        · obtain rfl : j = i := by omega
          rw [hc] at hx; obtain rfl := Option.some.inj hx; exact h1, fun _ x hx => by
        rcases Nat.eq_zero_or_pos i with h0 | h0
        · subst h0; rw [hc] at hx; obtain rfl := Option.some.inj hx; exact h2 rfl
        · exact hb h0 x hx⟩
      have hb255 := c.toNat_lt
      have hcs : (0 ≤ (c.toNat : Int) ∧ (c.toNat : Int) ≤ 47) ∨ (48 ≤ (c.toNat : Int) ∧ (c.toNat : Int) ≤ 57) ∨ (58 ≤ (c.toNat : Int) ∧ (c.toNat : Int) ≤ 64) ∨ (65 ≤ (c.toNat : Int) ∧ (c.toNat : Int) ≤ 90) ∨ (91 ≤ (c.toNat : Int) ∧ (c.toNat : Int) ≤ 94) ∨ (95 ≤ (c.toNat : Int) ∧ (c.toNat : Int) ≤ 95) ∨ (96 ≤ (c.toNat : Int) ∧ (c.toNat : Int) ≤ 96) ∨ (97 ≤ (c.toNat : Int) ∧ (c.toNat : Int) ≤ 122) ∨ (123 ≤ (c.toNat : Int) ∧ (c.toNat : Int) ≤ 255) := by omega
      rcases hcs with h2 | h2 | h2 | h2 | h2 | h2 | h2 | h2 | h2
      · have d1 : decide (97 ≤ (c.toNat : Int)) = false := decide_eq_false (by omega)
        have d2 : decide ((c.toNat : Int) ≤ 122) = true := decide_eq_true (by omega)
        have d3 : decide (65 ≤ (c.toNat : Int)) = false := decide_eq_false (by omega)
        have d4 : decide ((c.toNat : Int) ≤ 90) = true := decide_eq_true (by omega)
        have d5 : ((c.toNat : Int) == 95) = false := by simp; omega
        have d6 : decide (48 ≤ (c.toNat : Int)) = false := decide_eq_false (by omega)
        have d7 : decide ((c.toNat : Int) ≤ 57) = true := decide_eq_true (by omega)
        have hL : isLet c.toNat = false := by unfold isLet; rw [d1, d2, d3, d4]; rfl
        have hW : wordB c = false := by unfold wordB isWord isDig; rw [hL, d5, d6, d7]; rfl
        rcases Nat.eq_zero_or_pos i with h0 | h0
        · have hz : ((i : Int) == 0) = true := by simp; omega
          simp (maxSteps := 1000000) -dsimp only [go_sem, hg, hc, Option.some.injEq, forall_eq', Int.toNat_natCast, d1, d3, d5, d6, hz, Bool.true_and, Bool.and_true, Bool.false_and, Bool.and_false, Bool.not_true, Bool.not_false]
          repeat' first | intro _ | apply And.intro
          all_goals first | omega | (rename_i h9; simp at h9; done) | skip
          all_goals exact bad (by rw [hL, hW]; exact .inl ⟨h0, rfl⟩)
        · have hz : ((i : Int) == 0) = false := by simp; omega
          simp (maxSteps := 1000000) -dsimp only [go_sem, hg, hc, Option.some.injEq, forall_eq', Int.toNat_natCast, d1, d3, d5, d6, hz, Bool.true_and, Bool.and_true, Bool.false_and, Bool.not_false]
          repeat' first | intro _ | apply And.intro
          all_goals first | omega | (rename_i h9; simp at h9; done) | skip
          all_goals exact bad (by rw [hL, hW]; exact .inr rfl)
      · have d1 : decide (97 ≤ (c.toNat : Int)) = false := decide_eq_false (by omega)
        have d2 : decide ((c.toNat : Int) ≤ 122) = true := decide_eq_true (by omega)
        have d3 : decide (65 ≤ (c.toNat : Int)) = false := decide_eq_false (by omega)
        have d4 : decide ((c.toNat : Int) ≤ 90) = true := decide_eq_true (by omega)
        have d5 : ((c.toNat : Int) == 95) = false := by simp; omega
        have d6 : decide (48 ≤ (c.toNat : Int)) = true := decide_eq_true (by omega)
        have d7 : decide ((c.toNat : Int) ≤ 57) = true := decide_eq_true (by omega)
        have hL : isLet c.toNat = false := by unfold isLet; rw [d1, d2, d3, d4]; rfl
        have hW : wordB c = true := by unfold wordB isWord isDig; rw [hL, d5, d6, d7]; rfl
        rcases Nat.eq_zero_or_pos i with h0 | h0
        · have hz : ((i : Int) == 0) = true := by simp; omega
          simp (maxSteps := 1000000) -dsimp only [go_sem, hg, hc, Option.some.injEq, forall_eq', Int.toNat_natCast, d1, d3, d5, d6, hz, Bool.true_and, Bool.and_true, Bool.false_and, Bool.and_false, Bool.not_true, Bool.not_false]
          repeat' first | intro _ | apply And.intro
          all_goals first | omega | (rename_i h9; simp at h9; done) | skip
          all_goals exact bad (by rw [hL, hW]; exact .inl ⟨h0, rfl⟩)
        · have hz : ((i : Int) == 0) = false := by simp; omega
          simp (maxSteps := 1000000) -dsimp only [go_sem, hg, hc, Option.some.injEq, forall_eq', Int.toNat_natCast, d1, d3, d5, d6, d7, hz, Bool.true_and, Bool.and_true, Bool.false_and, Bool.not_false]
          repeat' first | intro _ | apply And.intro
          all_goals first | omega | (rename_i h9; simp at h9; done) | skip
          all_goals exact loop_next (i + 1) 0 (nxt (by rw [hW]) (fun h3 => by omega)) (by omega) (by simp -dsimp only [go_sem]; simp) (by simp [go_sem])
      · have d1 : decide (97 ≤ (c.toNat : Int)) = false := decide_eq_false (by omega)
        have d2 : decide ((c.toNat : Int) ≤ 122) = true := decide_eq_true (by omega)
        have d3 : decide (65 ≤ (c.toNat : Int)) = false := decide_eq_false (by omega)
        have d4 : decide ((c.toNat : Int) ≤ 90) = true := decide_eq_true (by omega)
        have d5 : ((c.toNat : Int) == 95) = false := by simp; omega
        have d6 : decide (48 ≤ (c.toNat : Int)) = true := decide_eq_true (by omega)
        have d7 : decide ((c.toNat : Int) ≤ 57) = false := decide_eq_false (by omega)
        have hL : isLet c.toNat = false := by unfold isLet; rw [d1, d2, d3, d4]; rfl
        have hW : wordB c = false := by unfold wordB isWord isDig; rw [hL, d5, d6, d7]; rfl
        rcases Nat.eq_zero_or_pos i with h0 | h0
        · have hz : ((i : Int) == 0) = true := by simp; omega
          simp (maxSteps := 1000000) -dsimp only [go_sem, hg, hc, Option.some.injEq, forall_eq', Int.toNat_natCast, d1, d3, d5, d6, hz, Bool.true_and, Bool.and_true, Bool.false_and, Bool.and_false, Bool.not_true, Bool.not_false]
          repeat' first | intro _ | apply And.intro
          all_goals first | omega | (rename_i h9; simp at h9; done) | skip
          all_goals exact bad (by rw [hL, hW]; exact .inl ⟨h0, rfl⟩)
        · have hz : ((i : Int) == 0) = false := by simp; omega
          simp (maxSteps := 1000000) -dsimp only [go_sem, hg, hc, Option.some.injEq, forall_eq', Int.toNat_natCast, d1, d3, d5, d6, d7, hz, Bool.true_and, Bool.and_true, Bool.false_and, Bool.not_false]
          repeat' first | intro _ | apply And.intro
          all_goals first | omega | (rename_i h9; simp at h9; done) | skip
          all_goals exact bad (by rw [hL, hW]; exact .inr rfl)
      · have d1 : decide (97 ≤ (c.toNat : Int)) = false := decide_eq_false (by omega)
        have d2 : decide ((c.toNat : Int) ≤ 122) = true := decide_eq_true (by omega)
        have d3 : decide (65 ≤ (c.toNat : Int)) = true := decide_eq_true (by omega)
        have d4 : decide ((c.toNat : Int) ≤ 90) = true := decide_eq_true (by omega)
        have d5 : ((c.toNat : Int) == 95) = false := by simp; omega
        have d6 : decide (48 ≤ (c.toNat : Int)) = true := decide_eq_true (by omega)
        have d7 : decide ((c.toNat : Int) ≤ 57) = false := decide_eq_false (by omega)
        have hL : isLet c.toNat = true := by unfold isLet; rw [d1, d2, d3, d4]; rfl
        have hW : wordB c = true := by unfold wordB isWord isDig; rw [hL, d5, d6, d7]; rfl
        rcases Nat.eq_zero_or_pos i with h0 | h0
        · have hz : ((i : Int) == 0) = true := by simp; omega
          simp (maxSteps := 1000000) -dsimp only [go_sem, hg, hc, Option.some.injEq, forall_eq', Int.toNat_natCast, d1, d3, d4, d5, d6, hz, Bool.true_and, Bool.and_true, Bool.false_and, Bool.and_false, Bool.not_true, Bool.not_false]
          repeat' first | intro _ | apply And.intro
          all_goals first | omega | (rename_i h9; simp at h9; done) | skip
          all_goals exact loop_next (i + 1) 0 (nxt (by rw [hW]) (fun h3 => by rw [hL])) (by omega) (by simp -dsimp only [go_sem]; simp) (by simp [go_sem])
        · have hz : ((i : Int) == 0) = false := by simp; omega
          simp (maxSteps := 1000000) -dsimp only [go_sem, hg, hc, Option.some.injEq, forall_eq', Int.toNat_natCast, d1, d3, d4, d5, d6, d7, hz, Bool.true_and, Bool.and_true, Bool.false_and, Bool.not_false]
          repeat' first | intro _ | apply And.intro
          all_goals first | omega | (rename_i h9; simp at h9; done) | skip
          all_goals exact loop_next (i + 1) 0 (nxt (by rw [hW]) (fun h3 => by rw [hL])) (by omega) (by simp -dsimp only [go_sem]; simp) (by simp [go_sem])
      · have d1 : decide (97 ≤ (c.toNat : Int)) = false := decide_eq_false (by omega)
        have d2 : decide ((c.toNat : Int) ≤ 122) = true := decide_eq_true (by omega)
        have d3 : decide (65 ≤ (c.toNat : Int)) = true := decide_eq_true (by omega)
        have d4 : decide ((c.toNat : Int) ≤ 90) = false := decide_eq_false (by omega)
        have d5 : ((c.toNat : Int) == 95) = false := by simp; omega
        have d6 : decide (48 ≤ (c.toNat : Int)) = true := decide_eq_true (by omega)
        have d7 : decide ((c.toNat : Int) ≤ 57) = false := decide_eq_false (by omega)
        have hL : isLet c.toNat = false := by unfold isLet; rw [d1, d2, d3, d4]; rfl
        have hW : wordB c = false := by unfold wordB isWord isDig; rw [hL, d5, d6, d7]; rfl
        rcases Nat.eq_zero_or_pos i with h0 | h0
        · have hz : ((i : Int) == 0) = true := by simp; omega
          simp (maxSteps := 1000000) -dsimp only [go_sem, hg, hc, Option.some.injEq, forall_eq', Int.toNat_natCast, d1, d3, d4, d5, d6, hz, Bool.true_and, Bool.and_true, Bool.false_and, Bool.and_false, Bool.not_true, Bool.not_false]
          repeat' first | intro _ | apply And.intro
          all_goals first | omega | (rename_i h9; simp at h9; done) | skip
          all_goals exact bad (by rw [hL, hW]; exact .inl ⟨h0, rfl⟩)
        · have hz : ((i : Int) == 0) = false := by simp; omega
          simp (maxSteps := 1000000) -dsimp only [go_sem, hg, hc, Option.some.injEq, forall_eq', Int.toNat_natCast, d1, d3, d4, d5, d6, d7, hz, Bool.true_and, Bool.and_true, Bool.false_and, Bool.not_false]
          repeat' first | intro _ | apply And.intro
          all_goals first | omega | (rename_i h9; simp at h9; done) | skip
          all_goals exact bad (by rw [hL, hW]; exact .inr rfl)
      · have d1 : decide (97 ≤ (c.toNat : Int)) = false := decide_eq_false (by omega)
        have d2 : decide ((c.toNat : Int) ≤ 122) = true := decide_eq_true (by omega)
        have d3 : decide (65 ≤ (c.toNat : Int)) = true := decide_eq_true (by omega)
        have d4 : decide ((c.toNat : Int) ≤ 90) = false := decide_eq_false (by omega)
        have d5 : ((c.toNat : Int) == 95) = true := by simp; omega
        have d6 : decide (48 ≤ (c.toNat : Int)) = true := decide_eq_true (by omega)
        have d7 : decide ((c.toNat : Int) ≤ 57) = false := decide_eq_false (by omega)
        have hL : isLet c.toNat = false := by unfold isLet; rw [d1, d2, d3, d4]; rfl
        have hW : wordB c = true := by unfold wordB isWord isDig; rw [hL, d5, d6, d7]; rfl
        rcases Nat.eq_zero_or_pos i with h0 | h0
        · have hz : ((i : Int) == 0) = true := by simp; omega
          simp (maxSteps := 1000000) -dsimp only [go_sem, hg, hc, Option.some.injEq, forall_eq', Int.toNat_natCast, d1, d3, d4, d5, hz, Bool.true_and, Bool.and_true, Bool.false_and, Bool.and_false, Bool.not_true, Bool.not_false]
          repeat' first | intro _ | apply And.intro
          all_goals first | omega | (rename_i h9; simp at h9; done) | skip
          all_goals exact bad (by rw [hL, hW]; exact .inl ⟨h0, rfl⟩)
        · have hz : ((i : Int) == 0) = false := by simp; omega
          simp (maxSteps := 1000000) -dsimp only [go_sem, hg, hc, Option.some.injEq, forall_eq', Int.toNat_natCast, d1, d3, d4, d5, hz, Bool.true_and, Bool.and_true, Bool.false_and, Bool.not_true, Bool.not_false]
          repeat' first | intro _ | apply And.intro
          all_goals first | omega | (rename_i h9; simp at h9; done) | skip
          all_goals exact loop_next (i + 1) 0 (nxt (by rw [hW]) (fun h3 => by omega)) (by omega) (by simp -dsimp only [go_sem]; simp) (by simp [go_sem])
      · have d1 : decide (97 ≤ (c.toNat : Int)) = false := decide_eq_false (by omega)
        have d2 : decide ((c.toNat : Int) ≤ 122) = true := decide_eq_true (by omega)
        have d3 : decide (65 ≤ (c.toNat : Int)) = true := decide_eq_true (by omega)
        have d4 : decide ((c.toNat : Int) ≤ 90) = false := decide_eq_false (by omega)
        have d5 : ((c.toNat : Int) == 95) = false := by simp; omega
        have d6 : decide (48 ≤ (c.toNat : Int)) = true := decide_eq_true (by omega)
        have d7 : decide ((c.toNat : Int) ≤ 57) = false := decide_eq_false (by omega)
        have hL : isLet c.toNat = false := by unfold isLet; rw [d1, d2, d3, d4]; rfl
        have hW : wordB c = false := by unfold wordB isWord isDig; rw [hL, d5, d6, d7]; rfl
        rcases Nat.eq_zero_or_pos i with h0 | h0
        · have hz : ((i : Int) == 0) = true := by simp; omega
          simp (maxSteps := 1000000) -dsimp only [go_sem, hg, hc, Option.some.injEq, forall_eq', Int.toNat_natCast, d1, d3, d4, d5, d6, hz, Bool.true_and, Bool.and_true, Bool.false_and, Bool.and_false, Bool.not_true, Bool.not_false]
          repeat' first | intro _ | apply And.intro
          all_goals first | omega | (rename_i h9; simp at h9; done) | skip
          all_goals exact bad (by rw [hL, hW]; exact .inl ⟨h0, rfl⟩)
        · have hz : ((i : Int) == 0) = false := by simp; omega
          simp (maxSteps := 1000000) -dsimp only [go_sem, hg, hc, Option.some.injEq, forall_eq', Int.toNat_natCast, d1, d3, d4, d5, d6, d7, hz, Bool.true_and, Bool.and_true, Bool.false_and, Bool.not_false]
          repeat' first | intro _ | apply And.intro
          all_goals first | omega | (rename_i h9; simp at h9; done) | skip
          all_goals exact bad (by rw [hL, hW]; exact .inr rfl)
      · have d1 : decide (97 ≤ (c.toNat : Int)) = true := decide_eq_true (by omega)
        have d2 : decide ((c.toNat : Int) ≤ 122) = true := decide_eq_true (by omega)
        have d3 : decide (65 ≤ (c.toNat : Int)) = true := decide_eq_true (by omega)
        have d4 : decide ((c.toNat : Int) ≤ 90) = false := decide_eq_false (by omega)
        have d5 : ((c.toNat : Int) == 95) = false := by simp; omega
        have d6 : decide (48 ≤ (c.toNat : Int)) = true := decide_eq_true (by omega)
        have d7 : decide ((c.toNat : Int) ≤ 57) = false := decide_eq_false (by omega)
        have hL : isLet c.toNat = true := by unfold isLet; rw [d1, d2, d3, d4]; rfl
        have hW : wordB c = true := by unfold wordB isWord isDig; rw [hL, d5, d6, d7]; rfl
        rcases Nat.eq_zero_or_pos i with h0 | h0
        · have hz : ((i : Int) == 0) = true := by simp; omega
          simp (maxSteps := 1000000) -dsimp only [go_sem, hg, hc, Option.some.injEq, forall_eq', Int.toNat_natCast, d1, d2, d5, d6, hz, Bool.true_and, Bool.and_true, Bool.false_and, Bool.and_false, Bool.not_true, Bool.not_false]
          repeat' first | intro _ | apply And.intro
          all_goals first | omega | (rename_i h9; simp at h9; done) | skip
          all_goals exact loop_next (i + 1) 0 (nxt (by rw [hW]) (fun h3 => by rw [hL])) (by omega) (by simp -dsimp only [go_sem]; simp) (by simp [go_sem])
        · have hz : ((i : Int) == 0) = false := by simp; omega
          simp (maxSteps := 1000000) -dsimp only [go_sem, hg, hc, Option.some.injEq, forall_eq', Int.toNat_natCast, d1, d2, d5, d6, d7, hz, Bool.true_and, Bool.and_true, Bool.false_and, Bool.not_true, Bool.not_false]
          repeat' first | intro _ | apply And.intro
          all_goals first | omega | (rename_i h9; simp at h9; done) | skip
          all_goals exact loop_next (i + 1) 0 (nxt (by rw [hW]) (fun h3 => by rw [hL])) (by omega) (by simp -dsimp only [go_sem]; simp) (by simp [go_sem])
      · have d1 : decide (97 ≤ (c.toNat : Int)) = true := decide_eq_true (by omega)
        have d2 : decide ((c.toNat : Int) ≤ 122) = false := decide_eq_false (by omega)
        have d3 : decide (65 ≤ (c.toNat : Int)) = true := decide_eq_true (by omega)
        have d4 : decide ((c.toNat : Int) ≤ 90) = false := decide_eq_false (by omega)
        have d5 : ((c.toNat : Int) == 95) = false := by simp; omega
        have d6 : decide (48 ≤ (c.toNat : Int)) = true := decide_eq_true (by omega)
        have d7 : decide ((c.toNat : Int) ≤ 57) = false := decide_eq_false (by omega)
        have hL : isLet c.toNat = false := by unfold isLet; rw [d1, d2, d3, d4]; rfl
        have hW : wordB c = false := by unfold wordB isWord isDig; rw [hL, d5, d6, d7]; rfl
        rcases Nat.eq_zero_or_pos i with h0 | h0
        · have hz : ((i : Int) == 0) = true := by simp; omega
          simp (maxSteps := 1000000) -dsimp only [go_sem, hg, hc, Option.some.injEq, forall_eq', Int.toNat_natCast, d1, d2, d3, d4, d5, d6, hz, Bool.true_and, Bool.and_true, Bool.and_false, Bool.not_true, Bool.not_false]
          repeat' first | intro _ | apply And.intro
          all_goals first | omega | (rename_i h9; simp at h9; done) | skip
          all_goals exact bad (by rw [hL, hW]; exact .inl ⟨h0, rfl⟩)
        · have hz : ((i : Int) == 0) = false := by simp; omega
          simp (maxSteps := 1000000) -dsimp only [go_sem, hg, hc, Option.some.injEq, forall_eq', Int.toNat_natCast, d1, d2, d3, d4, d5, d6, d7, hz, Bool.true_and, Bool.and_true, Bool.not_false]
          repeat' first | intro _ | apply And.intro
          all_goals first | omega | (rename_i h9; simp at h9; done) | skip
          all_goals exact bad (by rw [hL, hW]; exact .inr rfl)
    · have hg : decide ((i : Int) < ((bl s).length : Int)) = false := by simp; omega
      obtain rfl : i = (bl s).length := by omega
      obtain ⟨c, hc⟩ : ∃ c, (bl s)[0]? = some c := ⟨_, List.getElem?_eq_getElem hl0⟩
      simp (maxSteps := 1000000) -dsimp only [go_sem, hg]
      refine fin_eq hK ?_
      rw [isNm_true hc hl (hb hl0 c hc) fun j x hx => ha j x (List.getElem?_eq_some_iff.1 hx).1 hx]
end Go.Proofs.Ytpfmkfafagiicaa
/- The reference: IsType, plain, in, Struct, Enum, FieldOf. -/
namespace Go.Proofs.Ytpfmkfafagiicaa
open Go.W
set_option maxRecDepth 100000 in
theorem mRIsType : Meets Try.prog 68 (strFn fun l => .bool (tnB l)).sp := by
  refine meets_fn Try.func68 ok68 1 (by rw [Try.ntmps68]; decide) (meetsAll_f mRIsName (meetsAll_nil _)) strFn_len ?_
  rintro xs H K ⟨⟨h, rfl⟩, hK⟩
  obtain ⟨s, rfl⟩ := strPre_open h
  have hK' : K (.va (.c1 (.vl (.bool (tnB (bl s)))))) [] := hK
  clear hK h
  unfold tnB at hK'
  cases hn : isNm (bl s) with
  | false =>
    rw [hn] at hK'
    simp -dsimp only [go_sem, pc68, rs68, hn]
    exact .done hK'
  | true =>
    cases hl : bl s with
    | nil => rw [hl] at hn; cases hn
    | cons c r =>
      rw [hl] at hn hK'
      rw [hn] at hK'
      simp -dsimp only [go_sem, pc68, rs68, hl, hn]
      refine ⟨by omega, fun d hd => ⟨fun _ => by omega, fun e he => ?_⟩⟩
      subst hd
      cases hc : decide (65 ≤ (c.toNat : Int)) with
      | false => simp only [hc, Bool.true_and, Bool.false_and] at hK'; exact .done hK'
      | true =>
        obtain rfl := he hc
        simp only [hc, Bool.true_and] at hK'; exact .done hK'
set_option maxRecDepth 100000 in
theorem mRPlain : Meets Try.prog 87 (gFn isTy C.ty fun t => .bool ((t.e.length : Int) == 0)).sp := by
  refine meets_fn Try.func87 ok87 1 (by rw [Try.ntmps87]; decide) (meetsAll_nil _) gFn_len ?_
  rintro av H K ⟨⟨h, rfl⟩, hK⟩
  obtain ⟨_, rfl, t, rfl, ht⟩ := gPre_open h
  have hK : K (bS ((t.e.length : Int) == 0)) [] := by
    have : (gFn isTy C.ty fun t => .bool ((t.e.length : Int) == 0)).val [.va (.gs (tyC t))] = bA ((t.e.length : Int) == 0) := by simp -dsimp only [go_sem]
    rw [this] at hK; exact hK
  simp (maxSteps := 1000000) -dsimp only [go_sem, tyC_eq, pc87, rs87]
  exact .sel [] (by simp) (by simp) rfl (.done (by simpa [go_sem] using hK))
/-! ### in -/
def inPre : List S → Prop := fun av => match av with
  | [.va (.c1 (.fz rs)), .va (.c1 (.vl (.int .i64 k))), .va (.c1 (.vl (.string _)))] => isBs rs ∧ 0 ≤ k ∧ k ≤ 9223372036854775807
  | _ => False
theorem inPre_open {av : List S} (h : inPre av) : ∃ (l : List ByteArray) (n : Nat) (x : ByteArray), av = [.va (.c1 (.fz (l.map stR))), iS .i64 n, tS x] ∧ l.length ≤ 9223372036854775807 ∧ (n : Int) ≤ 9223372036854775807 := by
  unfold inPre at h
  split at h
  · obtain ⟨⟨l, rfl, h1⟩, h2, h3⟩ := h
    rename_i k x
    exact ⟨l, k.toNat, x, by rw [Int.toNat_of_nonneg h2], h1, by omega⟩
  · exact h.elim
noncomputable def inVal : List S → A := fun av => match av with
  | [.va (.c1 (.fz rs)), .va (.c1 (.vl (.int .i64 k))), .va (.c1 (.vl (.string x)))] => bA (inB ((rs.map C.bs).take k.toNat) x)
  | _ => .gs []
noncomputable def inFn : Fun := ⟨inPre, inVal, fun av h => by obtain ⟨l, n, x, rfl, _⟩ := inPre_open h; trivial⟩
theorem inFn_len : ∀ av H K, inFn.sp av H K → av.length = 3 := fun av H K h => by obtain ⟨l, n, x, rfl, _⟩ := inPre_open h.1.1; rfl
attribute [go_sem] inFn inPre inVal
set_option maxRecDepth 100000 in
theorem mRIn : Meets Try.prog 48 inFn.sp := by
  refine meets_fn Try.func48 ok48 3 (by rw [Try.ntmps48]; decide) (meetsAll_nil _) inFn_len ?_
  rintro av H K ⟨⟨h, rfl⟩, hK⟩
  obtain ⟨l, n, x, rfl, hl, hn⟩ := inPre_open h
  have hK : K (bS (inB (l.take n) x)) [] := by
    have : inFn.val [.va (.c1 (.fz (l.map stR))), iS .i64 n, tS x] = bA (inB (l.take n) x) := by simp -dsimp only [go_sem, Int.toNat_natCast]
    rw [this] at hK; exact hK
  clear h
  simp (maxSteps := 1000000) -dsimp only [go_sem, pc48, rs48]
  refine vc_loop (α := Nat) (fun i => [(0, .va (.c1 (.fz (l.map stR)))), (1, iS .i64 n), (2, tS x), (7, iS .i64 i)]) (fun _ => [])
    (fun i => i ≤ (l.take n).length ∧ inB ((l.take n).drop i) x = inB (l.take n) x) (fun i => l.length - i) 0 0 ⟨Nat.zero_le _, rfl⟩ ?_ ?_ ?_
  · simp [go_sem]
  · simp [go_sem]
  rintro i ⟨hi, ho⟩
  have hlt0 : (l.take n).length = min n l.length := by simp
  rcases Nat.lt_or_ge i (l.take n).length with hlt | hge
  · have g1 : decide ((i : Int) < (n : Int)) = true := by simp; omega
    have g2 : decide ((i : Int) < (l.length : Int)) = true := by simp; omega
    obtain ⟨y, hx⟩ : ∃ y, l[i]? = some y := ⟨_, List.getElem?_eq_getElem (by omega)⟩
    have hx' : (l.take n)[i]? = some y := by rw [List.getElem?_take, if_pos (by omega)]; exact hx
    have q2 := row_rg' (row := stR) hx
    rw [inB, any_step hx'] at ho
    simp (maxSteps := 1000000) -dsimp only [go_sem, g1, g2, ↓q2, bl_beq]
    have hsy : decide (y = x) = decide (x = y) := by simp [eq_comm]
    refine ⟨by omega, fun hc => ?_, fun hc => ⟨by omega, loop_next (i + 1) 0 ⟨by omega, ?_⟩ (by omega) ?_ ?_⟩⟩
    · rw [← hsy, hc, Bool.true_or] at ho
      rw [← ho] at hK
      exact .done hK
    · rw [← hsy, hc, Bool.false_or] at ho
      exact ho
    · simp [go_sem]
    · simp [go_sem]
  · obtain rfl : i = (l.take n).length := by omega
    rw [inB, any_end] at ho
    rw [← ho] at hK
    generalize hm : (l.take n).length = m at *
    rcases Nat.lt_or_ge m n with h1 | h1
    · have g1 : decide ((m : Int) < (n : Int)) = true := by simp; omega
      have g2 : decide ((m : Int) < (l.length : Int)) = false := by simp; omega
      simp (maxSteps := 1000000) -dsimp only [go_sem, g1, g2]
      exact .done hK
    · have g1 : decide ((m : Int) < (n : Int)) = false := by simp; omega
      simp (maxSteps := 1000000) -dsimp only [go_sem, g1]
      exact .done hK
/-! ### Struct, Enum, FieldOf -/
set_option maxRecDepth 100000 in
theorem mRStruct : Meets Try.prog 23 stSpP := by
  refine meets_fn Try.func23 ok23 2 (by rw [Try.ntmps23]; decide) (meetsAll_nil _) (fun av H K h => by obtain ⟨_, _, rfl, _⟩ := h; rfl) ?_
  rintro av H K ⟨s, n, rfl, rfl, hs, hK⟩
  rw [← fS_has] at hK
  have hl := hs.ok.ls
  simp -dsimp only [go_sem, scC, pc23, rs23]
  refine vc_loop (α := Nat) (fun i => [(1, tS n), (2, .va (.c1 (.pt 0 0))), (4, .va (.c1 (.pt 1 0))), (6, iS .i64 i)]) (fun _ => [.cells (scC s) 25, .cells [.vl (.string (mk [])), .vl (.slice none 0 0)] 32])
    (fun i => i ≤ s.ss.length ∧ fS (s.ss.drop i) n = fS s.ss n) (fun i => s.ss.length - i) 0 2 ⟨Nat.zero_le _, rfl⟩ ?_ ?_ ?_
  · simp [go_sem]
  · simp [go_sem, scC]
  rintro i ⟨hi, ho⟩
  rcases Nat.lt_or_ge i s.ss.length with hlt | hge
  · have hg : decide ((i : Int) < (s.ss.length : Int)) = true := by simp; omega
    obtain ⟨t, hx⟩ : ∃ e, s.ss[i]? = some e := ⟨_, List.getElem?_eq_getElem hlt⟩
    have q2 := row_rg' (row := stC) hx
    rw [fS, fnd_step hx] at ho
    cases hc : decide (t.nm = n) with
    | true =>
      rw [hc, Bool.cond_true] at ho
      rw [← ho] at hK
      simp (maxSteps := 1000000) -dsimp only [go_sem, hg, ↓q2, stC, scC, bl_beq, hc]
      refine ⟨by omega, by omega, .sel [] (by simp) (by simp) rfl (.done (by simpa [go_sem, stC] using hK))⟩
    | false =>
      rw [hc, Bool.cond_false] at ho
      simp (maxSteps := 1000000) -dsimp only [go_sem, hg, ↓q2, stC, scC, bl_beq, hc]
      refine ⟨by omega, by omega, loop_next (i + 1) 2 ⟨by omega, ho⟩ (by omega) ?_ ?_⟩
      · simp [go_sem]
      · simp [go_sem, scC]
  · have hg : decide ((i : Int) < (s.ss.length : Int)) = false := by simp; omega
    obtain rfl : i = s.ss.length := by omega
    rw [List.drop_length] at ho
    rw [← ho] at hK
    simp -dsimp only [go_sem, hg, scC]
    exact .sel [] (by simp) (by simp) rfl (.done (by simpa [go_sem, fS, stC_def] using hK))
def enSpP : W.Spec := fun av H K => ∃ (s : Sc) (n : ByteArray), av = [.va (.gs (scC s)), tS n] ∧ H = [] ∧ s.fit ∧ K (.tu [.gs (enC ((fEn s.es n).getD default)), bA (hasE s.es n)]) []
theorem enp_use {s : Sc} {n : ByteArray} {K : S → Hp → Prop} (h : s.fit) (hK : K (.tu [.gs (enC ((fEn s.es n).getD default)), bA (hasE s.es n)]) []) : enSpP [.va (.gs (scC s)), tS n] [] K := ⟨s, n, rfl, rfl, h, hK⟩
theorem enC_def : enC default = [.vl (.string (mk [])), .fz [], .fz []] := rfl
set_option maxRecDepth 100000 in
theorem mREnum : Meets Try.prog 25 enSpP := by
  refine meets_fn Try.func25 ok25 2 (by rw [Try.ntmps25]; decide) (meetsAll_nil _) (fun av H K h => by obtain ⟨_, _, rfl, _⟩ := h; rfl) ?_
  rintro av H K ⟨s, n, rfl, rfl, hs, hK⟩
  rw [← fEn_has] at hK
  have hl := hs.ok.le
  simp -dsimp only [go_sem, scC, pc25, rs25]
  refine vc_loop (α := Nat) (fun i => [(1, tS n), (2, .va (.c1 (.pt 0 0))), (4, .va (.c1 (.pt 1 0))), (6, iS .i64 i)]) (fun _ => [.cells (scC s) 25, .cells [.vl (.string (mk [])), .vl (.slice none 0 0), .vl (.slice none 0 0)] 47])
    (fun i => i ≤ s.es.length ∧ fEn (s.es.drop i) n = fEn s.es n) (fun i => s.es.length - i) 0 2 ⟨Nat.zero_le _, rfl⟩ ?_ ?_ ?_
  · simp [go_sem]
  · simp [go_sem, scC]
  rintro i ⟨hi, ho⟩
  rcases Nat.lt_or_ge i s.es.length with hlt | hge
  · have hg : decide ((i : Int) < (s.es.length : Int)) = true := by simp; omega
    obtain ⟨t, hx⟩ : ∃ e, s.es[i]? = some e := ⟨_, List.getElem?_eq_getElem hlt⟩
    have q2 := row_rg' (row := enC) hx
    rw [fEn, fnd_step hx] at ho
    cases hc : decide (t.nm = n) with
    | true =>
      rw [hc, Bool.cond_true] at ho
      rw [← ho] at hK
      simp (maxSteps := 1000000) -dsimp only [go_sem, hg, ↓q2, enC, scC, bl_beq, hc]
      refine ⟨by omega, by omega, .sel [] (by simp) (by simp) rfl (.done (by simpa [go_sem, enC] using hK))⟩
    | false =>
      rw [hc, Bool.cond_false] at ho
      simp (maxSteps := 1000000) -dsimp only [go_sem, hg, ↓q2, enC, scC, bl_beq, hc]
      refine ⟨by omega, by omega, loop_next (i + 1) 2 ⟨by omega, ho⟩ (by omega) ?_ ?_⟩
      · simp [go_sem]
      · simp [go_sem, scC]
  · have hg : decide ((i : Int) < (s.es.length : Int)) = false := by simp; omega
    obtain rfl : i = s.es.length := by omega
    rw [List.drop_length] at ho
    rw [← ho] at hK
    simp -dsimp only [go_sem, hg, scC]
    exact .sel [] (by simp) (by simp) rfl (.done (by simpa [go_sem, fEn, enC_def] using hK))
set_option maxRecDepth 100000 in
theorem mRFieldOf : Meets Try.prog 29 foSpP := by
  refine meets_fn Try.func29 ok29 2 (by rw [Try.ntmps29]; decide) (meetsAll_nil _) (fun av H K h => by obtain ⟨_, _, rfl, _⟩ := h; rfl) ?_
  rintro av H K ⟨s, n, rfl, rfl, hs, hsm, hK⟩
  have hl := hs.len
  simp -dsimp only [go_sem, stC, pc29, rs29]
  refine vc_loop (α := Nat) (fun i => [(1, iS .i64 n), (2, .va (.c1 (.pt 0 0))), (4, .va (.c1 (.pt 1 0))), (6, iS .i64 i)]) (fun _ => [.cells (stC s) 32, .cells [.vl (.int .i64 0), .vl (.string (mk [])), .vl (.int .i64 0), .vl (.int .i64 0), .vl (.string (mk [])), .vl (.slice none 0 0), .vl (.bool false)] 53])
    (fun i => i ≤ s.fs.length ∧ fF (s.fs.drop i) n = fF s.fs n) (fun i => s.fs.length - i) 0 2 ⟨Nat.zero_le _, rfl⟩ ?_ ?_ ?_
  · simp [go_sem]
  · simp [go_sem, stC]
  rintro i ⟨hi, ho⟩
  rcases Nat.lt_or_ge i s.fs.length with hlt | hge
  · have hg : decide ((i : Int) < (s.fs.length : Int)) = true := by simp; omega
    obtain ⟨t, hx⟩ : ∃ e, s.fs[i]? = some e := ⟨_, List.getElem?_eq_getElem hlt⟩
    have q2 := row_rg' (row := flC) hx
    rw [fF, fnd_step hx] at ho
    have hq : (t.num == n) = decide (t.num = n) := rfl
    cases hc : decide (t.num = n) with
    | true =>
      rw [hc, Bool.cond_true] at ho
      rw [← ho] at hK
      simp (maxSteps := 1000000) -dsimp only [go_sem, hg, ↓q2, flC, stC, hq, hc]
      refine ⟨by omega, by omega, .sel [] (by simp) (by simp) rfl (.done (by simpa [go_sem, flC] using hK))⟩
    | false =>
      rw [hc, Bool.cond_false] at ho
      simp (maxSteps := 1000000) -dsimp only [go_sem, hg, ↓q2, flC, stC, hq, hc]
      refine ⟨by omega, by omega, loop_next (i + 1) 2 ⟨by omega, ho⟩ (by omega) ?_ ?_⟩
      · simp [go_sem]
      · simp [go_sem, stC]
  · have hg : decide ((i : Int) < (s.fs.length : Int)) = false := by simp; omega
    obtain rfl : i = s.fs.length := by omega
    rw [List.drop_length] at ho
    rw [← ho] at hK
    simp -dsimp only [go_sem, hg, stC]
    exact .sel [] (by simp) (by simp) rfl (.done (by simpa [go_sem, fF, flC_def] using hK))
end Go.Proofs.Ytpfmkfafagiicaa
/- The reference: long, Same, SameField, SameStruct, SameEnum. -/
namespace Go.Proofs.Ytpfmkfafagiicaa
open Go.W
noncomputable def eqB {α : Type} (a b : α) : Bool := @decide (a = b) (Classical.propDecidable _)
theorem eqB_eq {α : Type} {a b : α} (h : a = b) : eqB a b = true := by unfold eqB; simp [h]
theorem eqB_ne {α : Type} {a b : α} (h : a ≠ b) : eqB a b = false := by unfold eqB; simp [h]
theorem eqB_iff {α : Type} {a b : α} : eqB a b = true ↔ a = b := by unfold eqB; simp
def g2Pre (p : List C → Prop) : List S → Prop := fun av => match av with
  | [.va (.gs r), .va (.gs q)] => p r ∧ p q
  | _ => False
theorem g2Pre_open {p : List C → Prop} {av : List S} (h : g2Pre p av) : ∃ r q, av = [.va (.gs r), .va (.gs q)] ∧ p r ∧ p q := by
  unfold g2Pre at h
  split at h
  · exact ⟨_, _, rfl, h⟩
  · exact h.elim
def g2Val {α : Type} (d : List C → α) (f : α → α → Value) : List S → A := fun av => match av with
  | [.va (.gs r), .va (.gs q)] => .c1 (.vl (f (d r) (d q)))
  | _ => .gs []
noncomputable def g2Fn {α : Type} (p : List C → Prop) (d : List C → α) (f : α → α → Value) : Fun := ⟨g2Pre p, g2Val d f, fun av h => by obtain ⟨r, q, rfl, _⟩ := g2Pre_open h; trivial⟩
theorem g2Fn_len {α : Type} {p : List C → Prop} {d : List C → α} {f : α → α → Value} : ∀ av H K, (g2Fn p d f).sp av H K → av.length = 2 := fun av H K h => by obtain ⟨r, q, rfl, _⟩ := g2Pre_open h.1.1; rfl
attribute [go_sem] g2Fn g2Pre g2Val
set_option maxRecDepth 100000 in
theorem mRSame' : ∀ N, Meets Try.prog 21 (saFn N).sp
  | 0 => ⟨by kernel_rfl, by rintro xs vs E ro w K _ _ _ ⟨⟨h, _⟩, _⟩; obtain ⟨a, _, _, _, _, h⟩ := saPre_open h; have := a.h_pos; omega⟩
  | N + 1 => by
    refine meets_fn Try.func21 ok21 2 (by rw [Try.ntmps21]; decide) (meetsAll_f (mRSame' N) (meetsAll_nil _)) saFn_len ?_
    rintro av H K ⟨⟨h, rfl⟩, hK⟩
    obtain ⟨a, b, rfl, ha, hb, hh⟩ := saPre_open h
    have hK : K (bS (tyB a b)) [] := by
      have : (saFn (N + 1)).val [.va (.gs (tyC a)), .va (.gs (tyC b))] = bA (tyB a b) := by simp -dsimp only [go_sem]
      rw [this] at hK; exact hK
    clear h
    have fin : ∀ (x : Bool) (R : Hp), tyB a b = x → W.Fin 0 K (bS x) R := fun x R h => by
      rw [h] at hK
      exact .sel [] (by simp) (by simp) rfl (.done (by simpa [go_sem] using hK))
    obtain ⟨k, s, n, e⟩ := a
    obtain ⟨k', s', n', e'⟩ := b
    have hla := ha.len
    have hoa := ha.e
    have hob := hb.e
    simp only [Ty.e] at hla hoa hob
    simp (maxSteps := 1000000) -dsimp only [go_sem, tyC, tysC_map, pc21, rs21, bl_beq]
    refine ⟨fun h1 => fin false _ (tyB_ne fun he => ?_), fun h1 => ?_⟩
    · obtain ⟨rfl, rfl, rfl, rfl⟩ := mk_eq.1 he
      simp at h1
    simp only [Bool.or_eq_false_iff, bne_eq_false_iff_eq, Bool.not_eq_false', decide_eq_true_eq] at h1
    obtain ⟨⟨⟨rfl, rfl⟩, rfl⟩, hl⟩ := h1
    have hl : e.length = e'.length := by omega
    refine vc_loop (α := Nat) (fun i => [(2, .va (.c1 (.pt 0 0))), (3, .va (.c1 (.pt 1 0))), (5, iS .i64 i)]) (fun i => [.cells (tyC (.mk k s n e)) 40, .cells (tyC (.mk k s n e')) 40])
      (fun i => i ≤ e.length ∧ ∀ j, j < i → e[j]? = e'[j]?) (fun i => e.length - i) 0 2 ⟨Nat.zero_le _, fun j hj => by omega⟩ ?_ ?_ ?_
    · simp -dsimp only [go_sem] <;> simp
    · simp -dsimp only [go_sem, tyC, tysC_map] <;> simp
    rintro i ⟨hi, ho⟩
    rcases Nat.lt_or_ge i e.length with hlt | hge
    · have hg : decide ((i : Int) < (e.length : Int)) = true := by simp; omega
      obtain ⟨u, hx⟩ : ∃ t, e[i]? = some t := ⟨_, List.getElem?_eq_getElem hlt⟩
      obtain ⟨v, hy⟩ : ∃ t, e'[i]? = some t := ⟨_, List.getElem?_eq_getElem (by omega)⟩
      have q1 := row_rg' (row := tyC) hx
      have q2 := row_rg' (row := tyC) hy
      have hu : isTy (tyC u) := isTy_mk (hoa u (List.mem_of_getElem? hx))
      have hv : isTy (tyC v) := isTy_mk (hob v (List.mem_of_getElem? hy))
      have huh : u.h ≤ N := by have := Ty.hs_mem (List.mem_of_getElem? hx); rw [Ty.h] at hh; omega
      simp (maxSteps := 1000000) -dsimp only [go_sem, hg, tyC, tysC_map]
      simp (maxSteps := 1000000) -dsimp only [go_sem, tyC_len, hu, hv, hx, hy, Option.some.injEq, forall_eq']
      refine ⟨by omega, by omega, huh, fun h1 => fin false _ (tyB_ne fun he => ?_), fun h1 => ?_⟩
      · obtain ⟨_, _, _, rfl⟩ := mk_eq.1 he
        rw [hx] at hy
        rw [tyB_eq (Option.some.inj hy)] at h1
        simp at h1
      · have h1 : u = v := tyB_iff.1 (by simpa using h1)
        subst h1
        refine ⟨by omega, loop_next (i + 1) 2 ⟨by omega, fun j hj => ?_⟩ (by omega) ?_ ?_⟩
        · rcases Nat.lt_or_ge j i with h4 | h4
          · exact ho j h4
          · obtain rfl : j = i := by omega
            rw [hx, hy]
        · simp -dsimp only [go_sem] <;> simp
        · simp -dsimp only [go_sem, tyC, tysC_map] <;> simp
    · have hg : decide ((i : Int) < (e.length : Int)) = false := by simp; omega
      obtain rfl : i = e.length := by omega
      simp (maxSteps := 1000000) -dsimp only [go_sem, hg, tyC, tysC_map]
      refine fin true _ (tyB_eq ?_)
      rw [mk_eq]
      refine ⟨rfl, rfl, rfl, List.ext_getElem? fun j => ?_⟩
      rcases Nat.lt_or_ge j e.length with h4 | h4
      · exact ho j h4
      · rw [List.getElem?_eq_none h4, List.getElem?_eq_none (by omega)]
theorem mRSame : Meets Try.prog 21 sFn.sp := meets_all 0 mRSame' fun av H K ⟨⟨h, e⟩, hK⟩ => by
  obtain ⟨a, b, rfl, ha, hb⟩ := sPre_open h
  exact ⟨a.h, ⟨⟨⟨isTy_mk ha, isTy_mk hb, by rw [ty_dec]; exact Nat.le_refl _⟩, e⟩, hK⟩⟩
noncomputable def sfFn : Fun := g2Fn isFl C.fl fun a b => .bool (eqB a b)
noncomputable def ssFn : Fun := g2Fn isSt C.st fun a b => .bool (eqB a b)
noncomputable def seFn : Fun := g2Fn isEn C.en fun a b => .bool (eqB a b)
attribute [go_sem] sfFn ssFn seFn
theorem fl_eqB (a b : Fl) : eqB a b = (a.num == b.num && decide (a.nm = b.nm) && (a.opt == b.opt) && tyB a.ty b.ty) := by
  obtain ⟨a1, a2, a3, a4⟩ := a
  obtain ⟨b1, b2, b3, b4⟩ := b
  rw [Bool.eq_iff_iff, eqB_iff]
  simp only [Fl.mk.injEq, Bool.and_eq_true, beq_iff_eq, decide_eq_true_eq, tyB_iff]
  constructor
  · rintro ⟨rfl, rfl, rfl, rfl⟩; exact ⟨⟨⟨rfl, rfl⟩, rfl⟩, rfl⟩
  · rintro ⟨⟨⟨rfl, rfl⟩, rfl⟩, rfl⟩; exact ⟨rfl, rfl, rfl, rfl⟩
set_option maxRecDepth 100000 in
theorem mRSameField : Meets Try.prog 30 sfFn.sp := by
  refine meets_fn Try.func30 ok30 2 (by rw [Try.ntmps30]; decide) (meetsAll_f mRSame (meetsAll_nil _)) g2Fn_len ?_
  rintro av H K ⟨⟨h, rfl⟩, hK⟩
  obtain ⟨_, _, rfl, ⟨a, rfl, ha⟩, ⟨b, rfl, hb⟩⟩ := g2Pre_open h
  have hK : K (bS (eqB a b)) [] := by
    have : sfFn.val [.va (.gs (flC a)), .va (.gs (flC b))] = bA (eqB a b) := by simp -dsimp only [go_sem]
    rw [this] at hK; exact hK
  clear h
  rw [fl_eqB] at hK
  have h1 : isTy (tyC a.ty) := isTy_mk ha.ty
  have h2 : isTy (tyC b.ty) := isTy_mk hb.ty
  simp (maxSteps := 1000000) -dsimp only [go_sem, flC, pc30, rs30, bl_beq, fl_ty, h1, h2]
  exact .sel [] (by simp) (by simp) rfl (.done (by simpa [go_sem] using hK))
end Go.Proofs.Ytpfmkfafagiicaa
/- The reference: SameStruct, SameEnum, long. -/
namespace Go.Proofs.Ytpfmkfafagiicaa
open Go.W
theorem list_ext_lt {α : Type} {a b : List α} (hl : a.length = b.length) (h : ∀ j, j < a.length → a[j]? = b[j]?) : a = b := List.ext_getElem? fun j => by
  rcases Nat.lt_or_ge j a.length with h4 | h4
  · exact h j h4
  · rw [List.getElem?_eq_none h4, List.getElem?_eq_none (by omega)]
set_option maxRecDepth 100000 in
theorem mRSameStruct : Meets Try.prog 26 ssFn.sp := by
  refine meets_fn Try.func26 ok26 2 (by rw [Try.ntmps26]; decide) (meetsAll_f mRSameField (meetsAll_nil _)) g2Fn_len ?_
  rintro av H K ⟨⟨h, rfl⟩, hK⟩
  obtain ⟨_, _, rfl, ⟨a, rfl, ha⟩, ⟨b, rfl, hb⟩⟩ := g2Pre_open h
  have hK : K (bS (eqB a b)) [] := by
    have : ssFn.val [.va (.gs (stC a)), .va (.gs (stC b))] = bA (eqB a b) := by simp -dsimp only [go_sem]
    rw [this] at hK; exact hK
  clear h
  have fin : ∀ (x : Bool) (R : Hp), eqB a b = x → W.Fin 0 K (bS x) R := fun x R h => by
    rw [h] at hK
    exact .sel [] (by simp) (by simp) rfl (.done (by simpa [go_sem] using hK))
  obtain ⟨n, e⟩ := a
  obtain ⟨n', e'⟩ := b
  obtain ⟨_, hla, hoa⟩ := ha
  obtain ⟨_, hlb, hob⟩ := hb
  simp only at hla hlb hoa hob
  simp (maxSteps := 1000000) -dsimp only [go_sem, stC, pc26, rs26, bl_beq]
  refine ⟨fun h1 => fin false _ (eqB_ne fun he => ?_), fun h1 => ?_⟩
  · obtain ⟨rfl, rfl⟩ : n = n' ∧ e = e' := by simpa using he
    simp at h1
  simp only [Bool.or_eq_false_iff, bne_eq_false_iff_eq, Bool.not_eq_false', decide_eq_true_eq] at h1
  obtain ⟨rfl, hl⟩ := h1
  have hl : e.length = e'.length := by omega
  refine vc_loop (α := Nat) (fun i => [(2, .va (.c1 (.pt 0 0))), (3, .va (.c1 (.pt 1 0))), (5, iS .i64 i)]) (fun i => [.cells (stC ⟨n, e⟩) 32, .cells (stC ⟨n, e'⟩) 32])
    (fun i => i ≤ e.length ∧ ∀ j, j < i → e[j]? = e'[j]?) (fun i => e.length - i) 0 2 ⟨Nat.zero_le _, fun j hj => by omega⟩ ?_ ?_ ?_
  · simp -dsimp only [go_sem] <;> simp
  · simp -dsimp only [go_sem, stC] <;> simp
  rintro i ⟨hi, ho⟩
  rcases Nat.lt_or_ge i e.length with hlt | hge
  · have hg : decide ((i : Int) < (e.length : Int)) = true := by simp; omega
    obtain ⟨u, hx⟩ : ∃ t, e[i]? = some t := ⟨_, List.getElem?_eq_getElem hlt⟩
    obtain ⟨v, hy⟩ : ∃ t, e'[i]? = some t := ⟨_, List.getElem?_eq_getElem (by omega)⟩
    have q1 := row_rg' (row := flC) hx
    have q2 := row_rg' (row := flC) hy
    have hu : isFl (flC u) := isFl_mk (hoa u (List.mem_of_getElem? hx))
    have hv : isFl (flC v) := isFl_mk (hob v (List.mem_of_getElem? hy))
    have hud := fl_dec u
    have hvd := fl_dec v
    simp only [flC] at hu hv hud hvd
    simp (maxSteps := 1000000) -dsimp only [go_sem, hg, stC]
    simp (maxSteps := 1000000) -dsimp only [go_sem, flC, hu, hv, hud, hvd, hx, hy, Option.some.injEq, forall_eq']
    refine ⟨by omega, by omega, fun h1 => fin false _ (eqB_ne fun he => ?_), fun h1 => ?_⟩
    · obtain rfl : e = e' := by simpa using he
      rw [hx] at hy
      rw [eqB_eq (Option.some.inj hy)] at h1
      simp at h1
    · have h1 : u = v := eqB_iff.1 (by simpa using h1)
      subst h1
      refine ⟨by omega, loop_next (i + 1) 2 ⟨by omega, fun j hj => ?_⟩ (by omega) ?_ ?_⟩
      · rcases Nat.lt_or_ge j i with h4 | h4
        · exact ho j h4
        · obtain rfl : j = i := by omega
          rw [hx, hy]
      · simp -dsimp only [go_sem] <;> simp
      · simp -dsimp only [go_sem, stC] <;> simp
  · have hg : decide ((i : Int) < (e.length : Int)) = false := by simp; omega
    obtain rfl : i = e.length := by omega
    simp (maxSteps := 1000000) -dsimp only [go_sem, hg, stC]
    exact fin true _ (eqB_eq (by rw [list_ext_lt hl ho]))
set_option maxRecDepth 100000 in
theorem mRSameEnum : Meets Try.prog 27 seFn.sp := by
  refine meets_fn Try.func27 ok27 2 (by rw [Try.ntmps27]; decide) (meetsAll_nil _) g2Fn_len ?_
  rintro av H K ⟨⟨h, rfl⟩, hK⟩
  obtain ⟨_, _, rfl, ⟨a, rfl, ha⟩, ⟨b, rfl, hb⟩⟩ := g2Pre_open h
  have hK : K (bS (eqB a b)) [] := by
    have : seFn.val [.va (.gs (enC a)), .va (.gs (enC b))] = bA (eqB a b) := by simp -dsimp only [go_sem]
    rw [this] at hK; exact hK
  clear h
  have fin : ∀ (x : Bool) (R : Hp), eqB a b = x → W.Fin 0 K (bS x) R := fun x R h => by
    rw [h] at hK
    exact .sel [] (by simp) (by simp) rfl (.done (by simpa [go_sem] using hK))
  obtain ⟨n, e, d⟩ := a
  obtain ⟨n', e', d'⟩ := b
  obtain ⟨_, hla, hla2, _, _⟩ := ha
  simp only at hla hla2
  simp (maxSteps := 1000000) -dsimp only [go_sem, enC, pc27, rs27, bl_beq]
  refine ⟨fun h1 => fin false _ (eqB_ne fun he => ?_), fun h1 => ?_⟩
  · obtain ⟨rfl, rfl, rfl⟩ : n = n' ∧ e = e' ∧ d = d' := by simpa using he
    simp at h1
  simp only [Bool.or_eq_false_iff, bne_eq_false_iff_eq, Bool.not_eq_false', decide_eq_true_eq] at h1
  obtain ⟨⟨rfl, hl⟩, hl2⟩ := h1
  have hl : e.length = e'.length := by omega
  have hl2 : d.length = d'.length := by omega
  refine vc_loop (α := Nat) (fun i => [(2, .va (.c1 (.pt 0 0))), (3, .va (.c1 (.pt 1 0))), (5, iS .i64 i)]) (fun i => [.cells (enC ⟨n, e, d⟩) 47, .cells (enC ⟨n, e', d'⟩) 47])
    (fun i => i ≤ e.length ∧ ∀ j, j < i → e[j]? = e'[j]?) (fun i => e.length - i) 0 2 ⟨Nat.zero_le _, fun j hj => by omega⟩ ?_ ?_ ?_
  · simp -dsimp only [go_sem] <;> simp
  · simp -dsimp only [go_sem, enC] <;> simp
  rintro i ⟨hi, ho⟩
  rcases Nat.lt_or_ge i e.length with hlt | hge
  · have hg : decide ((i : Int) < (e.length : Int)) = true := by simp; omega
    obtain ⟨u, hx⟩ : ∃ t, e[i]? = some t := ⟨_, List.getElem?_eq_getElem hlt⟩
    obtain ⟨v, hy⟩ : ∃ t, e'[i]? = some t := ⟨_, List.getElem?_eq_getElem (by omega)⟩
    have q1 := row_rg' (row := stR) hx
    have q2 := row_rg' (row := stR) hy
    simp (maxSteps := 1000000) -dsimp only [go_sem, hg, enC]
    simp (maxSteps := 1000000) -dsimp only [go_sem, bl_beq, hx, hy, Option.some.injEq, forall_eq']
    refine ⟨by omega, by omega, fun h1 => fin false _ (eqB_ne fun he => ?_), fun h1 => ?_⟩
    · obtain ⟨rfl, rfl⟩ : e = e' ∧ d = d' := by simpa using he
      rw [hx] at hy
      obtain rfl := Option.some.inj hy
      simp at h1
    · have h1 : u = v := by simpa using h1
      subst h1
      refine ⟨by omega, loop_next (i + 1) 2 ⟨by omega, fun j hj => ?_⟩ (by omega) ?_ ?_⟩
      · rcases Nat.lt_or_ge j i with h4 | h4
        · exact ho j h4
        · obtain rfl : j = i := by omega
          rw [hx, hy]
      · simp -dsimp only [go_sem] <;> simp
      · simp -dsimp only [go_sem, enC] <;> simp
  · have hg : decide ((i : Int) < (e.length : Int)) = false := by simp; omega
    obtain rfl : i = e.length := by omega
    obtain rfl := list_ext_lt hl ho
    simp (maxSteps := 1000000) -dsimp only [go_sem, hg, enC]
    refine vc_loop (α := Nat) (fun i => [(2, .va (.c1 (.pt 0 0))), (3, .va (.c1 (.pt 1 0))), (6, iS .i64 i)]) (fun i => [.cells (enC ⟨n, e, d⟩) 47, .cells (enC ⟨n, e, d'⟩) 47])
      (fun i => i ≤ d.length ∧ ∀ j, j < i → d[j]? = d'[j]?) (fun i => d.length - i) 0 2 ⟨Nat.zero_le _, fun j hj => by omega⟩ ?_ ?_ ?_
    · simp -dsimp only [go_sem] <;> simp
    · simp -dsimp only [go_sem, enC] <;> simp
    clear ho hi hg hge
    rintro i ⟨hi, ho⟩
    rcases Nat.lt_or_ge i d.length with hlt | hge
    · have hg : decide ((i : Int) < (d.length : Int)) = true := by simp; omega
      obtain ⟨u, hx⟩ : ∃ t, d[i]? = some t := ⟨_, List.getElem?_eq_getElem hlt⟩
      obtain ⟨v, hy⟩ : ∃ t, d'[i]? = some t := ⟨_, List.getElem?_eq_getElem (by omega)⟩
      have q1 := row_rg' (row := inR) hx
      have q2 := row_rg' (row := inR) hy
      simp (maxSteps := 1000000) -dsimp only [go_sem, hg, enC]
      simp (maxSteps := 1000000) -dsimp only [go_sem, hx, hy, Option.some.injEq, forall_eq']
      refine ⟨by omega, by omega, fun h1 => fin false _ (eqB_ne fun he => ?_), fun h1 => ?_⟩
      · obtain rfl : d = d' := by simpa using he
        rw [hx] at hy
        obtain rfl := Option.some.inj hy
        simp at h1
      · have h1 : u = v := by simpa using h1
        subst h1
        refine ⟨by omega, loop_next (i + 1) 2 ⟨by omega, fun j hj => ?_⟩ (by omega) ?_ ?_⟩
        · rcases Nat.lt_or_ge j i with h4 | h4
          · exact ho j h4
          · obtain rfl : j = i := by omega
            rw [hx, hy]
        · simp -dsimp only [go_sem] <;> simp
        · simp -dsimp only [go_sem, enC] <;> simp
    · have hg : decide ((i : Int) < (d.length : Int)) = false := by simp; omega
      obtain rfl : i = d.length := by omega
      simp (maxSteps := 1000000) -dsimp only [go_sem, hg, enC]
      exact fin true _ (eqB_eq (by rw [list_ext_lt hl2 ho]))
set_option maxRecDepth 100000 in
theorem mRLong : Meets Try.prog 44 (gFn isSc C.sc fun s => .bool (largeF s)).sp := by
  refine meets_fn Try.func44 ok44 1 (by rw [Try.ntmps44]; decide) (meetsAll_nil _) gFn_len ?_
  rintro av H K ⟨⟨h, rfl⟩, hK⟩
  obtain ⟨_, rfl, s, rfl, hs⟩ := gPre_open h
  have hK : K (bS (largeF s)) [] := by
    have : (gFn isSc C.sc fun s => .bool (largeF s)).val [.va (.gs (scC s))] = bA (largeF s) := by simp -dsimp only [go_sem]
    rw [this] at hK; exact hK
  obtain ⟨hv, hle, hls, hes, hss⟩ := hs
  have big : largeF s = true → ∀ R : Hp, W.Fin 0 K (bS true) R := fun h R => by
    rw [h] at hK
    exact .sel [] (by simp) (by simp) rfl (.done (by simpa [go_sem] using hK))
  cases d1 : decide (16 < (s.es.length : Int)) with
  | true =>
    simp (maxSteps := 1000000) -dsimp only [go_sem, scC, pc44, rs44, d1]
    exact big (by unfold largeF; rw [show decide (16 < s.es.length) = true by simp at d1 ⊢; omega]; simp) _
  | false =>
  cases d2 : decide (16 < (s.ss.length : Int)) with
  | true =>
    simp (maxSteps := 1000000) -dsimp only [go_sem, scC, pc44, rs44, d1, d2]
    exact big (by unfold largeF; rw [show decide (16 < s.es.length + s.ss.length) = true by simp at d2 ⊢; omega]; simp) _
  | false =>
  cases d3 : decide (16 < (s.es.length : Int) + (s.ss.length : Int)) with
  | true =>
    simp (maxSteps := 1000000) -dsimp only [go_sem, scC, pc44, rs44, d1, d2, d3]
    exact ⟨by simp at d1 d2; omega, big (by unfold largeF; rw [show decide (16 < s.es.length + s.ss.length) = true by simp at d3 ⊢; omega]; simp) _⟩
  | false =>
  simp (maxSteps := 1000000) -dsimp only [go_sem, scC, pc44, rs44, d1, d2, d3]
  simp only [decide_eq_false_iff_not] at d1 d2 d3
  refine ⟨by omega, ?_⟩
  have hL : largeF s = (s.es.any (fun e => decide (16 < e.ns.length)) || s.ss.any (fun t => decide (16 < t.fs.length))) := by
    unfold largeF; rw [decide_eq_false (by omega), decide_eq_false (by omega)]; rfl
  refine vc_loop (α := Nat) (fun i => [(1, .va (.c1 (.pt 0 0))), (3, iS .i64 i)]) (fun _ => [.cells (scC s) 25])
    (fun i => i ≤ s.es.length ∧ (s.es.drop i).any (fun e => decide (16 < e.ns.length)) = s.es.any (fun e => decide (16 < e.ns.length))) (fun i => s.es.length - i) 0 1 ⟨Nat.zero_le _, rfl⟩ ?_ ?_ ?_
  · simp [go_sem]
  · simp [go_sem, scC]
  rintro i ⟨hi, ho⟩
  rcases Nat.lt_or_ge i s.es.length with hlt | hge
  · have hg : decide ((i : Int) < (s.es.length : Int)) = true := by simp; omega
    obtain ⟨e, hx⟩ : ∃ e, s.es[i]? = some e := ⟨_, List.getElem?_eq_getElem hlt⟩
    have q2 := row_rg' (row := enC) hx
    rw [any_step hx] at ho
    simp (maxSteps := 1000000) -dsimp only [go_sem, hg, ↓q2, enC, scC]
    and_intros
    all_goals first
      | omega
      | skip
    · intro hc
      have hc' : decide (16 < e.ns.length) = true := by simp at hc; simp; omega
      have : largeF s = true := by simp only [hL, ← ho, hc', Bool.true_or]
      rw [this] at hK
      exact .sel [] (by simp) (by simp) rfl (.done (by simpa [go_sem] using hK))
    · intro hc
      refine ⟨by omega, loop_next (i + 1) 1 ⟨by omega, ?_⟩ (by omega) ?_ ?_⟩
      · have hc' : decide (16 < e.ns.length) = false := by simp at hc; simp; omega
        rw [← ho, hc', Bool.false_or]
      · simp [go_sem]
      · simp [go_sem, scC]
  · have hg : decide ((i : Int) < (s.es.length : Int)) = false := by simp; omega
    obtain rfl : i = s.es.length := by omega
    rw [any_end] at ho
    rw [← ho, Bool.false_or] at hL
    simp (maxSteps := 1000000) -dsimp only [go_sem, hg, scC]
    refine vc_loop (α := Nat) (fun i => [(1, .va (.c1 (.pt 0 0))), (4, iS .i64 i)]) (fun _ => [.cells (scC s) 25])
      (fun i => i ≤ s.ss.length ∧ (s.ss.drop i).any (fun e => decide (16 < e.fs.length)) = s.ss.any (fun e => decide (16 < e.fs.length))) (fun i => s.ss.length - i) 0 1 ⟨Nat.zero_le _, rfl⟩ ?_ ?_ ?_
    · simp [go_sem]
    · simp [go_sem, scC]
    clear hi ho hge hg
    rintro i ⟨hi, ho⟩
    rcases Nat.lt_or_ge i s.ss.length with hlt | hge
    · have hg : decide ((i : Int) < (s.ss.length : Int)) = true := by simp; omega
      obtain ⟨e, hx⟩ : ∃ e, s.ss[i]? = some e := ⟨_, List.getElem?_eq_getElem hlt⟩
      have q2 := row_rg' (row := stC) hx
      rw [any_step hx] at ho
      simp (maxSteps := 1000000) -dsimp only [go_sem, hg, ↓q2, stC, scC]
      and_intros
      all_goals first
        | omega
        | skip
      · intro hc
        have hc' : decide (16 < e.fs.length) = true := by simp at hc; simp; omega
        have : largeF s = true := by simp only [hL, ← ho, hc', Bool.true_or]
        rw [this] at hK
        exact .sel [] (by simp) (by simp) rfl (.done (by simpa [go_sem] using hK))
      · intro hc
        refine ⟨by omega, loop_next (i + 1) 1 ⟨by omega, ?_⟩ (by omega) ?_ ?_⟩
        · have hc' : decide (16 < e.fs.length) = false := by simp at hc; simp; omega
          rw [← ho, hc', Bool.false_or]
        · simp [go_sem]
        · simp [go_sem, scC]
    · have hg : decide ((i : Int) < (s.ss.length : Int)) = false := by simp; omega
      obtain rfl : i = s.ss.length := by omega
      rw [any_end] at ho
      simp (maxSteps := 1000000) -dsimp only [go_sem, hg, scC]
      rw [hL, ← ho] at hK
      exact .sel [] (by simp) (by simp) rfl (.done (by simpa [go_sem] using hK))
end Go.Proofs.Ytpfmkfafagiicaa
/- The reference: enum. -/
namespace Go.Proofs.Ytpfmkfafagiicaa
open Go.W
def siPre (len : Sc → Nat) : List S → Prop := fun av => match av with
  | [.va (.gs r), .va (.c1 (.vl (.int .i64 i)))] => isScF r ∧ 0 ≤ i ∧ i < (len (C.sc r) : Int)
  | _ => False
theorem siPre_open {len : Sc → Nat} {av : List S} (h : siPre len av) : ∃ (s : Sc) (i : Nat), av = [.va (.gs (scC s)), iS .i64 i] ∧ s.fit ∧ i < len s := by
  unfold siPre at h
  split at h
  · obtain ⟨⟨a, rfl, ha⟩, h1, h2⟩ := h
    rw [sc_dec] at h2
    rename_i i
    exact ⟨a, i.toNat, by rw [Int.toNat_of_nonneg h1], ha, by omega⟩
  · exact h.elim
noncomputable def siVal (f : Sc → Nat → Int) : List S → A := fun av => match av with
  | [.va (.gs r), .va (.c1 (.vl (.int .i64 i)))] => iA .i64 (f (C.sc r) i.toNat)
  | _ => .gs []
noncomputable def siFn (len : Sc → Nat) (f : Sc → Nat → Int) : Fun := ⟨siPre len, siVal f, fun av h => by obtain ⟨a, b, rfl, _⟩ := siPre_open h; trivial⟩
theorem siFn_len {len : Sc → Nat} {f : Sc → Nat → Int} : ∀ av H K, (siFn len f).sp av H K → av.length = 2 := fun av H K h => by obtain ⟨a, b, rfl, _⟩ := siPre_open h.1.1; rfl
attribute [go_sem] siFn siPre siVal
set_option maxRecDepth 100000 in
set_option maxHeartbeats 4000000 in
theorem mREnumE : Meets Try.prog 45 (siFn (fun s => s.es.length) enAt).sp := by
  refine meets_fn Try.func45 ok45 2 (by rw [Try.ntmps45]; decide) (meetsAll_f mRIsType (meetsAll_f mRIsName (meetsAll_f mRIn (meetsAll_nil _)))) siFn_len ?_
  rintro av H K ⟨⟨h, rfl⟩, hK⟩
  obtain ⟨s, i, rfl, hs, hi⟩ := siPre_open (len := fun s => s.es.length) h
  have hK : K (iS .i64 (enAt s i)) [] := by
    have : (siFn (fun s => s.es.length) enAt).val [.va (.gs (scC s)), iS .i64 i] = iA .i64 (enAt s i) := by simp -dsimp only [go_sem, Int.toNat_natCast]
    rw [this] at hK; exact hK
  clear h
  have hle := hs.ok.le
  have fin : ∀ (x : Int) (R : Hp), enAt s i = x → W.Fin 0 K (iS .i64 x) R := fun x R h => by
    rw [h] at hK
    exact .sel [] (by simp) (by simp) rfl (.done (by simpa [go_sem] using hK))
  obtain ⟨e, hx⟩ : ∃ e, s.es[i]? = some e := ⟨_, List.getElem?_eq_getElem hi⟩
  have q1 := row_rg' (row := enC) hx
  obtain ⟨_, hln, hlv, _, _⟩ := hs.ok.es e (List.mem_of_getElem? hx)
  have hA : enAt s i = bif !(tnB (bl e.nm)) then 5 else bif hasE (s.es.take i) e.nm then 7 else ceF e := by unfold enAt; rw [hx]
  simp (maxSteps := 1000000) -dsimp only [go_sem, scC, pc45, rs45, ↓q1, enC]
  refine ⟨by omega, fun h1 => fin 5 _ (by rw [hA, h1]; rfl), fun h1 => ?_⟩
  rw [h1] at hA
  simp only [Bool.cond_false] at hA
  refine vc_loop (α := Nat) (fun j => [(1, iS .i64 i), (2, .va (.c1 (.pt 0 0))), (5, .va (.c1 (.pt 1 0))), (6, iS .i64 j)]) (fun _ => [.cells (scC s) 25, .cells (enC e) 47])
    (fun j => j ≤ i ∧ hasE ((s.es.take i).drop j) e.nm = hasE (s.es.take i) e.nm) (fun j => i - j) 0 2 ⟨Nat.zero_le _, rfl⟩ ?_ ?_ ?_
  · simp [go_sem]
  · simp [go_sem, scC, enC]
  have hti : (s.es.take i).length = i := by rw [List.length_take]; omega
  rintro j ⟨hj, ho⟩
  rcases Nat.lt_or_ge j i with hlt | hge
  · have hg : decide ((j : Int) < (i : Int)) = true := by simp; omega
    obtain ⟨d, hd⟩ : ∃ d, s.es[j]? = some d := ⟨_, List.getElem?_eq_getElem (by omega)⟩
    have hd' : (s.es.take i)[j]? = some d := by rw [List.getElem?_take, if_pos hlt]; exact hd
    have q2 := row_rg' (row := enC) hd
    rw [hasE, any_step hd'] at ho
    simp (maxSteps := 1000000) -dsimp only [go_sem, hg, ↓q2, enC, scC, bl_beq]
    refine ⟨by omega, fun hc => ?_, fun hc => ?_⟩
    · rw [hc, Bool.true_or] at ho
      exact fin 7 _ (by rw [hA, ← ho]; rfl)
    · rw [hc, Bool.false_or] at ho
      refine ⟨by omega, loop_next (j + 1) 2 ⟨by omega, ho⟩ (by omega) ?_ ?_⟩
      · simp [go_sem]
      · simp [go_sem, scC, enC]
  · obtain rfl : j = i := by omega
    have hg : decide ((j : Int) < (j : Int)) = false := by simp
    rw [List.drop_eq_nil_of_le (by omega)] at ho
    rw [← ho] at hA
    replace hA : enAt s j = ceF e := hA
    clear ho hti
    simp (maxSteps := 1000000) -dsimp only [go_sem, hg, enC, scC]
    refine ⟨fun h1 => ?_, fun h1 => ?_⟩
    · refine fin 2 _ ?_
      rw [hA]
      unfold ceF
      have : (decide (e.ns.length = 0) || decide (e.ns.length ≠ e.vs.length)) = true := by
        simp only [Bool.or_eq_true, beq_iff_eq, bne_iff_ne, decide_eq_true_eq] at h1 ⊢; omega
      rw [this]; rfl
    simp only [Bool.or_eq_false_iff, beq_eq_false_iff_ne, bne_eq_false_iff_eq, ne_eq] at h1
    have hl : e.ns.length = e.vs.length := by omega
    have hF : enAt s j = fE (ceAt e) (e.ns.length - 0) 0 := by
      rw [hA]; unfold ceF; rw [decide_eq_false (by omega), decide_eq_false (by omega)]; rfl
    clear hA hg hge hj
    refine vc_loop (α := Nat) (fun k => [(5, .va (.c1 (.pt 1 0))), (7, iS .i64 k)]) (fun _ => [.cells (scC s) 25, .cells (enC e) 47])
      (fun k => k ≤ e.ns.length ∧ fE (ceAt e) (e.ns.length - k) k = fE (ceAt e) (e.ns.length - 0) 0) (fun k => e.ns.length - k) 0 2 ⟨Nat.zero_le _, rfl⟩ ?_ ?_ ?_
    · simp [go_sem]
    · simp [go_sem, scC, enC]
    rintro k ⟨hk, ho⟩
    rcases Nat.lt_or_ge k e.ns.length with hlt | hge
    · have hg : decide ((k : Int) < (e.ns.length : Int)) = true := by simp; omega
      obtain ⟨nm, hx2⟩ : ∃ nm, e.ns[k]? = some nm := ⟨_, List.getElem?_eq_getElem hlt⟩
      obtain ⟨n, hy⟩ : ∃ nm, e.vs[k]? = some nm := ⟨_, List.getElem?_eq_getElem (by omega)⟩
      have q2 := row_rg' (row := stR) hx2
      have q3 := row_rg' (row := inR) hy
      have hbs : isBs (e.ns.map stR) := isBs_mk hln
      have hk0 : (0 ≤ (k : Int)) = True := by simp
      have hk1 : ((k : Int) ≤ 9223372036854775807) = True := by simp; omega
      have hA : ceAt e k = bif !(isNm (bl nm)) then (5 : Int) else bif inB (e.ns.take k) nm then 7 else bif decide (n < 0) || decide (127 < n) then 4 else
        bif (decide ((k : Int) = 0) && decide (n ≠ 0)) || (decide (0 < (k : Int)) && match e.vs[k - 1]? with | some m => decide (n ≤ m) | none => false) then 2 else 0 := by
        unfold ceAt; rw [hx2, hy]; rfl
      have fin' : ∀ (x : Int) (R : Hp), ceAt e k = x → x ≠ 0 → W.Fin 0 K (iS .i64 x) R := fun x R h1 h2 => fin x R (by
        rw [hF, ← ho, fE_err hlt (by rw [h1]; exact h2), h1])
      have nxt : ceAt e k = 0 → fE (ceAt e) (e.ns.length - (k + 1)) (k + 1) = fE (ceAt e) (e.ns.length - 0) 0 := fun h1 => by rw [← ho, fE_ok hlt h1]
      cases hc1 : isNm (bl nm) with
      | false =>
        simp (maxSteps := 1000000) -dsimp only [go_sem, hg, ↓q2, enC, scC, hc1]
        exact ⟨by omega, fin' 5 _ (by rw [hA, hc1]; rfl) (by decide)⟩
      | true =>
        cases hc2 : inB (e.ns.take k) nm with
        | true =>
          simp (maxSteps := 1000000) -dsimp only [go_sem, hg, ↓q2, enC, scC, hc1, hc2, hbs, hk0, hk1, Int.toNat_natCast]
          exact ⟨by omega, by omega, fin' 7 _ (by rw [hA, hc1, hc2]; rfl) (by decide)⟩
        | false =>
          cases hc3 : decide (n < 0) with
          | true =>
            simp (maxSteps := 1000000) -dsimp only [go_sem, hg, ↓q2, ↓q3, enC, scC, hc1, hc2, hbs, hk0, hk1, Int.toNat_natCast, hc3]
            exact ⟨by omega, by omega, by omega, fin' 4 _ (by rw [hA, hc1, hc2, hc3]; rfl) (by decide)⟩
          | false =>
          cases hc4 : decide (127 < n) with
          | true =>
            simp (maxSteps := 1000000) -dsimp only [go_sem, hg, ↓q2, ↓q3, enC, scC, hc1, hc2, hbs, hk0, hk1, Int.toNat_natCast, hc3, hc4]
            exact ⟨by omega, by omega, by omega, by omega, fin' 4 _ (by rw [hA, hc1, hc2, hc3, hc4]; rfl) (by decide)⟩
          | false =>
          have hA2 : ceAt e k = bif (decide ((k : Int) = 0) && decide (n ≠ 0)) || (decide (0 < (k : Int)) && match e.vs[k - 1]? with | some m => decide (n ≤ m) | none => false) then 2 else 0 := by rw [hA, hc1, hc2, hc3, hc4]; rfl
          clear hA
          rcases Nat.eq_zero_or_pos k with h0 | h0
          · have g0 : ((k : Int) == 0) = true := by simp; omega
            have g1 : decide (0 < (k : Int)) = false := by simp; omega
            have g2 : decide ((k : Int) = 0) = true := g0
            cases hn : (n != 0) with
            | true =>
              simp (maxSteps := 1000000) -dsimp only [go_sem, hg, ↓q2, ↓q3, enC, scC, hc1, hc2, hbs, hk0, hk1, Int.toNat_natCast, hc3, hc4, g0, g1, hn, Bool.and_false]
              and_intros
              all_goals first
                | omega
                | exact fin' 2 _ (by rw [hA2, g1, g2]; simp at hn; simp [hn]) (by decide)
            | false =>
              simp (maxSteps := 1000000) -dsimp only [go_sem, hg, ↓q2, ↓q3, enC, scC, hc1, hc2, hbs, hk0, hk1, Int.toNat_natCast, hc3, hc4, g0, g1, hn, Bool.and_false]
              and_intros
              all_goals first
                | omega
                | exact loop_next (k + 1) 2 ⟨by omega, nxt (by rw [hA2, g1]; simp at hn; simp [hn])⟩ (by omega) (by simp [go_sem]) (by simp [go_sem, scC, enC])
          · have g0 : ((k : Int) == 0) = false := by simp; omega
            have g1 : decide (0 < (k : Int)) = true := by simp; omega
            have g2 : decide ((k : Int) = 0) = false := g0
            obtain ⟨m, hm⟩ : ∃ m, e.vs[k - 1]? = some m := ⟨_, List.getElem?_eq_getElem (by omega)⟩
            have q4 : ((k : Int) - 1).toNat = k - 1 := by omega
            have q5 := row_rg (row := inR) hm
            cases hn : decide (n ≤ m) with
            | true =>
              simp (maxSteps := 1000000) -dsimp only [go_sem, hg, ↓q2, ↓q3, enC, scC, hc1, hc2, hbs, hk0, hk1, Int.toNat_natCast, Option.some.injEq, forall_eq', hc3, hc4, g0, g1, q4, hm, hn, Bool.and_true]
              and_intros
              all_goals first
                | omega
                | exact fin' 2 _ (by rw [hA2, hm, g1]; simp only [hn]; simp) (by decide)
            | false =>
              simp (maxSteps := 1000000) -dsimp only [go_sem, hg, ↓q2, ↓q3, enC, scC, hc1, hc2, hbs, hk0, hk1, Int.toNat_natCast, Option.some.injEq, forall_eq', hc3, hc4, g0, g1, q4, hm, hn, Bool.and_true]
              and_intros
              all_goals first
                | omega
                | exact loop_next (k + 1) 2 ⟨by omega, nxt (by rw [hA2, hm, g1, g2]; simp only [hn]; rfl)⟩ (by omega) (by simp [go_sem]) (by simp [go_sem, scC, enC])
    · have hg : decide ((k : Int) < (e.ns.length : Int)) = false := by simp; omega
      obtain rfl : k = e.ns.length := by omega
      rw [fE_end] at ho
      simp (maxSteps := 1000000) -dsimp only [go_sem, hg, enC]
      exact fin 0 _ (by rw [hF, ← ho])
end Go.Proofs.Ytpfmkfafagiicaa
/- The reference: Right. -/
namespace Go.Proofs.Ytpfmkfafagiicaa
open Go.W
def rtPre (N : Nat) : List S → Prop := fun av => match av with
  | [.va (.gs r), .va (.gs q)] => isScF r ∧ isTy q ∧ (C.ty q).h ≤ N
  | _ => False
theorem rtPre_open {N : Nat} {av : List S} (h : rtPre N av) : ∃ s t, av = [.va (.gs (scC s)), .va (.gs (tyC t))] ∧ s.fit ∧ TyOk t ∧ t.h ≤ N := by
  unfold rtPre at h
  split at h
  · obtain ⟨⟨a, rfl, ha⟩, ⟨b, rfl, hb⟩, hh⟩ := h
    rw [ty_dec] at hh
    exact ⟨a, b, rfl, ha, hb, hh⟩
  · exact h.elim
noncomputable def rtVal : List S → A := fun av => match av with
  | [.va (.gs r), .va (.gs q)] => bA (valF (C.sc r).ss (C.sc r).es (C.ty q))
  | _ => .gs []
noncomputable def rtFn (N : Nat) : Fun := ⟨rtPre N, rtVal, fun av h => by obtain ⟨a, b, rfl, _⟩ := rtPre_open h; trivial⟩
theorem rtFn_len {N : Nat} : ∀ av H K, (rtFn N).sp av H K → av.length = 2 := fun av H K h => by obtain ⟨a, b, rfl, _⟩ := rtPre_open h.1.1; rfl
attribute [go_sem] rtFn rtPre rtVal
theorem val6 {ss : List St} {es : List En} {s : Int} {n : ByteArray} {e : List Ty} : valF ss es (.mk 6 s n e) = (hasS ss n && s == 0 && (e.length : Int) == 0) := by
  rw [valF]; rfl
theorem val7 {ss : List St} {es : List En} {s : Int} {n : ByteArray} {e : List Ty} : valF ss es (.mk 7 s n e) = (hasE es n && s == 0 && (e.length : Int) == 0) := by
  rw [valF]; rfl
set_option maxRecDepth 100000 in
set_option maxHeartbeats 4000000 in
theorem mRight : ∀ N, Meets Try.prog 70 (rtFn N).sp
  | 0 => ⟨by kernel_rfl, by rintro xs vs E ro w K _ _ _ ⟨⟨h, _⟩, _⟩; obtain ⟨_, a, _, _, _, h⟩ := rtPre_open h; have := a.h_pos; omega⟩
  | N + 1 => by
    refine meets_fn Try.func70 ok70 2 (by rw [Try.ntmps70]; decide) (meetsAll_f (mRight N) (meetsAll_f mRPlain (meetsAll_s mRStruct (meetsAll_s mREnum (meetsAll_nil _))))) rtFn_len ?_
    rintro av H K ⟨⟨h, rfl⟩, hK⟩
    obtain ⟨sc, t, rfl, hs, ht, hh⟩ := rtPre_open h
    have hK : K (bS (valF sc.ss sc.es t)) [] := by
      have : (rtFn (N + 1)).val [.va (.gs (scC sc)), .va (.gs (tyC t))] = bA (valF sc.ss sc.es t) := by simp -dsimp only [go_sem]
      rw [this] at hK; exact hK
    clear h
    have fin : ∀ (b : Bool) (R : Hp), valF sc.ss sc.es t = b → W.Fin 0 K (bS b) R := fun b R h => by
      rw [h] at hK
      exact .sel [] (by simp) (by simp) rfl (.done (by simp -dsimp only [go_sem]; simpa using hK))
    have hit : isTy (tyC t) := isTy_mk ht
    cases t with
    | mk k s n e =>
    have hcd := ty_dec (.mk k s n e)
    rw [tyC, tysC_map] at hcd hit
    have hcl : (Ty.mk k s n e).e.length = e.length := rfl
    by_cases k1 : (k == 1) = true
    · have hF := valF.eq_1 sc.ss sc.es k s n e
      rw [k1] at hF
      simp only [Bool.cond_true] at hF
      simp (maxSteps := 1000000) -dsimp only [go_sem, scC, tyC, tysC_map, pc70, rs70, k1, hit, hcd, hcl]
      exact fin _ _ hF
    rw [Bool.not_eq_true] at k1
    by_cases k2 : (k == 2) = true
    · have hF := valF.eq_1 sc.ss sc.es k s n e
      rw [k1, k2] at hF
      simp only [Bool.cond_true, Bool.cond_false] at hF
      simp (maxSteps := 1000000) -dsimp only [go_sem, scC, tyC, tysC_map, pc70, rs70, k1, k2, hit, hcd, hcl]
      exact fin _ _ hF
    rw [Bool.not_eq_true] at k2
    by_cases k3 : (k == 3) = true
    · have hF := valF.eq_1 sc.ss sc.es k s n e
      rw [k1, k2, k3] at hF
      simp only [Bool.cond_true, Bool.cond_false, Bool.and_false, Bool.or_false] at hF
      simp (maxSteps := 1000000) -dsimp only [go_sem, scC, tyC, tysC_map, pc70, rs70, k1, k2, k3, hit, hcd, hcl]
      exact fin _ _ hF
    rw [Bool.not_eq_true] at k3
    by_cases k4 : (k == 4) = true
    · have hF := valF.eq_1 sc.ss sc.es k s n e
      rw [k1, k2, k3, k4] at hF
      simp only [Bool.cond_true, Bool.cond_false] at hF
      simp (maxSteps := 1000000) -dsimp only [go_sem, scC, tyC, tysC_map, pc70, rs70, k1, k2, k3, k4, hit, hcd, hcl]
      exact fin _ _ hF
    rw [Bool.not_eq_true] at k4
    by_cases k5 : (k == 5) = true
    · have hF := valF.eq_1 sc.ss sc.es k s n e
      rw [k1, k2, k3, k4, k5] at hF
      simp only [Bool.cond_true, Bool.cond_false] at hF
      cases hc : (decide (1 ≤ s) && decide (s ≤ 32) && bl n == [] && (e.length : Int) == 1) with
      | false =>
        have hF' : valF sc.ss sc.es (.mk k s n e) = false := by
          rw [hF]
          cases h0 : (decide (1 ≤ s) && decide (s ≤ 32) && bl n == []) with
          | false => rfl
          | true =>
            rw [h0, Bool.true_and] at hc
            match e, hc with
            | [], _ => rfl
            | [u], hc => simp at hc
            | u :: v :: r, _ => simp [valFs]
        simp (maxSteps := 1000000) -dsimp only [go_sem, scC, tyC, tysC_map, pc70, rs70, k1, k2, k3, k4, k5, hc]
        exact fin _ _ hF'
      | true =>
        obtain ⟨u, rfl⟩ : ∃ u, e = [u] := by
          simp only [Bool.and_eq_true, beq_iff_eq] at hc
          exact List.length_eq_one_iff.1 (by omega)
        have h0 : (decide (1 ≤ s) && decide (s ≤ 32) && bl n == []) = true := by
          simp only [Bool.and_eq_true] at hc ⊢; exact hc.1
        have hF' : valF sc.ss sc.es (.mk k s n [u]) = valF sc.ss sc.es u := by rw [hF, h0]; simp [valFs]
        have hu2 : u.h ≤ N := by rw [Ty.h, Ty.hs, Ty.hs] at hh; omega
        have hu : isTy (tyC u) := isTy_mk (ht.e u (by simp [Ty.e]))
        have hsf := isScF_mk hs
        rw [scC] at hsf
        have hsd := sc_dec sc
        rw [scC] at hsd
        have hc' : (decide (1 ≤ s) && decide (s ≤ 32) && bl n == [] && ((1 : Nat) : Int) == 1) = true := hc
        simp (maxSteps := 1000000) -dsimp only [go_sem, scC, tyC, tysC_map, pc70, rs70, k1, k2, k3, k4, k5, hc']
        refine ⟨⟨by omega, fun r hr => by subst hr; exact tyC_len u⟩, fun r hr => ?_⟩
        subst hr
        simp (maxSteps := 1000000) -dsimp only [go_sem, hsf, hsd, hu, tyC_len]
        exact ⟨hu2, fin _ _ hF'⟩
    rw [Bool.not_eq_true] at k5
    by_cases k6 : (k == 6) = true
    · obtain rfl : k = 6 := by simpa using k6
      have hF := val6 (ss := sc.ss) (es := sc.es) (s := s) (n := n) (e := e)
      simp (maxSteps := 1000000) -dsimp only [go_sem, scC, tyC, tysC_map, pc70, rs70, k1, k2, k3, k4, k5, k6]
      refine stp_use hs ?_
      cases hc : hasS sc.ss n with
      | false =>
        rw [hc] at hF
        simp (maxSteps := 1000000) -dsimp only [go_sem, stC, hit, hcd, hcl]
        exact fin _ _ hF
      | true =>
        rw [hc] at hF
        simp (maxSteps := 1000000) -dsimp only [go_sem, stC, hit, hcd, hcl]
        exact fin _ _ hF
    rw [Bool.not_eq_true] at k6
    by_cases k7 : (k == 7) = true
    · obtain rfl : k = 7 := by simpa using k7
      have hF := val7 (ss := sc.ss) (es := sc.es) (s := s) (n := n) (e := e)
      simp (maxSteps := 1000000) -dsimp only [go_sem, scC, tyC, tysC_map, pc70, rs70, k1, k2, k3, k4, k5, k6, k7]
      refine enp_use hs ?_
      cases hc : hasE sc.es n with
      | false =>
        rw [hc] at hF
        simp (maxSteps := 1000000) -dsimp only [go_sem, enC, hit, hcd, hcl]
        exact fin _ _ hF
      | true =>
        rw [hc] at hF
        simp (maxSteps := 1000000) -dsimp only [go_sem, enC, hit, hcd, hcl]
        exact fin _ _ hF
    rw [Bool.not_eq_true] at k7
    have hF := valF.eq_1 sc.ss sc.es k s n e
    rw [k1, k2, k3, k4, k5, k6, k7] at hF
    simp only [Bool.cond_false] at hF
    simp (maxSteps := 1000000) -dsimp only [go_sem, scC, tyC, tysC_map, pc70, rs70, k1, k2, k3, k4, k5, k6, k7]
    exact fin _ _ hF
end Go.Proofs.Ytpfmkfafagiicaa
/- The reference: structure. -/
namespace Go.Proofs.Ytpfmkfafagiicaa
open Go.W
def r0Pre : List S → Prop := fun av => match av with
  | [.va (.gs r), .va (.gs q)] => isScF r ∧ isTy q
  | _ => False
theorem r0Pre_open {av : List S} (h : r0Pre av) : ∃ s t, av = [.va (.gs (scC s)), .va (.gs (tyC t))] ∧ s.fit ∧ TyOk t := by
  unfold r0Pre at h
  split at h
  · obtain ⟨⟨a, rfl, ha⟩, ⟨b, rfl, hb⟩⟩ := h
    exact ⟨a, b, rfl, ha, hb⟩
  · exact h.elim
noncomputable def r0Fn : Fun := ⟨r0Pre, rtVal, fun av h => by obtain ⟨a, b, rfl, _⟩ := r0Pre_open h; trivial⟩
attribute [go_sem] r0Fn r0Pre
theorem mRight0 : Meets Try.prog 70 r0Fn.sp := meets_all 0 mRight fun av H K ⟨⟨h, e⟩, hK⟩ => by
  obtain ⟨a, b, rfl, ha, hb⟩ := r0Pre_open h
  exact ⟨b.h, ⟨⟨⟨isScF_mk ha, isTy_mk hb, by rw [ty_dec]; exact Nat.le_refl _⟩, e⟩, hK⟩⟩
set_option maxRecDepth 100000 in
set_option maxHeartbeats 4000000 in
theorem mRStructE : Meets Try.prog 46 (siFn (fun s => s.ss.length) stAt).sp := by
  refine meets_fn Try.func46 ok46 2 (by rw [Try.ntmps46]; decide) (meetsAll_f mRIsType (meetsAll_s mREnum (meetsAll_f mRIsName (meetsAll_f mRight0 (meetsAll_nil _))))) siFn_len ?_
  rintro av H K ⟨⟨h, rfl⟩, hK⟩
  obtain ⟨s, i, rfl, hs, hi⟩ := siPre_open (len := fun s => s.ss.length) h
  have hK : K (iS .i64 (stAt s i)) [] := by
    have : (siFn (fun s => s.ss.length) stAt).val [.va (.gs (scC s)), iS .i64 i] = iA .i64 (stAt s i) := by simp -dsimp only [go_sem, Int.toNat_natCast]
    rw [this] at hK; exact hK
  clear h
  have hls := hs.ok.ls
  have fin : ∀ (x : Int) (R : Hp), stAt s i = x → W.Fin 0 K (iS .i64 x) R := fun x R h => by
    rw [h] at hK
    exact .sel [] (by simp) (by simp) rfl (.done (by simpa [go_sem] using hK))
  obtain ⟨t, hx⟩ : ∃ e, s.ss[i]? = some e := ⟨_, List.getElem?_eq_getElem hi⟩
  have q1 := row_rg' (row := stC) hx
  obtain ⟨_, hlf, hfs⟩ := hs.ok.ss t (List.mem_of_getElem? hx)
  have hA : stAt s i = bif cnF s i t.nm != 0 then cnF s i t.nm else cfF s.ss s.es t := by unfold stAt; rw [hx]
  have hsf := isScF_mk hs
  rw [scC] at hsf
  have hsd := sc_dec s
  rw [scC] at hsd
  simp (maxSteps := 1000000) -dsimp only [go_sem, scC, pc46, rs46, ↓q1, stC]
  refine ⟨by omega, fun h1 => fin 5 _ (by rw [hA]; unfold cnF; rw [h1]; rfl), fun h1 => ?_⟩
  refine enp_use hs ?_
  simp (maxSteps := 1000000) -dsimp only [go_sem, enC]
  refine ⟨fun h2 => fin 7 _ (by rw [hA]; unfold cnF; rw [h1, h2]; rfl), fun h2 => ?_⟩
  have hC : cnF s i t.nm = bif hasS (s.ss.take i) t.nm then 7 else 0 := by unfold cnF; rw [h1, h2]; rfl
  generalize ((fEn s.es t.nm).getD default) = dflt
  refine vc_loop (α := Nat) (fun j => [(1, iS .i64 i), (2, .va (.c1 (.pt 0 0))), (5, .va (.c1 (.pt 1 0))), (8, iS .i64 j)]) (fun _ => [.cells (scC s) 25, .cells (stC t) 32])
    (fun j => j ≤ i ∧ hasS ((s.ss.take i).drop j) t.nm = hasS (s.ss.take i) t.nm) (fun j => i - j) 0 2 ⟨Nat.zero_le _, rfl⟩ ?_ ?_ ?_
  · simp [go_sem]
  · simp [go_sem, scC, stC]
  have hti : (s.ss.take i).length = i := by rw [List.length_take]; omega
  rintro j ⟨hj, ho⟩
  rcases Nat.lt_or_ge j i with hlt | hge
  · have hg : decide ((j : Int) < (i : Int)) = true := by simp; omega
    obtain ⟨d, hd⟩ : ∃ d, s.ss[j]? = some d := ⟨_, List.getElem?_eq_getElem (by omega)⟩
    have hd' : (s.ss.take i)[j]? = some d := by rw [List.getElem?_take, if_pos hlt]; exact hd
    have q2 := row_rg' (row := stC) hd
    rw [hasS, any_step hd'] at ho
    simp (maxSteps := 1000000) -dsimp only [go_sem, hg, ↓q2, stC, scC, bl_beq]
    refine ⟨by omega, fun hc => ?_, fun hc => ?_⟩
    · rw [hc, Bool.true_or] at ho
      exact fin 7 _ (by rw [hA, hC, ← ho]; rfl)
    · rw [hc, Bool.false_or] at ho
      refine ⟨by omega, loop_next (j + 1) 2 ⟨by omega, ho⟩ (by omega) ?_ ?_⟩
      · simp [go_sem]
      · simp [go_sem, scC, stC]
  · obtain rfl : j = i := by omega
    have hg : decide ((j : Int) < (j : Int)) = false := by simp
    rw [List.drop_eq_nil_of_le (by omega)] at ho
    have hF : stAt s j = cfF s.ss s.es t := by rw [hA, hC, ← ho]; rfl
    clear ho hti hA hC q1 hj hge
    simp (maxSteps := 1000000) -dsimp only [go_sem, hg, stC, scC]
    clear hg
    refine vc_loop (α := Nat) (fun k => [(2, .va (.c1 (.pt 0 0))), (5, .va (.c1 (.pt 1 0))), (9, iS .i64 k)]) (fun _ => [.cells (scC s) 25, .cells (stC t) 32])
      (fun k => k ≤ t.fs.length ∧ fE (cfAt s.ss s.es t) (t.fs.length - k) k = cfF s.ss s.es t) (fun k => t.fs.length - k) 0 2 ⟨Nat.zero_le _, rfl⟩ ?_ ?_ ?_
    · simp [go_sem]
    · simp [go_sem, scC, stC]
    rintro k ⟨hk, ho⟩
    rcases Nat.lt_or_ge k t.fs.length with hlt | hge
    · have hg : decide ((k : Int) < (t.fs.length : Int)) = true := by simp; omega
      obtain ⟨f, hx2⟩ : ∃ nm, t.fs[k]? = some nm := ⟨_, List.getElem?_eq_getElem hlt⟩
      have q2 := row_rg' (row := flC) hx2
      have hf : f.ok := hfs f (List.mem_of_getElem? hx2)
      have hit : isTy (tyC f.ty) := isTy_mk hf.ty
      have hA : cfAt s.ss s.es t k = bif decide (f.num < 1) || decide (127 < f.num) then (4 : Int) else bif decide (0 < (k : Int)) && (match t.fs[k - 1]? with | some g => decide (f.num ≤ g.num) | none => false) then 2 else
        bif !(isNm (bl f.nm)) then 5 else bif (t.fs.take k).any (fun g => decide (g.nm = f.nm)) then 7 else bif !(valF s.ss s.es f.ty) then 13 else 0 := by
        unfold cfAt; rw [hx2]; rfl
      have fin' : ∀ (x : Int) (R : Hp), cfAt s.ss s.es t k = x → x ≠ 0 → W.Fin 0 K (iS .i64 x) R := fun x R h1 h2 => fin x R (by
        rw [hF, ← ho, fE_err hlt (by rw [h1]; exact h2), h1])
      have nxt : cfAt s.ss s.es t k = 0 → fE (cfAt s.ss s.es t) (t.fs.length - (k + 1)) (k + 1) = cfF s.ss s.es t := fun h1 => by rw [← ho, fE_ok hlt h1]
      cases c0 : decide (f.num < 1) with
      | true =>
        rw [c0] at hA
        simp (maxSteps := 1000000) -dsimp only [go_sem, hg, ↓q2, flC, stC, scC, c0]
        exact ⟨by omega, fin' 4 _ hA (by decide)⟩
      | false =>
      cases c1 : decide (127 < f.num) with
      | true =>
        rw [c0, c1] at hA
        simp (maxSteps := 1000000) -dsimp only [go_sem, hg, ↓q2, flC, stC, scC, c0, c1]
        exact ⟨by omega, fin' 4 _ hA (by decide)⟩
      | false =>
      rw [c0, c1] at hA
      simp only [Bool.or_self, Bool.cond_false] at hA
      rcases Nat.eq_zero_or_pos k with h0 | h0
      · have g1 : decide (0 < (k : Int)) = false := by simp; omega
        rw [g1] at hA
        simp only [Bool.false_and, Bool.cond_false] at hA
        cases c3 : isNm (bl f.nm) with
        | false =>
          rw [c3] at hA
          simp (maxSteps := 1000000) -dsimp only [go_sem, hg, ↓q2, flC, stC, scC, c0, c1, c3, g1]
          exact ⟨by omega, fin' 5 _ hA (by decide)⟩
        | true =>
          rw [c3] at hA
          simp only [Bool.not_true, Bool.cond_false] at hA
          simp (maxSteps := 1000000) -dsimp only [go_sem, hg, ↓q2, flC, stC, scC, c0, c1, c3, g1]
          refine ⟨by omega, ?_⟩
          refine vc_loop (α := Nat) (fun j => [(2, .va (.c1 (.pt 0 0))), (5, .va (.c1 (.pt 1 0))), (9, iS .i64 k), (10, .va (.c1 (.pt 2 0))), (11, iS .i64 j)])
            (fun _ => [.cells (scC s) 25, .cells (stC t) 32, .cells (flC f) 53])
            (fun j => j ≤ k ∧ ((t.fs.take k).drop j).any (fun g => decide (g.nm = f.nm)) = (t.fs.take k).any (fun g => decide (g.nm = f.nm))) (fun j => k - j) 0 3 ⟨Nat.zero_le _, rfl⟩ ?_ ?_ ?_
          · simp [go_sem]
          · simp [go_sem, scC, stC, flC]
          have htk : (t.fs.take k).length = k := by rw [List.length_take]; omega
          rintro j ⟨hj, ho2⟩
          rcases Nat.lt_or_ge j k with hjt | hjg
          · have hgj : decide ((j : Int) < (k : Int)) = true := by simp; omega
            obtain ⟨d, hd⟩ : ∃ e, t.fs[j]? = some e := ⟨_, List.getElem?_eq_getElem (by omega)⟩
            have hd' : (t.fs.take k)[j]? = some d := by rw [List.getElem?_take, if_pos hjt]; exact hd
            have q5 := row_rg' (row := flC) hd
            rw [any_step hd'] at ho2
            simp (maxSteps := 1000000) -dsimp only [go_sem, hgj, ↓q5, flC, stC, scC, bl_beq]
            refine ⟨by omega, fun hc => ?_, fun hc => ?_⟩
            · rw [hc, Bool.true_or] at ho2
              rw [← ho2] at hA
              exact fin' 7 _ hA (by decide)
            · rw [hc, Bool.false_or] at ho2
              refine ⟨by omega, loop_next (j + 1) 3 ⟨by omega, ho2⟩ (by omega) ?_ ?_⟩
              · simp [go_sem]
              · simp [go_sem, scC, stC, flC]
          · obtain rfl : j = k := by omega
            have hgj : decide ((j : Int) < (j : Int)) = false := by simp
            rw [List.drop_eq_nil_of_le (by omega)] at ho2
            rw [← ho2] at hA
            simp only [List.any_nil, Bool.cond_false] at hA
            simp (maxSteps := 1000000) -dsimp only [go_sem, hgj, flC, stC, scC, fl_ty, hit, hsf, hsd]
            cases c5 : valF s.ss s.es f.ty with
            | true =>
              rw [c5] at hA
              simp (maxSteps := 1000000) -dsimp only [go_sem]
              refine ⟨by omega, loop_next (j + 1) 2 ⟨by omega, nxt hA⟩ (by omega) ?_ ?_⟩
              · simp [go_sem]
              · simp [go_sem, scC, stC]
            | false =>
              rw [c5] at hA
              simp (maxSteps := 1000000) -dsimp only [go_sem]
              exact fin' 13 _ hA (by decide)
      · have g1 : decide (0 < (k : Int)) = true := by simp; omega
        obtain ⟨g, hy⟩ : ∃ m, t.fs[k - 1]? = some m := ⟨_, List.getElem?_eq_getElem (by omega)⟩
        have q4 : ((k : Int) - 1).toNat = k - 1 := by omega
        have q6 := row_rg (row := flC) hy
        rw [g1, hy, Bool.true_and] at hA
        simp only at hA
        cases c2 : decide (f.num ≤ g.num) with
        | true =>
          rw [c2] at hA
          simp (maxSteps := 1000000) -dsimp only [go_sem, hg, ↓q2, flC, stC, scC, c0, c1, g1, q4, c2, hy, Option.some.injEq, forall_eq']
          exact ⟨by omega, by omega, by omega, fin' 2 _ hA (by decide)⟩
        | false =>
          rw [c2] at hA
          simp only [Bool.cond_false] at hA
          cases c3 : isNm (bl f.nm) with
          | false =>
            rw [c3] at hA
            simp (maxSteps := 1000000) -dsimp only [go_sem, hg, ↓q2, flC, stC, scC, c0, c1, c3, g1, q4, c2, hy, Option.some.injEq, forall_eq']
            exact ⟨by omega, by omega, by omega, fin' 5 _ hA (by decide)⟩
          | true =>
            rw [c3] at hA
            simp only [Bool.not_true, Bool.cond_false] at hA
            simp (maxSteps := 1000000) -dsimp only [go_sem, hg, ↓q2, flC, stC, scC, c0, c1, c3, g1, q4, c2, hy, Option.some.injEq, forall_eq']
            refine ⟨by omega, by omega, by omega, ?_⟩
            refine vc_loop (α := Nat) (fun j => [(2, .va (.c1 (.pt 0 0))), (5, .va (.c1 (.pt 1 0))), (9, iS .i64 k), (10, .va (.c1 (.pt 2 0))), (11, iS .i64 j)])
              (fun _ => [.cells (scC s) 25, .cells (stC t) 32, .cells (flC f) 53])
              (fun j => j ≤ k ∧ ((t.fs.take k).drop j).any (fun g => decide (g.nm = f.nm)) = (t.fs.take k).any (fun g => decide (g.nm = f.nm))) (fun j => k - j) 0 3 ⟨Nat.zero_le _, rfl⟩ ?_ ?_ ?_
            · simp [go_sem]
            · simp [go_sem, scC, stC, flC]
            have htk : (t.fs.take k).length = k := by rw [List.length_take]; omega
            rintro j ⟨hj, ho2⟩
            rcases Nat.lt_or_ge j k with hjt | hjg
            · have hgj : decide ((j : Int) < (k : Int)) = true := by simp; omega
              obtain ⟨d, hd⟩ : ∃ e, t.fs[j]? = some e := ⟨_, List.getElem?_eq_getElem (by omega)⟩
              have hd' : (t.fs.take k)[j]? = some d := by rw [List.getElem?_take, if_pos hjt]; exact hd
              have q5 := row_rg' (row := flC) hd
              rw [any_step hd'] at ho2
              simp (maxSteps := 1000000) -dsimp only [go_sem, hgj, ↓q5, flC, stC, scC, bl_beq]
              refine ⟨by omega, fun hc => ?_, fun hc => ?_⟩
              · rw [hc, Bool.true_or] at ho2
                rw [← ho2] at hA
                exact fin' 7 _ hA (by decide)
              · rw [hc, Bool.false_or] at ho2
                refine ⟨by omega, loop_next (j + 1) 3 ⟨by omega, ho2⟩ (by omega) ?_ ?_⟩
                · simp [go_sem]
                · simp [go_sem, scC, stC, flC]
            · obtain rfl : j = k := by omega
              have hgj : decide ((j : Int) < (j : Int)) = false := by simp
              rw [List.drop_eq_nil_of_le (by omega)] at ho2
              rw [← ho2] at hA
              simp only [List.any_nil, Bool.cond_false] at hA
              simp (maxSteps := 1000000) -dsimp only [go_sem, hgj, flC, stC, scC, fl_ty, hit, hsf, hsd]
              cases c5 : valF s.ss s.es f.ty with
              | true =>
                rw [c5] at hA
                simp (maxSteps := 1000000) -dsimp only [go_sem]
                refine ⟨by omega, loop_next (j + 1) 2 ⟨by omega, nxt hA⟩ (by omega) ?_ ?_⟩
                · simp [go_sem]
                · simp [go_sem, scC, stC]
              | false =>
                rw [c5] at hA
                simp (maxSteps := 1000000) -dsimp only [go_sem]
                exact fin' 13 _ hA (by decide)
    · have hg : decide ((k : Int) < (t.fs.length : Int)) = false := by simp; omega
      obtain rfl : k = t.fs.length := by omega
      rw [fE_end] at ho
      simp (maxSteps := 1000000) -dsimp only [go_sem, hg, stC]
      exact fin 0 _ (by rw [hF, ← ho])
end Go.Proofs.Ytpfmkfafagiicaa
