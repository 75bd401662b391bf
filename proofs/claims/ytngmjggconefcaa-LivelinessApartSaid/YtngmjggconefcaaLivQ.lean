/- The law of alternation: its function returns true. -/
import Derived.Test.YtngmjggconefcaaLivP
import Derived.Test.YtngmjggconefcaaPd
namespace Go.Proofs.Ytngmjggconefcaa
open Go.W
structure Cl where
  k : Int
  id : Int
  len : Int
  at' : Int
abbrev clR (x : Cl) : List C := [.vl (.int .i64 x.k), .vl (.int .i64 x.id), .vl (.int .i64 x.len), .vl (.int .i64 x.at')]
def clsPre : List S → Prop := fun xs => match xs with
  | [.va (.c1 (.fz rs))] => ∃ l : List Cl, rs = l.map clR
  | _ => False
theorem clsPre_open {xs : List S} (h : clsPre xs) : ∃ l : List Cl, xs = [.va (.c1 (.fz (l.map clR)))] := by
  unfold clsPre at h
  split at h
  · obtain ⟨l, rfl⟩ := h; exact ⟨l, rfl⟩
  · exact h.elim
def clsFn : Fun := ⟨clsPre, fun _ => bA true, fun xs _ => trivial⟩
theorem clsFn_len : ∀ xs H K, clsFn.sp xs H K → xs.length = 1 := fun xs H K h => by obtain ⟨l, rfl⟩ := clsPre_open h.1.1; rfl
structure Bd (s : Ls) (acc : List Chg) (i : Nat) : Prop where
  al : s.all.length ≤ i
  pl : acc.length + s.pend.length ≤ 61 * i
  lz : ∀ x ∈ s.all, x.ok
  nw : 0 ≤ s.now
  lw : Law s acc
theorem Bd.fit {s : Ls} {acc : List Chg} {i : Nat} (h : Bd s acc i) (hi : i ≤ 60) : s.fit := ⟨by have := h.al; omega, by have := h.pl; omega, h.lz, h.nw⟩
theorem mv_lz {s : Ls} (h : ∀ x ∈ s.all, x.ok) (t e : Int) : ∀ x ∈ (s.mv t e).all, x.ok := fun x hx => by
  obtain ⟨y, hy, rfl⟩ := List.mem_map.1 hx
  exact mv1_ok (h y hy)
theorem mv_al (s : Ls) (t e : Int) : (s.mv t e).all.length = s.all.length := List.length_map _
theorem mv_pl (s : Ls) (t e : Int) : (s.mv t e).pend.length ≤ s.pend.length + s.all.length := by
  have := endL_len e s.all
  simp only [Ls.mv, List.length_append, srt_len]; omega
theorem timB_iff {n : Int} : timB n = true ↔ 0 ≤ n ∧ n ≤ 1099511627776 := by unfold timB; simp
theorem bd_same {s : Ls} {acc : List Chg} {i : Nat} (h : Bd s acc i) : Bd s acc (i + 1) := ⟨by have := h.al; omega, by have := h.pl; omega, h.lz, h.nw, h.lw⟩
theorem bd_add {s : Ls} {acc : List Chg} {i : Nat} (h : Bd s acc i) (hi : i < 60) (id len a : Int) : Bd (addL s id len a) acc (i + 1) := by
  have hl := law_add h.lw h.lz id len a
  cases hE : addE s id len a == 0 with
  | false =>
    have : addL s id len a = s := by unfold addL; rw [hE]; rfl
    rw [this]; exact bd_same h
  | true =>
    have e : addL s id len a = ⟨a, (s.mv a a).all ++ [⟨id, len, a, true⟩], (s.mv a a).pend⟩ := by unfold addL; rw [hE]; rfl
    simp only [addE] at hE
    cases h1 : decide (id < 1) || !timB len || !timB a with
    | true => rw [h1] at hE; simp at hE
    | false =>
      have ht1 : timB len = true := by simp at h1; exact h1.1.2
      have ht2 : timB a = true := by simp at h1; exact h1.2
      obtain ⟨k1, k2⟩ := timB_iff.1 ht1
      obtain ⟨k3, k4⟩ := timB_iff.1 ht2
      rw [e] at hl ⊢
      have b1 := mv_al s a a; have b2 := mv_pl s a a; have b3 := h.al; have b4 := h.pl
      refine ⟨by simp only [List.length_append, List.length_singleton]; omega, by simp only; omega, fun x hx => ?_, k3, hl⟩
      rcases List.mem_append.1 hx with hx | hx
      · exact mv_lz h.lz a a x hx
      · simp at hx; subst hx; exact ⟨k1, k2, k3, k4⟩
theorem bd_asr {s : Ls} {acc : List Chg} {i : Nat} (h : Bd s acc i) (hi : i < 60) (id a : Int) : Bd (asrL s id a) acc (i + 1) := by
  have hl := law_asr h.lw h.lz id a
  cases hE : asrE s id a == 0 with
  | false =>
    have : asrL s id a = s := by unfold asrL; rw [hE]; rfl
    rw [this]; exact bd_same h
  | true =>
    have hta : timB a = true := by
      simp only [asrE] at hE
      cases h1 : decide (findL s.all id 0 < 0) with
      | true => rw [h1] at hE; simp at hE
      | false =>
        cases h2 : !timB a with
        | true => rw [h1, h2] at hE; simp at hE
        | false => simpa using h2
    obtain ⟨k3, k4⟩ := timB_iff.1 hta
    cases hx : (s.mv a a).all[(findL s.all id 0).toNat]? with
    | none =>
      have : asrL s id a = s := by unfold asrL; rw [hE, hx]; rfl
      rw [this]; exact bd_same h
    | some x =>
      have e : asrL s id a = ⟨a, (s.mv a a).all.set (findL s.all id 0).toNat ⟨x.id, x.len, a, true⟩, bif x.up then (s.mv a a).pend else (s.mv a a).pend ++ [⟨id, a, true⟩]⟩ := by unfold asrL; rw [hE, hx]; rfl
      rw [e] at hl ⊢
      have b1 := mv_al s a a; have b2 := mv_pl s a a; have b3 := h.al; have b4 := h.pl
      have hxo := mv_lz h.lz a a x (List.mem_of_getElem? hx)
      refine ⟨by simp only [List.length_set]; omega, ?_, fun y hy => ?_, k3, hl⟩
      · cases x.up <;> simp <;> omega
      · rcases List.mem_or_eq_of_mem_set hy with hy | rfl
        · exact mv_lz h.lz a a y hy
        · exact ⟨hxo.1, hxo.2.1, k3, k4⟩
theorem bd_chk {s : Ls} {acc : List Chg} {i : Nat} (h : Bd s acc i) (hi : i < 60) (a : Int) : Bd (chkL s a) (acc ++ chkG s a) (i + 1) := by
  have hl := law_chk h.lw h.lz a
  cases hE : chkB s a with
  | true =>
    have e1 : chkL s a = s := by unfold chkL; rw [hE]; rfl
    have e2 : chkG s a = [] := by unfold chkG; rw [hE]; rfl
    rw [e1, e2, List.append_nil]; exact bd_same h
  | false =>
    have e1 : chkL s a = ⟨a, (s.mv a (a + 1)).all, []⟩ := by unfold chkL; rw [hE]; rfl
    have e2 : chkG s a = srt ltC (s.mv a (a + 1)).pend := by unfold chkG; rw [hE]; rfl
    rw [e1, e2] at hl ⊢
    have b1 := mv_al s a (a + 1); have b2 := mv_pl s a (a + 1); have b3 := h.al; have b4 := h.pl; have b5 := h.nw
    have : s.now ≤ a := by unfold chkB at hE; simp at hE; exact hE.1
    refine ⟨by simp only; omega, by simp only [List.length_append, srt_len, List.length_nil]; omega, mv_lz h.lz a (a + 1), by simp only; omega, hl⟩
theorem chkG_srt (s : Ls) (a : Int) : Srt ltC (chkG s a) := by
  unfold chkG
  cases chkB s a with
  | true => exact List.Pairwise.nil
  | false => exact srt_srt swo _
theorem vc_tail' {Γ : Env} {k0 : Nat} {x : PC} {fr : Fr} {H : Hp} {K : Ex → Fr → Hp → Prop} {up : List (Nat × S)} {Hs : Hp} (ns : List Nat) (h : vc Γ k0 x.ungh (puts up) Hs K) (h3 : ns.Nodup) (h4 : ∀ n ∈ ns, n < H.length) (h5 : ns.take k0 = List.range k0)
    (h1 : agree' ns fr up) (h2 : (pickH H ns).map (B.ren (loc ns)) = Hs) (hg : x.hgh = true := by rfl) : vcn Γ k0 x fr H K ⟨⟩ :=
  vc_head hg (.sel ns h3 h4 h5 (.wk _ (puts_wk' h1) (.done (by rw [h2]; exact h))))
theorem rg_to {α : Type} {row : α → List C} {l : List α} {n : Nat} {e : Int} {c : α} (h : l[n]? = some c) (he : e.toNat = n) (p : List C → Prop) : (∀ r, (l.map row)[e.toNat]? = some r → p r) = p (row c) := by
  rw [he, List.getElem?_map, h]; simp
theorem both {A B P : Prop} (p : P) (f : P → A) (g : P → B) : A ∧ B := ⟨f p, g p⟩
/-- The last one before k of an id. -/
def lastOf (A : List Chg) (id : Int) (k : Nat) (L : Int) : Prop := (L = -1 ∧ sq (A.take k) id = []) ∨ ∃ (n : Nat) (d : Chg) (l : List Chg), L = n ∧ n < k ∧ A[n]? = some d ∧ sq (A.take k) id = l ++ [d]
theorem last_step {A : List Chg} {id : Int} {k : Nat} {L : Int} {d : Chg} (h : lastOf A id k L) (hd : A[k]? = some d) : lastOf A id (k + 1) (bif d.id == id then (k : Int) else L) := by
  have hs : sq (A.take (k + 1)) id = sq (A.take k) id ++ (bif d.id == id then [d] else []) := by
    unfold sq
    rw [List.take_add_one, hd, List.filter_append]
    cases hi : d.id == id <;> simp [hi]
  unfold lastOf
  rw [hs]
  cases hi : d.id == id with
  | true => exact .inr ⟨k, d, _, rfl, by omega, hd, rfl⟩
  | false =>
    simp only [Bool.cond_false, List.append_nil]
    rcases h with h | ⟨n, d, l, h1, h2, h3, h4⟩
    · exact .inl h
    · exact .inr ⟨n, d, l, h1, by omega, h3, h4⟩
theorem last_alt {A : List Chg} (h : ∀ id, altOK true 0 (sq A id)) {k : Nat} {c : Chg} (hc : A[k]? = some c) : c.up = (!endB true (sq (A.take k) c.id)) ∧ endT 0 (sq (A.take k) c.id) ≤ c.at' := by
  have hk := (List.getElem?_eq_some_iff.1 hc).1
  have e : A = A.take k ++ c :: A.drop (k + 1) := by
    have : A.drop k = c :: A.drop (k + 1) := by
      rw [List.drop_eq_getElem_cons hk]
      rw [List.getElem?_eq_getElem hk] at hc
      rw [Option.some.inj hc]
    rw [← this, List.take_append_drop]
  have ha := h c.id
  rw [e, sq_app, alt_app] at ha
  have hcc : sq (c :: A.drop (k + 1)) c.id = c :: sq (A.drop (k + 1)) c.id := by unfold sq; rw [List.filter_cons]; simp
  rw [hcc] at ha
  exact ⟨ha.2.1, ha.2.2.1⟩
theorem bd_zero : Bd Ls.empty [] 0 := ⟨Nat.le_refl _, Nat.le_refl _, (fun x h => by cases h), Int.le_refl _, ⟨List.nodup_nil, (fun x h => by cases h), (fun c h => by cases h)⟩⟩
set_option maxRecDepth 100000 in
theorem mAlternates : Meets Try.prog 4 clsFn.sp := by
  refine meets_fn Try.func4 ok4 1 (by rw [Try.ntmps4]; decide) (meetsAll_f mAwake (meetsAll_s mNew (meetsAll_s mAdd (meetsAll_s mAssert (meetsAll_s mCheck (meetsAll_nil _)))))) clsFn_len ?_
  rintro av H K ⟨⟨h, rfl⟩, hK⟩
  obtain ⟨cl, rfl⟩ := clsPre_open h
  have hK' : K (bS true) [] := hK
  cases hg0 : decide (60 < (cl.length : Int)) with
  | true =>
    simp -dsimp only [go_sem, pc4, rs4, hg0]
    exact .done hK'
  | false =>
    have hcl : cl.length ≤ 60 := by simp at hg0; omega
    simp -dsimp only [go_sem, pc4, rs4, hg0]
    refine vc_loop_gh (α := Nat × Ls × List Chg) (fun z => [(0, .va (.c1 (.fz (cl.map clR)))), (3, .va (.c1 (.pt 0 0))), (4, .va (.c1 (.sl 3 z.2.2.length))), (5, iS .i64 z.1)])
      (fun z => lsH z.2.1 ++ [.row (z.2.2.map chC) 44 3])
      (fun z => z.1 ≤ cl.length ∧ Bd z.2.1 z.2.2 z.1) (fun z => cl.length - z.1)
      (.nil 4 44 3 rfl (gh_at (0, Ls.empty, []) 4 ⟨Nat.zero_le _, bd_zero⟩ ?_ ?_)) ?_
    · simp [go_sem]
    · simp [go_sem]
    rintro ⟨i, s, acc⟩ ⟨hi, hb⟩
    simp only at hi hb
    rcases Nat.lt_or_ge i cl.length with hlt | hge
    · obtain ⟨x, hx⟩ : ∃ x, cl[i]? = some x := ⟨_, List.getElem?_eq_getElem hlt⟩
      have q1 := rg_at (row := clR) hx
      have q2 := rg_at' (row := clR) hx
      have hg : decide ((i : Int) < (cl.length : Int)) = true := by simp; omega
      have g1 := isFit_mk (hb.fit (by omega))
      cases hk0 : x.k == 0 with
      | true =>
        simp -dsimp only [go_sem, hg, hk0, ↓q1, ↓q2, g1]
        refine ⟨⟨by omega, by omega⟩, ⟨by omega, by omega⟩, loop_next (i + 1, addL s x.id x.len x.at', acc) 4 ⟨by simp only; omega, by simp only; first | exact bd_add hb (by omega) _ _ _ | exact bd_asr hb (by omega) _ _⟩ (by simp only; omega) ?_ ?_⟩
        · simp [go_sem]
        · simp [go_sem]
      | false =>
        cases hk1 : x.k == 1 with
        | true =>
          simp -dsimp only [go_sem, hg, hk0, hk1, ↓q1, ↓q2, g1]
          refine ⟨⟨by omega, by omega⟩, ⟨by omega, by omega⟩, loop_next (i + 1, asrL s x.id x.at', acc) 4 ⟨by simp only; omega, by simp only; first | exact bd_add hb (by omega) _ _ _ | exact bd_asr hb (by omega) _ _⟩ (by simp only; omega) ?_ ?_⟩
          · simp [go_sem]
          · simp [go_sem]
        | false =>
          cases hk2 : x.k == 2 with
          | true =>
            simp -dsimp only [go_sem, hg, hk0, hk1, hk2, ↓q1, ↓q2, g1]
            refine ⟨⟨by omega, by omega⟩, ⟨by omega, by omega⟩, loop_next (i + 1, asrL s x.id x.at', acc) 4 ⟨by simp only; omega, by simp only; first | exact bd_add hb (by omega) _ _ _ | exact bd_asr hb (by omega) _ _⟩ (by simp only; omega) ?_ ?_⟩
            · simp [go_sem]
            · simp [go_sem]
          | false =>
            obtain ⟨s', hs'⟩ : ∃ s', s' = chkL s x.at' := ⟨_, rfl⟩
            obtain ⟨G, hG⟩ : ∃ G, G = chkG s x.at' := ⟨_, rfl⟩
            have hb' := bd_chk hb (by omega) x.at'
            have hGs := chkG_srt s x.at'
            rw [← hs', ← hG] at hb'
            rw [← hG] at hGs
            have hGl : acc.length + G.length ≤ 61 * 60 := by have := hb'.pl; rw [List.length_append] at this; omega
            simp -dsimp only [go_sem, hg, hk0, hk1, hk2, ↓q1, ↓q2, g1]
            refine ⟨⟨by omega, by omega⟩, both ?_ (fun p hc => vc_tail' (up := [(0, .va (.c1 (.fz (cl.map clR)))), (3, .va (.c1 (.pt 0 0))), (4, .va (.c1 (.sl 3 acc.length))), (5, iS .i64 i), (7, .va (.c1 (.fz (G.map chC))))]) (Hs := lsH s' ++ [.row (acc.map chC) 44 3]) [0, 1, 2, 3] p (by decide) (by simp) rfl ?_ ?_) (fun p hc => vc_tail' [0, 1, 5, 3] p (by decide) (by simp) rfl ?_ ?_)⟩
            rotate_left
            · have e2 : G = [] := by rw [hG]; unfold chkG; rw [hc]; rfl
              rw [e2]; simp [go_sem]
            · have e1 : s' = s := by rw [hs']; unfold chkL; rw [hc]; rfl
              rw [e1]; simp [go_sem]
            · have e2 : G = srt ltC (s.mv x.at' (x.at' + 1)).pend := by rw [hG]; unfold chkG; rw [hc]; rfl
              rw [e2]; simp [go_sem]
            · have e1 : s' = ⟨x.at', (s.mv x.at' (x.at' + 1)).all, []⟩ := by rw [hs']; unfold chkL; rw [hc]; rfl
              rw [e1]; simp [go_sem, Ls.mv]
            simp -dsimp only [go_sem, pc4_11]
            refine vc_loop (α := Nat) (fun m => [(0, .va (.c1 (.fz (cl.map clR)))), (3, .va (.c1 (.pt 0 0))), (4, .va (.c1 (.sl 3 acc.length))), (5, iS .i64 i), (7, .va (.c1 (.fz (G.map chC)))), (8, iS .i64 ((m : Int) + 1))]) (fun _ => lsH s' ++ [.row (acc.map chC) 44 3]) (fun m => m ≤ G.length) (fun m => G.length - m) 0 4 (Nat.zero_le _) ?_ ?_ ?_
            · simp [go_sem]
            · simp [go_sem]
            rintro m hm
            rcases Nat.lt_or_ge (m + 1) G.length with hlt2 | hge2
            · obtain ⟨c, hcc⟩ : ∃ c, G[m]? = some c := ⟨_, List.getElem?_eq_getElem (by omega)⟩
              obtain ⟨d, hdd⟩ : ∃ d, G[m + 1]? = some d := ⟨_, List.getElem?_eq_getElem hlt2⟩
              have r1 := rg_to (row := chC) (e := (m : Int) + 1 - 1) hcc (by omega)
              have r2 := rg_to (row := chC) (e := (m : Int) + 1) hdd (by omega)
              have hg2 : decide ((m : Int) + 1 < (G.length : Int)) = true := by simp; omega
              have hle := srt_le hGs (Nat.lt_succ_self m) hcc hdd
              rw [ltC_eq] at hle
              unfold before at hle
              have f1 : decide (d.at' < c.at') = false := by simp at hle ⊢; exact hle.1
              have hfin : (-9223372036854775808 ≤ (m : Int) + 1 - 1 ∧ (m : Int) + 1 - 1 ≤ 9223372036854775807) ∧ (0 ≤ (m : Int) + 1 - 1 ∧ (m : Int) + 1 - 1 < (G.length : Int)) ∧ (0 ≤ (m : Int) + 1 ∧ (m : Int) + 1 < (G.length : Int)) ∧ (-9223372036854775808 ≤ (m : Int) + 1 + 1 ∧ (m : Int) + 1 + 1 ≤ 9223372036854775807) := by omega
              cases f2 : c.at' == d.at' with
              | true =>
                have f3 : decide (d.id < c.id) = false := by simp at hle f2 ⊢; exact hle.2 f2.symm
                simp -dsimp only [go_sem, hg2, f1, f2, f3, ↓r1, ↓r2]
                and_intros
                all_goals first
                  | omega
                  | skip
                refine loop_next (m + 1) 4 (by omega) (by omega) ?_ ?_
                · simp [go_sem]
                · simp [go_sem]
              | false =>
                simp -dsimp only [go_sem, hg2, f1, f2, ↓r1, ↓r2]
                and_intros
                all_goals first
                  | omega
                  | skip
                refine loop_next (m + 1) 4 (by omega) (by omega) ?_ ?_
                · simp [go_sem]
                · simp [go_sem]
            · have hg2 : decide ((m : Int) + 1 < (G.length : Int)) = false := by simp; omega
              simp -dsimp only [go_sem, hg2]
              refine ⟨⟨fun r hr => ?_, fun r hr c hc => ?_⟩, by omega, ⟨by omega, by omega⟩, ?_⟩
              · obtain ⟨y, _, rfl⟩ := List.mem_map.1 hr; rfl
              · obtain ⟨y, _, rfl⟩ := List.mem_map.1 hr
                simp only [List.mem_cons, List.not_mem_nil, or_false] at hc
                rcases hc with rfl | rfl | rfl <;> exact ⟨rfl, rfl⟩
              · refine loop_next (i + 1, s', acc ++ G) 4 ⟨by simp only; omega, hb'⟩ (by simp only; omega) ?_ ?_
                · simp [go_sem]
                · simp [go_sem]
    · obtain rfl : i = cl.length := by omega
      have hg : decide ((cl.length : Int) < (cl.length : Int)) = false := by simp
      have hal := law_all hb.lw
      have hn : acc.length ≤ 61 * 60 := by have := hb.pl; omega
      clear hb
      simp -dsimp only [go_sem, hg]
      refine vc_loop (α := Nat) (fun i => [(4, .va (.c1 (.sl 3 acc.length))), (9, iS .i64 i)]) (fun _ => lsH s ++ [.row (acc.map chC) 44 3]) (fun i => i ≤ acc.length) (fun i => acc.length - i) 0 4 (Nat.zero_le _) ?_ ?_ ?_
      · simp [go_sem]
      · simp [go_sem]
      rintro i hi
      rcases Nat.lt_or_ge i acc.length with hlt | hge
      · obtain ⟨c, hc⟩ : ∃ c, acc[i]? = some c := ⟨_, List.getElem?_eq_getElem hlt⟩
        have q1 := rg_at (row := chC) hc
        have q2 := rg_at' (row := chC) hc
        have hg2 : decide ((i : Int) < (acc.length : Int)) = true := by simp; omega
        simp -dsimp only [go_sem, hg2]
        refine vc_loop (α := Nat × Int) (fun z => [(4, .va (.c1 (.sl 3 acc.length))), (9, iS .i64 i), (10, iS .i64 z.2), (11, iS .i64 z.1)]) (fun _ => lsH s ++ [.row (acc.map chC) 44 3]) (fun z => z.1 ≤ i ∧ lastOf acc c.id z.1 z.2) (fun z => i - z.1) (0, -1) 4 ⟨Nat.zero_le _, .inl ⟨rfl, rfl⟩⟩ ?_ ?_ ?_
        · simp [go_sem]
        · simp [go_sem]
        rintro ⟨k, L⟩ ⟨hk, hL⟩
        simp only at hk hL
        rcases Nat.lt_or_ge k i with hlt2 | hge2
        · obtain ⟨d, hd⟩ : ∃ d, acc[k]? = some d := ⟨_, List.getElem?_eq_getElem (by omega)⟩
          have r1 := rg_at (row := chC) hd
          have r2 := rg_at' (row := chC) hd
          have hg3 : decide ((k : Int) < (i : Int)) = true := by simp; omega
          simp -dsimp only [go_sem, hg3, ↓q1, ↓q2, ↓r1, ↓r2]
          refine ⟨⟨by omega, by omega⟩, by omega, ⟨by omega, by omega⟩, by omega, fun hi => ⟨⟨by omega, by omega⟩, ?_⟩, fun hi => ⟨⟨by omega, by omega⟩, ?_⟩⟩
          · have hst := last_step hL hd
            rw [hi] at hst
            refine loop_next (k + 1, (k : Int)) 4 ⟨by simp only; omega, hst⟩ (by simp only; omega) ?_ ?_
            · simp [go_sem]
            · simp [go_sem]
          · have hst := last_step hL hd
            rw [hi] at hst
            refine loop_next (k + 1, L) 4 ⟨by simp only; omega, hst⟩ (by simp only; omega) ?_ ?_
            · simp [go_sem]
            · simp [go_sem]
        · obtain rfl : k = i := by omega
          have hg3 : decide ((k : Int) < (k : Int)) = false := by simp
          have hac := last_alt hal hc
          rcases hL with ⟨rfl, h0⟩ | ⟨n, d, l, rfl, hnk, hd, h0⟩
          · rw [h0] at hac
            have hup : c.up = false := hac.1
            have g3 : decide ((-1 : Int) < 0) = true := rfl
            have g4 : decide ((0 : Int) ≤ -1) = false := rfl
            simp -dsimp only [go_sem, hg3, g3, g4, hup, ↓q1, ↓q2]
            and_intros
            all_goals first
              | omega
              | (simp; done)
              | skip
            refine loop_next (k + 1) 4 (by omega) (by omega) ?_ ?_
            · simp [go_sem]
            · simp [go_sem]
          · rw [h0, endB_app, endT_app] at hac
            have hup : c.up = !d.up := hac.1
            have htm : d.at' ≤ c.at' := hac.2
            have r1 := rg_at (row := chC) hd
            have r2 := rg_at' (row := chC) hd
            have g3 : decide ((n : Int) < 0) = false := by simp
            have g4 : decide ((0 : Int) ≤ n) = true := by simp
            have g5 : decide (c.at' < d.at') = false := by simp; omega
            have g6 : (d.up == c.up) = false := by rw [hup]; cases d.up <;> rfl
            simp -dsimp only [go_sem, hg3, g3, g4, g5, g6, ↓q1, ↓q2, ↓r1, ↓r2]
            and_intros
            all_goals first
              | omega
              | (simp; done)
              | skip
            refine loop_next (k + 1) 4 (by omega) (by omega) ?_ ?_
            · simp [go_sem]
            · simp [go_sem]
      · obtain rfl : i = acc.length := by omega
        have hg2 : decide ((acc.length : Int) < (acc.length : Int)) = false := by simp
        simp -dsimp only [go_sem, hg2]
        exact .sel [] (by simp) (by simp) rfl (.done hK')
end Go.Proofs.Ytngmjggconefcaa
