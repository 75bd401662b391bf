/- The W library, part 14: code, and whole functions. -/
import Derived.Test.YtngmjggconefcaaW24
import Derived.Deep.LoopGhost
namespace Go.W

def Ex.to : Ex → Exit
  | .n => .normal
  | .e id => .exit id
  | .r => .ret

inductive RV where
  | mv (o : O)
  | ld (i : LI)
/-- The results of a function. -/
def trRV (P : Program) : ResultVar → Option RV
  | .tmp t => some (.mv (.t t))
  | .cell c t => match aggT P t, szT P t with
    | some true, some n => some (.ld (.ldn n (.t c)))
    | some false, some _ => some (.ld (.ld1 (.t c)))
    | _, _ => none
def trRVs (P : Program) : List ResultVar → Option (List RV)
  | [] => some []
  | r :: l => match trRV P r, trRVs P l with
    | some i, some l => some (i :: l)
    | _, _ => none

def vRs (fr : Fr) (H : Hp) : List RV → (List A → Prop) → Prop
  | [], K => K []
  | .mv o :: r, K => match ev (fst fr) o with
    | .va a => gds fr o.sl ∧ vRs fr H r fun l => K (a :: l)
    | _ => False
  | .ld i :: r, K => gds fr i.sl ∧ vL (fst fr) H i fun s => match s with
    | .va a => vRs fr H r fun l => K (a :: l)
    | _ => False
def tup : List A → S
  | [a] => .va a
  | l => .tu l

/-- What is to be shown where a function returns. -/
def retK (k0 : Nat) (rs : List RV) (K : S → Hp → Prop) : Ex → Fr → Hp → Prop
  | .e _, _, _ => False
  | _, fr, H => vRs fr H rs fun l => Fin k0 K (tup l).nf H

def fr0 (as : List S) : Fr := fun i => as.getD i .un

section
variable {P : Program} {N : Nat} {nw : Bool} {X : Ctx} {Γ : Env}

theorem trR_split {ops : Array Oper} {h : Nat → CH} : ∀ (n : Nat) {l : List Oper} {k : Nat} {js : List J}, trR P nw N ops h k l = some js →
    trR P nw N ops h k (l.take n) = some (js.take n) ∧ trR P nw N ops h (k + n) (l.drop n) = some (js.drop n)
  | 0, l, k, js, hj => ⟨rfl, by simpa using hj⟩
  | n + 1, [], k, js, hj => by simp only [trR, Option.some.injEq] at hj; subst hj; exact ⟨rfl, rfl⟩
  | n + 1, o :: l, k, js, hj => by
    obtain ⟨j, js', rfl, h1, h2⟩ := trR_cons hj
    obtain ⟨h3, h4⟩ := trR_split n h2
    refine ⟨?_, ?_⟩
    · simp only [List.take_succ_cons, trR, h1, h3]
    · simp only [List.drop_succ_cons]; rw [← h4]; congr 1; omega

theorem trR_length {ops : Array Oper} {h : Nat → CH} : ∀ {l : List Oper} {k : Nat} {js : List J}, trR P nw N ops h k l = some js → js.length = l.length
  | [], k, js, hj => by simp only [trR, Option.some.injEq] at hj; subst hj; rfl
  | o :: l, k, js, hj => by
    obtain ⟨j, js', rfl, h1, h2⟩ := trR_cons hj
    simp [trR_length h2]

theorem head_quiet : ∀ (js : List J), ∀ j ∈ js.take (headLen js), j.quiet = true
  | [], j, h => by simp at h
  | k :: r, j, h => by
    simp only [headLen] at h
    split at h
    · rename_i hk
      simp only [List.take_succ_cons, List.mem_cons] at h
      rcases h with rfl | h
      · exact hk
      · exact head_quiet r j h
    · simp at h

theorem reg_sound (hm : MeetsAll P Γ) {id : Nat} {ops : Array Oper} {draw : Bool} {h : Nat → CH} {js : List J} (hj : trR P nw N ops h 0 ops.toList = some js)
    (hd : draw = true → (P.follows .mixedOrders && (if js.all J.quietC then Region.lexB .any ops else Region.lexTailB .any ops (headLen js))) = true)
    {fr : Fr} {E : Es} {ro : RO} {a : Act} {w : World} {K : Fr → Hp → Prop} (hf : FRel N (gm E) ro fr a) (hr : Rel X E ro w) (hv : vR Γ js fr (hp E) K) {Q : Exit → Act → World → Prop}
    (hQ : ∀ fr E ro a w, K fr (hp E) → FRel N (gm E) ro fr a → Rel X E ro w → Q .normal a w) : (Code.region id ops draw).wp P Q a w := by
  cases draw with
  | false => exact wp_region_list (r_sound hm hQ _ _ _ hj _ _ _ _ _ hf hr hv)
  | true =>
    have hd := hd rfl
    simp only [Bool.and_eq_true] at hd
    obtain ⟨hmix, hB⟩ := hd
    split at hB
    · rename_i hl
      refine wp_region_quiet (C := Rel X E ro) hmix hB hr.drew ?_
      exact quiet_sound (X := X) hm w ops.toList 0 js hj (fun j hj' => List.all_eq_true.1 hl j hj') fr E ro a K hf hr hv fun fr' a' hf' hK w' hr' => hQ _ _ _ _ _ hK hf' hr'
    · rename_i hl
      have hops : ops = ops.toList.toArray := by simp
      rw [hops] at hB ⊢
      refine wp_region_still_tail (headLen js) hmix hB ?_
      obtain ⟨h1, h2⟩ := trR_split (headLen js) hj
      rw [Nat.zero_add] at h2
      rw [hops] at h1 h2
      refine head_sound (Y := X) _ 0 _ (js.drop (headLen js)) h1 (head_quiet js) fr E ro a K hf hr.drew (by rw [List.take_append_drop]; exact hv) fun fr' a' hf' hK => ?_
      exact r_sound (X := X) hm hQ _ _ _ h2 _ _ _ _ _ hf' hr.drew hK

theorem lateGo_lt {ops : Array Oper} {n : Nat} : ∀ (m : Nat) (acc : List Nat), (∀ x ∈ acc, x < n) → m ≤ n → ∀ x ∈ lateGo ops n m acc, x < n
  | 0, acc, h, _, x, hx => h x hx
  | m + 1, acc, h, hm, x, hx => by
    simp only [lateGo] at hx
    refine lateGo_lt m _ ?_ (by omega) x hx
    split
    · intro y hy
      rcases List.mem_cons.1 hy with rfl | hy
      · omega
      · exact h y hy
    · exact h
theorem marks_inv {ops : Array Oper} {n : Nat} : ∀ (is : List Nat) (l : Array Bool), HeadInv .any ops n l → takeB ops is l = true → (∀ i ∈ is, i < n) →
    HeadInv .any ops n (marks is l) ∧ (∀ k, l.getD k false = true → (marks is l).getD k false = true) ∧ ∀ i ∈ is, (marks is l).getD i false = true
  | [], l, inv, _, _ => ⟨inv, fun _ h => h, fun _ h => by cases h⟩
  | i :: is, l, inv, hB, hlt => by
    simp only [takeB, Bool.and_eq_true] at hB
    obtain ⟨⟨hr, _⟩, hB'⟩ := hB
    have hr' : i ∈ Region.ready .any ops l := by simpa using hr
    obtain ⟨h1, h2, h3⟩ := marks_inv is _ (inv.set hr' (hlt i (by simp))) hB' fun k hk => hlt k (by simp [hk])
    have hset : (l.setIfInBounds i true).getD i false = true := by
      obtain ⟨_, o, ho, _⟩ := mem_ready.1 hr'
      have : i < l.size := by rw [inv.size]; exact (Array.getElem?_eq_some_iff.1 ho).1
      simp [this]
    refine ⟨h1, fun k hk => h2 k (getD_set_true hk), fun k hk => ?_⟩
    rcases List.mem_cons.1 hk with rfl | hk
    · exact h2 _ hset
    · exact h3 k hk
theorem trR_get {ops : Array Oper} {h : Nat → CH} : ∀ {l : List Oper} {k : Nat} {js : List J}, trR P nw N ops h k l = some js → ∀ (i : Nat) (o : Oper), l[i]? = some o → ∃ j, js[i]? = some j ∧ trJ P nw N ops (h (k + i)) o = some j
  | [], _, _, _, _, _, h1 => by cases h1
  | o' :: l, k, js, hj, i, o, ho => by
    obtain ⟨j, js', rfl, h1, h2⟩ := trR_cons hj
    cases i with
    | zero => cases ho; exact ⟨j, rfl, h1⟩
    | succ i =>
      obtain ⟨j', h3, h4⟩ := trR_get h2 i o (by simpa using ho)
      exact ⟨j', by simpa using h3, by rw [← h4]; congr 2; omega⟩
theorem trAt_picks {ops : Array Oper} {h : Nat → CH} {js : List J} (hj : trR P nw N ops h 0 ops.toList = some js) : ∀ (is : List Nat), (∀ i ∈ is, i < ops.size) → TrAt P nw N ops is (picks js is)
  | [], _ => .nil
  | i :: is, hlt => by
    have hi := hlt i (by simp)
    obtain ⟨j, h1, h2⟩ := trR_get hj i ops[i] (by simp [hi])
    have hpk : picks js (i :: is) = j :: picks js is := by
      unfold picks
      rw [List.filterMap_cons, h1]
    rw [hpk]
    exact .cons ⟨ops[i], _, Array.getElem?_eq_getElem hi, h2⟩ (trAt_picks hj is fun k hk => hlt k (by simp [hk]))
theorem headC_quiet : ∀ (js : List J), ∀ j ∈ js.take (headC js), j.quietC = true
  | [], j, h => by simp at h
  | k :: r, j, h => by
    simp only [headC] at h
    split at h
    · rename_i hk
      simp only [List.take_succ_cons, List.mem_cons] at h
      rcases h with rfl | h
      · exact hk
      · exact headC_quiet r j h
    · simp at h
theorem reg_late_sound (hm : MeetsAll P Γ) {id : Nat} {ops : Array Oper} {h : Nat → CH} {js : List J} (hj : trR P nw N ops h 0 ops.toList = some js) (hmix : P.follows .mixedOrders = true) (hB : lateB P ops (headC js) = true)
    {fr : Fr} {E : Es} {ro : RO} {a : Act} {w : World} {K : Fr → Hp → Prop} (hf : FRel N (gm E) ro fr a) (hr : Rel X E ro w) (hv : vR Γ (lateJs ops js) fr (hp E) K) {Q : Exit → Act → World → Prop}
    (hQ : ∀ fr E ro a w, K fr (hp E) → FRel N (gm E) ro fr a → Rel X E ro w → Q .normal a w) : (Code.region id ops true).wp P Q a w := by
  unfold lateB at hB
  simp only [Bool.and_eq_true, decide_eq_true_eq] at hB
  obtain ⟨⟨⟨⟨⟨⟨⟨hsel, hn⟩, hs⟩, hc⟩, htk⟩, hlex⟩, hpu⟩, hlen⟩ := hB
  have hlt : ∀ i ∈ lateL ops (headC js), i < headC js := lateGo_lt _ _ (fun x hx => by cases hx) (Nat.le_refl _)
  have hltr : ∀ i ∈ restL ops (headC js), i < headC js := fun i hi => by unfold restL at hi; rw [List.mem_filter] at hi; exact List.mem_range.1 hi.1
  have inv0 : HeadInv .any ops (headC js) (Array.replicate ops.size false) :=
    ⟨by simp, fun j oj _ hl => (by rw [getD_replicate_false] at hl; cases hl), fun t _ ht => getD_in (by simpa using ht) (getD_replicate_false _ _)⟩
  obtain ⟨inv, _, hls⟩ := marks_inv _ _ inv0 htk hlt
  refine Code.wp_mono (Q := fun e a w => e = .normal ∧ Q .normal a w) (fun e a w h => by obtain ⟨rfl, h⟩ := h; exact h) (wp_region_any hmix ?_)
  have hf0 : ops.size = (lateL ops (headC js)).length + ((restL ops (headC js)).length + (ops.size - headC js)) := hlen.symm
  have key := lates_sound (P := P) (N := N) (nw := nw) (Γ := Γ) (ops := ops) (E := E) (ro := ro) (w := { w with drawn := w.drawn + 1 }) (Q' := fun e a w => e = .normal ∧ Q .normal a w) (fun c a w h => by cases h.1) hsel (Y := X) (f := (restL ops (headC js)).length + (ops.size - headC js))
    (lateL ops (headC js)) _ (picks js (restL ops (headC js)) ++ js.drop (headC js)) _ (trAt_picks hj _ fun i hi => by have := hlt i hi; omega) (fun i hi o ho => by
      have := List.all_eq_true.1 hpu i hi
      rw [ho] at this; exact this) htk fr a K hf hr.drew hv fun fr' a' hf' hv' => ?_
  · rw [← hf0] at key; exact key
  · refine any_of_head (C := Rel X E ro) (n := headC js) (L := fun l' a' => Region.seqB .any ops (ops.size - headC js) (headC js) l' = true ∧ ∀ w', Rel X E ro w' → wpList P ops (fun e a w => e = .normal ∧ Q .normal a w) (ops.toList.drop (headC js)) a' w') (fun l' a' w' hw' hL => ?_) _ _ _ _ hr.drew
      (late_lex hsel hs hc hn _ _ _ inv hls hlex (heads_sound (X := X) hm _ _ (js.drop (headC js)) (trAt_picks hj _ fun i hi => by have := hltr i hi; omega) (fun j hj' => ?_) fr' a' K hf' hr hv' fun fr2 a2 hf2 hv2 => ?_))
    · have h1 := wpAny_of_seq (md := .any) (Q' := fun e a w => e = .normal ∧ Q .normal a w) (ops.toList.drop (headC js)) (headC js) l' a' w' (fun j => by simp [List.getElem?_drop]) (by rw [List.length_drop, Array.length_toList]; exact hL.1) (hL.2 w' hw')
      rwa [List.length_drop, Array.length_toList] at h1
    · unfold picks at hj'
      obtain ⟨i, hi, hji⟩ := List.mem_filterMap.1 hj'
      have hin := hltr i hi
      exact headC_quiet js j (List.mem_of_getElem? (i := i) (by rw [List.getElem?_take, if_pos hin]; exact hji))
    · obtain ⟨_, h2⟩ := trR_split (headC js) hj
      exact fun w' hw' => r_sound (X := X) hm (fun fr E ro a w hK hf hr => ⟨rfl, hQ fr E ro a w hK hf hr⟩) _ _ _ h2 _ _ _ _ _ hf2 hw' hv2

theorem picks_range {α : Type} (l : List α) : ∀ n, picks l (List.range n) = l.take n
  | 0 => rfl
  | n + 1 => by
    have ih := picks_range l n
    unfold picks at ih ⊢
    rw [List.range_succ, List.filterMap_append, ih, List.take_add_one]
    cases h : l[n]? <;> simp [h]
theorem waits_not {ops : Array Oper} {i j : Nat} {oj : Oper} (hj : ops[j]? = some oj) (h : Region.waitsFor .any ops j i = false) : ∀ e ∈ oj.after, Region.binds .any e = true → e.on ≠ i := by
  intro e he hb heq
  unfold Region.waitsFor at h
  simp only [hj] at h
  have := Array.any_eq_false'.1 h e he
  simp [hb, heq] at this
theorem grow_run {op : Op} {o : Oper} (ho : o.op = op) (h : growB P op = true) {ev : Operand → Value} {w w1 : World} {r : Next} (hr : (execOp ev o).run P w = .ok r w1) :
    (∃ v, r = .value v) ∧ (∀ k, k < w.heap.size → w1.heap[k]? = w.heap[k]?) ∧ w.heap.size ≤ w1.heap.size ∧ w1.os = w.os ∧ w1.tape = w.tape ∧ w1.output = w.output := by
  unfold growB at h
  split at h
  case h_2 => cases h
  rename_i t len parts
  split at h
  case h_2 => cases h
  rename_i e ht
  split at h
  case h_2 => cases h
  rename_i i hi
  obtain ⟨z, hz⟩ := Option.isSome_iff_exists.1 h
  simp only [execOp, ho, Instr.buildSlice] at hr
  simp [run_underlying ht, sizeOf, typeInfo, hi, zeroValue, hz] at hr
  split at hr
  · cases hr
  · split at hr
    all_goals
      generalize Instr.fill _ _ _ = x at hr
      cases x with
      | none => simp at hr
      | some cells =>
        simp [newRow] at hr
        obtain ⟨rfl, rfl⟩ := hr
        refine ⟨⟨_, rfl⟩, fun k hk => ?_, ?_, rfl, rfl, rfl⟩
        · show (w.heap.push _)[k]? = _
          rw [Array.getElem?_push, if_neg (Nat.ne_of_lt hk)]
        · show _ ≤ (w.heap.push _).size
          rw [Array.size_push]; exact Nat.le_succ _
/-- The head, in the order of the text. -/
theorem headsS_sound {ops : Array Oper} {E : Es} {ro : RO} {L : Act → Prop} {w0 : World} : ∀ (is : List Nat) (js rest : List J), TrAt P nw N ops is js → (∀ j ∈ js, j.quiet = true) → ∀ (fr : Fr) (a : Act) (K : Fr → Hp → Prop), FRel N (gm E) ro fr a → Rel X E ro w0 →
    vR Γ (js ++ rest) fr (hp E) K → (∀ fr' a', FRel N (gm E) ro fr' a' → vR Γ rest fr' (hp E) K → L a') → wpS P ops (Rel X E ro) L is a
  | [], js, rest, ht, _, fr, a, K, hf, hr, hv, hL => by
    obtain rfl := All2.nil_inv ht
    exact hL _ _ hf hv
  | i :: is, js, rest, ht, hq, fr, a, K, hf, hr, hv, hL => by
    obtain ⟨j, js', rfl, ⟨o, σ, ho, h1⟩, h2⟩ := All2.cons_inv ht
    simp only [List.cons_append, vR] at hv
    have hs := jq_sound hf hr h1 (hq j (by simp)) hv
    simp only [wpS, sOp, ho]
    split
    · rename_i hw
      rw [if_pos hw] at hs
      obtain ⟨fr', hK, v, hf', hrun⟩ := hs
      exact ⟨v, hrun, headsS_sound is js' rest h2 (fun y hy => hq y (by simp [hy])) fr' _ K hf' hr hK hL⟩
    · rename_i hw
      rw [if_neg hw] at hs
      obtain ⟨fr', hK, hs⟩ := hs
      exact headsS_sound is js' rest h2 (fun y hy => hq y (by simp [hy])) fr' _ K hs hr hK hL
theorem reg_early_sound (hm : MeetsAll P Γ) {id : Nat} {ops : Array Oper} {h : Nat → CH} {js : List J} (hj : trR P nw N ops h 0 ops.toList = some js) (hmix : P.follows .mixedOrders = true) (hB : earlyB P ops (headLen js) = true)
    {fr : Fr} {E : Es} {ro : RO} {a : Act} {w : World} {K : Fr → Hp → Prop} (hf : FRel N (gm E) ro fr a) (hr : Rel X E ro w) (hv : vR Γ js fr (hp E) K) {Q : Exit → Act → World → Prop}
    (hQ : ∀ fr E ro a w, K fr (hp E) → FRel N (gm E) ro fr a → Rel X E ro w → Q .normal a w) : (Code.region id ops true).wp P Q a w := by
  obtain ⟨n, hnl⟩ : ∃ n, n = headLen js := ⟨_, rfl⟩
  rw [← hnl] at hB
  unfold earlyB at hB
  simp only [Bool.and_eq_true, decide_eq_true_eq] at hB
  obtain ⟨⟨⟨⟨⟨⟨hsel, hn⟩, hc0⟩, hc⟩, hs⟩, hlex⟩, hon⟩ := hB
  split at hon
  case h_2 => cases hon
  rename_i on hon0
  simp only [Bool.and_eq_true] at hon
  obtain ⟨⟨hgd, hgr⟩, hall⟩ := hon
  have hgd' : on.guard = none := by simpa using hgd
  have hat : ∀ j, j < n → Region.waitsFor .any ops j n = false ∧ (Region.waitsFor .any ops n j = true ∨ ∀ oj, ops[j]? = some oj → on.apart ops oj = true) := fun j hjn => by
    have := List.all_eq_true.1 hall j (List.mem_range.2 hjn)
    simp only [Bool.and_eq_true, Bool.not_eq_true', Bool.or_eq_true] at this
    refine ⟨this.1, this.2.imp (fun h => h) fun h oj hoj => ?_⟩
    rw [hoj] at h; exact h
  have inv0 : HeadInv .any ops n (Array.replicate ops.size false) :=
    ⟨by simp, fun j oj _ hl => (by rw [getD_replicate_false] at hl; cases hl), fun t _ ht => getD_in (by simpa using ht) (getD_replicate_false _ _)⟩
  refine Code.wp_mono (Q := fun e a w => e = .normal ∧ Q .normal a w) (fun e a w h => by obtain ⟨rfl, h⟩ := h; exact h) (wp_region_any hmix ?_)
  obtain ⟨g, hg⟩ : ∃ g, ops.size = n + (g + 1) := ⟨ops.size - n - 1, by omega⟩
  obtain ⟨_, h2⟩ := trR_split n hj
  rw [Nat.zero_add] at h2
  have hdr : ops.toList.drop n = on :: ops.toList.drop (n + 1) := by
    rw [List.drop_eq_getElem_cons (by simp; omega)]
    congr 1
    have := Array.getElem?_eq_some_iff.1 hon0
    obtain ⟨_, h⟩ := this
    simpa using h
  have hlen2 : (ops.toList.drop n).length = g + 1 := by simp; omega
  have hlen3 : (ops.toList.drop (n + 1)).length = g := by simp; omega
  obtain ⟨jn, jr, hjd, hj1, hj2⟩ : ∃ jn jr, js.drop n = jn :: jr ∧ trJ P nw N ops (h n) on = some jn ∧ trR P nw N ops h (n + 1) (ops.toList.drop (n + 1)) = some jr := by
    rw [hdr] at h2
    exact trR_cons h2
  let Lq : Act → Prop := fun a' => ∃ fr', FRel N (gm E) ro fr' a' ∧ vR Γ (js.drop n) fr' (hp E) K
  have hheads : headS P ops (Rel X E ro) n (fun l' a' => Region.seqB .any ops (ops.size - n) n l' = true ∧ Lq a') n (Array.replicate ops.size false) a := by
    have := headS_lex (P := P) (C := Rel X E ro) (Lq := Lq) hsel (by omega : n < ops.size) (List.range n) (Array.replicate ops.size false) a hlex
      (headsS_sound (nw := nw) (X := X) (Γ := Γ) (List.range n) (js.take n) (js.drop n) ?_ (by rw [hnl]; exact head_quiet js) fr a K hf hr.drew (by rw [List.take_append_drop]; exact hv) fun fr' a' hf' hv' => ⟨fr', hf', hv'⟩)
    · rwa [List.length_range] at this
    · have h3 := trAt_picks hj (List.range n) fun i hi => by have := List.mem_range.1 hi; omega
      have h4 : picks js (List.range n) = js.take n := picks_range js n
      rw [h4] at h3; exact h3
  have hwp : ∀ a' w', Rel X E ro w' → ∀ fr', FRel N (gm E) ro fr' a' → vR Γ (js.drop n) fr' (hp E) K → on.wp P a' w' (wpList P ops (fun e a w => e = .normal ∧ Q .normal a w) (ops.toList.drop (n + 1))) (fun e a w => e = .normal ∧ Q .normal a w) := fun a' w' hw' fr' hf' hv' => by
    rw [hjd] at hv'
    have := j_sound (Q := fun e a w => e = .normal ∧ Q .normal a w) (next := wpList P ops (fun e a w => e = .normal ∧ Q .normal a w) (ops.toList.drop (n + 1))) hf' hw' hm hj1 hv' fun fr2 E2 ro2 a2 w2 hK2 hf2 hr2 =>
      r_sound (X := X) hm (fun fr E ro a w hK hf hr => ⟨rfl, hQ fr E ro a w hK hf hr⟩) _ _ _ hj2 _ _ _ _ _ hf2 hr2 hK2
    rwa [if_pos (wanted_none hgd' _)] at this
  have key := early1 (P := P) (C := Rel X E ro) (g := g) (L := fun l' a' => Region.seqB .any ops (ops.size - n) n l' = true ∧ Lq a') (Q' := fun e a w => e = .normal ∧ Q .normal a w) (fun c a w h => by cases h.1) (Region.noSelect_spec hsel) hon0 hgd'
    (fun j oj hoj hjn hno => (hat j hjn).2.elim (fun hw => by
      obtain ⟨o', ho', e, he, hb, hon'⟩ := Region.waitsFor_spec hw
      cases hon0.symm.trans ho'
      exact absurd hon' (hno e he hb)) fun h => h oj hoj)
    (fun j oj hoj hjn => waits_not hoj (hat j hjn).1) hs hc0 hc hn
    (fun a' w' r w1 hw' hrun => by
      obtain ⟨h1, h2, h3, h4, h5, h6⟩ := grow_run rfl hgr hrun
      exact ⟨h1, hw'.grown h2 h3 h4 h5 h6⟩)
    (fun l' a' w' hw' ⟨hseq, fr', hf', hv'⟩ => by
      have h1 := wpAny_of_seq (md := .any) (P := P) (ops := ops) (Q' := fun e a w => e = .normal ∧ Q .normal a w) (ops.toList.drop n) n l' a' w' (fun j => by simp [List.getElem?_drop]) (by rw [hlen2, ← (by omega : ops.size - n = g + 1)]; exact hseq)
        (by rw [hdr]; simp only [wpList]; rw [if_pos (wanted_none hgd' _)]; exact .inl (hwp a' w' hw' fr' hf' hv'))
      rwa [hlen2] at h1)
    (fun l' a' w' hw' ⟨hseq, fr', hf', hv'⟩ => by
      have hsz : ops.size - n = g + 1 := by omega
      rw [hsz] at hseq
      simp only [Region.seqB, Bool.and_eq_true] at hseq
      refine Oper.wp_mono (fun a2 w2 h => ?_) (hwp a' w' hw' fr' hf' hv')
      have h1 := wpAny_of_seq (md := .any) (P := P) (ops := ops) (Q' := fun e a w => e = .normal ∧ Q .normal a w) (ops.toList.drop (n + 1)) (n + 1) (l'.setIfInBounds n true) a2 w2 (fun j => by simp [List.getElem?_drop]) (by rw [hlen3]; exact hseq.2) h
      rwa [hlen3] at h1)
    n _ a { w with drawn := w.drawn + 1 } hr.drew inv0 hheads
  rw [← hg] at key
  exact key
theorem code_sound (hm : MeetsAll P Γ) {h : Hint} {k0 : Nat} (hk0 : X.g0.length = k0) : ∀ (c : Code) (pc : PC), tr P nw N h c = some pc → ∀ (fr : Fr) (E : Es) (ro : RO) (a : Act) (w : World) (K : Ex → Fr → Hp → Prop), FRel N (gm E) ro fr a → Rel X E ro w → vc Γ k0 pc fr (hp E) K →
    ∀ (Q : Exit → Act → World → Prop), (∀ ex fr' E' ro' a' w', K ex fr' (hp E') → FRel N (gm E') ro' fr' a' → Rel X E' ro' w' → Q ex.to a' w') → c.wp P Q a w := by
  intro c
  induction c with
  | skip => intro pc hpc fr E ro a w K hf hr hv Q hQ; simp only [tr, Option.some.injEq] at hpc; subst hpc; exact wp_skip (hQ .n _ _ _ _ _ hv hf hr)
  | exit id => intro pc hpc fr E ro a w K hf hr hv Q hQ; simp only [tr, Option.some.injEq] at hpc; subst hpc; exact wp_exit (hQ (.e id) _ _ _ _ _ hv hf hr)
  | ret => intro pc hpc fr E ro a w K hf hr hv Q hQ; simp only [tr, Option.some.injEq] at hpc; subst hpc; exact wp_ret (hQ .r _ _ _ _ _ hv hf hr)
  | seq x y ihx ihy =>
    intro pc hpc fr E ro a w K hf hr hv Q hQ
    simp only [tr] at hpc
    split at hpc
    · rename_i px py hx hy
      simp only [Option.some.injEq] at hpc
      subst hpc
      simp only [vc] at hv
      refine wp_seq (ihx px hx fr E ro a w _ hf hr hv _ ?_)
      intro ex fr' E' ro' a' w' hK hf' hr'
      cases ex with
      | n => exact ihy py hy fr' E' ro' a' w' K hf' hr' hK Q hQ
      | e id => exact hQ (.e id) _ _ _ _ _ hK hf' hr'
      | r => exact hQ .r _ _ _ _ _ hK hf' hr'
    · cases hpc
  | cond o x y ihx ihy =>
    intro pc hpc fr E ro a w K hf hr hv Q hQ
    simp only [tr] at hpc
    split at hpc
    · rename_i px py hx hy
      simp only [Option.some.injEq] at hpc
      subst hpc
      simp only [vc] at hv
      split at hv
      · rename_i b hb
        obtain ⟨hg, h1, h2⟩ := hv
        have he : a.eval o = .bool b := by
          have := ev_rel hf.res o
          rw [← ev_congr (fst_res hg), hb] at this
          exact this
        exact wp_cond_split he (fun hb => ihx px hx fr E ro a w K hf hr (h1 hb) Q hQ) (fun hb => ihy py hy fr E ro a w K hf hr (h2 hb) Q hQ)
      · exact hv.elim
    · cases hpc
  | block id x ihx =>
    intro pc hpc fr E ro a w K hf hr hv Q hQ
    simp only [tr] at hpc
    split at hpc
    · rename_i px hx
      simp only [Option.some.injEq] at hpc
      subst hpc
      simp only [vc] at hv
      refine wp_block (ihx px hx fr E ro a w _ hf hr hv _ ?_)
      intro ex fr' E' ro' a' w' hK hf' hr'
      cases ex with
      | n => exact hQ .n _ _ _ _ _ hK hf' hr'
      | e j =>
        simp only [Ex.to, Exit.inBlock]
        simp only at hK
        split at hK
        · rename_i hj; rw [if_pos hj]; exact hQ .n _ _ _ _ _ hK hf' hr'
        · rename_i hj; rw [if_neg hj]; exact hQ (.e j) _ _ _ _ _ hK hf' hr'
      | r => exact hQ .r _ _ _ _ _ hK hf' hr'
    · cases hpc
  | loop x ihx =>
    intro pc hpc fr E ro a w K hf hr hv Q hQ
    simp only [tr] at hpc
    split at hpc
    · rename_i px hx
      simp only [Option.some.injEq] at hpc
      subst hpc
      simp only [vc] at hv
      obtain ⟨Inv, h0, hround⟩ := hv
      obtain ⟨fr1, E1, ro1, ⟨m, hI⟩, hf1, hr1⟩ := gh_sound hk0 h0 rfl hf hr
      refine wp_loop_ghost (fun m a w => ∃ fr E ro, Inv m fr (hp E) ∧ FRel N (gm E) ro fr a ∧ Rel X E ro w) m ⟨_, _, _, hI, hf1, hr1⟩ ?_
      rintro n a w ⟨fr2, E2, ro2, hI2, hf2, hr2⟩
      refine ihx px hx fr2 E2 ro2 a w _ hf2 hr2 (hround n fr2 _ hI2) _ ?_
      intro ex fr' E' ro' a' w' hK hf' hr'
      cases ex with
      | n =>
        obtain ⟨fr3, E3, ro3, ⟨m', hlt, hI3⟩, hf3, hr3⟩ := gh_sound hk0 hK rfl hf' hr'
        exact ⟨m', hlt, _, _, _, hI3, hf3, hr3⟩
      | e id => exact hQ (.e id) _ _ _ _ _ hK hf' hr'
      | r => exact hQ .r _ _ _ _ _ hK hf' hr'
    · cases hpc
  | region id ops draw =>
    intro pc hpc fr E ro a w K hf hr hv Q hQ
    simp only [tr] at hpc
    split at hpc
    · rename_i js hj
      have fin : ∀ (js' : List J), (∀ {fr1 : Fr} {E1 : Es} {ro1 : RO}, FRel N (gm E1) ro1 fr1 a → Rel X E1 ro1 w → vR Γ js' fr1 (hp E1) (K .n) → (Code.region id ops draw).wp P Q a w) → pc = (if h.gh id then .gh (.reg js') else .reg js') → (Code.region id ops draw).wp P Q a w := fun js' hs hp' => by
        subst hp'
        split at hv
        · simp only [vc] at hv
          obtain ⟨fr1, E1, ro1, hv1, hf1, hr1⟩ := gh_sound hk0 hv rfl hf hr
          exact hs hf1 hr1 hv1
        · simp only [vc] at hv
          exact hs hf hr hv
      by_cases hdr : draw = true
      · rw [if_pos hdr] at hpc
        by_cases hB : (P.follows .mixedOrders && (if js.all J.quietC then Region.lexB .any ops else Region.lexTailB .any ops (headLen js))) = true
        · rw [if_pos hB] at hpc
          exact fin js (fun hf1 hr1 hv1 => reg_sound hm hj (fun _ => hB) hf1 hr1 hv1 fun fr E ro a w hK hf hr => hQ .n _ _ _ _ _ hK hf hr) (Option.some.inj hpc).symm
        · rw [if_neg hB] at hpc
          by_cases hB2 : (P.follows .mixedOrders && lateB P ops (headC js)) = true
          · rw [if_pos hB2] at hpc
            rw [Bool.and_eq_true] at hB2
            subst hdr
            exact fin (lateJs ops js) (fun hf1 hr1 hv1 => reg_late_sound hm hj hB2.1 hB2.2 hf1 hr1 hv1 fun fr E ro a w hK hf hr => hQ .n _ _ _ _ _ hK hf hr) (Option.some.inj hpc).symm
          · rw [if_neg hB2] at hpc
            by_cases hB3 : (P.follows .mixedOrders && earlyB P ops (headLen js)) = true
            · rw [if_pos hB3] at hpc
              rw [Bool.and_eq_true] at hB3
              subst hdr
              exact fin js (fun hf1 hr1 hv1 => reg_early_sound hm hj hB3.1 hB3.2 hf1 hr1 hv1 fun fr E ro a w hK hf hr => hQ .n _ _ _ _ _ hK hf hr) (Option.some.inj hpc).symm
            · rw [if_neg hB3] at hpc
              by_cases hB4 : (P.follows .mixedOrders && ordB ops js) = true
              · rw [if_pos hB4] at hpc
                rw [Bool.and_eq_true] at hB4
                subst hdr
                obtain rfl := (Option.some.inj hpc).symm
                have key : ∀ {fr1 : Fr} {E1 : Es} {ro1 : RO}, FRel N (gm E1) ro1 fr1 a → Rel X E1 ro1 w → vO Γ (ordJs ops js [] [] (ordL ops js)) fr1 (hp E1) (K .n) → (Code.region id ops true).wp P Q a w := fun hf1 hr1 hv1 =>
                  reg_ord_sound hm (hh := h.σ id) hB4.1 hB4.2 hf1 hr1 hv1 (fun fr E ro a w hK hf hr => hQ .n _ _ _ _ _ hK hf hr) (fun i o ho => by have := trR_get hj i o ho; simpa using this)
                split at hv
                · simp only [vc] at hv
                  obtain ⟨fr1, E1, ro1, hv1, hf1, hr1⟩ := gh_sound hk0 hv rfl hf hr
                  exact key hf1 hr1 hv1
                · simp only [vc] at hv
                  exact key hf hr hv
              · rw [if_neg hB4] at hpc; cases hpc
      · rw [if_neg hdr] at hpc
        exact fin js (fun hf1 hr1 hv1 => reg_sound hm hj (fun h => absurd h hdr) hf1 hr1 hv1 fun fr E ro a w hK hf hr => hQ .n _ _ _ _ _ hK hf hr) (Option.some.inj hpc).symm
    · cases hpc
  | rangeFunc f ps x y => intro pc hpc; simp [tr] at hpc
  | scope x => intro pc hpc; simp [tr] at hpc
  | label l => intro pc hpc; simp [tr] at hpc
  | goto l => intro pc hpc; simp [tr] at hpc
  | refuse s => intro pc hpc fr E ro a w K hf hr hv Q hQ; simp only [tr, Option.some.injEq] at hpc; subst hpc; exact hv.elim

def rvF (tmps : Array Value) (r : ResultVar) : Sem Value :=
  match r with
  | .tmp t => pure (tmps.getD t undef)
  | .cell c t => do loadVar t (← asAddr (tmps.getD c undef))

theorem results_rvF (fn : Func) (tmps : Array Value) : results fn tmps = (do let vs ← fn.results.mapM (rvF tmps); pure (if h : vs.size = 1 then vs[0] else .tuple vs)) := rfl

theorem rvs_sound {fr : Fr} {a : Act} {E : Es} {ro : RO} {w : World} (hf : FRel N (gm E) ro fr a) (hr : Rel X E ro w) : ∀ {rvs : List ResultVar} {rs : List RV} {K : List A → Prop}, trRVs P rvs = some rs → vRs fr (hp E) rs K →
    ∃ l vs, K l ∧ (rvs.mapM (rvF a.tmps)).run P w = .ok vs w ∧ All2 (A.rel (gm E) ro) l vs
  | [], rs, K, h1, h2 => by
    simp only [trRVs, Option.some.injEq] at h1
    subst h1
    exact ⟨[], [], h2, by simp, .nil⟩
  | rv :: rvs, rs, K, h1, h2 => by
    simp only [trRVs] at h1
    split at h1
    · rename_i i rs' hi hrs
      simp only [Option.some.injEq] at h1
      subst h1
      have fin : ∀ {y : A} {v : Value}, (rvF a.tmps rv).run P w = .ok v w → y.rel (gm E) ro v → vRs fr (hp E) rs' (fun l => K (y :: l)) → ∃ l vs, K l ∧ ((rv :: rvs).mapM (rvF a.tmps)).run P w = .ok vs w ∧ All2 (A.rel (gm E) ro) l vs := by
        intro y v hv hy hr'
        obtain ⟨l, vs, k1, k2, k3⟩ := rvs_sound hf hr hrs hr'
        exact ⟨_, v :: vs, k1, by simp only [List.mapM_cons, Sem.run_bind, hv, Result.andThen_ok, k2]; simp, .cons hy k3⟩
      cases rv with
      | tmp t =>
        simp only [trRV, Option.some.injEq] at hi
        subst hi
        simp only [vRs] at h2
        split at h2
        · rename_i y hy
          obtain ⟨hg, h2⟩ := h2
          have h3 := ev_rel hf.res (.tmp t)
          simp only [trO] at h3
          rw [← ev_congr (fr := fst fr) (fst_res hg), hy] at h3
          exact fin (v := a.tmps.getD t undef) (by simp [rvF]) h3 h2
        · exact h2.elim
      | cell c t =>
        have hld : ∀ {v : Value}, (execOp a.eval { dst := none, op := .load t (.tmp c), type := t, pos := "", after := #[], guard := none }).run P w = .ok (.value v) w → (rvF a.tmps (.cell c t)).run P w = .ok v w := by
          intro v hv
          simp only [execOp, Instr.loadAt, Act.eval] at hv
          simp only [rvF]
          cases hp : a.tmps.getD c undef with
          | pointer p =>
            cases p with
            | none => rw [hp] at hv; simp [Instr.sureAddr] at hv
            | some ad =>
              rw [hp] at hv
              simp only [Instr.sureAddr, asAddr] at hv ⊢
              simp only [pure_bind, Sem.run_bind] at hv ⊢
              cases hl : (loadVar t ad).run P w with
              | ok x w' => rw [hl] at hv; simpa using hv
              | halt x w' => rw [hl] at hv; simp at hv
          | _ => rw [hp] at hv; simp [Instr.sureAddr] at hv
        have hcase : ∃ li, i = .ld li ∧ trL P (.load t (.tmp c)) = some li := by
          simp only [trRV] at hi
          simp only [trL]
          split at hi <;> simp only [Option.some.injEq, reduceCtorEq] at hi <;> subst hi <;> simp_all [trO]
        obtain ⟨li, rfl, hli⟩ := hcase
        obtain ⟨hg, h2⟩ := h2
        rw [l_congr (fst_res hg)] at h2
        obtain ⟨s, hK, v, hv, hrun⟩ := l_sound (P := P) (o := { dst := none, op := .load t (.tmp c), type := t, pos := "", after := #[], guard := none }) hf.res hr hli h2
        cases s with
        | va y => exact fin (hld (hrun X w hr)) hv hK
        | _ => exact hK.elim
    · cases h1

/-- A FUNCTION MEETS ITS SPECIFICATION. -/
theorem meets_of {f : FuncId} {fn : Func} {c : Code} {pc : PC} {rs : List RV} {h : Hint} (hf : P.funcs[f]? = some fn) (hb : fn.body = some c) (hnm : (fn.name == "runtime.NumGoroutine") = false) (hN : fn.ntmps = N) (hpc : tr P nw N h c = some pc) (hrs : trRVs P fn.results.toList = some rs)
    (hm : MeetsAll P Γ) {s : Spec} (hlen : ∀ as H K, s as H K → as.length ≤ N) (hs : ∀ as H K, s as H K → vc Γ H.length pc (fr0 as) H (retK H.length rs K)) : Meets P f s := by
  refine ⟨by simp [enters, hf, hb, hnm], ?_⟩
  intro as vs E ro w K hl hrel hr hsp
  have hlN := hlen as (hp E) K hsp
  refine calls_of_wp hf hb ?_
  have hfr : FRel N (gm E) ro (fr0 as) { tmps := vs.toArray ++ Array.replicate (fn.ntmps - vs.toArray.size) undef, defers := [] } := by
    refine ⟨by simp [hN]; omega, fun i => ?_, rfl⟩
    unfold fr0
    rw [List.getD_eq_getElem?_getD]
    cases hi : as[i]? with
    | none => trivial
    | some x =>
      have hlt : i < vs.length := by rw [← hl]; exact (List.getElem?_eq_some_iff.1 hi).1
      have hv : vs[i]? = some vs[i] := List.getElem?_eq_getElem hlt
      have := hrel i x _ hi hv
      simp only [Option.getD_some]
      have he : (vs.toArray ++ Array.replicate (fn.ntmps - vs.toArray.size) undef).getD i undef = vs[i] := by
        rw [Array.getD_eq_getD_getElem?, Array.getElem?_append_left (by simpa using hlt)]
        simp [hlt]
      simp only [he]
      exact this
  have hk0 : (Ctx.mk w (blks E) ro (gm E)).g0.length = (hp E).length := by simp [gm, hp]
  refine code_sound hm hk0 c pc hpc _ _ _ _ _ _ hfr hr (hs as (hp E) K hsp) _ ?_
  have fin : ∀ fr' E' ro' a' w', vRs fr' (hp E') rs (fun l => Fin (hp E).length K (tup l).nf (hp E')) → FRel N (gm E') ro' fr' a' → Rel ⟨w, blks E, ro, gm E⟩ E' ro' w' →
      a'.defers = [] ∧ ∃ v, (results fn a'.tmps).run P w' = .ok v w' ∧ ∃ r v' E'' ro'', Ending.returned v = .returned v' ∧ S.rel (gm E'') ro'' r v' ∧ K r (hp E'') ∧ Rel ⟨w, blks E, ro, gm E⟩ E'' ro'' w' := by
    intro fr' E' ro' a' w' h1 h4 h5
    obtain ⟨l, us, h3, hrun, hus⟩ := rvs_sound h4 h5 hrs h1
    refine ⟨h4.defers, (if h : us.toArray.size = 1 then us.toArray[0] else .tuple us.toArray), ?_, ?_⟩
    · simp only [results_rvF, Array.mapM_eq_mapM_toList, Sem.run_bind, Sem.run_map, hrun, Result.andThen_ok, Sem.run_pure]
    · have hrel : (tup l).rel (gm E') ro' (if h : us.toArray.size = 1 then us.toArray[0] else .tuple us.toArray) := by
        match l, us, hus with
        | [], us, hus => have := hus.nil_inv; subst this; exact ⟨[], rfl, .nil⟩
        | [y], us, hus =>
          obtain ⟨u, m', rfl, hy, hm'⟩ := hus.cons_inv
          have := hm'.nil_inv
          subst this
          exact hy
        | y :: z :: r, us, hus =>
          have : ¬ us.toArray.size = 1 := by have := hus.1; simp at this ⊢; omega
          rw [dif_neg this]
          exact ⟨us, rfl, hus⟩
      obtain ⟨r', E'', ro'', hK, hr', hR⟩ := fin_sound hk0 h3 rfl (S.rel_nf hrel) h5
      exact ⟨r', _, E'', ro'', rfl, hr', hK, hR⟩
  intro ex fr' E' ro' a' w' hK h4 h5
  cases ex with
  | n => exact fin fr' E' ro' a' w' hK h4 h5
  | r => exact fin fr' E' ro' a' w' hK h4 h5
  | e id => exact hK.elim

end

def trFn (P : Program) (nw : Bool) (h : Hint) (fn : Func) : Option (PC × List RV) :=
  if fn.name == "runtime.NumGoroutine" then none else
  match fn.body with
  | some c => match tr P nw fn.ntmps h c, trRVs P fn.results.toList with
    | some pc, some rs => some (pc, rs)
    | _, _ => none
  | none => none

theorem meets_fn {P : Program} {nw : Bool} {Γ : Env} {f : FuncId} {fn : Func} {pc : PC} {rs : List RV} {h : Hint} (hf : P.funcs[f]? = some fn) (hpc : trFn P nw h fn = some (pc, rs)) (n : Nat) (hn : n ≤ fn.ntmps)
    (hm : MeetsAll P Γ) {s : Spec} (hlen : ∀ as H K, s as H K → as.length = n) (hs : ∀ as H K, s as H K → vc Γ H.length pc (fr0 as) H (retK H.length rs K)) : Meets P f s := by
  unfold trFn at hpc
  split at hpc
  · cases hpc
  · rename_i hnm
    split at hpc
    · rename_i c hc
      split at hpc
      · rename_i pc' rs' h1 h2
        simp only [Option.some.injEq, Prod.mk.injEq] at hpc
        obtain ⟨rfl, rfl⟩ := hpc
        exact meets_of hf hc (by simpa using hnm) rfl h1 h2 hm (fun as H K hh => by rw [hlen as H K hh]; exact hn) hs
      · cases hpc
    · cases hpc

/-! ### Places where what is told may be made less, ahead of a tail of the code -/
def PC.hgh : PC → Bool
  | .gh _ => true
  | .seq x _ => x.hgh
  | _ => false
def PC.ungh : PC → PC
  | .gh x => x
  | .seq x y => .seq x.ungh y
  | x => x
theorem vc_head {Γ : Env} {k0 : Nat} : ∀ {pc : PC} {fr : Fr} {H : Hp} {K : Ex → Fr → Hp → Prop}, pc.hgh = true → Gh k0 (fun fr' H' => vc Γ k0 pc.ungh fr' H' K) fr H → vc Γ k0 pc fr H K
  | .gh x, fr, H, K, _, h => h
  | .seq x y, fr, H, K, hg, h => vc_head (pc := x) (K := fun e fr' H' => match e with | .n => vc Γ k0 y fr' H' K | e => K e fr' H') hg h
/-- What carries a Tag of a term keeps simp from going into that term. -/
structure Tag {α : Type} (a : α) : Type where
def vcn (Γ : Env) (k0 : Nat) (x : PC) (fr : Fr) (H : Hp) (K : Ex → Fr → Hp → Prop) (_ : Tag (Γ, x, fr, K)) : Prop := vc Γ k0 x fr H K
end Go.W
