/- Lemmas and walks for the proof. -/
import Derived.Test.YtbolanmlngjdoaaGreatIe
import Derived.KernelRfl
import Derived.Test.YtbolanmlngjdoaaGreatProg
namespace Go.W
open Go.RowKit
inductive Fit (P : Program) : TypeId → List C → Prop
  | int {t : TypeId} {k : IntKind} {n : Int} : P.underlying t = some (.int k) → (Lit.int k n).wf = true → Fit P t [.vl (.int k n)]
  | bool {t : TypeId} {b : Bool} : P.underlying t = some .bool → Fit P t [.vl (.bool b)]
  | str {t : TypeId} {s : ByteArray} : P.underlying t = some .string → s.size ≤ maxLen → Fit P t [.vl (.string s)]
  | sl {t e : TypeId} {xs : List (List C)} : P.underlying t = some (.slice e) → xs.length ≤ maxLen → (∀ r ∈ xs, Fit P e r) → Fit P t [.fz xs]
  | st {t : TypeId} {fs : Array Field} {parts : List (List C)} : P.underlying t = some (.struct fs) → parts.length = fs.size → (∀ (i : Nat) (f : Field) (p : List C), fs[i]? = some f → parts[i]? = some p → Fit P f.type p) → Fit P t parts.flatten
section
variable {P : Program} {t e : TypeId} {xs : List C}
theorem Fit.inv_int {k : IntKind} (ht : P.underlying t = some (.int k)) (h : Fit P t xs) : ∃ n : Int, xs = [.vl (.int k n)] ∧ (Lit.int k n).wf = true := by
  cases h with
  | int h1 h2 => rw [ht] at h1; cases h1; exact ⟨_, rfl, h2⟩
  | bool h1 => rw [ht] at h1; cases h1
  | str h1 => rw [ht] at h1; cases h1
  | sl h1 => rw [ht] at h1; cases h1
  | st h1 => rw [ht] at h1; cases h1
theorem Fit.inv_bool (ht : P.underlying t = some .bool) (h : Fit P t xs) : ∃ b : Bool, xs = [.vl (.bool b)] := by
  cases h with
  | int h1 h2 => rw [ht] at h1; cases h1
  | bool h1 => exact ⟨_, rfl⟩
  | str h1 => rw [ht] at h1; cases h1
  | sl h1 => rw [ht] at h1; cases h1
  | st h1 => rw [ht] at h1; cases h1
theorem Fit.inv_str (ht : P.underlying t = some .string) (h : Fit P t xs) : ∃ s : ByteArray, xs = [.vl (.string s)] ∧ s.size ≤ maxLen := by
  cases h with
  | int h1 h2 => rw [ht] at h1; cases h1
  | bool h1 => rw [ht] at h1; cases h1
  | str h1 h2 => exact ⟨_, rfl, h2⟩
  | sl h1 => rw [ht] at h1; cases h1
  | st h1 => rw [ht] at h1; cases h1
theorem Fit.inv_sl (ht : P.underlying t = some (.slice e)) (h : Fit P t xs) : ∃ ys : List (List C), xs = [.fz ys] ∧ ys.length ≤ maxLen ∧ ∀ r ∈ ys, Fit P e r := by
  cases h with
  | int h1 h2 => rw [ht] at h1; cases h1
  | bool h1 => rw [ht] at h1; cases h1
  | str h1 => rw [ht] at h1; cases h1
  | sl h1 h2 h3 => rw [ht] at h1; cases h1; exact ⟨_, rfl, h2, h3⟩
  | st h1 => rw [ht] at h1; cases h1
theorem Fit.inv_st {fs : Array Field} (ht : P.underlying t = some (.struct fs)) (h : Fit P t xs) : ∃ parts : List (List C), xs = parts.flatten ∧ parts.length = fs.size ∧ ∀ (i : Nat) (f : Field) (p : List C), fs[i]? = some f → parts[i]? = some p → Fit P f.type p := by
  cases h with
  | int h1 h2 => rw [ht] at h1; cases h1
  | bool h1 => rw [ht] at h1; cases h1
  | str h1 => rw [ht] at h1; cases h1
  | sl h1 => rw [ht] at h1; cases h1
  | st h1 h2 h3 => rw [ht] at h1; cases h1; exact ⟨_, rfl, h2, h3⟩
end
theorem Fit.rows {P : Program} {e : TypeId} {α : Type} {row : α → List C} {Q : α → Prop} {ys : List (List C)} (hi : ∀ r, Fit P e r → ∃ a, r = row a ∧ Q a) (h : ∀ r ∈ ys, Fit P e r) : ∃ l : List α, ys = l.map row ∧ ∀ a ∈ l, Q a := by
  induction ys with
  | nil => exact ⟨[], rfl, fun a h => by cases h⟩
  | cons r ys ih =>
    obtain ⟨l, h1, h2⟩ := ih fun r hr => h r (List.mem_cons_of_mem _ hr)
    obtain ⟨a, h3, h4⟩ := hi r (h r (by simp))
    refine ⟨a :: l, by rw [h1, h3]; rfl, fun x hx => ?_⟩
    rcases List.mem_cons.1 hx with rfl | hx
    · exact h4
    · exact h2 x hx
def offs (P : Program) : Nat → List Field → Option Nat
  | o, [] => some o
  | o, f :: r => if f.offset = o then offs P (o + P.cellsOf f.type) r else none
def tysOk (P : Program) (ts : List TypeId) : Bool := ts.all fun t => match P.underlying t with
  | some (.int _) | some .bool | some .string => true
  | some (.slice e) => ts.contains e && decide (0 < P.cellsOf e)
  | some (.struct fs) => fs.toList.all (fun f => ts.contains f.type) && offs P 0 fs.toList == some (P.cellsOf t)
  | _ => false
theorem glue {P : Program} {R : C → Value → Prop} {Q : Field → List C → Prop} {cs : List Value} : ∀ (fs : List Field) (o : Nat), offs P o fs = some cs.length →
    (∀ (i : Nat) (f : Field), fs[i]? = some f → ∃ p, Q f p ∧ All2 R p ((cs.drop f.offset).take (P.cellsOf f.type))) →
    ∃ parts : List (List C), parts.length = fs.length ∧ (∀ (i : Nat) (f : Field) (p : List C), fs[i]? = some f → parts[i]? = some p → Q f p) ∧ All2 R parts.flatten (cs.drop o)
  | [], o, ho, _ => by
    simp only [offs, Option.some.injEq] at ho
    subst ho
    exact ⟨[], rfl, fun i f p h => by simp at h, by simpa using All2.nil⟩
  | f :: fs, o, ho, h => by
    simp only [offs] at ho
    split at ho
    · rename_i hf
      obtain ⟨parts, h1, h2, h3⟩ := glue fs _ ho fun i f hf => h (i + 1) f (by simpa using hf)
      obtain ⟨p, h4, h5⟩ := h 0 f rfl
      refine ⟨p :: parts, by simp [h1], fun i g q hg hq => ?_, ?_⟩
      · cases i with
        | zero => simp at hg hq; subst hg hq; exact h4
        | succ i => exact h2 i g q (by simpa using hg) (by simpa using hq)
      · have : cs.drop o = (cs.drop f.offset).take (P.cellsOf f.type) ++ cs.drop (o + P.cellsOf f.type) := by
          rw [hf, ← List.drop_drop, List.take_append_drop]
        rw [List.flatten_cons, this]
        exact h5.app h3
    · cases ho
section
variable {H : Type} {enc : TypeId × Value → H} {P : Program} {W : World} {ts : List TypeId}
theorem fz_any {b off len cap sz : Nat} {oa : Option Addr} (hoa : len ≠ 0 → oa = some ⟨b, off, none⟩) (hsz : 0 < sz) (X : Nat → List C) (hl : ∀ i, i < len → (X i).length = sz) (hc : len ≤ cap)
    (h : ∀ i, i < len → ∀ j c, (X i)[j]? = some c → ∃ v, W.cell? ⟨b, off + (i * sz + j), none⟩ = some v ∧ c.fv (roW W) v ∧ c.shut = true) :
    FzR (roW W) ((List.range len).map X) (.slice oa len cap) := by
  have hz : ∀ x ∈ (List.range len).map X, x.length = sz := fun x hx => by
    obtain ⟨i, hi, rfl⟩ := List.mem_map.1 hx
    exact hl i (List.mem_range.1 hi)
  have hfl : ∀ k c, ((List.range len).map X).flatten[k]? = some c → ∃ v, W.cell? ⟨b, off + k, none⟩ = some v ∧ c.fv (roW W) v ∧ c.shut = true := fun k c hk => by
    have hkl : k < len * sz := by
      have h1 := (List.getElem?_eq_some_iff.1 hk).1
      rw [flat_len _ hz] at h1
      simpa using h1
    have hi : k / sz < len := (Nat.div_lt_iff_lt_mul hsz).2 hkl
    have hj := Nat.mod_lt k hsz
    have hg := flat_get hz (i := k / sz) (j := k % sz) (by simpa using hi) hj
    rw [Nat.mul_comm, Nat.div_add_mod, hk] at hg
    have hxi : ((List.range len).map X)[k / sz]? = some (X (k / sz)) := by simp [hi]
    rw [hxi, Option.bind_some] at hg
    have := h (k / sz) hi (k % sz) c hg.symm
    rwa [Nat.mul_comm, Nat.div_add_mod] at this
  have hr := FzR.mk (ro := roW W) ((List.range len).map X) sz (some (b, off)) oa (fun hne => hoa (fun e => by subst e; simp at hne)) cap (fun k => (W.cell? ⟨b, off + k, none⟩).getD undef) hz (by simpa using hc) (fun _ => rfl)
    (fun k c hk => by
      obtain ⟨v, h2, _⟩ := hfl k c hk
      simp [roW, h2])
    (fun k v hk => by
      obtain ⟨u, h1, h2, _⟩ := hfl k _ hk
      have : u = v := h2
      simp [h1, this])
    (fun k ys hk => by
      obtain ⟨u, h1, h2, _⟩ := hfl k _ hk
      have : FzR (roW W) ys u := h2
      simpa [h1] using this)
    (fun c hc => by
      obtain ⟨k, hk⟩ := List.mem_iff_getElem?.1 hc
      obtain ⟨u, _, _, h3⟩ := hfl k c hk
      exact h3)
  simpa using hr
theorem fit_of_trod (hok : tysOk P ts = true) : ∀ (n : Nat) (t : TypeId) (cs : List Value) (y : DataW H × List MemPlace), t ∈ ts → DataW.trod enc P W 0 (fun _ => true) true n t cs = some y →
    ∃ xs, Fit P t xs ∧ All2 (C.fv (roW W)) xs cs ∧ ∀ c ∈ xs, c.shut = true
  | 0, t, cs, y, _, h => by simp [DataW.trod] at h
  | n + 1, t, cs, y, ht, h => by
    have h1 := List.all_eq_true.1 hok t ht
    split at h1
    · rename_i k hu
      obtain ⟨m, rfl, _, hw⟩ := DataW.trod_int hu h
      exact ⟨_, .int hu hw, .cons rfl .nil, fun c hc => by simp at hc; subst hc; rfl⟩
    · rename_i hu
      obtain ⟨b, rfl, _⟩ := DataW.trod_bool hu h
      exact ⟨_, .bool hu, .cons rfl .nil, fun c hc => by simp at hc; subst hc; rfl⟩
    · rename_i hu
      obtain ⟨s, rfl, _, hs⟩ := DataW.trod_string hu h
      exact ⟨_, .str hu hs, .cons rfl .nil, fun c hc => by simp at hc; subst hc; rfl⟩
    · rename_i e hu
      simp only [Bool.and_eq_true, List.contains_iff_mem, decide_eq_true_eq] at h1
      obtain ⟨he, hpos⟩ := h1
      rcases DataW.trod_slice hu h with ⟨rfl, _⟩ | ⟨a, len, cap, elems, rest, n', hn', rfl, _, _, hl, hm, hel, hi, _⟩
      · exact ⟨_, .sl hu (Nat.zero_le _) (fun r hr => by cases hr), .cons (fz_nil _) .nil, fun c hc => by simp at hc; subst hc; rfl⟩
      · obtain rfl : n = n' := by omega
        have hall : ∀ i, i < len → ∃ x : List C, Fit P e x ∧ x.length = P.cellsOf e ∧ (∀ j c, x[j]? = some c → ∃ v, W.cell? ((a.add (i * P.cellsOf e)).add j) = some v ∧ c.fv (roW W) v ∧ c.shut = true) := fun i hil => by
          have h1 := hi i hil
          rw [List.getElem?_eq_getElem (by omega)] at h1
          obtain ⟨cs', h2, h3⟩ := Option.bind_eq_some_iff.1 h1
          obtain ⟨x, h4, h5, h6⟩ := fit_of_trod hok n e cs' _ he h3
          obtain ⟨_, h7, h8⟩ := World.cells?_some h2
          refine ⟨x, h4, h5.1.trans h7, fun j c hj => ?_⟩
          obtain ⟨v, h9, h10⟩ := h5.get hj
          have hjl : j < P.cellsOf e := by rw [← h7, ← h5.1]; exact (List.getElem?_eq_some_iff.1 hj).1
          refine ⟨v, ?_, h10, h6 c (List.mem_of_getElem? hj)⟩
          have := h8 j hjl
          rwa [h9] at this
        by_cases h0 : len = 0
        · subst h0
          refine ⟨[.fz []], .sl hu (Nat.zero_le _) (fun r hr => by cases hr), .cons ?_ .nil, fun c hc => by simp at hc; subst hc; rfl⟩
          exact fz_any (b := 0) (off := 0) (fun h => absurd rfl h) hpos (fun _ => []) (fun i hi => by omega) (Nat.zero_le _) (fun i hi => by omega)
        · obtain ⟨x0, _, hx0l, hx0⟩ := hall 0 (by omega)
          have hsp : a.spot = none := by
            have hx : ∃ c, x0[0]? = some c := ⟨_, List.getElem?_eq_getElem (by omega)⟩
            obtain ⟨c, hc⟩ := hx
            obtain ⟨v, hv, _⟩ := hx0 0 c hc
            unfold World.cell? at hv
            split at hv
            · split at hv
              · cases hv
              · rename_i hs; simpa [Addr.add] using hs
            · cases hv
          obtain ⟨b, off, spot⟩ := a
          obtain rfl : spot = none := hsp
          haveI : Inhabited (List C) := ⟨[]⟩
          obtain ⟨X, hX⟩ := Go.Deep.choose_lt hall
          refine ⟨[.fz ((List.range len).map X)], .sl hu (by simp; omega) (fun r hr => ?_), .cons ?_ .nil, fun c hc => by simp at hc; subst hc; rfl⟩
          · obtain ⟨i, hi, rfl⟩ := List.mem_map.1 hr
            exact (hX i (List.mem_range.1 hi)).1
          · exact fz_any (fun _ => rfl) hpos X (fun i hi => (hX i hi).2.1) hl (fun i hi j c hj => by
              obtain ⟨v, h2, h3⟩ := (hX i hi).2.2 j c hj
              exact ⟨v, by simpa [Go.WideShapes.add_plain, Nat.add_assoc] using h2, h3⟩)
    · rename_i fs hu
      simp only [Bool.and_eq_true, List.all_eq_true, List.contains_iff_mem, beq_iff_eq] at h1
      obtain ⟨hft, hof⟩ := h1
      obtain ⟨ys, n', hn, _, hcl, hyl, hf⟩ := DataW.trod_struct hu h
      obtain rfl : n = n' := by omega
      obtain ⟨parts, k1, k2, k3⟩ := glue (P := P) (R := fun c v => C.fv (roW W) c v ∧ c.shut = true) (Q := fun f p => Fit P f.type p) (cs := cs) fs.toList 0 (by rw [hcl]; exact hof) (fun i f hfi => by
        have hfi' : fs[i]? = some f := by simpa using hfi
        have h2 := hf i f hfi'
        have hil : i < fs.size := (Array.getElem?_eq_some_iff.1 hfi').1
        rw [List.getElem?_eq_getElem (by omega)] at h2
        obtain ⟨x, h4, h5, h6⟩ := fit_of_trod hok n f.type _ _ (hft f (List.mem_of_getElem? hfi)) h2
        exact ⟨x, h4, ⟨h5.1, fun j c v hc hv => ⟨h5.2 j c v hc hv, h6 c (List.mem_of_getElem? hc)⟩⟩⟩)
      refine ⟨parts.flatten, .st hu (by simpa using k1) (fun i f p hfi hp => k2 i f p (by simpa using hfi) hp), ?_, fun c hc => ?_⟩
      · simpa using k3.imp (fun _ _ h => h.1)
      · obtain ⟨j, hj⟩ := List.mem_iff_getElem?.1 hc
        obtain ⟨v, _, _, h3⟩ := k3.get hj
        exact h3
    · cases h1
theorem fit_of_arg (hok : tysOk P ts = true) {t : TypeId} {v : Value} {d : DataW H} {ps : List MemPlace} (ht : t ∈ ts) (h : DataW.Trod enc P W 0 (fun _ => true) true t v d ps) : ∃ xs, Fit P t xs ∧ All2 (C.fv (roW W)) xs v.cells.toList ∧ ∀ c ∈ xs, c.shut = true := by
  obtain ⟨n, h⟩ := h
  exact fit_of_trod hok n t _ _ ht h
theorem arg_c1 {c : C} {v : Value} (h : All2 (C.fv (roW W)) [c] v.cells.toList) (hv : v.cells.toList = [v]) (hs : c.shut = true) : (S.va (.c1 c)).rel (gm []) (roW W) v := by
  rw [hv] at h
  exact (C.rel_shut hs).2 (h.2 0 c v rfl rfl)
theorem arg_gs {cs : List C} {vs : Array Value} (h : All2 (C.fv (roW W)) cs (Value.agg vs).cells.toList) (hs : ∀ c ∈ cs, c.shut = true) : (S.va (.gs cs)).rel (gm []) (roW W) (.agg vs) :=
  ⟨vs.toList, by simp, ⟨by simpa [Value.cells] using h.1, fun i c v hc hv => (C.rel_shut (hs c (List.mem_of_getElem? hc))).2 (h.2 i c v hc (by simpa [Value.cells] using hv))⟩⟩
end
end Go.W
namespace Go.Proofs.YtbolanmlngjdoaaGreat
open Go.W
theorem v3 : Tryz.prog.underlying 3 = some (.int .i64) := by kernel_rfl
theorem v4 : Tryz.prog.underlying 4 = some .bool := by kernel_rfl
theorem v9 : Tryz.prog.underlying 9 = some .string := by kernel_rfl
theorem v22 : Tryz.prog.underlying 22 = some (.slice 60) := by kernel_rfl
theorem v23 : Tryz.prog.underlying 23 = some (.slice 37) := by kernel_rfl
theorem v30 : Tryz.prog.underlying 35 = some (.slice 50) := by kernel_rfl
theorem v35 : Tryz.prog.underlying 54 = some (.slice 9) := by kernel_rfl
theorem v38 : Tryz.prog.underlying 46 = some (.slice 48) := by kernel_rfl
theorem v45 : Tryz.prog.underlying 58 = some (.slice 3) := by kernel_rfl
theorem v40 : Tryz.prog.underlying 48 = some (.struct #[⟨"Kind", 3, 0, false, "", "", 0⟩, ⟨"Size", 3, 1, false, "", "", 8⟩, ⟨"Name", 9, 2, false, "", "", 16⟩, ⟨"Elem", 46, 3, false, "", "", 32⟩]) := by kernel_rfl
theorem v53 : Tryz.prog.underlying 50 = some (.struct #[⟨"Number", 3, 0, false, "", "", 0⟩, ⟨"Name", 9, 1, false, "", "", 8⟩, ⟨"Type", 48, 2, false, "", "", 24⟩, ⟨"Optional", 4, 6, false, "", "", 80⟩]) := by kernel_rfl
theorem v32 : Tryz.prog.underlying 37 = some (.struct #[⟨"Name", 9, 0, false, "", "", 0⟩, ⟨"Fields", 35, 1, false, "", "", 16⟩]) := by kernel_rfl
theorem v47 : Tryz.prog.underlying 60 = some (.struct #[⟨"Name", 9, 0, false, "", "", 0⟩, ⟨"Names", 54, 1, false, "", "", 16⟩, ⟨"Numbers", 58, 2, false, "", "", 40⟩]) := by kernel_rfl
theorem v25 : Tryz.prog.underlying 25 = some (.struct #[⟨"Version", 3, 0, false, "", "", 0⟩, ⟨"Enums", 22, 1, false, "", "", 8⟩, ⟨"Structs", 23, 2, false, "", "", 32⟩]) := by kernel_rfl
theorem rows_of {α : Type} {row : α → List C} {Q : α → Prop} {ys : List (List C)} (h : ∀ r ∈ ys, ∃ a, r = row a ∧ Q a) : ∃ l : List α, ys = l.map row ∧ ∀ a ∈ l, Q a := by
  induction ys with
  | nil => exact ⟨[], rfl, fun a h => by cases h⟩
  | cons r ys ih =>
    obtain ⟨l, h1, h2⟩ := ih fun r hr => h r (List.mem_cons_of_mem _ hr)
    obtain ⟨a, h3, h4⟩ := h r List.mem_cons_self
    refine ⟨a :: l, by rw [h1, h3]; rfl, fun x hx => ?_⟩
    rcases List.mem_cons.1 hx with rfl | hx
    · exact h4
    · exact h2 x hx
theorem wf64 {n : Int} (h : (Lit.int .i64 n).wf = true) : in64 n := by simpa [in64, Lit.wf, IntKind.min, IntKind.max, IntKind.signed, IntKind.bits] using h
theorem mx47 {n : Nat} (h : n ≤ maxLen) : n ≤ 9223372036854775807 := by unfold maxLen at h; exact h
theorem fitT : ∀ {t : TypeId} {cs : List C}, Fit Tryz.prog t cs → (t = 48 → ∃ a, cs = tyC a ∧ TyOk a) ∧ (t = 46 → ∃ l : List Ty, cs = [.fz (l.map tyC)] ∧ l.length ≤ 9223372036854775807 ∧ ∀ a ∈ l, TyOk a) := by
  intro t cs h
  induction h with
  | int h1 _ => exact ⟨fun e => (by rw [e, v40] at h1; cases h1), fun e => (by rw [e, v38] at h1; cases h1)⟩
  | bool h1 => exact ⟨fun e => (by rw [e, v40] at h1; cases h1), fun e => (by rw [e, v38] at h1; cases h1)⟩
  | str h1 _ => exact ⟨fun e => (by rw [e, v40] at h1; cases h1), fun e => (by rw [e, v38] at h1; cases h1)⟩
  | @sl t e xs h1 h2 h3 ih =>
    refine ⟨fun e => (by rw [e, v40] at h1; cases h1), fun e => ?_⟩
    subst e
    rw [v38] at h1
    cases h1
    obtain ⟨l, rfl, hl⟩ := rows_of (row := tyC) (Q := TyOk) fun r hr => (ih r hr).1 rfl
    exact ⟨l, rfl, by have := mx47 h2; simpa using this, hl⟩
  | @st t fs parts h1 h2 h3 ih =>
    refine ⟨fun e => ?_, fun e => (by rw [e, v38] at h1; cases h1)⟩
    subst e
    rw [v40] at h1
    cases h1
    match parts, h2 with
    | [p0, p1, p2, p3], _ =>
      obtain ⟨k, rfl, hk⟩ := Fit.inv_int v3 (h3 0 _ p0 rfl rfl)
      obtain ⟨s, rfl, hs⟩ := Fit.inv_int v3 (h3 1 _ p1 rfl rfl)
      obtain ⟨n, rfl, hn⟩ := Fit.inv_str v9 (h3 2 _ p2 rfl rfl)
      obtain ⟨l, rfl, hl, ho⟩ := (ih 3 _ p3 rfl rfl).2 rfl
      exact ⟨.mk k s n l, by rw [tyC, tysC_map]; rfl, .mk (wf64 hk) (wf64 hs) (mx47 hn) hl ho⟩
theorem fitTy {cs : List C} (h : Fit Tryz.prog 48 cs) : ∃ a, cs = tyC a ∧ TyOk a := (fitT h).1 rfl
theorem fitFl {cs : List C} (h : Fit Tryz.prog 50 cs) : ∃ a : Fl, cs = flC a ∧ a.ok := by
  obtain ⟨parts, rfl, h2, h3⟩ := Fit.inv_st v53 h
  match parts, h2 with
  | [p0, p1, p2, p3], _ =>
    obtain ⟨k, rfl, hk⟩ := Fit.inv_int v3 (h3 0 _ p0 rfl rfl)
    obtain ⟨n, rfl, hn⟩ := Fit.inv_str v9 (h3 1 _ p1 rfl rfl)
    obtain ⟨t, rfl, ht⟩ := fitTy (h3 2 _ p2 rfl rfl)
    obtain ⟨b, rfl⟩ := Fit.inv_bool v4 (h3 3 _ p3 rfl rfl)
    exact ⟨⟨k, n, t, b⟩, by rw [tyC_eq]; rfl, wf64 hk, mx47 hn, ht⟩
theorem fitSt {cs : List C} (h : Fit Tryz.prog 37 cs) : ∃ a : St, cs = stC a ∧ a.ok := by
  obtain ⟨parts, rfl, h2, h3⟩ := Fit.inv_st v32 h
  match parts, h2 with
  | [p0, p1], _ =>
    obtain ⟨n, rfl, hn⟩ := Fit.inv_str v9 (h3 0 _ p0 rfl rfl)
    obtain ⟨ys, rfl, hl, hy⟩ := Fit.inv_sl v30 (h3 1 _ p1 rfl rfl)
    obtain ⟨l, rfl, ho⟩ := rows_of (row := flC) (Q := Fl.ok) fun r hr => fitFl (hy r hr)
    exact ⟨⟨n, l⟩, rfl, mx47 hn, by have := mx47 hl; simpa using this, ho⟩
theorem fitEn {cs : List C} (h : Fit Tryz.prog 60 cs) : ∃ a : En, cs = enC a ∧ a.ok := by
  obtain ⟨parts, rfl, h2, h3⟩ := Fit.inv_st v47 h
  match parts, h2 with
  | [p0, p1, p2], _ =>
    obtain ⟨n, rfl, hn⟩ := Fit.inv_str v9 (h3 0 _ p0 rfl rfl)
    obtain ⟨ys, rfl, hl, hy⟩ := Fit.inv_sl v35 (h3 1 _ p1 rfl rfl)
    obtain ⟨zs, rfl, hl2, hz⟩ := Fit.inv_sl v45 (h3 2 _ p2 rfl rfl)
    obtain ⟨l, rfl, ho⟩ := rows_of (row := stR) (Q := fun b => b.size ≤ 9223372036854775807) fun r hr => by
      obtain ⟨s, rfl, hs⟩ := Fit.inv_str v9 (hy r hr); exact ⟨s, rfl, mx47 hs⟩
    obtain ⟨m, rfl, hm⟩ := rows_of (row := inR) (Q := in64) fun r hr => by
      obtain ⟨s, rfl, hs⟩ := Fit.inv_int v3 (hz r hr); exact ⟨s, rfl, wf64 hs⟩
    exact ⟨⟨n, l, m⟩, rfl, mx47 hn, by have := mx47 hl; simpa using this, by have := mx47 hl2; simpa using this, ho, hm⟩
theorem fitSc (cs : List C) (h : Fit Tryz.prog 25 cs) : ∃ a : Sc, cs = scC a ∧ a.ok := by
  obtain ⟨parts, rfl, h2, h3⟩ := Fit.inv_st v25 h
  match parts, h2 with
  | [p0, p1, p2], _ =>
    obtain ⟨n, rfl, hn⟩ := Fit.inv_int v3 (h3 0 _ p0 rfl rfl)
    obtain ⟨ys, rfl, hl, hy⟩ := Fit.inv_sl v22 (h3 1 _ p1 rfl rfl)
    obtain ⟨zs, rfl, hl2, hz⟩ := Fit.inv_sl v23 (h3 2 _ p2 rfl rfl)
    obtain ⟨l, rfl, ho⟩ := rows_of (row := enC) (Q := En.ok) fun r hr => fitEn (hy r hr)
    obtain ⟨m, rfl, hm⟩ := rows_of (row := stC) (Q := St.ok) fun r hr => fitSt (hz r hr)
    exact ⟨⟨n, l, m⟩, rfl, wf64 hn, by have := mx47 hl; simpa using this, by have := mx47 hl2; simpa using this, ho, hm⟩
end Go.Proofs.YtbolanmlngjdoaaGreat
namespace Go.Proofs.YtbolanmlngjdoaaGreat
open Go.W
def pc3_12 : PC := .seq (.gh (.reg  [⟨some 82, none, .q (.mv (.t 11))⟩, ⟨some 83, none, .q (.mv (.t 82))⟩, ⟨some 84, (some (83, true)), .l (.ldn 3 (.t 3))⟩, ⟨some 85, (some (83, true)), .cq 11 [(.t 84)]⟩, ⟨some 86, (some (83, true)), .q (.bin .eql true (.t 85) (.k (.int .i64 0)))⟩, ⟨some 87, none, .pick (.t 83) (.t 86) (.k (.bool false))⟩, ⟨some 12, none, .q (.mv (.t 87))⟩])) (.seq (.reg  [⟨some 88, none, .l (.ldn 3 (.t 3))⟩, ⟨some 89, none, .l (.ldn 3 (.t 4))⟩, ⟨some 90, none, .q (.mv (.t 2))⟩, ⟨some 91, none, .cq 12 [(.t 88), (.t 89), (.t 90)]⟩, ⟨some 92, none, .l (.ldn 3 (.t 3))⟩, ⟨some 93, none, .l (.ldn 3 (.t 4))⟩, ⟨some 94, none, .q (.mv (.t 2))⟩, ⟨some 95, none, .cq 13 [(.t 92), (.t 93), (.t 94)]⟩, ⟨some 96, none, .q (.eqB false (.t 91) (.t 95))⟩, ⟨some 97, none, .q (.mv (.t 96))⟩, ⟨some 98, (some (97, true)), .l (.ldn 3 (.t 3))⟩, ⟨some 99, (some (97, true)), .l (.ldn 3 (.t 3))⟩, ⟨some 100, (some (97, true)), .q (.mv (.t 2))⟩, ⟨some 101, (some (97, true)), .cq 12 [(.t 98), (.t 99), (.t 100)]⟩, ⟨some 102, (some (97, true)), .q (.mv (.t 12))⟩, ⟨some 103, (some (97, true)), .q (.eqB false (.t 101) (.t 102))⟩, ⟨some 104, none, .pick (.t 97) (.t 103) (.k (.bool false))⟩, ⟨some 105, none, .q (.mv (.t 104))⟩, ⟨some 106, (some (105, true)), .cq 7 []⟩, ⟨some 107, none, .pick (.t 105) (.t 106) (.k (.bool false))⟩, ⟨some 6, none, .q (.mv (.t 107))⟩]) (.ret))
@[go_sem ↓] theorem fold3_12 (Γ : Env) (k0 : Nat) (fr : Fr) (H : Hp) (K : Ex → Fr → Hp → Prop) : vc Γ k0 pc3_12 fr H K = vcn Γ k0 pc3_12 fr H K ⟨⟩ := rfl
def pc3_11 : PC := .seq (.gh (.reg  [⟨some 77, none, .l (.ldn 3 (.t 3))⟩, ⟨some 78, none, .q (.mv (.t 2))⟩, ⟨some 79, none, .cl 10 [(.t 77), (.t 78)] []⟩, ⟨some 76, none, .q (.mv (.t 79))⟩, ⟨some 80, none, .q (.ex (.t 76) 0)⟩, ⟨some 81, none, .q (.ex (.t 76) 1)⟩, ⟨some 10, none, .e (.al (.agg #[(.string (mk [])), (.slice none 0 0)]) 37)⟩, ⟨none, none, .e (.st 2 (.t 10) (.t 80))⟩, ⟨some 11, none, .q (.mv (.t 81))⟩])) (pc3_12)
@[go_sem ↓] theorem fold3_11 (Γ : Env) (k0 : Nat) (fr : Fr) (H : Hp) (K : Ex → Fr → Hp → Prop) : vc Γ k0 pc3_11 fr H K = vcn Γ k0 pc3_11 fr H K ⟨⟩ := rfl
def pc3_4 : PC := .seq (.seq (.gh (.reg  [⟨some 28, none, .q (.mv (.t 7))⟩, ⟨some 29, none, .q (.lnL (.t 28))⟩, ⟨some 30, none, .q (.mv (.t 8))⟩, ⟨some 31, none, .q (.lnL (.t 30))⟩, ⟨some 32, none, .q (.bin .neq true (.t 29) (.t 31))⟩])) (.cond (.t 32) (.seq (.reg  [⟨some 6, none, .q (.mv (.k (.bool false)))⟩]) (.ret)) (.skip))) (.seq (.seq (.reg  [⟨some 9, none, .q (.mv (.k (.int .i64 0)))⟩]) (.block 0 (.loop (.seq (.seq (.reg  [⟨some 33, none, .q (.mv (.t 9))⟩, ⟨some 34, none, .q (.mv (.t 7))⟩, ⟨some 35, none, .q (.lnL (.t 34))⟩, ⟨some 36, none, .q (.bin .lss true (.t 33) (.t 35))⟩]) (.cond (.t 36) (.skip) (.exit 0))) (.seq (.block 1 (.seq (.reg  [⟨some 39, none, .q (.mv (.t 7))⟩, ⟨some 40, none, .q (.mv (.t 9))⟩, ⟨some 41, none, .l (.ia 3 (.t 39) (.t 40))⟩, ⟨some 42, none, .q (.fa 0 (.t 41))⟩, ⟨some 43, none, .l (.ld1 (.t 42))⟩, ⟨some 44, none, .q (.mv (.t 8))⟩, ⟨some 45, none, .q (.mv (.t 9))⟩, ⟨some 46, none, .l (.ia 3 (.t 44) (.t 45))⟩, ⟨some 47, none, .q (.fa 0 (.t 46))⟩, ⟨some 48, none, .l (.ld1 (.t 47))⟩, ⟨some 49, none, .q (.bin .neq true (.t 43) (.t 48))⟩, ⟨some 50, none, .q (.mv (.t 49))⟩, ⟨some 51, (some (50, false)), .q (.mv (.t 7))⟩, ⟨some 52, (some (50, false)), .q (.mv (.t 9))⟩, ⟨some 53, (some (50, false)), .l (.ia 3 (.t 51) (.t 52))⟩, ⟨some 54, (some (50, false)), .q (.fa 1 (.t 53))⟩, ⟨some 55, (some (50, false)), .l (.ld1 (.t 54))⟩, ⟨some 56, (some (50, false)), .q (.mv (.t 8))⟩, ⟨some 57, (some (50, false)), .q (.mv (.t 9))⟩, ⟨some 58, (some (50, false)), .l (.ia 3 (.t 56) (.t 57))⟩, ⟨some 59, (some (50, false)), .q (.fa 1 (.t 58))⟩, ⟨some 60, (some (50, false)), .l (.ld1 (.t 59))⟩, ⟨some 61, (some (50, false)), .q (.bin .neq true (.t 55) (.t 60))⟩, ⟨some 62, none, .pick (.t 50) (.k (.bool true)) (.t 61)⟩, ⟨some 63, none, .q (.mv (.t 62))⟩, ⟨some 64, (some (63, false)), .q (.mv (.t 7))⟩, ⟨some 65, (some (63, false)), .q (.mv (.t 9))⟩, ⟨some 66, (some (63, false)), .l (.ia 3 (.t 64) (.t 65))⟩, ⟨some 67, (some (63, false)), .q (.fa 2 (.t 66))⟩, ⟨some 68, (some (63, false)), .l (.ld1 (.t 67))⟩, ⟨some 69, (some (63, false)), .q (.mv (.t 8))⟩, ⟨some 70, (some (63, false)), .q (.mv (.t 9))⟩, ⟨some 71, (some (63, false)), .l (.ia 3 (.t 69) (.t 70))⟩, ⟨some 72, (some (63, false)), .q (.fa 2 (.t 71))⟩, ⟨some 73, (some (63, false)), .l (.ld1 (.t 72))⟩, ⟨some 74, (some (63, false)), .q (.bin .neq true (.t 68) (.t 73))⟩, ⟨some 75, none, .pick (.t 63) (.k (.bool true)) (.t 74)⟩]) (.cond (.t 75) (.seq (.reg  [⟨some 6, none, .q (.mv (.k (.bool false)))⟩]) (.ret)) (.skip)))) (.reg  [⟨some 37, none, .q (.mv (.t 9))⟩, ⟨some 38, none, .q (.bin .add true (.t 37) (.k (.int .i64 1)))⟩, ⟨some 9, none, .q (.mv (.t 38))⟩])))))) (pc3_11))
@[go_sem ↓] theorem fold3_4 (Γ : Env) (k0 : Nat) (fr : Fr) (H : Hp) (K : Ex → Fr → Hp → Prop) : vc Γ k0 pc3_4 fr H K = vcn Γ k0 pc3_4 fr H K ⟨⟩ := rfl
def pc3 : PC := .seq (.reg  [⟨some 3, none, .e (.bx 25 (.t 0))⟩, ⟨some 4, none, .e (.bx 25 (.t 1))⟩, ⟨some 6, none, .q (.mv (.k (.bool false)))⟩]) (.seq (.seq (.reg  [⟨some 13, none, .l (.ldn 3 (.t 3))⟩, ⟨some 14, none, .cq 6 [(.t 13)]⟩, ⟨some 15, none, .q (.mv (.t 14))⟩, ⟨some 16, (some (15, false)), .l (.ldn 3 (.t 4))⟩, ⟨some 17, (some (15, false)), .cq 6 [(.t 16)]⟩, ⟨some 18, none, .pick (.t 15) (.k (.bool true)) (.t 17)⟩]) (.cond (.t 18) (.seq (.reg  [⟨some 19, none, .cq 7 []⟩, ⟨some 6, none, .q (.mv (.t 19))⟩]) (.ret)) (.skip))) (.seq (.ord  [.q ⟨some 20, none, .l (.ldn 3 (.t 3))⟩, .q ⟨some 21, none, .l (.ldn 3 (.t 4))⟩, .q ⟨some 22, none, .q (.mv (.t 2))⟩, .q ⟨some 24, none, .l (.ldn 3 (.t 3))⟩, .q ⟨some 25, none, .l (.ldn 3 (.t 4))⟩, .q ⟨some 26, none, .q (.mv (.t 2))⟩, .m ⟨some 23, none, .cl 8 [(.t 20), (.t 21), (.t 22)] []⟩, .rc ⟨some 24, none, .l (.ldn 3 (.t 3))⟩, .rc ⟨some 25, none, .l (.ldn 3 (.t 4))⟩, .rc ⟨some 26, none, .q (.mv (.t 2))⟩, .m ⟨some 27, none, .cl 9 [(.t 24), (.t 25), (.t 26)] []⟩, .m ⟨some 7, none, .q (.mv (.t 23))⟩, .m ⟨some 8, none, .q (.mv (.t 27))⟩]) (pc3_4)))
def rs3 : List RV := [.mv (.t 6)]
theorem ok3 : trFn Tryz.prog true ⟨fun r k => if r = 1 ∧ k = 1 then .q else if r = 1 ∧ k = 4 then .q else if r = 2 ∧ k = 0 then .q else if r = 12 ∧ k = 3 then .q else if r = 13 ∧ k = 3 then .q else if r = 13 ∧ k = 7 then .q else if r = 13 ∧ k = 13 then .q else if r = 13 ∧ k = 18 then .q else .own [], fun r => [4, 11, 12].contains r⟩ Tryz.f3 = some (pc3, rs3) := by kernel_rfl
end Go.Proofs.YtbolanmlngjdoaaGreat
namespace Go.Proofs.YtbolanmlngjdoaaGreat
open Go.W
def i3Pre : List S → Prop := fun av => match av with
  | [.va (.gs r), .va (.gs q), .va (.c1 (.vl (.string _)))] => isSc r ∧ isSc q
  | _ => False
theorem i3Pre_open {av : List S} (h : i3Pre av) : ∃ (a b : Sc) (x : ByteArray), av = [.va (.gs (scC a)), .va (.gs (scC b)), tS x] ∧ a.ok ∧ b.ok := by
  unfold i3Pre at h
  split at h
  · obtain ⟨⟨a, rfl, ha⟩, ⟨b, rfl, hb⟩⟩ := h; exact ⟨a, b, _, rfl, ha, hb⟩
  · exact h.elim
def lawI : Fun := ⟨i3Pre, fun _ => bA true, fun _ _ => trivial⟩
theorem lawI_len : ∀ av H K, lawI.sp av H K → av.length = 3 := fun av H K h => by obtain ⟨a, b, c, rfl, _⟩ := i3Pre_open h.1.1; rfl
theorem fm_len_le {α β : Type} {f : α → List β} {k : Nat} {l : List α} (h : ∀ a ∈ l, (f a).length ≤ k) {m : Nat} (hm : l.length ≤ m) : (l.flatMap f).length ≤ m * k := Nat.le_trans (fm_le h) (Nat.mul_le_mul_right k hm)
theorem issF_len {o n : Sc} (ho : o.fit) (hn : n.fit) (x : ByteArray) : (issF o n x).length ≤ 140000 := by
  unfold issF
  by_cases c1 : checkF o = 0
  · by_cases c2 : checkF n = 0
    · rw [c1, c2]
      have hlen : (nmsF o n x).length ≤ 33 := by
        unfold nmsF
        have h1 := List.length_filter_le (inB (usL n x)) (usL o x)
        have h2 := usL_len ho x
        rw [List.length_cons]; omega
      have h2 := fm_len_le (f := cmpN o n) (fun y _ => cmpN_len ho hn c1 c2 y) hlen
      have h3 := putA_len (rawI o n x) []
      show (putA [] (rawI o n x)).length ≤ _
      unfold rawI at h3 ⊢
      simp only [List.length_nil] at h3
      omega
    · rw [show (checkF n != 0) = true by simpa using c2, Bool.or_true]; exact Nat.zero_le _
  · rw [show (checkF o != 0) = true by simpa using c1]; exact Nat.zero_le _
set_option maxRecDepth 100000 in
set_option maxHeartbeats 4000000 in
theorem mLawIssues : Meets Tryz.prog 3 lawI.sp := by
  refine meets_fn Tryz.func3 ok3 3 (by rw [Tryz.ntmps3]; decide) (meetsAll_f mLarge12 (meetsAll_f mAwake (meetsAll_s mIssues (meetsAll_s mIssuesR (meetsAll_s mRStruct (meetsAll_f mRCheck (meetsAll_f mCompatible (meetsAll_f mCompatibleR (meetsAll_nil _))))))))) lawI_len ?_
  rintro av H K ⟨⟨h, rfl⟩, hK⟩
  obtain ⟨a, b, x, rfl, ha, hb⟩ := i3Pre_open h
  replace hK : K (bS true) [] := hK
  clear h
  have fin : ∀ R : Hp, W.Fin 0 K (bS true) R := fun R => .sel [] (by simp) (by simp) rfl (.done (by simpa [go_sem] using hK))
  have hsa := isSc_mk ha
  have hsb := isSc_mk hb
  have hda := sc_dec a
  have hdb := sc_dec b
  rw [scC] at hsa hsb hda hdb
  cases f1 : fewS a with
  | false =>
    simp (maxSteps := 1000000) -dsimp only [go_sem, scC, pc3, rs3, hsa, hsb, hda, hdb, f1, Bool.not_false]
    exact fin _
  | true =>
  cases f2 : fewS b with
  | false =>
    simp (maxSteps := 1000000) -dsimp only [go_sem, scC, pc3, rs3, hsa, hsb, hda, hdb, f1, f2, Bool.not_false, Bool.not_true]
    exact fin _
  | true =>
  have fa := few_fit ha f1
  have fb := few_fit hb f2
  have hfa := isScF_mk fa
  have hfb := isScF_mk fb
  rw [scC] at hfa hfb
  have hil := issF_len fa fb x
  simp (maxSteps := 1000000) -dsimp only [go_sem, scC, pc3, rs3, hsa, hsb, hda, hdb, f1, f2, Bool.not_true]
  refine iu_use fa fb ?_
  simp (maxSteps := 1000000) -dsimp only [go_sem]
  refine iu_use fa fb ?_
  generalize issF a b x = l at *
  simp (maxSteps := 1000000) -dsimp only [go_sem]
  refine vc_tail (up := [(2, tS x), (3, .va (.c1 (.pt 0 0))), (4, .va (.c1 (.pt 1 0))), (7, .va (.c1 (.fz (l.map isC)))), (8, .va (.c1 (.fz (l.map isC))))]) (Hs := [.cells (scC a) 25, .cells (scC b) 25]) 2 ?_ ?_ ?_
  rotate_left
  · simp -dsimp only [go_sem] <;> simp
  · simp -dsimp only [go_sem, scC] <;> simp
  have e0 : ((l.length : Int) != (l.length : Int)) = false := by simp
  simp (maxSteps := 1000000) -dsimp only [go_sem, scC, pc3_4, e0]
  refine vc_loop (α := Nat) (fun i => [(2, tS x), (3, .va (.c1 (.pt 0 0))), (4, .va (.c1 (.pt 1 0))), (7, .va (.c1 (.fz (l.map isC)))), (8, .va (.c1 (.fz (l.map isC)))), (9, iS .i64 i)]) (fun _ => [.cells (scC a) 25, .cells (scC b) 25])
    (fun i => i ≤ l.length) (fun i => l.length - i) 0 2 (Nat.zero_le _) ?_ ?_ ?_
  · simp -dsimp only [go_sem] <;> simp
  · simp -dsimp only [go_sem, scC] <;> simp
  intro i hi
  rcases Nat.lt_or_ge i l.length with hlt | hge
  · have hg : decide ((i : Int) < (l.length : Int)) = true := by simp; omega
    obtain ⟨y, hx⟩ : ∃ t, l[i]? = some t := ⟨_, List.getElem?_eq_getElem hlt⟩
    have q1 := row_rg' (row := isC) hx
    have k1 : (y.k != y.k) = false := by simp
    have k2 : (y.n != y.n) = false := by simp
    have k3 : decide (y.t = y.t) = true := by simp
    simp (maxSteps := 1000000) -dsimp only [go_sem, hg, scC, hx, Option.some.injEq, forall_eq', isC, k1, k2, bl_beq, Bool.not_true, Bool.not_false]
    and_intros
    all_goals first
      | omega
      | skip
    · exact fun h => absurd h (by simp)
    · refine fun _ => ⟨by omega, loop_next (i + 1) 2 (by omega) (by omega) ?_ ?_⟩
      · simp -dsimp only [go_sem] <;> simp
      · simp -dsimp only [go_sem, scC] <;> simp
  · have hg : decide ((i : Int) < (l.length : Int)) = false := by simp; omega
    obtain rfl : i = l.length := by omega
    simp (maxSteps := 1000000) -dsimp only [go_sem, hg, scC]
    refine vc_tail (up := [(2, tS x), (3, .va (.c1 (.pt 0 0))), (4, .va (.c1 (.pt 1 0)))]) (Hs := [.cells (scC a) 25, .cells (scC b) 25]) 2 ?_ ?_ ?_
    rotate_left
    · simp -dsimp only [go_sem] <;> simp
    · simp -dsimp only [go_sem, scC] <;> simp
    simp (maxSteps := 1000000) -dsimp only [go_sem, scC, pc3_11]
    refine stp_use fa ?_
    generalize (fS a.ss x).getD default = t
    simp (maxSteps := 1000000) -dsimp only [go_sem, stC]
    refine vc_tail (up := [(2, tS x), (3, .va (.c1 (.pt 0 0))), (4, .va (.c1 (.pt 1 0))), (11, bS (hasS a.ss x))]) (Hs := [.cells (scC a) 25, .cells (scC b) 25]) 2 ?_ ?_ ?_
    rotate_left
    · simp -dsimp only [go_sem] <;> simp
    · simp -dsimp only [go_sem, scC] <;> simp
    have c1 : coF a a x = (hasS a.ss x && (checkF a == 0)) := coF_self fa x
    have c2 : (coF a b x == coF a b x) = true := by simp
    have c3 : ((hasS a.ss x && (checkF a == 0)) == (hasS a.ss x && (checkF a == 0))) = true := by simp
    simp (maxSteps := 1000000) -dsimp only [go_sem, scC, pc3_12, hfa, hfb, hda, hdb, c1, c2, c3]
    exact fin _
end Go.Proofs.YtbolanmlngjdoaaGreat
