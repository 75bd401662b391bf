/- Lemmas and walks for the proof. -/
import Derived.Test.YtpfmkfafagiicaaOd
import Derived.KernelRfl
import Derived.Shelf.Slices.Clone
import Derived.Test.YtpfmkfafagiicaaProg
import Derived.WalkKit
import Derived.Laws.IdiomStrings
namespace Go.W
open Go.RowKit
inductive Fit (P : Program) : TypeId → List C → Prop
  | int {t : TypeId} {k : IntKind} {n : Int} : P.underlying t = some (.int k) → (Lit.int k n).wf = true → Fit P t [.vl (.int k n)]
  | bool {t : TypeId} {b : Bool} : P.underlying t = some .bool → Fit P t [.vl (.bool b)]
  | str {t : TypeId} {s : ByteArray} : P.underlying t = some .string → s.size ≤ maxLen → Fit P t [.vl (.string s)]
  | sl {t e : TypeId} {xs : List (List C)} : P.underlying t = some (.slice e) → xs.length ≤ maxLen → (∀ r ∈ xs, Fit P e r) → Fit P t [.fz xs]
  | st {t : TypeId} {fs : Array Field} {parts : List (List C)} : P.underlying t = some (.struct fs) → parts.length = fs.size → (∀ (i : Nat) (f : Field) (p : List C), fs[i]? = some f → parts[i]? = some p → Fit P f.type p) → Fit P t parts.flatten
section
variable {P : Program} {t e : TypeId} {xs : List C}
theorem Fit.inv_int {k : IntKind} (ht : P.underlying t = some (.int k)) (h : Fit P t xs) : ∃ n : Int, xs = [.vl (.int k n)] ∧ (Lit.int k n).wf = true := by
  cases h with
  | int h1 h2 => rw [ht] at h1; cases h1; exact ⟨_, rfl, h2⟩
  | bool h1 => rw [ht] at h1; cases h1
  | str h1 => rw [ht] at h1; cases h1
  | sl h1 => rw [ht] at h1; cases h1
  | st h1 => rw [ht] at h1; cases h1
theorem Fit.inv_bool (ht : P.underlying t = some .bool) (h : Fit P t xs) : ∃ b : Bool, xs = [.vl (.bool b)] := by
  cases h with
  | int h1 h2 => rw [ht] at h1; cases h1
  | bool h1 => exact ⟨_, rfl⟩
  | str h1 => rw [ht] at h1; cases h1
  | sl h1 => rw [ht] at h1; cases h1
  | st h1 => rw [ht] at h1; cases h1
theorem Fit.inv_str (ht : P.underlying t = some .string) (h : Fit P t xs) : ∃ s : ByteArray, xs = [.vl (.string s)] ∧ s.size ≤ maxLen := by
  cases h with
  | int h1 h2 => rw [ht] at h1; cases h1
  | bool h1 => rw [ht] at h1; cases h1
  | str h1 h2 => exact ⟨_, rfl, h2⟩
  | sl h1 => rw [ht] at h1; cases h1
  | st h1 => rw [ht] at h1; cases h1
theorem Fit.inv_sl (ht : P.underlying t = some (.slice e)) (h : Fit P t xs) : ∃ ys : List (List C), xs = [.fz ys] ∧ ys.length ≤ maxLen ∧ ∀ r ∈ ys, Fit P e r := by
  cases h with
  | int h1 h2 => rw [ht] at h1; cases h1
  | bool h1 => rw [ht] at h1; cases h1
  | str h1 => rw [ht] at h1; cases h1
  | sl h1 h2 h3 => rw [ht] at h1; cases h1; exact ⟨_, rfl, h2, h3⟩
  | st h1 => rw [ht] at h1; cases h1
theorem Fit.inv_st {fs : Array Field} (ht : P.underlying t = some (.struct fs)) (h : Fit P t xs) : ∃ parts : List (List C), xs = parts.flatten ∧ parts.length = fs.size ∧ ∀ (i : Nat) (f : Field) (p : List C), fs[i]? = some f → parts[i]? = some p → Fit P f.type p := by
  cases h with
  | int h1 h2 => rw [ht] at h1; cases h1
  | bool h1 => rw [ht] at h1; cases h1
  | str h1 => rw [ht] at h1; cases h1
  | sl h1 => rw [ht] at h1; cases h1
  | st h1 h2 h3 => rw [ht] at h1; cases h1; exact ⟨_, rfl, h2, h3⟩
end
theorem Fit.rows {P : Program} {e : TypeId} {α : Type} {row : α → List C} {Q : α → Prop} {ys : List (List C)} (hi : ∀ r, Fit P e r → ∃ a, r = row a ∧ Q a) (h : ∀ r ∈ ys, Fit P e r) : ∃ l : List α, ys = l.map row ∧ ∀ a ∈ l, Q a := by
  induction ys with
  | nil => exact ⟨[], rfl, fun a h => by cases h⟩
  | cons r ys ih =>
    obtain ⟨l, h1, h2⟩ := ih fun r hr => h r (List.mem_cons_of_mem _ hr)
    obtain ⟨a, h3, h4⟩ := hi r (h r (by simp))
    refine ⟨a :: l, by rw [h1, h3]; rfl, fun x hx => ?_⟩
    rcases List.mem_cons.1 hx with rfl | hx
    · exact h4
    · exact h2 x hx
def offs (P : Program) : Nat → List Field → Option Nat
  | o, [] => some o
  | o, f :: r => if f.offset = o then offs P (o + P.cellsOf f.type) r else none
def tysOk (P : Program) (ts : List TypeId) : Bool := ts.all fun t => match P.underlying t with
  | some (.int _) | some .bool | some .string => true
  | some (.slice e) => ts.contains e && decide (0 < P.cellsOf e)
  | some (.struct fs) => fs.toList.all (fun f => ts.contains f.type) && offs P 0 fs.toList == some (P.cellsOf t)
  | _ => false
theorem glue {P : Program} {R : C → Value → Prop} {Q : Field → List C → Prop} {cs : List Value} : ∀ (fs : List Field) (o : Nat), offs P o fs = some cs.length →
    (∀ (i : Nat) (f : Field), fs[i]? = some f → ∃ p, Q f p ∧ All2 R p ((cs.drop f.offset).take (P.cellsOf f.type))) →
    ∃ parts : List (List C), parts.length = fs.length ∧ (∀ (i : Nat) (f : Field) (p : List C), fs[i]? = some f → parts[i]? = some p → Q f p) ∧ All2 R parts.flatten (cs.drop o)
  | [], o, ho, _ => by
    simp only [offs, Option.some.injEq] at ho
    subst ho
    exact ⟨[], rfl, fun i f p h => by simp at h, by simpa using All2.nil⟩
  | f :: fs, o, ho, h => by
    simp only [offs] at ho
    split at ho
    · rename_i hf
      obtain ⟨parts, h1, h2, h3⟩ := glue fs _ ho fun i f hf => h (i + 1) f (by simpa using hf)
      obtain ⟨p, h4, h5⟩ := h 0 f rfl
      refine ⟨p :: parts, by simp [h1], fun i g q hg hq => ?_, ?_⟩
      · cases i with
        | zero => simp at hg hq; subst hg hq; exact h4
        | succ i => exact h2 i g q (by simpa using hg) (by simpa using hq)
      · have : cs.drop o = (cs.drop f.offset).take (P.cellsOf f.type) ++ cs.drop (o + P.cellsOf f.type) := by
          rw [hf, ← List.drop_drop, List.take_append_drop]
        rw [List.flatten_cons, this]
        exact h5.app h3
    · cases ho
section
variable {H : Type} {enc : TypeId × Value → H} {P : Program} {W : World} {ts : List TypeId}
theorem fz_any {b off len cap sz : Nat} {oa : Option Addr} (hoa : len ≠ 0 → oa = some ⟨b, off, none⟩) (hsz : 0 < sz) (X : Nat → List C) (hl : ∀ i, i < len → (X i).length = sz) (hc : len ≤ cap)
    (h : ∀ i, i < len → ∀ j c, (X i)[j]? = some c → ∃ v, W.cell? ⟨b, off + (i * sz + j), none⟩ = some v ∧ c.fv (roW W) v ∧ c.shut = true) :
    FzR (roW W) ((List.range len).map X) (.slice oa len cap) := by
  have hz : ∀ x ∈ (List.range len).map X, x.length = sz := fun x hx => by
    obtain ⟨i, hi, rfl⟩ := List.mem_map.1 hx
    exact hl i (List.mem_range.1 hi)
  have hfl : ∀ k c, ((List.range len).map X).flatten[k]? = some c → ∃ v, W.cell? ⟨b, off + k, none⟩ = some v ∧ c.fv (roW W) v ∧ c.shut = true := fun k c hk => by
    have hkl : k < len * sz := by
      have h1 := (List.getElem?_eq_some_iff.1 hk).1
      rw [flat_len _ hz] at h1
      simpa using h1
    have hi : k / sz < len := (Nat.div_lt_iff_lt_mul hsz).2 hkl
    have hj := Nat.mod_lt k hsz
    have hg := flat_get hz (i := k / sz) (j := k % sz) (by simpa using hi) hj
    rw [Nat.mul_comm, Nat.div_add_mod, hk] at hg
    have hxi : ((List.range len).map X)[k / sz]? = some (X (k / sz)) := by simp [hi]
    rw [hxi, Option.bind_some] at hg
    have := h (k / sz) hi (k % sz) c hg.symm
    rwa [Nat.mul_comm, Nat.div_add_mod] at this
  have hr := FzR.mk (ro := roW W) ((List.range len).map X) sz (some (b, off)) oa (fun hne => hoa (fun e => by subst e; simp at hne)) cap (fun k => (W.cell? ⟨b, off + k, none⟩).getD undef) hz (by simpa using hc) (fun _ => rfl)
    (fun k c hk => by
      obtain ⟨v, h2, _⟩ := hfl k c hk
      simp [roW, h2])
    (fun k v hk => by
      obtain ⟨u, h1, h2, _⟩ := hfl k _ hk
      have : u = v := h2
      simp [h1, this])
    (fun k ys hk => by
      obtain ⟨u, h1, h2, _⟩ := hfl k _ hk
      have : FzR (roW W) ys u := h2
      simpa [h1] using this)
    (fun c hc => by
      obtain ⟨k, hk⟩ := List.mem_iff_getElem?.1 hc
      obtain ⟨u, _, _, h3⟩ := hfl k c hk
      exact h3)
  simpa using hr
theorem fit_of_trod (hok : tysOk P ts = true) : ∀ (n : Nat) (t : TypeId) (cs : List Value) (y : DataW H × List MemPlace), t ∈ ts → DataW.trod enc P W 0 (fun _ => true) true n t cs = some y →
    ∃ xs, Fit P t xs ∧ All2 (C.fv (roW W)) xs cs ∧ ∀ c ∈ xs, c.shut = true
  | 0, t, cs, y, _, h => by simp [DataW.trod] at h
  | n + 1, t, cs, y, ht, h => by
    have h1 := List.all_eq_true.1 hok t ht
    split at h1
    · rename_i k hu
      obtain ⟨m, rfl, _, hw⟩ := DataW.trod_int hu h
      exact ⟨_, .int hu hw, .cons rfl .nil, fun c hc => by simp at hc; subst hc; rfl⟩
    · rename_i hu
      obtain ⟨b, rfl, _⟩ := DataW.trod_bool hu h
      exact ⟨_, .bool hu, .cons rfl .nil, fun c hc => by simp at hc; subst hc; rfl⟩
    · rename_i hu
      obtain ⟨s, rfl, _, hs⟩ := DataW.trod_string hu h
      exact ⟨_, .str hu hs, .cons rfl .nil, fun c hc => by simp at hc; subst hc; rfl⟩
    · rename_i e hu
      simp only [Bool.and_eq_true, List.contains_iff_mem, decide_eq_true_eq] at h1
      obtain ⟨he, hpos⟩ := h1
      rcases DataW.trod_slice hu h with ⟨rfl, _⟩ | ⟨a, len, cap, elems, rest, n', hn', rfl, _, _, hl, hm, hel, hi, _⟩
      · exact ⟨_, .sl hu (Nat.zero_le _) (fun r hr => by cases hr), .cons (fz_nil _) .nil, fun c hc => by simp at hc; subst hc; rfl⟩
      · obtain rfl : n = n' := by omega
        have hall : ∀ i, i < len → ∃ x : List C, Fit P e x ∧ x.length = P.cellsOf e ∧ (∀ j c, x[j]? = some c → ∃ v, W.cell? ((a.add (i * P.cellsOf e)).add j) = some v ∧ c.fv (roW W) v ∧ c.shut = true) := fun i hil => by
          have h1 := hi i hil
          rw [List.getElem?_eq_getElem (by omega)] at h1
          obtain ⟨cs', h2, h3⟩ := Option.bind_eq_some_iff.1 h1
          obtain ⟨x, h4, h5, h6⟩ := fit_of_trod hok n e cs' _ he h3
          obtain ⟨_, h7, h8⟩ := World.cells?_some h2
          refine ⟨x, h4, h5.1.trans h7, fun j c hj => ?_⟩
          obtain ⟨v, h9, h10⟩ := h5.get hj
          have hjl : j < P.cellsOf e := by rw [← h7, ← h5.1]; exact (List.getElem?_eq_some_iff.1 hj).1
          refine ⟨v, ?_, h10, h6 c (List.mem_of_getElem? hj)⟩
          have := h8 j hjl
          rwa [h9] at this
        by_cases h0 : len = 0
        · subst h0
          refine ⟨[.fz []], .sl hu (Nat.zero_le _) (fun r hr => by cases hr), .cons ?_ .nil, fun c hc => by simp at hc; subst hc; rfl⟩
          exact fz_any (b := 0) (off := 0) (fun h => absurd rfl h) hpos (fun _ => []) (fun i hi => by omega) (Nat.zero_le _) (fun i hi => by omega)
        · obtain ⟨x0, _, hx0l, hx0⟩ := hall 0 (by omega)
          have hsp : a.spot = none := by
            have hx : ∃ c, x0[0]? = some c := ⟨_, List.getElem?_eq_getElem (by omega)⟩
            obtain ⟨c, hc⟩ := hx
            obtain ⟨v, hv, _⟩ := hx0 0 c hc
            unfold World.cell? at hv
            split at hv
            · split at hv
              · cases hv
              · rename_i hs; simpa [Addr.add] using hs
            · cases hv
          obtain ⟨b, off, spot⟩ := a
          obtain rfl : spot = none := hsp
          haveI : Inhabited (List C) := ⟨[]⟩
          obtain ⟨X, hX⟩ := Go.Deep.choose_lt hall
          refine ⟨[.fz ((List.range len).map X)], .sl hu (by simp; omega) (fun r hr => ?_), .cons ?_ .nil, fun c hc => by simp at hc; subst hc; rfl⟩
          · obtain ⟨i, hi, rfl⟩ := List.mem_map.1 hr
            exact (hX i (List.mem_range.1 hi)).1
          · exact fz_any (fun _ => rfl) hpos X (fun i hi => (hX i hi).2.1) hl (fun i hi j c hj => by
              obtain ⟨v, h2, h3⟩ := (hX i hi).2.2 j c hj
              exact ⟨v, by simpa [Go.WideShapes.add_plain, Nat.add_assoc] using h2, h3⟩)
    · rename_i fs hu
      simp only [Bool.and_eq_true, List.all_eq_true, List.contains_iff_mem, beq_iff_eq] at h1
      obtain ⟨hft, hof⟩ := h1
      obtain ⟨ys, n', hn, _, hcl, hyl, hf⟩ := DataW.trod_struct hu h
      obtain rfl : n = n' := by omega
      obtain ⟨parts, k1, k2, k3⟩ := glue (P := P) (R := fun c v => C.fv (roW W) c v ∧ c.shut = true) (Q := fun f p => Fit P f.type p) (cs := cs) fs.toList 0 (by rw [hcl]; exact hof) (fun i f hfi => by
        have hfi' : fs[i]? = some f := by simpa using hfi
        have h2 := hf i f hfi'
        have hil : i < fs.size := (Array.getElem?_eq_some_iff.1 hfi').1
        rw [List.getElem?_eq_getElem (by omega)] at h2
        obtain ⟨x, h4, h5, h6⟩ := fit_of_trod hok n f.type _ _ (hft f (List.mem_of_getElem? hfi)) h2
        exact ⟨x, h4, ⟨h5.1, fun j c v hc hv => ⟨h5.2 j c v hc hv, h6 c (List.mem_of_getElem? hc)⟩⟩⟩)
      refine ⟨parts.flatten, .st hu (by simpa using k1) (fun i f p hfi hp => k2 i f p (by simpa using hfi) hp), ?_, fun c hc => ?_⟩
      · simpa using k3.imp (fun _ _ h => h.1)
      · obtain ⟨j, hj⟩ := List.mem_iff_getElem?.1 hc
        obtain ⟨v, _, _, h3⟩ := k3.get hj
        exact h3
    · cases h1
theorem fit_of_arg (hok : tysOk P ts = true) {t : TypeId} {v : Value} {d : DataW H} {ps : List MemPlace} (ht : t ∈ ts) (h : DataW.Trod enc P W 0 (fun _ => true) true t v d ps) : ∃ xs, Fit P t xs ∧ All2 (C.fv (roW W)) xs v.cells.toList ∧ ∀ c ∈ xs, c.shut = true := by
  obtain ⟨n, h⟩ := h
  exact fit_of_trod hok n t _ _ ht h
theorem arg_gs {cs : List C} {vs : Array Value} (h : All2 (C.fv (roW W)) cs (Value.agg vs).cells.toList) (hs : ∀ c ∈ cs, c.shut = true) : (S.va (.gs cs)).rel (gm []) (roW W) (.agg vs) :=
  ⟨vs.toList, by simp, ⟨by simpa [Value.cells] using h.1, fun i c v hc hv => (C.rel_shut (hs c (List.mem_of_getElem? hc))).2 (h.2 i c v hc (by simpa [Value.cells] using hv))⟩⟩
end
end Go.W
namespace Go.Proofs.Ytpfmkfafagiicaa
open Go.W
theorem v3 : Try.prog.underlying 3 = some (.int .i64) := by kernel_rfl
theorem v4 : Try.prog.underlying 4 = some .bool := by kernel_rfl
theorem v9 : Try.prog.underlying 9 = some .string := by kernel_rfl
theorem v22 : Try.prog.underlying 22 = some (.slice 47) := by kernel_rfl
theorem v23 : Try.prog.underlying 23 = some (.slice 32) := by kernel_rfl
theorem v30 : Try.prog.underlying 30 = some (.slice 53) := by kernel_rfl
theorem v35 : Try.prog.underlying 35 = some (.slice 9) := by kernel_rfl
theorem v38 : Try.prog.underlying 38 = some (.slice 40) := by kernel_rfl
theorem v45 : Try.prog.underlying 45 = some (.slice 3) := by kernel_rfl
theorem v40 : Try.prog.underlying 40 = some (.struct #[⟨"Kind", 3, 0, false, "", "", 0⟩, ⟨"Size", 3, 1, false, "", "", 8⟩, ⟨"Name", 9, 2, false, "", "", 16⟩, ⟨"Elem", 38, 3, false, "", "", 32⟩]) := by kernel_rfl
theorem v53 : Try.prog.underlying 53 = some (.struct #[⟨"Number", 3, 0, false, "", "", 0⟩, ⟨"Name", 9, 1, false, "", "", 8⟩, ⟨"Type", 40, 2, false, "", "", 24⟩, ⟨"Optional", 4, 6, false, "", "", 80⟩]) := by kernel_rfl
theorem v32 : Try.prog.underlying 32 = some (.struct #[⟨"Name", 9, 0, false, "", "", 0⟩, ⟨"Fields", 30, 1, false, "", "", 16⟩]) := by kernel_rfl
theorem v47 : Try.prog.underlying 47 = some (.struct #[⟨"Name", 9, 0, false, "", "", 0⟩, ⟨"Names", 35, 1, false, "", "", 16⟩, ⟨"Numbers", 45, 2, false, "", "", 40⟩]) := by kernel_rfl
theorem v25 : Try.prog.underlying 25 = some (.struct #[⟨"Version", 3, 0, false, "", "", 0⟩, ⟨"Enums", 22, 1, false, "", "", 8⟩, ⟨"Structs", 23, 2, false, "", "", 32⟩]) := by kernel_rfl
theorem rows_of {α : Type} {row : α → List C} {Q : α → Prop} {ys : List (List C)} (h : ∀ r ∈ ys, ∃ a, r = row a ∧ Q a) : ∃ l : List α, ys = l.map row ∧ ∀ a ∈ l, Q a := by
  induction ys with
  | nil => exact ⟨[], rfl, fun a h => by cases h⟩
  | cons r ys ih =>
    obtain ⟨l, h1, h2⟩ := ih fun r hr => h r (List.mem_cons_of_mem _ hr)
    obtain ⟨a, h3, h4⟩ := h r List.mem_cons_self
    refine ⟨a :: l, by rw [h1, h3]; rfl, fun x hx => ?_⟩
    rcases List.mem_cons.1 hx with rfl | hx
    · exact h4
    · exact h2 x hx
theorem wf64 {n : Int} (h : (Lit.int .i64 n).wf = true) : in64 n := by simpa [in64, Lit.wf, IntKind.min, IntKind.max, IntKind.signed, IntKind.bits] using h
theorem mx47 {n : Nat} (h : n ≤ maxLen) : n ≤ 9223372036854775807 := by unfold maxLen at h; exact h
theorem fitT : ∀ {t : TypeId} {cs : List C}, Fit Try.prog t cs → (t = 40 → ∃ a, cs = tyC a ∧ TyOk a) ∧ (t = 38 → ∃ l : List Ty, cs = [.fz (l.map tyC)] ∧ l.length ≤ 9223372036854775807 ∧ ∀ a ∈ l, TyOk a) := by
  intro t cs h
  induction h with
  | int h1 _ => exact ⟨fun e => (by rw [e, v40] at h1; cases h1), fun e => (by rw [e, v38] at h1; cases h1)⟩
  | bool h1 => exact ⟨fun e => (by rw [e, v40] at h1; cases h1), fun e => (by rw [e, v38] at h1; cases h1)⟩
  | str h1 _ => exact ⟨fun e => (by rw [e, v40] at h1; cases h1), fun e => (by rw [e, v38] at h1; cases h1)⟩
  | @sl t e xs h1 h2 h3 ih =>
    refine ⟨fun e => (by rw [e, v40] at h1; cases h1), fun e => ?_⟩
    subst e
    rw [v38] at h1
    cases h1
    obtain ⟨l, rfl, hl⟩ := rows_of (row := tyC) (Q := TyOk) fun r hr => (ih r hr).1 rfl
    exact ⟨l, rfl, by have := mx47 h2; simpa using this, hl⟩
  | @st t fs parts h1 h2 h3 ih =>
    refine ⟨fun e => ?_, fun e => (by rw [e, v38] at h1; cases h1)⟩
    subst e
    rw [v40] at h1
    cases h1
    match parts, h2 with
    | [p0, p1, p2, p3], _ =>
      obtain ⟨k, rfl, hk⟩ := Fit.inv_int v3 (h3 0 _ p0 rfl rfl)
      obtain ⟨s, rfl, hs⟩ := Fit.inv_int v3 (h3 1 _ p1 rfl rfl)
      obtain ⟨n, rfl, hn⟩ := Fit.inv_str v9 (h3 2 _ p2 rfl rfl)
      obtain ⟨l, rfl, hl, ho⟩ := (ih 3 _ p3 rfl rfl).2 rfl
      exact ⟨.mk k s n l, by rw [tyC, tysC_map]; rfl, .mk (wf64 hk) (wf64 hs) (mx47 hn) hl ho⟩
theorem fitTy {cs : List C} (h : Fit Try.prog 40 cs) : ∃ a, cs = tyC a ∧ TyOk a := (fitT h).1 rfl
theorem fitFl {cs : List C} (h : Fit Try.prog 53 cs) : ∃ a : Fl, cs = flC a ∧ a.ok := by
  obtain ⟨parts, rfl, h2, h3⟩ := Fit.inv_st v53 h
  match parts, h2 with
  | [p0, p1, p2, p3], _ =>
    obtain ⟨k, rfl, hk⟩ := Fit.inv_int v3 (h3 0 _ p0 rfl rfl)
    obtain ⟨n, rfl, hn⟩ := Fit.inv_str v9 (h3 1 _ p1 rfl rfl)
    obtain ⟨t, rfl, ht⟩ := fitTy (h3 2 _ p2 rfl rfl)
    obtain ⟨b, rfl⟩ := Fit.inv_bool v4 (h3 3 _ p3 rfl rfl)
    exact ⟨⟨k, n, t, b⟩, by rw [tyC_eq]; rfl, wf64 hk, mx47 hn, ht⟩
theorem fitSt {cs : List C} (h : Fit Try.prog 32 cs) : ∃ a : St, cs = stC a ∧ a.ok := by
  obtain ⟨parts, rfl, h2, h3⟩ := Fit.inv_st v32 h
  match parts, h2 with
  | [p0, p1], _ =>
    obtain ⟨n, rfl, hn⟩ := Fit.inv_str v9 (h3 0 _ p0 rfl rfl)
    obtain ⟨ys, rfl, hl, hy⟩ := Fit.inv_sl v30 (h3 1 _ p1 rfl rfl)
    obtain ⟨l, rfl, ho⟩ := rows_of (row := flC) (Q := Fl.ok) fun r hr => fitFl (hy r hr)
    exact ⟨⟨n, l⟩, rfl, mx47 hn, by have := mx47 hl; simpa using this, ho⟩
theorem fitEn {cs : List C} (h : Fit Try.prog 47 cs) : ∃ a : En, cs = enC a ∧ a.ok := by
  obtain ⟨parts, rfl, h2, h3⟩ := Fit.inv_st v47 h
  match parts, h2 with
  | [p0, p1, p2], _ =>
    obtain ⟨n, rfl, hn⟩ := Fit.inv_str v9 (h3 0 _ p0 rfl rfl)
    obtain ⟨ys, rfl, hl, hy⟩ := Fit.inv_sl v35 (h3 1 _ p1 rfl rfl)
    obtain ⟨zs, rfl, hl2, hz⟩ := Fit.inv_sl v45 (h3 2 _ p2 rfl rfl)
    obtain ⟨l, rfl, ho⟩ := rows_of (row := stR) (Q := fun b => b.size ≤ 9223372036854775807) fun r hr => by
      obtain ⟨s, rfl, hs⟩ := Fit.inv_str v9 (hy r hr); exact ⟨s, rfl, mx47 hs⟩
    obtain ⟨m, rfl, hm⟩ := rows_of (row := inR) (Q := in64) fun r hr => by
      obtain ⟨s, rfl, hs⟩ := Fit.inv_int v3 (hz r hr); exact ⟨s, rfl, wf64 hs⟩
    exact ⟨⟨n, l, m⟩, rfl, mx47 hn, by have := mx47 hl; simpa using this, by have := mx47 hl2; simpa using this, ho, hm⟩
theorem fitSc (cs : List C) (h : Fit Try.prog 25 cs) : ∃ a : Sc, cs = scC a ∧ a.ok := by
  obtain ⟨parts, rfl, h2, h3⟩ := Fit.inv_st v25 h
  match parts, h2 with
  | [p0, p1, p2], _ =>
    obtain ⟨n, rfl, hn⟩ := Fit.inv_int v3 (h3 0 _ p0 rfl rfl)
    obtain ⟨ys, rfl, hl, hy⟩ := Fit.inv_sl v22 (h3 1 _ p1 rfl rfl)
    obtain ⟨zs, rfl, hl2, hz⟩ := Fit.inv_sl v23 (h3 2 _ p2 rfl rfl)
    obtain ⟨l, rfl, ho⟩ := rows_of (row := enC) (Q := En.ok) fun r hr => fitEn (hy r hr)
    obtain ⟨m, rfl, hm⟩ := rows_of (row := stC) (Q := St.ok) fun r hr => fitSt (hz r hr)
    exact ⟨⟨n, l, m⟩, rfl, wf64 hn, by have := mx47 hl; simpa using this, by have := mx47 hl2; simpa using this, ho, hm⟩
end Go.Proofs.Ytpfmkfafagiicaa
namespace Go.Proofs.Ytpfmkfafagiicaa
open Go.W
noncomputable def lawFn : Fun := gFn isSc C.sc fun _ => .bool true
attribute [go_sem] lawFn
end Go.Proofs.Ytpfmkfafagiicaa
namespace Go.Proofs.Ytpfmkfafagiicaa
open Go.W
theorem usL_len {s : Sc} (h : s.fit) (n : ByteArray) : (usL s n).length ≤ 32 := by
  unfold usL
  cases hok : okS s n with
  | false => exact Nat.zero_le _
  | true =>
    have := (check_good h (okS_true hok).1).1.vlen n
    rw [Bool.cond_true, usesF_len]; exact this
theorem usL_bs {s : Sc} (h : s.fit) (n : ByteArray) : isBs ((usL s n).map stR) := isBs_mk (by have := usL_len h n; omega)
end Go.Proofs.Ytpfmkfafagiicaa
namespace Go.Proofs.Ytpfmkfafagiicaa
open Go.W
theorem disj {s : Sc} (hf : s.fit) (h : checkF s = 0) {n : ByteArray} (hn : hasS s.ss n = true) : hasE s.es n = false := by
  obtain ⟨_, _, _, h2, _⟩ := check_good hf h
  obtain ⟨t, ht⟩ := hasS_some hn
  obtain ⟨htm, rfl⟩ := fS_mem ht
  obtain ⟨i, hi⟩ := List.mem_iff_getElem?.1 htm
  exact (cn_zero (st_zero hi (fE_zero h2 i (List.getElem?_eq_some_iff.1 hi).1)).1).2.1
theorem okS_mem {s : Sc} (h : checkF s = 0) {t : St} (ht : t ∈ s.ss) : okS s t.nm = true := by
  unfold okS; rw [h]
  have : hasS s.ss t.nm = true := by unfold hasS; rw [List.any_eq_true]; exact ⟨t, ht, by simp⟩
  rw [this]; rfl
theorem one_of {s : Sc} (hf : s.fit) (h : checkF s = 0) {n x : ByteArray} (hx : x ∈ usesF s.ss n) : (hasS s.ss x = true ∧ hasE s.es x = false) ∨ (hasS s.ss x = false ∧ hasE s.es x = true) := by
  obtain ⟨g, _⟩ := check_good hf h
  rcases reach_nm g (mem_usesF.1 hx) with h1 | h1
  · exact .inl ⟨h1, disj hf h h1⟩
  · right
    refine ⟨?_, h1⟩
    cases h2 : hasS s.ss x with
    | false => rfl
    | true => rw [disj hf h h2] at h1; cases h1
end Go.Proofs.Ytpfmkfafagiicaa
namespace Go.Proofs.Ytpfmkfafagiicaa
def uL : Nat → Nat → List UInt8
  | 0, _ => []
  | f + 1, n => bif decide (n < 128) then [n.toUInt8] else (n % 128 + 128).toUInt8 :: uL f (n / 128)
theorem uL_last {f n : Nat} (hf : 0 < f) (h : n < 128) : uL f n = [n.toUInt8] := by
  obtain ⟨g, rfl⟩ : ∃ g, f = g + 1 := ⟨f - 1, by omega⟩
  rw [uL, decide_eq_true h]; rfl
theorem uL_more {f n : Nat} (h : ¬ n < 128) : uL (f + 1) n = (n % 128 + 128).toUInt8 :: uL f (n / 128) := by
  rw [uL, decide_eq_false h]; rfl
theorem or128 : ∀ x : Nat, x < 256 → bits BinOp.or IntKind.u8 (x : Int) 128 = ((x % 128 + 128 : Nat) : Int) := by decide +kernel
theorem sl113 (w : World) (b k : Nat) (hk : k + 1 ≤ 10) : (Instr.sliceAt 113 (.pointer (some ⟨b, 0, none⟩)) none (some (.int .i64 ((k : Int) + 1))) none).run Try.prog w = .ok (.slice (some ⟨b, 0, none⟩) (k + 1) 10) w := by
  have e : ((k : Int) + 1).toNat = k + 1 := by omega
  simp [Instr.sliceAt, Instr.sureAddr, run_underlying Try.underlying113, Instr.sliceBounds, run_sliceBound, e, (by omega : (0 : Int) ≤ (k : Int) + 1), (by omega : (k : Int) + 1 ≤ 10), Addr.add]
set_option maxRecDepth 1000000 in
theorem walkUint (N : Nat) (h1 : N < 2^64) (w : World) :
    Calls Try.prog 78 #[.int .u64 N] w fun e w' => e = .returned (.string ⟨(uL 10 N).toArray⟩) ∧ ∃ C, w' = w.alloc (.cells C 113 (0, 0)) := by
  go_enter Try.func78, Try.ntmps78
  go_wp2
  go_loopw [0, 4] (fun n k w' => ∃ (m k' : Nat) (C : Array Value) (pre : List UInt8), n = .int .u64 m ∧ k = .int .i64 k' ∧ w' = w.alloc (.cells C 113 (0, 0)) ∧ C.size = 10 ∧ pre.length = k' ∧ (∀ (j : Nat) (c : UInt8), pre[j]? = some c → C[j]? = some (.int .u8 c.toNat)) ∧ uL 10 N = pre ++ uL (10 - k') m ∧ k' ≤ 9 ∧ m < 128 ^ (10 - k')) (fun n _ w' => match n with | .int _ m => m.toNat | _ => 0)
  case atStart => refine ⟨N, 0, _, [], rfl, rfl, rfl, rfl, rfl, fun j c h => by simp at h, rfl, by omega, by omega⟩
  case round =>
    obtain ⟨m, k, C, pre, rfl, rfl, rfl, hC, hpl, hp, hu, hk, hm⟩ := hrel
    have hck : ∃ u, C[k]? = some u := ⟨_, Array.getElem?_eq_getElem (by omega)⟩
    obtain ⟨u, hck⟩ := hck
    by_cases hlt : m < 128
    · have hsl := sl113
      have hcv : (convert 114 9 (.slice (some ⟨w.heap.size, 0, none⟩) (k + 1) 10)).run Try.prog (w.alloc (.cells (C.setIfInBounds k (.int .u8 m)) 113 (0, 0))) = .ok (.string ⟨(uL 10 N).toArray⟩) (w.alloc (.cells (C.setIfInBounds k (.int .u8 m)) 113 (0, 0))) := by
        have hul : uL 10 N = pre ++ [m.toUInt8] := by rw [hu, uL_last (by omega) hlt]
        have hl : (pre ++ [m.toUInt8]).length = k + 1 := by simp [hpl]
        have := run_convert_bytes_back (P := Try.prog) (w.alloc (.cells (C.setIfInBounds k (.int .u8 m)) 113 (0, 0))) 114 9 5 ⟨w.heap.size, 0, none⟩ 10 (pre ++ [m.toUInt8]) Try.underlying114 Try.underlying5 Try.underlying9 (fun j hj => by
          have e0 : (⟨w.heap.size, 0, none⟩ : Addr).add j = ⟨w.heap.size, j, none⟩ := by simp [Addr.add]; omega
          rw [e0, World.cell?_alloc_mark]
          rcases Nat.lt_or_ge j k with h | h
          · have hx : pre[j]? = some pre[j] := List.getElem?_eq_getElem (by omega)
            rw [List.getElem_append_left (by omega), Array.getElem?_setIfInBounds_ne (by omega)]
            exact hp j _ hx
          · obtain rfl : j = k := by omega
            rw [List.getElem_append_right (by omega)]
            simp [hC, show j < 10 by omega, Nat.mod_eq_of_lt (show m < 256 by omega)])
        rw [hl] at this
        rw [hul]; exact this
      go_wp2
      go_ret
      exact ⟨by rw [hu]; rfl, _, rfl⟩
    · have hge : (128 : Int) ≤ m := by omega
      have hk8 : k ≤ 8 := by
        rcases Nat.lt_or_ge k 9 with h | h
        · omega
        · have : k = 9 := by omega
          subst this; simp at hm; omega
      go_wp2
      refine ⟨⟨m / 128, k + 1, _, pre ++ [(m % 128 + 128).toUInt8], by simp, by simp, rfl, by simp [hC], by simp [hpl], fun j c hc => ?_, ?_, by omega, ?_⟩, ?_⟩
      · rcases Nat.lt_or_ge j k with h | h
        · rw [List.getElem?_append_left (by omega)] at hc
          rw [Array.getElem?_setIfInBounds_ne (by omega)]
          exact hp j c hc
        · have hj := (List.getElem?_eq_some_iff.1 hc).1
          obtain rfl : j = k := by simp [hpl] at hj; omega
          rw [List.getElem?_append_right (by omega), hpl] at hc
          simp at hc
          subst hc
          have e1 : ((m : Int) % 256) = ((m % 256 : Nat) : Int) := by omega
          rw [e1, or128 _ (Nat.mod_lt _ (by decide))]
          have e2 : m % 256 % 128 = m % 128 := by omega
          simp [hC, show j < 10 by omega, e2]
          omega
      · rw [hu, show 10 - k = 10 - (k + 1) + 1 by omega, uL_more hlt, List.append_assoc]; rfl
      · have : 128 ^ (10 - k) = 128 ^ (10 - (k + 1)) * 128 := by rw [← Nat.pow_succ]; congr 1; omega
        rw [this] at hm
        exact Nat.div_lt_of_lt_mul (by rw [Nat.mul_comm]; exact hm)
      · show ((m : Int) / 128).toNat < (m : Int).toNat
        omega
end Go.Proofs.Ytpfmkfafagiicaa
namespace Go.Proofs.Ytpfmkfafagiicaa
def fnS (h : Int) (c : UInt8) : Int := IntKind.u64.wrap (bits BinOp.xor IntKind.u64 h (IntKind.u64.wrap c.toNat) * 1099511628211)
def fnH (h : Int) (l : List UInt8) : Int := l.foldl fnS h
theorem fnH_step {l : List UInt8} {k : Nat} {c : UInt8} (h : l[k]? = some c) (a : Int) : fnH a (l.drop k) = fnH (fnS a c) (l.drop (k + 1)) := by
  obtain ⟨hl, rfl⟩ := List.getElem?_eq_some_iff.1 h
  rw [List.drop_eq_getElem_cons hl]; rfl
set_option maxRecDepth 1000000 in
theorem walkFold (n : Int) (s : ByteArray) (hs : s.size ≤ 9223372036854775807) (w : World) :
    Calls Try.prog 81 #[.int .u64 n, .string s] w fun e w' => e = .returned (.int .u64 (fnH n s.data.toList)) ∧ w' = w := by
  go_enter Try.func81, Try.ntmps81
  go_wp2
  go_loopw [0, 8] (fun a i w' => ∃ (a' : Int) (k : Nat), a = .int .u64 a' ∧ i = .int .i64 k ∧ w' = w ∧ k ≤ s.size ∧ fnH a' (s.data.toList.drop k) = fnH n s.data.toList) (fun _ i _ => match i with | .int _ k => s.size - k.toNat | _ => 0)
  case atStart => exact ⟨n, 0, rfl, rfl, rfl, by omega, rfl⟩
  case round =>
    obtain ⟨a, k, rfl, rfl, rfl, hk, hf⟩ := hrel
    by_cases hlt : k < s.size
    · have hl : k < s.data.toList.length := by simpa using hlt
      have hc : s.data.toList[k]? = some s[k] := by rw [List.getElem?_eq_getElem hl]; rfl
      rw [fnH_step hc] at hf
      go_wp2
      refine ⟨⟨_, k + 1, rfl, by simp, trivial, by omega, hf⟩, ?_⟩
      show s.size - ((k : Int) + 1).toNat < s.size - (k : Int).toNat
      omega
    · obtain rfl : k = s.size := by omega
      rw [List.drop_eq_nil_of_le (by simp)] at hf
      go_wp2
      go_ret
      exact ⟨by rw [← hf]; rfl, rfl⟩
theorem width_pos (s : ByteArray) (pos : Nat) (h : pos < s.size) : 1 ≤ (Utf8.decode s pos).2 := by
  by_cases ha : (s[pos]'h).toNat < 128
  · rw [decode_ascii s pos h ha]
    exact Nat.le_refl _
  · exact (decode_high s pos h (by omega)).2
theorem fnH_part (a : Int) (l : List UInt8) {p q : Nat} (h : p ≤ q) : fnH (fnH a ((l.drop p).take (q - p))) (l.drop q) = fnH a (l.drop p) := by
  unfold fnH
  rw [← List.foldl_append]
  congr 1
  have : l.drop q = (l.drop p).drop (q - p) := by rw [List.drop_drop]; congr 1; omega
  rw [this, List.take_append_drop]
set_option maxRecDepth 1000000 in
theorem walkHash (s : ByteArray) (hs : s.size ≤ 9223372036854775807) (w : World) :
    Calls Try.prog 62 #[.string s] w fun e w' => e = .returned (.int .u64 (fnH 14695981039346656037 s.data.toList)) ∧ ∃ pos, w' = w.iter s pos := by
  go_enter Try.func62, Try.ntmps62
  go_wp2
  go_loopw [3, 4] (fun n f w' => ∃ (a : Int) (p pos : Nat), n = .int .u64 a ∧ f = .int .i64 p ∧ w' = w.iter s pos ∧ p ≤ s.size ∧ p ≤ pos ∧ fnH a (s.data.toList.drop p) = fnH 14695981039346656037 s.data.toList) (fun _ _ w' => s.size - w'.iterPos w.heap.size)
  case atStart => exact ⟨_, 0, 0, rfl, rfl, rfl, by omega, by omega, rfl⟩
  case round =>
    obtain ⟨a, p, pos, rfl, rfl, rfl, hp1, hp2, hf⟩ := hrel
    by_cases hp : pos < s.size
    · have hnx : ∀ ty, (Instr.next (.pointer (some ⟨w.heap.size, 0, none⟩)) true ty).run Try.prog (w.iter s pos) = _ := fun ty => run_next_any w s pos ty hp
      have hwd := width_pos s pos hp
      have hq2 : pos ≤ s.size := by omega
      go_wp2_with (go_at_call 81; refine (walkFold _ _ (by simp; omega) _).mono ?_; rintro e w' ⟨rfl, rfl⟩)
      refine ⟨⟨_, pos, _, rfl, rfl, rfl, hq2, by omega, by rw [fnH_part a _ hp2]; exact hf⟩, ?_⟩
      simp
      omega
    · have hnx : ∀ ty, (Instr.next (.pointer (some ⟨w.heap.size, 0, none⟩)) true ty).run Try.prog (w.iter s pos) = _ := fun ty => run_next_end w s pos ty hp
      go_wp2_with (go_at_call 81; refine (walkFold _ _ (by simp; omega) _).mono ?_; rintro e w' ⟨rfl, rfl⟩)
      go_ret
      rw [List.take_of_length_le (by simp), hf]
      exact ⟨rfl, _, rfl⟩
end Go.Proofs.Ytpfmkfafagiicaa
namespace Go.Proofs.Ytpfmkfafagiicaa
open Go.W
def pc32 : PC := .seq (.reg  [⟨some 2, none, .e (.bx 25 (.t 0))⟩, ⟨some 4, none, .q (.mv (.k (.int .u64 0)))⟩]) (.seq (.reg  [⟨some 13, none, .l (.ldn 3 (.t 2))⟩, ⟨some 14, none, .q (.mv (.t 1))⟩, ⟨some 15, none, .cl 50 [(.t 13), (.t 14)] []⟩, ⟨some 12, none, .q (.mv (.t 15))⟩, ⟨some 16, none, .q (.ex (.t 12) 0)⟩, ⟨some 17, none, .q (.ex (.t 12) 1)⟩, ⟨some 5, none, .e (.al (.agg #[(.map none), (.map none)]) 69)⟩, ⟨none, none, .e (.st 2 (.t 5) (.t 16))⟩, ⟨some 6, none, .q (.mv (.t 17))⟩]) (.seq (.seq (.reg  [⟨some 18, none, .q (.mv (.t 6))⟩, ⟨some 19, none, .q (.not (.t 18))⟩]) (.cond (.t 19) (.seq (.reg  [⟨some 4, none, .q (.mv (.k (.int .u64 0)))⟩]) (.ret)) (.skip))) (.seq (.reg  [⟨some 20, none, .q (.fa 0 (.t 5))⟩, ⟨some 21, none, .l (.ld1 (.t 20))⟩, ⟨some 22, none, .q (.mv (.t 1))⟩, ⟨some 23, none, .l (.lk .string (.agg #[(.string (mk [])), (.slice none 0 0)]) false (.t 21) (.t 22))⟩, ⟨some 24, none, .cq 60 [(.t 23)]⟩, ⟨some 7, none, .q (.mv (.t 24))⟩]) (.seq (.seq (.reg  [⟨some 25, none, .l (.ldn 2 (.t 5))⟩, ⟨some 26, none, .q (.mv (.t 1))⟩, ⟨some 27, none, .cl 54 [(.t 25), (.t 26)] [1, 2]⟩, ⟨some 28, none, .q (.lnL (.t 27))⟩, ⟨some 29, none, .q (.mv (.k (.int .i64 0)))⟩]) (.block 0 (.loop (.seq (.reg  [⟨some 30, none, .q (.bin .lss true (.t 29) (.t 28))⟩]) (.seq (.cond (.t 30) (.skip) (.exit 0)) (.seq (.block 1 (.seq (.reg  [⟨some 31, none, .l (.ia 1 (.t 27) (.t 29))⟩, ⟨some 32, none, .l (.ld1 (.t 31))⟩, ⟨some 9, none, .q (.mv (.t 32))⟩]) (.seq (.reg  [⟨some 34, none, .q (.fa 0 (.t 5))⟩, ⟨some 35, none, .l (.ld1 (.t 34))⟩, ⟨some 36, none, .q (.mv (.t 9))⟩, ⟨some 37, none, .l (.lk .string (.agg #[(.string (mk [])), (.slice none 0 0)]) true (.t 35) (.t 36))⟩, ⟨some 33, none, .q (.mv (.t 37))⟩, ⟨some 38, none, .q (.ex (.t 33) 0)⟩, ⟨some 39, none, .q (.ex (.t 33) 1)⟩, ⟨some 10, none, .e (.al (.agg #[(.string (mk [])), (.slice none 0 0)]) 32)⟩, ⟨none, none, .e (.st 2 (.t 10) (.t 38))⟩, ⟨some 11, none, .q (.mv (.t 39))⟩]) (.seq (.reg  [⟨some 40, none, .q (.mv (.t 11))⟩]) (.cond (.t 40) (.reg  [⟨some 41, none, .q (.mv (.t 7))⟩, ⟨some 42, none, .l (.ldn 2 (.t 10))⟩, ⟨some 43, none, .cq 60 [(.t 42)]⟩, ⟨some 44, none, .q (.bin .add true (.t 41) (.t 43))⟩, ⟨some 7, none, .q (.mv (.t 44))⟩]) (.reg  [⟨some 45, none, .q (.mv (.t 7))⟩, ⟨some 46, none, .q (.fa 1 (.t 5))⟩, ⟨some 47, none, .l (.ld1 (.t 46))⟩, ⟨some 48, none, .q (.mv (.t 9))⟩, ⟨some 49, none, .l (.lk .string (.agg #[(.string (mk [])), (.slice none 0 0), (.slice none 0 0)]) false (.t 47) (.t 48))⟩, ⟨some 50, none, .cq 61 [(.t 49)]⟩, ⟨some 51, none, .q (.bin .add true (.t 45) (.t 50))⟩, ⟨some 7, none, .q (.mv (.t 51))⟩])))))) (.reg  [⟨some 52, none, .q (.bin .add true (.t 29) (.k (.int .i64 1)))⟩, ⟨some 29, none, .q (.mv (.t 52))⟩]))))))) (.seq (.reg  [⟨some 53, none, .q (.mv (.t 7))⟩, ⟨some 54, none, .cq 62 [(.t 53)]⟩, ⟨some 4, none, .q (.mv (.t 54))⟩]) (.ret))))))
def rs32 : List RV := [.mv (.t 4)]
theorem ok32 : trFn Try.prog true ⟨fun r k => if r = 4 ∧ k = 4 then .q else if r = 5 ∧ k = 2 then .own [1, 2] else if r = 10 ∧ k = 2 then .q else if r = 11 ∧ k = 5 then .q else if r = 13 ∧ k = 1 then .q else .own [], fun _ => false⟩ Try.f32 = some (pc32, rs32) := by kernel_rfl
def pc60 : PC := .seq (.reg  [⟨some 1, none, .e (.bx 32 (.t 0))⟩, ⟨some 2, none, .q (.mv (.k (.string (mk []))))⟩]) (.seq (.reg  [⟨some 6, none, .cq 78 [(.k (.int .u64 6))]⟩, ⟨some 7, none, .q (.fa 0 (.t 1))⟩, ⟨some 8, none, .l (.ld1 (.t 7))⟩, ⟨some 9, none, .cq 79 [(.t 8)]⟩, ⟨some 10, none, .q (.bin .add true (.t 6) (.t 9))⟩, ⟨some 11, none, .q (.fa 1 (.t 1))⟩, ⟨some 12, none, .l (.ld1 (.t 11))⟩, ⟨some 13, none, .q (.lnL (.t 12))⟩, ⟨some 14, none, .q (.cvt .u64 (.t 13))⟩, ⟨some 15, none, .cq 78 [(.t 14)]⟩, ⟨some 16, none, .q (.bin .add true (.t 10) (.t 15))⟩, ⟨some 3, none, .q (.mv (.t 16))⟩]) (.seq (.seq (.reg  [⟨some 17, none, .q (.fa 1 (.t 1))⟩, ⟨some 18, none, .l (.ld1 (.t 17))⟩, ⟨some 19, none, .q (.lnL (.t 18))⟩, ⟨some 20, none, .q (.mv (.k (.int .i64 0)))⟩]) (.block 0 (.loop (.seq (.reg  [⟨some 21, none, .q (.bin .lss true (.t 20) (.t 19))⟩]) (.seq (.cond (.t 21) (.skip) (.exit 0)) (.seq (.block 1 (.seq (.reg  [⟨some 22, none, .l (.ia 7 (.t 18) (.t 20))⟩, ⟨some 23, none, .l (.ldn 7 (.t 22))⟩, ⟨some 5, none, .e (.al (.agg #[(.int .i64 0), (.string (mk [])), (.int .i64 0), (.int .i64 0), (.string (mk [])), (.slice none 0 0), (.bool false)]) 53)⟩, ⟨none, none, .e (.st 7 (.t 5) (.t 23))⟩]) (.seq (.reg  [⟨some 24, none, .q (.mv (.t 3))⟩, ⟨some 25, none, .q (.fa 0 (.t 5))⟩, ⟨some 26, none, .l (.ld1 (.t 25))⟩, ⟨some 27, none, .q (.cvt .u64 (.t 26))⟩, ⟨some 28, none, .cq 78 [(.t 27)]⟩, ⟨some 29, none, .q (.fa 1 (.t 5))⟩, ⟨some 30, none, .l (.ld1 (.t 29))⟩, ⟨some 31, none, .cq 79 [(.t 30)]⟩, ⟨some 32, none, .q (.bin .add true (.t 28) (.t 31))⟩, ⟨some 33, none, .q (.fa 2 (.t 5))⟩, ⟨some 34, none, .l (.ldn 4 (.t 33))⟩, ⟨some 35, none, .cq 80 [(.t 34)]⟩, ⟨some 36, none, .q (.bin .add true (.t 32) (.t 35))⟩, ⟨some 37, none, .q (.bin .add true (.t 24) (.t 36))⟩, ⟨some 3, none, .q (.mv (.t 37))⟩]) (.seq (.reg  [⟨some 38, none, .q (.fa 6 (.t 5))⟩, ⟨some 39, none, .l (.ld1 (.t 38))⟩]) (.cond (.t 39) (.reg  [⟨some 40, none, .q (.mv (.t 3))⟩, ⟨some 41, none, .cq 78 [(.k (.int .u64 1))]⟩, ⟨some 42, none, .q (.bin .add true (.t 40) (.t 41))⟩, ⟨some 3, none, .q (.mv (.t 42))⟩]) (.reg  [⟨some 43, none, .q (.mv (.t 3))⟩, ⟨some 44, none, .cq 78 [(.k (.int .u64 0))]⟩, ⟨some 45, none, .q (.bin .add true (.t 43) (.t 44))⟩, ⟨some 3, none, .q (.mv (.t 45))⟩])))))) (.reg  [⟨some 46, none, .q (.bin .add true (.t 20) (.k (.int .i64 1)))⟩, ⟨some 20, none, .q (.mv (.t 46))⟩]))))))) (.seq (.reg  [⟨some 47, none, .q (.mv (.t 3))⟩, ⟨some 2, none, .q (.mv (.t 47))⟩]) (.ret))))
def rs60 : List RV := [.mv (.t 2)]
theorem ok60 : trFn Try.prog true ⟨fun r k => if r = 1 ∧ k = 0 then .q else if r = 1 ∧ k = 3 then .q else if r = 1 ∧ k = 9 then .q else if r = 5 ∧ k = 4 then .q else if r = 5 ∧ k = 7 then .q else if r = 5 ∧ k = 11 then .q else if r = 7 ∧ k = 1 then .q else if r = 8 ∧ k = 1 then .q else .own [], fun _ => false⟩ Try.f60 = some (pc60, rs60) := by kernel_rfl
def pc61 : PC := .seq (.reg  [⟨some 1, none, .e (.bx 47 (.t 0))⟩, ⟨some 2, none, .q (.mv (.k (.string (mk []))))⟩]) (.seq (.reg  [⟨some 6, none, .cq 78 [(.k (.int .u64 7))]⟩, ⟨some 7, none, .q (.fa 0 (.t 1))⟩, ⟨some 8, none, .l (.ld1 (.t 7))⟩, ⟨some 9, none, .cq 79 [(.t 8)]⟩, ⟨some 10, none, .q (.bin .add true (.t 6) (.t 9))⟩, ⟨some 11, none, .q (.fa 1 (.t 1))⟩, ⟨some 12, none, .l (.ld1 (.t 11))⟩, ⟨some 13, none, .q (.lnL (.t 12))⟩, ⟨some 14, none, .q (.cvt .u64 (.t 13))⟩, ⟨some 15, none, .cq 78 [(.t 14)]⟩, ⟨some 16, none, .q (.bin .add true (.t 10) (.t 15))⟩, ⟨some 3, none, .q (.mv (.t 16))⟩]) (.seq (.seq (.reg  [⟨some 17, none, .q (.fa 1 (.t 1))⟩, ⟨some 18, none, .l (.ld1 (.t 17))⟩, ⟨some 19, none, .q (.lnL (.t 18))⟩, ⟨some 20, none, .q (.mv (.k (.int .i64 0)))⟩]) (.block 0 (.loop (.seq (.reg  [⟨some 21, none, .q (.bin .lss true (.t 20) (.t 19))⟩]) (.seq (.cond (.t 21) (.skip) (.exit 0)) (.seq (.block 1 (.seq (.reg  [⟨some 22, none, .q (.mv (.t 20))⟩, ⟨some 23, none, .l (.ia 1 (.t 18) (.t 20))⟩, ⟨some 24, none, .l (.ld1 (.t 23))⟩, ⟨some 4, none, .q (.mv (.t 22))⟩, ⟨some 5, none, .q (.mv (.t 24))⟩]) (.reg  [⟨some 25, none, .q (.mv (.t 3))⟩, ⟨some 26, none, .q (.mv (.t 5))⟩, ⟨some 27, none, .cq 79 [(.t 26)]⟩, ⟨some 28, none, .q (.fa 2 (.t 1))⟩, ⟨some 29, none, .l (.ld1 (.t 28))⟩, ⟨some 30, none, .q (.mv (.t 4))⟩, ⟨some 31, none, .l (.ia 1 (.t 29) (.t 30))⟩, ⟨some 32, none, .l (.ld1 (.t 31))⟩, ⟨some 33, none, .q (.cvt .u64 (.t 32))⟩, ⟨some 34, none, .cq 78 [(.t 33)]⟩, ⟨some 35, none, .q (.bin .add true (.t 27) (.t 34))⟩, ⟨some 36, none, .q (.bin .add true (.t 25) (.t 35))⟩, ⟨some 3, none, .q (.mv (.t 36))⟩]))) (.reg  [⟨some 37, none, .q (.bin .add true (.t 20) (.k (.int .i64 1)))⟩, ⟨some 20, none, .q (.mv (.t 37))⟩]))))))) (.seq (.reg  [⟨some 38, none, .q (.mv (.t 3))⟩, ⟨some 2, none, .q (.mv (.t 38))⟩]) (.ret))))
def rs61 : List RV := [.mv (.t 2)]
theorem ok61 : trFn Try.prog true ⟨fun r k => if r = 1 ∧ k = 0 then .q else if r = 1 ∧ k = 3 then .q else if r = 1 ∧ k = 9 then .q else if r = 5 ∧ k = 2 then .q else if r = 5 ∧ k = 9 then .q else .own [], fun _ => false⟩ Try.f61 = some (pc61, rs61) := by kernel_rfl
def pc79 : PC := .seq (.reg  [⟨some 2, none, .q (.mv (.k (.string (mk []))))⟩]) (.seq (.reg  [⟨some 3, none, .q (.mv (.t 0))⟩, ⟨some 4, none, .q (.lnS (.t 3))⟩, ⟨some 5, none, .q (.cvt .u64 (.t 4))⟩, ⟨some 6, none, .cq 78 [(.t 5)]⟩, ⟨some 7, none, .q (.mv (.t 0))⟩, ⟨some 8, none, .q (.bin .add true (.t 6) (.t 7))⟩, ⟨some 2, none, .q (.mv (.t 8))⟩]) (.ret))
def rs79 : List RV := [.mv (.t 2)]
theorem ok79 : trFn Try.prog true ⟨fun r k => if r = 1 ∧ k = 3 then .q else .own [], fun _ => false⟩ Try.f79 = some (pc79, rs79) := by kernel_rfl
def pc80 : PC := .seq (.reg  [⟨some 1, none, .e (.bx 40 (.t 0))⟩, ⟨some 2, none, .q (.mv (.k (.string (mk []))))⟩]) (.seq (.reg  [⟨some 6, none, .q (.fa 0 (.t 1))⟩, ⟨some 7, none, .l (.ld1 (.t 6))⟩, ⟨some 8, none, .q (.cvt .u64 (.t 7))⟩, ⟨some 9, none, .cq 78 [(.t 8)]⟩, ⟨some 10, none, .q (.fa 1 (.t 1))⟩, ⟨some 11, none, .l (.ld1 (.t 10))⟩, ⟨some 12, none, .q (.cvt .u64 (.t 11))⟩, ⟨some 13, none, .cq 78 [(.t 12)]⟩, ⟨some 14, none, .q (.bin .add true (.t 9) (.t 13))⟩, ⟨some 15, none, .q (.fa 2 (.t 1))⟩, ⟨some 16, none, .l (.ld1 (.t 15))⟩, ⟨some 17, none, .cq 79 [(.t 16)]⟩, ⟨some 18, none, .q (.bin .add true (.t 14) (.t 17))⟩, ⟨some 19, none, .q (.fa 3 (.t 1))⟩, ⟨some 20, none, .l (.ld1 (.t 19))⟩, ⟨some 21, none, .q (.lnL (.t 20))⟩, ⟨some 22, none, .q (.cvt .u64 (.t 21))⟩, ⟨some 23, none, .cq 78 [(.t 22)]⟩, ⟨some 24, none, .q (.bin .add true (.t 18) (.t 23))⟩, ⟨some 3, none, .q (.mv (.t 24))⟩]) (.seq (.seq (.reg  [⟨some 25, none, .q (.fa 3 (.t 1))⟩, ⟨some 26, none, .l (.ld1 (.t 25))⟩, ⟨some 27, none, .q (.lnL (.t 26))⟩, ⟨some 28, none, .q (.mv (.k (.int .i64 0)))⟩]) (.block 0 (.loop (.seq (.reg  [⟨some 29, none, .q (.bin .lss true (.t 28) (.t 27))⟩]) (.seq (.cond (.t 29) (.skip) (.exit 0)) (.seq (.block 1 (.seq (.reg  [⟨some 30, none, .l (.ia 4 (.t 26) (.t 28))⟩, ⟨some 31, none, .l (.ldn 4 (.t 30))⟩, ⟨some 5, none, .e (.al (.agg #[(.int .i64 0), (.int .i64 0), (.string (mk [])), (.slice none 0 0)]) 40)⟩, ⟨none, none, .e (.st 4 (.t 5) (.t 31))⟩]) (.reg  [⟨some 32, none, .q (.mv (.t 3))⟩, ⟨some 33, none, .l (.ldn 4 (.t 5))⟩, ⟨some 34, none, .cq 80 [(.t 33)]⟩, ⟨some 35, none, .q (.bin .add true (.t 32) (.t 34))⟩, ⟨some 3, none, .q (.mv (.t 35))⟩]))) (.reg  [⟨some 36, none, .q (.bin .add true (.t 28) (.k (.int .i64 1)))⟩, ⟨some 28, none, .q (.mv (.t 36))⟩]))))))) (.seq (.reg  [⟨some 37, none, .q (.mv (.t 3))⟩, ⟨some 2, none, .q (.mv (.t 37))⟩]) (.ret))))
def rs80 : List RV := [.mv (.t 2)]
theorem ok80 : trFn Try.prog true ⟨fun r k => if r = 1 ∧ k = 3 then .q else if r = 1 ∧ k = 7 then .q else if r = 1 ∧ k = 11 then .q else if r = 1 ∧ k = 17 then .q else if r = 5 ∧ k = 2 then .q else .own [], fun _ => false⟩ Try.f80 = some (pc80, rs80) := by kernel_rfl
end Go.Proofs.Ytpfmkfafagiicaa
namespace Go.Proofs.Ytpfmkfafagiicaa
open Go.W
def uPre : List S → Prop := fun av => match av with
  | [.va (.c1 (.vl (.int .u64 n)))] => 0 ≤ n ∧ n < 18446744073709551616
  | _ => False
theorem uPre_open {av : List S} (h : uPre av) : ∃ n : Nat, av = [iS .u64 n] ∧ n < 18446744073709551616 := by
  unfold uPre at h
  split at h
  · rename_i n
    exact ⟨n.toNat, by rw [Int.toNat_of_nonneg h.1], by omega⟩
  · exact h.elim
def uVal (f : Nat → Value) : List S → A := fun av => match av with
  | [.va (.c1 (.vl (.int .u64 n)))] => .c1 (.vl (f n.toNat))
  | _ => .gs []
def uFn (f : Nat → Value) : Fun := ⟨uPre, uVal f, fun av h => by obtain ⟨n, rfl, _⟩ := uPre_open h; trivial⟩
attribute [go_sem] uFn uPre uVal
def vi (n : Nat) : List UInt8 := uL 10 n
theorem mWUint : Meets Try.prog 78 (uFn fun n => .string (mk (vi n))).sp := by
  refine ⟨by kernel_rfl, ?_⟩
  rintro av vs E ro w K hlen hrel hR ⟨⟨h, hE⟩, hK⟩
  obtain ⟨n, rfl, hn⟩ := uPre_open h
  obtain ⟨v0, rfl⟩ : ∃ v0, vs = [v0] := by
    match vs, hlen with
    | [v0], _ => exact ⟨v0, rfl⟩
  have h0 : v0 = .int .u64 n := hrel 0 _ _ rfl rfl
  subst h0
  refine (walkUint n hn w).mono ?_
  rintro e w' ⟨rfl, C, rfl⟩
  have hK : K (tS (mk (vi n))) [] := by simpa [uFn, uVal] using hK
  exact ⟨tS (mk (vi n)), _, E, ro, rfl, rfl, by rw [hE]; exact hK, hR.aside (fun b hb => alloc_old w _ b hb) (alloc_size w _) rfl rfl rfl⟩
def hashL (l : List UInt8) : Int := fnH 14695981039346656037 l
def bsPre : List S → Prop := fun xs => match xs with
  | [.va (.c1 (.vl (.string s)))] => s.size ≤ 9223372036854775807
  | _ => False
theorem bsPre_open {xs : List S} (h : bsPre xs) : ∃ s, xs = [tS s] ∧ s.size ≤ 9223372036854775807 := by
  unfold bsPre at h
  split at h
  · exact ⟨_, rfl, h⟩
  · exact h.elim
def bsFn (f : List UInt8 → Value) : Fun := ⟨bsPre, strVal f, fun xs h => by obtain ⟨s, rfl, _⟩ := bsPre_open h; trivial⟩
attribute [go_sem] bsFn bsPre
theorem mHashP : Meets Try.prog 62 (bsFn fun l => .int .u64 (hashL l)).sp := by
  refine ⟨by kernel_rfl, ?_⟩
  rintro av vs E ro w K hlen hrel hR ⟨⟨h, hE⟩, hK⟩
  obtain ⟨s, rfl, hs⟩ := bsPre_open h
  obtain ⟨v0, rfl⟩ : ∃ v0, vs = [v0] := by
    match vs, hlen with
    | [v0], _ => exact ⟨v0, rfl⟩
  have h0 : v0 = .string s := hrel 0 _ _ rfl rfl
  subst h0
  refine (walkHash s hs w).mono ?_
  rintro e w' ⟨rfl, pos, rfl⟩
  exact ⟨iS .u64 (hashL (bl s)), _, E, ro, rfl, rfl, by rw [hE]; exact hK, hR.aside (fun b hb => alloc_old w _ b hb) (alloc_size w _) rfl rfl rfl⟩
theorem uL_len : ∀ (f n : Nat), (uL f n).length ≤ f
  | 0, _ => Nat.le_refl _
  | f + 1, n => by
    by_cases h : n < 128
    · rw [uL_last (Nat.succ_pos _) h]; simp
    · rw [uL_more h]; have := uL_len f (n / 128); simp; omega
theorem vi_len (n : Nat) : (vi n).length ≤ 10 := uL_len 10 n
def viI (x : Int) : List UInt8 := vi (IntKind.u64.wrap x).toNat
theorem viI_len (x : Int) : (viI x).length ≤ 10 := vi_len _
theorem u64_rg (x : Int) : (0 ≤ IntKind.u64.wrap x ∧ IntKind.u64.wrap x < 18446744073709551616) = True := by
  have h : IntKind.u64.wrap x = x % 18446744073709551616 := by simp [IntKind.wrap, IntKind.signed, IntKind.bits]
  rw [h]; exact eq_true ⟨by omega, by omega⟩
theorem u64_lo (x : Int) : (0 ≤ IntKind.u64.wrap x) = True := eq_true (of_eq_true (u64_rg x)).1
theorem u64_hi (x : Int) : (IntKind.u64.wrap x < 18446744073709551616) = True := eq_true (of_eq_true (u64_rg x)).2
theorem viI_def (x : Int) : vi (IntKind.u64.wrap x).toNat = viI x := rfl
def viT (l : List UInt8) : List UInt8 := viI l.length ++ l
def nbPre : List S → Prop := fun xs => match xs with
  | [.va (.c1 (.vl (.string s)))] => s.size ≤ 1000000000
  | _ => False
theorem nbPre_open {xs : List S} (h : nbPre xs) : ∃ s, xs = [tS s] ∧ s.size ≤ 1000000000 := by
  unfold nbPre at h
  split at h
  · exact ⟨_, rfl, h⟩
  · exact h.elim
def nbFn (f : List UInt8 → Value) : Fun := ⟨nbPre, strVal f, fun xs h => by obtain ⟨s, rfl, _⟩ := nbPre_open h; trivial⟩
theorem nbFn_len {f : List UInt8 → Value} : ∀ xs H K, (nbFn f).sp xs H K → xs.length = 1 := fun xs H K h => by obtain ⟨s, rfl, _⟩ := nbPre_open h.1.1; rfl
attribute [go_sem] nbFn nbPre
set_option maxRecDepth 100000 in
theorem mWText : Meets Try.prog 79 (nbFn fun l => .string (mk (viT l))).sp := by
  refine meets_fn Try.func79 ok79 1 (by rw [Try.ntmps79]; decide) (meetsAll_f mWUint (meetsAll_nil _)) nbFn_len ?_
  rintro av H K ⟨⟨h, rfl⟩, hK⟩
  obtain ⟨s, rfl, hs⟩ := nbPre_open h
  have hK : K (tS (mk (viI (bl s).length ++ bl s))) [] := hK
  have hl := viI_len (bl s).length
  rw [size_bl] at hs
  simp (maxSteps := 1000000) -dsimp only [go_sem, pc79, rs79, u64_lo, u64_hi, viI_def]
  exact ⟨by omega, .done hK⟩
end Go.Proofs.Ytpfmkfafagiicaa
namespace Go.Proofs.Ytpfmkfafagiicaa
open Go.W
mutual
def dTy : Ty → List UInt8
  | .mk k s n e => viI k ++ viI s ++ viT (bl n) ++ viI e.length ++ dTys e
def dTys : List Ty → List UInt8
  | [] => []
  | t :: r => dTy t ++ dTys r
end
theorem dTys_app : ∀ a b : List Ty, dTys (a ++ b) = dTys a ++ dTys b
  | [], _ => rfl
  | t :: a, b => by rw [List.cons_append, dTys, dTys, dTys_app a b, List.append_assoc]
theorem dTys_one (t : Ty) : dTys [t] = dTy t := by rw [dTys, dTys, List.append_nil]
theorem dTys_take {l : List Ty} {i : Nat} {u : Ty} (hx : l[i]? = some u) : dTys (l.take (i + 1)) = dTys (l.take i) ++ dTy u := by
  rw [take_next hx, dTys_app, dTys_one]
theorem dTys_pre (l : List Ty) (i : Nat) : (dTys (l.take i)).length ≤ (dTys l).length := by
  conv => rhs; rw [← List.take_append_drop i l, dTys_app, List.length_append]
  omega
theorem dTys_len {B : Nat} : ∀ {l : List Ty}, (∀ u ∈ l, (dTy u).length ≤ B) → (dTys l).length ≤ l.length * B
  | [], _ => Nat.zero_le _
  | t :: r, h => by
    have h1 := h t List.mem_cons_self
    have h2 := dTys_len (B := B) (l := r) fun u hu => h u (List.mem_cons_of_mem _ hu)
    rw [dTys, List.length_append, List.length_cons, Nat.add_mul]; omega
theorem viT_len (l : List UInt8) : (viT l).length ≤ l.length + 10 := by
  have := viI_len l.length
  unfold viT; rw [List.length_append]; omega
theorem dTy_len : ∀ (N : Nat) (t : Ty), t.h ≤ N → fewT t = true → (dTy t).length ≤ 80 * 4 ^ N
  | 0, t, h, _ => absurd h (by have := t.h_pos; omega)
  | N + 1, .mk k s n e, h, hf => by
    obtain ⟨⟨h1, h2, _⟩, h3⟩ := few_e hf
    have h4 : (dTys e).length ≤ e.length * (80 * 4 ^ N) := dTys_len fun u hu => dTy_len N u (by have := Ty.hs_mem hu; rw [Ty.h] at h; omega) (h3 u hu)
    have h5 : e.length * (80 * 4 ^ N) ≤ 3 * (80 * 4 ^ N) := Nat.mul_le_mul_right _ h2
    have h6 := viI_len k
    have h7 := viI_len s
    have h8 := viT_len (bl n)
    have h9 := viI_len e.length
    have h10 : 0 < 4 ^ N := Nat.pow_pos (by decide)
    rw [dTy]
    simp only [List.length_append]
    rw [Nat.pow_succ]; omega
theorem dTy_max {t : Ty} (hf : fewT t = true) : (dTy t).length ≤ 20971520 := dTy_len 9 t (few_h hf) hf
def dtPre (N : Nat) : List S → Prop := fun av => match av with
  | [.va (.gs q)] => isTy q ∧ (C.ty q).h ≤ N ∧ fewT (C.ty q) = true
  | _ => False
theorem dtPre_open {N : Nat} {av : List S} (h : dtPre N av) : ∃ t : Ty, av = [.va (.gs (tyC t))] ∧ TyOk t ∧ t.h ≤ N ∧ fewT t = true := by
  unfold dtPre at h
  split at h
  · obtain ⟨⟨t, rfl, ht⟩, h⟩ := h
    rw [ty_dec] at h
    exact ⟨t, rfl, ht, h⟩
  · exact h.elim
noncomputable def dtVal : List S → A := fun av => match av with
  | [.va (.gs q)] => tA (mk (dTy (C.ty q)))
  | _ => .gs []
noncomputable def dtFn (N : Nat) : Fun := ⟨dtPre N, dtVal, fun av h => by obtain ⟨a, rfl, _⟩ := dtPre_open h; trivial⟩
theorem dtFn_len {N : Nat} : ∀ av H K, (dtFn N).sp av H K → av.length = 1 := fun av H K h => by obtain ⟨a, rfl, _⟩ := dtPre_open h.1.1; rfl
attribute [go_sem] dtFn dtPre dtVal
set_option maxRecDepth 100000 in
set_option maxHeartbeats 1000000 in
theorem mDescribeType' : ∀ N, Meets Try.prog 80 (dtFn N).sp
  | 0 => ⟨by kernel_rfl, by rintro xs vs E ro w K _ _ _ ⟨⟨h, _⟩, _⟩; obtain ⟨a, _, _, h, _⟩ := dtPre_open h; have := a.h_pos; omega⟩
  | N + 1 => by
    refine meets_fn Try.func80 ok80 1 (by rw [Try.ntmps80]; decide) (meetsAll_f mWUint (meetsAll_f mWText (meetsAll_f (mDescribeType' N) (meetsAll_nil _)))) dtFn_len ?_
    rintro av H K ⟨⟨h, rfl⟩, hK⟩
    obtain ⟨t, rfl, ht, hN, hf⟩ := dtPre_open h
    have hK : K (tS (mk (dTy t))) [] := by
      have : (dtFn (N + 1)).val [.va (.gs (tyC t))] = tA (mk (dTy t)) := by simp -dsimp only [go_sem]
      rw [this] at hK; exact hK
    clear h
    have hm := dTy_max hf
    obtain ⟨k, s, n, e⟩ := t
    have hte := ht.e
    have hte2 := ht.len
    simp only [Ty.e] at hte hte2
    obtain ⟨⟨h1, h2, _⟩, h3⟩ := few_e hf
    have hn : (n.size ≤ 1000000000) = True := eq_true (by rw [size_bl]; omega)
    have h6 := viI_len k
    have h7 := viI_len s
    have h8 := viT_len (bl n)
    have h9 := viI_len e.length
    rw [dTy] at hm hK
    generalize hhd : viI k ++ viI s ++ viT (bl n) ++ viI e.length = hd at hm hK
    have hhl : hd.length ≤ 80 := by rw [← hhd]; simp only [List.length_append]; omega
    rw [List.length_append] at hm
    simp (maxSteps := 1000000) -dsimp only [go_sem, tyC, tysC_map, pc80, rs80, u64_lo, u64_hi, viI_def, hn]
    refine ⟨by omega, by omega, by omega, ?_⟩
    rw [hhd]
    refine vc_loop (α := Nat) (fun i => [(1, .va (.c1 (.pt 0 0))), (3, tS (mk (hd ++ dTys (e.take i)))), (26, .va (.c1 (.fz (e.map tyC)))), (27, iS .i64 e.length), (28, iS .i64 i)]) (fun _ => [.cells (tyC (.mk k s n e)) 40])
      (fun i => i ≤ e.length) (fun i => e.length - i) 0 1 (Nat.zero_le _) ?_ ?_ ?_
    · simp -dsimp only [go_sem, List.take_zero, dTys, List.append_nil] <;> simp
    · simp -dsimp only [go_sem, tyC, tysC_map]
    intro i hi
    rcases Nat.lt_or_ge i e.length with hlt | hge
    · have hg : decide ((i : Int) < (e.length : Int)) = true := by simp; omega
      obtain ⟨u, hx⟩ : ∃ t, e[i]? = some t := ⟨_, List.getElem?_eq_getElem hlt⟩
      have hum := List.mem_of_getElem? hx
      have q1 := row_rg' (row := tyC) hx
      have hu : isTy (tyC u) := isTy_mk (hte u hum)
      have huh : (u.h ≤ N) = True := eq_true (by have := Ty.hs_mem hum; rw [Ty.h] at hN; omega)
      have huf := h3 u hum
      have hb := dTys_pre e (i + 1)
      rw [dTys_take hx, List.length_append] at hb
      simp (maxSteps := 1000000) -dsimp only [go_sem, hg, ↓q1, tyC, tysC_map, tyC_len, hu, huh, huf]
      refine ⟨by omega, tyC_one u, by omega, by omega, loop_next (i + 1) 1 (by show i + 1 ≤ _; omega) (by omega) ?_ ?_⟩
      · simp -dsimp only [go_sem, dTys_take hx, List.append_assoc] <;> simp
      · simp -dsimp only [go_sem, tyC, tysC_map]
    · have hg : decide ((i : Int) < (e.length : Int)) = false := by simp; omega
      obtain rfl : i = e.length := by omega
      rw [List.take_length]
      simp (maxSteps := 1000000) -dsimp only [go_sem, hg, tyC, tysC_map]
      exact .sel [] (by simp) (by simp) rfl (.done hK)
def ddPre : List S → Prop := fun av => match av with
  | [.va (.gs q)] => isTy q ∧ fewT (C.ty q) = true
  | _ => False
noncomputable def ddFn : Fun := ⟨ddPre, dtVal, fun av h => by unfold ddPre at h; split at h; trivial; exact h.elim⟩
attribute [go_sem] ddFn ddPre
theorem dd_dt : ∀ av H K, ddFn.sp av H K → (dtFn 9).sp av H K := fun av H K ⟨⟨h, e⟩, hK⟩ => by
  refine ⟨⟨?_, e⟩, hK⟩
  simp only [ddFn, ddPre] at h
  split at h
  · exact ⟨h.1, few_h h.2, h.2⟩
  · exact h.elim
end Go.Proofs.Ytpfmkfafagiicaa
namespace Go.Proofs.Ytpfmkfafagiicaa
open Go.W
theorem mDescribeType : Meets Try.prog 80 ddFn.sp := meets_all 0 (fun _ : Nat => mDescribeType' 9) fun av H K h => ⟨0, dd_dt av H K h⟩
def dFl (f : Fl) : List UInt8 := viI f.num ++ viT (bl f.nm) ++ dTy f.ty ++ viI (bif f.opt then 1 else 0)
def dSt (t : St) : List UInt8 := viI 6 ++ viT (bl t.nm) ++ viI t.fs.length ++ t.fs.flatMap dFl
def dEv (p : ByteArray × Int) : List UInt8 := viT (bl p.1) ++ viI p.2
def dEn (e : En) : List UInt8 := viI 7 ++ viT (bl e.nm) ++ viI e.ns.length ++ (e.ns.zip e.vs).flatMap dEv
theorem vi_0 : vi 0 = viI 0 := rfl
theorem vi_1 : vi 1 = viI 1 := rfl
theorem vi_6 : vi 6 = viI 6 := rfl
theorem vi_7 : vi 7 = viI 7 := rfl
theorem fm_take {α : Type} {f : α → List UInt8} {l : List α} {i : Nat} {u : α} (hx : l[i]? = some u) : (l.take (i + 1)).flatMap f = (l.take i).flatMap f ++ f u := by
  rw [take_next hx, List.flatMap_append]; simp
theorem fm_pre {α : Type} (f : α → List UInt8) (l : List α) (i : Nat) : ((l.take i).flatMap f).length ≤ (l.flatMap f).length := by
  conv => rhs; rw [← List.take_append_drop i l, List.flatMap_append, List.length_append]
  omega
theorem fm_len {α : Type} {f : α → List UInt8} {B : Nat} : ∀ {l : List α}, (∀ u ∈ l, (f u).length ≤ B) → (l.flatMap f).length ≤ l.length * B
  | [], _ => Nat.zero_le _
  | t :: r, h => by
    have h1 := h t List.mem_cons_self
    have h2 := fm_len (B := B) (l := r) fun u hu => h u (List.mem_cons_of_mem _ hu)
    rw [List.flatMap_cons, List.length_append, List.length_cons, Nat.add_mul]; omega
theorem few_fl {f : Fl} (h : fewFl f = true) : (bl f.nm).length ≤ 40 ∧ fewT f.ty = true := by
  unfold fewFl at h
  simp only [Bool.not_eq_true', Bool.or_eq_false_iff, decide_eq_false_iff_not, Bool.not_eq_false'] at h
  exact ⟨by omega, h.2⟩
theorem few_st {t : St} (h : fewSt t = true) : (bl t.nm).length ≤ 40 ∧ t.fs.length ≤ 18 ∧ ∀ f ∈ t.fs, fewFl f = true := by
  unfold fewSt at h
  simp only [Bool.and_eq_true, List.all_eq_true, Bool.not_eq_true', Bool.or_eq_false_iff, decide_eq_false_iff_not] at h
  exact ⟨by omega, by omega, h.2⟩
theorem few_en {e : En} (h : fewE e = true) : (bl e.nm).length ≤ 40 ∧ e.ns.length ≤ 18 ∧ e.vs.length ≤ 18 ∧ ∀ n ∈ e.ns, (bl n).length ≤ 40 := by
  unfold fewE at h
  simp only [Bool.and_eq_true, List.all_eq_true, Bool.not_eq_true', Bool.or_eq_false_iff, decide_eq_false_iff_not] at h
  exact ⟨by omega, by omega, by omega, fun n hn => by have := h.2 n hn; omega⟩
theorem dFl_len {f : Fl} (h : fewFl f = true) : (dFl f).length ≤ 20971600 := by
  obtain ⟨h1, h2⟩ := few_fl h
  have h3 := dTy_max h2
  have h4 := viI_len f.num
  have h5 := viT_len (bl f.nm)
  have h6 := viI_len (bif f.opt then 1 else 0)
  unfold dFl
  simp only [List.length_append]; omega
theorem dSt_len {t : St} (h : fewSt t = true) : (dSt t).length ≤ 400000000 := by
  obtain ⟨h1, h2, h3⟩ := few_st h
  have h4 : (t.fs.flatMap dFl).length ≤ t.fs.length * 20971600 := fm_len fun u hu => dFl_len (h3 u hu)
  have h5 := viI_len 6
  have h6 := viT_len (bl t.nm)
  have h7 := viI_len t.fs.length
  unfold dSt
  simp only [List.length_append]; omega
theorem dEn_len {e : En} (h : fewE e = true) : (dEn e).length ≤ 400000000 := by
  obtain ⟨h1, h2, _, h3⟩ := few_en h
  have h4 : ((e.ns.zip e.vs).flatMap dEv).length ≤ (e.ns.zip e.vs).length * 60 := fm_len fun p hp => by
    have a := h3 p.1 (List.of_mem_zip hp).1
    have b := viT_len (bl p.1)
    have c := viI_len p.2
    unfold dEv; rw [List.length_append]; omega
  have h5 := viI_len 7
  have h6 := viT_len (bl e.nm)
  have h7 := viI_len e.ns.length
  have h8 : (e.ns.zip e.vs).length ≤ 18 := by rw [List.length_zip]; omega
  unfold dEn
  simp only [List.length_append]; omega
def isStF (r : List C) : Prop := ∃ t : St, r = stC t ∧ t.ok ∧ fewSt t = true
def isEnF (r : List C) : Prop := ∃ e : En, r = enC e ∧ e.ok ∧ fewE e = true ∧ e.ns.length = e.vs.length
set_option maxRecDepth 100000 in
set_option maxHeartbeats 1000000 in
theorem mDescribeStruct : Meets Try.prog 60 (gFn isStF C.st fun t => .string (mk (dSt t))).sp := by
  refine meets_fn Try.func60 ok60 1 (by rw [Try.ntmps60]; decide) (meetsAll_f mWUint (meetsAll_f mWText (meetsAll_f mDescribeType (meetsAll_nil _)))) gFn_len ?_
  rintro av H K ⟨⟨h, rfl⟩, hK⟩
  obtain ⟨_, rfl, t, rfl, ht, hf⟩ := gPre_open h
  have hK : K (tS (mk (dSt t))) [] := by
    have : (gFn isStF C.st fun t => .string (mk (dSt t))).val [.va (.gs (stC t))] = tA (mk (dSt t)) := by simp -dsimp only [go_sem]
    rw [this] at hK; exact hK
  clear h
  have hm := dSt_len hf
  obtain ⟨h1, h2, h3⟩ := few_st hf
  have hfs := ht.fs
  obtain ⟨nm, fs⟩ := t
  simp only at h1 h2 h3 hfs
  have hn : (nm.size ≤ 1000000000) = True := eq_true (by rw [size_bl]; omega)
  have h6 := viI_len 6
  have h7 := viT_len (bl nm)
  have h8 := viI_len fs.length
  unfold dSt at hm hK
  simp only at hm hK
  generalize hhd : viI 6 ++ viT (bl nm) ++ viI fs.length = hd at hm hK
  have hhl : hd.length ≤ 70 := by rw [← hhd]; simp only [List.length_append]; omega
  rw [List.length_append] at hm
  simp (maxSteps := 1000000) -dsimp only [go_sem, stC, pc60, rs60, u64_lo, u64_hi, viI_def, hn, vi_6]
  refine ⟨⟨by omega, by omega⟩, by omega, by omega, ?_⟩
  rw [hhd]
  refine vc_loop (α := Nat) (fun i => [(1, .va (.c1 (.pt 0 0))), (3, tS (mk (hd ++ (fs.take i).flatMap dFl))), (18, .va (.c1 (.fz (fs.map flC)))), (19, iS .i64 fs.length), (20, iS .i64 i)]) (fun _ => [.cells (stC ⟨nm, fs⟩) 32])
    (fun i => i ≤ fs.length) (fun i => fs.length - i) 0 1 (Nat.zero_le _) ?_ ?_ ?_
  · simp -dsimp only [go_sem, List.take_zero, List.flatMap_nil, List.append_nil] <;> simp
  · simp -dsimp only [go_sem, stC]
  intro i hi
  rcases Nat.lt_or_ge i fs.length with hlt | hge
  · have hg : decide ((i : Int) < (fs.length : Int)) = true := by simp; omega
    obtain ⟨u, hx⟩ : ∃ t, fs[i]? = some t := ⟨_, List.getElem?_eq_getElem hlt⟩
    have hum := List.mem_of_getElem? hx
    have q1 := row_rg' (row := flC) hx
    obtain ⟨u1, u2⟩ := few_fl (h3 u hum)
    have hun : (u.nm.size ≤ 1000000000) = True := eq_true (by rw [size_bl]; omega)
    have hty : isTy (tyC u.ty) := isTy_mk (hfs u hum).ty
    have htd := ty_dec u.ty
    rw [tyC_eq] at hty htd
    have hb := fm_pre dFl fs (i + 1)
    rw [fm_take hx, List.length_append] at hb
    have hdl : (dFl u).length = (viI u.num).length + (viT (bl u.nm)).length + (dTy u.ty).length + (viI (bif u.opt then 1 else 0)).length := by unfold dFl; simp only [List.length_append]
    cases hop : u.opt with
    | true =>
      rw [hop, Bool.cond_true] at hdl
      have hd1 : dFl u = viI u.num ++ viT (bl u.nm) ++ dTy u.ty ++ viI 1 := by unfold dFl; rw [hop]; rfl
      simp (maxSteps := 1000000) -dsimp only [go_sem, hg, ↓q1, stC, flC, hop, hun, hty, htd, u2, u64_lo, u64_hi, viI_def, vi_1]
      refine ⟨⟨by omega, by omega⟩, by omega, by omega, by omega, ⟨by omega, by omega⟩, by omega, by omega, loop_next (i + 1) 1 (by show i + 1 ≤ _; omega) (by omega) ?_ ?_⟩
      · simp -dsimp only [go_sem, fm_take hx, hd1, List.append_assoc] <;> simp
      · simp -dsimp only [go_sem, stC]
    | false =>
      rw [hop, Bool.cond_false] at hdl
      have hd1 : dFl u = viI u.num ++ viT (bl u.nm) ++ dTy u.ty ++ viI 0 := by unfold dFl; rw [hop]; rfl
      simp (maxSteps := 1000000) -dsimp only [go_sem, hg, ↓q1, stC, flC, hop, hun, hty, htd, u2, u64_lo, u64_hi, viI_def, vi_0]
      refine ⟨⟨by omega, by omega⟩, by omega, by omega, by omega, ⟨by omega, by omega⟩, by omega, by omega, loop_next (i + 1) 1 (by show i + 1 ≤ _; omega) (by omega) ?_ ?_⟩
      · simp -dsimp only [go_sem, fm_take hx, hd1, List.append_assoc] <;> simp
      · simp -dsimp only [go_sem, stC]
  · have hg : decide ((i : Int) < (fs.length : Int)) = false := by simp; omega
    obtain rfl : i = fs.length := by omega
    rw [List.take_length]
    simp (maxSteps := 1000000) -dsimp only [go_sem, hg, stC]
    exact .sel [] (by simp) (by simp) rfl (.done hK)
theorem zip_at {α β : Type} {l : List α} {m : List β} {i : Nat} {a : α} {b : β} (h1 : l[i]? = some a) (h2 : m[i]? = some b) : (l.zip m)[i]? = some (a, b) := by
  rw [List.getElem?_zip_eq_some]; exact ⟨h1, h2⟩
set_option maxRecDepth 100000 in
set_option maxHeartbeats 1000000 in
theorem mDescribeEnum : Meets Try.prog 61 (gFn isEnF C.en fun t => .string (mk (dEn t))).sp := by
  refine meets_fn Try.func61 ok61 1 (by rw [Try.ntmps61]; decide) (meetsAll_f mWUint (meetsAll_f mWText (meetsAll_nil _))) gFn_len ?_
  rintro av H K ⟨⟨h, rfl⟩, hK⟩
  obtain ⟨_, rfl, t, rfl, ht, hf, hnv⟩ := gPre_open h
  have hK : K (tS (mk (dEn t))) [] := by
    have : (gFn isEnF C.en fun t => .string (mk (dEn t))).val [.va (.gs (enC t))] = tA (mk (dEn t)) := by simp -dsimp only [go_sem]
    rw [this] at hK; exact hK
  clear h
  have hm := dEn_len hf
  obtain ⟨h1, h2, h2', h3⟩ := few_en hf
  obtain ⟨nm, ns, vs⟩ := t
  simp only at h1 h2 h2' h3 hnv
  have hn : (nm.size ≤ 1000000000) = True := eq_true (by rw [size_bl]; omega)
  have h6 := viI_len 7
  have h7 := viT_len (bl nm)
  have h8 := viI_len ns.length
  unfold dEn at hm hK
  simp only at hm hK
  generalize hhd : viI 7 ++ viT (bl nm) ++ viI ns.length = hd at hm hK
  have hhl : hd.length ≤ 70 := by rw [← hhd]; simp only [List.length_append]; omega
  rw [List.length_append] at hm
  simp (maxSteps := 1000000) -dsimp only [go_sem, enC, pc61, rs61, u64_lo, u64_hi, viI_def, hn, vi_7]
  refine ⟨⟨by omega, by omega⟩, by omega, by omega, ?_⟩
  rw [hhd]
  refine vc_loop (α := Nat) (fun i => [(1, .va (.c1 (.pt 0 0))), (3, tS (mk (hd ++ ((ns.zip vs).take i).flatMap dEv))), (18, .va (.c1 (.fz (ns.map stR)))), (19, iS .i64 ns.length), (20, iS .i64 i)]) (fun _ => [.cells (enC ⟨nm, ns, vs⟩) 47])
    (fun i => i ≤ ns.length) (fun i => ns.length - i) 0 1 (Nat.zero_le _) ?_ ?_ ?_
  · simp -dsimp only [go_sem, List.take_zero, List.flatMap_nil, List.append_nil] <;> simp
  · simp -dsimp only [go_sem, enC]
  intro i hi
  rcases Nat.lt_or_ge i ns.length with hlt | hge
  · have hg : decide ((i : Int) < (ns.length : Int)) = true := by simp; omega
    obtain ⟨u, hx⟩ : ∃ t, ns[i]? = some t := ⟨_, List.getElem?_eq_getElem hlt⟩
    obtain ⟨v, hy⟩ : ∃ t, vs[i]? = some t := ⟨_, List.getElem?_eq_getElem (by omega)⟩
    have q1 := row_rg' (row := stR) hx
    have q2 := row_rg' (row := inR) hy
    have hz := zip_at hx hy
    have u1 := h3 u (List.mem_of_getElem? hx)
    have hun : (u.size ≤ 1000000000) = True := eq_true (by rw [size_bl]; omega)
    have hb := fm_pre dEv (ns.zip vs) (i + 1)
    rw [fm_take hz, List.length_append] at hb
    have hdl : (dEv (u, v)).length = (viT (bl u)).length + (viI v).length := by unfold dEv; simp only [List.length_append]
    have hd1 : dEv (u, v) = viT (bl u) ++ viI v := rfl
    simp (maxSteps := 1000000) -dsimp only [go_sem, hg, ↓q1, ↓q2, enC, hun, u64_lo, u64_hi, viI_def]
    refine ⟨by omega, by omega, by omega, by omega, by omega, loop_next (i + 1) 1 (by show i + 1 ≤ _; omega) (by omega) ?_ ?_⟩
    · simp -dsimp only [go_sem, fm_take hz, hd1, List.append_assoc] <;> simp
    · simp -dsimp only [go_sem, enC]
  · have hg : decide ((i : Int) < (ns.length : Int)) = false := by simp; omega
    obtain rfl : i = ns.length := by omega
    rw [List.take_of_length_le (by rw [List.length_zip]; omega)]
    simp (maxSteps := 1000000) -dsimp only [go_sem, hg, enC]
    exact .sel [] (by simp) (by simp) rfl (.done hK)
end Go.Proofs.Ytpfmkfafagiicaa
namespace Go.Proofs.Ytpfmkfafagiicaa
open Go.W
theorem en_lens {s : Sc} (hf : s.fit) (h : checkF s = 0) : ∀ e ∈ s.es, e.ns.length = e.vs.length := by
  intro e he
  obtain ⟨_, _, h2, _⟩ := check_good hf h
  obtain ⟨i, hi⟩ := List.mem_iff_getElem?.1 he
  have h3 := (en_zero hi (fE_zero h2 i (List.getElem?_eq_some_iff.1 hi).1)).2.2
  unfold ceF at h3
  by_cases c : e.ns.length = e.vs.length
  · exact c
  · rw [show (decide (e.ns.length = 0) || decide (e.ns.length ≠ e.vs.length)) = true by simp [c]] at h3
    simp at h3
theorem few_mem {s : Sc} (h : fewS s = true) : (∀ e ∈ s.es, fewE e = true) ∧ ∀ t ∈ s.ss, fewSt t = true := by
  unfold fewS at h
  simp only [Bool.and_eq_true, List.all_eq_true] at h
  exact h.2
def desL (s : Sc) (n : ByteArray) : List UInt8 := match fS s.ss n with
  | some t => dSt t
  | none => dEn ((fEn s.es n).getD default)
def knB (s : Sc) (n : ByteArray) : Bool := hasS s.ss n || hasE s.es n
end Go.Proofs.Ytpfmkfafagiicaa
namespace Go.Proofs.Ytpfmkfafagiicaa
open Go.W
theorem desL_len {s : Sc} (hf : fewS s = true) {n : ByteArray} (hk : knB s n = true) : (desL s n).length ≤ 400000000 := by
  unfold desL
  cases hx : fS s.ss n with
  | some t => exact dSt_len ((few_mem hf).2 t (fS_mem hx).1)
  | none =>
    have e2 : hasS s.ss n = false := by rw [← fS_has, hx]; rfl
    unfold knB at hk
    rw [e2, Bool.false_or] at hk
    obtain ⟨e, hy⟩ : ∃ e, fEn s.es n = some e := Option.isSome_iff_exists.1 (by rw [fEn_has]; exact hk)
    rw [hy, Option.getD_some]
    exact dEn_len ((few_mem hf).1 e (fEn_mem hy).1)
def digL (s : Sc) (n : ByteArray) : List UInt8 := desL s n ++ (usesF s.ss n).flatMap (desL s)
theorem kn_uses {s : Sc} (hs : s.fit) (h0 : checkF s = 0) {n x : ByteArray} (hx : x ∈ usesF s.ss n) : knB s x = true := by
  unfold knB
  rcases one_of hs h0 hx with ⟨h, _⟩ | ⟨_, h⟩ <;> rw [h] <;> simp
theorem uses_len {s : Sc} (hs : s.fit) (h0 : checkF s = 0) (n : ByteArray) : (usesF s.ss n).length ≤ 32 := by
  have := (check_good hs h0).1.vlen n
  unfold usesF; rw [srtB_len]; exact this
theorem digL_len {s : Sc} (hs : s.fit) (hf : fewS s = true) (h0 : checkF s = 0) {n : ByteArray} (hk : knB s n = true) : (digL s n).length ≤ 20000000000 := by
  have h1 := desL_len hf hk
  have h2 : ((usesF s.ss n).flatMap (desL s)).length ≤ (usesF s.ss n).length * 400000000 := fm_len fun u hu => desL_len hf (kn_uses hs h0 hu)
  have h3 := uses_len hs h0 n
  unfold digL; rw [List.length_append]; omega
def dgF (s : Sc) (n : ByteArray) : Int := bif okS s n then hashL (digL s n) else 0
def isScW (r : List C) : Prop := ∃ s : Sc, r = scC s ∧ s.fit ∧ fewS s = true
theorem isScW_mk {s : Sc} (h1 : s.fit) (h2 : fewS s = true) : isScW (scC s) := ⟨s, rfl, h1, h2⟩
noncomputable def dgFn : Fun := snFn isScW C.sc (fun s n => iA .u64 (dgF s n)) (fun _ _ => trivial)
attribute [go_sem] dgFn
theorem kn_ok {s : Sc} {n : ByteArray} (h : okS s n = true) : knB s n = true := by
  unfold knB; rw [(okS_true h).2]; rfl
end Go.Proofs.Ytpfmkfafagiicaa
namespace Go.Proofs.Ytpfmkfafagiicaa
open Go.W
theorem nd_of {α : Type} {nm : α → ByteArray} {l : List α} (h : ∀ i t, l[i]? = some t → ((l.take i).any fun s => decide (nm s = nm t)) = false) : (l.map nm).Nodup := by
  unfold List.Nodup
  rw [List.pairwise_iff_getElem]
  intro i j hi hj hij he
  rw [List.length_map] at hi hj
  simp only [List.getElem_map] at he
  have h1 := h j l[j] (List.getElem?_eq_getElem hj)
  have h2 := any_false h1 l[i] (List.mem_iff_getElem?.2 ⟨i, by rw [List.getElem?_take, if_pos hij, List.getElem?_eq_getElem hi]⟩)
  rw [he] at h2; simp at h2
theorem nd_take {α : Type} {nm : α → ByteArray} {l : List α} (h : (l.map nm).Nodup) {i : Nat} {t : α} (hi : l[i]? = some t) : ((l.take i).any fun s => decide (nm s = nm t)) = false := by
  unfold List.Nodup at h
  rw [List.pairwise_iff_getElem] at h
  rw [List.any_eq_false]
  intro x hx
  obtain ⟨j, hj⟩ := List.mem_iff_getElem?.1 hx
  rw [List.getElem?_take] at hj
  split at hj
  · rename_i hji
    obtain ⟨h1, h2⟩ := List.getElem?_eq_some_iff.1 hj
    obtain ⟨h3, h4⟩ := List.getElem?_eq_some_iff.1 hi
    have := h j i (by simpa using h1) (by simpa using h3) hji
    simp only [List.getElem_map] at this
    rw [h2, h4] at this
    simpa using this
  · cases hj
theorem find_nd {α : Type} {nm : α → ByteArray} : ∀ {l : List α}, (l.map nm).Nodup → ∀ {t : α}, t ∈ l → l.find? (fun s => decide (nm s = nm t)) = some t
  | x :: l, h, t, ht => by
    rw [List.map_cons, List.nodup_cons] at h
    rw [List.find?_cons]
    rcases List.mem_cons.1 ht with rfl | ht
    · simp
    · have : nm x ≠ nm t := fun e => h.1 (e ▸ List.mem_map_of_mem ht)
      simp only [this, decide_false]
      exact find_nd h.2 ht
theorem nd_ss {s : Sc} (hs : s.fit) (h : checkF s = 0) : (s.ss.map St.nm).Nodup := nd_of fun i t hi => by
  obtain ⟨_, _, _, h2, _⟩ := check_good hs h
  exact (cn_zero (st_zero hi (fE_zero h2 i (List.getElem?_eq_some_iff.1 hi).1)).1).2.2
theorem nd_es {s : Sc} (hs : s.fit) (h : checkF s = 0) : (s.es.map En.nm).Nodup := nd_of fun i t hi => by
  obtain ⟨_, _, h2, _⟩ := check_good hs h
  exact (en_zero hi (fE_zero h2 i (List.getElem?_eq_some_iff.1 hi).1)).2.1
theorem fE_nil {f : Nat → Int} : ∀ (k i : Nat), (∀ j, i ≤ j → j < i + k → f j = 0) → fE f k i = 0
  | 0, _, _ => rfl
  | k + 1, i, h => by
    rw [fE, h i (Nat.le_refl _) (by omega)]
    exact fE_nil k (i + 1) fun j h1 h2 => h j (by omega) (by omega)
theorem kn_cases' {s : Sc} {z : ByteArray} (h : knB s z = true) : (∃ t, fS s.ss z = some t) ∨ (fS s.ss z = none ∧ hasE s.es z = true) := by
  cases hx : fS s.ss z with
  | some t => exact .inl ⟨t, rfl⟩
  | none =>
    have e2 : hasS s.ss z = false := by rw [← fS_has, hx]; rfl
    unfold knB at h
    rw [e2, Bool.false_or] at h
    exact .inr ⟨rfl, h⟩
def zzz : ByteArray := mk [90, 122, 122]
theorem zzz_tn : tnB (bl zzz) = true := by unfold zzz; rw [bl_mk]; decide +kernel
structure Sim (s s' : Sc) : Prop where
  e1 : ∀ e, e ∈ s'.es ↔ e ∈ s.es
  e2 : (s'.es.map En.nm).Nodup
  s1 : (s'.ss.map St.nm).Nodup
  s2 : ∀ t ∈ s.ss, t ∈ s'.ss
  s3 : ∀ t ∈ s'.ss, t ∈ s.ss ∨ (t = ⟨zzz, []⟩ ∧ hasS s.ss zzz = false ∧ hasE s.es zzz = false)
section
variable {s s' : Sc} (x : Sim s s') (hs : s.fit) (h0 : checkF s = 0)
include x hs h0
theorem Sim.some {n : ByteArray} {t : St} (h : fS s.ss n = some t) : fS s'.ss n = some t := by
  have _ := hs
  have _ := h0
  obtain ⟨h1, rfl⟩ := fS_mem h
  exact find_nd x.s1 (x.s2 t h1)
theorem Sim.fs (n : ByteArray) : ((fS s'.ss n).getD default).fs = ((fS s.ss n).getD default).fs := by
  cases h : fS s.ss n with
  | some t => rw [x.some hs h0 h]
  | none =>
    cases h' : fS s'.ss n with
    | none => rfl
    | some t =>
      obtain ⟨h1, rfl⟩ := fS_mem h'
      rcases x.s3 t h1 with h2 | ⟨rfl, _⟩
      · have := find_nd (nd_ss hs h0) h2
        rw [show s.ss.find? (fun s => decide (s.nm = t.nm)) = fS s.ss t.nm from rfl, h] at this
        cases this
      · rfl
theorem Sim.en (n : ByteArray) : fEn s'.es n = fEn s.es n := by
  cases h : fEn s.es n with
  | some e =>
    obtain ⟨h1, rfl⟩ := fEn_mem h
    exact find_nd x.e2 ((x.e1 e).2 h1)
  | none =>
    cases h' : fEn s'.es n with
    | none => rfl
    | some e =>
      obtain ⟨h1, rfl⟩ := fEn_mem h'
      have := find_nd (nd_es hs h0) ((x.e1 e).1 h1)
      rw [show s.es.find? (fun s => decide (s.nm = e.nm)) = fEn s.es e.nm from rfl, h] at this
      cases this
theorem Sim.dN (N : Nat) : dN s'.ss N = dN s.ss N := by
  induction N with
  | zero => rfl
  | succ N ih => funext n; rw [dN_succ, dN_succ, ih, x.fs hs h0]
theorem Sim.dD (n : ByteArray) : dD s'.ss n = dD s.ss n := by rw [dD_def, dD_def, x.dN hs h0]
theorem Sim.ref (a b : ByteArray) : isRef s'.ss a b ↔ isRef s.ss a b := by
  unfold isRef refT; rw [x.fs hs h0]
theorem Sim.reach (a b : ByteArray) : Reach s'.ss a b ↔ Reach s.ss a b := by
  constructor
  · intro h
    induction h with
    | one h => exact .one ((x.ref hs h0 _ _).1 h)
    | more _ h ih => exact .more ih ((x.ref hs h0 _ _).1 h)
  · intro h
    induction h with
    | one h => exact .one ((x.ref hs h0 _ _).2 h)
    | more _ h ih => exact .more ih ((x.ref hs h0 _ _).2 h)
theorem Sim.uses (n : ByteArray) : usesF s'.ss n = usesF s.ss n := asc_ext (usesF_asc _ _) (usesF_asc _ _) fun z => by rw [mem_usesF, mem_usesF, x.reach hs h0]
omit hs h0 in
theorem Sim.hasS {n : ByteArray} (h : hasS s.ss n = true) : hasS s'.ss n = true := by
  unfold Go.Proofs.Ytpfmkfafagiicaa.hasS at h ⊢
  rw [List.any_eq_true] at h ⊢
  obtain ⟨t, ht, hn⟩ := h
  exact ⟨t, x.s2 t ht, hn⟩
omit hs h0 in
theorem Sim.hasE (n : ByteArray) : hasE s'.es n = hasE s.es n := by
  unfold Go.Proofs.Ytpfmkfafagiicaa.hasE
  rw [Bool.eq_iff_iff, List.any_eq_true, List.any_eq_true]
  exact ⟨fun ⟨t, ht, hn⟩ => ⟨t, (x.e1 t).1 ht, hn⟩, fun ⟨t, ht, hn⟩ => ⟨t, (x.e1 t).2 ht, hn⟩⟩
end
mutual
theorem val_mono {s s' : Sc} (x : Sim s s') : ∀ t : Ty, valF s.ss s.es t = true → valF s'.ss s'.es t = true
  | .mk k z n e, h => by
    rw [valF] at h ⊢
    by_cases c1 : k == 1
    · simp only [c1, Bool.cond_true] at h ⊢; exact h
    simp only [c1, Bool.cond_false] at h ⊢
    by_cases c2 : k == 2
    · simp only [c2, Bool.cond_true] at h ⊢; exact h
    simp only [c2, Bool.cond_false] at h ⊢
    by_cases c3 : k == 3
    · simp only [c3, Bool.cond_true] at h ⊢; exact h
    simp only [c3, Bool.cond_false] at h ⊢
    by_cases c4 : k == 4
    · simp only [c4, Bool.cond_true] at h ⊢; exact h
    simp only [c4, Bool.cond_false] at h ⊢
    by_cases c5 : k == 5
    · simp only [c5, Bool.cond_true, Bool.and_eq_true] at h ⊢; exact ⟨h.1, vals_mono x e h.2⟩
    simp only [c5, Bool.cond_false] at h ⊢
    by_cases c6 : k == 6
    · simp only [c6, Bool.cond_true, Bool.and_eq_true] at h ⊢; exact ⟨⟨x.hasS h.1.1, h.1.2⟩, h.2⟩
    simp only [c6, Bool.cond_false] at h ⊢
    by_cases c7 : k == 7
    · simp only [c7, Bool.cond_true, Bool.and_eq_true] at h ⊢; exact ⟨⟨by rw [x.hasE]; exact h.1.1, h.1.2⟩, h.2⟩
    · simp only [c7, Bool.cond_false] at h; cases h
theorem vals_mono {s s' : Sc} (x : Sim s s') : ∀ t : List Ty, valFs s.ss s.es t = true → valFs s'.ss s'.es t = true
  | [], h => by rw [valFs] at h; cases h
  | t :: r, h => by
    rw [valFs, Bool.and_eq_true] at h ⊢
    exact ⟨val_mono x t h.1, h.2⟩
end
theorem cf_same {s s' : Sc} (x : Sim s s') {t : St} (h : cfF s.ss s.es t = 0) : cfF s'.ss s'.es t = 0 := by
  have hv := cf_zero h
  have : cfAt s'.ss s'.es t = cfAt s.ss s.es t := by
    funext k
    unfold cfAt
    cases hk : t.fs[k]? with
    | none => rfl
    | some f =>
      have h1 := (hv f (List.mem_of_getElem? hk)).2.2
      simp only [h1, val_mono x f.ty h1]
  unfold cfF at h ⊢
  rw [this]; exact h
section
variable {s s' : Sc} (x : Sim s s') (hs : s.fit) (h0 : checkF s = 0)
include x hs h0
theorem Sim.zzz_ref {b : ByteArray} (hz : Go.Proofs.Ytpfmkfafagiicaa.hasS s.ss zzz = false) : ¬ isRef s.ss zzz b := by
  have _ := x
  have _ := hs
  have _ := h0
  have : fS s.ss zzz = none := Option.not_isSome_iff_eq_none.1 (by rw [fS_has, hz]; simp)
  unfold isRef refT; rw [this]
  rintro ⟨f, hf, _⟩; cases hf
theorem Sim.check (hv : 1 ≤ s'.ver ∧ s'.ver ≤ 999) (hl : largeF s' = false) : checkF s' = 0 := by
  obtain ⟨g, ha, h1, h2, _, _, _, h6⟩ := check_good hs h0
  have k1 : enF s' = 0 := fE_nil _ _ fun j _ hj => by
    unfold enAt
    cases hx : s'.es[j]? with
    | none => rfl
    | some e =>
      obtain ⟨i, hi⟩ := List.mem_iff_getElem?.1 ((x.e1 e).1 (List.mem_of_getElem? hx))
      obtain ⟨a1, _, a3⟩ := en_zero hi (fE_zero h1 i (List.getElem?_eq_some_iff.1 hi).1)
      have a2 : Go.Proofs.Ytpfmkfafagiicaa.hasE (s'.es.take j) e.nm = false := nd_take x.e2 hx
      simp only [a1, a2, a3, Bool.not_true, Bool.cond_false]
  have k2 : stF s' = 0 := fE_nil _ _ fun j _ hj => by
    unfold stAt
    cases hx : s'.ss[j]? with
    | none => rfl
    | some t =>
      have a2 : Go.Proofs.Ytpfmkfafagiicaa.hasS (s'.ss.take j) t.nm = false := nd_take x.s1 hx
      rcases x.s3 t (List.mem_of_getElem? hx) with h3 | ⟨rfl, z1, z2⟩
      · obtain ⟨i, hi⟩ := List.mem_iff_getElem?.1 h3
        obtain ⟨c1, c2⟩ := st_zero hi (fE_zero h2 i (List.getElem?_eq_some_iff.1 hi).1)
        obtain ⟨b1, b2, _⟩ := cn_zero c1
        have : cnF s' j t.nm = 0 := by unfold cnF; simp only [b1, x.hasE, b2, a2, Bool.not_true, Bool.cond_false]
        simp only [this, cf_same x c2]; rfl
      · have : cnF s' j zzz = 0 := by
          simp only at a2
          unfold cnF; simp only [zzz_tn, x.hasE, z2, a2, Bool.not_true, Bool.cond_false]
        simp only [this]; rfl
  have k3 : nestF s'.ss = 0 := by
    unfold nestF
    have q1 : (s'.ss.any fun t => inB (usesF s'.ss t.nm) t.nm) = false := by
      rw [List.any_eq_false]
      intro t ht
      rw [x.uses hs h0]
      rcases x.s3 t ht with h3 | ⟨rfl, z1, _⟩
      · rw [ha t h3]; simp
      · have : inB (usesF s.ss zzz) zzz = false := by
          rw [not_inB, mem_usesF]
          intro h
          obtain ⟨b, hb, _⟩ := h.first
          exact x.zzz_ref hs h0 z1 hb
        simp only [this]; simp
    have q2 : (s'.ss.any fun t => decide (6 < Go.Proofs.Ytpfmkfafagiicaa.dD s'.ss t.nm)) = false := by
      rw [List.any_eq_false]
      intro t ht
      rw [x.dD hs h0]
      rcases x.s3 t ht with h3 | ⟨rfl, z1, _⟩
      · have := h6 t h3; simp only [decide_eq_true_eq]; omega
      · have hn : fS s.ss zzz = none := Option.not_isSome_iff_eq_none.1 (by rw [fS_has, z1]; simp)
        rw [dD_def, dN_succ, hn]
        simp only [decide_eq_true_eq]
        show ¬ (6 < maxF (Go.Proofs.Ytpfmkfafagiicaa.dN s.ss dK) [] + 1)
        have : maxF (Go.Proofs.Ytpfmkfafagiicaa.dN s.ss dK) [] = 0 := rfl
        omega
    rw [q1, q2]; rfl
  unfold checkF
  rw [show (decide (s'.ver < 1) || decide (999 < s'.ver)) = false by simp; omega, hl, k1, k2, k3]
  rfl
theorem Sim.des {n : ByteArray} (h : knB s n = true) : desL s' n = desL s n := by
  rcases kn_cases' h with ⟨t, t1⟩ | ⟨t1, t2⟩
  · unfold desL; rw [x.some hs h0 t1, t1]
  · have : fS s'.ss n = none := by
      cases h' : fS s'.ss n with
      | none => rfl
      | some t =>
        obtain ⟨h1, rfl⟩ := fS_mem h'
        rcases x.s3 t h1 with h2 | ⟨rfl, _, h3⟩
        · have := find_nd (nd_ss hs h0) h2
          rw [show s.ss.find? (fun s => decide (s.nm = t.nm)) = fS s.ss t.nm from rfl, t1] at this
          cases this
        · rw [t2] at h3; cases h3
    unfold desL; rw [this, t1, x.en hs h0]
theorem Sim.same (h1 : checkF s' = 0) {t : St} (ht : t ∈ s.ss) : dgF s' t.nm = dgF s t.nm ∧ dpF s' t.nm = dpF s t.nm ∧ usL s' t.nm = usL s t.nm := by
  have o1 := okS_mem h0 ht
  have o2 := okS_mem h1 (x.s2 t ht)
  refine ⟨?_, ?_, ?_⟩
  · unfold dgF
    rw [o1, o2]
    simp only [Bool.cond_true]
    congr 1
    unfold digL
    rw [x.uses hs h0, x.des hs h0 (kn_ok o1)]
    congr 1
    have hk : ∀ z ∈ usesF s.ss t.nm, knB s z = true := fun z hz => kn_uses hs h0 hz
    generalize usesF s.ss t.nm = l at hk
    induction l with
    | nil => rfl
    | cons z l ih => rw [List.flatMap_cons, List.flatMap_cons, x.des hs h0 (hk z List.mem_cons_self), ih fun w hw => hk w (List.mem_cons_of_mem _ hw)]
  · unfold dpF; rw [o1, o2, x.dD hs h0]
  · unfold usL; rw [o1, o2, x.uses hs h0]
end
end Go.Proofs.Ytpfmkfafagiicaa
namespace Go.Proofs.Ytpfmkfafagiicaa
open Go.W
def tnS (s : Sc) : Sc := ⟨s.ver, s.es.reverse, s.ss.reverse⟩
def moS (s : Sc) (l : List St) : Sc := ⟨7, s.es, s.ss.reverse ++ l⟩
theorem nd_rev {α : Type} {nm : α → ByteArray} {l : List α} (h : (l.map nm).Nodup) : (l.reverse.map nm).Nodup := by
  rw [List.map_reverse]
  unfold List.Nodup at h ⊢
  rw [List.pairwise_reverse]
  exact h.imp fun h e => h e.symm
theorem sim_tn {s : Sc} (hs : s.fit) (h0 : checkF s = 0) : Sim s (tnS s) :=
  ⟨fun e => by simp [tnS], nd_rev (nd_es hs h0), nd_rev (nd_ss hs h0), fun t ht => by simpa [tnS] using ht, fun t ht => .inl (by simpa [tnS] using ht)⟩
theorem sim_mo {s : Sc} (hs : s.fit) (h0 : checkF s = 0) : Sim s (moS s []) :=
  ⟨fun e => by simp [moS], (nd_es hs h0 : (s.es.map En.nm).Nodup), by simpa [moS] using nd_rev (nd_ss hs h0), fun t ht => by simpa [moS] using ht, fun t ht => .inl (by simpa [moS] using ht)⟩
theorem sim_mz {s : Sc} (hs : s.fit) (h0 : checkF s = 0) (h1 : hasS s.ss zzz = false) (h2 : hasE s.es zzz = false) : Sim s (moS s [⟨zzz, []⟩]) := by
  refine ⟨fun e => by simp [moS], (nd_es hs h0 : (s.es.map En.nm).Nodup), ?_, fun t ht => by simp [moS, ht], fun t ht => ?_⟩
  · show ((s.ss.reverse ++ ([⟨zzz, []⟩] : List St)).map St.nm).Nodup
    rw [List.map_append, List.nodup_append]
    refine ⟨nd_rev (nm := St.nm) (nd_ss hs h0), by simp, fun a ha b hb => ?_⟩
    simp only [List.map_cons, List.map_nil, List.mem_singleton] at hb
    subst hb
    rintro rfl
    obtain ⟨t, ht, hn⟩ := List.mem_map.1 ha
    have := any_false h1 t (by simpa using ht)
    simp [hn] at this
  · simp only [moS, List.mem_append, List.mem_reverse, List.mem_singleton] at ht
    rcases ht with h | h
    · exact .inl h
    · exact .inr ⟨h, h1, h2⟩
theorem ok_tn {s : Sc} (h : s.ok) : (tnS s).ok := ⟨h.ver, by simpa [tnS] using h.le, by simpa [tnS] using h.ls, fun e he => h.es e (by simpa [tnS] using he), fun t ht => h.ss t (by simpa [tnS] using ht)⟩
theorem ok_mo {s : Sc} (h : s.ok) {l : List St} (hl : ∀ t ∈ l, t.ok) (h1 : s.ss.length + l.length ≤ 100) : (moS s l).ok := by
  refine ⟨⟨by show (-9223372036854775808 : Int) ≤ 7; decide, by show (7 : Int) ≤ 9223372036854775807; decide⟩, h.le, ?_, h.es, fun t ht => ?_⟩
  · show (s.ss.reverse ++ l).length ≤ _
    rw [List.length_append, List.length_reverse]; omega
  · rcases List.mem_append.1 (show t ∈ s.ss.reverse ++ l from ht) with h2 | h2
    · exact h.ss t (by simpa using h2)
    · exact hl t h2
theorem few_tn {s : Sc} (h : fewS s = true) : fewS (tnS s) = true := by
  unfold fewS at h ⊢
  simpa [tnS] using h
theorem few_mo {s : Sc} (h : fewS s = true) {l : List St} (hl : l.all fewSt = true) (h1 : s.ss.length + l.length ≤ 18) : fewS (moS s l) = true := by
  unfold fewS at h ⊢
  simp only [Bool.and_eq_true, Bool.not_eq_true', Bool.or_eq_false_iff, decide_eq_false_iff_not] at h
  show (!(decide (18 < s.es.length) || decide (18 < (s.ss.reverse ++ l).length)) && (s.es.all fewE && (s.ss.reverse ++ l).all fewSt)) = true
  simp only [Bool.and_eq_true, Bool.not_eq_true', Bool.or_eq_false_iff, decide_eq_false_iff_not, List.length_append, List.length_reverse, List.all_append, List.all_reverse]
  exact ⟨⟨by omega, by omega⟩, h.2.1, h.2.2, hl⟩
theorem large_tn {s : Sc} (h : largeF s = false) : largeF (tnS s) = false := by
  unfold largeF at h ⊢
  simpa [tnS] using h
theorem large_mo {s : Sc} (h : largeF s = false) {l : List St} (hl : ∀ t ∈ l, t.fs = []) (h1 : s.es.length + s.ss.length + l.length ≤ 16) : largeF (moS s l) = false := by
  unfold largeF at h ⊢
  simp only [Bool.or_eq_false_iff, decide_eq_false_iff_not] at h
  show (decide (16 < s.es.length) || decide (16 < s.es.length + (s.ss.reverse ++ l).length) || s.es.any (fun e => decide (16 < e.ns.length)) || (s.ss.reverse ++ l).any (fun t => decide (16 < t.fs.length))) = false
  simp only [Bool.or_eq_false_iff, decide_eq_false_iff_not, List.length_append, List.length_reverse, List.any_append, List.any_reverse]
  refine ⟨⟨⟨by omega, by omega⟩, h.1.2⟩, h.2, ?_⟩
  rw [List.any_eq_false]
  intro t ht
  rw [hl t ht]; simp
end Go.Proofs.Ytpfmkfafagiicaa
namespace Go.Proofs.Ytpfmkfafagiicaa
open Go.W
theorem isStF_mk {t : St} (h1 : t.ok) (h2 : fewSt t = true) : isStF (stC t) := ⟨t, rfl, h1, h2⟩
theorem isEnF_mk {e : En} (h1 : e.ok) (h2 : fewE e = true) (h3 : e.ns.length = e.vs.length) : isEnF (enC e) := ⟨e, rfl, h1, h2, h3⟩
set_option maxRecDepth 100000 in
set_option maxHeartbeats 1000000 in
theorem mDigest : Meets Try.prog 32 dgFn.sp := by
  refine meets_fn Try.func32 ok32 2 (by rw [Try.ntmps32]; decide) (meetsAll_s mFound (meetsAll_s mUses (meetsAll_f mDescribeStruct (meetsAll_f mDescribeEnum (meetsAll_f mHashP (meetsAll_nil _)))))) snFn_len ?_
  rintro av H K ⟨⟨h, rfl⟩, hK⟩
  obtain ⟨_, n, rfl, s, rfl, hs, hf⟩ := snPre_open h
  replace hK : K (iS .u64 (dgF s n)) [] := by
    have : dgFn.val [.va (.gs (scC s)), tS n] = iA .u64 (dgF s n) := by simp -dsimp only [go_sem]
    rw [this] at hK; exact hK
  clear h
  have fin : ∀ (x : Int) (R : Hp), dgF s n = x → W.Fin 0 K (iS .u64 x) R := fun x R h1 => by
    rw [h1] at hK
    exact .sel [] (by simp) (by simp) rfl (.done (by simpa [go_sem] using hK))
  simp (maxSteps := 1000000) -dsimp only [go_sem, scC, pc32, rs32]
  refine fa_use hs (fun h => ?_) fun h ks vs ks' vs' x1 x2 => ?_
  · simp (maxSteps := 1000000) -dsimp only [go_sem]
    exact fin 0 _ (by unfold dgF okS; rw [beq_eq_false_iff_ne.2 h]; rfl)
  obtain ⟨g, ha, _⟩ := check_good hs h
  have hx := x1 n
  rw [← fS_has]
  cases hft : fS s.ss n with
  | none =>
    simp (maxSteps := 1000000) -dsimp only [go_sem, Option.isSome_none]
    exact fin 0 _ (by unfold dgF okS; rw [← fS_has, hft]; simp)
  | some t =>
    rw [hft] at hx
    simp only [Option.map_some] at hx
    obtain ⟨ht, rfl⟩ := fS_mem hft
    have hkn : knB s t.nm = true := by unfold knB; rw [← fS_has, hft]; rfl
    have hm := digL_len hs hf h hkn
    have hdg : dgF s t.nm = hashL (digL s t.nm) := by unfold dgF okS; rw [← fS_has, hft, h]; rfl
    have hdl : digL s t.nm = dSt t ++ (usesF s.ss t.nm).flatMap (desL s) := by unfold digL; conv => lhs; rw [desL, hft]
    rw [hdl] at hdg hm
    rw [List.length_append] at hm
    have hst := isStF_mk (hs.ok.ss t ht) ((few_mem hf).2 t ht)
    have hsd := st_dec t
    rw [stC] at hst hsd
    simp (maxSteps := 1000000) -dsimp only [go_sem, Option.isSome_some, hx, stC, hst]
    refine us_use x1 hs.ok.ss (by have := g.vlen t.nm; omega) ?_
    have hul := uses_len hs h t.nm
    have hkx : ∀ x ∈ usesF s.ss t.nm, knB s x = true := fun x hx => kn_uses hs h hx
    generalize usesF s.ss t.nm = us at *
    simp (maxSteps := 1000000) -dsimp only [go_sem]
    refine vc_loop (α := Nat) (fun i => [(5, .va (.c1 (.pt 3 0))), (7, tS (mk (dSt t ++ (us.take i).flatMap (desL s)))), (27, .va (.c1 (.fz (us.map stR)))), (28, iS .i64 us.length), (29, iS .i64 i)]) (fun _ => [.cells (scC s) 25, .map .string ks (vs.map stA), .map .string ks' (vs'.map enA), .cells [.mp 1, .mp 2] 69])
      (fun i => i ≤ us.length) (fun i => us.length - i) 0 4 (Nat.zero_le _) ?_ ?_ ?_
    · simp -dsimp only [go_sem, List.take_zero, List.flatMap_nil, List.append_nil, hx, stC, hsd] <;> simp
    · simp -dsimp only [go_sem, scC]
    intro i hi
    rcases Nat.lt_or_ge i us.length with hlt | hge
    · have hg : decide ((i : Int) < (us.length : Int)) = true := by simp; omega
      obtain ⟨u, hxu⟩ : ∃ t, us[i]? = some t := ⟨_, List.getElem?_eq_getElem hlt⟩
      have q1 := row_rg' (row := stR) hxu
      have hku := hkx u (List.mem_of_getElem? hxu)
      have hb := fm_pre (desL s) us (i + 1)
      rw [fm_take hxu, List.length_append] at hb
      have hy := x1 u
      cases hfu : fS s.ss u with
      | some v =>
        rw [hfu] at hy
        simp only [Option.map_some] at hy
        have hvt := (fS_mem hfu).1
        have hdu : desL s u = dSt v := by rw [desL, hfu]
        rw [hdu] at hb
        have hsv := isStF_mk (hs.ok.ss v hvt) ((few_mem hf).2 v hvt)
        have hdv := st_dec v
        rw [stC] at hsv hdv
        simp (maxSteps := 1000000) -dsimp only [go_sem, hg, ↓q1, scC, stC, hy, hsv, hdv]
        refine ⟨by omega, by omega, by omega, loop_next (i + 1) 4 (by show i + 1 ≤ _; omega) (by omega) ?_ ?_⟩
        · simp -dsimp only [go_sem, fm_take hxu, hdu, List.append_assoc] <;> simp
        · simp -dsimp only [go_sem, scC]
      | none =>
        rw [hfu] at hy
        simp only [Option.map_none] at hy
        have e2 : hasS s.ss u = false := by rw [← fS_has, hfu]; rfl
        unfold knB at hku
        rw [e2, Bool.false_or] at hku
        obtain ⟨e, hye⟩ : ∃ e, fEn s.es u = some e := Option.isSome_iff_exists.1 (by rw [fEn_has]; exact hku)
        have hz := x2 u
        rw [hye] at hz
        simp only [Option.map_some] at hz
        have hem := (fEn_mem hye).1
        have hdu : desL s u = dEn e := by rw [desL, hfu, hye]; rfl
        rw [hdu] at hb
        have hse := isEnF_mk (hs.ok.es e hem) ((few_mem hf).1 e hem) (en_lens hs h e hem)
        have hde := en_dec e
        rw [enC] at hse hde
        simp (maxSteps := 1000000) -dsimp only [go_sem, hg, ↓q1, scC, enC, hy, hz, hse, hde]
        refine ⟨by omega, by omega, by omega, loop_next (i + 1) 4 (by show i + 1 ≤ _; omega) (by omega) ?_ ?_⟩
        · simp -dsimp only [go_sem, fm_take hxu, hdu, List.append_assoc] <;> simp
        · simp -dsimp only [go_sem, scC]
    · have hg : decide ((i : Int) < (us.length : Int)) = false := by simp; omega
      obtain rfl : i = us.length := by omega
      rw [List.take_length]
      simp (maxSteps := 1000000) -dsimp only [go_sem, hg, scC]
      exact ⟨by rw [size_bl, bl_mk, List.length_append]; omega, fin _ _ hdg⟩
end Go.Proofs.Ytpfmkfafagiicaa
namespace Go.Proofs.Ytpfmkfafagiicaa
open Go.W
def pcH9_16 : PC := .seq (.gh (.reg  [⟨some 89, none, .q (.mv (.t 10))⟩, ⟨some 90, none, .q (.not (.t 89))⟩])) (.cond (.t 90) (.reg  [⟨some 91, none, .q (.fa 2 (.t 6))⟩, ⟨some 92, none, .l (.ld1 (.t 91))⟩, ⟨some 93, none, .q (.bd [(.string (mk [])), (.slice none 0 0)] [(0, 1, (.k (.string (mk [90, 122, 122]))))])⟩, ⟨some 94, none, .e (.bsl 32 2 [(.t 93)])⟩, ⟨some 95, none, .e (.apz 32 2 40 (.t 92) (.t 94))⟩, ⟨some 96, none, .q (.fa 2 (.t 6))⟩, ⟨none, none, .e (.st 1 (.t 96) (.t 95))⟩]) (.skip))
@[go_sem ↓] theorem foldH9_16 (Γ : Env) (k0 : Nat) (fr : Fr) (H : Hp) (K : Ex → Fr → Hp → Prop) : vc Γ k0 pcH9_16 fr H K = vcn Γ k0 pcH9_16 fr H K ⟨⟩ := rfl
def pcH9_14 : PC := .seq (.gh (.reg  [⟨some 72, none, .q (.mv (.t 8))⟩, ⟨some 73, none, .q (.not (.t 72))⟩, ⟨some 74, none, .q (.mv (.t 73))⟩, ⟨some 75, (some (74, true)), .q (.fa 1 (.t 1))⟩, ⟨some 76, (some (74, true)), .l (.ld1 (.t 75))⟩, ⟨some 77, (some (74, true)), .q (.lnL (.t 76))⟩, ⟨some 78, (some (74, true)), .q (.fa 2 (.t 1))⟩, ⟨some 79, (some (74, true)), .l (.ld1 (.t 78))⟩, ⟨some 80, (some (74, true)), .q (.lnL (.t 79))⟩, ⟨some 81, (some (74, true)), .q (.bin .add true (.t 77) (.t 80))⟩, ⟨some 82, (some (74, true)), .q (.bin .lss true (.t 81) (.k (.int .i64 16)))⟩, ⟨some 83, none, .pick (.t 74) (.t 82) (.k (.bool false))⟩])) (.cond (.t 83) (.seq (.reg  [⟨some 85, none, .l (.ldn 3 (.t 1))⟩, ⟨some 86, none, .cl 25 [(.t 85), (.k (.string (mk [90, 122, 122])))] []⟩, ⟨some 84, none, .q (.mv (.t 86))⟩, ⟨some 87, none, .q (.ex (.t 84) 0)⟩, ⟨some 88, none, .q (.ex (.t 84) 1)⟩, ⟨some 9, none, .e (.al (.agg #[(.string (mk [])), (.slice none 0 0), (.slice none 0 0)]) 47)⟩, ⟨none, none, .e (.st 3 (.t 9) (.t 87))⟩, ⟨some 10, none, .q (.mv (.t 88))⟩]) (pcH9_16)) (.skip))
@[go_sem ↓] theorem foldH9_14 (Γ : Env) (k0 : Nat) (fr : Fr) (H : Hp) (K : Ex → Fr → Hp → Prop) : vc Γ k0 pcH9_14 fr H K = vcn Γ k0 pcH9_14 fr H K ⟨⟩ := rfl
def pcH9_18 : PC := .seq (.seq (.gh (.reg  [⟨some 97, none, .l (.ldn 3 (.t 3))⟩, ⟨some 98, none, .cq 12 [(.t 97)]⟩, ⟨some 99, none, .q (.bin .neq true (.t 98) (.k (.int .i64 0)))⟩, ⟨some 100, none, .q (.mv (.t 99))⟩, ⟨some 101, (some (100, false)), .l (.ldn 3 (.t 6))⟩, ⟨some 102, (some (100, false)), .cq 12 [(.t 101)]⟩, ⟨some 103, (some (100, false)), .q (.bin .neq true (.t 102) (.k (.int .i64 0)))⟩, ⟨some 104, none, .pick (.t 100) (.k (.bool true)) (.t 103)⟩])) (.cond (.t 104) (.seq (.reg  [⟨some 2, none, .q (.mv (.k (.bool false)))⟩]) (.ret)) (.skip))) (.seq (.seq (.reg  [⟨some 11, none, .q (.mv (.k (.int .i64 0)))⟩]) (.block 4 (.loop (.seq (.seq (.reg  [⟨some 105, none, .q (.mv (.t 11))⟩, ⟨some 106, none, .q (.fa 2 (.t 1))⟩, ⟨some 107, none, .l (.ld1 (.t 106))⟩, ⟨some 108, none, .q (.lnL (.t 107))⟩, ⟨some 109, none, .q (.bin .lss true (.t 105) (.t 108))⟩]) (.cond (.t 109) (.skip) (.exit 4))) (.seq (.block 5 (.seq (.reg  [⟨some 112, none, .q (.fa 2 (.t 1))⟩, ⟨some 113, none, .l (.ld1 (.t 112))⟩, ⟨some 114, none, .q (.mv (.t 11))⟩, ⟨some 115, none, .l (.ia 2 (.t 113) (.t 114))⟩, ⟨some 116, none, .q (.fa 0 (.t 115))⟩, ⟨some 117, none, .l (.ld1 (.t 116))⟩, ⟨some 12, none, .q (.mv (.t 117))⟩]) (.seq (.reg  [⟨some 118, none, .l (.ldn 3 (.t 1))⟩, ⟨some 119, none, .q (.mv (.t 12))⟩, ⟨some 120, none, .cq 32 [(.t 118), (.t 119)]⟩, ⟨some 13, none, .q (.mv (.t 120))⟩]) (.seq (.ord  [.q ⟨some 121, none, .l (.ldn 3 (.t 3))⟩, .q ⟨some 122, none, .q (.mv (.t 12))⟩, .q ⟨some 124, none, .q (.mv (.t 13))⟩, .m ⟨some 123, none, .cq 32 [(.t 121), (.t 122)]⟩, .rc ⟨some 124, none, .q (.mv (.t 13))⟩, .q ⟨some 125, none, .q (.bin .neq true (.t 123) (.t 124))⟩, .q ⟨some 126, none, .q (.mv (.t 125))⟩, .q ⟨some 127, (some (126, false)), .l (.ldn 3 (.t 6))⟩, .q ⟨some 128, (some (126, false)), .q (.mv (.t 12))⟩, .q ⟨some 130, (some (126, false)), .q (.mv (.t 13))⟩, .m ⟨some 129, (some (126, false)), .cq 32 [(.t 127), (.t 128)]⟩, .rc ⟨some 130, (some (126, false)), .q (.mv (.t 13))⟩, .q ⟨some 131, (some (126, false)), .q (.bin .neq true (.t 129) (.t 130))⟩, .q ⟨some 132, none, .pick (.t 126) (.k (.bool true)) (.t 131)⟩, .q ⟨some 133, none, .q (.mv (.t 132))⟩, .q ⟨some 134, (some (133, false)), .l (.ldn 3 (.t 3))⟩, .q ⟨some 135, (some (133, false)), .q (.mv (.t 12))⟩, .q ⟨some 137, (some (133, false)), .l (.ldn 3 (.t 1))⟩, .q ⟨some 138, (some (133, false)), .q (.mv (.t 12))⟩, .m ⟨some 136, (some (133, false)), .cq 14 [(.t 134), (.t 135)]⟩, .rc ⟨some 137, (some (133, false)), .l (.ldn 3 (.t 1))⟩, .rc ⟨some 138, (some (133, false)), .q (.mv (.t 12))⟩, .m ⟨some 139, (some (133, false)), .cq 14 [(.t 137), (.t 138)]⟩, .q ⟨some 140, (some (133, false)), .q (.bin .neq true (.t 136) (.t 139))⟩, .q ⟨some 141, none, .pick (.t 133) (.k (.bool true)) (.t 140)⟩, .q ⟨some 142, none, .q (.mv (.t 141))⟩, .q ⟨some 143, (some (142, false)), .l (.ldn 3 (.t 3))⟩, .q ⟨some 144, (some (142, false)), .q (.mv (.t 12))⟩, .q ⟨some 146, (some (142, false)), .l (.ldn 3 (.t 1))⟩, .q ⟨some 147, (some (142, false)), .q (.mv (.t 12))⟩, .m ⟨some 145, (some (142, false)), .cl 17 [(.t 143), (.t 144)] []⟩, .rc ⟨some 146, (some (142, false)), .l (.ldn 3 (.t 1))⟩, .rc ⟨some 147, (some (142, false)), .q (.mv (.t 12))⟩, .m ⟨some 148, (some (142, false)), .cl 17 [(.t 146), (.t 147)] []⟩, .m ⟨some 149, (some (142, false)), .cq 16 [(.t 145), (.t 148)]⟩, .q ⟨some 150, (some (142, false)), .q (.not (.t 149))⟩, .q ⟨some 151, none, .pick (.t 142) (.k (.bool true)) (.t 150)⟩]) (.cond (.t 151) (.seq (.reg  [⟨some 2, none, .q (.mv (.k (.bool false)))⟩]) (.ret)) (.skip)))))) (.reg  [⟨some 110, none, .q (.mv (.t 11))⟩, ⟨some 111, none, .q (.bin .add true (.t 110) (.k (.int .i64 1)))⟩, ⟨some 11, none, .q (.mv (.t 111))⟩])))))) (.seq (.reg  [⟨some 152, none, .cq 11 []⟩, ⟨some 2, none, .q (.mv (.t 152))⟩]) (.ret)))
@[go_sem ↓] theorem foldH9_18 (Γ : Env) (k0 : Nat) (fr : Fr) (H : Hp) (K : Ex → Fr → Hp → Prop) : vc Γ k0 pcH9_18 fr H K = vcn Γ k0 pcH9_18 fr H K ⟨⟩ := rfl
def pcH9_12 : PC := .seq (.gh (.reg  [⟨some 62, none, .q (.fa 1 (.t 1))⟩, ⟨some 63, none, .l (.ld1 (.t 62))⟩, ⟨some 64, none, .q (.fa 2 (.t 3))⟩, ⟨some 65, none, .l (.ld1 (.t 64))⟩, ⟨some 66, none, .q (.bd [(.int .i64 0), (.slice none 0 0), (.slice none 0 0)] [(0, 1, (.k (.int .i64 7))), (1, 1, (.t 63)), (2, 1, (.t 65))])⟩, ⟨some 6, none, .e (.al (.agg #[(.int .i64 0), (.slice none 0 0), (.slice none 0 0)]) 25)⟩, ⟨none, none, .e (.st 3 (.t 6) (.t 66))⟩])) (.seq (.seq (.reg  [⟨some 68, none, .l (.ldn 3 (.t 1))⟩, ⟨some 69, none, .cl 23 [(.t 68), (.k (.string (mk [90, 122, 122])))] []⟩, ⟨some 67, none, .q (.mv (.t 69))⟩, ⟨some 70, none, .q (.ex (.t 67) 0)⟩, ⟨some 71, none, .q (.ex (.t 67) 1)⟩, ⟨some 7, none, .e (.al (.agg #[(.string (mk [])), (.slice none 0 0)]) 32)⟩, ⟨none, none, .e (.st 2 (.t 7) (.t 70))⟩, ⟨some 8, none, .q (.mv (.t 71))⟩]) (pcH9_14)) (pcH9_18))
@[go_sem ↓] theorem foldH9_12 (Γ : Env) (k0 : Nat) (fr : Fr) (H : Hp) (K : Ex → Fr → Hp → Prop) : vc Γ k0 pcH9_12 fr H K = vcn Γ k0 pcH9_12 fr H K ⟨⟩ := rfl
def pcH9_8 : PC := .seq (.seq (.gh (.reg  [⟨some 44, none, .q (.fa 2 (.t 1))⟩, ⟨some 45, none, .l (.ld1 (.t 44))⟩, ⟨some 46, none, .q (.lnL (.t 45))⟩, ⟨some 47, none, .q (.bin .sub true (.t 46) (.k (.int .i64 1)))⟩, ⟨some 5, none, .q (.mv (.t 47))⟩])) (.block 2 (.loop (.seq (.seq (.reg  [⟨some 48, none, .q (.mv (.t 5))⟩, ⟨some 49, none, .q (.bin .geq true (.t 48) (.k (.int .i64 0)))⟩]) (.cond (.t 49) (.skip) (.exit 2))) (.seq (.block 3 (.reg  [⟨some 52, none, .q (.fa 2 (.t 3))⟩, ⟨some 53, none, .l (.ld1 (.t 52))⟩, ⟨some 54, none, .q (.fa 2 (.t 1))⟩, ⟨some 55, none, .l (.ld1 (.t 54))⟩, ⟨some 56, none, .q (.mv (.t 5))⟩, ⟨some 57, none, .l (.ia 2 (.t 55) (.t 56))⟩, ⟨some 58, none, .l (.ldn 2 (.t 57))⟩, ⟨some 59, none, .e (.bsl 32 2 [(.t 58)])⟩, ⟨some 60, none, .e (.ap 32 2 40 (.t 53) (.t 59))⟩, ⟨some 61, none, .q (.fa 2 (.t 3))⟩, ⟨none, none, .e (.st 1 (.t 61) (.t 60))⟩])) (.reg  [⟨some 50, none, .q (.mv (.t 5))⟩, ⟨some 51, none, .q (.bin .sub true (.t 50) (.k (.int .i64 1)))⟩, ⟨some 5, none, .q (.mv (.t 51))⟩])))))) (pcH9_12)
@[go_sem ↓] theorem foldH9_8 (Γ : Env) (k0 : Nat) (fr : Fr) (H : Hp) (K : Ex → Fr → Hp → Prop) : vc Γ k0 pcH9_8 fr H K = vcn Γ k0 pcH9_8 fr H K ⟨⟩ := rfl
def pcH9 : PC := .seq (.reg  [⟨some 1, none, .e (.bx 25 (.t 0))⟩, ⟨some 2, none, .q (.mv (.k (.bool false)))⟩]) (.seq (.seq (.reg  [⟨some 14, none, .l (.ldn 3 (.t 1))⟩, ⟨some 15, none, .cq 10 [(.t 14)]⟩, ⟨some 16, none, .q (.not (.t 15))⟩, ⟨some 17, none, .q (.mv (.t 16))⟩, ⟨some 18, (some (17, false)), .l (.ldn 3 (.t 1))⟩, ⟨some 19, (some (17, false)), .cq 13 [(.t 18)]⟩, ⟨some 20, (some (17, false)), .q (.bin .neq true (.t 19) (.k (.int .i64 0)))⟩, ⟨some 21, none, .pick (.t 17) (.k (.bool true)) (.t 20)⟩]) (.cond (.t 21) (.seq (.reg  [⟨some 22, none, .cq 11 []⟩, ⟨some 2, none, .q (.mv (.t 22))⟩]) (.ret)) (.skip))) (.seq (.reg  [⟨some 23, none, .q (.fa 0 (.t 1))⟩, ⟨some 24, none, .l (.ld1 (.t 23))⟩, ⟨some 25, none, .q (.bd [(.int .i64 0), (.slice none 0 0), (.slice none 0 0)] [(0, 1, (.t 24))])⟩, ⟨some 3, none, .e (.al (.agg #[(.int .i64 0), (.slice none 0 0), (.slice none 0 0)]) 25)⟩, ⟨none, none, .e (.st 3 (.t 3) (.t 25))⟩]) (.seq (.seq (.reg  [⟨some 26, none, .q (.fa 1 (.t 1))⟩, ⟨some 27, none, .l (.ld1 (.t 26))⟩, ⟨some 28, none, .q (.lnL (.t 27))⟩, ⟨some 29, none, .q (.bin .sub true (.t 28) (.k (.int .i64 1)))⟩, ⟨some 4, none, .q (.mv (.t 29))⟩]) (.block 0 (.loop (.seq (.seq (.reg  [⟨some 30, none, .q (.mv (.t 4))⟩, ⟨some 31, none, .q (.bin .geq true (.t 30) (.k (.int .i64 0)))⟩]) (.cond (.t 31) (.skip) (.exit 0))) (.seq (.block 1 (.reg  [⟨some 34, none, .q (.fa 1 (.t 3))⟩, ⟨some 35, none, .l (.ld1 (.t 34))⟩, ⟨some 36, none, .q (.fa 1 (.t 1))⟩, ⟨some 37, none, .l (.ld1 (.t 36))⟩, ⟨some 38, none, .q (.mv (.t 4))⟩, ⟨some 39, none, .l (.ia 3 (.t 37) (.t 38))⟩, ⟨some 40, none, .l (.ldn 3 (.t 39))⟩, ⟨some 41, none, .e (.bsl 47 3 [(.t 40)])⟩, ⟨some 42, none, .e (.ap 47 3 64 (.t 35) (.t 41))⟩, ⟨some 43, none, .q (.fa 1 (.t 3))⟩, ⟨none, none, .e (.st 1 (.t 43) (.t 42))⟩])) (.reg  [⟨some 32, none, .q (.mv (.t 4))⟩, ⟨some 33, none, .q (.bin .sub true (.t 32) (.k (.int .i64 1)))⟩, ⟨some 4, none, .q (.mv (.t 33))⟩])))))) (pcH9_8))))
def rsH9 : List RV := [.mv (.t 2)]
theorem okH9 : trFn Try.prog true ⟨fun r k => if r = 1 ∧ k = 1 then .q else if r = 1 ∧ k = 5 then .q else if r = 2 ∧ k = 0 then .q else if r = 17 ∧ k = 4 then .q else if r = 18 ∧ k = 1 then .q else if r = 18 ∧ k = 5 then .q else if r = 24 ∧ k = 2 then .q else if r = 25 ∧ k = 2 then .q else if r = 25 ∧ k = 8 then .q else if r = 25 ∧ k = 15 then .q else if r = 25 ∧ k = 18 then .q else if r = 25 ∧ k = 28 then .q else if r = 27 ∧ k = 0 then .q else .own [], fun r => [8, 12, 14, 16, 18].contains r⟩ Try.f9 = some (pcH9, rsH9) := by kernel_rfl
end Go.Proofs.Ytpfmkfafagiicaa
namespace Go.Proofs.Ytpfmkfafagiicaa
open Go.W
noncomputable abbrev orE : Env := [(10, .f (gFn isSc C.sc fun s => .bool (fewS s))), (11, .f awFn), (12, .f ckFn), (13, .f ckFn), (23, .s stSpP), (25, .s enSpP), (32, .f dgFn), (14, .f dpFn), (17, .s usSpP), (16, .f nsFn)]
theorem orMeets : MeetsAll Try.prog orE := meetsAll_f mFew (meetsAll_f mAwake (meetsAll_f mCheck (meetsAll_f mRCheck (meetsAll_s mRStruct (meetsAll_s mREnum (meetsAll_f mDigest (meetsAll_f mDepthP (meetsAll_s mUsesP (meetsAll_f mNames (meetsAll_nil _))))))))))
set_option maxRecDepth 100000 in
set_option maxHeartbeats 4000000 in
theorem orTail {s T M : Sc} (hfit : s.fit) (hf : fewS s = true) (kT : T.fit) (fT : fewS T = true) (kM : M.fit) (fM : fewS M = true) (cT : checkF T = 0) (cM : checkF M = 0)
    (same : ∀ t ∈ s.ss, (dgF T t.nm = dgF s t.nm ∧ dpF T t.nm = dpF s t.nm ∧ usL T t.nm = usL s t.nm) ∧ dgF M t.nm = dgF s t.nm) {K : Ex → Fr → Hp → Prop} (hK : ∀ fr H, fr 2 = bS true → K .r fr H) :
    vc orE 0 pcH9_18.ungh (puts [(1, .va (.c1 (.pt 0 0))), (3, .va (.c1 (.pt 1 0))), (6, .va (.c1 (.pt 2 0)))]) [.cells (scC s) 25, .cells (scC T) 25, .cells (scC M) 25] K := by
  have hle := hfit.ok.le
  have hls := hfit.ok.ls
  have fTi := isScF_mk kT
  have fMi := isScF_mk kM
  have hsf := isScF_mk hfit
  have dT := sc_dec T
  have dM := sc_dec M
  have hdec := sc_dec s
  have wT := isScW_mk kT fT
  have wM := isScW_mk kM fM
  have wS := isScW_mk hfit hf
  rw [scC] at fTi fMi dT dM wT wM wS hsf hdec
  have n1 : (checkF T != 0) = false := by simp [cT]
  have n2 : (checkF M != 0) = false := by simp [cM]
  simp (maxSteps := 1000000) -dsimp only [go_sem, scC, pcH9_18, fTi, fMi, dT, dM, n1, n2]
  refine vc_loop (α := Nat) (fun i => [(1, .va (.c1 (.pt 0 0))), (3, .va (.c1 (.pt 1 0))), (6, .va (.c1 (.pt 2 0))), (11, iS .i64 i)]) (fun _ => [.cells (scC s) 25, .cells (scC T) 25, .cells (scC M) 25]) (fun i => i ≤ s.ss.length) (fun i => s.ss.length - i) 0 3 (Nat.zero_le _) ?_ ?_ ?_
  · simp -dsimp only [go_sem] <;> simp
  · simp -dsimp only [go_sem, scC] <;> simp
  intro i hi
  rcases Nat.lt_or_ge i s.ss.length with hlt | hge
  · have hg : decide ((i : Int) < (s.ss.length : Int)) = true := by simp; omega
    obtain ⟨t, hx⟩ : ∃ e, s.ss[i]? = some e := ⟨_, List.getElem?_eq_getElem hlt⟩
    have q1 := row_rg' (row := stC) hx
    obtain ⟨⟨s1, s2, s3⟩, s4⟩ := same t (List.mem_of_getElem? hx)
    have d1 : (dgF s t.nm != dgF s t.nm) = false := by simp
    have d2 : (dpF s t.nm != dpF s t.nm) = false := by simp
    have d3 : decide (usL T t.nm = usL s t.nm) = true := by simp [s3]
    have u1 := usL_bs hfit t.nm
    have u2 := usL_bs kT t.nm
    simp (maxSteps := 1000000) -dsimp only [go_sem, hg, ↓q1, scC, stC, wS, wT, wM, hdec, dT, dM, s1, s2, s4, d1, d2, hsf, fTi]
    refine ⟨by omega, usp_use kT ?_⟩
    simp (maxSteps := 1000000) -dsimp only [go_sem]
    refine usp_use hfit ?_
    simp (maxSteps := 1000000) -dsimp only [go_sem, u1, u2, d3]
    refine ⟨by omega, loop_next (i + 1) 3 (by show i + 1 ≤ _; omega) (by omega) ?_ ?_⟩
    · simp -dsimp only [go_sem] <;> simp
    · simp -dsimp only [go_sem, scC] <;> simp
  · have hg : decide ((i : Int) < (s.ss.length : Int)) = false := by simp; omega
    simp (maxSteps := 1000000) -dsimp only [go_sem, hg, scC]
    exact hK _ _ rfl
end Go.Proofs.Ytpfmkfafagiicaa
namespace Go.Proofs.Ytpfmkfafagiicaa
open Go.W
theorem scC_ss (t : St) : ∀ c ∈ stC t, c.shut = true ∧ c.one := by simp [stC, go_sem, C.shut]
theorem enC_ss (t : En) : ∀ c ∈ enC t, c.shut = true ∧ c.one := by simp [enC, go_sem, C.shut]
theorem drop_rev {α : Type} {l : List α} {k : Nat} {x : α} (h : l[k]? = some x) : (l.drop k).reverse = (l.drop (k + 1)).reverse ++ [x] := by
  obtain ⟨h1, rfl⟩ := List.getElem?_eq_some_iff.1 h
  rw [List.drop_eq_getElem_cons h1, List.reverse_cons]
set_option maxRecDepth 100000 in
set_option maxHeartbeats 4000000 in
theorem mLawOrder : Meets Try.prog 9 lawFn.sp := by
  refine meets_fn Try.func9 okH9 1 (by rw [Try.ntmps9]; decide) orMeets gFn_len ?_
  rintro av H K ⟨⟨h, rfl⟩, hK⟩
  obtain ⟨_, rfl, s, rfl, hs⟩ := gPre_open h
  replace hK : K (bS true) [] := hK
  clear h
  have fin : ∀ R : Hp, W.Fin 0 K (bS true) R := fun R => .sel [] (by simp) (by simp) rfl (.done (by simpa [go_sem] using hK))
  have hsc : isSc (scC s) := isSc_mk hs
  have hdec := sc_dec s
  rw [scC] at hsc hdec
  cases hf : fewS s with
  | false =>
    simp (maxSteps := 1000000) -dsimp only [go_sem, scC, pcH9, rsH9, hsc, hdec, hf]
    exact fin _
  | true =>
  have hfit := few_fit hs hf
  have hsf := isScF_mk hfit
  rw [scC] at hsf
  by_cases h0 : checkF s = 0
  rotate_left
  · have e1 : (checkF s != 0) = true := by simpa using h0
    simp (maxSteps := 1000000) -dsimp only [go_sem, scC, pcH9, rsH9, hsc, hdec, hf, hsf, e1]
    exact fin _
  have e1 : (checkF s != 0) = false := by simp [h0]
  have hle := hfit.ok.le
  have hls := hfit.ok.ls
  obtain ⟨g, _, _, _, hlg, hv1, hv2, _⟩ := check_good hfit h0
  obtain ⟨_, hl16, _⟩ := large_false hlg
  have gn := g.n
  have gm := g.m
  simp (maxSteps := 1000000) -dsimp only [go_sem, scC, pcH9, rsH9, hsc, hdec, hf, hsf, e1]
  refine ⟨by omega, ?_⟩
  refine vc_loop_gh (α := Nat) (fun m => [(1, .va (.c1 (.pt 0 0))), (3, .va (.c1 (.pt 1 0))), (4, iS .i64 ((m : Int) - 1))]) (fun m => [.cells (scC s) 25, .cells [.vl (.int .i64 s.ver), .sl 2 (s.es.length - m), .vl (.slice none 0 0)] 25, .row ((s.es.drop m).reverse.map enC) 47 3])
    (fun m => m ≤ s.es.length) (fun m => m) (.nilc 1 1 47 3 [.vl (.int .i64 s.ver), .vl (.slice none 0 0), .vl (.slice none 0 0)] 25 rfl rfl (gh_at s.es.length 3 (Nat.le_refl _) ?_ ?_)) ?_
  · simp -dsimp only [go_sem] <;> simp
  · simp -dsimp only [go_sem, scC] <;> simp
  intro m hm
  cases m with
  | succ k =>
    have hg : decide (0 ≤ (k : Int)) = true := by simp
    have e2 : ((k + 1 : Nat) : Int) - 1 = (k : Int) := by omega
    obtain ⟨u, hx⟩ : ∃ e, s.es[k]? = some e := ⟨_, List.getElem?_eq_getElem hm⟩
    have q1 := row_rg' (row := enC) hx
    have hz : (s.es.drop (k + 1)).length = s.es.length - (k + 1) := by simp
    simp (maxSteps := 1000000) -dsimp only [go_sem, e2, hg, ↓q1, scC, enC_len]
    have e3 : s.es.length - (k + 1) + 1 = s.es.length - k := by omega
    refine ⟨⟨by omega, by omega⟩, ⟨rfl, fun c hc => enC_ss u c (by simpa [enC] using hc)⟩, fun c hc => enC_ss u c (by simpa [enC] using hc), by simp, by omega, by omega, loop_next k 3 (by show k ≤ _; omega) (by show k < k + 1; omega) ?_ ?_⟩
    · simp -dsimp only [go_sem] <;> simp
    · simp -dsimp only [go_sem, scC, drop_rev hx, e3] <;> simp [enC]
  | zero =>
    have hg : decide (0 ≤ ((0 : Nat) : Int) - 1) = false := by decide
    simp (maxSteps := 1000000) -dsimp only [go_sem, hg, scC]
    refine vc_tail (up := [(1, .va (.c1 (.pt 0 0))), (3, .va (.c1 (.pt 1 0)))]) (Hs := [.cells (scC s) 25, .cells [.vl (.int .i64 s.ver), .sl 2 s.es.length, .vl (.slice none 0 0)] 25, .row (s.es.reverse.map enC) 47 3]) 3 ?_ ?_ ?_
    rotate_left
    · simp -dsimp only [go_sem] <;> simp
    · simp -dsimp only [go_sem, scC] <;> simp
    simp (maxSteps := 1000000) -dsimp only [go_sem, scC, pcH9_8]
    refine ⟨by omega, ?_⟩
    refine vc_loop_gh (α := Nat) (fun m => [(1, .va (.c1 (.pt 0 0))), (3, .va (.c1 (.pt 1 0))), (5, iS .i64 ((m : Int) - 1))]) (fun m => [.cells (scC s) 25, .cells [.vl (.int .i64 s.ver), .sl 2 s.es.length, .sl 3 (s.ss.length - m)] 25, .row (s.es.reverse.map enC) 47 3, .row ((s.ss.drop m).reverse.map stC) 32 2])
      (fun m => m ≤ s.ss.length) (fun m => m) (.nilc 1 2 32 2 [.vl (.int .i64 s.ver), .sl 2 s.es.length, .vl (.slice none 0 0)] 25 rfl rfl (gh_at s.ss.length 4 (Nat.le_refl _) ?_ ?_)) ?_
    · simp -dsimp only [go_sem] <;> simp
    · simp -dsimp only [go_sem, scC] <;> simp
    intro m hm
    cases m with
    | succ k =>
      have hg : decide (0 ≤ (k : Int)) = true := by simp
      have e2 : ((k + 1 : Nat) : Int) - 1 = (k : Int) := by omega
      obtain ⟨u, hx⟩ : ∃ e, s.ss[k]? = some e := ⟨_, List.getElem?_eq_getElem hm⟩
      have q1 := row_rg' (row := stC) hx
      have e3 : s.ss.length - (k + 1) + 1 = s.ss.length - k := by omega
      simp (maxSteps := 1000000) -dsimp only [go_sem, e2, hg, ↓q1, scC, stC_len]
      refine ⟨⟨by omega, by omega⟩, ⟨rfl, fun c hc => scC_ss u c (by simpa [stC] using hc)⟩, fun c hc => scC_ss u c (by simpa [stC] using hc), by simp, by omega, by omega, loop_next k 4 (by show k ≤ _; omega) (by show k < k + 1; omega) ?_ ?_⟩
      · simp -dsimp only [go_sem] <;> simp
      · simp -dsimp only [go_sem, scC, drop_rev hx, e3] <;> simp [stC]
    | zero =>
      have hg : decide (0 ≤ ((0 : Nat) : Int) - 1) = false := by decide
      simp (maxSteps := 1000000) -dsimp only [go_sem, hg, scC]
      refine vc_head rfl (.pub 2 _ _ _ rfl (gh_tail [0, 1, 3] (up := [(1, .va (.c1 (.pt 0 0))), (3, .va (.c1 (.pt 1 0)))]) (Hs := [.cells (scC s) 25, .cells [.vl (.int .i64 s.ver), .fz (s.es.reverse.map enC), .sl 2 s.ss.length] 25, .row (s.ss.reverse.map stC) 32 2]) ?_ (by decide) (by simp [pubH]) rfl ?_ ?_))
      rotate_left
      · simp -dsimp only [go_sem] <;> simp
      · simp -dsimp only [go_sem, scC, pubH] <;> simp <;> rfl
      simp (maxSteps := 1000000) -dsimp only [go_sem, scC, pcH9_12]
      refine stp_use hfit ?_
      obtain ⟨z, hz⟩ : ∃ z, (fS s.ss (mk [90, 122, 122])).getD default = z := ⟨_, rfl⟩
      rw [hz]
      simp (maxSteps := 1000000) -dsimp only [go_sem, stC]
      refine vc_tail (up := [(1, .va (.c1 (.pt 0 0))), (3, .va (.c1 (.pt 1 0))), (6, .va (.c1 (.pt 3 0))), (8, bS (hasS s.ss zzz))]) (Hs := [.cells (scC s) 25, .cells [.vl (.int .i64 s.ver), .fz (s.es.reverse.map enC), .sl 2 s.ss.length] 25, .row (s.ss.reverse.map stC) 32 2, .cells [.vl (.int .i64 7), .fz (s.es.map enC), .sl 2 s.ss.length] 25]) 4 ?_ ?_ ?_
      rotate_left
      · simp -dsimp only [go_sem, zzz] <;> simp
      · simp -dsimp only [go_sem, scC] <;> simp
      have xT := sim_tn hfit h0
      have fT := few_tn hf
      have kT := few_fit (ok_tn hs) fT
      have cT := xT.check hfit h0 ⟨hv1, hv2⟩ (large_tn hlg)
      have last0 : vc orE 0 pcH9_18.ungh (puts [(1, .va (.c1 (.pt 0 0))), (3, .va (.c1 (.pt 1 0))), (6, .va (.c1 (.pt 2 0)))]) [.cells (scC s) 25, .cells (scC (tnS s)) 25, .cells (scC (moS s [])) 25] (retK 0 [RV.mv (O.t 2)] K) := by
        have xM := sim_mo hfit h0
        have fM : fewS (moS s []) = true := few_mo hf rfl (by simp; omega)
        have kM := few_fit (ok_mo hs (l := []) (fun _ h => by cases h) (by simp; omega)) fM
        have cM := xM.check hfit h0 ⟨by show (1 : Int) ≤ 7; omega, by show (7 : Int) ≤ 999; omega⟩ (large_mo hlg (fun _ h => by cases h) (by simp; omega))
        refine orTail hfit hf kT fT kM fM cT cM (fun t ht => ⟨xT.same hfit h0 cT ht, (xM.same hfit h0 cM ht).1⟩) ?_
        intro fr' H' hr
        simp (maxSteps := 1000000) -dsimp only [go_sem, hr]
        exact fin _
      cases hzs : hasS s.ss zzz with
      | true =>
        simp (maxSteps := 1000000) -dsimp only [go_sem, scC, pcH9_14]
        refine vc_head rfl (.pub 2 _ _ _ rfl (gh_tail [0, 1, 3] last0 (by decide) (by simp [pubH]) rfl ?_ ?_))
        · simp -dsimp only [go_sem] <;> simp
        · simp -dsimp only [go_sem, scC, pubH, tnS, moS, List.append_nil] <;> simp <;> and_intros <;> rfl
      | false =>
        simp (maxSteps := 1000000) -dsimp only [go_sem, scC, pcH9_14]
        refine ⟨⟨by omega, by omega⟩, fun h16 => enp_use hfit ?_, fun _ => ?_⟩
        rotate_left
        · refine vc_head rfl (.pub 2 _ _ _ rfl (gh_tail [0, 1, 3] last0 (by decide) (by simp [pubH]) rfl ?_ ?_))
          · simp -dsimp only [go_sem] <;> simp
          · simp -dsimp only [go_sem, scC, pubH, tnS, moS, List.append_nil] <;> simp <;> and_intros <;> rfl
        obtain ⟨y, hy⟩ : ∃ y, (fEn s.es (mk [90, 122, 122])).getD default = y := ⟨_, rfl⟩
        rw [hy]
        simp (maxSteps := 1000000) -dsimp only [go_sem, enC]
        refine vc_tail (up := [(1, .va (.c1 (.pt 0 0))), (3, .va (.c1 (.pt 1 0))), (6, .va (.c1 (.pt 3 0))), (10, bS (hasE s.es zzz))]) (Hs := [.cells (scC s) 25, .cells [.vl (.int .i64 s.ver), .fz (s.es.reverse.map enC), .sl 2 s.ss.length] 25, .row (s.ss.reverse.map stC) 32 2, .cells [.vl (.int .i64 7), .fz (s.es.map enC), .sl 2 s.ss.length] 25]) 4 ?_ ?_ ?_
        rotate_left
        · simp -dsimp only [go_sem, zzz] <;> simp
        · simp -dsimp only [go_sem, scC] <;> simp
        cases hze : hasE s.es zzz with
        | true =>
          simp (maxSteps := 1000000) -dsimp only [go_sem, scC, pcH9_16]
          refine vc_head rfl (.pub 2 _ _ _ rfl (gh_tail [0, 1, 3] last0 (by decide) (by simp [pubH]) rfl ?_ ?_))
          · simp -dsimp only [go_sem] <;> simp
          · simp -dsimp only [go_sem, scC, pubH, tnS, moS, List.append_nil] <;> simp <;> and_intros <;> rfl
        | false =>
          have hlt : s.es.length + s.ss.length + 1 ≤ 16 := by simp at h16; omega
          have zo : ∀ t ∈ ([⟨zzz, []⟩] : List St), t.ok := fun t ht => by
            simp only [List.mem_singleton] at ht
            subst ht
            exact ⟨by show zzz.size ≤ _; decide, by simp, by simp⟩
          have xM := sim_mz hfit h0 hzs hze
          have fM : fewS (moS s [⟨zzz, []⟩]) = true := few_mo hf rfl (by simp; omega)
          have kM := few_fit (ok_mo hs (l := [⟨zzz, []⟩]) zo (by simp; omega)) fM
          have cM := xM.check hfit h0 ⟨by show (1 : Int) ≤ 7; omega, by show (7 : Int) ≤ 999; omega⟩ (large_mo hlg (l := [⟨zzz, []⟩]) (by simp) (by simp; omega))
          simp (maxSteps := 1000000) -dsimp only [go_sem, scC, pubH, pcH9_16]
          have lastZ : vc orE 0 pcH9_18.ungh (puts [(1, .va (.c1 (.pt 0 0))), (3, .va (.c1 (.pt 1 0))), (6, .va (.c1 (.pt 2 0)))]) [.cells (scC s) 25, .cells (scC (tnS s)) 25, .cells (scC (moS s [⟨zzz, []⟩])) 25] (retK 0 [RV.mv (O.t 2)] K) := by
            refine orTail hfit hf kT fT kM fM cT cM (fun t ht => ⟨xT.same hfit h0 cT ht, (xM.same hfit h0 cM ht).1⟩) ?_
            intro fr' H' hr
            simp (maxSteps := 1000000) -dsimp only [go_sem, hr]
            exact fin _
          refine ⟨by simp, by omega, vc_head rfl (gh_tail [0, 1, 3] lastZ (by decide) (by simp) rfl ?_ ?_)⟩
          · simp -dsimp only [go_sem] <;> simp
          · simp -dsimp only [go_sem, scC, tnS, moS, stC, zzz] <;> simp <;> and_intros <;> rfl
end Go.Proofs.Ytpfmkfafagiicaa
