/- plain, Same, and the chapter's examples. -/
import Derived.Test.YtngmjggconefcaaLivJ
import Derived.Test.YtngmjggconefcaaPc
namespace Go.Proofs.Ytngmjggconefcaa
open Go.W
deriving instance DecidableEq for Chg
def isCh (rs : List (List C)) : Prop := ∃ l : List Chg, rs = l.map chC ∧ l.length ≤ 600000
theorem isCh_mk {l : List Chg} (h : l.length ≤ 600000) : isCh (l.map chC) := ⟨l, rfl, h⟩
def plnSp : W.Spec := fun av H K =>
  match av, H with
  | [.va (.c1 (.fz rs))], [] => isCh rs ∧ K (.va (.c1 (.fz rs))) []
  | _, _ => False
theorem plnSp_open {av : List S} {H : Hp} {K : S → Hp → Prop} (h : plnSp av H K) : ∃ l : List Chg, av = [.va (.c1 (.fz (l.map chC)))] ∧ H = [] ∧ l.length ≤ 600000 ∧ K (.va (.c1 (.fz (l.map chC)))) [] := by
  unfold plnSp at h
  split at h
  · obtain ⟨⟨l, rfl, h1⟩, hK⟩ := h
    exact ⟨l, rfl, rfl, h1, hK⟩
  · exact h.elim
attribute [go_sem ↓] plnSp
set_option maxRecDepth 100000 in
theorem mPlain : Meets Try.prog 14 plnSp := by
  refine meets_fn Try.func14 ok14 1 (by rw [Try.ntmps14]; decide) (meetsAll_nil _) (fun av H K h => by obtain ⟨_, rfl, _⟩ := plnSp_open h; rfl) ?_
  intro av H K h
  obtain ⟨l, rfl, rfl, hl, hK⟩ := plnSp_open h
  simp -dsimp only [go_sem, pc14, rs14]
  refine vc_loop_gh (α := Nat) (fun i => [(0, .va (.c1 (.fz (l.map chC)))), (3, .va (.c1 (.sl 0 i))), (4, iS .i64 i)]) (fun i => [.row ((l.take i).map chC) 31 3]) (fun i => i ≤ l.length) (fun i => l.length - i) (.nil 3 31 3 rfl (gh_at 0 1 (by omega) ?_ ?_)) ?_
  · simp [go_sem]
  · simp [go_sem]
  intro i hi
  rcases Nat.lt_or_ge i l.length with hlt | hge
  · obtain ⟨c, hc⟩ : ∃ c, l[i]? = some c := ⟨_, List.getElem?_eq_getElem hlt⟩
    have q1 := rg_at (row := chC) hc
    have q2 := rg_at' (row := chC) hc
    have hg : decide ((i : Int) < (l.length : Int)) = true := by simp; omega
    simp -dsimp only [go_sem, hg, ↓q1, ↓q2]
    have hz : (l.take i).length = i := by rw [List.length_take]; omega
    refine ⟨⟨by omega, by omega⟩, ⟨by omega, by omega⟩, ⟨by omega, by omega⟩, hz, by omega, by omega, loop_next (i + 1) 1 (by omega) (by omega) ?_ ?_⟩
    · simp [go_sem]
    · simp [go_sem, List.take_add_one, hc]
  · have hg : decide ((i : Int) < (l.length : Int)) = false := by simp; omega
    obtain rfl : i = l.length := by omega
    simp -dsimp only [go_sem, hg]
    refine .pub 0 _ _ _ rfl (.sel [] (by simp) (by simp [pubH]) rfl (.done ?_))
    simpa [go_sem] using hK
def samF (av : List S) : Prop := match av with
  | [.va (.c1 (.fz x)), .va (.c1 (.fz y))] => isCh x ∧ isCh y
  | _ => False
theorem samF_open {av : List S} (h : samF av) : ∃ l m : List Chg, av = [.va (.c1 (.fz (l.map chC))), .va (.c1 (.fz (m.map chC)))] ∧ l.length ≤ 600000 ∧ m.length ≤ 600000 := by
  unfold samF at h
  split at h
  · obtain ⟨⟨l, rfl, h1⟩, ⟨m, rfl, h2⟩⟩ := h; exact ⟨l, m, rfl, h1, h2⟩
  · exact h.elim
def eqL (l m : List Chg) : Bool := decide (l = m)
def samV (av : List S) : A := match av with
  | [.va (.c1 (.fz x)), .va (.c1 (.fz y))] => bA (eqL (x.map C.chg) (y.map C.chg))
  | _ => bA false
def samFn : Fun := ⟨samF, samV, fun xs h => by obtain ⟨l, m, rfl, _⟩ := samF_open h; trivial⟩
theorem samFn_len : ∀ xs H K, samFn.sp xs H K → xs.length = 2 := fun xs H K h => by obtain ⟨l, m, rfl, _⟩ := samF_open h.1.1; rfl
attribute [go_sem] samFn samF samV
theorem eqL_ne {l m : List Chg} (h : l.length ≠ m.length) : eqL l m = false := by unfold eqL; simp; rintro rfl; exact h rfl
theorem eqL_at {l m : List Chg} {i : Nat} {c d : Chg} (h1 : l[i]? = some c) (h2 : m[i]? = some d) (h : c ≠ d) : eqL l m = false := by
  unfold eqL; simp; rintro rfl; rw [h1] at h2; exact h (Option.some.inj h2)
set_option maxRecDepth 100000 in
theorem mSame : Meets Try.prog 13 samFn.sp := by
  refine meets_fn Try.func13 ok13 2 (by rw [Try.ntmps13]; decide) (meetsAll_nil _) samFn_len ?_
  rintro xs H K ⟨⟨h, rfl⟩, hK⟩
  obtain ⟨l, m, rfl, hl, hm⟩ := samF_open h
  simp -dsimp only [go_sem, pc13, rs13] at hK ⊢
  refine ⟨fun h => ?_, fun h => ?_⟩
  · rw [eqL_ne (by simp at h; omega)] at hK
    exact .done hK
  have hlm : l.length = m.length := by simp at h; omega
  refine vc_loop (α := Nat) (fun i => [(0, .va (.c1 (.fz (l.map chC)))), (1, .va (.c1 (.fz (m.map chC)))), (5, iS .i64 i)]) (fun i => []) (fun i => i ≤ l.length ∧ l.take i = m.take i) (fun i => l.length - i) 0 0 (by simp) ?_ ?_ ?_
  · simp -dsimp only [go_sem]; simp
  · simp [go_sem]
  rintro i ⟨hi, ht⟩
  simp -dsimp only [go_sem]
  refine ⟨fun h1 => ⟨⟨by omega, by simpa using h1⟩, fun c hc => ⟨⟨by omega, by simp at h1; omega⟩, fun d hd => ⟨fun h2 => ?_, fun h2 => ⟨by simp at h1; omega, ?_⟩⟩⟩⟩, fun h1 => ?_⟩
  · rw [eqL_at hc hd (by rintro rfl; simp at h2)] at hK
    exact .done hK
  · have hcd : c = d := by
      obtain ⟨c1, c2, c3⟩ := c; obtain ⟨d1, d2, d3⟩ := d
      simpa using h2
    subst hcd
    refine loop_next (i + 1) 0 ⟨by simp at h1; omega, by rw [List.take_add_one, List.take_add_one, hc, hd, ht]⟩ (by simp at h1; omega) ?_ ?_
    · simp -dsimp only [go_sem]; simp
    · simp [go_sem]
  · have hil : i = l.length := by simp at h1; omega
    subst hil
    have : l = m := by rw [List.take_length, hlm, List.take_length] at ht; exact ht
    subst this
    have he : eqL l l = true := by unfold eqL; simp
    rw [he] at hK
    exact .done hK
/-! ### The examples -/
def nilFn (v : A) (h : v.flat) : Fun := ⟨fun av => av = [], fun _ => v, fun _ _ => h⟩
instance (x : Lz) : Decidable x.ok := by unfold Lz.ok; infer_instance
theorem fit_of (s : Ls) (h : s.all.length ≤ 900 ∧ s.pend.length ≤ 400000 ∧ (∀ x ∈ s.all, x.ok) ∧ 0 ≤ s.now) : s.fit := ⟨h.1, h.2.1, h.2.2.1, h.2.2.2⟩
attribute [go_sem] nilFn
set_option maxRecDepth 100000 in
theorem mAwake : Meets Try.prog 8 (nilFn (bA true) trivial).sp := by
  refine meets_fn Try.func8 ok8 0 (by rw [Try.ntmps8]; decide) (meetsAll_s mNew (meetsAll_s mAdd (meetsAll_s mAssert (meetsAll_s mNextL (meetsAll_s mCheck (meetsAll_s mPlain (meetsAll_s mAlive (meetsAll_f mSame (meetsAll_nil _)))))))) ) (fun av H K h => by rw [h.1.1]; rfl) ?_
  rintro av H K ⟨⟨rfl, rfl⟩, hK⟩
  obtain ⟨s1, h1⟩ : ∃ s, s = addL Ls.empty 1 100 0 := ⟨_, rfl⟩
  obtain ⟨s2, h2⟩ : ∃ s, s = asrL s1 1 100 := ⟨_, rfl⟩
  obtain ⟨s3, h3⟩ : ∃ s, s = Ls.mk 199 (s2.mv 199 (199 + 1)).all [] := ⟨_, rfl⟩
  obtain ⟨s4, h4⟩ : ∃ s, s = Ls.mk 200 (s3.mv 200 (200 + 1)).all [] := ⟨_, rfl⟩
  obtain ⟨s5, h5⟩ : ∃ s, s = asrL s4 1 250 := ⟨_, rfl⟩
  obtain ⟨s6, h6⟩ : ∃ s, s = Ls.mk 260 (s5.mv 260 (260 + 1)).all [] := ⟨_, rfl⟩
  have c1 : chkB s2 199 = false := by subst h2 h1; decide
  have c2 : chkB s3 200 = false := by subst h3 h2 h1; decide
  have c3 : chkB s5 260 = false := by subst h5 h4 h3 h2 h1; decide
  have d1 : addE Ls.empty 1 100 0 = 0 := by decide
  have d2 : asrE s1 1 100 = 0 := by subst h1; decide
  have d3 : nxtL s2.all (0, false) = (200, true) := by subst h2 h1; decide
  have d4 : srt ltC (s2.mv 199 (199 + 1)).pend = [] := by subst h2 h1; decide
  have d5 : srt ltC (s3.mv 200 (200 + 1)).pend = [⟨1, 200, false⟩] := by subst h3 h2 h1; decide
  have d6 : alvB s4 1 = false := by subst h4 h3 h2 h1; decide
  have d7 : asrE s4 1 250 = 0 := by subst h4 h3 h2 h1; decide
  have d8 : srt ltC (s5.mv 260 (260 + 1)).pend = [⟨1, 250, true⟩] := by subst h5 h4 h3 h2 h1; decide
  have d9 : alvB s6 1 = true := by subst h6 h5 h4 h3 h2 h1; decide
  have d10 : addE s6 2 10 255 = 17 := by subst h6 h5 h4 h3 h2 h1; decide
  have f1 : s1.fit := fit_of _ (by subst h1; decide)
  have f2 : s2.fit := fit_of _ (by subst h2 h1; decide)
  have f3 : s3.fit := fit_of _ (by subst h3 h2 h1; decide)
  have f4 : s4.fit := fit_of _ (by subst h4 h3 h2 h1; decide)
  have f5 : s5.fit := fit_of _ (by subst h5 h4 h3 h2 h1; decide)
  have f6 : s6.fit := fit_of _ (by subst h6 h5 h4 h3 h2 h1; decide)
  have z0 : ((((0 : Nat) : Int) == 0)) = true := rfl
  have y0 : isCh [] := isCh_mk (l := []) (by decide)
  have y1 : isCh [chC ⟨1, 200, false⟩] := isCh_mk (l := [⟨1, 200, false⟩]) (by decide)
  have y2 : isCh [chC ⟨1, 250, true⟩] := isCh_mk (l := [⟨1, 250, true⟩]) (by decide)
  have g0 : isFit Ls.empty.now (Ls.empty.all.map lzC) (Ls.empty.pend.map chC) Ls.empty.all.length Ls.empty.pend.length := isFit_mk (fit_of _ (by decide))
  have g1 := isFit_mk f1
  have g2 := isFit_mk f2
  have g5 := isFit_mk f5
  have g3 : isFit 199 ((s2.mv 199 (199 + 1)).all.map lzC) [] s2.all.length 0 := ⟨s3, by rw [h3], by rw [h3], by rw [h3]; rfl, by rw [h3]; simp [Ls.mv], by rw [h3]; rfl, f3⟩
  have g4 : isFit 200 ((s3.mv 200 (200 + 1)).all.map lzC) [] s2.all.length 0 := ⟨s4, by rw [h4], by rw [h4], by rw [h4]; rfl, by rw [h4, h3]; simp [Ls.mv], by rw [h4]; rfl, f4⟩
  have e1 : eqL [C.chg (chC ⟨1, 200, false⟩)] [C.chg [.vl (.int .i64 1), .vl (.int .i64 200), .vl (.bool false)]] = true := by decide
  have e2 : eqL [C.chg (chC ⟨1, 250, true⟩)] [C.chg [.vl (.int .i64 1), .vl (.int .i64 250), .vl (.bool true)]] = true := by decide
  have g6 : isFit 260 ((s5.mv 260 (260 + 1)).all.map lzC) [] s5.all.length 0 := ⟨s6, by rw [h6], by rw [h6], by rw [h6]; rfl, by rw [h6]; simp [Ls.mv], by rw [h6]; rfl, f6⟩
  simp -dsimp only [go_sem, pc8, rs8, ← h1, ← h2, ← h3, ← h4, ← h5, ← h6, c1, c2, c3, d1, d2, d3, d4, d5, d6, d7, d8, d9, d10, z0, y0, y1, y2, g0, g1, g2, g3, g4, g5, g6, e1, e2] at hK ⊢
  exact .sel [] (by simp) (by simp) rfl (.done hK)
end Go.Proofs.Ytngmjggconefcaa
