/- Proved: roboticslaw53.AuditGoals returns true at every list of goals, and changes nothing that stood before. Conditions: none beyond the given statement. -/
import Derived.Test.YtdnohfhpbhlpaaaGod
import Derived.Test.YtdnohfhpbhlpaaaRows
import Derived.WalkKit
import Derived.ProofKit
import Derived.OpenShut
import Derived.Lib.SmallJoins
namespace Go.Proofs.Ytdnohfhpbhlpaaa.goals
open Go.ChangeShapes Go.ChangeMaps Go.WideShapes Go.ChangeAt Go.RowKit Go.W
theorem own : ownKnob Try.prog.godebug = none := by kernel_rfl
theorem laid : laidOutB Try.prog = true := by kernel_rfl
theorem rowed : mapsRowed Try.prog = true := by kernel_rfl
theorem room : slicesRoom Try.prog = true := by kernel_rfl
theorem u3 : Try.prog.underlying 3 = some (.int .i64) := by kernel_rfl
theorem u88 : Try.prog.underlying 88 = some (.struct #[⟨"Client", 3, 0, false, "", "", 0⟩, ⟨"Number", 3, 1, false, "", "", 8⟩]) := by kernel_rfl
theorem u9 : Try.prog.underlying 9 = some (.string) := by kernel_rfl
theorem u90 : Try.prog.underlying 90 = some (.struct #[⟨"Id", 88, 0, false, "", "", 0⟩, ⟨"State", 3, 2, false, "", "", 16⟩, ⟨"At", 3, 3, false, "", "", 24⟩, ⟨"Ended", 3, 4, false, "", "", 32⟩, ⟨"Request", 9, 5, false, "", "", 40⟩, ⟨"Result", 9, 6, false, "", "", 56⟩]) := by kernel_rfl
theorem u55 : Try.prog.underlying 55 = some (.slice 90) := by kernel_rfl
theorem tys : tysOk Try.prog [55, 90, 88, 3, 9] = true := by kernel_rfl
theorem fit90 (cs : List C) (h : Fit Try.prog 90 cs) : ∃ a : Gl, cs = glC a ∧ True := by
  obtain ⟨p1, rfl, l1, f1⟩ := Fit.inv_st u90 h
  obtain ⟨p1_0, p1_1, p1_2, p1_3, p1_4, p1_5, rfl⟩ : ∃ p1_0 p1_1 p1_2 p1_3 p1_4 p1_5 : List C, p1 = [p1_0, p1_1, p1_2, p1_3, p1_4, p1_5] := by
    match p1, l1 with
    | [z0, z1, z2, z3, z4, z5], _ => exact ⟨z0, z1, z2, z3, z4, z5, rfl⟩
  have h1_0 := f1 0 _ p1_0 rfl rfl
  have h1_1 := f1 1 _ p1_1 rfl rfl
  have h1_2 := f1 2 _ p1_2 rfl rfl
  have h1_3 := f1 3 _ p1_3 rfl rfl
  have h1_4 := f1 4 _ p1_4 rfl rfl
  have h1_5 := f1 5 _ p1_5 rfl rfl
  obtain ⟨p2, rfl, l2, f2⟩ := Fit.inv_st u88 h1_0
  obtain ⟨p2_0, p2_1, rfl⟩ : ∃ p2_0 p2_1 : List C, p2 = [p2_0, p2_1] := by
    match p2, l2 with
    | [z0, z1], _ => exact ⟨z0, z1, rfl⟩
  have h2_0 := f2 0 _ p2_0 rfl rfl
  have h2_1 := f2 1 _ p2_1 rfl rfl
  obtain ⟨x3, rfl, w3⟩ := Fit.inv_int u3 h2_0
  obtain ⟨x4, rfl, w4⟩ := Fit.inv_int u3 h2_1
  obtain ⟨x5, rfl, w5⟩ := Fit.inv_int u3 h1_1
  obtain ⟨x6, rfl, w6⟩ := Fit.inv_int u3 h1_2
  obtain ⟨x7, rfl, w7⟩ := Fit.inv_int u3 h1_3
  obtain ⟨x8, rfl, w8⟩ := Fit.inv_str u9 h1_4
  obtain ⟨x9, rfl, w9⟩ := Fit.inv_str u9 h1_5
  exact ⟨⟨x3, x4, x5, x6, x7, x8, x9⟩, rfl, trivial⟩
set_option maxRecDepth 100000 in
theorem contract (H : Type) (enc : TypeId × Value → H) (W : World) (base : Nat) (args : Array Value) (ds gs : List (DataW H)) (before : List MemPlace)
    (hval : ∀ (j : Nat) t v, Try.f7.params[j]? = some t → args[j]? = some v → Value.okWide Try.prog W .any base t v)
    (hW : DataW.Whole enc Try.prog Try.f7.params.toList Rows.auditGoalsSpec.vars false W args.toList ds gs before) :
    Calls Try.prog 7 args W fun e W' => ∃ v, e = .returned v ∧ Rows.auditGoalsSpec.post enc Try.prog Try.f7 false true false false W args v W' := by
  have hpar : Try.f7.params.toList = [55] := by kernel_rfl
  have hW' := hW
  obtain ⟨p, q, hA0, hV, rfl, hfz, hnd⟩ := hW
  have hA : DataW.TrodAll enc Try.prog W 0 (fun _ => true) true Try.f7.params.toList args.toList ds p := hA0
  rw [hpar] at hA
  obtain ⟨v0, vs0, d0, ds0, p0, q0, hargs, rfl, rfl, h0, r0⟩ := trodAll_cons hA
  obtain ⟨rfl, rfl, rfl⟩ := trodAll_nil r0
  obtain rfl : args = #[v0] := by cases args; simp_all
  obtain ⟨rfl, rfl⟩ := trodVars_none hV
  have t0 : Try.f7.params[0]? = some 55 := by kernel_rfl
  obtain ⟨o0, l0, c0, rfl⟩ := okWide_slice u55 (hval 0 55 v0 t0 rfl)
  obtain ⟨xs0, ft0, al0, sh0⟩ := fit_of_arg tys (by decide) h0
  obtain ⟨ys0, rfl, w0, g0⟩ := Fit.inv_sl u55 ft0
  obtain ⟨a0, rfl, _⟩ := Fit.rows fit90 g0
  have e0 := arg_c1 al0 rfl rfl
  refine (Meets.yes mLawGoals (av := [.va (.c1 (.fz (a0.map glC)))]) (vs := [.slice o0 l0 c0]) (ro := roW W) (⟨a0, rfl⟩) rfl rfl (fun i x v h1 h2 => by
    match i with
    | 0 => cases h1; cases h2; exact e0
    | i + 1 => cases h1) (roW_ok W)).mono fun e W' ⟨he, hg⟩ => ?_
  subst he
  exact ⟨_, rfl, law_post (tb := 4) laid rowed room (by rw [hpar]; intro t ht; simp at ht; subst ht; exact of_decide_eq_true (by kernel_rfl)) (by kernel_rfl) (by kernel_rfl) rfl hW' rfl hg⟩
set_option maxRecDepth 100000 in
theorem lifted (os : Os) (started : os.Started) (H : Type) (enc : TypeId × Value → H) :
    ReturnsInHanded {} Try.checked os 7 .any (Rows.auditGoalsSpec.pre6 enc Try.prog Try.f7 Rows.auditGoalsRow.domain false) (Rows.auditGoalsSpec.post enc Try.prog Try.f7 false true false false) := by
  refine returnsInHanded_of_change (C := Try.checked) own started (by kernel_rfl) Try.func7
    (ChangeSpec.witness6 (enc := enc) (C := Try.checked) false ⟨#[], #[.slice none 0 0], []⟩ 8 (by kernel_rfl) (by kernel_rfl) (by kernel_rfl) (by kernel_rfl)) ?_
  intro W base args ds gs before hval hW _ _
  exact contract H enc W base args ds gs before hval hW
theorem proved : Rows.AuditGoalsSaid :=
  OpenClaim.holds_of_wide 7 Try.f7 rfl rfl rfl rfl rfl rfl rfl ⟨rfl, rfl, rfl, rfl, rfl⟩ rfl rfl rfl rfl rfl (by kernel_rfl) Try.func7 (by kernel_rfl)
    (of_decide_eq_true (by kernel_rfl)) (by unfold Func.isWrapper; first | (rw [if_pos (by decide +kernel)]; kernel_rfl) | (rw [if_neg (by decide +kernel)]; exact ⟨rfl, rfl⟩))
    (fun os started H enc _ => lifted os started H enc)
end Go.Proofs.Ytdnohfhpbhlpaaa.goals
