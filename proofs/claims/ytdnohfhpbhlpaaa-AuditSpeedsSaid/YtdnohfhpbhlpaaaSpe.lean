/- Proved: roboticslaw53.AuditSpeeds returns true at every list of motions and every limits, and changes nothing that stood before. Conditions: none beyond the given statement. -/
import Derived.Test.YtdnohfhpbhlpaaaSpd
import Derived.Test.YtdnohfhpbhlpaaaRows
import Derived.WalkKit
import Derived.ProofKit
import Derived.OpenShut
import Derived.Lib.SmallJoins
namespace Go.Proofs.Ytdnohfhpbhlpaaa.speeds
open Go.ChangeShapes Go.ChangeMaps Go.WideShapes Go.ChangeAt Go.RowKit Go.W
theorem own : ownKnob Try.prog.godebug = none := by kernel_rfl
theorem laid : laidOutB Try.prog = true := by kernel_rfl
theorem rowed : mapsRowed Try.prog = true := by kernel_rfl
theorem room : slicesRoom Try.prog = true := by kernel_rfl
theorem u3 : Try.prog.underlying 3 = some (.int .i64) := by kernel_rfl
theorem u48 : Try.prog.underlying 48 = some (.struct #[⟨"X", 3, 0, false, "", "", 0⟩, ⟨"Y", 3, 1, false, "", "", 8⟩]) := by kernel_rfl
theorem u50 : Try.prog.underlying 50 = some (.struct #[⟨"Pos", 48, 0, false, "", "", 0⟩, ⟨"Vel", 48, 2, false, "", "", 16⟩]) := by kernel_rfl
theorem u43 : Try.prog.underlying 43 = some (.slice 50) := by kernel_rfl
theorem u45 : Try.prog.underlying 45 = some (.struct #[⟨"Speed", 3, 0, false, "", "", 0⟩, ⟨"Accel", 3, 1, false, "", "", 8⟩, ⟨"Brake", 3, 2, false, "", "", 16⟩, ⟨"Human", 3, 3, false, "", "", 24⟩, ⟨"Margin", 3, 4, false, "", "", 32⟩]) := by kernel_rfl
theorem tys : tysOk Try.prog [43, 50, 48, 3, 45] = true := by kernel_rfl
theorem fit50 (cs : List C) (h : Fit Try.prog 50 cs) : ∃ a : Mo, cs = moC a ∧ True := by
  obtain ⟨p1, rfl, l1, f1⟩ := Fit.inv_st u50 h
  obtain ⟨p1_0, p1_1, rfl⟩ : ∃ p1_0 p1_1 : List C, p1 = [p1_0, p1_1] := by
    match p1, l1 with
    | [z0, z1], _ => exact ⟨z0, z1, rfl⟩
  have h1_0 := f1 0 _ p1_0 rfl rfl
  have h1_1 := f1 1 _ p1_1 rfl rfl
  obtain ⟨p2, rfl, l2, f2⟩ := Fit.inv_st u48 h1_0
  obtain ⟨p2_0, p2_1, rfl⟩ : ∃ p2_0 p2_1 : List C, p2 = [p2_0, p2_1] := by
    match p2, l2 with
    | [z0, z1], _ => exact ⟨z0, z1, rfl⟩
  have h2_0 := f2 0 _ p2_0 rfl rfl
  have h2_1 := f2 1 _ p2_1 rfl rfl
  obtain ⟨x3, rfl, w3⟩ := Fit.inv_int u3 h2_0
  obtain ⟨x4, rfl, w4⟩ := Fit.inv_int u3 h2_1
  obtain ⟨p5, rfl, l5, f5⟩ := Fit.inv_st u48 h1_1
  obtain ⟨p5_0, p5_1, rfl⟩ : ∃ p5_0 p5_1 : List C, p5 = [p5_0, p5_1] := by
    match p5, l5 with
    | [z0, z1], _ => exact ⟨z0, z1, rfl⟩
  have h5_0 := f5 0 _ p5_0 rfl rfl
  have h5_1 := f5 1 _ p5_1 rfl rfl
  obtain ⟨x6, rfl, w6⟩ := Fit.inv_int u3 h5_0
  obtain ⟨x7, rfl, w7⟩ := Fit.inv_int u3 h5_1
  exact ⟨⟨x3, x4, x6, x7⟩, rfl, trivial⟩
theorem fit45 (cs : List C) (h : Fit Try.prog 45 cs) : ∃ a : Lim, cs = liC a ∧ True := by
  obtain ⟨p8, rfl, l8, f8⟩ := Fit.inv_st u45 h
  obtain ⟨p8_0, p8_1, p8_2, p8_3, p8_4, rfl⟩ : ∃ p8_0 p8_1 p8_2 p8_3 p8_4 : List C, p8 = [p8_0, p8_1, p8_2, p8_3, p8_4] := by
    match p8, l8 with
    | [z0, z1, z2, z3, z4], _ => exact ⟨z0, z1, z2, z3, z4, rfl⟩
  have h8_0 := f8 0 _ p8_0 rfl rfl
  have h8_1 := f8 1 _ p8_1 rfl rfl
  have h8_2 := f8 2 _ p8_2 rfl rfl
  have h8_3 := f8 3 _ p8_3 rfl rfl
  have h8_4 := f8 4 _ p8_4 rfl rfl
  obtain ⟨x9, rfl, w9⟩ := Fit.inv_int u3 h8_0
  obtain ⟨x10, rfl, w10⟩ := Fit.inv_int u3 h8_1
  obtain ⟨x11, rfl, w11⟩ := Fit.inv_int u3 h8_2
  obtain ⟨x12, rfl, w12⟩ := Fit.inv_int u3 h8_3
  obtain ⟨x13, rfl, w13⟩ := Fit.inv_int u3 h8_4
  exact ⟨⟨x9, x10, x11, x12, x13⟩, rfl, trivial⟩
set_option maxRecDepth 100000 in
theorem contract (H : Type) (enc : TypeId × Value → H) (W : World) (base : Nat) (args : Array Value) (ds gs : List (DataW H)) (before : List MemPlace)
    (hval : ∀ (j : Nat) t v, Try.f5.params[j]? = some t → args[j]? = some v → Value.okWide Try.prog W .any base t v)
    (hW : DataW.Whole enc Try.prog Try.f5.params.toList Rows.auditSpeedsSpec.vars false W args.toList ds gs before) :
    Calls Try.prog 5 args W fun e W' => ∃ v, e = .returned v ∧ Rows.auditSpeedsSpec.post enc Try.prog Try.f5 false true false false W args v W' := by
  have hpar : Try.f5.params.toList = [43, 45] := by kernel_rfl
  have hW' := hW
  obtain ⟨p, q, hA0, hV, rfl, hfz, hnd⟩ := hW
  have hA : DataW.TrodAll enc Try.prog W 0 (fun _ => true) true Try.f5.params.toList args.toList ds p := hA0
  rw [hpar] at hA
  obtain ⟨v0, vs0, d0, ds0, p0, q0, hargs, rfl, rfl, h0, r0⟩ := trodAll_cons hA
  obtain ⟨v1, vs1, d1, ds1, p1, q1, rfl, rfl, rfl, h1, r1⟩ := trodAll_cons r0
  obtain ⟨rfl, rfl, rfl⟩ := trodAll_nil r1
  obtain rfl : args = #[v0, v1] := by cases args; simp_all
  obtain ⟨rfl, rfl⟩ := trodVars_none hV
  have t0 : Try.f5.params[0]? = some 43 := by kernel_rfl
  obtain ⟨o0, l0, c0, rfl⟩ := okWide_slice u43 (hval 0 43 v0 t0 rfl)
  obtain ⟨xs0, ft0, al0, sh0⟩ := fit_of_arg tys (by decide) h0
  obtain ⟨ys0, rfl, w0, g0⟩ := Fit.inv_sl u43 ft0
  obtain ⟨a0, rfl, _⟩ := Fit.rows fit50 g0
  have e0 := arg_c1 al0 rfl rfl
  have t1 : Try.f5.params[1]? = some 45 := by kernel_rfl
  obtain ⟨b1, rfl, _⟩ := okWide_struct u45 (hval 1 45 v1 t1 rfl)
  obtain ⟨xs1, ft1, al1, sh1⟩ := fit_of_arg tys (by decide) h1
  obtain ⟨a1, rfl, _⟩ := fit45 _ ft1
  have e1 := arg_gs al1 sh1
  refine (Meets.yes mLawSpeeds (av := [.va (.c1 (.fz (a0.map moC))), .va (.gs (liC a1))]) (vs := [.slice o0 l0 c0, .agg b1]) (ro := roW W) (⟨⟨a0, rfl⟩, a1, rfl⟩) rfl rfl (fun i x v h1 h2 => by
    match i with
    | 0 => cases h1; cases h2; exact e0
    | 1 => cases h1; cases h2; exact e1
    | i + 2 => cases h1) (roW_ok W)).mono fun e W' ⟨he, hg⟩ => ?_
  subst he
  exact ⟨_, rfl, law_post (tb := 4) laid rowed room (by rw [hpar]; intro t ht; simp at ht; rcases ht with rfl | rfl <;> exact of_decide_eq_true (by kernel_rfl)) (by kernel_rfl) (by kernel_rfl) rfl hW' rfl hg⟩
set_option maxRecDepth 100000 in
theorem lifted (os : Os) (started : os.Started) (H : Type) (enc : TypeId × Value → H) :
    ReturnsInHanded {} Try.checked os 5 .any (Rows.auditSpeedsSpec.pre6 enc Try.prog Try.f5 Rows.auditSpeedsRow.domain false) (Rows.auditSpeedsSpec.post enc Try.prog Try.f5 false true false false) := by
  refine returnsInHanded_of_change (C := Try.checked) own started (by kernel_rfl) Try.func5
    (ChangeSpec.witness6 (enc := enc) (C := Try.checked) false ⟨#[], #[.slice none 0 0, (.agg #[(.int .i64 0), (.int .i64 0), (.int .i64 0), (.int .i64 0), (.int .i64 0)])], []⟩ 8 (by kernel_rfl) (by kernel_rfl) (by kernel_rfl) (by kernel_rfl)) ?_
  intro W base args ds gs before hval hW _ _
  exact contract H enc W base args ds gs before hval hW
theorem proved : Rows.AuditSpeedsSaid :=
  OpenClaim.holds_of_wide 5 Try.f5 rfl rfl rfl rfl rfl rfl rfl ⟨rfl, rfl, rfl, rfl, rfl⟩ rfl rfl rfl rfl rfl (by kernel_rfl) Try.func5 (by kernel_rfl)
    (of_decide_eq_true (by kernel_rfl)) (by unfold Func.isWrapper; first | (rw [if_pos (by decide +kernel)]; kernel_rfl) | (rw [if_neg (by decide +kernel)]; exact ⟨rfl, rfl⟩))
    (fun os started H enc _ => lifted os started H enc)
end Go.Proofs.Ytdnohfhpbhlpaaa.speeds
