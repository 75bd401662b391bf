/- Proved: roboticslaw53.AuditCatches returns true at every three numbers, and changes nothing that stood before. Conditions: none beyond the given statement. -/
import Derived.Test.YtdnohfhpbhlpaaaKae
import Derived.Test.YtdnohfhpbhlpaaaRows
import Derived.WalkKit
import Derived.ProofKit
import Derived.OpenShut
import Derived.Lib.SmallJoins
namespace Go.Proofs.Ytdnohfhpbhlpaaa.catches
open Go.ChangeShapes Go.ChangeMaps Go.WideShapes Go.ChangeAt Go.RowKit Go.W
theorem own : ownKnob Try.prog.godebug = none := by kernel_rfl
theorem laid : laidOutB Try.prog = true := by kernel_rfl
theorem rowed : mapsRowed Try.prog = true := by kernel_rfl
theorem room : slicesRoom Try.prog = true := by kernel_rfl
theorem u5 : Try.prog.underlying 5 = some (.int .u8) := by kernel_rfl
theorem u38 : Try.prog.underlying 38 = some (.int .u16) := by kernel_rfl
theorem tys : tysOk Try.prog [5, 38] = true := by kernel_rfl
set_option maxRecDepth 100000 in
theorem contract (H : Type) (enc : TypeId × Value → H) (W : World) (base : Nat) (args : Array Value) (ds gs : List (DataW H)) (before : List MemPlace)
    (hval : ∀ (j : Nat) t v, Try.f4.params[j]? = some t → args[j]? = some v → Value.okWide Try.prog W .any base t v)
    (hW : DataW.Whole enc Try.prog Try.f4.params.toList Rows.auditCatchesSpec.vars false W args.toList ds gs before) :
    Calls Try.prog 4 args W fun e W' => ∃ v, e = .returned v ∧ Rows.auditCatchesSpec.post enc Try.prog Try.f4 false true false false W args v W' := by
  have hpar : Try.f4.params.toList = [5, 5, 38] := by kernel_rfl
  have hW' := hW
  obtain ⟨p, q, hA0, hV, rfl, hfz, hnd⟩ := hW
  have hA : DataW.TrodAll enc Try.prog W 0 (fun _ => true) true Try.f4.params.toList args.toList ds p := hA0
  rw [hpar] at hA
  obtain ⟨v0, vs0, d0, ds0, p0, q0, hargs, rfl, rfl, h0, r0⟩ := trodAll_cons hA
  obtain ⟨v1, vs1, d1, ds1, p1, q1, rfl, rfl, rfl, h1, r1⟩ := trodAll_cons r0
  obtain ⟨v2, vs2, d2, ds2, p2, q2, rfl, rfl, rfl, h2, r2⟩ := trodAll_cons r1
  obtain ⟨rfl, rfl, rfl⟩ := trodAll_nil r2
  obtain rfl : args = #[v0, v1, v2] := by cases args; simp_all
  obtain ⟨rfl, rfl⟩ := trodVars_none hV
  have t0 : Try.f4.params[0]? = some 5 := by kernel_rfl
  obtain ⟨b0, rfl⟩ := okWide_int u5 (hval 0 5 v0 t0 rfl)
  obtain ⟨xs0, ft0, al0, sh0⟩ := fit_of_arg tys (by decide) h0
  obtain ⟨a0, rfl, w0⟩ := Fit.inv_int u5 ft0
  have e0 := arg_c1 al0 rfl rfl
  have t1 : Try.f4.params[1]? = some 5 := by kernel_rfl
  obtain ⟨b1, rfl⟩ := okWide_int u5 (hval 1 5 v1 t1 rfl)
  obtain ⟨xs1, ft1, al1, sh1⟩ := fit_of_arg tys (by decide) h1
  obtain ⟨a1, rfl, w1⟩ := Fit.inv_int u5 ft1
  have e1 := arg_c1 al1 rfl rfl
  have t2 : Try.f4.params[2]? = some 38 := by kernel_rfl
  obtain ⟨b2, rfl⟩ := okWide_int u38 (hval 2 38 v2 t2 rfl)
  obtain ⟨xs2, ft2, al2, sh2⟩ := fit_of_arg tys (by decide) h2
  obtain ⟨a2, rfl, w2⟩ := Fit.inv_int u38 ft2
  have e2 := arg_c1 al2 rfl rfl
  refine (Meets.yes mLawCatches (av := [.va (.c1 (.vl (.int .u8 a0))), .va (.c1 (.vl (.int .u8 a1))), .va (.c1 (.vl (.int .u16 a2)))]) (vs := [.int .u8 b0, .int .u8 b1, .int .u16 b2]) (ro := roW W) (⟨by simpa [Lit.wf, IntKind.min, IntKind.max, IntKind.signed, IntKind.bits] using w0, by simpa [Lit.wf, IntKind.min, IntKind.max, IntKind.signed, IntKind.bits] using w1, by simpa [Lit.wf, IntKind.min, IntKind.max, IntKind.signed, IntKind.bits] using w2⟩) rfl rfl (fun i x v h1 h2 => by
    match i with
    | 0 => cases h1; cases h2; exact e0
    | 1 => cases h1; cases h2; exact e1
    | 2 => cases h1; cases h2; exact e2
    | i + 3 => cases h1) (roW_ok W)).mono fun e W' ⟨he, hg⟩ => ?_
  subst he
  exact ⟨_, rfl, law_post (tb := 4) laid rowed room (by rw [hpar]; intro t ht; simp at ht; rcases ht with rfl | rfl | rfl <;> exact of_decide_eq_true (by kernel_rfl)) (by kernel_rfl) (by kernel_rfl) rfl hW' rfl hg⟩
set_option maxRecDepth 100000 in
theorem lifted (os : Os) (started : os.Started) (H : Type) (enc : TypeId × Value → H) :
    ReturnsInHanded {} Try.checked os 4 .any (Rows.auditCatchesSpec.pre6 enc Try.prog Try.f4 Rows.auditCatchesRow.domain false) (Rows.auditCatchesSpec.post enc Try.prog Try.f4 false true false false) := by
  refine returnsInHanded_of_change (C := Try.checked) own started (by kernel_rfl) Try.func4
    (ChangeSpec.witness6 (enc := enc) (C := Try.checked) false ⟨#[], #[(.int .u8 0), (.int .u8 0), (.int .u16 0)], []⟩ 8 (by kernel_rfl) (by kernel_rfl) (by kernel_rfl) (by kernel_rfl)) ?_
  intro W base args ds gs before hval hW _ _
  exact contract H enc W base args ds gs before hval hW
theorem proved : Rows.AuditCatchesSaid :=
  OpenClaim.holds_of_wide 4 Try.f4 rfl rfl rfl rfl rfl rfl rfl ⟨rfl, rfl, rfl, rfl, rfl⟩ rfl rfl rfl rfl rfl (by kernel_rfl) Try.func4 (by kernel_rfl)
    (of_decide_eq_true (by kernel_rfl)) (by unfold Func.isWrapper; first | (rw [if_pos (by decide +kernel)]; kernel_rfl) | (rw [if_neg (by decide +kernel)]; exact ⟨rfl, rfl⟩))
    (fun os started H enc _ => lifted os started H enc)
end Go.Proofs.Ytdnohfhpbhlpaaa.catches
