/- Proved: roboticslaw12.EvolveWidens returns true at every three types, and changes nothing that stood before. Conditions: none beyond the given statement. -/
import Derived.Test.YtbolanmlngjdoaaWd
import Derived.Test.YtbolanmlngjdoaaRows
import Derived.WalkKit
import Derived.ProofKit
import Derived.OpenShut
import Derived.Lib.SmallJoins
namespace Go.Proofs.Ytbolanmlngjdoaa.widens
open Go.ChangeShapes Go.ChangeMaps Go.WideShapes Go.ChangeAt Go.RowKit Go.W
theorem own : ownKnob Try.prog.godebug = none := by kernel_rfl
theorem laid : laidOutB Try.prog = true := by kernel_rfl
theorem rowed : mapsRowed Try.prog = true := by kernel_rfl
theorem room : slicesRoom Try.prog = true := by kernel_rfl
theorem u3 : Try.prog.underlying 3 = some (.int .i64) := by kernel_rfl
theorem u9 : Try.prog.underlying 9 = some (.string) := by kernel_rfl
theorem u22 : Try.prog.underlying 22 = some (.slice 24) := by kernel_rfl
theorem u24 : Try.prog.underlying 24 = some (.struct #[⟨"Kind", 3, 0, false, "", "", 0⟩, ⟨"Size", 3, 1, false, "", "", 8⟩, ⟨"Name", 9, 2, false, "", "", 16⟩, ⟨"Elem", 22, 3, false, "", "", 32⟩]) := by kernel_rfl
theorem tys : tysOk Try.prog [24, 3, 9, 22] = true := by kernel_rfl
set_option maxRecDepth 100000 in
theorem contract (H : Type) (enc : TypeId × Value → H) (W : World) (base : Nat) (args : Array Value) (ds gs : List (DataW H)) (before : List MemPlace)
    (hval : ∀ (j : Nat) t v, Try.f3.params[j]? = some t → args[j]? = some v → Value.okWide Try.prog W .any base t v)
    (hW : DataW.Whole enc Try.prog Try.f3.params.toList Rows.evolveWidensSpec.vars false W args.toList ds gs before) :
    Calls Try.prog 3 args W fun e W' => ∃ v, e = .returned v ∧ Rows.evolveWidensSpec.post enc Try.prog Try.f3 false true false false W args v W' := by
  have hpar : Try.f3.params.toList = [24, 24, 24] := by kernel_rfl
  have hW' := hW
  obtain ⟨p, q, hA0, hV, rfl, hfz, hnd⟩ := hW
  have hA : DataW.TrodAll enc Try.prog W 0 (fun _ => true) true Try.f3.params.toList args.toList ds p := hA0
  rw [hpar] at hA
  obtain ⟨v0, vs0, d0, ds0, p0, q0, hargs, rfl, rfl, h0, r0⟩ := trodAll_cons hA
  obtain ⟨v1, vs1, d1, ds1, p1, q1, rfl, rfl, rfl, h1, r1⟩ := trodAll_cons r0
  obtain ⟨v2, vs2, d2, ds2, p2, q2, rfl, rfl, rfl, h2, r2⟩ := trodAll_cons r1
  obtain ⟨rfl, rfl, rfl⟩ := trodAll_nil r2
  obtain rfl : args = #[v0, v1, v2] := by cases args; simp_all
  obtain ⟨rfl, rfl⟩ := trodVars_none hV
  have t0 : Try.f3.params[0]? = some 24 := by kernel_rfl
  obtain ⟨b0, rfl, _⟩ := okWide_struct u24 (hval 0 24 v0 t0 rfl)
  obtain ⟨xs0, ft0, al0, sh0⟩ := fit_of_arg tys (by decide) h0
  obtain ⟨a0, rfl, k0⟩ := fitTy' _ ft0
  have e0 := arg_gs al0 sh0
  have t1 : Try.f3.params[1]? = some 24 := by kernel_rfl
  obtain ⟨b1, rfl, _⟩ := okWide_struct u24 (hval 1 24 v1 t1 rfl)
  obtain ⟨xs1, ft1, al1, sh1⟩ := fit_of_arg tys (by decide) h1
  obtain ⟨a1, rfl, k1⟩ := fitTy' _ ft1
  have e1 := arg_gs al1 sh1
  have t2 : Try.f3.params[2]? = some 24 := by kernel_rfl
  obtain ⟨b2, rfl, _⟩ := okWide_struct u24 (hval 2 24 v2 t2 rfl)
  obtain ⟨xs2, ft2, al2, sh2⟩ := fit_of_arg tys (by decide) h2
  obtain ⟨a2, rfl, k2⟩ := fitTy' _ ft2
  have e2 := arg_gs al2 sh2
  refine (Meets.yes mLawWidens (av := [.va (.gs (tyC a0)), .va (.gs (tyC a1)), .va (.gs (tyC a2))]) (vs := [.agg b0, .agg b1, .agg b2]) (ro := roW W) (⟨⟨a0, rfl, k0⟩, ⟨a1, rfl, k1⟩, a2, rfl, k2⟩) rfl rfl (fun i x v h1 h2 => by
    match i with
    | 0 => cases h1; cases h2; exact e0
    | 1 => cases h1; cases h2; exact e1
    | 2 => cases h1; cases h2; exact e2
    | i + 3 => cases h1) (roW_ok W)).mono fun e W' ⟨he, hg⟩ => ?_
  subst he
  exact ⟨_, rfl, law_post (tb := 4) laid rowed room (by rw [hpar]; intro t ht; simp at ht; subst ht; exact of_decide_eq_true (by kernel_rfl)) (by kernel_rfl) (by kernel_rfl) rfl hW' rfl hg⟩
set_option maxRecDepth 100000 in
theorem lifted (os : Os) (started : os.Started) (H : Type) (enc : TypeId × Value → H) :
    ReturnsInHanded {} Try.checked os 3 .any (Rows.evolveWidensSpec.pre6 enc Try.prog Try.f3 Rows.evolveWidensRow.domain false) (Rows.evolveWidensSpec.post enc Try.prog Try.f3 false true false false) := by
  refine returnsInHanded_of_change (C := Try.checked) own started (by kernel_rfl) Try.func3
    (ChangeSpec.witness6 (enc := enc) (C := Try.checked) false ⟨#[], #[(.agg #[(.int .i64 0), (.int .i64 0), (.string (mk [])), (.slice none 0 0)]), (.agg #[(.int .i64 0), (.int .i64 0), (.string (mk [])), (.slice none 0 0)]), (.agg #[(.int .i64 0), (.int .i64 0), (.string (mk [])), (.slice none 0 0)])], []⟩ 8 (by kernel_rfl) (by kernel_rfl) (by kernel_rfl) (by kernel_rfl)) ?_
  intro W base args ds gs before hval hW _ _
  exact contract H enc W base args ds gs before hval hW
theorem proved : Rows.EvolveWidensSaid :=
  OpenClaim.holds_of_wide 3 Try.f3 rfl rfl rfl rfl rfl rfl rfl ⟨rfl, rfl, rfl, rfl, rfl⟩ rfl rfl rfl rfl rfl (by kernel_rfl) Try.func3 (by kernel_rfl)
    (of_decide_eq_true (by kernel_rfl)) (by unfold Func.isWrapper; first | (rw [if_pos (by decide +kernel)]; kernel_rfl) | (rw [if_neg (by decide +kernel)]; exact ⟨rfl, rfl⟩))
    (fun os started H enc _ => lifted os started H enc)
end Go.Proofs.Ytbolanmlngjdoaa.widens
