/- Proved: roboticslaw12.EvolveProjects returns true at every schema, name and value, and changes nothing that stood before. Conditions: none beyond the given statement. -/
import Derived.Test.YtbcnggkldclemaaGreatPe
import Derived.Test.YtbcnggkldclemaaGreatRows
import Derived.WalkKit
import Derived.ProofKit
import Derived.OpenShut
import Derived.Lib.SmallJoins
import Derived.SizedLaws
namespace Go.Proofs.YtbcnggkldclemaaGreat.projects
open Go.ChangeShapes Go.ChangeMaps Go.WideShapes Go.ChangeAt Go.RowKit Go.W
theorem own : ownKnob Tryz.prog.godebug = none := by kernel_rfl
theorem laid : laidOutB Tryz.prog = true := by kernel_rfl
theorem rowed : mapsRowed Tryz.prog = true := by kernel_rfl
theorem room : slicesRoom Tryz.prog = true := by kernel_rfl
theorem u3 : Tryz.prog.underlying 3 = some (.int .i64) := by kernel_rfl
theorem u9 : Tryz.prog.underlying 9 = some (.string) := by kernel_rfl
theorem u57 : Tryz.prog.underlying 57 = some (.slice 9) := by kernel_rfl
theorem u58 : Tryz.prog.underlying 58 = some (.slice 3) := by kernel_rfl
theorem u60 : Tryz.prog.underlying 60 = some (.struct #[⟨"Name", 9, 0, false, "", "", 0⟩, ⟨"Names", 57, 1, false, "", "", 16⟩, ⟨"Numbers", 58, 2, false, "", "", 40⟩]) := by kernel_rfl
theorem u22 : Tryz.prog.underlying 22 = some (.slice 60) := by kernel_rfl
theorem u38 : Tryz.prog.underlying 38 = some (.slice 40) := by kernel_rfl
theorem u40 : Tryz.prog.underlying 40 = some (.struct #[⟨"Kind", 3, 0, false, "", "", 0⟩, ⟨"Size", 3, 1, false, "", "", 8⟩, ⟨"Name", 9, 2, false, "", "", 16⟩, ⟨"Elem", 38, 3, false, "", "", 32⟩]) := by kernel_rfl
theorem u4 : Tryz.prog.underlying 4 = some (.bool) := by kernel_rfl
theorem u42 : Tryz.prog.underlying 42 = some (.struct #[⟨"Number", 3, 0, false, "", "", 0⟩, ⟨"Name", 9, 1, false, "", "", 8⟩, ⟨"Type", 40, 2, false, "", "", 24⟩, ⟨"Optional", 4, 6, false, "", "", 80⟩]) := by kernel_rfl
theorem u43 : Tryz.prog.underlying 43 = some (.slice 42) := by kernel_rfl
theorem u45 : Tryz.prog.underlying 45 = some (.struct #[⟨"Name", 9, 0, false, "", "", 0⟩, ⟨"Fields", 43, 1, false, "", "", 16⟩]) := by kernel_rfl
theorem u23 : Tryz.prog.underlying 23 = some (.slice 45) := by kernel_rfl
theorem u25 : Tryz.prog.underlying 25 = some (.struct #[⟨"Version", 3, 0, false, "", "", 0⟩, ⟨"Enums", 22, 1, false, "", "", 8⟩, ⟨"Structs", 23, 2, false, "", "", 32⟩]) := by kernel_rfl
theorem u29 : Tryz.prog.underlying 29 = some (.struct #[⟨"Kind", 3, 0, false, "", "", 0⟩, ⟨"N", 2, 1, false, "", "", 8⟩, ⟨"S", 9, 2, false, "", "", 16⟩, ⟨"L", 26, 3, false, "", "", 32⟩, ⟨"F", 27, 4, false, "", "", 56⟩]) := by kernel_rfl
theorem tys : tysOk Tryz.prog [25, 3, 22, 60, 9, 57, 58, 23, 45, 43, 42, 40, 38, 4, 29, 2, 26, 27, 37] = true := by kernel_rfl
set_option maxRecDepth 100000 in
theorem contract (H : Type) (enc : TypeId × Value → H) (W : World) (base : Nat) (args : Array Value) (ds gs : List (DataW H)) (before : List MemPlace)
    (hval : ∀ (j : Nat) t v, Tryz.f3.params[j]? = some t → args[j]? = some v → Value.okWide Tryz.prog W .any base t v)
    (hW : DataW.Whole enc Tryz.prog Tryz.f3.params.toList Rows.evolveProjectsSpec.vars false W args.toList ds gs before)
    (hwt : (DataW.weightsEach Tryz.prog (Tryz.f3.params.toList ++ Rows.evolveProjectsSpec.plain.varTypes Tryz.prog) (ds ++ gs)).all (· ≤ reachBytes) = true) :
    Calls Tryz.prog 3 args W fun e W' => ∃ v, e = .returned v ∧ Rows.evolveProjectsSpec.post enc Tryz.prog Tryz.f3 false true false false W args v W' := by
  have hpar : Tryz.f3.params.toList = [25, 9, 29] := by kernel_rfl
  have hW' := hW
  obtain ⟨p, q, hA0, hV, rfl, hfz, hnd⟩ := hW
  have hA : DataW.TrodAll enc Tryz.prog W 0 (fun _ => true) true Tryz.f3.params.toList args.toList ds p := hA0
  rw [hpar] at hA
  rw [hpar] at hwt
  obtain ⟨v0, vs0, d0, ds0, p0, q0, hargs, rfl, rfl, h0, r0⟩ := trodAll_cons hA
  obtain ⟨v1, vs1, d1, ds1, p1, q1, rfl, rfl, rfl, h1, r1⟩ := trodAll_cons r0
  obtain ⟨v2, vs2, d2, ds2, p2, q2, rfl, rfl, rfl, h2, r2⟩ := trodAll_cons r1
  obtain ⟨rfl, rfl, rfl⟩ := trodAll_nil r2
  obtain rfl : args = #[v0, v1, v2] := by cases args; simp_all
  obtain ⟨rfl, rfl⟩ := trodVars_none hV
  have t0 : Tryz.f3.params[0]? = some 25 := by kernel_rfl
  obtain ⟨b0, rfl, _⟩ := okWide_struct u25 (hval 0 25 v0 t0 rfl)
  obtain ⟨xs0, ft0, al0, sh0⟩ := fit_of_arg tys (by decide) h0
  obtain ⟨a0, rfl, k0⟩ := fitSc _ ft0
  have e0 := arg_gs al0 sh0
  have t1 : Tryz.f3.params[1]? = some 9 := by kernel_rfl
  obtain ⟨b1, rfl⟩ := okWide_string u9 (hval 1 9 v1 t1 rfl)
  obtain ⟨xs1, ft1, al1, sh1⟩ := fit_of_arg tys (by decide) h1
  obtain ⟨a1, rfl, w1⟩ := Fit.inv_str u9 ft1
  have e1 := arg_c1 al1 rfl rfl
  have t2 : Tryz.f3.params[2]? = some 29 := by kernel_rfl
  obtain ⟨b2, rfl, _⟩ := okWide_struct u29 (hval 2 29 v2 t2 rfl)
  obtain ⟨xs2, ft2, al2, sh2⟩ := fit_of_argW tys (by decide) h2 fun m hm => of_decide_eq_true (List.all_eq_true.1 hwt m (weights_each (i := 2) rfl rfl hm))
  obtain ⟨a2, rfl, k2⟩ := fitVl _ ft2
  have e2 := arg_gs al2 sh2
  refine (Meets.yes mLawProjects (av := [.va (.gs (scC a0)), .va (.c1 (.vl (.string a1))), .va (.gs (vlC a2))]) (vs := [.agg b0, .string b1, .agg b2]) (ro := roW W) (⟨⟨a0, rfl, k0⟩, mx47 w1, a2, rfl, k2⟩) rfl rfl (fun i x v h1 h2 => by
    match i with
    | 0 => cases h1; cases h2; exact e0
    | 1 => cases h1; cases h2; exact e1
    | 2 => cases h1; cases h2; exact e2
    | i + 3 => cases h1) (roW_ok W)).mono fun e W' ⟨he, hg⟩ => ?_
  subst he
  exact ⟨_, rfl, law_post (tb := 4) laid rowed room (by rw [hpar]; intro t ht; simp at ht; rcases ht with rfl | rfl | rfl <;> exact of_decide_eq_true (by kernel_rfl)) (by kernel_rfl) (by kernel_rfl) rfl hW' rfl hg⟩
set_option maxRecDepth 100000 in
theorem lifted (os : Os) (started : os.Started) (H : Type) (enc : TypeId × Value → H) :
    ReturnsInHanded {} Tryz.checked os 3 .any (Rows.evolveProjectsSpec.pre6 enc Tryz.prog Tryz.f3 Rows.evolveProjectsRow.domain false) (Rows.evolveProjectsSpec.post enc Tryz.prog Tryz.f3 false true false false) := by
  refine returnsInHanded_of_change_sized (C := Tryz.checked) own started (by kernel_rfl) Tryz.func3
    (ChangeSpec.witness6 (enc := enc) (C := Tryz.checked) false ⟨#[], #[(.agg #[(.int .i64 0), (.slice none 0 0), (.slice none 0 0)]), (.string (mk [])), (.agg #[(.int .i64 0), (.int .i64 0), (.string (mk [])), (.slice none 0 0), (.slice none 0 0)])], []⟩ 8 (by kernel_rfl) (by kernel_rfl) (by kernel_rfl) (by kernel_rfl)) ?_
  intro W base args ds gs before hval hW _ hwt _
  exact contract H enc W base args ds gs before hval hW hwt
theorem proved : Rows.EvolveProjectsSaid :=
  OpenClaim.holds_of_wide 3 Tryz.f3 rfl rfl rfl rfl rfl rfl rfl ⟨rfl, rfl, rfl, rfl, rfl⟩ rfl rfl rfl rfl rfl (by kernel_rfl) Tryz.func3 (by kernel_rfl)
    (of_decide_eq_true (by kernel_rfl)) (by unfold Func.isWrapper; first | (rw [if_pos (by decide +kernel)]; kernel_rfl) | (rw [if_neg (by decide +kernel)]; exact ⟨rfl, rfl⟩))
    (fun os started H enc _ => lifted os started H enc)
end Go.Proofs.YtbcnggkldclemaaGreat.projects
