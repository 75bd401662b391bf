/- Proved: roboticslaw12.EvolveMerges returns true at every two schemas, and changes nothing that stood before. Conditions: none beyond the given statement. -/
import Derived.Test.YtbolanmlngjdoaaGreatMf
import Derived.Test.YtbolanmlngjdoaaGreatRows
import Derived.WalkKit
import Derived.ProofKit
import Derived.OpenShut
import Derived.Lib.SmallJoins
namespace Go.Proofs.YtbolanmlngjdoaaGreat.merges
open Go.ChangeShapes Go.ChangeMaps Go.WideShapes Go.ChangeAt Go.RowKit Go.W
theorem own : ownKnob Tryz.prog.godebug = none := by kernel_rfl
theorem laid : laidOutB Tryz.prog = true := by kernel_rfl
theorem rowed : mapsRowed Tryz.prog = true := by kernel_rfl
theorem room : slicesRoom Tryz.prog = true := by kernel_rfl
theorem u3 : Tryz.prog.underlying 3 = some (.int .i64) := by kernel_rfl
theorem u9 : Tryz.prog.underlying 9 = some (.string) := by kernel_rfl
theorem u54 : Tryz.prog.underlying 54 = some (.slice 9) := by kernel_rfl
theorem u58 : Tryz.prog.underlying 58 = some (.slice 3) := by kernel_rfl
theorem u60 : Tryz.prog.underlying 60 = some (.struct #[⟨"Name", 9, 0, false, "", "", 0⟩, ⟨"Names", 54, 1, false, "", "", 16⟩, ⟨"Numbers", 58, 2, false, "", "", 40⟩]) := by kernel_rfl
theorem u22 : Tryz.prog.underlying 22 = some (.slice 60) := by kernel_rfl
theorem u46 : Tryz.prog.underlying 46 = some (.slice 48) := by kernel_rfl
theorem u48 : Tryz.prog.underlying 48 = some (.struct #[⟨"Kind", 3, 0, false, "", "", 0⟩, ⟨"Size", 3, 1, false, "", "", 8⟩, ⟨"Name", 9, 2, false, "", "", 16⟩, ⟨"Elem", 46, 3, false, "", "", 32⟩]) := by kernel_rfl
theorem u4 : Tryz.prog.underlying 4 = some (.bool) := by kernel_rfl
theorem u50 : Tryz.prog.underlying 50 = some (.struct #[⟨"Number", 3, 0, false, "", "", 0⟩, ⟨"Name", 9, 1, false, "", "", 8⟩, ⟨"Type", 48, 2, false, "", "", 24⟩, ⟨"Optional", 4, 6, false, "", "", 80⟩]) := by kernel_rfl
theorem u35 : Tryz.prog.underlying 35 = some (.slice 50) := by kernel_rfl
theorem u37 : Tryz.prog.underlying 37 = some (.struct #[⟨"Name", 9, 0, false, "", "", 0⟩, ⟨"Fields", 35, 1, false, "", "", 16⟩]) := by kernel_rfl
theorem u23 : Tryz.prog.underlying 23 = some (.slice 37) := by kernel_rfl
theorem u25 : Tryz.prog.underlying 25 = some (.struct #[⟨"Version", 3, 0, false, "", "", 0⟩, ⟨"Enums", 22, 1, false, "", "", 8⟩, ⟨"Structs", 23, 2, false, "", "", 32⟩]) := by kernel_rfl
theorem tys : tysOk Tryz.prog [25, 3, 22, 60, 9, 54, 58, 23, 37, 35, 50, 48, 46, 4] = true := by kernel_rfl
set_option maxRecDepth 100000 in
theorem contract (H : Type) (enc : TypeId × Value → H) (W : World) (base : Nat) (args : Array Value) (ds gs : List (DataW H)) (before : List MemPlace)
    (hval : ∀ (j : Nat) t v, Tryz.f4.params[j]? = some t → args[j]? = some v → Value.okWide Tryz.prog W .any base t v)
    (hW : DataW.Whole enc Tryz.prog Tryz.f4.params.toList Rows.evolveMergesSpec.vars false W args.toList ds gs before) :
    Calls Tryz.prog 4 args W fun e W' => ∃ v, e = .returned v ∧ Rows.evolveMergesSpec.post enc Tryz.prog Tryz.f4 false true false false W args v W' := by
  have hpar : Tryz.f4.params.toList = [25, 25] := by kernel_rfl
  have hW' := hW
  obtain ⟨p, q, hA0, hV, rfl, hfz, hnd⟩ := hW
  have hA : DataW.TrodAll enc Tryz.prog W 0 (fun _ => true) true Tryz.f4.params.toList args.toList ds p := hA0
  rw [hpar] at hA
  obtain ⟨v0, vs0, d0, ds0, p0, q0, hargs, rfl, rfl, h0, r0⟩ := trodAll_cons hA
  obtain ⟨v1, vs1, d1, ds1, p1, q1, rfl, rfl, rfl, h1, r1⟩ := trodAll_cons r0
  obtain ⟨rfl, rfl, rfl⟩ := trodAll_nil r1
  obtain rfl : args = #[v0, v1] := by cases args; simp_all
  obtain ⟨rfl, rfl⟩ := trodVars_none hV
  have t0 : Tryz.f4.params[0]? = some 25 := by kernel_rfl
  obtain ⟨b0, rfl, _⟩ := okWide_struct u25 (hval 0 25 v0 t0 rfl)
  obtain ⟨xs0, ft0, al0, sh0⟩ := fit_of_arg tys (by decide) h0
  obtain ⟨a0, rfl, k0⟩ := fitSc _ ft0
  have e0 := arg_gs al0 sh0
  have t1 : Tryz.f4.params[1]? = some 25 := by kernel_rfl
  obtain ⟨b1, rfl, _⟩ := okWide_struct u25 (hval 1 25 v1 t1 rfl)
  obtain ⟨xs1, ft1, al1, sh1⟩ := fit_of_arg tys (by decide) h1
  obtain ⟨a1, rfl, k1⟩ := fitSc _ ft1
  have e1 := arg_gs al1 sh1
  refine (Meets.yes mLawMerges (av := [.va (.gs (scC a0)), .va (.gs (scC a1))]) (vs := [.agg b0, .agg b1]) (ro := roW W) (⟨⟨a0, rfl, k0⟩, a1, rfl, k1⟩) rfl rfl (fun i x v h1 h2 => by
    match i with
    | 0 => cases h1; cases h2; exact e0
    | 1 => cases h1; cases h2; exact e1
    | i + 2 => cases h1) (roW_ok W)).mono fun e W' ⟨he, hg⟩ => ?_
  subst he
  exact ⟨_, rfl, law_post (tb := 4) laid rowed room (by rw [hpar]; intro t ht; simp at ht; subst ht; exact of_decide_eq_true (by kernel_rfl)) (by kernel_rfl) (by kernel_rfl) rfl hW' rfl hg⟩
set_option maxRecDepth 100000 in
theorem lifted (os : Os) (started : os.Started) (H : Type) (enc : TypeId × Value → H) :
    ReturnsInHanded {} Tryz.checked os 4 .any (Rows.evolveMergesSpec.pre6 enc Tryz.prog Tryz.f4 Rows.evolveMergesRow.domain false) (Rows.evolveMergesSpec.post enc Tryz.prog Tryz.f4 false true false false) := by
  refine returnsInHanded_of_change (C := Tryz.checked) own started (by kernel_rfl) Tryz.func4
    (ChangeSpec.witness6 (enc := enc) (C := Tryz.checked) false ⟨#[], #[(.agg #[(.int .i64 0), (.slice none 0 0), (.slice none 0 0)]), (.agg #[(.int .i64 0), (.slice none 0 0), (.slice none 0 0)])], []⟩ 8 (by kernel_rfl) (by kernel_rfl) (by kernel_rfl) (by kernel_rfl)) ?_
  intro W base args ds gs before hval hW _ _
  exact contract H enc W base args ds gs before hval hW
theorem proved : Rows.EvolveMergesSaid :=
  OpenClaim.holds_of_wide 4 Tryz.f4 rfl rfl rfl rfl rfl rfl rfl ⟨rfl, rfl, rfl, rfl, rfl⟩ rfl rfl rfl rfl rfl (by kernel_rfl) Tryz.func4 (by kernel_rfl)
    (of_decide_eq_true (by kernel_rfl)) (by unfold Func.isWrapper; first | (rw [if_pos (by decide +kernel)]; kernel_rfl) | (rw [if_neg (by decide +kernel)]; exact ⟨rfl, rfl⟩))
    (fun os started H enc _ => lifted os started H enc)
end Go.Proofs.YtbolanmlngjdoaaGreat.merges
