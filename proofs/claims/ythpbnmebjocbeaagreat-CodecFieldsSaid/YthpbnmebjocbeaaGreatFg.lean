/- Proved: roboticslaw11.CodecFields returns true at every text and number, and changes nothing that stood before. Conditions: none beyond the given statement. -/
import Derived.Test.YthpbnmebjocbeaaGreatFf
import Derived.Test.YthpbnmebjocbeaaGreatRows
import Derived.WalkKit
import Derived.ProofKit
import Derived.OpenShut
import Derived.Lib.SmallJoins
set_option maxRecDepth 100000
set_option maxHeartbeats 8000000
namespace Go.Proofs.YthpbnmebjocbeaaGreat.fields
open Go.ChangeShapes Go.ChangeMaps Go.WideShapes Go.ChangeAt Go.RowKit Go.W
theorem own : ownKnob Tryz.prog.godebug = none := by kernel_rfl
theorem aHS : laidOutB Tryz.prog = true := by kernel_rfl
theorem aDC : mapsRowed Tryz.prog = true := by kernel_rfl
theorem aHY : nA Tryz.prog = true := by kernel_rfl
theorem u9 : Tryz.prog.underlying 9 = some (.string) := by kernel_rfl
theorem u3 : Tryz.prog.underlying 3 = some (.int .i64) := by kernel_rfl
theorem tys : H8 Tryz.prog [9, 3] = true := by kernel_rfl
theorem aD2 (W : World) : GR Tryz.prog (j5 W) W := fun x hx g hg => by
 obtain rfl := List.mem_singleton.1 hx
 have h : Tryz.prog.globalNamed "internal/strconv.uint64pow10" = none := by kernel_rfl
 cases h.symm.trans hg
theorem NJ (H : Type) (enc : TypeId × Value → H) (W : World) (base : Nat) (args : Array Value) (ds gs : List (DataW H)) (before : List MemPlace)
 (hval : ∀ (j : Nat) t v, Tryz.f8.params[j]? = some t → args[j]? = some v → Value.okWide Tryz.prog W .any base t v)
 (hW : DataW.Whole enc Tryz.prog Tryz.f8.params.toList Rows.codecFieldsSpec.vars false W args.toList ds gs before) :
 Calls Tryz.prog 8 args W fun e W' => ∃ v, e = .returned v ∧ Rows.codecFieldsSpec.post enc Tryz.prog Tryz.f8 false true false false W args v W' := by
 have hpar : Tryz.f8.params.toList = [9, 3] := by kernel_rfl
 have hW' := hW
 obtain ⟨p, q, hA0, hV, rfl, hfz, hnd⟩ := hW
 have hA : DataW.TrodAll enc Tryz.prog W 0 (fun _ => true) true Tryz.f8.params.toList args.toList ds p := hA0
 rw [hpar] at hA
 obtain ⟨v0, vs0, d0, ds0, p0, q0, hargs, rfl, rfl, h0, r0⟩ := trodAll_cons hA
 obtain ⟨v1, vs1, d1, ds1, p1, q1, rfl, rfl, rfl, h1, r1⟩ := trodAll_cons r0
 obtain ⟨rfl, rfl, rfl⟩ := trodAll_nil r1
 obtain rfl : args = #[v0, v1] := by cases args; simp_all
 obtain ⟨rfl, rfl⟩ := trodVars_none hV
 have t0 : Tryz.f8.params[0]? = some 9 := by kernel_rfl
 obtain ⟨b0, rfl⟩ := okWide_string u9 (hval 0 9 v0 t0 rfl)
 obtain ⟨xs0, ft0, al0, sh0⟩ := uU tys (by decide) h0
 obtain ⟨a0, rfl, w0⟩ := Fit.inv_str u9 ft0
 have e0 := K4 al0 rfl rfl
 have t1 : Tryz.f8.params[1]? = some 3 := by kernel_rfl
 obtain ⟨b1, rfl⟩ := okWide_int u3 (hval 1 3 v1 t1 rfl)
 obtain ⟨xs1, ft1, al1, J8⟩ := uU tys (by decide) h1
 obtain ⟨a1, rfl, w1⟩ := Fit.inv_int u3 ft1
 have e1 := K4 al1 rfl rfl
 refine (Meets.yes G7 (av := [.va (.c1 (.vl (.string a0))), .va (.c1 (.vl (.int .i64 a1)))]) (vs := [.string b0, .int .i64 b1]) (ro := j5 W) (aJ2 w0) rfl rfl (fun i x v h1 h2 => by
  match i with
  | 0 => cases h1; cases h2; exact e0
  | 1 => cases h1; cases h2; exact e1
  | i + 2 => cases h1) (XT W) (aD2 W)).mono fun e W' ⟨he, hg⟩ => ?_
 subst he
 exact ⟨_, rfl, NO (tb := 4) aHS aDC aHY (by rw [hpar]; intro t ht; simp at ht; rcases ht with rfl | rfl <;> exact of_decide_eq_true (by kernel_rfl)) (by kernel_rfl) (by kernel_rfl) rfl hW' rfl hg⟩
theorem Z1 (os : Os) (started : os.Started) (H : Type) (enc : TypeId × Value → H) :
 ReturnsInHanded {} Tryz.checked os 8 .any (Rows.codecFieldsSpec.pre6 enc Tryz.prog Tryz.f8 Rows.codecFieldsRow.domain false) (Rows.codecFieldsSpec.post enc Tryz.prog Tryz.f8 false true false false) := by
 refine returnsInHanded_of_change (C := Tryz.checked) own started (by kernel_rfl) Tryz.func8
  (ChangeSpec.witness6 (enc := enc) (C := Tryz.checked) false ⟨#[], #[(.string (mk [])), (.int .i64 0)], []⟩ 8 (by kernel_rfl) (by kernel_rfl) (by kernel_rfl) (by kernel_rfl)) ?_
 intro W base args ds gs before hval hW _ _
 exact NJ H enc W base args ds gs before hval hW
theorem proved : Rows.CodecFieldsSaid :=
 OpenClaim.holds_of_wide 8 Tryz.f8 rfl rfl rfl rfl rfl rfl rfl ⟨rfl, rfl, rfl, rfl, rfl⟩ rfl rfl rfl rfl rfl (by kernel_rfl) Tryz.func8 (by kernel_rfl)
  (of_decide_eq_true (by kernel_rfl)) (by unfold Func.isWrapper; first | (rw [if_pos (by decide +kernel)]; kernel_rfl) | (rw [if_neg (by decide +kernel)]; exact ⟨rfl, rfl⟩))
  (fun os started H enc _ => Z1 os started H enc)
end Go.Proofs.YthpbnmebjocbeaaGreat.fields
