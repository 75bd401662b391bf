/- Proved: roboticslaw23.BusNil returns true at every number, and changes nothing that stood before. Conditions: none beyond the given statement. -/
import Derived.Test.YtngnfcbdgiodfaaGreatNd
import Derived.Test.YtngnfcbdgiodfaaGreatRows
import Derived.WalkKit
import Derived.ProofKit
import Derived.OpenShut
import Derived.Lib.SmallJoins
set_option maxRecDepth 100000
set_option maxHeartbeats 8000000
namespace Go.Proofs.YtngnfcbdgiodfaaGreat.nil
open Go.ChangeShapes Go.ChangeMaps Go.WideShapes Go.ChangeAt Go.RowKit Go.W
theorem own : ownKnob Tryz.prog.godebug = none := by kernel_rfl
theorem B8 : laidOutB Tryz.prog = true := by kernel_rfl
theorem AV : mapsRowed Tryz.prog = true := by kernel_rfl
theorem CC : iK Tryz.prog = true := by kernel_rfl
theorem wE (H : Type) (enc : TypeId × Value → H) (W : World) (base : Nat) (args : Array Value) (ds gs : List (DataW H)) (before : List MemPlace)
 (hW : DataW.Whole enc Tryz.prog Tryz.f3.params.toList Rows.busNilSpec.vars false W args.toList ds gs before) :
 Calls Tryz.prog 3 args W fun e W' => ∃ v, e = .returned v ∧ Rows.busNilSpec.post enc Tryz.prog Tryz.f3 false true false false W args v W' := by
 have hpar : Tryz.f3.params.toList = [3] := by kernel_rfl
 have hW' := hW
 obtain ⟨p, q, hA0, hV, rfl, hfz, hnd⟩ := hW
 have hA : DataW.TrodAll enc Tryz.prog W 0 (fun _ => true) true Tryz.f3.params.toList args.toList ds p := hA0
 rw [hpar] at hA
 obtain ⟨v0, vs0, d0, ds0, p0, q0, hargs, rfl, rfl, h0, r0⟩ := trodAll_cons hA
 obtain ⟨rfl, rfl, rfl⟩ := trodAll_nil r0
 obtain rfl : args = #[v0] := by cases args; simp_all
 obtain ⟨rfl, rfl⟩ := trodVars_none hV
 refine (Tryz.law v0 W).mono fun e W' ⟨he, k1, k2, k3, k4, k5⟩ => ?_
 subst he
 exact ⟨_, rfl, wS (tb := 4) B8 AV CC (by rw [hpar]; intro t ht; simp at ht; subst ht; exact of_decide_eq_true (by kernel_rfl)) (by kernel_rfl) (by kernel_rfl) rfl hW' rfl ⟨k3, k5, k2, k1⟩⟩
theorem zX (os : Os) (started : os.Started) (H : Type) (enc : TypeId × Value → H) :
 ReturnsInHanded {} Tryz.checked os 3 .any (Rows.busNilSpec.pre6 enc Tryz.prog Tryz.f3 Rows.busNilRow.domain false) (Rows.busNilSpec.post enc Tryz.prog Tryz.f3 false true false false) := by
 refine returnsInHanded_of_change (C := Tryz.checked) own started (by kernel_rfl) Tryz.func3
  (ChangeSpec.witness6 (enc := enc) (C := Tryz.checked) false ⟨#[], #[(.int .i64 0)], []⟩ 8 (by kernel_rfl) (by kernel_rfl) (by kernel_rfl) (by kernel_rfl)) ?_
 intro W base args ds gs before hval hW _ _
 exact wE H enc W base args ds gs before hW
theorem proved : Rows.BusNilSaid :=
 OpenClaim.holds_of_wide 3 Tryz.f3 rfl rfl rfl rfl rfl rfl rfl ⟨rfl, rfl, rfl, rfl, rfl⟩ rfl rfl rfl rfl rfl (by kernel_rfl) Tryz.func3 (by kernel_rfl)
  (of_decide_eq_true (by kernel_rfl)) (by unfold Func.isWrapper; first | (rw [if_pos (by decide +kernel)]; kernel_rfl) | (rw [if_neg (by decide +kernel)]; exact ⟨rfl, rfl⟩))
  (fun os started H enc _ => zX os started H enc)
end Go.Proofs.YtngnfcbdgiodfaaGreat.nil
