/- Proved: roboticslaw11.CodecSkips returns true at every schema, name, value, number and content whose bulk is at most 1048576, and changes nothing that stood before. Conditions: the bound of the given UptoSaid statement, none beyond. -/
import Derived.Test.YthpbnmebjocbeaaGreatKf
import Derived.Test.YthpbnmebjocbeaaGreatRows
import Derived.WalkKit
import Derived.ProofKit
import Derived.OpenShut
import Derived.Lib.SmallJoins
import Derived.JoinedCond
set_option maxRecDepth 100000
set_option maxHeartbeats 8000000
namespace Go.Proofs.YthpbnmebjocbeaaGreat.skips
open Go.ChangeShapes Go.ChangeMaps Go.WideShapes Go.ChangeAt Go.RowKit Go.W
theorem own : ownKnob Tryz.prog.godebug = none := by kernel_rfl
theorem aK1 : laidOutB Tryz.prog = true := by kernel_rfl
theorem aGA : mapsRowed Tryz.prog = true := by kernel_rfl
theorem aK6 : oG Tryz.prog = true := by kernel_rfl
theorem u45 : Tryz.prog.underlying 45 = some (.struct #[⟨"Schema", 25, 0, false, "", "", 0⟩, ⟨"Name", 9, 3, false, "", "", 56⟩, ⟨"Value", 29, 4, false, "", "", 72⟩, ⟨"Number", 3, 9, false, "", "", 152⟩, ⟨"Content", 9, 10, false, "", "", 160⟩]) := by kernel_rfl
theorem tys : J4 Tryz.prog [45, 25, 3, 22, 118, 9, 116, 64, 23, 48, 46, 52, 42, 40, 4, 29, 2, 26, 27, 76] = true := by kernel_rfl
theorem aG1 (W : World) : GR Tryz.prog (kZ W) W := fun x hx g hg => by
 obtain rfl := List.mem_singleton.1 hx
 have h : Tryz.prog.globalNamed "internal/strconv.uint64pow10" = none := by kernel_rfl
 cases h.symm.trans hg
theorem PV (H : Type) (enc : TypeId × Value → H) (W : World) (base : Nat) (args : Array Value) (ds gs : List (DataW H)) (before : List MemPlace)
 (hval : ∀ (j : Nat) t v, Tryz.f7.params[j]? = some t → args[j]? = some v → Value.okWide Tryz.prog W .any base t v)
 (hW : DataW.Whole enc Tryz.prog Tryz.f7.params.toList Rows.codecSkipsSpec.vars false W args.toList ds gs before)
 (hk : Rows.uptoSmall H (ds ++ gs) = true) :
 Calls Tryz.prog 7 args W fun e W' => ∃ v, e = .returned v ∧ Rows.codecSkipsSpec.post enc Tryz.prog Tryz.f7 false true false false W args v W' := by
 have hpar : Tryz.f7.params.toList = [45] := by kernel_rfl
 have hW' := hW
 obtain ⟨p, q, hA0, hV, rfl, hfz, hnd⟩ := hW
 have hA : DataW.TrodAll enc Tryz.prog W 0 (fun _ => true) true Tryz.f7.params.toList args.toList ds p := hA0
 rw [hpar] at hA
 obtain ⟨v0, vs0, d0, ds0, p0, q0, hargs, rfl, rfl, h0, r0⟩ := trodAll_cons hA
 obtain ⟨rfl, rfl, rfl⟩ := trodAll_nil r0
 obtain rfl : args = #[v0] := by cases args; simp_all
 obtain ⟨rfl, rfl⟩ := trodVars_none hV
 have hb : Rows.uptoBulkAll ([d0] ++ []) ≤ 1048576 := of_decide_eq_true hk
 simp only [List.append_nil, Rows.uptoBulkAll] at hb
 have t0 : Tryz.f7.params[0]? = some 45 := by kernel_rfl
 obtain ⟨b0, rfl, _⟩ := okWide_struct u45 (hval 0 45 v0 t0 rfl)
 obtain ⟨xs0, ft0, al0, sh0⟩ := GJ tys (by decide) h0
 obtain ⟨a0, rfl, k0⟩ := aB5 _ (by omega) _ ft0
 have e0 := aDB al0 sh0
 refine (Meets.yes KU (av := [.va (.gs (ukC a0))]) (vs := [.agg b0]) (ro := kZ W) (⟨a0.s, a0.nm, a0.v, a0.k, a0.x, rfl, k0⟩) rfl rfl (fun i x v h1 h2 => by
  match i with
  | 0 => cases h1; cases h2; exact e0
  | i + 1 => cases h1) (aAB W) (aG1 W)).mono fun e W' ⟨he, hg⟩ => ?_
 subst he
 exact ⟨_, rfl, P0 (tb := 4) aK1 aGA aK6 (by rw [hpar]; intro t ht; simp at ht; subst ht; exact of_decide_eq_true (by kernel_rfl)) (by kernel_rfl) (by kernel_rfl) rfl hW' rfl hg⟩
theorem aCN (os : Os) (started : os.Started) (H : Type) (enc : TypeId × Value → H) (F : Stop.Interp) :
 ReturnsInHanded {} Tryz.checked os 7 .any ((Rows.OpenSpec.upto Rows.codecSkipsSpec).pre6 enc Tryz.prog Tryz.f7 Rows.codecSkipsUptoRow.domain false) (((Rows.OpenSpec.upto Rows.codecSkipsSpec).at F).post enc Tryz.prog Tryz.f7 false true false false) := by
 refine returnsInHanded_of_cond (C := Tryz.checked) (s := Rows.OpenSpec.upto Rows.codecSkipsSpec) (k := Rows.uptoSmall) rfl own started (by kernel_rfl) Tryz.func7
  (OpenSpec.witness (enc := enc) (C := Tryz.checked) (s := Rows.OpenSpec.upto Rows.codecSkipsSpec) (k := Rows.uptoSmall) rfl false ⟨#[], #[(.agg #[(.int .i64 0), (.slice none 0 0), (.slice none 0 0), (.string (mk [])), (.int .i64 0), (.int .i64 0), (.string (mk [])), (.slice none 0 0), (.slice none 0 0), (.int .i64 0), (.string (mk []))])], []⟩ 8 (by kernel_rfl) (by kernel_rfl) (by kernel_rfl)
    (x := ([.agg [.agg [.lit (.int .i64 0), .nil, .nil], .lit (.string []), .agg [.lit (.int .i64 0), .lit (.int .i64 0), .lit (.string []), .nil, .nil], .lit (.int .i64 0), .lit (.string [])]], [], [])) (by kernel_rfl) rfl (by kernel_rfl)) ?_
 intro W base args ds gs before hval hW _ hk _
 exact PV H enc W base args ds gs before hval hW hk
theorem proved : Rows.CodecSkipsUptoSaid :=
 OpenClaim.holds_of_cond 7 Tryz.f7 rfl rfl rfl rfl rfl rfl rfl ⟨rfl, rfl, rfl, rfl, rfl⟩ rfl rfl rfl rfl rfl (by kernel_rfl) Tryz.func7 (by kernel_rfl)
  (of_decide_eq_true (by kernel_rfl)) (by unfold Func.isWrapper; first | (rw [if_pos (by decide +kernel)]; kernel_rfl) | (rw [if_neg (by decide +kernel)]; exact ⟨rfl, rfl⟩))
  (fun os started H enc _ F => aCN os started H enc F)
end Go.Proofs.YthpbnmebjocbeaaGreat.skips
