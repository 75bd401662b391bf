/- Proved: roboticslaw11.CodecDecodes returns true at every schema, name and text whose bulk is at most 1048576, and changes nothing that stood before. Conditions: the bound of the given UptoSaid statement, none beyond. -/
import Derived.Test.YthpbnmebjocbeaaGreatDg
import Derived.Test.YthpbnmebjocbeaaGreatRows
import Derived.WalkKit
import Derived.ProofKit
import Derived.OpenShut
import Derived.Lib.SmallJoins
import Derived.JoinedCond
set_option maxRecDepth 100000
set_option maxHeartbeats 8000000
namespace Go.Proofs.YthpbnmebjocbeaaGreat.decodes
open Go.ChangeShapes Go.ChangeMaps Go.WideShapes Go.ChangeAt Go.RowKit Go.W
theorem own : ownKnob Tryz.prog.godebug = none := by kernel_rfl
theorem aSE : laidOutB Tryz.prog = true := by kernel_rfl
theorem aMJ : mapsRowed Tryz.prog = true := by kernel_rfl
theorem aSL : rU Tryz.prog = true := by kernel_rfl
theorem u9 : Tryz.prog.underlying 9 = some (.string) := by kernel_rfl
theorem u25 : Tryz.prog.underlying 25 = some (.struct #[⟨"Version", 3, 0, false, "", "", 0⟩, ⟨"Enums", 22, 1, false, "", "", 8⟩, ⟨"Structs", 23, 2, false, "", "", 32⟩]) := by kernel_rfl
theorem tys : AX Tryz.prog [9, 25, 3, 22, 118, 116, 64, 23, 48, 46, 52, 42, 40, 4] = true := by kernel_rfl
theorem aNP (W : World) : GR Tryz.prog (jR W) W := fun x hx g hg => by
 obtain rfl := List.mem_singleton.1 hx
 have h : Tryz.prog.globalNamed "internal/strconv.uint64pow10" = none := by kernel_rfl
 cases h.symm.trans hg
theorem UO (H : Type) (enc : TypeId×Value → H) (W : World) (base : Nat) (args : Array Value) (ds gs : List (DataW H)) (before : List MemPlace)
 (hval : ∀(j : Nat) t v, Tryz.f4.params[j]? = some t → args[j]? = some v → Value.okWide Tryz.prog W .any base t v)
 (hW : DataW.Whole enc Tryz.prog Tryz.f4.params.toList Rows.codecDecodesSpec.vars false W args.toList ds gs before)
 (hk : Rows.uptoSmall H (ds++gs) = true) :
 Calls Tryz.prog 4 args W fun e W' => ∃v, e = .returned v ∧ Rows.codecDecodesSpec.post enc Tryz.prog Tryz.f4 false true false false W args v W' := by
 have hpar : Tryz.f4.params.toList = [25, 9, 9] := by kernel_rfl
 have hW' := hW
 obtain ⟨p, q, hA0, hV, rfl, hfz, hnd⟩ := hW
 have hA : DataW.TrodAll enc Tryz.prog W 0 (fun _ => true) true Tryz.f4.params.toList args.toList ds p := hA0
 rw[hpar] at hA
 obtain ⟨v0, vs0, d0, ds0, p0, q0, hargs, rfl, rfl, h0, r0⟩ := trodAll_cons hA
 obtain ⟨v1, vs1, d1, ds1, p1, q1, rfl, rfl, rfl, h1, r1⟩ := trodAll_cons r0
 obtain ⟨v2, vs2, d2, ds2, p2, q2, rfl, rfl, rfl, h2, r2⟩ := trodAll_cons r1
 obtain ⟨rfl, rfl, rfl⟩ := trodAll_nil r2
 obtain rfl : args = #[v0, v1, v2] := by cases args;simp_all
 obtain ⟨rfl, rfl⟩ := trodVars_none hV
 have hb : Rows.uptoBulkAll ([d0, d1, d2]++[]) ≤ 1048576 := of_decide_eq_true hk
 simp only[List.append_nil, Rows.uptoBulkAll] at hb
 have t0 : Tryz.f4.params[0]? = some 25 := by kernel_rfl
 obtain ⟨b0, rfl, _⟩ := okWide_struct u25 (hval 0 25 v0 t0 rfl)
 obtain ⟨xs0, ft0, al0, sh0⟩ := KJ tys (by decide) h0
 obtain ⟨a0, rfl, k0⟩ := aHZ _ (by omega) _ ft0
 have e0 := aI2 al0 sh0
 have t1 : Tryz.f4.params[1]? = some 9 := by kernel_rfl
 obtain ⟨b1, rfl⟩ := okWide_string u9 (hval 1 9 v1 t1 rfl)
 obtain ⟨xs1, ft1, al1, Q1⟩ := AM tys (by decide) h1
 obtain ⟨a1, rfl, w1⟩ := Fit.inv_str u9 ft1
 have e1 := R5 al1 rfl rfl
 have t2 : Tryz.f4.params[2]? = some 9 := by kernel_rfl
 obtain ⟨b2, rfl⟩ := okWide_string u9 (hval 2 9 v2 t2 rfl)
 obtain ⟨xs2, ft2, al2, sh2⟩ := AM tys (by decide) h2
 obtain ⟨a2, rfl, w2⟩ := Fit.inv_str u9 ft2
 have e2 := R5 al2 rfl rfl
 refine (Meets.yes KB (av := [.va (.gs (aD a0)), .va (.c1 (.vl (.string a1))), .va (.c1 (.vl (.string a2)))]) (vs := [.agg b0, .string b1, .string b2]) (ro := jR W) (⟨⟨a0, rfl, k0⟩, x7 w1, x7 w2⟩) rfl rfl (fun i x v h1 h2 => by
  match i with
  |0 => cases h1;cases h2;exact e0
  |1 => cases h1;cases h2;exact e1
  |2 => cases h1;cases h2;exact e2
  |i+3 => cases h1) (aF0 W) (aNP W)).mono fun e W' ⟨he, hg⟩ => ?_
 subst he
 exact ⟨_, rfl, UT (tb := 4) aSE aMJ aSL (by rw[hpar];intro t ht;simp at ht;rcases ht with rfl|rfl|rfl <;> exact of_decide_eq_true (by kernel_rfl)) (by kernel_rfl) (by kernel_rfl) rfl hW' rfl hg⟩
theorem aIC (os : Os) (started : os.Started) (H : Type) (enc : TypeId×Value → H) (F : Stop.Interp) :
 ReturnsInHanded {} Tryz.checked os 4 .any ((Rows.OpenSpec.upto Rows.codecDecodesSpec).pre6 enc Tryz.prog Tryz.f4 Rows.codecDecodesUptoRow.domain false) (((Rows.OpenSpec.upto Rows.codecDecodesSpec).at F).post enc Tryz.prog Tryz.f4 false true false false) := by
 refine returnsInHanded_of_cond (C := Tryz.checked) (s := Rows.OpenSpec.upto Rows.codecDecodesSpec) (k := Rows.uptoSmall) rfl own started (by kernel_rfl) Tryz.func4
  (OpenSpec.witness (enc := enc) (C := Tryz.checked) (s := Rows.OpenSpec.upto Rows.codecDecodesSpec) (k := Rows.uptoSmall) rfl false ⟨#[], #[(.agg #[(.int .i64 0), (.slice none 0 0), (.slice none 0 0)]), (.string (mk [])), (.string (mk []))], []⟩ 8 (by kernel_rfl) (by kernel_rfl) (by kernel_rfl)
    (x := ([.agg [.lit (.int .i64 0), .nil, .nil], .lit (.string []), .lit (.string [])], [], [])) (by kernel_rfl) rfl (by kernel_rfl)) ?_
 intro W base args ds gs before hval hW _ hk _
 exact UO H enc W base args ds gs before hval hW hk
theorem proved : Rows.CodecDecodesUptoSaid :=
 OpenClaim.holds_of_cond 4 Tryz.f4 rfl rfl rfl rfl rfl rfl rfl ⟨rfl, rfl, rfl, rfl, rfl⟩ rfl rfl rfl rfl rfl (by kernel_rfl) Tryz.func4 (by kernel_rfl)
  (of_decide_eq_true (by kernel_rfl)) (by unfold Func.isWrapper;first|(rw[if_pos (by decide +kernel)];kernel_rfl)|(rw[if_neg (by decide +kernel)];exact ⟨rfl, rfl⟩))
  (fun os started H enc _ F => aIC os started H enc F)
end Go.Proofs.YthpbnmebjocbeaaGreat.decodes
