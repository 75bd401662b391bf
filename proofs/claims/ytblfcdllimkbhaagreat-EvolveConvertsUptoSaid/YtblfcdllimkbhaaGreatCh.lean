/- Proved: roboticslaw12.EvolveConverts returns true at all pairs of schemas and every value whose bulk is at most 1048576, and changes nothing that stood before. Conditions: the bound of the given UptoSaid statement, none beyond. -/
import Derived.Test.YtblfcdllimkbhaaGreatCg
import Derived.Test.YtblfcdllimkbhaaGreatRows
import Derived.WalkKit
import Derived.ProofKit
import Derived.OpenShut
import Derived.Lib.SmallJoins
import Derived.JoinedCond
set_option maxRecDepth 100000
set_option maxHeartbeats 8000000
namespace Go.Proofs.YtblfcdllimkbhaaGreat.converts
open Go.ChangeShapes Go.ChangeMaps Go.WideShapes Go.ChangeAt Go.RowKit Go.W
theorem own : ownKnob Tryz.prog.godebug = none := by kernel_rfl
theorem a5Z : laidOutB Tryz.prog = true := by kernel_rfl
theorem a0L : mapsRowed Tryz.prog = true := by kernel_rfl
theorem a6C : AZ Tryz.prog = true := by kernel_rfl
theorem u25 : Tryz.prog.underlying 25 = some (.struct #[⟨"Version", 3, 0, false, "", "", 0⟩, ⟨"Enums", 22, 1, false, "", "", 8⟩, ⟨"Structs", 23, 2, false, "", "", 32⟩]) := by kernel_rfl
theorem u29 : Tryz.prog.underlying 29 = some (.struct #[⟨"Kind", 3, 0, false, "", "", 0⟩, ⟨"N", 2, 1, false, "", "", 8⟩, ⟨"S", 9, 2, false, "", "", 16⟩, ⟨"L", 26, 3, false, "", "", 32⟩, ⟨"F", 27, 4, false, "", "", 56⟩]) := by kernel_rfl
theorem tys : Y8 Tryz.prog [25, 3, 22, 70, 9, 67, 68, 23, 50, 48, 47, 45, 43, 4, 29, 2, 26, 27, 42] = true := by kernel_rfl
theorem a1I (W : World) : GR Tryz.prog (uZ W) W := fun x hx g hg => by
 obtain rfl := List.mem_singleton.1 hx
 have h : Tryz.prog.globalNamed "internal/strconv.uint64pow10" = none := by kernel_rfl
 cases h.symm.trans hg
theorem aGS (H : Type) (enc : TypeId×Value → H) (W : World) (base : Nat) (args : Array Value) (ds gs : List (DataW H)) (before : List MemPlace)
 (hval : ∀(j : Nat) t v, Tryz.f3.params[j]? = some t → args[j]? = some v → Value.okWide Tryz.prog W .any base t v)
 (hW : DataW.Whole enc Tryz.prog Tryz.f3.params.toList Rows.evolveConvertsSpec.vars false W args.toList ds gs before)
 (hk : Rows.uptoSmall H (ds++gs) = true) :
 Calls Tryz.prog 3 args W fun e W' => ∃v, e = .returned v ∧ Rows.evolveConvertsSpec.post enc Tryz.prog Tryz.f3 false true false false W args v W' := by
 have hpar : Tryz.f3.params.toList = [25, 25, 29] := by kernel_rfl
 have hW' := hW
 obtain ⟨p, q, hA0, hV, rfl, hfz, hnd⟩ := hW
 have hA : DataW.TrodAll enc Tryz.prog W 0 (fun _ => true) true Tryz.f3.params.toList args.toList ds p := hA0
 rw[hpar] at hA
 obtain ⟨v0, vs0, d0, ds0, p0, q0, hargs, rfl, rfl, h0, r0⟩ := trodAll_cons hA
 obtain ⟨v1, vs1, d1, ds1, p1, q1, rfl, rfl, rfl, h1, r1⟩ := trodAll_cons r0
 obtain ⟨v2, vs2, d2, ds2, p2, q2, rfl, rfl, rfl, h2, r2⟩ := trodAll_cons r1
 obtain ⟨rfl, rfl, rfl⟩ := trodAll_nil r2
 obtain rfl : args = #[v0, v1, v2] := by cases args;simp_all
 obtain ⟨rfl, rfl⟩ := trodVars_none hV
 have hb : Rows.uptoBulkAll ([d0, d1, d2]++[]) ≤ 1048576 := of_decide_eq_true hk
 simp only[List.append_nil, Rows.uptoBulkAll] at hb
 have t0 : Tryz.f3.params[0]? = some 25 := by kernel_rfl
 obtain ⟨b0, rfl, _⟩ := okWide_struct u25 (hval 0 25 v0 t0 rfl)
 obtain ⟨xs0, ft0, al0, sh0⟩ := xK tys (by decide) h0
 obtain ⟨a0, rfl, k0⟩ := aBQ _ (by omega) _ ft0
 have e0 := TA al0 sh0
 have t1 : Tryz.f3.params[1]? = some 25 := by kernel_rfl
 obtain ⟨b1, rfl, _⟩ := okWide_struct u25 (hval 1 25 v1 t1 rfl)
 obtain ⟨xs1, ft1, al1, WD⟩ := xK tys (by decide) h1
 obtain ⟨a1, rfl, k1⟩ := aBQ _ (by omega) _ ft1
 have e1 := TA al1 WD
 have t2 : Tryz.f3.params[2]? = some 29 := by kernel_rfl
 obtain ⟨b2, rfl, _⟩ := okWide_struct u29 (hval 2 29 v2 t2 rfl)
 obtain ⟨xs2, ft2, al2, sh2⟩ := xK tys (by decide) h2
 obtain ⟨a2, rfl, k2⟩ := aRB _ (by omega) _ ft2
 have e2 := TA al2 sh2
 refine (Meets.yes QZ (av := [.va (.gs (aA a0)), .va (.gs (aA a1)), .va (.gs (aW a2))]) (vs := [.agg b0, .agg b1, .agg b2]) (ro := uZ W) (⟨⟨a0, rfl, k0⟩, ⟨a1, rfl, k1⟩, a2, rfl, k2.1, by have := k2.2;omega⟩) rfl rfl (fun i x v h1 h2 => by
  match i with
  |0 => cases h1;cases h2;exact e0
  |1 => cases h1;cases h2;exact e1
  |2 => cases h1;cases h2;exact e2
  |i+3 => cases h1) (aS9 W) (a1I W)).mono fun e W' ⟨he, hg⟩ => ?_
 subst he
 exact ⟨_, rfl, aGX (tb := 4) a5Z a0L a6C (by rw[hpar];intro t ht;simp at ht;rcases ht with rfl|rfl|rfl <;> exact of_decide_eq_true (by kernel_rfl)) (by kernel_rfl) (by kernel_rfl) rfl hW' rfl hg⟩
theorem aVU (os : Os) (started : os.Started) (H : Type) (enc : TypeId×Value → H) (F : Stop.Interp) :
 ReturnsInHanded {} Tryz.checked os 3 .any ((Rows.OpenSpec.upto Rows.evolveConvertsSpec).pre6 enc Tryz.prog Tryz.f3 Rows.evolveConvertsUptoRow.domain false) (((Rows.OpenSpec.upto Rows.evolveConvertsSpec).at F).post enc Tryz.prog Tryz.f3 false true false false) := by
 refine returnsInHanded_of_cond (C := Tryz.checked) (s := Rows.OpenSpec.upto Rows.evolveConvertsSpec) (k := Rows.uptoSmall) rfl own started (by kernel_rfl) Tryz.func3
  (OpenSpec.witness (enc := enc) (C := Tryz.checked) (s := Rows.OpenSpec.upto Rows.evolveConvertsSpec) (k := Rows.uptoSmall) rfl false ⟨#[], #[(.agg #[(.int .i64 0), (.slice none 0 0), (.slice none 0 0)]), (.agg #[(.int .i64 0), (.slice none 0 0), (.slice none 0 0)]), (.agg #[(.int .i64 0), (.int .i64 0), (.string (mk [])), (.slice none 0 0), (.slice none 0 0)])], []⟩ 8 (by kernel_rfl) (by kernel_rfl) (by kernel_rfl)
    (x := ([.agg [.lit (.int .i64 0), .nil, .nil], .agg [.lit (.int .i64 0), .nil, .nil], .agg [.lit (.int .i64 0), .lit (.int .i64 0), .lit (.string []), .nil, .nil]], [], [])) (by kernel_rfl) rfl (by kernel_rfl)) ?_
 intro W base args ds gs before hval hW _ hk _
 exact aGS H enc W base args ds gs before hval hW hk
theorem proved : Rows.EvolveConvertsUptoSaid :=
 OpenClaim.holds_of_cond 3 Tryz.f3 rfl rfl rfl rfl rfl rfl rfl ⟨rfl, rfl, rfl, rfl, rfl⟩ rfl rfl rfl rfl rfl (by kernel_rfl) Tryz.func3 (by kernel_rfl)
  (of_decide_eq_true (by kernel_rfl)) (by unfold Func.isWrapper;first|(rw[if_pos (by decide +kernel)];kernel_rfl)|(rw[if_neg (by decide +kernel)];exact ⟨rfl, rfl⟩))
  (fun os started H enc _ F => aVU os started H enc F)
end Go.Proofs.YtblfcdllimkbhaaGreat.converts
