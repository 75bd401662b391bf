/- Proved: roboticslaw08.SchematextRoundTrip returns true at every schema whose bulk is at most 1048576, and changes nothing that stood before. Conditions: the bound of the given UptoSaid statement, none beyond. -/
import Derived.Test.YtgogpogophflhaaGreatDoorRf
import Derived.Test.YtgogpogophflhaaGreatDoorRows
import Derived.Test.YtgogpogophflhaaGreatDoorTie
import Derived.Test.YtgogpogophflhaaGreatDoorCards
import Derived.WalkKit
import Derived.ProofKit
import Derived.OpenShut
import Derived.Lib.SmallJoins
import Derived.SizedLaws
import Derived.JoinedCond
import Derived.LaidMore
import Derived.Stop.Joined
import Derived.Lib.LaidTab
import Derived.SevenTiedAt
import Derived.Deep.DeepHandedRow
set_option maxRecDepth 100000
set_option maxHeartbeats 8000000
namespace Go.Proofs.YtgogpogophflhaaGreatDoor.roundtrip
open Go.ChangeShapes Go.ChangeMaps Go.WideShapes Go.ChangeAt Go.RowKit Go.W
theorem own : ownKnob Tryz.prog.godebug = none := by kernel_rfl
theorem laid : laidOutB Tryz.prog = true := by kernel_rfl
theorem ZC : mapsRowed Tryz.prog = true := by kernel_rfl
theorem aBT : qA Tryz.prog = true := by kernel_rfl
theorem u25 : Tryz.prog.underlying 25 = some (.struct #[⟨"Version", 3, 0, false, "", "", 0⟩, ⟨"Enums", 22, 1, false, "", "", 8⟩, ⟨"Structs", 23, 2, false, "", "", 32⟩]) := by kernel_rfl
theorem VV : I2 Tryz.prog [25, 3, 22, 62, 9, 52, 58, 23, 56, 54, 64, 37, 35, 4] = true := by kernel_rfl
/-- What the row lists gives the table that the contracts read. -/
theorem ZU {W : World} (h : laidMetH Tryz.prog Rows.schematextRoundTripUptoRow.laid W) : GR Tryz.prog (m3 W) W := by
 have h := h.filter (fun x => x.1 == "internal/strconv.uint64pow10")
 have h1 : laidMetH Tryz.prog [("internal/strconv.uint64pow10", Lib.tabData .u64 Lib.pow10Tab)] W := h
 rw [MakeChecks.laidMetH_plain _ _ _ (by kernel_rfl)] at h1
 obtain ⟨g, hg, t, hty, n, e, ht, he, hce, hct⟩ : ∃ g, Tryz.prog.globalNamed "internal/strconv.uint64pow10" = some g ∧ ∃ t, (Tryz.prog.globals[g]?).map (·.type) = some t ∧ ∃ n e, Tryz.prog.underlying t = some (.array n e) ∧ Tryz.prog.underlying e = some (.int .u64) ∧ Tryz.prog.cellsOf e = 1 ∧ Tryz.prog.cellsOf t = n :=
  ⟨0, by kernel_rfl, 170, by kernel_rfl, 20, 127, by kernel_rfl, by kernel_rfl, by kernel_rfl, by kernel_rfl⟩
 have htab := Lib.tabIs_of_head hg hty ht he hce hct h1
 intro x hx g' hg'
 obtain rfl := List.mem_singleton.1 hx
 obtain rfl := Option.some.inj (hg.symm.trans hg')
 refine ⟨⟨_, htab.cell hg 0 (by decide)⟩, ?_⟩
 unfold Lib.TabIs at htab
 rw [htab, Lib.pow10Tab, List.map_map]
 rfl
/-- The door's own heap meets the condition. -/
theorem NN (os : Os) (args : Array Value) : laidMetH Tryz.prog Rows.schematextRoundTripUptoRow.laid ((World.doorLaid Tryz.prog 24 os).forCall (fun _ _ => 0) ⟨#[], args, []⟩).memory :=
 laidMetH_of_parts3 (fuel := 8) (laidMet_of_run' 8 (by kernel_rfl) (by kernel_rfl)) (by kernel_rfl) (by kernel_rfl)
theorem ND (H : Type) (enc : TypeId × Value → H) (W : World) (base : Nat) (args : Array Value) (ds gs : List (DataW H)) (before : List MemPlace)
 (hval : ∀ (j : Nat) t v, Tryz.f3.params[j]? = some t → args[j]? = some v → Value.okWide Tryz.prog W .any base t v)
 (hW : DataW.Whole enc Tryz.prog Tryz.f3.params.toList Rows.schematextRoundTripSpec.vars false W args.toList ds gs before)
 (hwt : (DataW.weightsEach Tryz.prog (Tryz.f3.params.toList ++ Rows.schematextRoundTripSpec.plain.varTypes Tryz.prog) (ds ++ gs)).all (· ≤ reachBytes) = true)
 (hk : Rows.uptoSmall H (ds ++ gs) = true)
 (hL : laidMetH Tryz.prog Rows.schematextRoundTripUptoRow.laid W) :
 Calls Tryz.prog 3 args W fun e W' => ∃ v, e = .returned v ∧ Rows.schematextRoundTripSpec.post enc Tryz.prog Tryz.f3 false true false false W args v W' := by
 have hpar : Tryz.f3.params.toList = [25] := by kernel_rfl
 have hW' := hW
 obtain ⟨p, q, hA0, hV, rfl, hfz, hnd⟩ := hW
 have hA : DataW.TrodAll enc Tryz.prog W 0 (fun _ => true) true Tryz.f3.params.toList args.toList ds p := hA0
 rw [hpar] at hA
 rw [hpar] at hwt
 obtain ⟨v0, vs0, d0, ds0, p0, q0, hargs, rfl, rfl, h0, r0⟩ := trodAll_cons hA
 obtain ⟨rfl, rfl, rfl⟩ := trodAll_nil r0
 obtain rfl : args = #[v0] := by cases args; simp_all
 obtain ⟨rfl, rfl⟩ := trodVars_none hV
 have hb : Rows.uptoBulkAll ([d0] ++ []) ≤ 1048576 := of_decide_eq_true hk
 simp only [List.append_nil, Rows.uptoBulkAll] at hb
 have t0 : Tryz.f3.params[0]? = some 25 := by kernel_rfl
 obtain ⟨b0, rfl, _⟩ := okWide_struct u25 (hval 0 25 v0 t0 rfl)
 obtain ⟨xs0, ft0, al0, sh0⟩ := FJ VV (by decide) h0
 obtain ⟨a0, rfl, k0⟩ := V8 _ (by omega) _ ft0
 have e0 := WT al0 sh0
 refine (Meets.yes JI (av := [.va (.gs (aA a0))]) (vs := [.agg b0]) (ro := m3 W) (⟨a0, rfl, k0⟩) rfl rfl (fun i x v h1 h2 => by
  match i with
  | 0 => cases h1; cases h2; exact e0
  | i + 1 => cases h1) (UZ W) (ZU hL)).mono fun e W' ⟨he, hg⟩ => ?_
 subst he
 exact ⟨_, rfl, NJ (tb := 4) laid ZC aBT (by rw [hpar]; intro t ht; simp at ht; subst ht; exact of_decide_eq_true (by kernel_rfl)) (by kernel_rfl) (by kernel_rfl) rfl hW' rfl hg⟩
theorem YT (os : Os) {H : Type} (enc : TypeId × Value → H) : ∃ places, DataW.whole enc Tryz.prog ((World.doorLaid Tryz.prog 24 os).forCall (fun _ _ => 0) ⟨#[], #[(.agg #[(.int .i64 0), (.slice none 0 0), (.slice none 0 0)])], []⟩).memory Tryz.f3.params.toList (Rows.OpenSpec.upto Rows.schematextRoundTripSpec).vars false #[(.agg #[(.int .i64 0), (.slice none 0 0), (.slice none 0 0)])].toList 8 = some ([.agg [.lit (.int .i64 0), .nil, .nil]], [], places) := ⟨[], by kernel_rfl⟩
theorem WF (os : Os) (started : os.Started) (H : Type) (enc : TypeId × Value → H) (F : Stop.Interp) :
 ReturnsInHanded {} Tryz.checked os 3 .any ((Rows.OpenSpec.upto Rows.schematextRoundTripSpec).preRow enc Tryz.prog Tryz.f3 Rows.schematextRoundTripUptoRow.domain false Rows.schematextRoundTripUptoRow.laid) (((Rows.OpenSpec.upto Rows.schematextRoundTripSpec).at F).post enc Tryz.prog Tryz.f3 false true false false) := by
 obtain ⟨places, hx⟩ := YT os enc
 refine returnsInHanded_of_row (C := Tryz.checked) (s := Rows.OpenSpec.upto Rows.schematextRoundTripSpec) own started (by kernel_rfl) Tryz.func3
  (witness_row_at (enc := enc) (C := Tryz.checked) false (World.doorLaid Tryz.prog 24 os) #[(.agg #[(.int .i64 0), (.slice none 0 0), (.slice none 0 0)])] rfl (by kernel_rfl) (by kernel_rfl) (by kernel_rfl)
    (OpenSpec.preRow_of_cond 8 hx (by kernel_rfl) (fun k hk => by cases hk; kernel_rfl) (by kernel_rfl) (NN os _))) ?_
 intro W base args ds gs before hval hW _ hcond hwt hL _ _
 exact ND H enc W base args ds gs before hval hW hwt (hcond _ rfl) hL
theorem aCL : Rows.SchematextRoundTripUptoSaid :=
 OpenClaim.holds_of_cond 3 Tryz.f3 rfl rfl rfl rfl rfl rfl rfl ⟨rfl, rfl, rfl, rfl, rfl⟩ rfl rfl rfl rfl rfl (by kernel_rfl) Tryz.func3 (by kernel_rfl)
  (of_decide_eq_true (by kernel_rfl)) (by unfold Func.isWrapper; first | (rw [if_pos (by decide +kernel)]; kernel_rfl) | (rw [if_neg (by decide +kernel)]; exact ⟨rfl, rfl⟩))
  (fun os started H enc _ F => by rw [OpenClaim.pre_eq_preRow]; exact WF os started H enc F)
theorem proved : Rows.SchematextRoundTripUptoCardSaid :=
 Claim7.holds_tied_plain_at .later [] _ _ _ _
  aCL (fun _ h => by cases h) (by kernel_rfl) (fun _ h => by cases h) schematextRoundTripUpto_row_tie rfl ⟨rfl, rfl⟩ (by kernel_rfl) rfl
  (fun f fn hf hfn => by
    obtain rfl : f = 3 := Option.some.inj ((show Tryz.prog.funcNamed "robotics/roboticslaw08.SchematextRoundTrip" = some 3 by kernel_rfl).symm.trans hf) |>.symm
    obtain rfl : fn = Tryz.f3 := (Option.some.inj (Tryz.func3.symm.trans hfn)).symm
    exact ⟨by kernel_rfl, fun j t ht => by
     have hp : Tryz.f3.params.toList = [25] := by kernel_rfl
     have hm : t ∈ [25] := by rw [← hp]; exact Array.mem_toList_iff.2 (Array.mem_of_getElem? ht)
     have hall : ([25].all fun u => !Tryz.prog.wantsStandIn u) = true := by kernel_rfl
     exact (show Tryz.prog.wantsStandIn t = false by simpa using List.all_eq_true.1 hall t hm)⟩)
  (by kernel_rfl)
end Go.Proofs.YtgogpogophflhaaGreatDoor.roundtrip
