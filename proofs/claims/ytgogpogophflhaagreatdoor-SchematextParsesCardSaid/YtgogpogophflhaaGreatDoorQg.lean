/- Proved: roboticslaw08.SchematextParses returns true at every text, and changes nothing that stood before. Conditions: none beyond the given statement. -/
import Derived.Test.YtgogpogophflhaaGreatDoorQf
import Derived.Test.YtgogpogophflhaaGreatDoorRows
import Derived.Test.YtgogpogophflhaaGreatDoorTie
import Derived.Test.YtgogpogophflhaaGreatDoorCards
import Derived.WalkKit
import Derived.ProofKit
import Derived.OpenShut
import Derived.Lib.SmallJoins
import Derived.SizedLaws
import Derived.LaidMore
import Derived.Stop.Joined
import Derived.Lib.LaidTab
import Derived.SevenTiedAt
set_option maxRecDepth 100000
set_option maxHeartbeats 8000000
namespace Go.Proofs.YtgogpogophflhaaGreatDoor.parses
open Go.ChangeShapes Go.ChangeMaps Go.WideShapes Go.ChangeAt Go.RowKit Go.W
theorem own : ownKnob Tryz.prog.godebug = none := by kernel_rfl
theorem laid : laidOutB Tryz.prog = true := by kernel_rfl
theorem aHI : mapsRowed Tryz.prog = true := by kernel_rfl
theorem aKR : sY Tryz.prog = true := by kernel_rfl
theorem u9 : Tryz.prog.underlying 9 = some (.string) := by kernel_rfl
theorem tys : N8 Tryz.prog [9] = true := by kernel_rfl
/-- What the row lists gives the table that the contracts read. -/
theorem aH7 {W : World} (h : laidMetH Tryz.prog Rows.schematextParsesRow.laid W) : GR Tryz.prog (oY W) W := by
 have h := h.filter (fun x => x.1 == "internal/strconv.uint64pow10")
 have h1 : laidMetH Tryz.prog [("internal/strconv.uint64pow10", Lib.tabData .u64 Lib.pow10Tab)] W := h
 rw [MakeChecks.laidMetH_plain _ _ _ (by kernel_rfl)] at h1
 obtain ⟨g, hg, t, hty, n, e, ht, he, hce, hct⟩ : ∃ g, Tryz.prog.globalNamed "internal/strconv.uint64pow10" = some g ∧ ∃ t, (Tryz.prog.globals[g]?).map (·.type) = some t ∧ ∃ n e, Tryz.prog.underlying t = some (.array n e) ∧ Tryz.prog.underlying e = some (.int .u64) ∧ Tryz.prog.cellsOf e = 1 ∧ Tryz.prog.cellsOf t = n :=
  ⟨0, by kernel_rfl, 170, by kernel_rfl, 20, 127, by kernel_rfl, by kernel_rfl, by kernel_rfl, by kernel_rfl⟩
 have htab := Lib.tabIs_of_head hg hty ht he hce hct h1
 intro x hx g' hg'
 obtain rfl := List.mem_singleton.1 hx
 obtain rfl := Option.some.inj (hg.symm.trans hg')
 refine ⟨⟨_, htab.cell hg 0 (by decide)⟩, ?_⟩
 unfold Lib.TabIs at htab
 rw [htab, Lib.pow10Tab, List.map_map]
 rfl
/-- The door's own heap meets the condition. -/
theorem TX (os : Os) (args : Array Value) : laidMetH Tryz.prog Rows.schematextParsesRow.laid ((World.doorLaid Tryz.prog 24 os).forCall (fun _ _ => 0) ⟨#[], args, []⟩).memory :=
 laidMetH_of_parts3 (fuel := 8) (laidMet_of_run' 8 (by kernel_rfl) (by kernel_rfl)) (by kernel_rfl) (by kernel_rfl)
theorem TK (H : Type) (enc : TypeId × Value → H) (W : World) (base : Nat) (args : Array Value) (ds gs : List (DataW H)) (before : List MemPlace)
 (hval : ∀ (j : Nat) t v, Tryz.f5.params[j]? = some t → args[j]? = some v → Value.okWide Tryz.prog W .any base t v)
 (hW : DataW.Whole enc Tryz.prog Tryz.f5.params.toList Rows.schematextParsesSpec.vars false W args.toList ds gs before)
 (hwt : (DataW.weightsEach Tryz.prog (Tryz.f5.params.toList ++ Rows.schematextParsesSpec.plain.varTypes Tryz.prog) (ds ++ gs)).all (· ≤ reachBytes) = true)
 (hL : laidMetH Tryz.prog Rows.schematextParsesRow.laid W) :
 Calls Tryz.prog 5 args W fun e W' => ∃ v, e = .returned v ∧ Rows.schematextParsesSpec.post enc Tryz.prog Tryz.f5 false true false false W args v W' := by
 have hpar : Tryz.f5.params.toList = [9] := by kernel_rfl
 have hW' := hW
 obtain ⟨p, q, hA0, hV, rfl, hfz, hnd⟩ := hW
 have hA : DataW.TrodAll enc Tryz.prog W 0 (fun _ => true) true Tryz.f5.params.toList args.toList ds p := hA0
 rw [hpar] at hA
 rw [hpar] at hwt
 obtain ⟨v0, vs0, d0, ds0, p0, q0, hargs, rfl, rfl, h0, r0⟩ := trodAll_cons hA
 obtain ⟨rfl, rfl, rfl⟩ := trodAll_nil r0
 obtain rfl : args = #[v0] := by cases args; simp_all
 obtain ⟨rfl, rfl⟩ := trodVars_none hV
 have t0 : Tryz.f5.params[0]? = some 9 := by kernel_rfl
 obtain ⟨b0, rfl⟩ := okWide_string u9 (hval 0 9 v0 t0 rfl)
 obtain ⟨xs0, ft0, al0, sh0⟩ := N2 tys (by decide) h0
 obtain ⟨a0, rfl, w0⟩ := Fit.inv_str u9 ft0
 have e0 := aFF al0 rfl rfl
 refine (Meets.yes J5 (av := [.va (.c1 (.vl (.string a0)))]) (vs := [.string b0]) (ro := oY W) (w0) rfl rfl (fun i x v h1 h2 => by
  match i with
  | 0 => cases h1; cases h2; exact e0
  | i + 1 => cases h1) (aCD W) (aH7 hL)).mono fun e W' ⟨he, hg⟩ => ?_
 subst he
 exact ⟨_, rfl, TQ (tb := 4) laid aHI aKR (by rw [hpar]; intro t ht; simp at ht; subst ht; exact of_decide_eq_true (by kernel_rfl)) (by kernel_rfl) (by kernel_rfl) rfl hW' rfl hg⟩
theorem aD1 (os : Os) (started : os.Started) (H : Type) (enc : TypeId × Value → H) :
 ReturnsInHanded {} Tryz.checked os 5 .any (fun w args => (Rows.schematextParsesSpec.pre enc Tryz.prog Tryz.f5 [] false w args ∧ laidMetH Tryz.prog Rows.schematextParsesRow.laid w) ∧ sizedMet enc Tryz.prog Tryz.f5 (OpenSpec.ofChange Rows.schematextParsesSpec) false w args)
  (Rows.schematextParsesSpec.post enc Tryz.prog Tryz.f5 false true false false) := by
 refine returnsInHanded_of_change_and (C := Tryz.checked) (X := fun w _ => laidMetH Tryz.prog Rows.schematextParsesRow.laid w) (fun _ _ _ hh h => h.of_heap hh) own started (by kernel_rfl) Tryz.func5
  (ChangeSpec.witness_shaped (enc := enc) (C := Tryz.checked) (os := os) (X := fun w _ => laidMetH Tryz.prog Rows.schematextParsesRow.laid w) false (World.doorLaid Tryz.prog 24 os) #[(.string (mk []))] 8 rfl (World.shaped_of_RefB (by kernel_rfl) (by kernel_rfl)) (by kernel_rfl) (by kernel_rfl) (by kernel_rfl) (TX os _)) ?_
 intro W base args ds gs before hval hW _ hwt hL _
 exact TK H enc W base args ds gs before hval hW hwt hL
theorem aLN : Rows.SchematextParsesSaid :=
 OpenClaim.holds_of_wide 5 Tryz.f5 rfl rfl rfl rfl rfl rfl rfl ⟨rfl, rfl, rfl, rfl, rfl⟩ rfl rfl rfl rfl rfl (by kernel_rfl) Tryz.func5 (by kernel_rfl)
  (of_decide_eq_true (by kernel_rfl)) (by unfold Func.isWrapper; first | (rw [if_pos (by decide +kernel)]; kernel_rfl) | (rw [if_neg (by decide +kernel)]; exact ⟨rfl, rfl⟩))
  (fun os started H enc _ => aD1 os started H enc)
theorem proved : Rows.SchematextParsesCardSaid :=
 Claim7.holds_tied_plain_at .later [] [.data, .data, .data] true (true, "cd255e2a803a45c243eee6471fbe1985a9251eabeeb72924fca72b5f499f1d01") false
  aLN (fun _ h => by cases h) (by kernel_rfl) (fun _ h => by cases h) schematextParses_row_tie rfl ⟨rfl, rfl⟩ (by kernel_rfl) rfl
  (fun f fn hf hfn => by
    obtain rfl : f = 5 := Option.some.inj ((show Tryz.prog.funcNamed "robotics/roboticslaw08.SchematextParses" = some 5 by kernel_rfl).symm.trans hf) |>.symm
    obtain rfl : fn = Tryz.f5 := (Option.some.inj (Tryz.func5.symm.trans hfn)).symm
    exact ⟨by kernel_rfl, fun j t ht => by
     have hp : Tryz.f5.params.toList = [9] := by kernel_rfl
     have hm : t ∈ [9] := by rw [← hp]; exact Array.mem_toList_iff.2 (Array.mem_of_getElem? ht)
     have hall : ([9].all fun u => !Tryz.prog.wantsStandIn u) = true := by kernel_rfl
     exact (show Tryz.prog.wantsStandIn t = false by simpa using List.all_eq_true.1 hall t hm)⟩)
  (by kernel_rfl)
end Go.Proofs.YtgogpogophflhaaGreatDoor.parses
