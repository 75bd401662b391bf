/- Proved: roboticslaw10.ValuetextShortest returns true at every schema, type and text, and changes nothing that stood before. Conditions: none beyond the given statement. -/
import Derived.Test.YtkpohmhenegkiaaGreatDoorHf
import Derived.Test.YtkpohmhenegkiaaGreatDoorRows
import Derived.Test.YtkpohmhenegkiaaGreatDoorTie
import Derived.Test.YtkpohmhenegkiaaGreatDoorCards
import Derived.WalkKit
import Derived.ProofKit
import Derived.OpenShut
import Derived.Lib.SmallJoins
import Derived.SizedLaws
import Derived.LaidMore
import Derived.Stop.Joined
import Derived.Lib.LaidTab
import Derived.SevenTiedAt
set_option maxRecDepth 100000
set_option maxHeartbeats 8000000
namespace Go.Proofs.YtkpohmhenegkiaaGreatDoor.shortest
open Go.ChangeShapes Go.ChangeMaps Go.WideShapes Go.ChangeAt Go.RowKit Go.W
theorem own : ownKnob Tryz.prog.godebug = none := by kernel_rfl
theorem laid : laidOutB Tryz.prog = true := by kernel_rfl
theorem aJ6 : mapsRowed Tryz.prog = true := by kernel_rfl
theorem aNL : sF Tryz.prog = true := by kernel_rfl
theorem u3 : Tryz.prog.underlying 3 = some (.int .i64) := by kernel_rfl
theorem u9 : Tryz.prog.underlying 9 = some (.string) := by kernel_rfl
theorem u89 : Tryz.prog.underlying 89 = some (.slice 9) := by kernel_rfl
theorem u90 : Tryz.prog.underlying 90 = some (.slice 3) := by kernel_rfl
theorem u92 : Tryz.prog.underlying 92 = some (.struct #[⟨"Name", 9, 0, false, "", "", 0⟩, ⟨"Names", 89, 1, false, "", "", 16⟩, ⟨"Numbers", 90, 2, false, "", "", 40⟩]) := by kernel_rfl
theorem u22 : Tryz.prog.underlying 22 = some (.slice 92) := by kernel_rfl
theorem u26 : Tryz.prog.underlying 26 = some (.slice 28) := by kernel_rfl
theorem u28 : Tryz.prog.underlying 28 = some (.struct #[⟨"Kind", 3, 0, false, "", "", 0⟩, ⟨"Size", 3, 1, false, "", "", 8⟩, ⟨"Name", 9, 2, false, "", "", 16⟩, ⟨"Elem", 26, 3, false, "", "", 32⟩]) := by kernel_rfl
theorem u4 : Tryz.prog.underlying 4 = some (.bool) := by kernel_rfl
theorem u97 : Tryz.prog.underlying 97 = some (.struct #[⟨"Number", 3, 0, false, "", "", 0⟩, ⟨"Name", 9, 1, false, "", "", 8⟩, ⟨"Type", 28, 2, false, "", "", 24⟩, ⟨"Optional", 4, 6, false, "", "", 80⟩]) := by kernel_rfl
theorem u93 : Tryz.prog.underlying 93 = some (.slice 97) := by kernel_rfl
theorem u95 : Tryz.prog.underlying 95 = some (.struct #[⟨"Name", 9, 0, false, "", "", 0⟩, ⟨"Fields", 93, 1, false, "", "", 16⟩]) := by kernel_rfl
theorem u23 : Tryz.prog.underlying 23 = some (.slice 95) := by kernel_rfl
theorem u25 : Tryz.prog.underlying 25 = some (.struct #[⟨"Version", 3, 0, false, "", "", 0⟩, ⟨"Enums", 22, 1, false, "", "", 8⟩, ⟨"Structs", 23, 2, false, "", "", 32⟩]) := by kernel_rfl
theorem tys : PK Tryz.prog [25, 3, 22, 92, 9, 89, 90, 23, 95, 93, 97, 28, 26, 4] = true := by kernel_rfl
/-- What the row lists gives the table that the contracts read. -/
theorem aKU {W : World} (h : laidMetH Tryz.prog Rows.valuetextShortestRow.laid W) : GR Tryz.prog (mG W) W := by
 have h := h.filter (fun x => x.1 == "internal/strconv.uint64pow10")
 have h1 : laidMetH Tryz.prog [("internal/strconv.uint64pow10", Lib.tabData .u64 Lib.pow10Tab)] W := h
 rw [MakeChecks.laidMetH_plain _ _ _ (by kernel_rfl)] at h1
 obtain ⟨g, hg, t, hty, n, e, ht, he, hce, hct⟩ : ∃ g, Tryz.prog.globalNamed "internal/strconv.uint64pow10" = some g ∧ ∃ t, (Tryz.prog.globals[g]?).map (·.type) = some t ∧ ∃ n e, Tryz.prog.underlying t = some (.array n e) ∧ Tryz.prog.underlying e = some (.int .u64) ∧ Tryz.prog.cellsOf e = 1 ∧ Tryz.prog.cellsOf t = n :=
  ⟨0, by kernel_rfl, 184, by kernel_rfl, 20, 139, by kernel_rfl, by kernel_rfl, by kernel_rfl, by kernel_rfl⟩
 have htab := Lib.tabIs_of_head hg hty ht he hce hct h1
 intro x hx g' hg'
 obtain rfl := List.mem_singleton.1 hx
 obtain rfl := bG (hg.symm.trans hg')
 refine ⟨⟨_, htab.cell hg 0 (by decide)⟩, ?_⟩
 unfold Lib.TabIs at htab
 rw [htab, Lib.pow10Tab, List.map_map]
 rfl
/-- The door's own heap meets the condition. -/
theorem WM (os : Os) (args : Array Value) : laidMetH Tryz.prog Rows.valuetextShortestRow.laid ((World.doorLaid Tryz.prog 24 os).forCall (fun _ _ => 0) ⟨#[], args, []⟩).memory :=
 laidMetH_of_parts3 (fuel := 8) (laidMet_of_run' 8 (by kernel_rfl) (by kernel_rfl)) (by kernel_rfl) (by kernel_rfl)
theorem V2 (H : Type) (enc : TypeId × Value → H) (W : World) (base : Nat) (args : Array Value) (ds gs : List (DataW H)) (before : List MemPlace)
 (hval : ∀ (j : Nat) t v, Tryz.f7.params[j]? = some t → args[j]? = some v → Value.okWide Tryz.prog W .any base t v)
 (hW : DataW.Whole enc Tryz.prog Tryz.f7.params.toList Rows.valuetextShortestSpec.vars false W args.toList ds gs before)
 (hwt : (DataW.weightsEach Tryz.prog (Tryz.f7.params.toList ++ Rows.valuetextShortestSpec.plain.varTypes Tryz.prog) (ds ++ gs)).all (· ≤ reachBytes) = true)
 (hL : laidMetH Tryz.prog Rows.valuetextShortestRow.laid W) :
 Calls Tryz.prog 7 args W fun e W' => ∃ v, e = .returned v ∧ Rows.valuetextShortestSpec.post enc Tryz.prog Tryz.f7 false true false false W args v W' := by
 have hpar : Tryz.f7.params.toList = [25, 28, 9] := by kernel_rfl
 have hW' := hW
 obtain ⟨p, q, hA0, hV, rfl, hfz, hnd⟩ := hW
 have hA : DataW.TrodAll enc Tryz.prog W 0 (fun _ => true) true Tryz.f7.params.toList args.toList ds p := hA0
 rw [hpar] at hA
 rw [hpar] at hwt
 obtain ⟨v0, vs0, d0, ds0, p0, q0, hargs, rfl, rfl, h0, r0⟩ := trodAll_cons hA
 obtain ⟨v1, vs1, d1, ds1, p1, q1, rfl, rfl, rfl, h1, r1⟩ := trodAll_cons r0
 obtain ⟨v2, vs2, d2, ds2, p2, q2, rfl, rfl, rfl, h2, r2⟩ := trodAll_cons r1
 obtain ⟨rfl, rfl, rfl⟩ := trodAll_nil r2
 obtain rfl : args = #[v0, v1, v2] := by cases args; simp_all
 obtain ⟨rfl, rfl⟩ := trodVars_none hV
 have t0 : Tryz.f7.params[0]? = some 25 := by kernel_rfl
 obtain ⟨b0, rfl, _⟩ := okWide_struct u25 (hval 0 25 v0 t0 rfl)
 obtain ⟨xs0, ft0, al0, sh0⟩ := sH tys (by decide) h0
 obtain ⟨a0, rfl, k0⟩ := aLR _ ft0
 have e0 := SL al0 sh0
 have t1 : Tryz.f7.params[1]? = some 28 := by kernel_rfl
 obtain ⟨b1, rfl, _⟩ := okWide_struct u28 (hval 1 28 v1 t1 rfl)
 obtain ⟨xs1, ft1, al1, M3⟩ := sH tys (by decide) h1
 obtain ⟨a1, rfl, k1⟩ := aDZ _ ft1
 have e1 := SL al1 M3
 have t2 : Tryz.f7.params[2]? = some 9 := by kernel_rfl
 obtain ⟨b2, rfl⟩ := okWide_string u9 (hval 2 9 v2 t2 rfl)
 obtain ⟨xs2, ft2, al2, sh2⟩ := sH tys (by decide) h2
 obtain ⟨a2, rfl, w2⟩ := Fit.inv_str u9 ft2
 have e2 := aIE al2 rfl rfl
 refine (Meets.yes KP (av := [.va (.gs (aG a0)), .va (.gs (aN a1)), .va (.c1 (.vl (.string a2)))]) (vs := [.agg b0, .agg b1, .string b2]) (ro := mG W) (⟨⟨a0, rfl, k0⟩, ⟨a1, rfl, k1⟩, mW w2⟩) rfl rfl (fun i x v h1 h2 => by
  match i with
  | 0 => cases h1; cases h2; exact e0
  | 1 => cases h1; cases h2; exact e1
  | 2 => cases h1; cases h2; exact e2
  | i + 3 => cases h1) (aE9 W) (aKU hL)).mono fun e W' ⟨he, hg⟩ => ?_
 subst he
 exact ⟨_, rfl, V6 (tb := 4) laid aJ6 aNL (by rw [hpar]; intro t ht; simp at ht; rcases ht with rfl | rfl | rfl <;> exact of_decide_eq_true (by kernel_rfl)) (by kernel_rfl) (by kernel_rfl) rfl hW' rfl hg⟩
theorem aHA (os : Os) (started : os.Started) (H : Type) (enc : TypeId × Value → H) :
 ReturnsInHanded {} Tryz.checked os 7 .any (fun w args => (Rows.valuetextShortestSpec.pre enc Tryz.prog Tryz.f7 [] false w args ∧ laidMetH Tryz.prog Rows.valuetextShortestRow.laid w) ∧ sizedMet enc Tryz.prog Tryz.f7 (OpenSpec.ofChange Rows.valuetextShortestSpec) false w args)
  (Rows.valuetextShortestSpec.post enc Tryz.prog Tryz.f7 false true false false) := by
 refine returnsInHanded_of_change_and (C := Tryz.checked) (X := fun w _ => laidMetH Tryz.prog Rows.valuetextShortestRow.laid w) (fun _ _ _ hh h => h.of_heap hh) own started (by kernel_rfl) Tryz.func7
  (ChangeSpec.witness_shaped (enc := enc) (C := Tryz.checked) (os := os) (X := fun w _ => laidMetH Tryz.prog Rows.valuetextShortestRow.laid w) false (World.doorLaid Tryz.prog 24 os) #[(.agg #[(.int .i64 0), (.slice none 0 0), (.slice none 0 0)]), (.agg #[(.int .i64 0), (.int .i64 0), (.string (mk [])), (.slice none 0 0)]), (.string (mk []))] 8 rfl (World.shaped_of_RefB (by kernel_rfl) (by kernel_rfl)) (by kernel_rfl) (by kernel_rfl) (by kernel_rfl) (WM os _)) ?_
 intro W base args ds gs before hval hW _ hwt hL _
 exact V2 H enc W base args ds gs before hval hW hwt hL
theorem aOM : Rows.ValuetextShortestSaid :=
 OpenClaim.holds_of_wide 7 Tryz.f7 rfl rfl rfl rfl rfl rfl rfl ⟨rfl, rfl, rfl, rfl, rfl⟩ rfl rfl rfl rfl rfl (by kernel_rfl) Tryz.func7 (by kernel_rfl)
  (of_decide_eq_true (by kernel_rfl)) (by unfold Func.isWrapper; first | (rw [if_pos (by decide +kernel)]; kernel_rfl) | (rw [if_neg (by decide +kernel)]; exact ⟨rfl, rfl⟩))
  (fun os started H enc _ => aHA os started H enc)
theorem proved : Rows.ValuetextShortestCardSaid :=
 Claim7.holds_tied_plain_at .later [] [.data, .data, .data] true (true, "1a4f2760b5b978ea5ae8f0e8da809ecc367812bd7d80136dc6f6068eacca327b") false
  aOM (fun _ h => by cases h) (by kernel_rfl) (fun _ h => by cases h) valuetextShortest_row_tie rfl ⟨rfl, rfl⟩ (by kernel_rfl) rfl
  (fun f fn hf hfn => by
    obtain rfl : f = 7 := bG ((show Tryz.prog.funcNamed "robotics/roboticslaw10.ValuetextShortest" = some 7 by kernel_rfl).symm.trans hf) |>.symm
    obtain rfl : fn = Tryz.f7 := (bG (Tryz.func7.symm.trans hfn)).symm
    exact ⟨by kernel_rfl, fun j t ht => by
     have hp : Tryz.f7.params.toList = [25, 28, 9] := by kernel_rfl
     have hm : t ∈ [25, 28, 9] := by rw [← hp]; exact Array.mem_toList_iff.2 (Array.mem_of_getElem? ht)
     have hall : ([25, 28, 9].all fun u => !Tryz.prog.wantsStandIn u) = true := by kernel_rfl
     exact (show Tryz.prog.wantsStandIn t = false by simpa using List.all_eq_true.1 hall t hm)⟩)
  (by kernel_rfl)
end Go.Proofs.YtkpohmhenegkiaaGreatDoor.shortest
