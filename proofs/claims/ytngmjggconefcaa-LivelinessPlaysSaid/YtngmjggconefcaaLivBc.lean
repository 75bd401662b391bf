/- Proved: roboticslaw22.LivelinessPlays returns true at every list of calls, and changes nothing that stood before. Conditions: none beyond the given statement. -/
import Derived.Test.YtngmjggconefcaaRows
import Derived.Test.YtngmjggconefcaaLivBb
import Derived.Test.YtngmjggconefcaaW17
import Derived.WalkKit
import Derived.ProofKit
import Derived.OpenShut
import Derived.Lib.SmallJoins
namespace Go.Proofs.Ytngmjggconefcaa.plays
open Go.ChangeShapes Go.ChangeMaps Go.WideShapes Go.ChangeAt Go.RowKit
theorem own : ownKnob Try.prog.godebug = none := by kernel_rfl
theorem laid : laidOutB Try.prog = true := by kernel_rfl
theorem rowed : mapsRowed Try.prog = true := by kernel_rfl
theorem room : Go.W.slicesRoom Try.prog = true := by kernel_rfl
theorem uSl : Try.prog.underlying 41 = some (.slice 43) := by kernel_rfl
theorem uC : Try.prog.underlying 43 = some (.struct #[⟨"Kind", 3, 0, false, "", "", 0⟩, ⟨"Id", 3, 1, false, "", "", 8⟩, ⟨"Lease", 3, 2, false, "", "", 16⟩, ⟨"At", 3, 3, false, "", "", 24⟩]) := by kernel_rfl
theorem uI : Try.prog.underlying 3 = some (.int .i64) := by kernel_rfl
theorem cI : Try.prog.cellsOf 3 = 1 := by kernel_rfl
theorem cC : Try.prog.cellsOf 43 = 4 := by kernel_rfl
def rowCl (x : Cl) : List Value := [.int .i64 x.k, .int .i64 x.id, .int .i64 x.len, .int .i64 x.at']
theorem open_call {H : Type} {enc : TypeId × Value → H} {W : World} (n : Nat) (cs : List Value) (y : DataW H × List MemPlace) (h : DataW.trod enc Try.prog W 0 (fun _ => true) true n 43 cs = some y) :
    ∃ x : Cl, cs = rowCl x ∧ True := by
  obtain ⟨y0, y1, y2, y3, n, rfl, hl, h0, h1, h2, h3⟩ := Go.Joins.trod_struct4 uC h
  rw [cI] at h0 h1 h2 h3
  obtain ⟨k, e0, rfl, _⟩ := DataW.trod_int uI h0
  obtain ⟨s, e1, rfl, _⟩ := DataW.trod_int uI h1
  obtain ⟨m, e2, rfl, _⟩ := DataW.trod_int uI h2
  obtain ⟨q, e3, rfl, _⟩ := DataW.trod_int uI h3
  rw [cC] at hl
  match cs, hl with
  | [v0, v1, v2, v3], _ =>
    simp at e0 e1 e2 e3
    subst e0 e1 e2 e3
    exact ⟨⟨k, s, m, q⟩, rfl, trivial⟩
theorem contract (H : Type) (enc : TypeId × Value → H) (W : World) (base : Nat) (args : Array Value) (ds gs : List (DataW H)) (before : List MemPlace)
    (hval : ∀ (j : Nat) t v, Try.f5.params[j]? = some t → args[j]? = some v → Value.okWide Try.prog W .any base t v)
    (hW : DataW.Whole enc Try.prog Try.f5.params.toList Rows.livelinessPlaysSpec.vars false W args.toList ds gs before) :
    Calls Try.prog 5 args W fun e W' => ∃ v, e = .returned v ∧ Rows.livelinessPlaysSpec.post enc Try.prog Try.f5 false true false false W args v W' := by
  have hpar : Try.f5.params.toList = [41] := by kernel_rfl
  have hW' := hW
  obtain ⟨p, q, hA0, hV, rfl, hfz, hnd⟩ := hW
  have hA : DataW.TrodAll enc Try.prog W 0 (fun _ => true) true Try.f5.params.toList args.toList ds p := hA0
  rw [hpar] at hA
  obtain ⟨v0, vs0, d0, ds0, p0, q0, hargs, rfl, rfl, h0, r0⟩ := trodAll_cons hA
  obtain ⟨rfl, rfl, rfl⟩ := trodAll_nil r0
  obtain rfl : args = #[v0] := by cases args; simp_all
  obtain ⟨rfl, rfl⟩ := trodVars_none hV
  have t0 : Try.f5.params[0]? = some 41 := by kernel_rfl
  obtain ⟨fuel, hf⟩ := h0
  have hcs : ∃ cl : List Cl, Go.W.FzR (Go.W.roW W) (cl.map clR) v0 := by
    rcases Go.W.open_rows rowCl (fun _ _ => True) uSl cC (by decide) (fun n cs y h => open_call n cs y h) hf (hval 0 _ v0 t0 rfl) with ⟨rfl, _⟩ | ⟨cl, els, spr, h1, h2, h3, h4⟩
    · exact ⟨[], Go.W.fz_nil _⟩
    · exact ⟨cl, h2⟩
  obtain ⟨cl, hfz2⟩ := hcs
  refine (mPlays.yes (av := [.va (.c1 (.fz (cl.map clR)))]) (vs := [v0]) (ro := Go.W.roW W) ⟨cl, rfl⟩ rfl rfl (fun i x v h1 h2 => by
    match i with
    | 0 => cases h1; cases h2; exact hfz2
    | i + 1 => cases h1) (Go.W.roW_ok W)).mono fun e W' ⟨he, hg⟩ => ?_
  subst he
  exact ⟨_, rfl, Go.W.law_post (tb := 4) laid rowed room (by rw [hpar]; intro t ht; simp at ht; subst ht; exact of_decide_eq_true (by kernel_rfl)) (by kernel_rfl) (by kernel_rfl) rfl hW' rfl hg⟩
set_option maxRecDepth 100000 in
theorem lifted (os : Os) (started : os.Started) (H : Type) (enc : TypeId × Value → H) :
    ReturnsInHanded {} Try.checked os 5 .any (Rows.livelinessPlaysSpec.pre6 enc Try.prog Try.f5 Rows.livelinessPlaysRow.domain false) (Rows.livelinessPlaysSpec.post enc Try.prog Try.f5 false true false false) := by
  refine returnsInHanded_of_change (C := Try.checked) own started (by kernel_rfl) Try.func5
    (ChangeSpec.witness6 (enc := enc) (C := Try.checked) false ⟨#[], #[.slice none 0 0], []⟩ 8 (by kernel_rfl) (by kernel_rfl) (by kernel_rfl) (by kernel_rfl)) ?_
  intro W base args ds gs before hval hW _ _
  exact contract H enc W base args ds gs before hval hW
theorem proved : Rows.LivelinessPlaysSaid :=
  OpenClaim.holds_of_wide 5 Try.f5 rfl rfl rfl rfl rfl rfl rfl ⟨rfl, rfl, rfl, rfl, rfl⟩ rfl rfl rfl rfl rfl (by kernel_rfl) Try.func5 (by kernel_rfl)
    (of_decide_eq_true (by kernel_rfl)) (by unfold Func.isWrapper; first | (rw [if_pos (by decide +kernel)]; kernel_rfl) | (rw [if_neg (by decide +kernel)]; exact ⟨rfl, rfl⟩))
    (fun os started H enc _ => lifted os started H enc)
end Go.Proofs.Ytngmjggconefcaa.plays
