/- Proved: roboticslaw22.LivelinessExact returns true at every lease and every list of waits, and changes nothing that stood before. Conditions: none beyond the given statement. -/
import Derived.Test.YtngmjggconefcaaRows
import Derived.Test.YtngmjggconefcaaLivL
import Derived.Test.YtngmjggconefcaaW17
import Derived.WalkKit
import Derived.ProofKit
import Derived.OpenShut
import Derived.Lib.SmallJoins
namespace Go.Proofs.Ytngmjggconefcaa.exact
open Go.ChangeShapes Go.ChangeMaps Go.WideShapes Go.ChangeAt Go.RowKit
theorem own : ownKnob Try.prog.godebug = none := by kernel_rfl
theorem laid : laidOutB Try.prog = true := by kernel_rfl
theorem rowed : mapsRowed Try.prog = true := by kernel_rfl
theorem room : Go.W.slicesRoom Try.prog = true := by kernel_rfl
theorem uSl : Try.prog.underlying 23 = some (.slice 22) := by kernel_rfl
theorem uU : Try.prog.underlying 22 = some (.int .u16) := by kernel_rfl
theorem cU : Try.prog.cellsOf 22 = 1 := by kernel_rfl
def rowW (w : Int) : List Value := [.int .u16 w]
theorem open_wait {H : Type} {enc : TypeId × Value → H} {W : World} (n : Nat) (cs : List Value) (y : DataW H × List MemPlace) (h : DataW.trod enc Try.prog W 0 (fun _ => true) true n 22 cs = some y) :
    ∃ w : Int, cs = rowW w ∧ 0 ≤ w ∧ w ≤ 65535 := by
  obtain ⟨k, e0, _, hw⟩ := DataW.trod_int uU h
  simp [Lit.wf, IntKind.min, IntKind.max, IntKind.signed, IntKind.bits] at hw
  exact ⟨k, e0, by omega, by omega⟩
theorem contract (H : Type) (enc : TypeId × Value → H) (W : World) (base : Nat) (args : Array Value) (ds gs : List (DataW H)) (before : List MemPlace)
    (hval : ∀ (j : Nat) t v, Try.f3.params[j]? = some t → args[j]? = some v → Value.okWide Try.prog W .any base t v)
    (hW : DataW.Whole enc Try.prog Try.f3.params.toList Rows.livelinessExactSpec.vars false W args.toList ds gs before) :
    Calls Try.prog 3 args W fun e W' => ∃ v, e = .returned v ∧ Rows.livelinessExactSpec.post enc Try.prog Try.f3 false true false false W args v W' := by
  have hpar : Try.f3.params.toList = [22, 23] := by kernel_rfl
  have hW' := hW
  obtain ⟨p, q, hA0, hV, rfl, hfz, hnd⟩ := hW
  have hA : DataW.TrodAll enc Try.prog W 0 (fun _ => true) true Try.f3.params.toList args.toList ds p := hA0
  rw [hpar] at hA
  obtain ⟨v0, vs0, d0, ds0, p0, q0, hargs, rfl, rfl, h0, r0⟩ := trodAll_cons hA
  obtain ⟨v1, vs1, d1, ds1, p1, q1, rfl, rfl, rfl, h1, r1⟩ := trodAll_cons r0
  obtain ⟨rfl, rfl, rfl⟩ := trodAll_nil r1
  obtain rfl : args = #[v0, v1] := by cases args; simp_all
  obtain ⟨rfl, rfl⟩ := trodVars_none hV
  have t0 : Try.f3.params[0]? = some 22 := by kernel_rfl
  have t1 : Try.f3.params[1]? = some 23 := by kernel_rfl
  obtain ⟨l, rfl, rfl, rfl, hl⟩ := open_int uU (hval 0 _ v0 t0 rfl) h0
  simp [Lit.wf, IntKind.min, IntKind.max, IntKind.signed, IntKind.bits] at hl
  obtain ⟨fuel, hf⟩ := h1
  have hws : ∃ ws : List Int, Go.W.FzR (Go.W.roW W) (ws.map wR) v1 ∧ ∀ w ∈ ws, 0 ≤ w ∧ w ≤ 65535 := by
    rcases Go.W.open_rows rowW (fun _ w => 0 ≤ w ∧ w ≤ 65535) uSl cU (by decide) (fun n cs y h => open_wait n cs y h) hf (hval 1 _ v1 t1 rfl) with ⟨rfl, _⟩ | ⟨ws, els, spr, h1, h2, h3, h4⟩
    · exact ⟨[], Go.W.fz_nil _, fun t h => by cases h⟩
    · refine ⟨ws, h2, fun w hw => ?_⟩
      obtain ⟨i, hi⟩ := List.mem_iff_getElem?.1 hw
      obtain ⟨d, _, h5⟩ := h4 i w hi
      exact h5
  obtain ⟨ws, hfz2, hws⟩ := hws
  refine (mExact.yes (av := [Go.W.iS .u16 l, .va (.c1 (.fz (ws.map wR)))]) (vs := [.int .u16 l, v1]) (ro := Go.W.roW W) ⟨by omega, ws, rfl, hws⟩ rfl rfl (fun i x v h1 h2 => by
    match i with
    | 0 => cases h1; cases h2; rfl
    | 1 => cases h1; cases h2; exact hfz2
    | i + 2 => cases h1) (Go.W.roW_ok W)).mono fun e W' ⟨he, hg⟩ => ?_
  subst he
  exact ⟨_, rfl, Go.W.law_post (tb := 4) laid rowed room (by rw [hpar]; intro t ht; simp at ht; rcases ht with rfl | rfl <;> exact of_decide_eq_true (by kernel_rfl)) (by kernel_rfl) (by kernel_rfl) rfl hW' rfl hg⟩
set_option maxRecDepth 100000 in
theorem lifted (os : Os) (started : os.Started) (H : Type) (enc : TypeId × Value → H) :
    ReturnsInHanded {} Try.checked os 3 .any (Rows.livelinessExactSpec.pre6 enc Try.prog Try.f3 Rows.livelinessExactRow.domain false) (Rows.livelinessExactSpec.post enc Try.prog Try.f3 false true false false) := by
  refine returnsInHanded_of_change (C := Try.checked) own started (by kernel_rfl) Try.func3
    (ChangeSpec.witness6 (enc := enc) (C := Try.checked) false ⟨#[], #[.int .u16 0, .slice none 0 0], []⟩ 8 (by kernel_rfl) (by kernel_rfl) (by kernel_rfl) (by kernel_rfl)) ?_
  intro W base args ds gs before hval hW _ _
  exact contract H enc W base args ds gs before hval hW
theorem proved : Rows.LivelinessExactSaid :=
  OpenClaim.holds_of_wide 3 Try.f3 rfl rfl rfl rfl rfl rfl rfl ⟨rfl, rfl, rfl, rfl, rfl⟩ rfl rfl rfl rfl rfl (by kernel_rfl) Try.func3 (by kernel_rfl)
    (of_decide_eq_true (by kernel_rfl)) (by unfold Func.isWrapper; first | (rw [if_pos (by decide +kernel)]; kernel_rfl) | (rw [if_neg (by decide +kernel)]; exact ⟨rfl, rfl⟩))
    (fun os started H enc _ => lifted os started H enc)
end Go.Proofs.Ytngmjggconefcaa.exact
