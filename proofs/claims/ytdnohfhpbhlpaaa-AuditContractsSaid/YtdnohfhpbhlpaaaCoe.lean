/- Proved: roboticslaw53.AuditContracts returns true at every log and every list of endpoints, and changes nothing that stood before. Conditions: none beyond the given statement. -/
import Derived.Test.YtdnohfhpbhlpaaaCod
import Derived.Test.YtdnohfhpbhlpaaaRows
import Derived.WalkKit
import Derived.ProofKit
import Derived.OpenShut
import Derived.Lib.SmallJoins
namespace Go.Proofs.Ytdnohfhpbhlpaaa.contracts
open Go.ChangeShapes Go.ChangeMaps Go.WideShapes Go.ChangeAt Go.RowKit Go.W
theorem own : ownKnob Try.prog.godebug = none := by kernel_rfl
theorem laid : laidOutB Try.prog = true := by kernel_rfl
theorem rowed : mapsRowed Try.prog = true := by kernel_rfl
theorem room : slicesRoom Try.prog = true := by kernel_rfl
theorem u3 : Try.prog.underlying 3 = some (.int .i64) := by kernel_rfl
theorem u27 : Try.prog.underlying 27 = some (.struct #[⟨"Kind", 3, 0, false, "", "", 0⟩, ⟨"At", 3, 1, false, "", "", 8⟩, ⟨"Node", 3, 2, false, "", "", 16⟩, ⟨"Endpoint", 3, 3, false, "", "", 24⟩, ⟨"Peer", 3, 4, false, "", "", 32⟩, ⟨"Seq", 3, 5, false, "", "", 40⟩]) := by kernel_rfl
theorem u22 : Try.prog.underlying 22 = some (.slice 27) := by kernel_rfl
theorem u9 : Try.prog.underlying 9 = some (.string) := by kernel_rfl
theorem u4 : Try.prog.underlying 4 = some (.bool) := by kernel_rfl
theorem u29 : Try.prog.underlying 29 = some (.struct #[⟨"Reliable", 4, 0, false, "", "", 0⟩, ⟨"Durable", 4, 1, false, "", "", 1⟩, ⟨"KeepAll", 4, 2, false, "", "", 2⟩, ⟨"Depth", 3, 3, false, "", "", 8⟩, ⟨"Deadline", 3, 4, false, "", "", 16⟩, ⟨"Lifespan", 3, 5, false, "", "", 24⟩, ⟨"Lease", 3, 6, false, "", "", 32⟩]) := by kernel_rfl
theorem u31 : Try.prog.underlying 31 = some (.struct #[⟨"Id", 3, 0, false, "", "", 0⟩, ⟨"Node", 3, 1, false, "", "", 8⟩, ⟨"Topic", 9, 2, false, "", "", 16⟩, ⟨"Type", 9, 3, false, "", "", 32⟩, ⟨"Writes", 4, 4, false, "", "", 48⟩, ⟨"Qos", 29, 5, false, "", "", 56⟩]) := by kernel_rfl
theorem u23 : Try.prog.underlying 23 = some (.slice 31) := by kernel_rfl
theorem tys : tysOk Try.prog [22, 27, 3, 23, 31, 9, 4, 29] = true := by kernel_rfl
theorem fit27 (cs : List C) (h : Fit Try.prog 27 cs) : ∃ a : Ev, cs = evC a ∧ True := by
  obtain ⟨p1, rfl, l1, f1⟩ := Fit.inv_st u27 h
  obtain ⟨p1_0, p1_1, p1_2, p1_3, p1_4, p1_5, rfl⟩ : ∃ p1_0 p1_1 p1_2 p1_3 p1_4 p1_5 : List C, p1 = [p1_0, p1_1, p1_2, p1_3, p1_4, p1_5] := by
    match p1, l1 with
    | [z0, z1, z2, z3, z4, z5], _ => exact ⟨z0, z1, z2, z3, z4, z5, rfl⟩
  have h1_0 := f1 0 _ p1_0 rfl rfl
  have h1_1 := f1 1 _ p1_1 rfl rfl
  have h1_2 := f1 2 _ p1_2 rfl rfl
  have h1_3 := f1 3 _ p1_3 rfl rfl
  have h1_4 := f1 4 _ p1_4 rfl rfl
  have h1_5 := f1 5 _ p1_5 rfl rfl
  obtain ⟨x2, rfl, w2⟩ := Fit.inv_int u3 h1_0
  obtain ⟨x3, rfl, w3⟩ := Fit.inv_int u3 h1_1
  obtain ⟨x4, rfl, w4⟩ := Fit.inv_int u3 h1_2
  obtain ⟨x5, rfl, w5⟩ := Fit.inv_int u3 h1_3
  obtain ⟨x6, rfl, w6⟩ := Fit.inv_int u3 h1_4
  obtain ⟨x7, rfl, w7⟩ := Fit.inv_int u3 h1_5
  exact ⟨⟨x2, x3, x4, x5, x6, x7⟩, rfl, trivial⟩
theorem fit31 (cs : List C) (h : Fit Try.prog 31 cs) : ∃ a : Ep, cs = epC a ∧ True := by
  obtain ⟨p8, rfl, l8, f8⟩ := Fit.inv_st u31 h
  obtain ⟨p8_0, p8_1, p8_2, p8_3, p8_4, p8_5, rfl⟩ : ∃ p8_0 p8_1 p8_2 p8_3 p8_4 p8_5 : List C, p8 = [p8_0, p8_1, p8_2, p8_3, p8_4, p8_5] := by
    match p8, l8 with
    | [z0, z1, z2, z3, z4, z5], _ => exact ⟨z0, z1, z2, z3, z4, z5, rfl⟩
  have h8_0 := f8 0 _ p8_0 rfl rfl
  have h8_1 := f8 1 _ p8_1 rfl rfl
  have h8_2 := f8 2 _ p8_2 rfl rfl
  have h8_3 := f8 3 _ p8_3 rfl rfl
  have h8_4 := f8 4 _ p8_4 rfl rfl
  have h8_5 := f8 5 _ p8_5 rfl rfl
  obtain ⟨x9, rfl, w9⟩ := Fit.inv_int u3 h8_0
  obtain ⟨x10, rfl, w10⟩ := Fit.inv_int u3 h8_1
  obtain ⟨x11, rfl, w11⟩ := Fit.inv_str u9 h8_2
  obtain ⟨x12, rfl, w12⟩ := Fit.inv_str u9 h8_3
  obtain ⟨x13, rfl⟩ := Fit.inv_bool u4 h8_4
  obtain ⟨p14, rfl, l14, f14⟩ := Fit.inv_st u29 h8_5
  obtain ⟨p14_0, p14_1, p14_2, p14_3, p14_4, p14_5, p14_6, rfl⟩ : ∃ p14_0 p14_1 p14_2 p14_3 p14_4 p14_5 p14_6 : List C, p14 = [p14_0, p14_1, p14_2, p14_3, p14_4, p14_5, p14_6] := by
    match p14, l14 with
    | [z0, z1, z2, z3, z4, z5, z6], _ => exact ⟨z0, z1, z2, z3, z4, z5, z6, rfl⟩
  have h14_0 := f14 0 _ p14_0 rfl rfl
  have h14_1 := f14 1 _ p14_1 rfl rfl
  have h14_2 := f14 2 _ p14_2 rfl rfl
  have h14_3 := f14 3 _ p14_3 rfl rfl
  have h14_4 := f14 4 _ p14_4 rfl rfl
  have h14_5 := f14 5 _ p14_5 rfl rfl
  have h14_6 := f14 6 _ p14_6 rfl rfl
  obtain ⟨x15, rfl⟩ := Fit.inv_bool u4 h14_0
  obtain ⟨x16, rfl⟩ := Fit.inv_bool u4 h14_1
  obtain ⟨x17, rfl⟩ := Fit.inv_bool u4 h14_2
  obtain ⟨x18, rfl, w18⟩ := Fit.inv_int u3 h14_3
  obtain ⟨x19, rfl, w19⟩ := Fit.inv_int u3 h14_4
  obtain ⟨x20, rfl, w20⟩ := Fit.inv_int u3 h14_5
  obtain ⟨x21, rfl, w21⟩ := Fit.inv_int u3 h14_6
  exact ⟨⟨x9, x10, x11, x12, x13, x15, x16, x17, x18, x19, x20, x21⟩, rfl, trivial⟩
set_option maxRecDepth 100000 in
theorem contract (H : Type) (enc : TypeId × Value → H) (W : World) (base : Nat) (args : Array Value) (ds gs : List (DataW H)) (before : List MemPlace)
    (hval : ∀ (j : Nat) t v, Try.f3.params[j]? = some t → args[j]? = some v → Value.okWide Try.prog W .any base t v)
    (hW : DataW.Whole enc Try.prog Try.f3.params.toList Rows.auditContractsSpec.vars false W args.toList ds gs before) :
    Calls Try.prog 3 args W fun e W' => ∃ v, e = .returned v ∧ Rows.auditContractsSpec.post enc Try.prog Try.f3 false true false false W args v W' := by
  have hpar : Try.f3.params.toList = [22, 23] := by kernel_rfl
  have hW' := hW
  obtain ⟨p, q, hA0, hV, rfl, hfz, hnd⟩ := hW
  have hA : DataW.TrodAll enc Try.prog W 0 (fun _ => true) true Try.f3.params.toList args.toList ds p := hA0
  rw [hpar] at hA
  obtain ⟨v0, vs0, d0, ds0, p0, q0, hargs, rfl, rfl, h0, r0⟩ := trodAll_cons hA
  obtain ⟨v1, vs1, d1, ds1, p1, q1, rfl, rfl, rfl, h1, r1⟩ := trodAll_cons r0
  obtain ⟨rfl, rfl, rfl⟩ := trodAll_nil r1
  obtain rfl : args = #[v0, v1] := by cases args; simp_all
  obtain ⟨rfl, rfl⟩ := trodVars_none hV
  have t0 : Try.f3.params[0]? = some 22 := by kernel_rfl
  obtain ⟨o0, l0, c0, rfl⟩ := okWide_slice u22 (hval 0 22 v0 t0 rfl)
  obtain ⟨xs0, ft0, al0, sh0⟩ := fit_of_arg tys (by decide) h0
  obtain ⟨ys0, rfl, w0, g0⟩ := Fit.inv_sl u22 ft0
  obtain ⟨a0, rfl, _⟩ := Fit.rows fit27 g0
  have e0 := arg_c1 al0 rfl rfl
  have t1 : Try.f3.params[1]? = some 23 := by kernel_rfl
  obtain ⟨o1, l1, c1, rfl⟩ := okWide_slice u23 (hval 1 23 v1 t1 rfl)
  obtain ⟨xs1, ft1, al1, sh1⟩ := fit_of_arg tys (by decide) h1
  obtain ⟨ys1, rfl, w1, g1⟩ := Fit.inv_sl u23 ft1
  obtain ⟨a1, rfl, _⟩ := Fit.rows fit31 g1
  have e1 := arg_c1 al1 rfl rfl
  refine (Meets.yes mLawContracts (av := [.va (.c1 (.fz (a0.map evC))), .va (.c1 (.fz (a1.map epC)))]) (vs := [.slice o0 l0 c0, .slice o1 l1 c1]) (ro := roW W) (⟨⟨a0, rfl⟩, a1, rfl⟩) rfl rfl (fun i x v h1 h2 => by
    match i with
    | 0 => cases h1; cases h2; exact e0
    | 1 => cases h1; cases h2; exact e1
    | i + 2 => cases h1) (roW_ok W)).mono fun e W' ⟨he, hg⟩ => ?_
  subst he
  exact ⟨_, rfl, law_post (tb := 4) laid rowed room (by rw [hpar]; intro t ht; simp at ht; rcases ht with rfl | rfl <;> exact of_decide_eq_true (by kernel_rfl)) (by kernel_rfl) (by kernel_rfl) rfl hW' rfl hg⟩
set_option maxRecDepth 100000 in
theorem lifted (os : Os) (started : os.Started) (H : Type) (enc : TypeId × Value → H) :
    ReturnsInHanded {} Try.checked os 3 .any (Rows.auditContractsSpec.pre6 enc Try.prog Try.f3 Rows.auditContractsRow.domain false) (Rows.auditContractsSpec.post enc Try.prog Try.f3 false true false false) := by
  refine returnsInHanded_of_change (C := Try.checked) own started (by kernel_rfl) Try.func3
    (ChangeSpec.witness6 (enc := enc) (C := Try.checked) false ⟨#[], #[.slice none 0 0, .slice none 0 0], []⟩ 8 (by kernel_rfl) (by kernel_rfl) (by kernel_rfl) (by kernel_rfl)) ?_
  intro W base args ds gs before hval hW _ _
  exact contract H enc W base args ds gs before hval hW
theorem proved : Rows.AuditContractsSaid :=
  OpenClaim.holds_of_wide 3 Try.f3 rfl rfl rfl rfl rfl rfl rfl ⟨rfl, rfl, rfl, rfl, rfl⟩ rfl rfl rfl rfl rfl (by kernel_rfl) Try.func3 (by kernel_rfl)
    (of_decide_eq_true (by kernel_rfl)) (by unfold Func.isWrapper; first | (rw [if_pos (by decide +kernel)]; kernel_rfl) | (rw [if_neg (by decide +kernel)]; exact ⟨rfl, rfl⟩))
    (fun os started H enc _ => lifted os started H enc)
end Go.Proofs.Ytdnohfhpbhlpaaa.contracts
