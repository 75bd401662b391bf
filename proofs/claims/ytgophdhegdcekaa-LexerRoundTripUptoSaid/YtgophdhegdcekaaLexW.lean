/- Proved: roboticslaw06.LexerRoundTrip returns true at every list of tokens whose bulk is at most 1048576, and changes nothing that stood before. Conditions: the bulk's bound of the given '..UptoSaid' statement, none beyond. -/
import Derived.Test.YtgophdhegdcekaaRows
import Derived.Test.YtgophdhegdcekaaLexL
import Derived.Test.YtgophdhegdcekaaW17
import Derived.WalkKit
import Derived.ProofKit
import Derived.OpenShut
import Derived.JoinedCond
import Derived.Lib.SmallJoins
namespace Go.Proofs.Ytgophdhegdcekaa.rounds
open Go.ChangeShapes Go.ChangeMaps Go.WideShapes Go.ChangeAt Go.RowKit
theorem own : ownKnob Try.prog.godebug = none := by kernel_rfl
theorem laid : laidOutB Try.prog = true := by kernel_rfl
theorem rowed : mapsRowed Try.prog = true := by kernel_rfl
theorem room : Go.W.slicesRoom Try.prog = true := by kernel_rfl
theorem part_le {H : Type} {d : DataW H} {l : List (DataW H)} (h : d ∈ l) : Rows.uptoBulk d ≤ Rows.uptoBulkAll l := by
  induction l with
  | nil => cases h
  | cons x r ih =>
    simp only [Rows.uptoBulkAll]
    cases List.mem_cons.1 h with
    | inl e => subst e; omega
    | inr e => have := ih e; omega
theorem u30 : Try.prog.underlying 30 = some (.struct #[⟨"Kind", 3, 0, false, "", "", 0⟩, ⟨"Text", 9, 1, false, "", "", 8⟩, ⟨"N", 2, 2, false, "", "", 24⟩, ⟨"At", 3, 3, false, "", "", 32⟩]) := by kernel_rfl
theorem u22 : Try.prog.underlying 22 = some (.slice 30) := by kernel_rfl
theorem u2 : Try.prog.underlying 2 = some (.int .i64) := by kernel_rfl
theorem u3 : Try.prog.underlying 3 = some (.int .i64) := by kernel_rfl
theorem u9 : Try.prog.underlying 9 = some .string := by kernel_rfl
theorem c30 : Try.prog.cellsOf 30 = 4 := by kernel_rfl
theorem c2 : Try.prog.cellsOf 2 = 1 := by kernel_rfl
theorem c3 : Try.prog.cellsOf 3 = 1 := by kernel_rfl
theorem c9 : Try.prog.cellsOf 9 = 1 := by kernel_rfl
/-- A token's cells. -/
def rowT (t : Tx) : List Value := [.int .i64 t.k, .string (Go.W.mk t.x), .int .i64 t.n, .int .i64 t.a]
theorem open_token {H : Type} {enc : TypeId × Value → H} {W : World} (n : Nat) (cs : List Value) (y : DataW H × List MemPlace) (h : DataW.trod enc Try.prog W 0 (fun _ => true) true n 30 cs = some y) :
    ∃ t : Tx, cs = rowT t ∧ -9223372036854775808 ≤ t.n ∧ t.n ≤ 9223372036854775807 ∧ t.x.length ≤ Rows.uptoBulk y.1 := by
  obtain ⟨y0, y1, y2, y3, n, rfl, hl, h0, h1, h2, h3⟩ := Go.Joins.trod_struct4 u30 h
  rw [c3] at h0 h3
  rw [c9] at h1
  rw [c2] at h2
  obtain ⟨k, e0, rfl, _⟩ := DataW.trod_int u3 h0
  obtain ⟨s, e1, rfl, _⟩ := DataW.trod_string u9 h1
  obtain ⟨m, e2, rfl, hw⟩ := DataW.trod_int u2 h2
  obtain ⟨q, e3, rfl, _⟩ := DataW.trod_int u3 h3
  rw [c30] at hl
  match cs, hl with
  | [v0, v1, v2, v3], _ =>
    simp at e0 e1 e2 e3
    subst e0 e1 e2 e3
    simp [Lit.wf, IntKind.min, IntKind.max, IntKind.signed, IntKind.bits] at hw
    exact ⟨⟨k, Go.W.bl s, m, q⟩, by simp [rowT], hw.1, hw.2, by simp [Rows.uptoBulk, Rows.uptoBulkAll, Go.W.bl]; omega⟩
/-- A list of tokens that stands in memory. -/
theorem open_tokens {H : Type} {enc : TypeId × Value → H} {W : World} {fuel b0 : Nat} {v : Value} {x : DataW H × List MemPlace} (hx : DataW.trod enc Try.prog W 0 (fun _ => true) true fuel 22 v.cells.toList = some x)
    (hval : Value.okWide Try.prog W .any b0 22 v) (hb : Rows.uptoBulk x.1 ≤ 1048576) :
    ∃ ts : List Tx, Go.W.FzR (Go.W.roW W) (ts.map txL) v ∧ ∀ t ∈ ts, Fit t := by
  rcases Go.W.open_rows rowT (fun d t => -9223372036854775808 ≤ t.n ∧ t.n ≤ 9223372036854775807 ∧ t.x.length ≤ Rows.uptoBulk d) u22 c30 (by decide) open_token hx hval with ⟨rfl, _⟩ | ⟨ts, els, spr, h1, h2, h3, h4⟩
  · exact ⟨[], Go.W.fz_nil _, fun t h => by cases h⟩
  · refine ⟨ts, h2, fun t ht => ?_⟩
    obtain ⟨i, hi⟩ := List.mem_iff_getElem?.1 ht
    obtain ⟨d, hd, h5, h6, h7⟩ := h4 i t hi
    have := part_le (List.mem_of_getElem? hd)
    rw [h1] at hb
    simp only [Rows.uptoBulk] at hb
    exact ⟨h5, h6, by omega⟩
theorem contract (H : Type) (enc : TypeId × Value → H) (W : World) (base : Nat) (args : Array Value) (ds gs : List (DataW H)) (before : List MemPlace)
    (hval : ∀ (j : Nat) t v, Try.f7.params[j]? = some t → args[j]? = some v → Value.okWide Try.prog W .any base t v)
    (hW : DataW.Whole enc Try.prog Try.f7.params.toList Rows.lexerRoundTripSpec.vars false W args.toList ds gs before) (hk : Rows.uptoSmall H (ds ++ gs) = true) :
    Calls Try.prog 7 args W fun e W' => ∃ v, e = .returned v ∧ Rows.lexerRoundTripSpec.post enc Try.prog Try.f7 false true false false W args v W' := by
  have hpar : Try.f7.params.toList = [22] := by kernel_rfl
  have hW' := hW
  obtain ⟨p, q, hA0, hV, rfl, hfz, hnd⟩ := hW
  have hA : DataW.TrodAll enc Try.prog W 0 (fun _ => true) true Try.f7.params.toList args.toList ds p := hA0
  rw [hpar] at hA
  obtain ⟨v0, vs0, d0, ds0, p0, q0, hargs, rfl, rfl, h0, r0⟩ := trodAll_cons hA
  obtain ⟨rfl, rfl, rfl⟩ := trodAll_nil r0
  obtain rfl : args = #[v0] := by cases args; simp_all
  obtain ⟨rfl, rfl⟩ := trodVars_none hV
  obtain ⟨fuel, hf⟩ := h0
  have hb : Rows.uptoBulkAll ([d0] ++ []) ≤ 1048576 := of_decide_eq_true hk
  simp only [List.append_nil, Rows.uptoBulkAll] at hb
  have h0t : Try.f7.params[0]? = some 22 := by kernel_rfl
  obtain ⟨ts, hfz2, hfit⟩ := open_tokens hf (hval 0 _ v0 h0t rfl) (by simpa using hb)
  refine (mRound.yes (av := [.va (.c1 (.fz (ts.map txL)))]) (vs := [v0]) (ro := Go.W.roW W) ⟨ts, rfl, hfit⟩ rfl rfl (fun i x v h1 h2 => by
    match i with
    | 0 => cases h1; cases h2; exact hfz2
    | i + 1 => cases h1) (Go.W.roW_ok W)).mono fun e W' ⟨he, hg⟩ => ?_
  subst he
  exact ⟨_, rfl, Go.W.law_post (tb := 4) laid rowed room (by rw [hpar]; intro t ht; simp at ht; subst ht; exact of_decide_eq_true (by kernel_rfl)) (by kernel_rfl) (by kernel_rfl) rfl hW' rfl hg⟩
set_option maxRecDepth 100000 in
theorem lifted (os : Os) (started : os.Started) (H : Type) (enc : TypeId × Value → H) (F : Stop.Interp) :
    ReturnsInHanded {} Try.checked os 7 .any ((Rows.OpenSpec.upto Rows.lexerRoundTripSpec).pre6 enc Try.prog Try.f7 Rows.lexerRoundTripUptoRow.domain false) (((Rows.OpenSpec.upto Rows.lexerRoundTripSpec).at F).post enc Try.prog Try.f7 false true false false) := by
  refine returnsInHanded_of_cond (C := Try.checked) (s := Rows.OpenSpec.upto Rows.lexerRoundTripSpec) (k := Rows.uptoSmall) rfl own started (by kernel_rfl) Try.func7
    (OpenSpec.witness (enc := enc) (C := Try.checked) (s := Rows.OpenSpec.upto Rows.lexerRoundTripSpec) (k := Rows.uptoSmall) rfl false ⟨#[], #[.slice none 0 0], []⟩ 8 (by kernel_rfl) (by kernel_rfl) (by kernel_rfl)
      (x := ([.nil], [], [])) (by kernel_rfl) rfl (by kernel_rfl)) ?_
  intro W base args ds gs before hval hW _ hk _
  exact contract H enc W base args ds gs before hval hW hk
theorem proved : Rows.LexerRoundTripUptoSaid :=
  OpenClaim.holds_of_cond 7 Try.f7 rfl rfl rfl rfl rfl rfl rfl ⟨rfl, rfl, rfl, rfl, rfl⟩ rfl rfl rfl rfl rfl (by kernel_rfl) Try.func7 (by kernel_rfl)
    (of_decide_eq_true (by kernel_rfl)) (by unfold Func.isWrapper; first | (rw [if_pos (by decide +kernel)]; kernel_rfl) | (rw [if_neg (by decide +kernel)]; exact ⟨rfl, rfl⟩))
    (fun os started H enc _ F => lifted os started H enc F)
end Go.Proofs.Ytgophdhegdcekaa.rounds
