/-
  No cell of these rows narrows 'for every input' (looked for: loops, veiled, ifaces, maps, wideKeys, modest, calm, conditions, laid).
  DERIVED. THE GIVEN ROWS OF THIS SEAT. 5 by the template 'for every input the law returns true; each argument reads behind the call as it read before'; 0 by the template 'total and deterministic' (their statements: YtngmjggconefcaaTotals.lean).
  GIVEN WITH THE SEED: the statements are not yours to turn. If you find one false, say at which input.
  Laid BY PROGRAM, IN A SANDBOX (cutbox-rows.mjs): the forced cells as the released guide's own fill.sh prints them over the translation 5d402411ed40a04e… (all of the seat's roots in one cut). By AI agents, Wed Nov 11 2026. No macro, syntax, notation, axiom, sorry.
-/
import Derived.Test.YtngmjggconefcaaChecked
import GoSem.Claim
import GoSem.ClaimJoined
import GoSem.ClaimMapViews
import Derived.JoinedTies
import Derived.KernelRfl
namespace Go.Proofs.Ytngmjggconefcaa
/- THE CELL 'sum', in the pinned program and in every row, IS THE sha256 OF THE DUMP (.gsa) THAT YtngmjggconefcaaProg.lean LOADS. Nothing in Lean hashes anything: it is a label: what it is worth is what the hold of that sum in a sandbox is worth. -/
noncomputable def Try.pinned : Pinned := { name := "ytngmjggconefcaa", sum := "5d402411ed40a04e8d1d2ef96a5495871303ff49117e1e57dff51b6cfae84fe1", checked := Try.checked }
namespace Rows
def none {H : Type} : Left H := { results := [], args := [] }

/-- 'roboticslaw22.LivelinessExact': WHATEVER THE INPUT: true; the input reads as it did. -/
def livelinessExactSpec : ChangeSpec := { name := "livelinessExact", fn := fun _ => fun
  | [d1, d2] => { results := [.lit (.bool true)], args := [d1, d2] }
  | _ => none }
def livelinessExactRow : OpenClaim := { program := "ytngmjggconefcaa", sum := "5d402411ed40a04e8d1d2ef96a5495871303ff49117e1e57dff51b6cfae84fe1", func := "robotics/roboticslaw22.LivelinessExact", spec := "livelinessExact", unfollowed := true, recurses := true, apart := false }
def LivelinessExactSaid : Prop := livelinessExactRow.holds Try.pinned (OpenSpec.ofChange livelinessExactSpec)

/-- ITS FALSE NEIGHBOUR: 'it returns false'. Refute it at one input. -/
def livelinessExactWrong : ChangeSpec := { name := "livelinessExact", fn := fun _ => fun
  | [d1, d2] => { results := [.lit (.bool false)], args := [d1, d2] }
  | _ => none }
def LivelinessExactWrongFalsely : Prop := livelinessExactRow.holds Try.pinned (OpenSpec.ofChange livelinessExactWrong)

/-- 'roboticslaw22.LivelinessAlternates': WHATEVER THE INPUT: true; the input reads as it did. -/
def livelinessAlternatesSpec : ChangeSpec := { name := "livelinessAlternates", fn := fun _ => fun
  | [d] => { results := [.lit (.bool true)], args := [d] }
  | _ => none }
def livelinessAlternatesRow : OpenClaim := { program := "ytngmjggconefcaa", sum := "5d402411ed40a04e8d1d2ef96a5495871303ff49117e1e57dff51b6cfae84fe1", func := "robotics/roboticslaw22.LivelinessAlternates", spec := "livelinessAlternates", unfollowed := true, recurses := true, apart := false }
def LivelinessAlternatesSaid : Prop := livelinessAlternatesRow.holds Try.pinned (OpenSpec.ofChange livelinessAlternatesSpec)

/-- ITS FALSE NEIGHBOUR: 'it returns false'. Refute it at one input. -/
def livelinessAlternatesWrong : ChangeSpec := { name := "livelinessAlternates", fn := fun _ => fun
  | [d] => { results := [.lit (.bool false)], args := [d] }
  | _ => none }
def LivelinessAlternatesWrongFalsely : Prop := livelinessAlternatesRow.holds Try.pinned (OpenSpec.ofChange livelinessAlternatesWrong)

/-- 'roboticslaw22.LivelinessPlays': WHATEVER THE INPUT: true; the input reads as it did. -/
def livelinessPlaysSpec : ChangeSpec := { name := "livelinessPlays", fn := fun _ => fun
  | [d] => { results := [.lit (.bool true)], args := [d] }
  | _ => none }
def livelinessPlaysRow : OpenClaim := { program := "ytngmjggconefcaa", sum := "5d402411ed40a04e8d1d2ef96a5495871303ff49117e1e57dff51b6cfae84fe1", func := "robotics/roboticslaw22.LivelinessPlays", spec := "livelinessPlays", unfollowed := true, recurses := true, apart := false }
def LivelinessPlaysSaid : Prop := livelinessPlaysRow.holds Try.pinned (OpenSpec.ofChange livelinessPlaysSpec)

/-- ITS FALSE NEIGHBOUR: 'it returns false'. Refute it at one input. -/
def livelinessPlaysWrong : ChangeSpec := { name := "livelinessPlays", fn := fun _ => fun
  | [d] => { results := [.lit (.bool false)], args := [d] }
  | _ => none }
def LivelinessPlaysWrongFalsely : Prop := livelinessPlaysRow.holds Try.pinned (OpenSpec.ofChange livelinessPlaysWrong)

/-- 'roboticslaw22.LivelinessApart': WHATEVER THE INPUT: true; the input reads as it did. -/
def livelinessApartSpec : ChangeSpec := { name := "livelinessApart", fn := fun _ => fun
  | [d1, d2] => { results := [.lit (.bool true)], args := [d1, d2] }
  | _ => none }
def livelinessApartRow : OpenClaim := { program := "ytngmjggconefcaa", sum := "5d402411ed40a04e8d1d2ef96a5495871303ff49117e1e57dff51b6cfae84fe1", func := "robotics/roboticslaw22.LivelinessApart", spec := "livelinessApart", unfollowed := true, recurses := true, apart := false }
def LivelinessApartSaid : Prop := livelinessApartRow.holds Try.pinned (OpenSpec.ofChange livelinessApartSpec)

/-- ITS FALSE NEIGHBOUR: 'it returns false'. Refute it at one input. -/
def livelinessApartWrong : ChangeSpec := { name := "livelinessApart", fn := fun _ => fun
  | [d1, d2] => { results := [.lit (.bool false)], args := [d1, d2] }
  | _ => none }
def LivelinessApartWrongFalsely : Prop := livelinessApartRow.holds Try.pinned (OpenSpec.ofChange livelinessApartWrong)

/-- 'roboticslaw22.LivelinessNobody': WHATEVER THE INPUT: true; the input reads as it did. -/
def livelinessNobodySpec : ChangeSpec := { name := "livelinessNobody", fn := fun _ => fun
  | [d1, d2, d3] => { results := [.lit (.bool true)], args := [d1, d2, d3] }
  | _ => none }
def livelinessNobodyRow : OpenClaim := { program := "ytngmjggconefcaa", sum := "5d402411ed40a04e8d1d2ef96a5495871303ff49117e1e57dff51b6cfae84fe1", func := "robotics/roboticslaw22.LivelinessNobody", spec := "livelinessNobody", unfollowed := true, recurses := true, apart := false }
def LivelinessNobodySaid : Prop := livelinessNobodyRow.holds Try.pinned (OpenSpec.ofChange livelinessNobodySpec)

/-- ITS FALSE NEIGHBOUR: 'it returns false'. Refute it at one input. -/
def livelinessNobodyWrong : ChangeSpec := { name := "livelinessNobody", fn := fun _ => fun
  | [d1, d2, d3] => { results := [.lit (.bool false)], args := [d1, d2, d3] }
  | _ => none }
def LivelinessNobodyWrongFalsely : Prop := livelinessNobodyRow.holds Try.pinned (OpenSpec.ofChange livelinessNobodyWrong)

/- THE SECOND FORM. 'bulk': how many values and letters a reading holds, each counted each time it is reached (what is shared counts as often as it is met; a slice's spare places count too). A statement '..UptoSaid' is the law's where the arguments, and the package variables that the reading takes, are together of bulk at most 1048576: NARROWER than '..Said'. Prove '..Said' where nothing that the law and all that it calls make is longer than what came in: it says more and counts as full. Else prove '..UptoSaid'. A law counts once. -/
mutual
def uptoBulk {H : Type} : DataW H → Nat
  | .lit (.string bytes) => bytes.length + 1
  | .lit _ => 1
  | .nil => 1
  | .ptr d => uptoBulk d + 1
  | .slice elems spare => uptoBulkAll elems + uptoBulkAll spare + 1
  | .agg parts => uptoBulkAll parts + 1
  | .iface _ d => uptoBulk d + 1
  | .map entries => uptoBulkEntries entries + 1
  | .held _ => 1
def uptoBulkAll {H : Type} : List (DataW H) → Nat
  | [] => 0
  | d :: r => uptoBulk d + uptoBulkAll r
def uptoBulkEntries {H : Type} : List (Lit × DataW H) → Nat
  | [] => 0
  | x :: r => uptoBulkEntry x + uptoBulkEntries r
def uptoBulkEntry {H : Type} : Lit × DataW H → Nat
  | (.string bytes, d) => bytes.length + uptoBulk d + 1
  | (_, d) => uptoBulk d + 1
 end
def uptoSmall : (H : Type) → List (DataW H) → Bool := fun _ ds => decide (uptoBulkAll ds ≤ 1048576)
def OpenSpec.upto (s : _root_.Go.ChangeSpec) : _root_.Go.OpenSpec := { _root_.Go.OpenSpec.ofChange s with cond := some uptoSmall }

/-- 'roboticslaw22.LivelinessExact', WHERE WHAT IT READS IS OF BULK AT MOST 1048576: true; the input reads as it did. -/
def livelinessExactUptoRow : OpenClaim := { program := "ytngmjggconefcaa", sum := "5d402411ed40a04e8d1d2ef96a5495871303ff49117e1e57dff51b6cfae84fe1", func := "robotics/roboticslaw22.LivelinessExact", spec := "livelinessExact", unfollowed := true, recurses := true, apart := false, narrowed := true }
def LivelinessExactUptoSaid : Prop := livelinessExactUptoRow.holds Try.pinned (OpenSpec.upto livelinessExactSpec)

/-- 'roboticslaw22.LivelinessAlternates', WHERE WHAT IT READS IS OF BULK AT MOST 1048576: true; the input reads as it did. -/
def livelinessAlternatesUptoRow : OpenClaim := { program := "ytngmjggconefcaa", sum := "5d402411ed40a04e8d1d2ef96a5495871303ff49117e1e57dff51b6cfae84fe1", func := "robotics/roboticslaw22.LivelinessAlternates", spec := "livelinessAlternates", unfollowed := true, recurses := true, apart := false, narrowed := true }
def LivelinessAlternatesUptoSaid : Prop := livelinessAlternatesUptoRow.holds Try.pinned (OpenSpec.upto livelinessAlternatesSpec)

/-- 'roboticslaw22.LivelinessPlays', WHERE WHAT IT READS IS OF BULK AT MOST 1048576: true; the input reads as it did. -/
def livelinessPlaysUptoRow : OpenClaim := { program := "ytngmjggconefcaa", sum := "5d402411ed40a04e8d1d2ef96a5495871303ff49117e1e57dff51b6cfae84fe1", func := "robotics/roboticslaw22.LivelinessPlays", spec := "livelinessPlays", unfollowed := true, recurses := true, apart := false, narrowed := true }
def LivelinessPlaysUptoSaid : Prop := livelinessPlaysUptoRow.holds Try.pinned (OpenSpec.upto livelinessPlaysSpec)

/-- 'roboticslaw22.LivelinessApart', WHERE WHAT IT READS IS OF BULK AT MOST 1048576: true; the input reads as it did. -/
def livelinessApartUptoRow : OpenClaim := { program := "ytngmjggconefcaa", sum := "5d402411ed40a04e8d1d2ef96a5495871303ff49117e1e57dff51b6cfae84fe1", func := "robotics/roboticslaw22.LivelinessApart", spec := "livelinessApart", unfollowed := true, recurses := true, apart := false, narrowed := true }
def LivelinessApartUptoSaid : Prop := livelinessApartUptoRow.holds Try.pinned (OpenSpec.upto livelinessApartSpec)

/-- 'roboticslaw22.LivelinessNobody', WHERE WHAT IT READS IS OF BULK AT MOST 1048576: true; the input reads as it did. -/
def livelinessNobodyUptoRow : OpenClaim := { program := "ytngmjggconefcaa", sum := "5d402411ed40a04e8d1d2ef96a5495871303ff49117e1e57dff51b6cfae84fe1", func := "robotics/roboticslaw22.LivelinessNobody", spec := "livelinessNobody", unfollowed := true, recurses := true, apart := false, narrowed := true }
def LivelinessNobodyUptoSaid : Prop := livelinessNobodyUptoRow.holds Try.pinned (OpenSpec.upto livelinessNobodySpec)

end Rows
end Go.Proofs.Ytngmjggconefcaa
