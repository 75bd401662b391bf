/-
  No cell of these rows narrows 'for every input' (looked for: loops, veiled, ifaces, maps, wideKeys, modest, calm, conditions, laid).
  DERIVED. THE GIVEN ROWS OF THIS SEAT. 5 by the template 'for every input the law returns true; each argument reads behind the call as it read before'; 0 by the template 'total and deterministic' (their statements: YtdnohfhpbhlpaaaTotals.lean).
  GIVEN WITH THE SEED: the statements are not yours to turn. If you find one false, say at which input.
  Laid BY PROGRAM, IN A SANDBOX (cutbox-rows.mjs): the forced cells as the released guide's own fill.sh prints them over the translation 4891c57e22c1a135… (all of the seat's roots in one cut). By AI agents, Wed Nov 11 2026. No macro, syntax, notation, axiom, sorry.
-/
import Derived.Test.YtdnohfhpbhlpaaaChecked
import GoSem.Claim
import GoSem.ClaimJoined
import GoSem.ClaimMapViews
import Derived.JoinedTies
import Derived.KernelRfl
namespace Go.Proofs.Ytdnohfhpbhlpaaa
/- THE CELL 'sum', in the pinned program and in every row, IS THE sha256 OF THE DUMP (.gsa) THAT YtdnohfhpbhlpaaaProg.lean LOADS. Nothing in Lean hashes anything: it is a label: what it is worth is what the hold of that sum in a sandbox is worth. -/
noncomputable def Try.pinned : Pinned := { name := "ytdnohfhpbhlpaaa", sum := "4891c57e22c1a1354fa3177758fa1081fb9121ee25c1ff3fece3b4f84985a0df", checked := Try.checked }
namespace Rows
def none {H : Type} : Left H := { results := [], args := [] }

/-- 'roboticslaw53.AuditContracts': WHATEVER THE INPUT: true; the input reads as it did. -/
def auditContractsSpec : ChangeSpec := { name := "auditContracts", fn := fun _ => fun
  | [d1, d2] => { results := [.lit (.bool true)], args := [d1, d2] }
  | _ => none }
def auditContractsRow : OpenClaim := { program := "ytdnohfhpbhlpaaa", sum := "4891c57e22c1a1354fa3177758fa1081fb9121ee25c1ff3fece3b4f84985a0df", func := "robotics/roboticslaw53.AuditContracts", spec := "auditContracts", unfollowed := true, recurses := true, apart := false }
def AuditContractsSaid : Prop := auditContractsRow.holds Try.pinned (OpenSpec.ofChange auditContractsSpec)

/-- ITS FALSE NEIGHBOUR: 'it returns false'. Refute it at one input. -/
def auditContractsWrong : ChangeSpec := { name := "auditContracts", fn := fun _ => fun
  | [d1, d2] => { results := [.lit (.bool false)], args := [d1, d2] }
  | _ => none }
def AuditContractsWrongFalsely : Prop := auditContractsRow.holds Try.pinned (OpenSpec.ofChange auditContractsWrong)

/-- 'roboticslaw53.AuditCatches': WHATEVER THE INPUT: true; the input reads as it did. -/
def auditCatchesSpec : ChangeSpec := { name := "auditCatches", fn := fun _ => fun
  | [d1, d2, d3] => { results := [.lit (.bool true)], args := [d1, d2, d3] }
  | _ => none }
def auditCatchesRow : OpenClaim := { program := "ytdnohfhpbhlpaaa", sum := "4891c57e22c1a1354fa3177758fa1081fb9121ee25c1ff3fece3b4f84985a0df", func := "robotics/roboticslaw53.AuditCatches", spec := "auditCatches", unfollowed := true, recurses := true, apart := false }
def AuditCatchesSaid : Prop := auditCatchesRow.holds Try.pinned (OpenSpec.ofChange auditCatchesSpec)

/-- ITS FALSE NEIGHBOUR: 'it returns false'. Refute it at one input. -/
def auditCatchesWrong : ChangeSpec := { name := "auditCatches", fn := fun _ => fun
  | [d1, d2, d3] => { results := [.lit (.bool false)], args := [d1, d2, d3] }
  | _ => none }
def AuditCatchesWrongFalsely : Prop := auditCatchesRow.holds Try.pinned (OpenSpec.ofChange auditCatchesWrong)

/-- 'roboticslaw53.AuditSpeeds': WHATEVER THE INPUT: true; the input reads as it did. -/
def auditSpeedsSpec : ChangeSpec := { name := "auditSpeeds", fn := fun _ => fun
  | [d1, d2] => { results := [.lit (.bool true)], args := [d1, d2] }
  | _ => none }
def auditSpeedsRow : OpenClaim := { program := "ytdnohfhpbhlpaaa", sum := "4891c57e22c1a1354fa3177758fa1081fb9121ee25c1ff3fece3b4f84985a0df", func := "robotics/roboticslaw53.AuditSpeeds", spec := "auditSpeeds", unfollowed := true, recurses := true, apart := false }
def AuditSpeedsSaid : Prop := auditSpeedsRow.holds Try.pinned (OpenSpec.ofChange auditSpeedsSpec)

/-- ITS FALSE NEIGHBOUR: 'it returns false'. Refute it at one input. -/
def auditSpeedsWrong : ChangeSpec := { name := "auditSpeeds", fn := fun _ => fun
  | [d1, d2] => { results := [.lit (.bool false)], args := [d1, d2] }
  | _ => none }
def AuditSpeedsWrongFalsely : Prop := auditSpeedsRow.holds Try.pinned (OpenSpec.ofChange auditSpeedsWrong)

/-- 'roboticslaw53.AuditNames': WHATEVER THE INPUT: true; the input reads as it did. -/
def auditNamesSpec : ChangeSpec := { name := "auditNames", fn := fun _ => fun
  | [d] => { results := [.lit (.bool true)], args := [d] }
  | _ => none }
def auditNamesRow : OpenClaim := { program := "ytdnohfhpbhlpaaa", sum := "4891c57e22c1a1354fa3177758fa1081fb9121ee25c1ff3fece3b4f84985a0df", func := "robotics/roboticslaw53.AuditNames", spec := "auditNames", unfollowed := true, recurses := true, apart := false }
def AuditNamesSaid : Prop := auditNamesRow.holds Try.pinned (OpenSpec.ofChange auditNamesSpec)

/-- ITS FALSE NEIGHBOUR: 'it returns false'. Refute it at one input. -/
def auditNamesWrong : ChangeSpec := { name := "auditNames", fn := fun _ => fun
  | [d] => { results := [.lit (.bool false)], args := [d] }
  | _ => none }
def AuditNamesWrongFalsely : Prop := auditNamesRow.holds Try.pinned (OpenSpec.ofChange auditNamesWrong)

/-- 'roboticslaw53.AuditGoals': WHATEVER THE INPUT: true; the input reads as it did. -/
def auditGoalsSpec : ChangeSpec := { name := "auditGoals", fn := fun _ => fun
  | [d] => { results := [.lit (.bool true)], args := [d] }
  | _ => none }
def auditGoalsRow : OpenClaim := { program := "ytdnohfhpbhlpaaa", sum := "4891c57e22c1a1354fa3177758fa1081fb9121ee25c1ff3fece3b4f84985a0df", func := "robotics/roboticslaw53.AuditGoals", spec := "auditGoals", unfollowed := true, recurses := true, apart := false }
def AuditGoalsSaid : Prop := auditGoalsRow.holds Try.pinned (OpenSpec.ofChange auditGoalsSpec)

/-- ITS FALSE NEIGHBOUR: 'it returns false'. Refute it at one input. -/
def auditGoalsWrong : ChangeSpec := { name := "auditGoals", fn := fun _ => fun
  | [d] => { results := [.lit (.bool false)], args := [d] }
  | _ => none }
def AuditGoalsWrongFalsely : Prop := auditGoalsRow.holds Try.pinned (OpenSpec.ofChange auditGoalsWrong)

/- THE SECOND FORM. 'bulk': how many values and letters a reading holds, each counted each time it is reached (what is shared counts as often as it is met; a slice's spare places count too). A statement '..UptoSaid' is the law's where the arguments, and the package variables that the reading takes, are together of bulk at most 1048576: NARROWER than '..Said'. Prove '..Said' where nothing that the law and all that it calls make is longer than what came in: it says more and counts as full. Else prove '..UptoSaid'. A law counts once. -/
mutual
def uptoBulk {H : Type} : DataW H → Nat
  | .lit (.string bytes) => bytes.length + 1
  | .lit _ => 1
  | .nil => 1
  | .ptr d => uptoBulk d + 1
  | .slice elems spare => uptoBulkAll elems + uptoBulkAll spare + 1
  | .agg parts => uptoBulkAll parts + 1
  | .iface _ d => uptoBulk d + 1
  | .map entries => uptoBulkEntries entries + 1
  | .held _ => 1
def uptoBulkAll {H : Type} : List (DataW H) → Nat
  | [] => 0
  | d :: r => uptoBulk d + uptoBulkAll r
def uptoBulkEntries {H : Type} : List (Lit × DataW H) → Nat
  | [] => 0
  | x :: r => uptoBulkEntry x + uptoBulkEntries r
def uptoBulkEntry {H : Type} : Lit × DataW H → Nat
  | (.string bytes, d) => bytes.length + uptoBulk d + 1
  | (_, d) => uptoBulk d + 1
 end
def uptoSmall : (H : Type) → List (DataW H) → Bool := fun _ ds => decide (uptoBulkAll ds ≤ 1048576)
def OpenSpec.upto (s : _root_.Go.ChangeSpec) : _root_.Go.OpenSpec := { _root_.Go.OpenSpec.ofChange s with cond := some uptoSmall }

/-- 'roboticslaw53.AuditContracts', WHERE WHAT IT READS IS OF BULK AT MOST 1048576: true; the input reads as it did. -/
def auditContractsUptoRow : OpenClaim := { program := "ytdnohfhpbhlpaaa", sum := "4891c57e22c1a1354fa3177758fa1081fb9121ee25c1ff3fece3b4f84985a0df", func := "robotics/roboticslaw53.AuditContracts", spec := "auditContracts", unfollowed := true, recurses := true, apart := false, narrowed := true }
def AuditContractsUptoSaid : Prop := auditContractsUptoRow.holds Try.pinned (OpenSpec.upto auditContractsSpec)

/-- 'roboticslaw53.AuditCatches', WHERE WHAT IT READS IS OF BULK AT MOST 1048576: true; the input reads as it did. -/
def auditCatchesUptoRow : OpenClaim := { program := "ytdnohfhpbhlpaaa", sum := "4891c57e22c1a1354fa3177758fa1081fb9121ee25c1ff3fece3b4f84985a0df", func := "robotics/roboticslaw53.AuditCatches", spec := "auditCatches", unfollowed := true, recurses := true, apart := false, narrowed := true }
def AuditCatchesUptoSaid : Prop := auditCatchesUptoRow.holds Try.pinned (OpenSpec.upto auditCatchesSpec)

/-- 'roboticslaw53.AuditSpeeds', WHERE WHAT IT READS IS OF BULK AT MOST 1048576: true; the input reads as it did. -/
def auditSpeedsUptoRow : OpenClaim := { program := "ytdnohfhpbhlpaaa", sum := "4891c57e22c1a1354fa3177758fa1081fb9121ee25c1ff3fece3b4f84985a0df", func := "robotics/roboticslaw53.AuditSpeeds", spec := "auditSpeeds", unfollowed := true, recurses := true, apart := false, narrowed := true }
def AuditSpeedsUptoSaid : Prop := auditSpeedsUptoRow.holds Try.pinned (OpenSpec.upto auditSpeedsSpec)

/-- 'roboticslaw53.AuditNames', WHERE WHAT IT READS IS OF BULK AT MOST 1048576: true; the input reads as it did. -/
def auditNamesUptoRow : OpenClaim := { program := "ytdnohfhpbhlpaaa", sum := "4891c57e22c1a1354fa3177758fa1081fb9121ee25c1ff3fece3b4f84985a0df", func := "robotics/roboticslaw53.AuditNames", spec := "auditNames", unfollowed := true, recurses := true, apart := false, narrowed := true }
def AuditNamesUptoSaid : Prop := auditNamesUptoRow.holds Try.pinned (OpenSpec.upto auditNamesSpec)

/-- 'roboticslaw53.AuditGoals', WHERE WHAT IT READS IS OF BULK AT MOST 1048576: true; the input reads as it did. -/
def auditGoalsUptoRow : OpenClaim := { program := "ytdnohfhpbhlpaaa", sum := "4891c57e22c1a1354fa3177758fa1081fb9121ee25c1ff3fece3b4f84985a0df", func := "robotics/roboticslaw53.AuditGoals", spec := "auditGoals", unfollowed := true, recurses := true, apart := false, narrowed := true }
def AuditGoalsUptoSaid : Prop := auditGoalsUptoRow.holds Try.pinned (OpenSpec.upto auditGoalsSpec)

end Rows
end Go.Proofs.Ytdnohfhpbhlpaaa
