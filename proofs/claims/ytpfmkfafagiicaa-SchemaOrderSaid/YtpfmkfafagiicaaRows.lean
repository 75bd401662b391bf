/-
  NARROWER THAN 'FOR EVERY INPUT', by the rows' own cells (each row's printed sentence says how): SchemaChecks: loops · SchemaNests: loops · SchemaSame: loops · SchemaFinds: loops · SchemaCloses: loops · SchemaDigests: loops · SchemaOrder: loops.
  DERIVED. THE GIVEN ROWS OF THIS SEAT. 7 by the template 'for every input the law returns true; each argument reads behind the call as it read before'; 0 by the template 'total and deterministic' (their statements: YtpfmkfafagiicaaTotals.lean).
  GIVEN WITH THE SEED: the statements are not yours to turn. If you find one false, say at which input.
  Laid BY PROGRAM, IN A SANDBOX (cutbox-rows.mjs): the forced cells as the released guide's own fill.sh prints them over the translation 6eb425ce08013170… (all of the seat's roots in one cut). By AI agents, Wed Nov 11 2026. No macro, syntax, notation, axiom, sorry.
-/
import Derived.Test.YtpfmkfafagiicaaChecked
import GoSem.Claim
import GoSem.ClaimJoined
import GoSem.ClaimMapViews
import Derived.JoinedTies
import Derived.KernelRfl
namespace Go.Proofs.Ytpfmkfafagiicaa
/- THE CELL 'sum', in the pinned program and in every row, IS THE sha256 OF THE DUMP (.gsa) THAT YtpfmkfafagiicaaProg.lean LOADS. Nothing in Lean hashes anything: it is a label: what it is worth is what the hold of that sum in a sandbox is worth. -/
noncomputable def Try.pinned : Pinned := { name := "ytpfmkfafagiicaa", sum := "6eb425ce080131707a447cacf0b5ad95bf540c2b1f8b94fd1c651d3e797f58d4", checked := Try.checked }
namespace Rows
def none {H : Type} : Left H := { results := [], args := [] }

/-- 'roboticslaw07.SchemaChecks': WHATEVER THE INPUT: true; the input reads as it did. -/
def schemaChecksSpec : ChangeSpec := { name := "schemaChecks", fn := fun _ => fun
  | [d] => { results := [.lit (.bool true)], args := [d] }
  | _ => none }
def schemaChecksRow : OpenClaim := { program := "ytpfmkfafagiicaa", sum := "6eb425ce080131707a447cacf0b5ad95bf540c2b1f8b94fd1c651d3e797f58d4", func := "robotics/roboticslaw07.SchemaChecks", spec := "schemaChecks", inPlace := ["internal/bytealg.IndexByteString"], unfollowed := true, recurses := true, loops := true, apart := false }
def SchemaChecksSaid : Prop := schemaChecksRow.holds Try.pinned (OpenSpec.ofChange schemaChecksSpec)

/-- ITS FALSE NEIGHBOUR: 'it returns false'. Refute it at one input. -/
def schemaChecksWrong : ChangeSpec := { name := "schemaChecks", fn := fun _ => fun
  | [d] => { results := [.lit (.bool false)], args := [d] }
  | _ => none }
def SchemaChecksWrongFalsely : Prop := schemaChecksRow.holds Try.pinned (OpenSpec.ofChange schemaChecksWrong)

/-- 'roboticslaw07.SchemaNests': WHATEVER THE INPUT: true; the input reads as it did. -/
def schemaNestsSpec : ChangeSpec := { name := "schemaNests", fn := fun _ => fun
  | [d1, d2] => { results := [.lit (.bool true)], args := [d1, d2] }
  | _ => none }
def schemaNestsRow : OpenClaim := { program := "ytpfmkfafagiicaa", sum := "6eb425ce080131707a447cacf0b5ad95bf540c2b1f8b94fd1c651d3e797f58d4", func := "robotics/roboticslaw07.SchemaNests", spec := "schemaNests", inPlace := ["internal/bytealg.IndexByteString"], unfollowed := true, recurses := true, loops := true, apart := false }
def SchemaNestsSaid : Prop := schemaNestsRow.holds Try.pinned (OpenSpec.ofChange schemaNestsSpec)

/-- ITS FALSE NEIGHBOUR: 'it returns false'. Refute it at one input. -/
def schemaNestsWrong : ChangeSpec := { name := "schemaNests", fn := fun _ => fun
  | [d1, d2] => { results := [.lit (.bool false)], args := [d1, d2] }
  | _ => none }
def SchemaNestsWrongFalsely : Prop := schemaNestsRow.holds Try.pinned (OpenSpec.ofChange schemaNestsWrong)

/-- 'roboticslaw07.SchemaSame': WHATEVER THE INPUT: true; the input reads as it did. -/
def schemaSameSpec : ChangeSpec := { name := "schemaSame", fn := fun _ => fun
  | [d1, d2] => { results := [.lit (.bool true)], args := [d1, d2] }
  | _ => none }
def schemaSameRow : OpenClaim := { program := "ytpfmkfafagiicaa", sum := "6eb425ce080131707a447cacf0b5ad95bf540c2b1f8b94fd1c651d3e797f58d4", func := "robotics/roboticslaw07.SchemaSame", spec := "schemaSame", inPlace := ["internal/bytealg.IndexByteString"], unfollowed := true, recurses := true, loops := true, apart := false }
def SchemaSameSaid : Prop := schemaSameRow.holds Try.pinned (OpenSpec.ofChange schemaSameSpec)

/-- ITS FALSE NEIGHBOUR: 'it returns false'. Refute it at one input. -/
def schemaSameWrong : ChangeSpec := { name := "schemaSame", fn := fun _ => fun
  | [d1, d2] => { results := [.lit (.bool false)], args := [d1, d2] }
  | _ => none }
def SchemaSameWrongFalsely : Prop := schemaSameRow.holds Try.pinned (OpenSpec.ofChange schemaSameWrong)

/-- 'roboticslaw07.SchemaFinds': WHATEVER THE INPUT: true; the input reads as it did. -/
def schemaFindsSpec : ChangeSpec := { name := "schemaFinds", fn := fun _ => fun
  | [d1, d2, d3] => { results := [.lit (.bool true)], args := [d1, d2, d3] }
  | _ => none }
def schemaFindsRow : OpenClaim := { program := "ytpfmkfafagiicaa", sum := "6eb425ce080131707a447cacf0b5ad95bf540c2b1f8b94fd1c651d3e797f58d4", func := "robotics/roboticslaw07.SchemaFinds", spec := "schemaFinds", inPlace := ["internal/bytealg.IndexByteString"], unfollowed := true, recurses := true, loops := true, apart := false }
def SchemaFindsSaid : Prop := schemaFindsRow.holds Try.pinned (OpenSpec.ofChange schemaFindsSpec)

/-- ITS FALSE NEIGHBOUR: 'it returns false'. Refute it at one input. -/
def schemaFindsWrong : ChangeSpec := { name := "schemaFinds", fn := fun _ => fun
  | [d1, d2, d3] => { results := [.lit (.bool false)], args := [d1, d2, d3] }
  | _ => none }
def SchemaFindsWrongFalsely : Prop := schemaFindsRow.holds Try.pinned (OpenSpec.ofChange schemaFindsWrong)

/-- 'roboticslaw07.SchemaCloses': WHATEVER THE INPUT: true; the input reads as it did. -/
def schemaClosesSpec : ChangeSpec := { name := "schemaCloses", fn := fun _ => fun
  | [d] => { results := [.lit (.bool true)], args := [d] }
  | _ => none }
def schemaClosesRow : OpenClaim := { program := "ytpfmkfafagiicaa", sum := "6eb425ce080131707a447cacf0b5ad95bf540c2b1f8b94fd1c651d3e797f58d4", func := "robotics/roboticslaw07.SchemaCloses", spec := "schemaCloses", inPlace := ["internal/bytealg.IndexByteString"], unfollowed := true, recurses := true, loops := true, apart := false }
def SchemaClosesSaid : Prop := schemaClosesRow.holds Try.pinned (OpenSpec.ofChange schemaClosesSpec)

/-- ITS FALSE NEIGHBOUR: 'it returns false'. Refute it at one input. -/
def schemaClosesWrong : ChangeSpec := { name := "schemaCloses", fn := fun _ => fun
  | [d] => { results := [.lit (.bool false)], args := [d] }
  | _ => none }
def SchemaClosesWrongFalsely : Prop := schemaClosesRow.holds Try.pinned (OpenSpec.ofChange schemaClosesWrong)

/-- 'roboticslaw07.SchemaDigests': WHATEVER THE INPUT: true; the input reads as it did. -/
def schemaDigestsSpec : ChangeSpec := { name := "schemaDigests", fn := fun _ => fun
  | [d1, d2, d3, d4] => { results := [.lit (.bool true)], args := [d1, d2, d3, d4] }
  | _ => none }
def schemaDigestsRow : OpenClaim := { program := "ytpfmkfafagiicaa", sum := "6eb425ce080131707a447cacf0b5ad95bf540c2b1f8b94fd1c651d3e797f58d4", func := "robotics/roboticslaw07.SchemaDigests", spec := "schemaDigests", inPlace := ["internal/bytealg.IndexByteString"], unfollowed := true, recurses := true, loops := true, apart := false }
def SchemaDigestsSaid : Prop := schemaDigestsRow.holds Try.pinned (OpenSpec.ofChange schemaDigestsSpec)

/-- ITS FALSE NEIGHBOUR: 'it returns false'. Refute it at one input. -/
def schemaDigestsWrong : ChangeSpec := { name := "schemaDigests", fn := fun _ => fun
  | [d1, d2, d3, d4] => { results := [.lit (.bool false)], args := [d1, d2, d3, d4] }
  | _ => none }
def SchemaDigestsWrongFalsely : Prop := schemaDigestsRow.holds Try.pinned (OpenSpec.ofChange schemaDigestsWrong)

/-- 'roboticslaw07.SchemaOrder': WHATEVER THE INPUT: true; the input reads as it did. -/
def schemaOrderSpec : ChangeSpec := { name := "schemaOrder", fn := fun _ => fun
  | [d] => { results := [.lit (.bool true)], args := [d] }
  | _ => none }
def schemaOrderRow : OpenClaim := { program := "ytpfmkfafagiicaa", sum := "6eb425ce080131707a447cacf0b5ad95bf540c2b1f8b94fd1c651d3e797f58d4", func := "robotics/roboticslaw07.SchemaOrder", spec := "schemaOrder", inPlace := ["internal/bytealg.IndexByteString"], unfollowed := true, recurses := true, loops := true, apart := false }
def SchemaOrderSaid : Prop := schemaOrderRow.holds Try.pinned (OpenSpec.ofChange schemaOrderSpec)

/-- ITS FALSE NEIGHBOUR: 'it returns false'. Refute it at one input. -/
def schemaOrderWrong : ChangeSpec := { name := "schemaOrder", fn := fun _ => fun
  | [d] => { results := [.lit (.bool false)], args := [d] }
  | _ => none }
def SchemaOrderWrongFalsely : Prop := schemaOrderRow.holds Try.pinned (OpenSpec.ofChange schemaOrderWrong)

/- THE SECOND FORM. 'bulk': how many values and letters a reading holds, each counted each time it is reached (what is shared counts as often as it is met; a slice's spare places count too). A statement '..UptoSaid' is the law's where the arguments, and the package variables that the reading takes, are together of bulk at most 1048576: NARROWER than '..Said'. Prove '..Said' where nothing that the law and all that it calls make is longer than what came in: it says more and counts as full. Else prove '..UptoSaid'. A law counts once. -/
mutual
def uptoBulk {H : Type} : DataW H → Nat
  | .lit (.string bytes) => bytes.length + 1
  | .lit _ => 1
  | .nil => 1
  | .ptr d => uptoBulk d + 1
  | .slice elems spare => uptoBulkAll elems + uptoBulkAll spare + 1
  | .agg parts => uptoBulkAll parts + 1
  | .iface _ d => uptoBulk d + 1
  | .map entries => uptoBulkEntries entries + 1
  | .held _ => 1
def uptoBulkAll {H : Type} : List (DataW H) → Nat
  | [] => 0
  | d :: r => uptoBulk d + uptoBulkAll r
def uptoBulkEntries {H : Type} : List (Lit × DataW H) → Nat
  | [] => 0
  | x :: r => uptoBulkEntry x + uptoBulkEntries r
def uptoBulkEntry {H : Type} : Lit × DataW H → Nat
  | (.string bytes, d) => bytes.length + uptoBulk d + 1
  | (_, d) => uptoBulk d + 1
 end
def uptoSmall : (H : Type) → List (DataW H) → Bool := fun _ ds => decide (uptoBulkAll ds ≤ 1048576)
def OpenSpec.upto (s : _root_.Go.ChangeSpec) : _root_.Go.OpenSpec := { _root_.Go.OpenSpec.ofChange s with cond := some uptoSmall }

/-- 'roboticslaw07.SchemaChecks', WHERE WHAT IT READS IS OF BULK AT MOST 1048576: true; the input reads as it did. -/
def schemaChecksUptoRow : OpenClaim := { program := "ytpfmkfafagiicaa", sum := "6eb425ce080131707a447cacf0b5ad95bf540c2b1f8b94fd1c651d3e797f58d4", func := "robotics/roboticslaw07.SchemaChecks", spec := "schemaChecks", inPlace := ["internal/bytealg.IndexByteString"], unfollowed := true, recurses := true, loops := true, apart := false, narrowed := true }
def SchemaChecksUptoSaid : Prop := schemaChecksUptoRow.holds Try.pinned (OpenSpec.upto schemaChecksSpec)

/-- 'roboticslaw07.SchemaNests', WHERE WHAT IT READS IS OF BULK AT MOST 1048576: true; the input reads as it did. -/
def schemaNestsUptoRow : OpenClaim := { program := "ytpfmkfafagiicaa", sum := "6eb425ce080131707a447cacf0b5ad95bf540c2b1f8b94fd1c651d3e797f58d4", func := "robotics/roboticslaw07.SchemaNests", spec := "schemaNests", inPlace := ["internal/bytealg.IndexByteString"], unfollowed := true, recurses := true, loops := true, apart := false, narrowed := true }
def SchemaNestsUptoSaid : Prop := schemaNestsUptoRow.holds Try.pinned (OpenSpec.upto schemaNestsSpec)

/-- 'roboticslaw07.SchemaSame', WHERE WHAT IT READS IS OF BULK AT MOST 1048576: true; the input reads as it did. -/
def schemaSameUptoRow : OpenClaim := { program := "ytpfmkfafagiicaa", sum := "6eb425ce080131707a447cacf0b5ad95bf540c2b1f8b94fd1c651d3e797f58d4", func := "robotics/roboticslaw07.SchemaSame", spec := "schemaSame", inPlace := ["internal/bytealg.IndexByteString"], unfollowed := true, recurses := true, loops := true, apart := false, narrowed := true }
def SchemaSameUptoSaid : Prop := schemaSameUptoRow.holds Try.pinned (OpenSpec.upto schemaSameSpec)

/-- 'roboticslaw07.SchemaFinds', WHERE WHAT IT READS IS OF BULK AT MOST 1048576: true; the input reads as it did. -/
def schemaFindsUptoRow : OpenClaim := { program := "ytpfmkfafagiicaa", sum := "6eb425ce080131707a447cacf0b5ad95bf540c2b1f8b94fd1c651d3e797f58d4", func := "robotics/roboticslaw07.SchemaFinds", spec := "schemaFinds", inPlace := ["internal/bytealg.IndexByteString"], unfollowed := true, recurses := true, loops := true, apart := false, narrowed := true }
def SchemaFindsUptoSaid : Prop := schemaFindsUptoRow.holds Try.pinned (OpenSpec.upto schemaFindsSpec)

/-- 'roboticslaw07.SchemaCloses', WHERE WHAT IT READS IS OF BULK AT MOST 1048576: true; the input reads as it did. -/
def schemaClosesUptoRow : OpenClaim := { program := "ytpfmkfafagiicaa", sum := "6eb425ce080131707a447cacf0b5ad95bf540c2b1f8b94fd1c651d3e797f58d4", func := "robotics/roboticslaw07.SchemaCloses", spec := "schemaCloses", inPlace := ["internal/bytealg.IndexByteString"], unfollowed := true, recurses := true, loops := true, apart := false, narrowed := true }
def SchemaClosesUptoSaid : Prop := schemaClosesUptoRow.holds Try.pinned (OpenSpec.upto schemaClosesSpec)

/-- 'roboticslaw07.SchemaDigests', WHERE WHAT IT READS IS OF BULK AT MOST 1048576: true; the input reads as it did. -/
def schemaDigestsUptoRow : OpenClaim := { program := "ytpfmkfafagiicaa", sum := "6eb425ce080131707a447cacf0b5ad95bf540c2b1f8b94fd1c651d3e797f58d4", func := "robotics/roboticslaw07.SchemaDigests", spec := "schemaDigests", inPlace := ["internal/bytealg.IndexByteString"], unfollowed := true, recurses := true, loops := true, apart := false, narrowed := true }
def SchemaDigestsUptoSaid : Prop := schemaDigestsUptoRow.holds Try.pinned (OpenSpec.upto schemaDigestsSpec)

/-- 'roboticslaw07.SchemaOrder', WHERE WHAT IT READS IS OF BULK AT MOST 1048576: true; the input reads as it did. -/
def schemaOrderUptoRow : OpenClaim := { program := "ytpfmkfafagiicaa", sum := "6eb425ce080131707a447cacf0b5ad95bf540c2b1f8b94fd1c651d3e797f58d4", func := "robotics/roboticslaw07.SchemaOrder", spec := "schemaOrder", inPlace := ["internal/bytealg.IndexByteString"], unfollowed := true, recurses := true, loops := true, apart := false, narrowed := true }
def SchemaOrderUptoSaid : Prop := schemaOrderUptoRow.holds Try.pinned (OpenSpec.upto schemaOrderSpec)

end Rows
end Go.Proofs.Ytpfmkfafagiicaa
