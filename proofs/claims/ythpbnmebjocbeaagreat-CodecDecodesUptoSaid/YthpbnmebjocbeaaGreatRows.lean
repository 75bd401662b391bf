/-
  NARROWER THAN 'FOR EVERY INPUT', by the rows' own cells (each row's printed sentence says how): CodecEncodes: loops · CodecDecodes: loops · CodecCanonical: loops · CodecRoundTrip: loops · CodecSkips: loops.
  DERIVED. THE GIVEN ROWS OF THIS SEAT. 6 by the template 'for every input the law returns true; each argument reads behind the call as it read before'; 0 by the template 'total and deterministic' (their statements: YthpbnmebjocbeaaGreatTotals.lean).
  GIVEN WITH THE SEED: the statements are not yours to turn. If you find one false, say at which input.
  Laid BY PROGRAM, IN A SANDBOX (cutbox-rows.mjs): the forced cells as the released guide's own fill.sh prints them over the translation 7aad62d44c5f5a7a… (all of the seat's roots in one cut). By AI agents, Wed Nov 11 2026. No macro, syntax, notation, axiom, sorry.
-/
import Derived.Test.YthpbnmebjocbeaaGreatChecked
import GoSem.Claim
import GoSem.ClaimJoined
import GoSem.ClaimMapViews
import Derived.JoinedTies
import Derived.KernelRfl
namespace Go.Proofs.YthpbnmebjocbeaaGreat
/- THE CELL 'sum', in the pinned program and in every row, IS THE sha256 OF THE DUMP (.gsa) THAT YthpbnmebjocbeaaGreatProg.lean LOADS. Nothing in Lean hashes anything: it is a label: what it is worth is what the hold of that sum in a sandbox is worth. -/
noncomputable def Tryz.pinned : Pinned := { name := "ythpbnmebjocbeaagreat", sum := "7aad62d44c5f5a7ae7d2138d1181fc771d893999aa0c214b5b4ae53cf29b8c4c", checked := Tryz.checked }
namespace Rows
def none {H : Type} : Left H := { results := [], args := [] }

/-- 'roboticslaw11.CodecEncodes': WHATEVER THE INPUT: true; the input reads as it did. -/
def codecEncodesSpec : ChangeSpec := { name := "codecEncodes", fn := fun _ => fun
  | [d1, d2, d3] => { results := [.lit (.bool true)], args := [d1, d2, d3] }
  | _ => none }
def codecEncodesRow : OpenClaim := { program := "ythpbnmebjocbeaagreat", sum := "7aad62d44c5f5a7ae7d2138d1181fc771d893999aa0c214b5b4ae53cf29b8c4c", func := "robotics/roboticslaw11.CodecEncodes", spec := "codecEncodes", inPlace := ["internal/bytealg.IndexByteString", "internal/bytealg.abigen_runtime_cmpstring"], unfollowed := true, recurses := true, loops := true, apart := false }
def CodecEncodesSaid : Prop := codecEncodesRow.holds Tryz.pinned (OpenSpec.ofChange codecEncodesSpec)

/-- ITS FALSE NEIGHBOUR: 'it returns false'. Refute it at one input. -/
def codecEncodesWrong : ChangeSpec := { name := "codecEncodes", fn := fun _ => fun
  | [d1, d2, d3] => { results := [.lit (.bool false)], args := [d1, d2, d3] }
  | _ => none }
def CodecEncodesWrongFalsely : Prop := codecEncodesRow.holds Tryz.pinned (OpenSpec.ofChange codecEncodesWrong)

/-- 'roboticslaw11.CodecDecodes': WHATEVER THE INPUT: true; the input reads as it did. -/
def codecDecodesSpec : ChangeSpec := { name := "codecDecodes", fn := fun _ => fun
  | [d1, d2, d3] => { results := [.lit (.bool true)], args := [d1, d2, d3] }
  | _ => none }
def codecDecodesRow : OpenClaim := { program := "ythpbnmebjocbeaagreat", sum := "7aad62d44c5f5a7ae7d2138d1181fc771d893999aa0c214b5b4ae53cf29b8c4c", func := "robotics/roboticslaw11.CodecDecodes", spec := "codecDecodes", inPlace := ["internal/bytealg.IndexByteString", "internal/bytealg.abigen_runtime_cmpstring"], unfollowed := true, recurses := true, loops := true, apart := false }
def CodecDecodesSaid : Prop := codecDecodesRow.holds Tryz.pinned (OpenSpec.ofChange codecDecodesSpec)

/-- ITS FALSE NEIGHBOUR: 'it returns false'. Refute it at one input. -/
def codecDecodesWrong : ChangeSpec := { name := "codecDecodes", fn := fun _ => fun
  | [d1, d2, d3] => { results := [.lit (.bool false)], args := [d1, d2, d3] }
  | _ => none }
def CodecDecodesWrongFalsely : Prop := codecDecodesRow.holds Tryz.pinned (OpenSpec.ofChange codecDecodesWrong)

/-- 'roboticslaw11.CodecCanonical': WHATEVER THE INPUT: true; the input reads as it did. -/
def codecCanonicalSpec : ChangeSpec := { name := "codecCanonical", fn := fun _ => fun
  | [d1, d2, d3] => { results := [.lit (.bool true)], args := [d1, d2, d3] }
  | _ => none }
def codecCanonicalRow : OpenClaim := { program := "ythpbnmebjocbeaagreat", sum := "7aad62d44c5f5a7ae7d2138d1181fc771d893999aa0c214b5b4ae53cf29b8c4c", func := "robotics/roboticslaw11.CodecCanonical", spec := "codecCanonical", inPlace := ["internal/bytealg.IndexByteString", "internal/bytealg.abigen_runtime_cmpstring"], unfollowed := true, recurses := true, loops := true, apart := false }
def CodecCanonicalSaid : Prop := codecCanonicalRow.holds Tryz.pinned (OpenSpec.ofChange codecCanonicalSpec)

/-- ITS FALSE NEIGHBOUR: 'it returns false'. Refute it at one input. -/
def codecCanonicalWrong : ChangeSpec := { name := "codecCanonical", fn := fun _ => fun
  | [d1, d2, d3] => { results := [.lit (.bool false)], args := [d1, d2, d3] }
  | _ => none }
def CodecCanonicalWrongFalsely : Prop := codecCanonicalRow.holds Tryz.pinned (OpenSpec.ofChange codecCanonicalWrong)

/-- 'roboticslaw11.CodecRoundTrip': WHATEVER THE INPUT: true; the input reads as it did. -/
def codecRoundTripSpec : ChangeSpec := { name := "codecRoundTrip", fn := fun _ => fun
  | [d1, d2, d3] => { results := [.lit (.bool true)], args := [d1, d2, d3] }
  | _ => none }
def codecRoundTripRow : OpenClaim := { program := "ythpbnmebjocbeaagreat", sum := "7aad62d44c5f5a7ae7d2138d1181fc771d893999aa0c214b5b4ae53cf29b8c4c", func := "robotics/roboticslaw11.CodecRoundTrip", spec := "codecRoundTrip", inPlace := ["internal/bytealg.IndexByteString", "internal/bytealg.abigen_runtime_cmpstring"], unfollowed := true, recurses := true, loops := true, apart := false }
def CodecRoundTripSaid : Prop := codecRoundTripRow.holds Tryz.pinned (OpenSpec.ofChange codecRoundTripSpec)

/-- ITS FALSE NEIGHBOUR: 'it returns false'. Refute it at one input. -/
def codecRoundTripWrong : ChangeSpec := { name := "codecRoundTrip", fn := fun _ => fun
  | [d1, d2, d3] => { results := [.lit (.bool false)], args := [d1, d2, d3] }
  | _ => none }
def CodecRoundTripWrongFalsely : Prop := codecRoundTripRow.holds Tryz.pinned (OpenSpec.ofChange codecRoundTripWrong)

/-- 'roboticslaw11.CodecSkips': WHATEVER THE INPUT: true; the input reads as it did. -/
def codecSkipsSpec : ChangeSpec := { name := "codecSkips", fn := fun _ => fun
  | [d] => { results := [.lit (.bool true)], args := [d] }
  | _ => none }
def codecSkipsRow : OpenClaim := { program := "ythpbnmebjocbeaagreat", sum := "7aad62d44c5f5a7ae7d2138d1181fc771d893999aa0c214b5b4ae53cf29b8c4c", func := "robotics/roboticslaw11.CodecSkips", spec := "codecSkips", inPlace := ["internal/bytealg.IndexByteString", "internal/bytealg.abigen_runtime_cmpstring"], unfollowed := true, recurses := true, loops := true, apart := false }
def CodecSkipsSaid : Prop := codecSkipsRow.holds Tryz.pinned (OpenSpec.ofChange codecSkipsSpec)

/-- ITS FALSE NEIGHBOUR: 'it returns false'. Refute it at one input. -/
def codecSkipsWrong : ChangeSpec := { name := "codecSkips", fn := fun _ => fun
  | [d] => { results := [.lit (.bool false)], args := [d] }
  | _ => none }
def CodecSkipsWrongFalsely : Prop := codecSkipsRow.holds Tryz.pinned (OpenSpec.ofChange codecSkipsWrong)

/-- 'roboticslaw11.CodecFields': WHATEVER THE INPUT: true; the input reads as it did. -/
def codecFieldsSpec : ChangeSpec := { name := "codecFields", fn := fun _ => fun
  | [d1, d2] => { results := [.lit (.bool true)], args := [d1, d2] }
  | _ => none }
def codecFieldsRow : OpenClaim := { program := "ythpbnmebjocbeaagreat", sum := "7aad62d44c5f5a7ae7d2138d1181fc771d893999aa0c214b5b4ae53cf29b8c4c", func := "robotics/roboticslaw11.CodecFields", spec := "codecFields", inPlace := ["internal/bytealg.IndexByteString", "internal/bytealg.abigen_runtime_cmpstring"], unfollowed := true, recurses := true, apart := false }
def CodecFieldsSaid : Prop := codecFieldsRow.holds Tryz.pinned (OpenSpec.ofChange codecFieldsSpec)

/-- ITS FALSE NEIGHBOUR: 'it returns false'. Refute it at one input. -/
def codecFieldsWrong : ChangeSpec := { name := "codecFields", fn := fun _ => fun
  | [d1, d2] => { results := [.lit (.bool false)], args := [d1, d2] }
  | _ => none }
def CodecFieldsWrongFalsely : Prop := codecFieldsRow.holds Tryz.pinned (OpenSpec.ofChange codecFieldsWrong)

/- THE SECOND FORM. 'bulk': how many values and letters a reading holds, each counted each time it is reached (what is shared counts as often as it is met; a slice's spare places count too). A statement '..UptoSaid' is the law's where the arguments, and the package variables that the reading takes, are together of bulk at most 1048576: NARROWER than '..Said'. Prove '..Said' where nothing that the law and all that it calls make is longer than what came in: it says more and counts as full. Else prove '..UptoSaid'. A law counts once. -/
mutual
def uptoBulk {H : Type} : DataW H → Nat
  | .lit (.string bytes) => bytes.length + 1
  | .lit _ => 1
  | .nil => 1
  | .ptr d => uptoBulk d + 1
  | .slice elems spare => uptoBulkAll elems + uptoBulkAll spare + 1
  | .agg parts => uptoBulkAll parts + 1
  | .iface _ d => uptoBulk d + 1
  | .map entries => uptoBulkEntries entries + 1
  | .held _ => 1
def uptoBulkAll {H : Type} : List (DataW H) → Nat
  | [] => 0
  | d :: r => uptoBulk d + uptoBulkAll r
def uptoBulkEntries {H : Type} : List (Lit × DataW H) → Nat
  | [] => 0
  | x :: r => uptoBulkEntry x + uptoBulkEntries r
def uptoBulkEntry {H : Type} : Lit × DataW H → Nat
  | (.string bytes, d) => bytes.length + uptoBulk d + 1
  | (_, d) => uptoBulk d + 1
 end
def uptoSmall : (H : Type) → List (DataW H) → Bool := fun _ ds => decide (uptoBulkAll ds ≤ 1048576)
def OpenSpec.upto (s : _root_.Go.ChangeSpec) : _root_.Go.OpenSpec := { _root_.Go.OpenSpec.ofChange s with cond := some uptoSmall }

/-- 'roboticslaw11.CodecEncodes', WHERE WHAT IT READS IS OF BULK AT MOST 1048576: true; the input reads as it did. -/
def codecEncodesUptoRow : OpenClaim := { program := "ythpbnmebjocbeaagreat", sum := "7aad62d44c5f5a7ae7d2138d1181fc771d893999aa0c214b5b4ae53cf29b8c4c", func := "robotics/roboticslaw11.CodecEncodes", spec := "codecEncodes", inPlace := ["internal/bytealg.IndexByteString", "internal/bytealg.abigen_runtime_cmpstring"], unfollowed := true, recurses := true, loops := true, apart := false, narrowed := true }
def CodecEncodesUptoSaid : Prop := codecEncodesUptoRow.holds Tryz.pinned (OpenSpec.upto codecEncodesSpec)

/-- 'roboticslaw11.CodecDecodes', WHERE WHAT IT READS IS OF BULK AT MOST 1048576: true; the input reads as it did. -/
def codecDecodesUptoRow : OpenClaim := { program := "ythpbnmebjocbeaagreat", sum := "7aad62d44c5f5a7ae7d2138d1181fc771d893999aa0c214b5b4ae53cf29b8c4c", func := "robotics/roboticslaw11.CodecDecodes", spec := "codecDecodes", inPlace := ["internal/bytealg.IndexByteString", "internal/bytealg.abigen_runtime_cmpstring"], unfollowed := true, recurses := true, loops := true, apart := false, narrowed := true }
def CodecDecodesUptoSaid : Prop := codecDecodesUptoRow.holds Tryz.pinned (OpenSpec.upto codecDecodesSpec)

/-- 'roboticslaw11.CodecCanonical', WHERE WHAT IT READS IS OF BULK AT MOST 1048576: true; the input reads as it did. -/
def codecCanonicalUptoRow : OpenClaim := { program := "ythpbnmebjocbeaagreat", sum := "7aad62d44c5f5a7ae7d2138d1181fc771d893999aa0c214b5b4ae53cf29b8c4c", func := "robotics/roboticslaw11.CodecCanonical", spec := "codecCanonical", inPlace := ["internal/bytealg.IndexByteString", "internal/bytealg.abigen_runtime_cmpstring"], unfollowed := true, recurses := true, loops := true, apart := false, narrowed := true }
def CodecCanonicalUptoSaid : Prop := codecCanonicalUptoRow.holds Tryz.pinned (OpenSpec.upto codecCanonicalSpec)

/-- 'roboticslaw11.CodecRoundTrip', WHERE WHAT IT READS IS OF BULK AT MOST 1048576: true; the input reads as it did. -/
def codecRoundTripUptoRow : OpenClaim := { program := "ythpbnmebjocbeaagreat", sum := "7aad62d44c5f5a7ae7d2138d1181fc771d893999aa0c214b5b4ae53cf29b8c4c", func := "robotics/roboticslaw11.CodecRoundTrip", spec := "codecRoundTrip", inPlace := ["internal/bytealg.IndexByteString", "internal/bytealg.abigen_runtime_cmpstring"], unfollowed := true, recurses := true, loops := true, apart := false, narrowed := true }
def CodecRoundTripUptoSaid : Prop := codecRoundTripUptoRow.holds Tryz.pinned (OpenSpec.upto codecRoundTripSpec)

/-- 'roboticslaw11.CodecSkips', WHERE WHAT IT READS IS OF BULK AT MOST 1048576: true; the input reads as it did. -/
def codecSkipsUptoRow : OpenClaim := { program := "ythpbnmebjocbeaagreat", sum := "7aad62d44c5f5a7ae7d2138d1181fc771d893999aa0c214b5b4ae53cf29b8c4c", func := "robotics/roboticslaw11.CodecSkips", spec := "codecSkips", inPlace := ["internal/bytealg.IndexByteString", "internal/bytealg.abigen_runtime_cmpstring"], unfollowed := true, recurses := true, loops := true, apart := false, narrowed := true }
def CodecSkipsUptoSaid : Prop := codecSkipsUptoRow.holds Tryz.pinned (OpenSpec.upto codecSkipsSpec)

/-- 'roboticslaw11.CodecFields', WHERE WHAT IT READS IS OF BULK AT MOST 1048576: true; the input reads as it did. -/
def codecFieldsUptoRow : OpenClaim := { program := "ythpbnmebjocbeaagreat", sum := "7aad62d44c5f5a7ae7d2138d1181fc771d893999aa0c214b5b4ae53cf29b8c4c", func := "robotics/roboticslaw11.CodecFields", spec := "codecFields", inPlace := ["internal/bytealg.IndexByteString", "internal/bytealg.abigen_runtime_cmpstring"], unfollowed := true, recurses := true, apart := false, narrowed := true }
def CodecFieldsUptoSaid : Prop := codecFieldsUptoRow.holds Tryz.pinned (OpenSpec.upto codecFieldsSpec)

end Rows
end Go.Proofs.YthpbnmebjocbeaaGreat
