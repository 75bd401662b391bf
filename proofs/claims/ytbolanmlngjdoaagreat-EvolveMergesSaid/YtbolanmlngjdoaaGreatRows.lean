/-
  NARROWER THAN 'FOR EVERY INPUT', by the rows' own cells (each row's printed sentence says how): EvolveIssues: loops · EvolveMerges: loops · EvolveFits: loops.
  DERIVED. THE GIVEN ROWS OF THIS SEAT. 3 by the template 'for every input the law returns true; each argument reads behind the call as it read before'; 0 by the template 'total and deterministic' (their statements: YtbolanmlngjdoaaGreatTotals.lean).
  GIVEN WITH THE SEED: the statements are not yours to turn. If you find one false, say at which input.
  Laid BY PROGRAM, IN A SANDBOX (cutbox-rows.mjs): the forced cells as the released guide's own fill.sh prints them over the translation e32c452d161baa11… (all of the seat's roots in one cut). By AI agents, Wed Nov 11 2026. No macro, syntax, notation, axiom, sorry.
-/
import Derived.Test.YtbolanmlngjdoaaGreatChecked
import GoSem.Claim
import GoSem.ClaimJoined
import GoSem.ClaimMapViews
import Derived.JoinedTies
import Derived.KernelRfl
namespace Go.Proofs.YtbolanmlngjdoaaGreat
/- THE CELL 'sum', in the pinned program and in every row, IS THE sha256 OF THE DUMP (.gsa) THAT YtbolanmlngjdoaaGreatProg.lean LOADS. Nothing in Lean hashes anything: it is a label: what it is worth is what the hold of that sum in a sandbox is worth. -/
noncomputable def Tryz.pinned : Pinned := { name := "ytbolanmlngjdoaagreat", sum := "e32c452d161baa1112908809d57040a958ae732e71688ed786353c6de46126ce", checked := Tryz.checked }
namespace Rows
def none {H : Type} : Left H := { results := [], args := [] }

/-- 'roboticslaw12.EvolveIssues': WHATEVER THE INPUT: true; the input reads as it did. -/
def evolveIssuesSpec : ChangeSpec := { name := "evolveIssues", fn := fun _ => fun
  | [d1, d2, d3] => { results := [.lit (.bool true)], args := [d1, d2, d3] }
  | _ => none }
def evolveIssuesRow : OpenClaim := { program := "ytbolanmlngjdoaagreat", sum := "e32c452d161baa1112908809d57040a958ae732e71688ed786353c6de46126ce", func := "robotics/roboticslaw12.EvolveIssues", spec := "evolveIssues", inPlace := ["internal/bytealg.IndexByteString", "internal/bytealg.abigen_runtime_cmpstring"], unfollowed := true, recurses := true, loops := true, apart := false }
def EvolveIssuesSaid : Prop := evolveIssuesRow.holds Tryz.pinned (OpenSpec.ofChange evolveIssuesSpec)

/-- ITS FALSE NEIGHBOUR: 'it returns false'. Refute it at one input. -/
def evolveIssuesWrong : ChangeSpec := { name := "evolveIssues", fn := fun _ => fun
  | [d1, d2, d3] => { results := [.lit (.bool false)], args := [d1, d2, d3] }
  | _ => none }
def EvolveIssuesWrongFalsely : Prop := evolveIssuesRow.holds Tryz.pinned (OpenSpec.ofChange evolveIssuesWrong)

/-- 'roboticslaw12.EvolveMerges': WHATEVER THE INPUT: true; the input reads as it did. -/
def evolveMergesSpec : ChangeSpec := { name := "evolveMerges", fn := fun _ => fun
  | [d1, d2] => { results := [.lit (.bool true)], args := [d1, d2] }
  | _ => none }
def evolveMergesRow : OpenClaim := { program := "ytbolanmlngjdoaagreat", sum := "e32c452d161baa1112908809d57040a958ae732e71688ed786353c6de46126ce", func := "robotics/roboticslaw12.EvolveMerges", spec := "evolveMerges", inPlace := ["internal/bytealg.IndexByteString", "internal/bytealg.abigen_runtime_cmpstring"], unfollowed := true, recurses := true, loops := true, apart := false }
def EvolveMergesSaid : Prop := evolveMergesRow.holds Tryz.pinned (OpenSpec.ofChange evolveMergesSpec)

/-- ITS FALSE NEIGHBOUR: 'it returns false'. Refute it at one input. -/
def evolveMergesWrong : ChangeSpec := { name := "evolveMerges", fn := fun _ => fun
  | [d1, d2] => { results := [.lit (.bool false)], args := [d1, d2] }
  | _ => none }
def EvolveMergesWrongFalsely : Prop := evolveMergesRow.holds Tryz.pinned (OpenSpec.ofChange evolveMergesWrong)

/-- 'roboticslaw12.EvolveFits': WHATEVER THE INPUT: true; the input reads as it did. -/
def evolveFitsSpec : ChangeSpec := { name := "evolveFits", fn := fun _ => fun
  | [d1, d2] => { results := [.lit (.bool true)], args := [d1, d2] }
  | _ => none }
def evolveFitsRow : OpenClaim := { program := "ytbolanmlngjdoaagreat", sum := "e32c452d161baa1112908809d57040a958ae732e71688ed786353c6de46126ce", func := "robotics/roboticslaw12.EvolveFits", spec := "evolveFits", inPlace := ["internal/bytealg.IndexByteString", "internal/bytealg.abigen_runtime_cmpstring"], unfollowed := true, recurses := true, loops := true, apart := false }
def EvolveFitsSaid : Prop := evolveFitsRow.holds Tryz.pinned (OpenSpec.ofChange evolveFitsSpec)

/-- ITS FALSE NEIGHBOUR: 'it returns false'. Refute it at one input. -/
def evolveFitsWrong : ChangeSpec := { name := "evolveFits", fn := fun _ => fun
  | [d1, d2] => { results := [.lit (.bool false)], args := [d1, d2] }
  | _ => none }
def EvolveFitsWrongFalsely : Prop := evolveFitsRow.holds Tryz.pinned (OpenSpec.ofChange evolveFitsWrong)

/- THE SECOND FORM. 'bulk': how many values and letters a reading holds, each counted each time it is reached (what is shared counts as often as it is met; a slice's spare places count too). A statement '..UptoSaid' is the law's where the arguments, and the package variables that the reading takes, are together of bulk at most 1048576: NARROWER than '..Said'. Prove '..Said' where nothing that the law and all that it calls make is longer than what came in: it says more and counts as full. Else prove '..UptoSaid'. A law counts once. -/
mutual
def uptoBulk {H : Type} : DataW H → Nat
  | .lit (.string bytes) => bytes.length + 1
  | .lit _ => 1
  | .nil => 1
  | .ptr d => uptoBulk d + 1
  | .slice elems spare => uptoBulkAll elems + uptoBulkAll spare + 1
  | .agg parts => uptoBulkAll parts + 1
  | .iface _ d => uptoBulk d + 1
  | .map entries => uptoBulkEntries entries + 1
  | .held _ => 1
def uptoBulkAll {H : Type} : List (DataW H) → Nat
  | [] => 0
  | d :: r => uptoBulk d + uptoBulkAll r
def uptoBulkEntries {H : Type} : List (Lit × DataW H) → Nat
  | [] => 0
  | x :: r => uptoBulkEntry x + uptoBulkEntries r
def uptoBulkEntry {H : Type} : Lit × DataW H → Nat
  | (.string bytes, d) => bytes.length + uptoBulk d + 1
  | (_, d) => uptoBulk d + 1
 end
def uptoSmall : (H : Type) → List (DataW H) → Bool := fun _ ds => decide (uptoBulkAll ds ≤ 1048576)
def OpenSpec.upto (s : _root_.Go.ChangeSpec) : _root_.Go.OpenSpec := { _root_.Go.OpenSpec.ofChange s with cond := some uptoSmall }

/-- 'roboticslaw12.EvolveIssues', WHERE WHAT IT READS IS OF BULK AT MOST 1048576: true; the input reads as it did. -/
def evolveIssuesUptoRow : OpenClaim := { program := "ytbolanmlngjdoaagreat", sum := "e32c452d161baa1112908809d57040a958ae732e71688ed786353c6de46126ce", func := "robotics/roboticslaw12.EvolveIssues", spec := "evolveIssues", inPlace := ["internal/bytealg.IndexByteString", "internal/bytealg.abigen_runtime_cmpstring"], unfollowed := true, recurses := true, loops := true, apart := false, narrowed := true }
def EvolveIssuesUptoSaid : Prop := evolveIssuesUptoRow.holds Tryz.pinned (OpenSpec.upto evolveIssuesSpec)

/-- 'roboticslaw12.EvolveMerges', WHERE WHAT IT READS IS OF BULK AT MOST 1048576: true; the input reads as it did. -/
def evolveMergesUptoRow : OpenClaim := { program := "ytbolanmlngjdoaagreat", sum := "e32c452d161baa1112908809d57040a958ae732e71688ed786353c6de46126ce", func := "robotics/roboticslaw12.EvolveMerges", spec := "evolveMerges", inPlace := ["internal/bytealg.IndexByteString", "internal/bytealg.abigen_runtime_cmpstring"], unfollowed := true, recurses := true, loops := true, apart := false, narrowed := true }
def EvolveMergesUptoSaid : Prop := evolveMergesUptoRow.holds Tryz.pinned (OpenSpec.upto evolveMergesSpec)

/-- 'roboticslaw12.EvolveFits', WHERE WHAT IT READS IS OF BULK AT MOST 1048576: true; the input reads as it did. -/
def evolveFitsUptoRow : OpenClaim := { program := "ytbolanmlngjdoaagreat", sum := "e32c452d161baa1112908809d57040a958ae732e71688ed786353c6de46126ce", func := "robotics/roboticslaw12.EvolveFits", spec := "evolveFits", inPlace := ["internal/bytealg.IndexByteString", "internal/bytealg.abigen_runtime_cmpstring"], unfollowed := true, recurses := true, loops := true, apart := false, narrowed := true }
def EvolveFitsUptoSaid : Prop := evolveFitsUptoRow.holds Tryz.pinned (OpenSpec.upto evolveFitsSpec)

end Rows
end Go.Proofs.YtbolanmlngjdoaaGreat
