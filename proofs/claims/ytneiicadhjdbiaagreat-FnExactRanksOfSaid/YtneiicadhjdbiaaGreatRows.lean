/-
  No cell of these rows narrows 'for every input' (looked for: loops, veiled, ifaces, maps, wideKeys, modest, calm, conditions, laid).
  DERIVED. THE GIVEN ROWS OF THIS SEAT. 5 by the template 'for every input the law returns true; each argument reads behind the call as it read before'; 0 by the template 'total and deterministic' (their statements: YtneiicadhjdbiaaGreatTotals.lean).
  GIVEN WITH THE SEED: the statements are not yours to turn. If you find one false, say at which input.
  Laid BY PROGRAM, IN A SANDBOX (cutbox-rows.mjs): the forced cells as the released guide's own fill.sh prints them over the translation dc7483bbf24c81cc… (all of the seat's roots in one cut). By AI agents, Wed Nov 11 2026. No macro, syntax, notation, axiom, sorry.
-/
import Derived.Test.YtneiicadhjdbiaaGreatChecked
import GoSem.Claim
import GoSem.ClaimJoined
import GoSem.ClaimMapViews
import Derived.JoinedTies
import Derived.KernelRfl
namespace Go.Proofs.YtneiicadhjdbiaaGreat
/- THE CELL 'sum', in the pinned program and in every row, IS THE sha256 OF THE DUMP (.gsa) THAT YtneiicadhjdbiaaGreatProg.lean LOADS. Nothing in Lean hashes anything: it is a label: what it is worth is what the hold of that sum in a sandbox is worth. -/
noncomputable def Tryz.pinned : Pinned := { name := "ytneiicadhjdbiaagreat", sum := "dc7483bbf24c81cc59c71d6e81d16c07cb4fa62c143b4e2a36e4400545b6a96f", checked := Tryz.checked }
namespace Rows
def none {H : Type} : Left H := { results := [], args := [] }

/-- 'laws.FnExactIsTrue': WHATEVER THE INPUT: true; the input reads as it did. -/
def fnExactIsTrueSpec : ChangeSpec := { name := "fnExactIsTrue", fn := fun _ => fun
  | [d1, d2, d3] => { results := [.lit (.bool true)], args := [d1, d2, d3] }
  | _ => none }
def fnExactIsTrueRow : OpenClaim := { program := "ytneiicadhjdbiaagreat", sum := "dc7483bbf24c81cc59c71d6e81d16c07cb4fa62c143b4e2a36e4400545b6a96f", func := "loop.example/g00834/laws.FnExactIsTrue", spec := "fnExactIsTrue", inPlace := ["slices.overlaps[[]int]"], unfollowed := true, recurses := true, apart := false }
def FnExactIsTrueSaid : Prop := fnExactIsTrueRow.holds Tryz.pinned (OpenSpec.ofChange fnExactIsTrueSpec)

/-- ITS FALSE NEIGHBOUR: 'it returns false'. Refute it at one input. -/
def fnExactIsTrueWrong : ChangeSpec := { name := "fnExactIsTrue", fn := fun _ => fun
  | [d1, d2, d3] => { results := [.lit (.bool false)], args := [d1, d2, d3] }
  | _ => none }
def FnExactIsTrueWrongFalsely : Prop := fnExactIsTrueRow.holds Tryz.pinned (OpenSpec.ofChange fnExactIsTrueWrong)

/-- 'laws.FnExactAnnounceAt': WHATEVER THE INPUT: true; the input reads as it did. -/
def fnExactAnnounceAtSpec : ChangeSpec := { name := "fnExactAnnounceAt", fn := fun _ => fun
  | [d1, d2, d3] => { results := [.lit (.bool true)], args := [d1, d2, d3] }
  | _ => none }
def fnExactAnnounceAtRow : OpenClaim := { program := "ytneiicadhjdbiaagreat", sum := "dc7483bbf24c81cc59c71d6e81d16c07cb4fa62c143b4e2a36e4400545b6a96f", func := "loop.example/g00834/laws.FnExactAnnounceAt", spec := "fnExactAnnounceAt", inPlace := ["slices.overlaps[[]int]"], unfollowed := true, recurses := true, apart := false }
def FnExactAnnounceAtSaid : Prop := fnExactAnnounceAtRow.holds Tryz.pinned (OpenSpec.ofChange fnExactAnnounceAtSpec)

/-- ITS FALSE NEIGHBOUR: 'it returns false'. Refute it at one input. -/
def fnExactAnnounceAtWrong : ChangeSpec := { name := "fnExactAnnounceAt", fn := fun _ => fun
  | [d1, d2, d3] => { results := [.lit (.bool false)], args := [d1, d2, d3] }
  | _ => none }
def FnExactAnnounceAtWrongFalsely : Prop := fnExactAnnounceAtRow.holds Tryz.pinned (OpenSpec.ofChange fnExactAnnounceAtWrong)

/-- 'laws.FnExactRevise': WHATEVER THE INPUT: true; the input reads as it did. -/
def fnExactReviseSpec : ChangeSpec := { name := "fnExactRevise", fn := fun _ => fun
  | [d1, d2, d3] => { results := [.lit (.bool true)], args := [d1, d2, d3] }
  | _ => none }
def fnExactReviseRow : OpenClaim := { program := "ytneiicadhjdbiaagreat", sum := "dc7483bbf24c81cc59c71d6e81d16c07cb4fa62c143b4e2a36e4400545b6a96f", func := "loop.example/g00834/laws.FnExactRevise", spec := "fnExactRevise", inPlace := ["slices.overlaps[[]int]"], unfollowed := true, recurses := true, apart := false }
def FnExactReviseSaid : Prop := fnExactReviseRow.holds Tryz.pinned (OpenSpec.ofChange fnExactReviseSpec)

/-- ITS FALSE NEIGHBOUR: 'it returns false'. Refute it at one input. -/
def fnExactReviseWrong : ChangeSpec := { name := "fnExactRevise", fn := fun _ => fun
  | [d1, d2, d3] => { results := [.lit (.bool false)], args := [d1, d2, d3] }
  | _ => none }
def FnExactReviseWrongFalsely : Prop := fnExactReviseRow.holds Tryz.pinned (OpenSpec.ofChange fnExactReviseWrong)

/-- 'laws.FnExactRanksOf': WHATEVER THE INPUT: true; the input reads as it did. -/
def fnExactRanksOfSpec : ChangeSpec := { name := "fnExactRanksOf", fn := fun _ => fun
  | [d1, d2] => { results := [.lit (.bool true)], args := [d1, d2] }
  | _ => none }
def fnExactRanksOfRow : OpenClaim := { program := "ytneiicadhjdbiaagreat", sum := "dc7483bbf24c81cc59c71d6e81d16c07cb4fa62c143b4e2a36e4400545b6a96f", func := "loop.example/g00834/laws.FnExactRanksOf", spec := "fnExactRanksOf", inPlace := ["slices.overlaps[[]int]"], unfollowed := true, recurses := true, apart := false }
def FnExactRanksOfSaid : Prop := fnExactRanksOfRow.holds Tryz.pinned (OpenSpec.ofChange fnExactRanksOfSpec)

/-- ITS FALSE NEIGHBOUR: 'it returns false'. Refute it at one input. -/
def fnExactRanksOfWrong : ChangeSpec := { name := "fnExactRanksOf", fn := fun _ => fun
  | [d1, d2] => { results := [.lit (.bool false)], args := [d1, d2] }
  | _ => none }
def FnExactRanksOfWrongFalsely : Prop := fnExactRanksOfRow.holds Tryz.pinned (OpenSpec.ofChange fnExactRanksOfWrong)

/-- 'laws.FnExactWrongOnes': WHATEVER THE INPUT: true; the input reads as it did. -/
def fnExactWrongOnesSpec : ChangeSpec := { name := "fnExactWrongOnes", fn := fun _ => fun
  | [d1, d2, d3] => { results := [.lit (.bool true)], args := [d1, d2, d3] }
  | _ => none }
def fnExactWrongOnesRow : OpenClaim := { program := "ytneiicadhjdbiaagreat", sum := "dc7483bbf24c81cc59c71d6e81d16c07cb4fa62c143b4e2a36e4400545b6a96f", func := "loop.example/g00834/laws.FnExactWrongOnes", spec := "fnExactWrongOnes", inPlace := ["slices.overlaps[[]int]"], unfollowed := true, recurses := true, apart := false }
def FnExactWrongOnesSaid : Prop := fnExactWrongOnesRow.holds Tryz.pinned (OpenSpec.ofChange fnExactWrongOnesSpec)

/-- ITS FALSE NEIGHBOUR: 'it returns false'. Refute it at one input. -/
def fnExactWrongOnesWrong : ChangeSpec := { name := "fnExactWrongOnes", fn := fun _ => fun
  | [d1, d2, d3] => { results := [.lit (.bool false)], args := [d1, d2, d3] }
  | _ => none }
def FnExactWrongOnesWrongFalsely : Prop := fnExactWrongOnesRow.holds Tryz.pinned (OpenSpec.ofChange fnExactWrongOnesWrong)

/- THE SECOND FORM. 'bulk': how many values and letters a reading holds, each counted each time it is reached (what is shared counts as often as it is met; a slice's spare places count too). A statement '..UptoSaid' is the law's where the arguments, and the package variables that the reading takes, are together of bulk at most 1048576: NARROWER than '..Said'. Prove '..Said' where nothing that the law and all that it calls make is longer than what came in: it says more and counts as full. Else prove '..UptoSaid'. A law counts once. -/
mutual
def uptoBulk {H : Type} : DataW H → Nat
  | .lit (.string bytes) => bytes.length + 1
  | .lit _ => 1
  | .nil => 1
  | .ptr d => uptoBulk d + 1
  | .slice elems spare => uptoBulkAll elems + uptoBulkAll spare + 1
  | .agg parts => uptoBulkAll parts + 1
  | .iface _ d => uptoBulk d + 1
  | .map entries => uptoBulkEntries entries + 1
  | .held _ => 1
def uptoBulkAll {H : Type} : List (DataW H) → Nat
  | [] => 0
  | d :: r => uptoBulk d + uptoBulkAll r
def uptoBulkEntries {H : Type} : List (Lit × DataW H) → Nat
  | [] => 0
  | x :: r => uptoBulkEntry x + uptoBulkEntries r
def uptoBulkEntry {H : Type} : Lit × DataW H → Nat
  | (.string bytes, d) => bytes.length + uptoBulk d + 1
  | (_, d) => uptoBulk d + 1
 end
def uptoSmall : (H : Type) → List (DataW H) → Bool := fun _ ds => decide (uptoBulkAll ds ≤ 1048576)
def OpenSpec.upto (s : _root_.Go.ChangeSpec) : _root_.Go.OpenSpec := { _root_.Go.OpenSpec.ofChange s with cond := some uptoSmall }

/-- 'laws.FnExactIsTrue', WHERE WHAT IT READS IS OF BULK AT MOST 1048576: true; the input reads as it did. -/
def fnExactIsTrueUptoRow : OpenClaim := { program := "ytneiicadhjdbiaagreat", sum := "dc7483bbf24c81cc59c71d6e81d16c07cb4fa62c143b4e2a36e4400545b6a96f", func := "loop.example/g00834/laws.FnExactIsTrue", spec := "fnExactIsTrue", inPlace := ["slices.overlaps[[]int]"], unfollowed := true, recurses := true, apart := false, narrowed := true }
def FnExactIsTrueUptoSaid : Prop := fnExactIsTrueUptoRow.holds Tryz.pinned (OpenSpec.upto fnExactIsTrueSpec)

/-- 'laws.FnExactAnnounceAt', WHERE WHAT IT READS IS OF BULK AT MOST 1048576: true; the input reads as it did. -/
def fnExactAnnounceAtUptoRow : OpenClaim := { program := "ytneiicadhjdbiaagreat", sum := "dc7483bbf24c81cc59c71d6e81d16c07cb4fa62c143b4e2a36e4400545b6a96f", func := "loop.example/g00834/laws.FnExactAnnounceAt", spec := "fnExactAnnounceAt", inPlace := ["slices.overlaps[[]int]"], unfollowed := true, recurses := true, apart := false, narrowed := true }
def FnExactAnnounceAtUptoSaid : Prop := fnExactAnnounceAtUptoRow.holds Tryz.pinned (OpenSpec.upto fnExactAnnounceAtSpec)

/-- 'laws.FnExactRevise', WHERE WHAT IT READS IS OF BULK AT MOST 1048576: true; the input reads as it did. -/
def fnExactReviseUptoRow : OpenClaim := { program := "ytneiicadhjdbiaagreat", sum := "dc7483bbf24c81cc59c71d6e81d16c07cb4fa62c143b4e2a36e4400545b6a96f", func := "loop.example/g00834/laws.FnExactRevise", spec := "fnExactRevise", inPlace := ["slices.overlaps[[]int]"], unfollowed := true, recurses := true, apart := false, narrowed := true }
def FnExactReviseUptoSaid : Prop := fnExactReviseUptoRow.holds Tryz.pinned (OpenSpec.upto fnExactReviseSpec)

/-- 'laws.FnExactRanksOf', WHERE WHAT IT READS IS OF BULK AT MOST 1048576: true; the input reads as it did. -/
def fnExactRanksOfUptoRow : OpenClaim := { program := "ytneiicadhjdbiaagreat", sum := "dc7483bbf24c81cc59c71d6e81d16c07cb4fa62c143b4e2a36e4400545b6a96f", func := "loop.example/g00834/laws.FnExactRanksOf", spec := "fnExactRanksOf", inPlace := ["slices.overlaps[[]int]"], unfollowed := true, recurses := true, apart := false, narrowed := true }
def FnExactRanksOfUptoSaid : Prop := fnExactRanksOfUptoRow.holds Tryz.pinned (OpenSpec.upto fnExactRanksOfSpec)

/-- 'laws.FnExactWrongOnes', WHERE WHAT IT READS IS OF BULK AT MOST 1048576: true; the input reads as it did. -/
def fnExactWrongOnesUptoRow : OpenClaim := { program := "ytneiicadhjdbiaagreat", sum := "dc7483bbf24c81cc59c71d6e81d16c07cb4fa62c143b4e2a36e4400545b6a96f", func := "loop.example/g00834/laws.FnExactWrongOnes", spec := "fnExactWrongOnes", inPlace := ["slices.overlaps[[]int]"], unfollowed := true, recurses := true, apart := false, narrowed := true }
def FnExactWrongOnesUptoSaid : Prop := fnExactWrongOnesUptoRow.holds Tryz.pinned (OpenSpec.upto fnExactWrongOnesSpec)

end Rows
end Go.Proofs.YtneiicadhjdbiaaGreat
