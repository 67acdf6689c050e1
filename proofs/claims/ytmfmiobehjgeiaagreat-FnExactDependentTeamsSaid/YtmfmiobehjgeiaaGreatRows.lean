/-
  No cell of these rows narrows 'for every input' (looked for: loops, veiled, ifaces, maps, wideKeys, modest, calm, conditions, laid).
  DERIVED. THE GIVEN ROWS OF THIS SEAT. 9 by the template 'for every input the law returns true; each argument reads behind the call as it read before'; 0 by the template 'total and deterministic' (their statements: YtmfmiobehjgeiaaGreatTotals.lean).
  GIVEN WITH THE SEED: the statements are not yours to turn. If you find one false, say at which input.
  Laid BY PROGRAM, IN A SANDBOX (cutbox-rows.mjs): the forced cells as the released guide's own fill.sh prints them over the translation d3c2de97a9f4a6b4… (all of the seat's roots in one cut). By AI agents, Wed Nov 11 2026. No macro, syntax, notation, axiom, sorry.
-/
import Derived.Test.YtmfmiobehjgeiaaGreatChecked
import GoSem.Claim
import GoSem.ClaimJoined
import GoSem.ClaimMapViews
import Derived.JoinedTies
import Derived.KernelRfl
namespace Go.Proofs.YtmfmiobehjgeiaaGreat
/- THE CELL 'sum', in the pinned program and in every row, IS THE sha256 OF THE DUMP (.gsa) THAT YtmfmiobehjgeiaaGreatProg.lean LOADS. Nothing in Lean hashes anything: it is a label: what it is worth is what the hold of that sum in a sandbox is worth. -/
noncomputable def Tryz.pinned : Pinned := { name := "ytmfmiobehjgeiaagreat", sum := "d3c2de97a9f4a6b48a4736b2351af895bcaacb5ce1ddac60d0bc83c260aec3a4", checked := Tryz.checked }
namespace Rows
def none {H : Type} : Left H := { results := [], args := [] }

/-- 'laws.FnExactDependentTeams': WHATEVER THE INPUT: true; the input reads as it did. -/
def fnExactDependentTeamsSpec : ChangeSpec := { name := "fnExactDependentTeams", fn := fun _ => fun
  | [d1, d2] => { results := [.lit (.bool true)], args := [d1, d2] }
  | _ => none }
def fnExactDependentTeamsRow : OpenClaim := { program := "ytmfmiobehjgeiaagreat", sum := "d3c2de97a9f4a6b48a4736b2351af895bcaacb5ce1ddac60d0bc83c260aec3a4", func := "loop.example/g00834/laws.FnExactDependentTeams", spec := "fnExactDependentTeams", inPlace := ["slices.overlaps[[]int]"], unfollowed := true, recurses := true, apart := false }
def FnExactDependentTeamsSaid : Prop := fnExactDependentTeamsRow.holds Tryz.pinned (OpenSpec.ofChange fnExactDependentTeamsSpec)

/-- ITS FALSE NEIGHBOUR: 'it returns false'. Refute it at one input. -/
def fnExactDependentTeamsWrong : ChangeSpec := { name := "fnExactDependentTeams", fn := fun _ => fun
  | [d1, d2] => { results := [.lit (.bool false)], args := [d1, d2] }
  | _ => none }
def FnExactDependentTeamsWrongFalsely : Prop := fnExactDependentTeamsRow.holds Tryz.pinned (OpenSpec.ofChange fnExactDependentTeamsWrong)

/-- 'laws.FnExactMustFinish': WHATEVER THE INPUT: true; the input reads as it did. -/
def fnExactMustFinishSpec : ChangeSpec := { name := "fnExactMustFinish", fn := fun _ => fun
  | [d1, d2, d3] => { results := [.lit (.bool true)], args := [d1, d2, d3] }
  | _ => none }
def fnExactMustFinishRow : OpenClaim := { program := "ytmfmiobehjgeiaagreat", sum := "d3c2de97a9f4a6b48a4736b2351af895bcaacb5ce1ddac60d0bc83c260aec3a4", func := "loop.example/g00834/laws.FnExactMustFinish", spec := "fnExactMustFinish", inPlace := ["slices.overlaps[[]int]"], unfollowed := true, recurses := true, apart := false }
def FnExactMustFinishSaid : Prop := fnExactMustFinishRow.holds Tryz.pinned (OpenSpec.ofChange fnExactMustFinishSpec)

/-- ITS FALSE NEIGHBOUR: 'it returns false'. Refute it at one input. -/
def fnExactMustFinishWrong : ChangeSpec := { name := "fnExactMustFinish", fn := fun _ => fun
  | [d1, d2, d3] => { results := [.lit (.bool false)], args := [d1, d2, d3] }
  | _ => none }
def FnExactMustFinishWrongFalsely : Prop := fnExactMustFinishRow.holds Tryz.pinned (OpenSpec.ofChange fnExactMustFinishWrong)

/-- 'laws.FnExactWaysToRank': WHATEVER THE INPUT: true; the input reads as it did. -/
def fnExactWaysToRankSpec : ChangeSpec := { name := "fnExactWaysToRank", fn := fun _ => fun
  | [d1, d2, d3] => { results := [.lit (.bool true)], args := [d1, d2, d3] }
  | _ => none }
def fnExactWaysToRankRow : OpenClaim := { program := "ytmfmiobehjgeiaagreat", sum := "d3c2de97a9f4a6b48a4736b2351af895bcaacb5ce1ddac60d0bc83c260aec3a4", func := "loop.example/g00834/laws.FnExactWaysToRank", spec := "fnExactWaysToRank", inPlace := ["slices.overlaps[[]int]"], unfollowed := true, recurses := true, apart := false }
def FnExactWaysToRankSaid : Prop := fnExactWaysToRankRow.holds Tryz.pinned (OpenSpec.ofChange fnExactWaysToRankSpec)

/-- ITS FALSE NEIGHBOUR: 'it returns false'. Refute it at one input. -/
def fnExactWaysToRankWrong : ChangeSpec := { name := "fnExactWaysToRank", fn := fun _ => fun
  | [d1, d2, d3] => { results := [.lit (.bool false)], args := [d1, d2, d3] }
  | _ => none }
def FnExactWaysToRankWrongFalsely : Prop := fnExactWaysToRankRow.holds Tryz.pinned (OpenSpec.ofChange fnExactWaysToRankWrong)

/-- 'laws.FnExactIsDecided': WHATEVER THE INPUT: true; the input reads as it did. -/
def fnExactIsDecidedSpec : ChangeSpec := { name := "fnExactIsDecided", fn := fun _ => fun
  | [d1, d2, d3] => { results := [.lit (.bool true)], args := [d1, d2, d3] }
  | _ => none }
def fnExactIsDecidedRow : OpenClaim := { program := "ytmfmiobehjgeiaagreat", sum := "d3c2de97a9f4a6b48a4736b2351af895bcaacb5ce1ddac60d0bc83c260aec3a4", func := "loop.example/g00834/laws.FnExactIsDecided", spec := "fnExactIsDecided", inPlace := ["slices.overlaps[[]int]"], unfollowed := true, recurses := true, apart := false }
def FnExactIsDecidedSaid : Prop := fnExactIsDecidedRow.holds Tryz.pinned (OpenSpec.ofChange fnExactIsDecidedSpec)

/-- ITS FALSE NEIGHBOUR: 'it returns false'. Refute it at one input. -/
def fnExactIsDecidedWrong : ChangeSpec := { name := "fnExactIsDecided", fn := fun _ => fun
  | [d1, d2, d3] => { results := [.lit (.bool false)], args := [d1, d2, d3] }
  | _ => none }
def FnExactIsDecidedWrongFalsely : Prop := fnExactIsDecidedRow.holds Tryz.pinned (OpenSpec.ofChange fnExactIsDecidedWrong)

/-- 'laws.FnExactLeadLine': WHATEVER THE INPUT: true; the input reads as it did. -/
def fnExactLeadLineSpec : ChangeSpec := { name := "fnExactLeadLine", fn := fun _ => fun
  | [d1, d2] => { results := [.lit (.bool true)], args := [d1, d2] }
  | _ => none }
def fnExactLeadLineRow : OpenClaim := { program := "ytmfmiobehjgeiaagreat", sum := "d3c2de97a9f4a6b48a4736b2351af895bcaacb5ce1ddac60d0bc83c260aec3a4", func := "loop.example/g00834/laws.FnExactLeadLine", spec := "fnExactLeadLine", inPlace := ["internal/abi.NoEscape", "internal/bytealg.MakeNoZero"], unfollowed := true, recurses := true, apart := false }
def FnExactLeadLineSaid : Prop := fnExactLeadLineRow.holds Tryz.pinned (OpenSpec.ofChange fnExactLeadLineSpec)

/-- ITS FALSE NEIGHBOUR: 'it returns false'. Refute it at one input. -/
def fnExactLeadLineWrong : ChangeSpec := { name := "fnExactLeadLine", fn := fun _ => fun
  | [d1, d2] => { results := [.lit (.bool false)], args := [d1, d2] }
  | _ => none }
def FnExactLeadLineWrongFalsely : Prop := fnExactLeadLineRow.holds Tryz.pinned (OpenSpec.ofChange fnExactLeadLineWrong)

/-- 'laws.FnExactWeightOf': WHATEVER THE INPUT: true; the input reads as it did. -/
def fnExactWeightOfSpec : ChangeSpec := { name := "fnExactWeightOf", fn := fun _ => fun
  | [d1, d2, d3, d4] => { results := [.lit (.bool true)], args := [d1, d2, d3, d4] }
  | _ => none }
def fnExactWeightOfRow : OpenClaim := { program := "ytmfmiobehjgeiaagreat", sum := "d3c2de97a9f4a6b48a4736b2351af895bcaacb5ce1ddac60d0bc83c260aec3a4", func := "loop.example/g00834/laws.FnExactWeightOf", spec := "fnExactWeightOf", inPlace := ["slices.overlaps[[]int]"], unfollowed := true, recurses := true, apart := false }
def FnExactWeightOfSaid : Prop := fnExactWeightOfRow.holds Tryz.pinned (OpenSpec.ofChange fnExactWeightOfSpec)

/-- ITS FALSE NEIGHBOUR: 'it returns false'. Refute it at one input. -/
def fnExactWeightOfWrong : ChangeSpec := { name := "fnExactWeightOf", fn := fun _ => fun
  | [d1, d2, d3, d4] => { results := [.lit (.bool false)], args := [d1, d2, d3, d4] }
  | _ => none }
def FnExactWeightOfWrongFalsely : Prop := fnExactWeightOfRow.holds Tryz.pinned (OpenSpec.ofChange fnExactWeightOfWrong)

/-- 'laws.FnExactCanFinish': WHATEVER THE INPUT: true; the input reads as it did. -/
def fnExactCanFinishSpec : ChangeSpec := { name := "fnExactCanFinish", fn := fun _ => fun
  | [d1, d2, d3] => { results := [.lit (.bool true)], args := [d1, d2, d3] }
  | _ => none }
def fnExactCanFinishRow : OpenClaim := { program := "ytmfmiobehjgeiaagreat", sum := "d3c2de97a9f4a6b48a4736b2351af895bcaacb5ce1ddac60d0bc83c260aec3a4", func := "loop.example/g00834/laws.FnExactCanFinish", spec := "fnExactCanFinish", inPlace := ["slices.overlaps[[]int]"], unfollowed := true, recurses := true, apart := false }
def FnExactCanFinishSaid : Prop := fnExactCanFinishRow.holds Tryz.pinned (OpenSpec.ofChange fnExactCanFinishSpec)

/-- ITS FALSE NEIGHBOUR: 'it returns false'. Refute it at one input. -/
def fnExactCanFinishWrong : ChangeSpec := { name := "fnExactCanFinish", fn := fun _ => fun
  | [d1, d2, d3] => { results := [.lit (.bool false)], args := [d1, d2, d3] }
  | _ => none }
def FnExactCanFinishWrongFalsely : Prop := fnExactCanFinishRow.holds Tryz.pinned (OpenSpec.ofChange fnExactCanFinishWrong)

/-- 'laws.FnExactHeaviestGame': WHATEVER THE INPUT: true; the input reads as it did. -/
def fnExactHeaviestGameSpec : ChangeSpec := { name := "fnExactHeaviestGame", fn := fun _ => fun
  | [d1, d2, d3] => { results := [.lit (.bool true)], args := [d1, d2, d3] }
  | _ => none }
def fnExactHeaviestGameRow : OpenClaim := { program := "ytmfmiobehjgeiaagreat", sum := "d3c2de97a9f4a6b48a4736b2351af895bcaacb5ce1ddac60d0bc83c260aec3a4", func := "loop.example/g00834/laws.FnExactHeaviestGame", spec := "fnExactHeaviestGame", inPlace := ["slices.overlaps[[]int]"], unfollowed := true, recurses := true, apart := false }
def FnExactHeaviestGameSaid : Prop := fnExactHeaviestGameRow.holds Tryz.pinned (OpenSpec.ofChange fnExactHeaviestGameSpec)

/-- ITS FALSE NEIGHBOUR: 'it returns false'. Refute it at one input. -/
def fnExactHeaviestGameWrong : ChangeSpec := { name := "fnExactHeaviestGame", fn := fun _ => fun
  | [d1, d2, d3] => { results := [.lit (.bool false)], args := [d1, d2, d3] }
  | _ => none }
def FnExactHeaviestGameWrongFalsely : Prop := fnExactHeaviestGameRow.holds Tryz.pinned (OpenSpec.ofChange fnExactHeaviestGameWrong)

/-- 'laws.FnExactChancesIf': WHATEVER THE INPUT: true; the input reads as it did. -/
def fnExactChancesIfSpec : ChangeSpec := { name := "fnExactChancesIf", fn := fun _ => fun
  | [d1, d2, d3, d4] => { results := [.lit (.bool true)], args := [d1, d2, d3, d4] }
  | _ => none }
def fnExactChancesIfRow : OpenClaim := { program := "ytmfmiobehjgeiaagreat", sum := "d3c2de97a9f4a6b48a4736b2351af895bcaacb5ce1ddac60d0bc83c260aec3a4", func := "loop.example/g00834/laws.FnExactChancesIf", spec := "fnExactChancesIf", inPlace := ["slices.overlaps[[]int]"], unfollowed := true, recurses := true, apart := false }
def FnExactChancesIfSaid : Prop := fnExactChancesIfRow.holds Tryz.pinned (OpenSpec.ofChange fnExactChancesIfSpec)

/-- ITS FALSE NEIGHBOUR: 'it returns false'. Refute it at one input. -/
def fnExactChancesIfWrong : ChangeSpec := { name := "fnExactChancesIf", fn := fun _ => fun
  | [d1, d2, d3, d4] => { results := [.lit (.bool false)], args := [d1, d2, d3, d4] }
  | _ => none }
def FnExactChancesIfWrongFalsely : Prop := fnExactChancesIfRow.holds Tryz.pinned (OpenSpec.ofChange fnExactChancesIfWrong)

/- THE SECOND FORM. 'bulk': how many values and letters a reading holds, each counted each time it is reached (what is shared counts as often as it is met; a slice's spare places count too). A statement '..UptoSaid' is the law's where the arguments, and the package variables that the reading takes, are together of bulk at most 1048576: NARROWER than '..Said'. Prove '..Said' where nothing that the law and all that it calls make is longer than what came in: it says more and counts as full. Else prove '..UptoSaid'. A law counts once. -/
mutual
def uptoBulk {H : Type} : DataW H → Nat
  | .lit (.string bytes) => bytes.length + 1
  | .lit _ => 1
  | .nil => 1
  | .ptr d => uptoBulk d + 1
  | .slice elems spare => uptoBulkAll elems + uptoBulkAll spare + 1
  | .agg parts => uptoBulkAll parts + 1
  | .iface _ d => uptoBulk d + 1
  | .map entries => uptoBulkEntries entries + 1
  | .held _ => 1
def uptoBulkAll {H : Type} : List (DataW H) → Nat
  | [] => 0
  | d :: r => uptoBulk d + uptoBulkAll r
def uptoBulkEntries {H : Type} : List (Lit × DataW H) → Nat
  | [] => 0
  | x :: r => uptoBulkEntry x + uptoBulkEntries r
def uptoBulkEntry {H : Type} : Lit × DataW H → Nat
  | (.string bytes, d) => bytes.length + uptoBulk d + 1
  | (_, d) => uptoBulk d + 1
 end
def uptoSmall : (H : Type) → List (DataW H) → Bool := fun _ ds => decide (uptoBulkAll ds ≤ 1048576)
def OpenSpec.upto (s : _root_.Go.ChangeSpec) : _root_.Go.OpenSpec := { _root_.Go.OpenSpec.ofChange s with cond := some uptoSmall }

/-- 'laws.FnExactDependentTeams', WHERE WHAT IT READS IS OF BULK AT MOST 1048576: true; the input reads as it did. -/
def fnExactDependentTeamsUptoRow : OpenClaim := { program := "ytmfmiobehjgeiaagreat", sum := "d3c2de97a9f4a6b48a4736b2351af895bcaacb5ce1ddac60d0bc83c260aec3a4", func := "loop.example/g00834/laws.FnExactDependentTeams", spec := "fnExactDependentTeams", inPlace := ["slices.overlaps[[]int]"], unfollowed := true, recurses := true, apart := false, narrowed := true }
def FnExactDependentTeamsUptoSaid : Prop := fnExactDependentTeamsUptoRow.holds Tryz.pinned (OpenSpec.upto fnExactDependentTeamsSpec)

/-- 'laws.FnExactMustFinish', WHERE WHAT IT READS IS OF BULK AT MOST 1048576: true; the input reads as it did. -/
def fnExactMustFinishUptoRow : OpenClaim := { program := "ytmfmiobehjgeiaagreat", sum := "d3c2de97a9f4a6b48a4736b2351af895bcaacb5ce1ddac60d0bc83c260aec3a4", func := "loop.example/g00834/laws.FnExactMustFinish", spec := "fnExactMustFinish", inPlace := ["slices.overlaps[[]int]"], unfollowed := true, recurses := true, apart := false, narrowed := true }
def FnExactMustFinishUptoSaid : Prop := fnExactMustFinishUptoRow.holds Tryz.pinned (OpenSpec.upto fnExactMustFinishSpec)

/-- 'laws.FnExactWaysToRank', WHERE WHAT IT READS IS OF BULK AT MOST 1048576: true; the input reads as it did. -/
def fnExactWaysToRankUptoRow : OpenClaim := { program := "ytmfmiobehjgeiaagreat", sum := "d3c2de97a9f4a6b48a4736b2351af895bcaacb5ce1ddac60d0bc83c260aec3a4", func := "loop.example/g00834/laws.FnExactWaysToRank", spec := "fnExactWaysToRank", inPlace := ["slices.overlaps[[]int]"], unfollowed := true, recurses := true, apart := false, narrowed := true }
def FnExactWaysToRankUptoSaid : Prop := fnExactWaysToRankUptoRow.holds Tryz.pinned (OpenSpec.upto fnExactWaysToRankSpec)

/-- 'laws.FnExactIsDecided', WHERE WHAT IT READS IS OF BULK AT MOST 1048576: true; the input reads as it did. -/
def fnExactIsDecidedUptoRow : OpenClaim := { program := "ytmfmiobehjgeiaagreat", sum := "d3c2de97a9f4a6b48a4736b2351af895bcaacb5ce1ddac60d0bc83c260aec3a4", func := "loop.example/g00834/laws.FnExactIsDecided", spec := "fnExactIsDecided", inPlace := ["slices.overlaps[[]int]"], unfollowed := true, recurses := true, apart := false, narrowed := true }
def FnExactIsDecidedUptoSaid : Prop := fnExactIsDecidedUptoRow.holds Tryz.pinned (OpenSpec.upto fnExactIsDecidedSpec)

/-- 'laws.FnExactLeadLine', WHERE WHAT IT READS IS OF BULK AT MOST 1048576: true; the input reads as it did. -/
def fnExactLeadLineUptoRow : OpenClaim := { program := "ytmfmiobehjgeiaagreat", sum := "d3c2de97a9f4a6b48a4736b2351af895bcaacb5ce1ddac60d0bc83c260aec3a4", func := "loop.example/g00834/laws.FnExactLeadLine", spec := "fnExactLeadLine", inPlace := ["internal/abi.NoEscape", "internal/bytealg.MakeNoZero"], unfollowed := true, recurses := true, apart := false, narrowed := true }
def FnExactLeadLineUptoSaid : Prop := fnExactLeadLineUptoRow.holds Tryz.pinned (OpenSpec.upto fnExactLeadLineSpec)

/-- 'laws.FnExactWeightOf', WHERE WHAT IT READS IS OF BULK AT MOST 1048576: true; the input reads as it did. -/
def fnExactWeightOfUptoRow : OpenClaim := { program := "ytmfmiobehjgeiaagreat", sum := "d3c2de97a9f4a6b48a4736b2351af895bcaacb5ce1ddac60d0bc83c260aec3a4", func := "loop.example/g00834/laws.FnExactWeightOf", spec := "fnExactWeightOf", inPlace := ["slices.overlaps[[]int]"], unfollowed := true, recurses := true, apart := false, narrowed := true }
def FnExactWeightOfUptoSaid : Prop := fnExactWeightOfUptoRow.holds Tryz.pinned (OpenSpec.upto fnExactWeightOfSpec)

/-- 'laws.FnExactCanFinish', WHERE WHAT IT READS IS OF BULK AT MOST 1048576: true; the input reads as it did. -/
def fnExactCanFinishUptoRow : OpenClaim := { program := "ytmfmiobehjgeiaagreat", sum := "d3c2de97a9f4a6b48a4736b2351af895bcaacb5ce1ddac60d0bc83c260aec3a4", func := "loop.example/g00834/laws.FnExactCanFinish", spec := "fnExactCanFinish", inPlace := ["slices.overlaps[[]int]"], unfollowed := true, recurses := true, apart := false, narrowed := true }
def FnExactCanFinishUptoSaid : Prop := fnExactCanFinishUptoRow.holds Tryz.pinned (OpenSpec.upto fnExactCanFinishSpec)

/-- 'laws.FnExactHeaviestGame', WHERE WHAT IT READS IS OF BULK AT MOST 1048576: true; the input reads as it did. -/
def fnExactHeaviestGameUptoRow : OpenClaim := { program := "ytmfmiobehjgeiaagreat", sum := "d3c2de97a9f4a6b48a4736b2351af895bcaacb5ce1ddac60d0bc83c260aec3a4", func := "loop.example/g00834/laws.FnExactHeaviestGame", spec := "fnExactHeaviestGame", inPlace := ["slices.overlaps[[]int]"], unfollowed := true, recurses := true, apart := false, narrowed := true }
def FnExactHeaviestGameUptoSaid : Prop := fnExactHeaviestGameUptoRow.holds Tryz.pinned (OpenSpec.upto fnExactHeaviestGameSpec)

/-- 'laws.FnExactChancesIf', WHERE WHAT IT READS IS OF BULK AT MOST 1048576: true; the input reads as it did. -/
def fnExactChancesIfUptoRow : OpenClaim := { program := "ytmfmiobehjgeiaagreat", sum := "d3c2de97a9f4a6b48a4736b2351af895bcaacb5ce1ddac60d0bc83c260aec3a4", func := "loop.example/g00834/laws.FnExactChancesIf", spec := "fnExactChancesIf", inPlace := ["slices.overlaps[[]int]"], unfollowed := true, recurses := true, apart := false, narrowed := true }
def FnExactChancesIfUptoSaid : Prop := fnExactChancesIfUptoRow.holds Tryz.pinned (OpenSpec.upto fnExactChancesIfSpec)

end Rows
end Go.Proofs.YtmfmiobehjgeiaaGreat
