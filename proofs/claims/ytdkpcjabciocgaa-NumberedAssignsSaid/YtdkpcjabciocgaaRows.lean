/-
  No cell of these rows narrows 'for every input' (looked for: loops, veiled, ifaces, maps, wideKeys, modest, calm, conditions, laid).
  DERIVED. THE GIVEN ROWS OF THIS SEAT. 8 by the template 'for every input the law returns true; each argument reads behind the call as it read before'; 0 by the template 'total and deterministic' (their statements: YtdkpcjabciocgaaTotals.lean).
  GIVEN WITH THE SEED: the statements are not yours to turn. If you find one false, say at which input.
  Laid BY PROGRAM, IN A SANDBOX (cutbox-rows.mjs): the forced cells as the released guide's own fill.sh prints them over the translation 90e61a00a61414cc… (all of the seat's roots in one cut). By AI agents, Wed Nov 11 2026. No macro, syntax, notation, axiom, sorry.
-/
import Derived.Test.YtdkpcjabciocgaaChecked
import GoSem.Claim
import GoSem.ClaimJoined
import GoSem.ClaimMapViews
import Derived.JoinedTies
import Derived.KernelRfl
namespace Go.Proofs.Ytdkpcjabciocgaa
/- THE CELL 'sum', in the pinned program and in every row, IS THE sha256 OF THE DUMP (.gsa) THAT YtdkpcjabciocgaaProg.lean LOADS. Nothing in Lean hashes anything: it is a label: what it is worth is what the hold of that sum in a sandbox is worth. -/
noncomputable def Try.pinned : Pinned := { name := "ytdkpcjabciocgaa", sum := "90e61a00a61414cc7661b0f31206deac991a6cac1acff99fb97813264b703d07", checked := Try.checked }
namespace Rows
def none {H : Type} : Left H := { results := [], args := [] }

/-- 'teamsterkeep.NumberedAssigns': WHATEVER THE INPUT: true; the input reads as it did. -/
def numberedAssignsSpec : ChangeSpec := { name := "numberedAssigns", fn := fun _ => fun
  | [d1, d2, d3] => { results := [.lit (.bool true)], args := [d1, d2, d3] }
  | _ => none }
def numberedAssignsRow : OpenClaim := { program := "ytdkpcjabciocgaa", sum := "90e61a00a61414cc7661b0f31206deac991a6cac1acff99fb97813264b703d07", func := "teamster/teamsterkeep.NumberedAssigns", spec := "numberedAssigns", unfollowed := true, recurses := true, plainKeys := false, apart := false }
def NumberedAssignsSaid : Prop := numberedAssignsRow.holds Try.pinned (OpenSpec.ofChange numberedAssignsSpec)

/-- ITS FALSE NEIGHBOUR: 'it returns false'. Refute it at one input. -/
def numberedAssignsWrong : ChangeSpec := { name := "numberedAssigns", fn := fun _ => fun
  | [d1, d2, d3] => { results := [.lit (.bool false)], args := [d1, d2, d3] }
  | _ => none }
def NumberedAssignsWrongFalsely : Prop := numberedAssignsRow.holds Try.pinned (OpenSpec.ofChange numberedAssignsWrong)

/-- 'teamsterkeep.NumberedCrowds': WHATEVER THE INPUT: true; the input reads as it did. -/
def numberedCrowdsSpec : ChangeSpec := { name := "numberedCrowds", fn := fun _ => fun
  | [d1, d2, d3] => { results := [.lit (.bool true)], args := [d1, d2, d3] }
  | _ => none }
def numberedCrowdsRow : OpenClaim := { program := "ytdkpcjabciocgaa", sum := "90e61a00a61414cc7661b0f31206deac991a6cac1acff99fb97813264b703d07", func := "teamster/teamsterkeep.NumberedCrowds", spec := "numberedCrowds", unfollowed := true, recurses := true, plainKeys := false, apart := false }
def NumberedCrowdsSaid : Prop := numberedCrowdsRow.holds Try.pinned (OpenSpec.ofChange numberedCrowdsSpec)

/-- ITS FALSE NEIGHBOUR: 'it returns false'. Refute it at one input. -/
def numberedCrowdsWrong : ChangeSpec := { name := "numberedCrowds", fn := fun _ => fun
  | [d1, d2, d3] => { results := [.lit (.bool false)], args := [d1, d2, d3] }
  | _ => none }
def NumberedCrowdsWrongFalsely : Prop := numberedCrowdsRow.holds Try.pinned (OpenSpec.ofChange numberedCrowdsWrong)

/-- 'teamsterkeep.NumberedLines': WHATEVER THE INPUT: true; the input reads as it did. -/
def numberedLinesSpec : ChangeSpec := { name := "numberedLines", fn := fun _ => fun
  | [d1, d2, d3] => { results := [.lit (.bool true)], args := [d1, d2, d3] }
  | _ => none }
def numberedLinesRow : OpenClaim := { program := "ytdkpcjabciocgaa", sum := "90e61a00a61414cc7661b0f31206deac991a6cac1acff99fb97813264b703d07", func := "teamster/teamsterkeep.NumberedLines", spec := "numberedLines", unfollowed := true, recurses := true, plainKeys := false, apart := false }
def NumberedLinesSaid : Prop := numberedLinesRow.holds Try.pinned (OpenSpec.ofChange numberedLinesSpec)

/-- ITS FALSE NEIGHBOUR: 'it returns false'. Refute it at one input. -/
def numberedLinesWrong : ChangeSpec := { name := "numberedLines", fn := fun _ => fun
  | [d1, d2, d3] => { results := [.lit (.bool false)], args := [d1, d2, d3] }
  | _ => none }
def NumberedLinesWrongFalsely : Prop := numberedLinesRow.holds Try.pinned (OpenSpec.ofChange numberedLinesWrong)

/-- 'teamsterkeep.NumberedFlows': WHATEVER THE INPUT: true; the input reads as it did. -/
def numberedFlowsSpec : ChangeSpec := { name := "numberedFlows", fn := fun _ => fun
  | [d1, d2, d3, d4, d5] => { results := [.lit (.bool true)], args := [d1, d2, d3, d4, d5] }
  | _ => none }
def numberedFlowsRow : OpenClaim := { program := "ytdkpcjabciocgaa", sum := "90e61a00a61414cc7661b0f31206deac991a6cac1acff99fb97813264b703d07", func := "teamster/teamsterkeep.NumberedFlows", spec := "numberedFlows", unfollowed := true, recurses := true, plainKeys := false, apart := false }
def NumberedFlowsSaid : Prop := numberedFlowsRow.holds Try.pinned (OpenSpec.ofChange numberedFlowsSpec)

/-- ITS FALSE NEIGHBOUR: 'it returns false'. Refute it at one input. -/
def numberedFlowsWrong : ChangeSpec := { name := "numberedFlows", fn := fun _ => fun
  | [d1, d2, d3, d4, d5] => { results := [.lit (.bool false)], args := [d1, d2, d3, d4, d5] }
  | _ => none }
def NumberedFlowsWrongFalsely : Prop := numberedFlowsRow.holds Try.pinned (OpenSpec.ofChange numberedFlowsWrong)

/-- 'teamsterkeep.NumberedShorts': WHATEVER THE INPUT: true; the input reads as it did. -/
def numberedShortsSpec : ChangeSpec := { name := "numberedShorts", fn := fun _ => fun
  | [d1, d2, d3, d4, d5] => { results := [.lit (.bool true)], args := [d1, d2, d3, d4, d5] }
  | _ => none }
def numberedShortsRow : OpenClaim := { program := "ytdkpcjabciocgaa", sum := "90e61a00a61414cc7661b0f31206deac991a6cac1acff99fb97813264b703d07", func := "teamster/teamsterkeep.NumberedShorts", spec := "numberedShorts", unfollowed := true, recurses := true, plainKeys := false, apart := false }
def NumberedShortsSaid : Prop := numberedShortsRow.holds Try.pinned (OpenSpec.ofChange numberedShortsSpec)

/-- ITS FALSE NEIGHBOUR: 'it returns false'. Refute it at one input. -/
def numberedShortsWrong : ChangeSpec := { name := "numberedShorts", fn := fun _ => fun
  | [d1, d2, d3, d4, d5] => { results := [.lit (.bool false)], args := [d1, d2, d3, d4, d5] }
  | _ => none }
def NumberedShortsWrongFalsely : Prop := numberedShortsRow.holds Try.pinned (OpenSpec.ofChange numberedShortsWrong)

/-- 'teamsterkeep.NumberedFees': WHATEVER THE INPUT: true; the input reads as it did. -/
def numberedFeesSpec : ChangeSpec := { name := "numberedFees", fn := fun _ => fun
  | [d1, d2, d3, d4, d5, d6] => { results := [.lit (.bool true)], args := [d1, d2, d3, d4, d5, d6] }
  | _ => none }
def numberedFeesRow : OpenClaim := { program := "ytdkpcjabciocgaa", sum := "90e61a00a61414cc7661b0f31206deac991a6cac1acff99fb97813264b703d07", func := "teamster/teamsterkeep.NumberedFees", spec := "numberedFees", unfollowed := true, recurses := true, plainKeys := false, apart := false }
def NumberedFeesSaid : Prop := numberedFeesRow.holds Try.pinned (OpenSpec.ofChange numberedFeesSpec)

/-- ITS FALSE NEIGHBOUR: 'it returns false'. Refute it at one input. -/
def numberedFeesWrong : ChangeSpec := { name := "numberedFees", fn := fun _ => fun
  | [d1, d2, d3, d4, d5, d6] => { results := [.lit (.bool false)], args := [d1, d2, d3, d4, d5, d6] }
  | _ => none }
def NumberedFeesWrongFalsely : Prop := numberedFeesRow.holds Try.pinned (OpenSpec.ofChange numberedFeesWrong)

/-- 'teamsterkeep.NumberedWishes': WHATEVER THE INPUT: true; the input reads as it did. -/
def numberedWishesSpec : ChangeSpec := { name := "numberedWishes", fn := fun _ => fun
  | [d1, d2, d3] => { results := [.lit (.bool true)], args := [d1, d2, d3] }
  | _ => none }
def numberedWishesRow : OpenClaim := { program := "ytdkpcjabciocgaa", sum := "90e61a00a61414cc7661b0f31206deac991a6cac1acff99fb97813264b703d07", func := "teamster/teamsterkeep.NumberedWishes", spec := "numberedWishes", unfollowed := true, recurses := true, plainKeys := false, apart := false }
def NumberedWishesSaid : Prop := numberedWishesRow.holds Try.pinned (OpenSpec.ofChange numberedWishesSpec)

/-- ITS FALSE NEIGHBOUR: 'it returns false'. Refute it at one input. -/
def numberedWishesWrong : ChangeSpec := { name := "numberedWishes", fn := fun _ => fun
  | [d1, d2, d3] => { results := [.lit (.bool false)], args := [d1, d2, d3] }
  | _ => none }
def NumberedWishesWrongFalsely : Prop := numberedWishesRow.holds Try.pinned (OpenSpec.ofChange numberedWishesWrong)

/-- 'teamsterkeep.NumberedQueues': WHATEVER THE INPUT: true; the input reads as it did. -/
def numberedQueuesSpec : ChangeSpec := { name := "numberedQueues", fn := fun _ => fun
  | [d1, d2, d3, d4, d5] => { results := [.lit (.bool true)], args := [d1, d2, d3, d4, d5] }
  | _ => none }
def numberedQueuesRow : OpenClaim := { program := "ytdkpcjabciocgaa", sum := "90e61a00a61414cc7661b0f31206deac991a6cac1acff99fb97813264b703d07", func := "teamster/teamsterkeep.NumberedQueues", spec := "numberedQueues", unfollowed := true, recurses := true, plainKeys := false, apart := false }
def NumberedQueuesSaid : Prop := numberedQueuesRow.holds Try.pinned (OpenSpec.ofChange numberedQueuesSpec)

/-- ITS FALSE NEIGHBOUR: 'it returns false'. Refute it at one input. -/
def numberedQueuesWrong : ChangeSpec := { name := "numberedQueues", fn := fun _ => fun
  | [d1, d2, d3, d4, d5] => { results := [.lit (.bool false)], args := [d1, d2, d3, d4, d5] }
  | _ => none }
def NumberedQueuesWrongFalsely : Prop := numberedQueuesRow.holds Try.pinned (OpenSpec.ofChange numberedQueuesWrong)

/- THE SECOND FORM. 'bulk': how many values and letters a reading holds, each counted each time it is reached (what is shared counts as often as it is met; a slice's spare places count too). A statement '..UptoSaid' is the law's where the arguments, and the package variables that the reading takes, are together of bulk at most 1048576: NARROWER than '..Said'. Prove '..Said' where nothing that the law and all that it calls make is longer than what came in: it says more and counts as full. Else prove '..UptoSaid'. A law counts once. -/
mutual
def uptoBulk {H : Type} : DataW H → Nat
  | .lit (.string bytes) => bytes.length + 1
  | .lit _ => 1
  | .nil => 1
  | .ptr d => uptoBulk d + 1
  | .slice elems spare => uptoBulkAll elems + uptoBulkAll spare + 1
  | .agg parts => uptoBulkAll parts + 1
  | .iface _ d => uptoBulk d + 1
  | .map entries => uptoBulkEntries entries + 1
  | .held _ => 1
def uptoBulkAll {H : Type} : List (DataW H) → Nat
  | [] => 0
  | d :: r => uptoBulk d + uptoBulkAll r
def uptoBulkEntries {H : Type} : List (Lit × DataW H) → Nat
  | [] => 0
  | x :: r => uptoBulkEntry x + uptoBulkEntries r
def uptoBulkEntry {H : Type} : Lit × DataW H → Nat
  | (.string bytes, d) => bytes.length + uptoBulk d + 1
  | (_, d) => uptoBulk d + 1
 end
def uptoSmall : (H : Type) → List (DataW H) → Bool := fun _ ds => decide (uptoBulkAll ds ≤ 1048576)
def OpenSpec.upto (s : _root_.Go.ChangeSpec) : _root_.Go.OpenSpec := { _root_.Go.OpenSpec.ofChange s with cond := some uptoSmall }

/-- 'teamsterkeep.NumberedAssigns', WHERE WHAT IT READS IS OF BULK AT MOST 1048576: true; the input reads as it did. -/
def numberedAssignsUptoRow : OpenClaim := { program := "ytdkpcjabciocgaa", sum := "90e61a00a61414cc7661b0f31206deac991a6cac1acff99fb97813264b703d07", func := "teamster/teamsterkeep.NumberedAssigns", spec := "numberedAssigns", unfollowed := true, recurses := true, plainKeys := false, apart := false, narrowed := true }
def NumberedAssignsUptoSaid : Prop := numberedAssignsUptoRow.holds Try.pinned (OpenSpec.upto numberedAssignsSpec)

/-- 'teamsterkeep.NumberedCrowds', WHERE WHAT IT READS IS OF BULK AT MOST 1048576: true; the input reads as it did. -/
def numberedCrowdsUptoRow : OpenClaim := { program := "ytdkpcjabciocgaa", sum := "90e61a00a61414cc7661b0f31206deac991a6cac1acff99fb97813264b703d07", func := "teamster/teamsterkeep.NumberedCrowds", spec := "numberedCrowds", unfollowed := true, recurses := true, plainKeys := false, apart := false, narrowed := true }
def NumberedCrowdsUptoSaid : Prop := numberedCrowdsUptoRow.holds Try.pinned (OpenSpec.upto numberedCrowdsSpec)

/-- 'teamsterkeep.NumberedLines', WHERE WHAT IT READS IS OF BULK AT MOST 1048576: true; the input reads as it did. -/
def numberedLinesUptoRow : OpenClaim := { program := "ytdkpcjabciocgaa", sum := "90e61a00a61414cc7661b0f31206deac991a6cac1acff99fb97813264b703d07", func := "teamster/teamsterkeep.NumberedLines", spec := "numberedLines", unfollowed := true, recurses := true, plainKeys := false, apart := false, narrowed := true }
def NumberedLinesUptoSaid : Prop := numberedLinesUptoRow.holds Try.pinned (OpenSpec.upto numberedLinesSpec)

/-- 'teamsterkeep.NumberedFlows', WHERE WHAT IT READS IS OF BULK AT MOST 1048576: true; the input reads as it did. -/
def numberedFlowsUptoRow : OpenClaim := { program := "ytdkpcjabciocgaa", sum := "90e61a00a61414cc7661b0f31206deac991a6cac1acff99fb97813264b703d07", func := "teamster/teamsterkeep.NumberedFlows", spec := "numberedFlows", unfollowed := true, recurses := true, plainKeys := false, apart := false, narrowed := true }
def NumberedFlowsUptoSaid : Prop := numberedFlowsUptoRow.holds Try.pinned (OpenSpec.upto numberedFlowsSpec)

/-- 'teamsterkeep.NumberedShorts', WHERE WHAT IT READS IS OF BULK AT MOST 1048576: true; the input reads as it did. -/
def numberedShortsUptoRow : OpenClaim := { program := "ytdkpcjabciocgaa", sum := "90e61a00a61414cc7661b0f31206deac991a6cac1acff99fb97813264b703d07", func := "teamster/teamsterkeep.NumberedShorts", spec := "numberedShorts", unfollowed := true, recurses := true, plainKeys := false, apart := false, narrowed := true }
def NumberedShortsUptoSaid : Prop := numberedShortsUptoRow.holds Try.pinned (OpenSpec.upto numberedShortsSpec)

/-- 'teamsterkeep.NumberedFees', WHERE WHAT IT READS IS OF BULK AT MOST 1048576: true; the input reads as it did. -/
def numberedFeesUptoRow : OpenClaim := { program := "ytdkpcjabciocgaa", sum := "90e61a00a61414cc7661b0f31206deac991a6cac1acff99fb97813264b703d07", func := "teamster/teamsterkeep.NumberedFees", spec := "numberedFees", unfollowed := true, recurses := true, plainKeys := false, apart := false, narrowed := true }
def NumberedFeesUptoSaid : Prop := numberedFeesUptoRow.holds Try.pinned (OpenSpec.upto numberedFeesSpec)

/-- 'teamsterkeep.NumberedWishes', WHERE WHAT IT READS IS OF BULK AT MOST 1048576: true; the input reads as it did. -/
def numberedWishesUptoRow : OpenClaim := { program := "ytdkpcjabciocgaa", sum := "90e61a00a61414cc7661b0f31206deac991a6cac1acff99fb97813264b703d07", func := "teamster/teamsterkeep.NumberedWishes", spec := "numberedWishes", unfollowed := true, recurses := true, plainKeys := false, apart := false, narrowed := true }
def NumberedWishesUptoSaid : Prop := numberedWishesUptoRow.holds Try.pinned (OpenSpec.upto numberedWishesSpec)

/-- 'teamsterkeep.NumberedQueues', WHERE WHAT IT READS IS OF BULK AT MOST 1048576: true; the input reads as it did. -/
def numberedQueuesUptoRow : OpenClaim := { program := "ytdkpcjabciocgaa", sum := "90e61a00a61414cc7661b0f31206deac991a6cac1acff99fb97813264b703d07", func := "teamster/teamsterkeep.NumberedQueues", spec := "numberedQueues", unfollowed := true, recurses := true, plainKeys := false, apart := false, narrowed := true }
def NumberedQueuesUptoSaid : Prop := numberedQueuesUptoRow.holds Try.pinned (OpenSpec.upto numberedQueuesSpec)

end Rows
end Go.Proofs.Ytdkpcjabciocgaa
