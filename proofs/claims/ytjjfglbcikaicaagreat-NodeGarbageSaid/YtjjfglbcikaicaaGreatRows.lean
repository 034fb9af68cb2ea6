/-
  NARROWER THAN 'FOR EVERY INPUT', by the rows' own cells (each row's printed sentence says how): NodeOrder: loops · NodeOwn: loops.
  DERIVED. THE GIVEN ROWS OF THIS SEAT. 11 by the template 'for every input the law returns true; each argument reads behind the call as it read before'; 0 by the template 'total and deterministic' (their statements: YtjjfglbcikaicaaGreatTotals.lean).
  GIVEN WITH THE SEED: the statements are not yours to turn. If you find one false, say at which input.
  Laid BY PROGRAM, IN A SANDBOX (cutbox-rows.mjs): the forced cells as the released guide's own fill.sh prints them over the translation 66c8a4d28a30a7eb… (all of the seat's roots in one cut). By AI agents, Wed Nov 11 2026. No macro, syntax, notation, axiom, sorry.
-/
import Derived.Test.YtjjfglbcikaicaaGreatChecked
import GoSem.Claim
import GoSem.ClaimJoined
import GoSem.ClaimMapViews
import Derived.JoinedTies
import Derived.KernelRfl
namespace Go.Proofs.YtjjfglbcikaicaaGreat
/- THE CELL 'sum', in the pinned program and in every row, IS THE sha256 OF THE DUMP (.gsa) THAT YtjjfglbcikaicaaGreatProg.lean LOADS. Nothing in Lean hashes anything: it is a label: what it is worth is what the hold of that sum in a sandbox is worth. -/
noncomputable def Tryz.pinned : Pinned := { name := "ytjjfglbcikaicaagreat", sum := "66c8a4d28a30a7eb0ed13f8f740e73af54da45a00a62e0119a68135664a31d46", checked := Tryz.checked }
namespace Rows
def none {H : Type} : Left H := { results := [], args := [] }

/-- 'roadkeep3.NodeChain': WHATEVER THE INPUT: true; the input reads as it did. -/
def nodeChainSpec : ChangeSpec := { name := "nodeChain", fn := fun _ => fun
  | [d] => { results := [.lit (.bool true)], args := [d] }
  | _ => none }
def nodeChainRow : OpenClaim := { program := "ytjjfglbcikaicaagreat", sum := "66c8a4d28a30a7eb0ed13f8f740e73af54da45a00a62e0119a68135664a31d46", func := "roadstead/roadkeep3.NodeChain", spec := "nodeChain", inPlace := ["slices.overlaps[roadstead/link.Row]"], unfollowed := true, recurses := true, apart := false }
def NodeChainSaid : Prop := nodeChainRow.holds Tryz.pinned (OpenSpec.ofChange nodeChainSpec)

/-- ITS FALSE NEIGHBOUR: 'it returns false'. Refute it at one input. -/
def nodeChainWrong : ChangeSpec := { name := "nodeChain", fn := fun _ => fun
  | [d] => { results := [.lit (.bool false)], args := [d] }
  | _ => none }
def NodeChainWrongFalsely : Prop := nodeChainRow.holds Tryz.pinned (OpenSpec.ofChange nodeChainWrong)

/-- 'roadkeep3.NodeWatches': WHATEVER THE INPUT: true; the input reads as it did. -/
def nodeWatchesSpec : ChangeSpec := { name := "nodeWatches", fn := fun _ => fun
  | [d1, d2] => { results := [.lit (.bool true)], args := [d1, d2] }
  | _ => none }
def nodeWatchesRow : OpenClaim := { program := "ytjjfglbcikaicaagreat", sum := "66c8a4d28a30a7eb0ed13f8f740e73af54da45a00a62e0119a68135664a31d46", func := "roadstead/roadkeep3.NodeWatches", spec := "nodeWatches", inPlace := ["slices.overlaps[roadstead/link.Row]"], unfollowed := true, recurses := true, apart := false }
def NodeWatchesSaid : Prop := nodeWatchesRow.holds Tryz.pinned (OpenSpec.ofChange nodeWatchesSpec)

/-- ITS FALSE NEIGHBOUR: 'it returns false'. Refute it at one input. -/
def nodeWatchesWrong : ChangeSpec := { name := "nodeWatches", fn := fun _ => fun
  | [d1, d2] => { results := [.lit (.bool false)], args := [d1, d2] }
  | _ => none }
def NodeWatchesWrongFalsely : Prop := nodeWatchesRow.holds Tryz.pinned (OpenSpec.ofChange nodeWatchesWrong)

/-- 'roadkeep3.NodeHome': WHATEVER THE INPUT: true; the input reads as it did. -/
def nodeHomeSpec : ChangeSpec := { name := "nodeHome", fn := fun _ => fun
  | [d1, d2, d3, d4] => { results := [.lit (.bool true)], args := [d1, d2, d3, d4] }
  | _ => none }
def nodeHomeRow : OpenClaim := { program := "ytjjfglbcikaicaagreat", sum := "66c8a4d28a30a7eb0ed13f8f740e73af54da45a00a62e0119a68135664a31d46", func := "roadstead/roadkeep3.NodeHome", spec := "nodeHome", inPlace := ["slices.overlaps[roadstead/link.Row]"], unfollowed := true, recurses := true, apart := false }
def NodeHomeSaid : Prop := nodeHomeRow.holds Tryz.pinned (OpenSpec.ofChange nodeHomeSpec)

/-- ITS FALSE NEIGHBOUR: 'it returns false'. Refute it at one input. -/
def nodeHomeWrong : ChangeSpec := { name := "nodeHome", fn := fun _ => fun
  | [d1, d2, d3, d4] => { results := [.lit (.bool false)], args := [d1, d2, d3, d4] }
  | _ => none }
def NodeHomeWrongFalsely : Prop := nodeHomeRow.holds Tryz.pinned (OpenSpec.ofChange nodeHomeWrong)

/-- 'roadkeep3.NodeOrder': WHATEVER THE INPUT: true; the input reads as it did. -/
def nodeOrderSpec : ChangeSpec := { name := "nodeOrder", fn := fun _ => fun
  | [d] => { results := [.lit (.bool true)], args := [d] }
  | _ => none }
def nodeOrderRow : OpenClaim := { program := "ytjjfglbcikaicaagreat", sum := "66c8a4d28a30a7eb0ed13f8f740e73af54da45a00a62e0119a68135664a31d46", func := "roadstead/roadkeep3.NodeOrder", spec := "nodeOrder", inPlace := ["slices.overlaps[roadstead/link.Row]"], unfollowed := true, recurses := true, loops := true, apart := false }
def NodeOrderSaid : Prop := nodeOrderRow.holds Tryz.pinned (OpenSpec.ofChange nodeOrderSpec)

/-- ITS FALSE NEIGHBOUR: 'it returns false'. Refute it at one input. -/
def nodeOrderWrong : ChangeSpec := { name := "nodeOrder", fn := fun _ => fun
  | [d] => { results := [.lit (.bool false)], args := [d] }
  | _ => none }
def NodeOrderWrongFalsely : Prop := nodeOrderRow.holds Tryz.pinned (OpenSpec.ofChange nodeOrderWrong)

/-- 'roadkeep3.NodeRests': WHATEVER THE INPUT: true; the input reads as it did. -/
def nodeRestsSpec : ChangeSpec := { name := "nodeRests", fn := fun _ => fun
  | [d1, d2, d3] => { results := [.lit (.bool true)], args := [d1, d2, d3] }
  | _ => none }
def nodeRestsRow : OpenClaim := { program := "ytjjfglbcikaicaagreat", sum := "66c8a4d28a30a7eb0ed13f8f740e73af54da45a00a62e0119a68135664a31d46", func := "roadstead/roadkeep3.NodeRests", spec := "nodeRests", inPlace := ["slices.overlaps[roadstead/link.Row]"], unfollowed := true, recurses := true, apart := false }
def NodeRestsSaid : Prop := nodeRestsRow.holds Tryz.pinned (OpenSpec.ofChange nodeRestsSpec)

/-- ITS FALSE NEIGHBOUR: 'it returns false'. Refute it at one input. -/
def nodeRestsWrong : ChangeSpec := { name := "nodeRests", fn := fun _ => fun
  | [d1, d2, d3] => { results := [.lit (.bool false)], args := [d1, d2, d3] }
  | _ => none }
def NodeRestsWrongFalsely : Prop := nodeRestsRow.holds Tryz.pinned (OpenSpec.ofChange nodeRestsWrong)

/-- 'roadkeep3.NodeFuel': WHATEVER THE INPUT: true; the input reads as it did. -/
def nodeFuelSpec : ChangeSpec := { name := "nodeFuel", fn := fun _ => fun
  | [d1, d2, d3, d4] => { results := [.lit (.bool true)], args := [d1, d2, d3, d4] }
  | _ => none }
def nodeFuelRow : OpenClaim := { program := "ytjjfglbcikaicaagreat", sum := "66c8a4d28a30a7eb0ed13f8f740e73af54da45a00a62e0119a68135664a31d46", func := "roadstead/roadkeep3.NodeFuel", spec := "nodeFuel", inPlace := ["slices.overlaps[roadstead/link.Row]"], unfollowed := true, recurses := true, apart := false }
def NodeFuelSaid : Prop := nodeFuelRow.holds Tryz.pinned (OpenSpec.ofChange nodeFuelSpec)

/-- ITS FALSE NEIGHBOUR: 'it returns false'. Refute it at one input. -/
def nodeFuelWrong : ChangeSpec := { name := "nodeFuel", fn := fun _ => fun
  | [d1, d2, d3, d4] => { results := [.lit (.bool false)], args := [d1, d2, d3, d4] }
  | _ => none }
def NodeFuelWrongFalsely : Prop := nodeFuelRow.holds Tryz.pinned (OpenSpec.ofChange nodeFuelWrong)

/-- 'roadkeep3.NodeNumbers': WHATEVER THE INPUT: true; the input reads as it did. -/
def nodeNumbersSpec : ChangeSpec := { name := "nodeNumbers", fn := fun _ => fun
  | [d1, d2, d3] => { results := [.lit (.bool true)], args := [d1, d2, d3] }
  | _ => none }
def nodeNumbersRow : OpenClaim := { program := "ytjjfglbcikaicaagreat", sum := "66c8a4d28a30a7eb0ed13f8f740e73af54da45a00a62e0119a68135664a31d46", func := "roadstead/roadkeep3.NodeNumbers", spec := "nodeNumbers", inPlace := ["slices.overlaps[roadstead/link.Row]"], unfollowed := true, recurses := true, apart := false }
def NodeNumbersSaid : Prop := nodeNumbersRow.holds Tryz.pinned (OpenSpec.ofChange nodeNumbersSpec)

/-- ITS FALSE NEIGHBOUR: 'it returns false'. Refute it at one input. -/
def nodeNumbersWrong : ChangeSpec := { name := "nodeNumbers", fn := fun _ => fun
  | [d1, d2, d3] => { results := [.lit (.bool false)], args := [d1, d2, d3] }
  | _ => none }
def NodeNumbersWrongFalsely : Prop := nodeNumbersRow.holds Tryz.pinned (OpenSpec.ofChange nodeNumbersWrong)

/-- 'roadkeep3.NodeOwn': WHATEVER THE INPUT: true; the input reads as it did. -/
def nodeOwnSpec : ChangeSpec := { name := "nodeOwn", fn := fun _ => fun
  | [d] => { results := [.lit (.bool true)], args := [d] }
  | _ => none }
def nodeOwnRow : OpenClaim := { program := "ytjjfglbcikaicaagreat", sum := "66c8a4d28a30a7eb0ed13f8f740e73af54da45a00a62e0119a68135664a31d46", func := "roadstead/roadkeep3.NodeOwn", spec := "nodeOwn", inPlace := ["slices.overlaps[roadstead/link.Row]"], unfollowed := true, recurses := true, loops := true, apart := false }
def NodeOwnSaid : Prop := nodeOwnRow.holds Tryz.pinned (OpenSpec.ofChange nodeOwnSpec)

/-- ITS FALSE NEIGHBOUR: 'it returns false'. Refute it at one input. -/
def nodeOwnWrong : ChangeSpec := { name := "nodeOwn", fn := fun _ => fun
  | [d] => { results := [.lit (.bool false)], args := [d] }
  | _ => none }
def NodeOwnWrongFalsely : Prop := nodeOwnRow.holds Tryz.pinned (OpenSpec.ofChange nodeOwnWrong)

/-- 'roadkeep3.NodeFair': WHATEVER THE INPUT: true; the input reads as it did. -/
def nodeFairSpec : ChangeSpec := { name := "nodeFair", fn := fun _ => fun
  | [d1, d2, d3] => { results := [.lit (.bool true)], args := [d1, d2, d3] }
  | _ => none }
def nodeFairRow : OpenClaim := { program := "ytjjfglbcikaicaagreat", sum := "66c8a4d28a30a7eb0ed13f8f740e73af54da45a00a62e0119a68135664a31d46", func := "roadstead/roadkeep3.NodeFair", spec := "nodeFair", inPlace := ["slices.overlaps[roadstead/link.Row]"], unfollowed := true, recurses := true, apart := false }
def NodeFairSaid : Prop := nodeFairRow.holds Tryz.pinned (OpenSpec.ofChange nodeFairSpec)

/-- ITS FALSE NEIGHBOUR: 'it returns false'. Refute it at one input. -/
def nodeFairWrong : ChangeSpec := { name := "nodeFair", fn := fun _ => fun
  | [d1, d2, d3] => { results := [.lit (.bool false)], args := [d1, d2, d3] }
  | _ => none }
def NodeFairWrongFalsely : Prop := nodeFairRow.holds Tryz.pinned (OpenSpec.ofChange nodeFairWrong)

/-- 'roadkeep3.NodeGarbage': WHATEVER THE INPUT: true; the input reads as it did. -/
def nodeGarbageSpec : ChangeSpec := { name := "nodeGarbage", fn := fun _ => fun
  | [d1, d2, d3, d4] => { results := [.lit (.bool true)], args := [d1, d2, d3, d4] }
  | _ => none }
def nodeGarbageRow : OpenClaim := { program := "ytjjfglbcikaicaagreat", sum := "66c8a4d28a30a7eb0ed13f8f740e73af54da45a00a62e0119a68135664a31d46", func := "roadstead/roadkeep3.NodeGarbage", spec := "nodeGarbage", inPlace := ["slices.overlaps[roadstead/link.Row]"], unfollowed := true, recurses := true, apart := false }
def NodeGarbageSaid : Prop := nodeGarbageRow.holds Tryz.pinned (OpenSpec.ofChange nodeGarbageSpec)

/-- ITS FALSE NEIGHBOUR: 'it returns false'. Refute it at one input. -/
def nodeGarbageWrong : ChangeSpec := { name := "nodeGarbage", fn := fun _ => fun
  | [d1, d2, d3, d4] => { results := [.lit (.bool false)], args := [d1, d2, d3, d4] }
  | _ => none }
def NodeGarbageWrongFalsely : Prop := nodeGarbageRow.holds Tryz.pinned (OpenSpec.ofChange nodeGarbageWrong)

/-- 'roadkeep3.NodeMoves': WHATEVER THE INPUT: true; the input reads as it did. -/
def nodeMovesSpec : ChangeSpec := { name := "nodeMoves", fn := fun _ => fun
  | [d1, d2, d3, d4, d5] => { results := [.lit (.bool true)], args := [d1, d2, d3, d4, d5] }
  | _ => none }
def nodeMovesRow : OpenClaim := { program := "ytjjfglbcikaicaagreat", sum := "66c8a4d28a30a7eb0ed13f8f740e73af54da45a00a62e0119a68135664a31d46", func := "roadstead/roadkeep3.NodeMoves", spec := "nodeMoves", inPlace := ["slices.overlaps[roadstead/link.Row]"], unfollowed := true, recurses := true, apart := false }
def NodeMovesSaid : Prop := nodeMovesRow.holds Tryz.pinned (OpenSpec.ofChange nodeMovesSpec)

/-- ITS FALSE NEIGHBOUR: 'it returns false'. Refute it at one input. -/
def nodeMovesWrong : ChangeSpec := { name := "nodeMoves", fn := fun _ => fun
  | [d1, d2, d3, d4, d5] => { results := [.lit (.bool false)], args := [d1, d2, d3, d4, d5] }
  | _ => none }
def NodeMovesWrongFalsely : Prop := nodeMovesRow.holds Tryz.pinned (OpenSpec.ofChange nodeMovesWrong)

/- THE SECOND FORM. 'bulk': how many values and letters a reading holds, each counted each time it is reached (what is shared counts as often as it is met; a slice's spare places count too). A statement '..UptoSaid' is the law's where the arguments, and the package variables that the reading takes, are together of bulk at most 1048576: NARROWER than '..Said'. Prove '..Said' where nothing that the law and all that it calls make is longer than what came in: it says more and counts as full. Else prove '..UptoSaid'. A law counts once. -/
mutual
def uptoBulk {H : Type} : DataW H → Nat
  | .lit (.string bytes) => bytes.length + 1
  | .lit _ => 1
  | .nil => 1
  | .ptr d => uptoBulk d + 1
  | .slice elems spare => uptoBulkAll elems + uptoBulkAll spare + 1
  | .agg parts => uptoBulkAll parts + 1
  | .iface _ d => uptoBulk d + 1
  | .map entries => uptoBulkEntries entries + 1
  | .held _ => 1
def uptoBulkAll {H : Type} : List (DataW H) → Nat
  | [] => 0
  | d :: r => uptoBulk d + uptoBulkAll r
def uptoBulkEntries {H : Type} : List (Lit × DataW H) → Nat
  | [] => 0
  | x :: r => uptoBulkEntry x + uptoBulkEntries r
def uptoBulkEntry {H : Type} : Lit × DataW H → Nat
  | (.string bytes, d) => bytes.length + uptoBulk d + 1
  | (_, d) => uptoBulk d + 1
 end
def uptoSmall : (H : Type) → List (DataW H) → Bool := fun _ ds => decide (uptoBulkAll ds ≤ 1048576)
def OpenSpec.upto (s : _root_.Go.ChangeSpec) : _root_.Go.OpenSpec := { _root_.Go.OpenSpec.ofChange s with cond := some uptoSmall }

/-- 'roadkeep3.NodeChain', WHERE WHAT IT READS IS OF BULK AT MOST 1048576: true; the input reads as it did. -/
def nodeChainUptoRow : OpenClaim := { program := "ytjjfglbcikaicaagreat", sum := "66c8a4d28a30a7eb0ed13f8f740e73af54da45a00a62e0119a68135664a31d46", func := "roadstead/roadkeep3.NodeChain", spec := "nodeChain", inPlace := ["slices.overlaps[roadstead/link.Row]"], unfollowed := true, recurses := true, apart := false, narrowed := true }
def NodeChainUptoSaid : Prop := nodeChainUptoRow.holds Tryz.pinned (OpenSpec.upto nodeChainSpec)

/-- 'roadkeep3.NodeWatches', WHERE WHAT IT READS IS OF BULK AT MOST 1048576: true; the input reads as it did. -/
def nodeWatchesUptoRow : OpenClaim := { program := "ytjjfglbcikaicaagreat", sum := "66c8a4d28a30a7eb0ed13f8f740e73af54da45a00a62e0119a68135664a31d46", func := "roadstead/roadkeep3.NodeWatches", spec := "nodeWatches", inPlace := ["slices.overlaps[roadstead/link.Row]"], unfollowed := true, recurses := true, apart := false, narrowed := true }
def NodeWatchesUptoSaid : Prop := nodeWatchesUptoRow.holds Tryz.pinned (OpenSpec.upto nodeWatchesSpec)

/-- 'roadkeep3.NodeHome', WHERE WHAT IT READS IS OF BULK AT MOST 1048576: true; the input reads as it did. -/
def nodeHomeUptoRow : OpenClaim := { program := "ytjjfglbcikaicaagreat", sum := "66c8a4d28a30a7eb0ed13f8f740e73af54da45a00a62e0119a68135664a31d46", func := "roadstead/roadkeep3.NodeHome", spec := "nodeHome", inPlace := ["slices.overlaps[roadstead/link.Row]"], unfollowed := true, recurses := true, apart := false, narrowed := true }
def NodeHomeUptoSaid : Prop := nodeHomeUptoRow.holds Tryz.pinned (OpenSpec.upto nodeHomeSpec)

/-- 'roadkeep3.NodeOrder', WHERE WHAT IT READS IS OF BULK AT MOST 1048576: true; the input reads as it did. -/
def nodeOrderUptoRow : OpenClaim := { program := "ytjjfglbcikaicaagreat", sum := "66c8a4d28a30a7eb0ed13f8f740e73af54da45a00a62e0119a68135664a31d46", func := "roadstead/roadkeep3.NodeOrder", spec := "nodeOrder", inPlace := ["slices.overlaps[roadstead/link.Row]"], unfollowed := true, recurses := true, loops := true, apart := false, narrowed := true }
def NodeOrderUptoSaid : Prop := nodeOrderUptoRow.holds Tryz.pinned (OpenSpec.upto nodeOrderSpec)

/-- 'roadkeep3.NodeRests', WHERE WHAT IT READS IS OF BULK AT MOST 1048576: true; the input reads as it did. -/
def nodeRestsUptoRow : OpenClaim := { program := "ytjjfglbcikaicaagreat", sum := "66c8a4d28a30a7eb0ed13f8f740e73af54da45a00a62e0119a68135664a31d46", func := "roadstead/roadkeep3.NodeRests", spec := "nodeRests", inPlace := ["slices.overlaps[roadstead/link.Row]"], unfollowed := true, recurses := true, apart := false, narrowed := true }
def NodeRestsUptoSaid : Prop := nodeRestsUptoRow.holds Tryz.pinned (OpenSpec.upto nodeRestsSpec)

/-- 'roadkeep3.NodeFuel', WHERE WHAT IT READS IS OF BULK AT MOST 1048576: true; the input reads as it did. -/
def nodeFuelUptoRow : OpenClaim := { program := "ytjjfglbcikaicaagreat", sum := "66c8a4d28a30a7eb0ed13f8f740e73af54da45a00a62e0119a68135664a31d46", func := "roadstead/roadkeep3.NodeFuel", spec := "nodeFuel", inPlace := ["slices.overlaps[roadstead/link.Row]"], unfollowed := true, recurses := true, apart := false, narrowed := true }
def NodeFuelUptoSaid : Prop := nodeFuelUptoRow.holds Tryz.pinned (OpenSpec.upto nodeFuelSpec)

/-- 'roadkeep3.NodeNumbers', WHERE WHAT IT READS IS OF BULK AT MOST 1048576: true; the input reads as it did. -/
def nodeNumbersUptoRow : OpenClaim := { program := "ytjjfglbcikaicaagreat", sum := "66c8a4d28a30a7eb0ed13f8f740e73af54da45a00a62e0119a68135664a31d46", func := "roadstead/roadkeep3.NodeNumbers", spec := "nodeNumbers", inPlace := ["slices.overlaps[roadstead/link.Row]"], unfollowed := true, recurses := true, apart := false, narrowed := true }
def NodeNumbersUptoSaid : Prop := nodeNumbersUptoRow.holds Tryz.pinned (OpenSpec.upto nodeNumbersSpec)

/-- 'roadkeep3.NodeOwn', WHERE WHAT IT READS IS OF BULK AT MOST 1048576: true; the input reads as it did. -/
def nodeOwnUptoRow : OpenClaim := { program := "ytjjfglbcikaicaagreat", sum := "66c8a4d28a30a7eb0ed13f8f740e73af54da45a00a62e0119a68135664a31d46", func := "roadstead/roadkeep3.NodeOwn", spec := "nodeOwn", inPlace := ["slices.overlaps[roadstead/link.Row]"], unfollowed := true, recurses := true, loops := true, apart := false, narrowed := true }
def NodeOwnUptoSaid : Prop := nodeOwnUptoRow.holds Tryz.pinned (OpenSpec.upto nodeOwnSpec)

/-- 'roadkeep3.NodeFair', WHERE WHAT IT READS IS OF BULK AT MOST 1048576: true; the input reads as it did. -/
def nodeFairUptoRow : OpenClaim := { program := "ytjjfglbcikaicaagreat", sum := "66c8a4d28a30a7eb0ed13f8f740e73af54da45a00a62e0119a68135664a31d46", func := "roadstead/roadkeep3.NodeFair", spec := "nodeFair", inPlace := ["slices.overlaps[roadstead/link.Row]"], unfollowed := true, recurses := true, apart := false, narrowed := true }
def NodeFairUptoSaid : Prop := nodeFairUptoRow.holds Tryz.pinned (OpenSpec.upto nodeFairSpec)

/-- 'roadkeep3.NodeGarbage', WHERE WHAT IT READS IS OF BULK AT MOST 1048576: true; the input reads as it did. -/
def nodeGarbageUptoRow : OpenClaim := { program := "ytjjfglbcikaicaagreat", sum := "66c8a4d28a30a7eb0ed13f8f740e73af54da45a00a62e0119a68135664a31d46", func := "roadstead/roadkeep3.NodeGarbage", spec := "nodeGarbage", inPlace := ["slices.overlaps[roadstead/link.Row]"], unfollowed := true, recurses := true, apart := false, narrowed := true }
def NodeGarbageUptoSaid : Prop := nodeGarbageUptoRow.holds Tryz.pinned (OpenSpec.upto nodeGarbageSpec)

/-- 'roadkeep3.NodeMoves', WHERE WHAT IT READS IS OF BULK AT MOST 1048576: true; the input reads as it did. -/
def nodeMovesUptoRow : OpenClaim := { program := "ytjjfglbcikaicaagreat", sum := "66c8a4d28a30a7eb0ed13f8f740e73af54da45a00a62e0119a68135664a31d46", func := "roadstead/roadkeep3.NodeMoves", spec := "nodeMoves", inPlace := ["slices.overlaps[roadstead/link.Row]"], unfollowed := true, recurses := true, apart := false, narrowed := true }
def NodeMovesUptoSaid : Prop := nodeMovesUptoRow.holds Tryz.pinned (OpenSpec.upto nodeMovesSpec)

end Rows
end Go.Proofs.YtjjfglbcikaicaaGreat
