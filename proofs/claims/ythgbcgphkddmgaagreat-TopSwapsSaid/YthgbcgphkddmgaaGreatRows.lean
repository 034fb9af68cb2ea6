/-
  No cell of these rows narrows 'for every input' (looked for: loops, veiled, ifaces, maps, wideKeys, modest, calm, conditions, laid).
  DERIVED. THE GIVEN ROWS OF THIS SEAT. 3 by the template 'for every input the law returns true; each argument reads behind the call as it read before'; 0 by the template 'total and deterministic' (their statements: YthgbcgphkddmgaaGreatTotals.lean).
  GIVEN WITH THE SEED: the statements are not yours to turn. If you find one false, say at which input.
  Laid BY PROGRAM, IN A SANDBOX (cutbox-rows.mjs): the forced cells as the released guide's own fill.sh prints them over the translation 93c9f08d2014d270… (all of the seat's roots in one cut). By AI agents, Wed Nov 11 2026. No macro, syntax, notation, axiom, sorry.
-/
import Derived.Test.YthgbcgphkddmgaaGreatChecked
import GoSem.Claim
import GoSem.ClaimJoined
import GoSem.ClaimMapViews
import Derived.JoinedTies
import Derived.KernelRfl
namespace Go.Proofs.YthgbcgphkddmgaaGreat
/- THE CELL 'sum', in the pinned program and in every row, IS THE sha256 OF THE DUMP (.gsa) THAT YthgbcgphkddmgaaGreatProg.lean LOADS. Nothing in Lean hashes anything: it is a label: what it is worth is what the hold of that sum in a sandbox is worth. -/
noncomputable def Tryz.pinned : Pinned := { name := "ythgbcgphkddmgaagreat", sum := "93c9f08d2014d270c31f957a54c59c84b60e7345c20218e67d2f2b4a9f7c9107", checked := Tryz.checked }
namespace Rows
def none {H : Type} : Left H := { results := [], args := [] }

/-- 'roadtop.TopGarbage': WHATEVER THE INPUT: true; the input reads as it did. -/
def topGarbageSpec : ChangeSpec := { name := "topGarbage", fn := fun _ => fun
  | [d1, d2, d3, d4] => { results := [.lit (.bool true)], args := [d1, d2, d3, d4] }
  | _ => none }
def topGarbageRow : OpenClaim := { program := "ythgbcgphkddmgaagreat", sum := "93c9f08d2014d270c31f957a54c59c84b60e7345c20218e67d2f2b4a9f7c9107", func := "roadstead/roadtop.TopGarbage", spec := "topGarbage", inPlace := ["slices.overlaps[roadstead/link.Row]", "maps.clone"], unfollowed := true, recurses := true, plainKeys := false, apart := false }
def TopGarbageSaid : Prop := topGarbageRow.holds Tryz.pinned (OpenSpec.ofChange topGarbageSpec)

/-- ITS FALSE NEIGHBOUR: 'it returns false'. Refute it at one input. -/
def topGarbageWrong : ChangeSpec := { name := "topGarbage", fn := fun _ => fun
  | [d1, d2, d3, d4] => { results := [.lit (.bool false)], args := [d1, d2, d3, d4] }
  | _ => none }
def TopGarbageWrongFalsely : Prop := topGarbageRow.holds Tryz.pinned (OpenSpec.ofChange topGarbageWrong)

/-- 'roadtop.TopLines': WHATEVER THE INPUT: true; the input reads as it did. -/
def topLinesSpec : ChangeSpec := { name := "topLines", fn := fun _ => fun
  | [d1, d2, d3] => { results := [.lit (.bool true)], args := [d1, d2, d3] }
  | _ => none }
def topLinesRow : OpenClaim := { program := "ythgbcgphkddmgaagreat", sum := "93c9f08d2014d270c31f957a54c59c84b60e7345c20218e67d2f2b4a9f7c9107", func := "roadstead/roadtop.TopLines", spec := "topLines", inPlace := ["slices.overlaps[roadstead/link.Row]", "maps.clone"], unfollowed := true, recurses := true, plainKeys := false, apart := false }
def TopLinesSaid : Prop := topLinesRow.holds Tryz.pinned (OpenSpec.ofChange topLinesSpec)

/-- ITS FALSE NEIGHBOUR: 'it returns false'. Refute it at one input. -/
def topLinesWrong : ChangeSpec := { name := "topLines", fn := fun _ => fun
  | [d1, d2, d3] => { results := [.lit (.bool false)], args := [d1, d2, d3] }
  | _ => none }
def TopLinesWrongFalsely : Prop := topLinesRow.holds Tryz.pinned (OpenSpec.ofChange topLinesWrong)

/-- 'roadtop.TopSwaps': WHATEVER THE INPUT: true; the input reads as it did. -/
def topSwapsSpec : ChangeSpec := { name := "topSwaps", fn := fun _ => fun
  | [d1, d2, d3, d4] => { results := [.lit (.bool true)], args := [d1, d2, d3, d4] }
  | _ => none }
def topSwapsRow : OpenClaim := { program := "ythgbcgphkddmgaagreat", sum := "93c9f08d2014d270c31f957a54c59c84b60e7345c20218e67d2f2b4a9f7c9107", func := "roadstead/roadtop.TopSwaps", spec := "topSwaps", inPlace := ["slices.overlaps[roadstead/link.Row]"], unfollowed := true, recurses := true, plainKeys := false, apart := false }
def TopSwapsSaid : Prop := topSwapsRow.holds Tryz.pinned (OpenSpec.ofChange topSwapsSpec)

/-- ITS FALSE NEIGHBOUR: 'it returns false'. Refute it at one input. -/
def topSwapsWrong : ChangeSpec := { name := "topSwaps", fn := fun _ => fun
  | [d1, d2, d3, d4] => { results := [.lit (.bool false)], args := [d1, d2, d3, d4] }
  | _ => none }
def TopSwapsWrongFalsely : Prop := topSwapsRow.holds Tryz.pinned (OpenSpec.ofChange topSwapsWrong)

/- THE SECOND FORM. 'bulk': how many values and letters a reading holds, each counted each time it is reached (what is shared counts as often as it is met; a slice's spare places count too). A statement '..UptoSaid' is the law's where the arguments, and the package variables that the reading takes, are together of bulk at most 1048576: NARROWER than '..Said'. Prove '..Said' where nothing that the law and all that it calls make is longer than what came in: it says more and counts as full. Else prove '..UptoSaid'. A law counts once. -/
mutual
def uptoBulk {H : Type} : DataW H → Nat
  | .lit (.string bytes) => bytes.length + 1
  | .lit _ => 1
  | .nil => 1
  | .ptr d => uptoBulk d + 1
  | .slice elems spare => uptoBulkAll elems + uptoBulkAll spare + 1
  | .agg parts => uptoBulkAll parts + 1
  | .iface _ d => uptoBulk d + 1
  | .map entries => uptoBulkEntries entries + 1
  | .held _ => 1
def uptoBulkAll {H : Type} : List (DataW H) → Nat
  | [] => 0
  | d :: r => uptoBulk d + uptoBulkAll r
def uptoBulkEntries {H : Type} : List (Lit × DataW H) → Nat
  | [] => 0
  | x :: r => uptoBulkEntry x + uptoBulkEntries r
def uptoBulkEntry {H : Type} : Lit × DataW H → Nat
  | (.string bytes, d) => bytes.length + uptoBulk d + 1
  | (_, d) => uptoBulk d + 1
 end
def uptoSmall : (H : Type) → List (DataW H) → Bool := fun _ ds => decide (uptoBulkAll ds ≤ 1048576)
def OpenSpec.upto (s : _root_.Go.ChangeSpec) : _root_.Go.OpenSpec := { _root_.Go.OpenSpec.ofChange s with cond := some uptoSmall }

/-- 'roadtop.TopGarbage', WHERE WHAT IT READS IS OF BULK AT MOST 1048576: true; the input reads as it did. -/
def topGarbageUptoRow : OpenClaim := { program := "ythgbcgphkddmgaagreat", sum := "93c9f08d2014d270c31f957a54c59c84b60e7345c20218e67d2f2b4a9f7c9107", func := "roadstead/roadtop.TopGarbage", spec := "topGarbage", inPlace := ["slices.overlaps[roadstead/link.Row]", "maps.clone"], unfollowed := true, recurses := true, plainKeys := false, apart := false, narrowed := true }
def TopGarbageUptoSaid : Prop := topGarbageUptoRow.holds Tryz.pinned (OpenSpec.upto topGarbageSpec)

/-- 'roadtop.TopLines', WHERE WHAT IT READS IS OF BULK AT MOST 1048576: true; the input reads as it did. -/
def topLinesUptoRow : OpenClaim := { program := "ythgbcgphkddmgaagreat", sum := "93c9f08d2014d270c31f957a54c59c84b60e7345c20218e67d2f2b4a9f7c9107", func := "roadstead/roadtop.TopLines", spec := "topLines", inPlace := ["slices.overlaps[roadstead/link.Row]", "maps.clone"], unfollowed := true, recurses := true, plainKeys := false, apart := false, narrowed := true }
def TopLinesUptoSaid : Prop := topLinesUptoRow.holds Tryz.pinned (OpenSpec.upto topLinesSpec)

/-- 'roadtop.TopSwaps', WHERE WHAT IT READS IS OF BULK AT MOST 1048576: true; the input reads as it did. -/
def topSwapsUptoRow : OpenClaim := { program := "ythgbcgphkddmgaagreat", sum := "93c9f08d2014d270c31f957a54c59c84b60e7345c20218e67d2f2b4a9f7c9107", func := "roadstead/roadtop.TopSwaps", spec := "topSwaps", inPlace := ["slices.overlaps[roadstead/link.Row]"], unfollowed := true, recurses := true, plainKeys := false, apart := false, narrowed := true }
def TopSwapsUptoSaid : Prop := topSwapsUptoRow.holds Tryz.pinned (OpenSpec.upto topSwapsSpec)

end Rows
end Go.Proofs.YthgbcgphkddmgaaGreat
