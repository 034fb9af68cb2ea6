/-
  No cell of these rows narrows 'for every input' (looked for: loops, veiled, ifaces, maps, wideKeys, modest, calm, conditions, laid).
  DERIVED. THE GIVEN ROWS OF THIS SEAT. 12 by the template 'for every input the law returns true; each argument reads behind the call as it read before'; 0 by the template 'total and deterministic' (their statements: YtjcegplockihfaaTotals.lean).
  GIVEN WITH THE SEED: the statements are not yours to turn. If you find one false, say at which input.
  Laid BY PROGRAM, IN A SANDBOX (cutbox-rows.mjs): the forced cells as the released guide's own fill.sh prints them over the translation d9fdc649f2c1446b… (all of the seat's roots in one cut). By AI agents, Wed Nov 11 2026. No macro, syntax, notation, axiom, sorry.
-/
import Derived.Test.YtjcegplockihfaaChecked
import GoSem.Claim
import GoSem.ClaimJoined
import GoSem.ClaimMapViews
import Derived.JoinedTies
import Derived.KernelRfl
namespace Go.Proofs.Ytjcegplockihfaa
/- THE CELL 'sum', in the pinned program and in every row, IS THE sha256 OF THE DUMP (.gsa) THAT YtjcegplockihfaaProg.lean LOADS. Nothing in Lean hashes anything: it is a label: what it is worth is what the hold of that sum in a sandbox is worth. -/
noncomputable def Try.pinned : Pinned := { name := "ytjcegplockihfaa", sum := "d9fdc649f2c1446b79e89c790441b122320fd12f2d7cc484a4af425d756bbf1b", checked := Try.checked }
namespace Rows
def none {H : Type} : Left H := { results := [], args := [] }

/-- 'roadkeep3.LimitFull': WHATEVER THE INPUT: true; the input reads as it did. -/
def limitFullSpec : ChangeSpec := { name := "limitFull", fn := fun _ => fun
  | [d1, d2, d3, d4] => { results := [.lit (.bool true)], args := [d1, d2, d3, d4] }
  | _ => none }
def limitFullRow : OpenClaim := { program := "ytjcegplockihfaa", sum := "d9fdc649f2c1446b79e89c790441b122320fd12f2d7cc484a4af425d756bbf1b", func := "roadstead/roadkeep3.LimitFull", spec := "limitFull", unfollowed := true, recurses := true, apart := false }
def LimitFullSaid : Prop := limitFullRow.holds Try.pinned (OpenSpec.ofChange limitFullSpec)

/-- ITS FALSE NEIGHBOUR: 'it returns false'. Refute it at one input. -/
def limitFullWrong : ChangeSpec := { name := "limitFull", fn := fun _ => fun
  | [d1, d2, d3, d4] => { results := [.lit (.bool false)], args := [d1, d2, d3, d4] }
  | _ => none }
def LimitFullWrongFalsely : Prop := limitFullRow.holds Try.pinned (OpenSpec.ofChange limitFullWrong)

/-- 'roadkeep3.LimitSum': WHATEVER THE INPUT: true; the input reads as it did. -/
def limitSumSpec : ChangeSpec := { name := "limitSum", fn := fun _ => fun
  | [d1, d2, d3, d4, d5] => { results := [.lit (.bool true)], args := [d1, d2, d3, d4, d5] }
  | _ => none }
def limitSumRow : OpenClaim := { program := "ytjcegplockihfaa", sum := "d9fdc649f2c1446b79e89c790441b122320fd12f2d7cc484a4af425d756bbf1b", func := "roadstead/roadkeep3.LimitSum", spec := "limitSum", inPlace := ["slices.overlaps[roadstead/limit.Row]"], unfollowed := true, recurses := true, apart := false }
def LimitSumSaid : Prop := limitSumRow.holds Try.pinned (OpenSpec.ofChange limitSumSpec)

/-- ITS FALSE NEIGHBOUR: 'it returns false'. Refute it at one input. -/
def limitSumWrong : ChangeSpec := { name := "limitSum", fn := fun _ => fun
  | [d1, d2, d3, d4, d5] => { results := [.lit (.bool false)], args := [d1, d2, d3, d4, d5] }
  | _ => none }
def LimitSumWrongFalsely : Prop := limitSumRow.holds Try.pinned (OpenSpec.ofChange limitSumWrong)

/-- 'roadkeep3.LimitNever': WHATEVER THE INPUT: true; the input reads as it did. -/
def limitNeverSpec : ChangeSpec := { name := "limitNever", fn := fun _ => fun
  | [d1, d2] => { results := [.lit (.bool true)], args := [d1, d2] }
  | _ => none }
def limitNeverRow : OpenClaim := { program := "ytjcegplockihfaa", sum := "d9fdc649f2c1446b79e89c790441b122320fd12f2d7cc484a4af425d756bbf1b", func := "roadstead/roadkeep3.LimitNever", spec := "limitNever", inPlace := ["slices.overlaps[roadstead/limit.Row]"], unfollowed := true, recurses := true, apart := false }
def LimitNeverSaid : Prop := limitNeverRow.holds Try.pinned (OpenSpec.ofChange limitNeverSpec)

/-- ITS FALSE NEIGHBOUR: 'it returns false'. Refute it at one input. -/
def limitNeverWrong : ChangeSpec := { name := "limitNever", fn := fun _ => fun
  | [d1, d2] => { results := [.lit (.bool false)], args := [d1, d2] }
  | _ => none }
def LimitNeverWrongFalsely : Prop := limitNeverRow.holds Try.pinned (OpenSpec.ofChange limitNeverWrong)

/-- 'roadkeep3.LimitTurns': WHATEVER THE INPUT: true; the input reads as it did. -/
def limitTurnsSpec : ChangeSpec := { name := "limitTurns", fn := fun _ => fun
  | [d1, d2, d3, d4, d5] => { results := [.lit (.bool true)], args := [d1, d2, d3, d4, d5] }
  | _ => none }
def limitTurnsRow : OpenClaim := { program := "ytjcegplockihfaa", sum := "d9fdc649f2c1446b79e89c790441b122320fd12f2d7cc484a4af425d756bbf1b", func := "roadstead/roadkeep3.LimitTurns", spec := "limitTurns", inPlace := ["slices.overlaps[roadstead/limit.Row]"], unfollowed := true, recurses := true, apart := false }
def LimitTurnsSaid : Prop := limitTurnsRow.holds Try.pinned (OpenSpec.ofChange limitTurnsSpec)

/-- ITS FALSE NEIGHBOUR: 'it returns false'. Refute it at one input. -/
def limitTurnsWrong : ChangeSpec := { name := "limitTurns", fn := fun _ => fun
  | [d1, d2, d3, d4, d5] => { results := [.lit (.bool false)], args := [d1, d2, d3, d4, d5] }
  | _ => none }
def LimitTurnsWrongFalsely : Prop := limitTurnsRow.holds Try.pinned (OpenSpec.ofChange limitTurnsWrong)

/-- 'roadkeep3.TurnDone': WHATEVER THE INPUT: true; the input reads as it did. -/
def turnDoneSpec : ChangeSpec := { name := "turnDone", fn := fun _ => fun
  | [d1, d2] => { results := [.lit (.bool true)], args := [d1, d2] }
  | _ => none }
def turnDoneRow : OpenClaim := { program := "ytjcegplockihfaa", sum := "d9fdc649f2c1446b79e89c790441b122320fd12f2d7cc484a4af425d756bbf1b", func := "roadstead/roadkeep3.TurnDone", spec := "turnDone", unfollowed := true, recurses := true, apart := false }
def TurnDoneSaid : Prop := turnDoneRow.holds Try.pinned (OpenSpec.ofChange turnDoneSpec)

/-- ITS FALSE NEIGHBOUR: 'it returns false'. Refute it at one input. -/
def turnDoneWrong : ChangeSpec := { name := "turnDone", fn := fun _ => fun
  | [d1, d2] => { results := [.lit (.bool false)], args := [d1, d2] }
  | _ => none }
def TurnDoneWrongFalsely : Prop := turnDoneRow.holds Try.pinned (OpenSpec.ofChange turnDoneWrong)

/-- 'roadkeep3.TurnLag': WHATEVER THE INPUT: true; the input reads as it did. -/
def turnLagSpec : ChangeSpec := { name := "turnLag", fn := fun _ => fun
  | [d1, d2] => { results := [.lit (.bool true)], args := [d1, d2] }
  | _ => none }
def turnLagRow : OpenClaim := { program := "ytjcegplockihfaa", sum := "d9fdc649f2c1446b79e89c790441b122320fd12f2d7cc484a4af425d756bbf1b", func := "roadstead/roadkeep3.TurnLag", spec := "turnLag", unfollowed := true, recurses := true, apart := false }
def TurnLagSaid : Prop := turnLagRow.holds Try.pinned (OpenSpec.ofChange turnLagSpec)

/-- ITS FALSE NEIGHBOUR: 'it returns false'. Refute it at one input. -/
def turnLagWrong : ChangeSpec := { name := "turnLag", fn := fun _ => fun
  | [d1, d2] => { results := [.lit (.bool false)], args := [d1, d2] }
  | _ => none }
def TurnLagWrongFalsely : Prop := turnLagRow.holds Try.pinned (OpenSpec.ofChange turnLagWrong)

/-- 'roadkeep3.TurnFair': WHATEVER THE INPUT: true; the input reads as it did. -/
def turnFairSpec : ChangeSpec := { name := "turnFair", fn := fun _ => fun
  | [d1, d2] => { results := [.lit (.bool true)], args := [d1, d2] }
  | _ => none }
def turnFairRow : OpenClaim := { program := "ytjcegplockihfaa", sum := "d9fdc649f2c1446b79e89c790441b122320fd12f2d7cc484a4af425d756bbf1b", func := "roadstead/roadkeep3.TurnFair", spec := "turnFair", recurses := true, apart := false }
def TurnFairSaid : Prop := turnFairRow.holds Try.pinned (OpenSpec.ofChange turnFairSpec)

/-- ITS FALSE NEIGHBOUR: 'it returns false'. Refute it at one input. -/
def turnFairWrong : ChangeSpec := { name := "turnFair", fn := fun _ => fun
  | [d1, d2] => { results := [.lit (.bool false)], args := [d1, d2] }
  | _ => none }
def TurnFairWrongFalsely : Prop := turnFairRow.holds Try.pinned (OpenSpec.ofChange turnFairWrong)

/-- 'roadkeep3.TurnWaits': WHATEVER THE INPUT: true; the input reads as it did. -/
def turnWaitsSpec : ChangeSpec := { name := "turnWaits", fn := fun _ => fun
  | [d1, d2, d3] => { results := [.lit (.bool true)], args := [d1, d2, d3] }
  | _ => none }
def turnWaitsRow : OpenClaim := { program := "ytjcegplockihfaa", sum := "d9fdc649f2c1446b79e89c790441b122320fd12f2d7cc484a4af425d756bbf1b", func := "roadstead/roadkeep3.TurnWaits", spec := "turnWaits", recurses := true, apart := false }
def TurnWaitsSaid : Prop := turnWaitsRow.holds Try.pinned (OpenSpec.ofChange turnWaitsSpec)

/-- ITS FALSE NEIGHBOUR: 'it returns false'. Refute it at one input. -/
def turnWaitsWrong : ChangeSpec := { name := "turnWaits", fn := fun _ => fun
  | [d1, d2, d3] => { results := [.lit (.bool false)], args := [d1, d2, d3] }
  | _ => none }
def TurnWaitsWrongFalsely : Prop := turnWaitsRow.holds Try.pinned (OpenSpec.ofChange turnWaitsWrong)

/-- 'roadkeep3.StealOwn': WHATEVER THE INPUT: true; the input reads as it did. -/
def stealOwnSpec : ChangeSpec := { name := "stealOwn", fn := fun _ => fun
  | [d1, d2, d3] => { results := [.lit (.bool true)], args := [d1, d2, d3] }
  | _ => none }
def stealOwnRow : OpenClaim := { program := "ytjcegplockihfaa", sum := "d9fdc649f2c1446b79e89c790441b122320fd12f2d7cc484a4af425d756bbf1b", func := "roadstead/roadkeep3.StealOwn", spec := "stealOwn", apart := false }
def StealOwnSaid : Prop := stealOwnRow.holds Try.pinned (OpenSpec.ofChange stealOwnSpec)

/-- ITS FALSE NEIGHBOUR: 'it returns false'. Refute it at one input. -/
def stealOwnWrong : ChangeSpec := { name := "stealOwn", fn := fun _ => fun
  | [d1, d2, d3] => { results := [.lit (.bool false)], args := [d1, d2, d3] }
  | _ => none }
def StealOwnWrongFalsely : Prop := stealOwnRow.holds Try.pinned (OpenSpec.ofChange stealOwnWrong)

/-- 'roadkeep3.StealHalf': WHATEVER THE INPUT: true; the input reads as it did. -/
def stealHalfSpec : ChangeSpec := { name := "stealHalf", fn := fun _ => fun
  | [d1, d2] => { results := [.lit (.bool true)], args := [d1, d2] }
  | _ => none }
def stealHalfRow : OpenClaim := { program := "ytjcegplockihfaa", sum := "d9fdc649f2c1446b79e89c790441b122320fd12f2d7cc484a4af425d756bbf1b", func := "roadstead/roadkeep3.StealHalf", spec := "stealHalf", apart := false }
def StealHalfSaid : Prop := stealHalfRow.holds Try.pinned (OpenSpec.ofChange stealHalfSpec)

/-- ITS FALSE NEIGHBOUR: 'it returns false'. Refute it at one input. -/
def stealHalfWrong : ChangeSpec := { name := "stealHalf", fn := fun _ => fun
  | [d1, d2] => { results := [.lit (.bool false)], args := [d1, d2] }
  | _ => none }
def StealHalfWrongFalsely : Prop := stealHalfRow.holds Try.pinned (OpenSpec.ofChange stealHalfWrong)

/-- 'roadkeep3.StealBusy': WHATEVER THE INPUT: true; the input reads as it did. -/
def stealBusySpec : ChangeSpec := { name := "stealBusy", fn := fun _ => fun
  | [d1, d2] => { results := [.lit (.bool true)], args := [d1, d2] }
  | _ => none }
def stealBusyRow : OpenClaim := { program := "ytjcegplockihfaa", sum := "d9fdc649f2c1446b79e89c790441b122320fd12f2d7cc484a4af425d756bbf1b", func := "roadstead/roadkeep3.StealBusy", spec := "stealBusy", apart := false }
def StealBusySaid : Prop := stealBusyRow.holds Try.pinned (OpenSpec.ofChange stealBusySpec)

/-- ITS FALSE NEIGHBOUR: 'it returns false'. Refute it at one input. -/
def stealBusyWrong : ChangeSpec := { name := "stealBusy", fn := fun _ => fun
  | [d1, d2] => { results := [.lit (.bool false)], args := [d1, d2] }
  | _ => none }
def StealBusyWrongFalsely : Prop := stealBusyRow.holds Try.pinned (OpenSpec.ofChange stealBusyWrong)

/-- 'roadkeep3.StealOnce': WHATEVER THE INPUT: true; the input reads as it did. -/
def stealOnceSpec : ChangeSpec := { name := "stealOnce", fn := fun _ => fun
  | [d1, d2] => { results := [.lit (.bool true)], args := [d1, d2] }
  | _ => none }
def stealOnceRow : OpenClaim := { program := "ytjcegplockihfaa", sum := "d9fdc649f2c1446b79e89c790441b122320fd12f2d7cc484a4af425d756bbf1b", func := "roadstead/roadkeep3.StealOnce", spec := "stealOnce", recurses := true, apart := false }
def StealOnceSaid : Prop := stealOnceRow.holds Try.pinned (OpenSpec.ofChange stealOnceSpec)

/-- ITS FALSE NEIGHBOUR: 'it returns false'. Refute it at one input. -/
def stealOnceWrong : ChangeSpec := { name := "stealOnce", fn := fun _ => fun
  | [d1, d2] => { results := [.lit (.bool false)], args := [d1, d2] }
  | _ => none }
def StealOnceWrongFalsely : Prop := stealOnceRow.holds Try.pinned (OpenSpec.ofChange stealOnceWrong)

/- THE SECOND FORM. 'bulk': how many values and letters a reading holds, each counted each time it is reached (what is shared counts as often as it is met; a slice's spare places count too). A statement '..UptoSaid' is the law's where the arguments, and the package variables that the reading takes, are together of bulk at most 1048576: NARROWER than '..Said'. Prove '..Said' where nothing that the law and all that it calls make is longer than what came in: it says more and counts as full. Else prove '..UptoSaid'. A law counts once. -/
mutual
def uptoBulk {H : Type} : DataW H → Nat
  | .lit (.string bytes) => bytes.length + 1
  | .lit _ => 1
  | .nil => 1
  | .ptr d => uptoBulk d + 1
  | .slice elems spare => uptoBulkAll elems + uptoBulkAll spare + 1
  | .agg parts => uptoBulkAll parts + 1
  | .iface _ d => uptoBulk d + 1
  | .map entries => uptoBulkEntries entries + 1
  | .held _ => 1
def uptoBulkAll {H : Type} : List (DataW H) → Nat
  | [] => 0
  | d :: r => uptoBulk d + uptoBulkAll r
def uptoBulkEntries {H : Type} : List (Lit × DataW H) → Nat
  | [] => 0
  | x :: r => uptoBulkEntry x + uptoBulkEntries r
def uptoBulkEntry {H : Type} : Lit × DataW H → Nat
  | (.string bytes, d) => bytes.length + uptoBulk d + 1
  | (_, d) => uptoBulk d + 1
 end
def uptoSmall : (H : Type) → List (DataW H) → Bool := fun _ ds => decide (uptoBulkAll ds ≤ 1048576)
def OpenSpec.upto (s : _root_.Go.ChangeSpec) : _root_.Go.OpenSpec := { _root_.Go.OpenSpec.ofChange s with cond := some uptoSmall }

/-- 'roadkeep3.LimitFull', WHERE WHAT IT READS IS OF BULK AT MOST 1048576: true; the input reads as it did. -/
def limitFullUptoRow : OpenClaim := { program := "ytjcegplockihfaa", sum := "d9fdc649f2c1446b79e89c790441b122320fd12f2d7cc484a4af425d756bbf1b", func := "roadstead/roadkeep3.LimitFull", spec := "limitFull", unfollowed := true, recurses := true, apart := false, narrowed := true }
def LimitFullUptoSaid : Prop := limitFullUptoRow.holds Try.pinned (OpenSpec.upto limitFullSpec)

/-- 'roadkeep3.LimitSum', WHERE WHAT IT READS IS OF BULK AT MOST 1048576: true; the input reads as it did. -/
def limitSumUptoRow : OpenClaim := { program := "ytjcegplockihfaa", sum := "d9fdc649f2c1446b79e89c790441b122320fd12f2d7cc484a4af425d756bbf1b", func := "roadstead/roadkeep3.LimitSum", spec := "limitSum", inPlace := ["slices.overlaps[roadstead/limit.Row]"], unfollowed := true, recurses := true, apart := false, narrowed := true }
def LimitSumUptoSaid : Prop := limitSumUptoRow.holds Try.pinned (OpenSpec.upto limitSumSpec)

/-- 'roadkeep3.LimitNever', WHERE WHAT IT READS IS OF BULK AT MOST 1048576: true; the input reads as it did. -/
def limitNeverUptoRow : OpenClaim := { program := "ytjcegplockihfaa", sum := "d9fdc649f2c1446b79e89c790441b122320fd12f2d7cc484a4af425d756bbf1b", func := "roadstead/roadkeep3.LimitNever", spec := "limitNever", inPlace := ["slices.overlaps[roadstead/limit.Row]"], unfollowed := true, recurses := true, apart := false, narrowed := true }
def LimitNeverUptoSaid : Prop := limitNeverUptoRow.holds Try.pinned (OpenSpec.upto limitNeverSpec)

/-- 'roadkeep3.LimitTurns', WHERE WHAT IT READS IS OF BULK AT MOST 1048576: true; the input reads as it did. -/
def limitTurnsUptoRow : OpenClaim := { program := "ytjcegplockihfaa", sum := "d9fdc649f2c1446b79e89c790441b122320fd12f2d7cc484a4af425d756bbf1b", func := "roadstead/roadkeep3.LimitTurns", spec := "limitTurns", inPlace := ["slices.overlaps[roadstead/limit.Row]"], unfollowed := true, recurses := true, apart := false, narrowed := true }
def LimitTurnsUptoSaid : Prop := limitTurnsUptoRow.holds Try.pinned (OpenSpec.upto limitTurnsSpec)

/-- 'roadkeep3.TurnDone', WHERE WHAT IT READS IS OF BULK AT MOST 1048576: true; the input reads as it did. -/
def turnDoneUptoRow : OpenClaim := { program := "ytjcegplockihfaa", sum := "d9fdc649f2c1446b79e89c790441b122320fd12f2d7cc484a4af425d756bbf1b", func := "roadstead/roadkeep3.TurnDone", spec := "turnDone", unfollowed := true, recurses := true, apart := false, narrowed := true }
def TurnDoneUptoSaid : Prop := turnDoneUptoRow.holds Try.pinned (OpenSpec.upto turnDoneSpec)

/-- 'roadkeep3.TurnLag', WHERE WHAT IT READS IS OF BULK AT MOST 1048576: true; the input reads as it did. -/
def turnLagUptoRow : OpenClaim := { program := "ytjcegplockihfaa", sum := "d9fdc649f2c1446b79e89c790441b122320fd12f2d7cc484a4af425d756bbf1b", func := "roadstead/roadkeep3.TurnLag", spec := "turnLag", unfollowed := true, recurses := true, apart := false, narrowed := true }
def TurnLagUptoSaid : Prop := turnLagUptoRow.holds Try.pinned (OpenSpec.upto turnLagSpec)

/-- 'roadkeep3.TurnFair', WHERE WHAT IT READS IS OF BULK AT MOST 1048576: true; the input reads as it did. -/
def turnFairUptoRow : OpenClaim := { program := "ytjcegplockihfaa", sum := "d9fdc649f2c1446b79e89c790441b122320fd12f2d7cc484a4af425d756bbf1b", func := "roadstead/roadkeep3.TurnFair", spec := "turnFair", recurses := true, apart := false, narrowed := true }
def TurnFairUptoSaid : Prop := turnFairUptoRow.holds Try.pinned (OpenSpec.upto turnFairSpec)

/-- 'roadkeep3.TurnWaits', WHERE WHAT IT READS IS OF BULK AT MOST 1048576: true; the input reads as it did. -/
def turnWaitsUptoRow : OpenClaim := { program := "ytjcegplockihfaa", sum := "d9fdc649f2c1446b79e89c790441b122320fd12f2d7cc484a4af425d756bbf1b", func := "roadstead/roadkeep3.TurnWaits", spec := "turnWaits", recurses := true, apart := false, narrowed := true }
def TurnWaitsUptoSaid : Prop := turnWaitsUptoRow.holds Try.pinned (OpenSpec.upto turnWaitsSpec)

/-- 'roadkeep3.StealOwn', WHERE WHAT IT READS IS OF BULK AT MOST 1048576: true; the input reads as it did. -/
def stealOwnUptoRow : OpenClaim := { program := "ytjcegplockihfaa", sum := "d9fdc649f2c1446b79e89c790441b122320fd12f2d7cc484a4af425d756bbf1b", func := "roadstead/roadkeep3.StealOwn", spec := "stealOwn", apart := false, narrowed := true }
def StealOwnUptoSaid : Prop := stealOwnUptoRow.holds Try.pinned (OpenSpec.upto stealOwnSpec)

/-- 'roadkeep3.StealHalf', WHERE WHAT IT READS IS OF BULK AT MOST 1048576: true; the input reads as it did. -/
def stealHalfUptoRow : OpenClaim := { program := "ytjcegplockihfaa", sum := "d9fdc649f2c1446b79e89c790441b122320fd12f2d7cc484a4af425d756bbf1b", func := "roadstead/roadkeep3.StealHalf", spec := "stealHalf", apart := false, narrowed := true }
def StealHalfUptoSaid : Prop := stealHalfUptoRow.holds Try.pinned (OpenSpec.upto stealHalfSpec)

/-- 'roadkeep3.StealBusy', WHERE WHAT IT READS IS OF BULK AT MOST 1048576: true; the input reads as it did. -/
def stealBusyUptoRow : OpenClaim := { program := "ytjcegplockihfaa", sum := "d9fdc649f2c1446b79e89c790441b122320fd12f2d7cc484a4af425d756bbf1b", func := "roadstead/roadkeep3.StealBusy", spec := "stealBusy", apart := false, narrowed := true }
def StealBusyUptoSaid : Prop := stealBusyUptoRow.holds Try.pinned (OpenSpec.upto stealBusySpec)

/-- 'roadkeep3.StealOnce', WHERE WHAT IT READS IS OF BULK AT MOST 1048576: true; the input reads as it did. -/
def stealOnceUptoRow : OpenClaim := { program := "ytjcegplockihfaa", sum := "d9fdc649f2c1446b79e89c790441b122320fd12f2d7cc484a4af425d756bbf1b", func := "roadstead/roadkeep3.StealOnce", spec := "stealOnce", recurses := true, apart := false, narrowed := true }
def StealOnceUptoSaid : Prop := stealOnceUptoRow.holds Try.pinned (OpenSpec.upto stealOnceSpec)

end Rows
end Go.Proofs.Ytjcegplockihfaa
