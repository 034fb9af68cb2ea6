/-
  NARROWER THAN 'FOR EVERY INPUT', by the rows' own cells (each row's printed sentence says how): YoungRight: loops · YoungTwice: loops · YoungDies: loops · YoungKeeps: loops.
  DERIVED. THE GIVEN ROWS OF THIS SEAT. 6 by the template 'for every input the law returns true; each argument reads behind the call as it read before'; 0 by the template 'total and deterministic' (their statements: YtkdbnkkdohkhjaaTotals.lean).
  GIVEN WITH THE SEED: the statements are not yours to turn. If you find one false, say at which input.
  Laid BY PROGRAM, IN A SANDBOX (cutbox-rows.mjs): the forced cells as the released guide's own fill.sh prints them over the translation 8450f79851789376… (all of the seat's roots in one cut). By AI agents, Wed Nov 11 2026. No macro, syntax, notation, axiom, sorry.
-/
import Derived.Test.YtkdbnkkdohkhjaaChecked
import GoSem.Claim
import GoSem.ClaimJoined
import GoSem.ClaimMapViews
import Derived.JoinedTies
import Derived.KernelRfl
namespace Go.Proofs.Ytkdbnkkdohkhjaa
/- THE CELL 'sum', in the pinned program and in every row, IS THE sha256 OF THE DUMP (.gsa) THAT YtkdbnkkdohkhjaaProg.lean LOADS. Nothing in Lean hashes anything: it is a label: what it is worth is what the hold of that sum in a sandbox is worth. -/
noncomputable def Try.pinned : Pinned := { name := "ytkdbnkkdohkhjaa", sum := "8450f7985178937653a08c72b3c5baea449a101511b3fbb682f9076e497b17b5", checked := Try.checked }
namespace Rows
def none {H : Type} : Left H := { results := [], args := [] }

/-- 'roadkeep3.YoungSets': WHATEVER THE INPUT: true; the input reads as it did. -/
def youngSetsSpec : ChangeSpec := { name := "youngSets", fn := fun _ => fun
  | [d1, d2, d3, d4] => { results := [.lit (.bool true)], args := [d1, d2, d3, d4] }
  | _ => none }
def youngSetsRow : OpenClaim := { program := "ytkdbnkkdohkhjaa", sum := "8450f7985178937653a08c72b3c5baea449a101511b3fbb682f9076e497b17b5", func := "roadstead/roadkeep3.YoungSets", spec := "youngSets", unfollowed := true, recurses := true, apart := false }
def YoungSetsSaid : Prop := youngSetsRow.holds Try.pinned (OpenSpec.ofChange youngSetsSpec)

/-- ITS FALSE NEIGHBOUR: 'it returns false'. Refute it at one input. -/
def youngSetsWrong : ChangeSpec := { name := "youngSets", fn := fun _ => fun
  | [d1, d2, d3, d4] => { results := [.lit (.bool false)], args := [d1, d2, d3, d4] }
  | _ => none }
def YoungSetsWrongFalsely : Prop := youngSetsRow.holds Try.pinned (OpenSpec.ofChange youngSetsWrong)

/-- 'roadkeep3.YoungRight': WHATEVER THE INPUT: true; the input reads as it did. -/
def youngRightSpec : ChangeSpec := { name := "youngRight", fn := fun _ => fun
  | [d1, d2, d3] => { results := [.lit (.bool true)], args := [d1, d2, d3] }
  | _ => none }
def youngRightRow : OpenClaim := { program := "ytkdbnkkdohkhjaa", sum := "8450f7985178937653a08c72b3c5baea449a101511b3fbb682f9076e497b17b5", func := "roadstead/roadkeep3.YoungRight", spec := "youngRight", unfollowed := true, recurses := true, loops := true, apart := false }
def YoungRightSaid : Prop := youngRightRow.holds Try.pinned (OpenSpec.ofChange youngRightSpec)

/-- ITS FALSE NEIGHBOUR: 'it returns false'. Refute it at one input. -/
def youngRightWrong : ChangeSpec := { name := "youngRight", fn := fun _ => fun
  | [d1, d2, d3] => { results := [.lit (.bool false)], args := [d1, d2, d3] }
  | _ => none }
def YoungRightWrongFalsely : Prop := youngRightRow.holds Try.pinned (OpenSpec.ofChange youngRightWrong)

/-- 'roadkeep3.YoungTwice': WHATEVER THE INPUT: true; the input reads as it did. -/
def youngTwiceSpec : ChangeSpec := { name := "youngTwice", fn := fun _ => fun
  | [d1, d2, d3] => { results := [.lit (.bool true)], args := [d1, d2, d3] }
  | _ => none }
def youngTwiceRow : OpenClaim := { program := "ytkdbnkkdohkhjaa", sum := "8450f7985178937653a08c72b3c5baea449a101511b3fbb682f9076e497b17b5", func := "roadstead/roadkeep3.YoungTwice", spec := "youngTwice", unfollowed := true, recurses := true, loops := true, apart := false }
def YoungTwiceSaid : Prop := youngTwiceRow.holds Try.pinned (OpenSpec.ofChange youngTwiceSpec)

/-- ITS FALSE NEIGHBOUR: 'it returns false'. Refute it at one input. -/
def youngTwiceWrong : ChangeSpec := { name := "youngTwice", fn := fun _ => fun
  | [d1, d2, d3] => { results := [.lit (.bool false)], args := [d1, d2, d3] }
  | _ => none }
def YoungTwiceWrongFalsely : Prop := youngTwiceRow.holds Try.pinned (OpenSpec.ofChange youngTwiceWrong)

/-- 'roadkeep3.YoungDies': WHATEVER THE INPUT: true; the input reads as it did. -/
def youngDiesSpec : ChangeSpec := { name := "youngDies", fn := fun _ => fun
  | [d1, d2, d3] => { results := [.lit (.bool true)], args := [d1, d2, d3] }
  | _ => none }
def youngDiesRow : OpenClaim := { program := "ytkdbnkkdohkhjaa", sum := "8450f7985178937653a08c72b3c5baea449a101511b3fbb682f9076e497b17b5", func := "roadstead/roadkeep3.YoungDies", spec := "youngDies", unfollowed := true, recurses := true, loops := true, apart := false }
def YoungDiesSaid : Prop := youngDiesRow.holds Try.pinned (OpenSpec.ofChange youngDiesSpec)

/-- ITS FALSE NEIGHBOUR: 'it returns false'. Refute it at one input. -/
def youngDiesWrong : ChangeSpec := { name := "youngDies", fn := fun _ => fun
  | [d1, d2, d3] => { results := [.lit (.bool false)], args := [d1, d2, d3] }
  | _ => none }
def YoungDiesWrongFalsely : Prop := youngDiesRow.holds Try.pinned (OpenSpec.ofChange youngDiesWrong)

/-- 'roadkeep3.YoungKeeps': WHATEVER THE INPUT: true; the input reads as it did. -/
def youngKeepsSpec : ChangeSpec := { name := "youngKeeps", fn := fun _ => fun
  | [d1, d2, d3] => { results := [.lit (.bool true)], args := [d1, d2, d3] }
  | _ => none }
def youngKeepsRow : OpenClaim := { program := "ytkdbnkkdohkhjaa", sum := "8450f7985178937653a08c72b3c5baea449a101511b3fbb682f9076e497b17b5", func := "roadstead/roadkeep3.YoungKeeps", spec := "youngKeeps", unfollowed := true, recurses := true, loops := true, apart := false }
def YoungKeepsSaid : Prop := youngKeepsRow.holds Try.pinned (OpenSpec.ofChange youngKeepsSpec)

/-- ITS FALSE NEIGHBOUR: 'it returns false'. Refute it at one input. -/
def youngKeepsWrong : ChangeSpec := { name := "youngKeeps", fn := fun _ => fun
  | [d1, d2, d3] => { results := [.lit (.bool false)], args := [d1, d2, d3] }
  | _ => none }
def YoungKeepsWrongFalsely : Prop := youngKeepsRow.holds Try.pinned (OpenSpec.ofChange youngKeepsWrong)

/-- 'roadkeep3.HeapOwn': WHATEVER THE INPUT: true; the input reads as it did. -/
def heapOwnSpec : ChangeSpec := { name := "heapOwn", fn := fun _ => fun
  | [d1, d2, d3, d4, d5, d6, d7] => { results := [.lit (.bool true)], args := [d1, d2, d3, d4, d5, d6, d7] }
  | _ => none }
def heapOwnRow : OpenClaim := { program := "ytkdbnkkdohkhjaa", sum := "8450f7985178937653a08c72b3c5baea449a101511b3fbb682f9076e497b17b5", func := "roadstead/roadkeep3.HeapOwn", spec := "heapOwn", unfollowed := true, recurses := true, apart := false }
def HeapOwnSaid : Prop := heapOwnRow.holds Try.pinned (OpenSpec.ofChange heapOwnSpec)

/-- ITS FALSE NEIGHBOUR: 'it returns false'. Refute it at one input. -/
def heapOwnWrong : ChangeSpec := { name := "heapOwn", fn := fun _ => fun
  | [d1, d2, d3, d4, d5, d6, d7] => { results := [.lit (.bool false)], args := [d1, d2, d3, d4, d5, d6, d7] }
  | _ => none }
def HeapOwnWrongFalsely : Prop := heapOwnRow.holds Try.pinned (OpenSpec.ofChange heapOwnWrong)

/- THE SECOND FORM. 'bulk': how many values and letters a reading holds, each counted each time it is reached (what is shared counts as often as it is met; a slice's spare places count too). A statement '..UptoSaid' is the law's where the arguments, and the package variables that the reading takes, are together of bulk at most 1048576: NARROWER than '..Said'. Prove '..Said' where nothing that the law and all that it calls make is longer than what came in: it says more and counts as full. Else prove '..UptoSaid'. A law counts once. -/
mutual
def uptoBulk {H : Type} : DataW H → Nat
  | .lit (.string bytes) => bytes.length + 1
  | .lit _ => 1
  | .nil => 1
  | .ptr d => uptoBulk d + 1
  | .slice elems spare => uptoBulkAll elems + uptoBulkAll spare + 1
  | .agg parts => uptoBulkAll parts + 1
  | .iface _ d => uptoBulk d + 1
  | .map entries => uptoBulkEntries entries + 1
  | .held _ => 1
def uptoBulkAll {H : Type} : List (DataW H) → Nat
  | [] => 0
  | d :: r => uptoBulk d + uptoBulkAll r
def uptoBulkEntries {H : Type} : List (Lit × DataW H) → Nat
  | [] => 0
  | x :: r => uptoBulkEntry x + uptoBulkEntries r
def uptoBulkEntry {H : Type} : Lit × DataW H → Nat
  | (.string bytes, d) => bytes.length + uptoBulk d + 1
  | (_, d) => uptoBulk d + 1
 end
def uptoSmall : (H : Type) → List (DataW H) → Bool := fun _ ds => decide (uptoBulkAll ds ≤ 1048576)
def OpenSpec.upto (s : _root_.Go.ChangeSpec) : _root_.Go.OpenSpec := { _root_.Go.OpenSpec.ofChange s with cond := some uptoSmall }

/-- 'roadkeep3.YoungSets', WHERE WHAT IT READS IS OF BULK AT MOST 1048576: true; the input reads as it did. -/
def youngSetsUptoRow : OpenClaim := { program := "ytkdbnkkdohkhjaa", sum := "8450f7985178937653a08c72b3c5baea449a101511b3fbb682f9076e497b17b5", func := "roadstead/roadkeep3.YoungSets", spec := "youngSets", unfollowed := true, recurses := true, apart := false, narrowed := true }
def YoungSetsUptoSaid : Prop := youngSetsUptoRow.holds Try.pinned (OpenSpec.upto youngSetsSpec)

/-- 'roadkeep3.YoungRight', WHERE WHAT IT READS IS OF BULK AT MOST 1048576: true; the input reads as it did. -/
def youngRightUptoRow : OpenClaim := { program := "ytkdbnkkdohkhjaa", sum := "8450f7985178937653a08c72b3c5baea449a101511b3fbb682f9076e497b17b5", func := "roadstead/roadkeep3.YoungRight", spec := "youngRight", unfollowed := true, recurses := true, loops := true, apart := false, narrowed := true }
def YoungRightUptoSaid : Prop := youngRightUptoRow.holds Try.pinned (OpenSpec.upto youngRightSpec)

/-- 'roadkeep3.YoungTwice', WHERE WHAT IT READS IS OF BULK AT MOST 1048576: true; the input reads as it did. -/
def youngTwiceUptoRow : OpenClaim := { program := "ytkdbnkkdohkhjaa", sum := "8450f7985178937653a08c72b3c5baea449a101511b3fbb682f9076e497b17b5", func := "roadstead/roadkeep3.YoungTwice", spec := "youngTwice", unfollowed := true, recurses := true, loops := true, apart := false, narrowed := true }
def YoungTwiceUptoSaid : Prop := youngTwiceUptoRow.holds Try.pinned (OpenSpec.upto youngTwiceSpec)

/-- 'roadkeep3.YoungDies', WHERE WHAT IT READS IS OF BULK AT MOST 1048576: true; the input reads as it did. -/
def youngDiesUptoRow : OpenClaim := { program := "ytkdbnkkdohkhjaa", sum := "8450f7985178937653a08c72b3c5baea449a101511b3fbb682f9076e497b17b5", func := "roadstead/roadkeep3.YoungDies", spec := "youngDies", unfollowed := true, recurses := true, loops := true, apart := false, narrowed := true }
def YoungDiesUptoSaid : Prop := youngDiesUptoRow.holds Try.pinned (OpenSpec.upto youngDiesSpec)

/-- 'roadkeep3.YoungKeeps', WHERE WHAT IT READS IS OF BULK AT MOST 1048576: true; the input reads as it did. -/
def youngKeepsUptoRow : OpenClaim := { program := "ytkdbnkkdohkhjaa", sum := "8450f7985178937653a08c72b3c5baea449a101511b3fbb682f9076e497b17b5", func := "roadstead/roadkeep3.YoungKeeps", spec := "youngKeeps", unfollowed := true, recurses := true, loops := true, apart := false, narrowed := true }
def YoungKeepsUptoSaid : Prop := youngKeepsUptoRow.holds Try.pinned (OpenSpec.upto youngKeepsSpec)

/-- 'roadkeep3.HeapOwn', WHERE WHAT IT READS IS OF BULK AT MOST 1048576: true; the input reads as it did. -/
def heapOwnUptoRow : OpenClaim := { program := "ytkdbnkkdohkhjaa", sum := "8450f7985178937653a08c72b3c5baea449a101511b3fbb682f9076e497b17b5", func := "roadstead/roadkeep3.HeapOwn", spec := "heapOwn", unfollowed := true, recurses := true, apart := false, narrowed := true }
def HeapOwnUptoSaid : Prop := heapOwnUptoRow.holds Try.pinned (OpenSpec.upto heapOwnSpec)

end Rows
end Go.Proofs.Ytkdbnkkdohkhjaa
