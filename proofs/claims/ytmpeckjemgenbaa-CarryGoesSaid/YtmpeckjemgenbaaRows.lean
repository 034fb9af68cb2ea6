/-
  NARROWER THAN 'FOR EVERY INPUT', by the rows' own cells (each row's printed sentence says how): HeapWhole: loops · HeapRight: loops.
  DERIVED. THE GIVEN ROWS OF THIS SEAT. 6 by the template 'for every input the law returns true; each argument reads behind the call as it read before'; 0 by the template 'total and deterministic' (their statements: YtmpeckjemgenbaaTotals.lean).
  GIVEN WITH THE SEED: the statements are not yours to turn. If you find one false, say at which input.
  Laid BY PROGRAM, IN A SANDBOX (cutbox-rows.mjs): the forced cells as the released guide's own fill.sh prints them over the translation 76684685ed8a16ea… (all of the seat's roots in one cut). By AI agents, Wed Nov 11 2026. No macro, syntax, notation, axiom, sorry.
-/
import Derived.Test.YtmpeckjemgenbaaChecked
import GoSem.Claim
import GoSem.ClaimJoined
import GoSem.ClaimMapViews
import Derived.JoinedTies
import Derived.KernelRfl
namespace Go.Proofs.Ytmpeckjemgenbaa
/- THE CELL 'sum', in the pinned program and in every row, IS THE sha256 OF THE DUMP (.gsa) THAT YtmpeckjemgenbaaProg.lean LOADS. Nothing in Lean hashes anything: it is a label: what it is worth is what the hold of that sum in a sandbox is worth. -/
noncomputable def Try.pinned : Pinned := { name := "ytmpeckjemgenbaa", sum := "76684685ed8a16ea54323087febc6b4a10b5184196364b9aec06213dc124ca07", checked := Try.checked }
namespace Rows
def none {H : Type} : Left H := { results := [], args := [] }

/-- 'roadkeep3.HeapAll': WHATEVER THE INPUT: true; the input reads as it did. -/
def heapAllSpec : ChangeSpec := { name := "heapAll", fn := fun _ => fun
  | [d] => { results := [.lit (.bool true)], args := [d] }
  | _ => none }
def heapAllRow : OpenClaim := { program := "ytmpeckjemgenbaa", sum := "76684685ed8a16ea54323087febc6b4a10b5184196364b9aec06213dc124ca07", func := "roadstead/roadkeep3.HeapAll", spec := "heapAll", recurses := true, apart := false }
def HeapAllSaid : Prop := heapAllRow.holds Try.pinned (OpenSpec.ofChange heapAllSpec)

/-- ITS FALSE NEIGHBOUR: 'it returns false'. Refute it at one input. -/
def heapAllWrong : ChangeSpec := { name := "heapAll", fn := fun _ => fun
  | [d] => { results := [.lit (.bool false)], args := [d] }
  | _ => none }
def HeapAllWrongFalsely : Prop := heapAllRow.holds Try.pinned (OpenSpec.ofChange heapAllWrong)

/-- 'roadkeep3.HeapWhole': WHATEVER THE INPUT: true; the input reads as it did. -/
def heapWholeSpec : ChangeSpec := { name := "heapWhole", fn := fun _ => fun
  | [d1, d2, d3] => { results := [.lit (.bool true)], args := [d1, d2, d3] }
  | _ => none }
def heapWholeRow : OpenClaim := { program := "ytmpeckjemgenbaa", sum := "76684685ed8a16ea54323087febc6b4a10b5184196364b9aec06213dc124ca07", func := "roadstead/roadkeep3.HeapWhole", spec := "heapWhole", unfollowed := true, recurses := true, loops := true, apart := false }
def HeapWholeSaid : Prop := heapWholeRow.holds Try.pinned (OpenSpec.ofChange heapWholeSpec)

/-- ITS FALSE NEIGHBOUR: 'it returns false'. Refute it at one input. -/
def heapWholeWrong : ChangeSpec := { name := "heapWhole", fn := fun _ => fun
  | [d1, d2, d3] => { results := [.lit (.bool false)], args := [d1, d2, d3] }
  | _ => none }
def HeapWholeWrongFalsely : Prop := heapWholeRow.holds Try.pinned (OpenSpec.ofChange heapWholeWrong)

/-- 'roadkeep3.HeapRight': WHATEVER THE INPUT: true; the input reads as it did. -/
def heapRightSpec : ChangeSpec := { name := "heapRight", fn := fun _ => fun
  | [d1, d2, d3] => { results := [.lit (.bool true)], args := [d1, d2, d3] }
  | _ => none }
def heapRightRow : OpenClaim := { program := "ytmpeckjemgenbaa", sum := "76684685ed8a16ea54323087febc6b4a10b5184196364b9aec06213dc124ca07", func := "roadstead/roadkeep3.HeapRight", spec := "heapRight", recurses := true, loops := true, apart := false }
def HeapRightSaid : Prop := heapRightRow.holds Try.pinned (OpenSpec.ofChange heapRightSpec)

/-- ITS FALSE NEIGHBOUR: 'it returns false'. Refute it at one input. -/
def heapRightWrong : ChangeSpec := { name := "heapRight", fn := fun _ => fun
  | [d1, d2, d3] => { results := [.lit (.bool false)], args := [d1, d2, d3] }
  | _ => none }
def HeapRightWrongFalsely : Prop := heapRightRow.holds Try.pinned (OpenSpec.ofChange heapRightWrong)

/-- 'roadkeep3.CarryShares': WHATEVER THE INPUT: true; the input reads as it did. -/
def carrySharesSpec : ChangeSpec := { name := "carryShares", fn := fun _ => fun
  | [d1, d2, d3] => { results := [.lit (.bool true)], args := [d1, d2, d3] }
  | _ => none }
def carrySharesRow : OpenClaim := { program := "ytmpeckjemgenbaa", sum := "76684685ed8a16ea54323087febc6b4a10b5184196364b9aec06213dc124ca07", func := "roadstead/roadkeep3.CarryShares", spec := "carryShares", unfollowed := true, recurses := true, apart := false }
def CarrySharesSaid : Prop := carrySharesRow.holds Try.pinned (OpenSpec.ofChange carrySharesSpec)

/-- ITS FALSE NEIGHBOUR: 'it returns false'. Refute it at one input. -/
def carrySharesWrong : ChangeSpec := { name := "carryShares", fn := fun _ => fun
  | [d1, d2, d3] => { results := [.lit (.bool false)], args := [d1, d2, d3] }
  | _ => none }
def CarrySharesWrongFalsely : Prop := carrySharesRow.holds Try.pinned (OpenSpec.ofChange carrySharesWrong)

/-- 'roadkeep3.CarryGoes': WHATEVER THE INPUT: true; the input reads as it did. -/
def carryGoesSpec : ChangeSpec := { name := "carryGoes", fn := fun _ => fun
  | [d1, d2, d3] => { results := [.lit (.bool true)], args := [d1, d2, d3] }
  | _ => none }
def carryGoesRow : OpenClaim := { program := "ytmpeckjemgenbaa", sum := "76684685ed8a16ea54323087febc6b4a10b5184196364b9aec06213dc124ca07", func := "roadstead/roadkeep3.CarryGoes", spec := "carryGoes", unfollowed := true, recurses := true, apart := false }
def CarryGoesSaid : Prop := carryGoesRow.holds Try.pinned (OpenSpec.ofChange carryGoesSpec)

/-- ITS FALSE NEIGHBOUR: 'it returns false'. Refute it at one input. -/
def carryGoesWrong : ChangeSpec := { name := "carryGoes", fn := fun _ => fun
  | [d1, d2, d3] => { results := [.lit (.bool false)], args := [d1, d2, d3] }
  | _ => none }
def CarryGoesWrongFalsely : Prop := carryGoesRow.holds Try.pinned (OpenSpec.ofChange carryGoesWrong)

/-- 'roadkeep3.CarryAlike': WHATEVER THE INPUT: true; the input reads as it did. -/
def carryAlikeSpec : ChangeSpec := { name := "carryAlike", fn := fun _ => fun
  | [d1, d2, d3] => { results := [.lit (.bool true)], args := [d1, d2, d3] }
  | _ => none }
def carryAlikeRow : OpenClaim := { program := "ytmpeckjemgenbaa", sum := "76684685ed8a16ea54323087febc6b4a10b5184196364b9aec06213dc124ca07", func := "roadstead/roadkeep3.CarryAlike", spec := "carryAlike", unfollowed := true, recurses := true, apart := false }
def CarryAlikeSaid : Prop := carryAlikeRow.holds Try.pinned (OpenSpec.ofChange carryAlikeSpec)

/-- ITS FALSE NEIGHBOUR: 'it returns false'. Refute it at one input. -/
def carryAlikeWrong : ChangeSpec := { name := "carryAlike", fn := fun _ => fun
  | [d1, d2, d3] => { results := [.lit (.bool false)], args := [d1, d2, d3] }
  | _ => none }
def CarryAlikeWrongFalsely : Prop := carryAlikeRow.holds Try.pinned (OpenSpec.ofChange carryAlikeWrong)

/- THE SECOND FORM. 'bulk': how many values and letters a reading holds, each counted each time it is reached (what is shared counts as often as it is met; a slice's spare places count too). A statement '..UptoSaid' is the law's where the arguments, and the package variables that the reading takes, are together of bulk at most 1048576: NARROWER than '..Said'. Prove '..Said' where nothing that the law and all that it calls make is longer than what came in: it says more and counts as full. Else prove '..UptoSaid'. A law counts once. -/
mutual
def uptoBulk {H : Type} : DataW H → Nat
  | .lit (.string bytes) => bytes.length + 1
  | .lit _ => 1
  | .nil => 1
  | .ptr d => uptoBulk d + 1
  | .slice elems spare => uptoBulkAll elems + uptoBulkAll spare + 1
  | .agg parts => uptoBulkAll parts + 1
  | .iface _ d => uptoBulk d + 1
  | .map entries => uptoBulkEntries entries + 1
  | .held _ => 1
def uptoBulkAll {H : Type} : List (DataW H) → Nat
  | [] => 0
  | d :: r => uptoBulk d + uptoBulkAll r
def uptoBulkEntries {H : Type} : List (Lit × DataW H) → Nat
  | [] => 0
  | x :: r => uptoBulkEntry x + uptoBulkEntries r
def uptoBulkEntry {H : Type} : Lit × DataW H → Nat
  | (.string bytes, d) => bytes.length + uptoBulk d + 1
  | (_, d) => uptoBulk d + 1
 end
def uptoSmall : (H : Type) → List (DataW H) → Bool := fun _ ds => decide (uptoBulkAll ds ≤ 1048576)
def OpenSpec.upto (s : _root_.Go.ChangeSpec) : _root_.Go.OpenSpec := { _root_.Go.OpenSpec.ofChange s with cond := some uptoSmall }

/-- 'roadkeep3.HeapAll', WHERE WHAT IT READS IS OF BULK AT MOST 1048576: true; the input reads as it did. -/
def heapAllUptoRow : OpenClaim := { program := "ytmpeckjemgenbaa", sum := "76684685ed8a16ea54323087febc6b4a10b5184196364b9aec06213dc124ca07", func := "roadstead/roadkeep3.HeapAll", spec := "heapAll", recurses := true, apart := false, narrowed := true }
def HeapAllUptoSaid : Prop := heapAllUptoRow.holds Try.pinned (OpenSpec.upto heapAllSpec)

/-- 'roadkeep3.HeapWhole', WHERE WHAT IT READS IS OF BULK AT MOST 1048576: true; the input reads as it did. -/
def heapWholeUptoRow : OpenClaim := { program := "ytmpeckjemgenbaa", sum := "76684685ed8a16ea54323087febc6b4a10b5184196364b9aec06213dc124ca07", func := "roadstead/roadkeep3.HeapWhole", spec := "heapWhole", unfollowed := true, recurses := true, loops := true, apart := false, narrowed := true }
def HeapWholeUptoSaid : Prop := heapWholeUptoRow.holds Try.pinned (OpenSpec.upto heapWholeSpec)

/-- 'roadkeep3.HeapRight', WHERE WHAT IT READS IS OF BULK AT MOST 1048576: true; the input reads as it did. -/
def heapRightUptoRow : OpenClaim := { program := "ytmpeckjemgenbaa", sum := "76684685ed8a16ea54323087febc6b4a10b5184196364b9aec06213dc124ca07", func := "roadstead/roadkeep3.HeapRight", spec := "heapRight", recurses := true, loops := true, apart := false, narrowed := true }
def HeapRightUptoSaid : Prop := heapRightUptoRow.holds Try.pinned (OpenSpec.upto heapRightSpec)

/-- 'roadkeep3.CarryShares', WHERE WHAT IT READS IS OF BULK AT MOST 1048576: true; the input reads as it did. -/
def carrySharesUptoRow : OpenClaim := { program := "ytmpeckjemgenbaa", sum := "76684685ed8a16ea54323087febc6b4a10b5184196364b9aec06213dc124ca07", func := "roadstead/roadkeep3.CarryShares", spec := "carryShares", unfollowed := true, recurses := true, apart := false, narrowed := true }
def CarrySharesUptoSaid : Prop := carrySharesUptoRow.holds Try.pinned (OpenSpec.upto carrySharesSpec)

/-- 'roadkeep3.CarryGoes', WHERE WHAT IT READS IS OF BULK AT MOST 1048576: true; the input reads as it did. -/
def carryGoesUptoRow : OpenClaim := { program := "ytmpeckjemgenbaa", sum := "76684685ed8a16ea54323087febc6b4a10b5184196364b9aec06213dc124ca07", func := "roadstead/roadkeep3.CarryGoes", spec := "carryGoes", unfollowed := true, recurses := true, apart := false, narrowed := true }
def CarryGoesUptoSaid : Prop := carryGoesUptoRow.holds Try.pinned (OpenSpec.upto carryGoesSpec)

/-- 'roadkeep3.CarryAlike', WHERE WHAT IT READS IS OF BULK AT MOST 1048576: true; the input reads as it did. -/
def carryAlikeUptoRow : OpenClaim := { program := "ytmpeckjemgenbaa", sum := "76684685ed8a16ea54323087febc6b4a10b5184196364b9aec06213dc124ca07", func := "roadstead/roadkeep3.CarryAlike", spec := "carryAlike", unfollowed := true, recurses := true, apart := false, narrowed := true }
def CarryAlikeUptoSaid : Prop := carryAlikeUptoRow.holds Try.pinned (OpenSpec.upto carryAlikeSpec)

end Rows
end Go.Proofs.Ytmpeckjemgenbaa
