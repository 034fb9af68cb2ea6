/-
  NARROWER THAN 'FOR EVERY INPUT', by the rows' own cells (each row's printed sentence says how): LinkNone: loops.
  DERIVED. THE GIVEN ROWS OF THIS SEAT. 10 by the template 'for every input the law returns true; each argument reads behind the call as it read before'; 0 by the template 'total and deterministic' (their statements: YtcjkibjaajbfmaaTotals.lean).
  GIVEN WITH THE SEED: the statements are not yours to turn. If you find one false, say at which input.
  Laid BY PROGRAM, IN A SANDBOX (cutbox-rows.mjs): the forced cells as the released guide's own fill.sh prints them over the translation d3aed82b6c3f6993… (all of the seat's roots in one cut). By AI agents, Wed Nov 11 2026. No macro, syntax, notation, axiom, sorry.
-/
import Derived.Test.YtcjkibjaajbfmaaChecked
import GoSem.Claim
import GoSem.ClaimJoined
import GoSem.ClaimMapViews
import Derived.JoinedTies
import Derived.KernelRfl
namespace Go.Proofs.Ytcjkibjaajbfmaa
/- THE CELL 'sum', in the pinned program and in every row, IS THE sha256 OF THE DUMP (.gsa) THAT YtcjkibjaajbfmaaProg.lean LOADS. Nothing in Lean hashes anything: it is a label: what it is worth is what the hold of that sum in a sandbox is worth. -/
noncomputable def Try.pinned : Pinned := { name := "ytcjkibjaajbfmaa", sum := "d3aed82b6c3f6993c4f5f90b902bfd85dc97379b3d8fb67f78a1a5cccfa99265", checked := Try.checked }
namespace Rows
def none {H : Type} : Left H := { results := [], args := [] }

/-- 'roadkeep3.WardOrder': WHATEVER THE INPUT: true; the input reads as it did. -/
def wardOrderSpec : ChangeSpec := { name := "wardOrder", fn := fun _ => fun
  | [d1, d2, d3, d4] => { results := [.lit (.bool true)], args := [d1, d2, d3, d4] }
  | _ => none }
def wardOrderRow : OpenClaim := { program := "ytcjkibjaajbfmaa", sum := "d3aed82b6c3f6993c4f5f90b902bfd85dc97379b3d8fb67f78a1a5cccfa99265", func := "roadstead/roadkeep3.WardOrder", spec := "wardOrder", unfollowed := true, recurses := true, apart := false }
def WardOrderSaid : Prop := wardOrderRow.holds Try.pinned (OpenSpec.ofChange wardOrderSpec)

/-- ITS FALSE NEIGHBOUR: 'it returns false'. Refute it at one input. -/
def wardOrderWrong : ChangeSpec := { name := "wardOrder", fn := fun _ => fun
  | [d1, d2, d3, d4] => { results := [.lit (.bool false)], args := [d1, d2, d3, d4] }
  | _ => none }
def WardOrderWrongFalsely : Prop := wardOrderRow.holds Try.pinned (OpenSpec.ofChange wardOrderWrong)

/-- 'roadkeep3.WardReach': WHATEVER THE INPUT: true; the input reads as it did. -/
def wardReachSpec : ChangeSpec := { name := "wardReach", fn := fun _ => fun
  | [d1, d2, d3, d4] => { results := [.lit (.bool true)], args := [d1, d2, d3, d4] }
  | _ => none }
def wardReachRow : OpenClaim := { program := "ytcjkibjaajbfmaa", sum := "d3aed82b6c3f6993c4f5f90b902bfd85dc97379b3d8fb67f78a1a5cccfa99265", func := "roadstead/roadkeep3.WardReach", spec := "wardReach", unfollowed := true, recurses := true, apart := false }
def WardReachSaid : Prop := wardReachRow.holds Try.pinned (OpenSpec.ofChange wardReachSpec)

/-- ITS FALSE NEIGHBOUR: 'it returns false'. Refute it at one input. -/
def wardReachWrong : ChangeSpec := { name := "wardReach", fn := fun _ => fun
  | [d1, d2, d3, d4] => { results := [.lit (.bool false)], args := [d1, d2, d3, d4] }
  | _ => none }
def WardReachWrongFalsely : Prop := wardReachRow.holds Try.pinned (OpenSpec.ofChange wardReachWrong)

/-- 'roadkeep3.WardGives': WHATEVER THE INPUT: true; the input reads as it did. -/
def wardGivesSpec : ChangeSpec := { name := "wardGives", fn := fun _ => fun
  | [d1, d2, d3, d4] => { results := [.lit (.bool true)], args := [d1, d2, d3, d4] }
  | _ => none }
def wardGivesRow : OpenClaim := { program := "ytcjkibjaajbfmaa", sum := "d3aed82b6c3f6993c4f5f90b902bfd85dc97379b3d8fb67f78a1a5cccfa99265", func := "roadstead/roadkeep3.WardGives", spec := "wardGives", unfollowed := true, recurses := true, apart := false }
def WardGivesSaid : Prop := wardGivesRow.holds Try.pinned (OpenSpec.ofChange wardGivesSpec)

/-- ITS FALSE NEIGHBOUR: 'it returns false'. Refute it at one input. -/
def wardGivesWrong : ChangeSpec := { name := "wardGives", fn := fun _ => fun
  | [d1, d2, d3, d4] => { results := [.lit (.bool false)], args := [d1, d2, d3, d4] }
  | _ => none }
def WardGivesWrongFalsely : Prop := wardGivesRow.holds Try.pinned (OpenSpec.ofChange wardGivesWrong)

/-- 'roadkeep3.WardCalm': WHATEVER THE INPUT: true; the input reads as it did. -/
def wardCalmSpec : ChangeSpec := { name := "wardCalm", fn := fun _ => fun
  | [d1, d2, d3] => { results := [.lit (.bool true)], args := [d1, d2, d3] }
  | _ => none }
def wardCalmRow : OpenClaim := { program := "ytcjkibjaajbfmaa", sum := "d3aed82b6c3f6993c4f5f90b902bfd85dc97379b3d8fb67f78a1a5cccfa99265", func := "roadstead/roadkeep3.WardCalm", spec := "wardCalm", unfollowed := true, recurses := true, apart := false }
def WardCalmSaid : Prop := wardCalmRow.holds Try.pinned (OpenSpec.ofChange wardCalmSpec)

/-- ITS FALSE NEIGHBOUR: 'it returns false'. Refute it at one input. -/
def wardCalmWrong : ChangeSpec := { name := "wardCalm", fn := fun _ => fun
  | [d1, d2, d3] => { results := [.lit (.bool false)], args := [d1, d2, d3] }
  | _ => none }
def WardCalmWrongFalsely : Prop := wardCalmRow.holds Try.pinned (OpenSpec.ofChange wardCalmWrong)

/-- 'roadkeep3.WardSteady': WHATEVER THE INPUT: true; the input reads as it did. -/
def wardSteadySpec : ChangeSpec := { name := "wardSteady", fn := fun _ => fun
  | [d1, d2] => { results := [.lit (.bool true)], args := [d1, d2] }
  | _ => none }
def wardSteadyRow : OpenClaim := { program := "ytcjkibjaajbfmaa", sum := "d3aed82b6c3f6993c4f5f90b902bfd85dc97379b3d8fb67f78a1a5cccfa99265", func := "roadstead/roadkeep3.WardSteady", spec := "wardSteady", unfollowed := true, recurses := true, apart := false }
def WardSteadySaid : Prop := wardSteadyRow.holds Try.pinned (OpenSpec.ofChange wardSteadySpec)

/-- ITS FALSE NEIGHBOUR: 'it returns false'. Refute it at one input. -/
def wardSteadyWrong : ChangeSpec := { name := "wardSteady", fn := fun _ => fun
  | [d1, d2] => { results := [.lit (.bool false)], args := [d1, d2] }
  | _ => none }
def WardSteadyWrongFalsely : Prop := wardSteadyRow.holds Try.pinned (OpenSpec.ofChange wardSteadyWrong)

/-- 'roadkeep3.WardStarts': WHATEVER THE INPUT: true; the input reads as it did. -/
def wardStartsSpec : ChangeSpec := { name := "wardStarts", fn := fun _ => fun
  | [d1, d2, d3, d4] => { results := [.lit (.bool true)], args := [d1, d2, d3, d4] }
  | _ => none }
def wardStartsRow : OpenClaim := { program := "ytcjkibjaajbfmaa", sum := "d3aed82b6c3f6993c4f5f90b902bfd85dc97379b3d8fb67f78a1a5cccfa99265", func := "roadstead/roadkeep3.WardStarts", spec := "wardStarts", unfollowed := true, recurses := true, apart := false }
def WardStartsSaid : Prop := wardStartsRow.holds Try.pinned (OpenSpec.ofChange wardStartsSpec)

/-- ITS FALSE NEIGHBOUR: 'it returns false'. Refute it at one input. -/
def wardStartsWrong : ChangeSpec := { name := "wardStarts", fn := fun _ => fun
  | [d1, d2, d3, d4] => { results := [.lit (.bool false)], args := [d1, d2, d3, d4] }
  | _ => none }
def WardStartsWrongFalsely : Prop := wardStartsRow.holds Try.pinned (OpenSpec.ofChange wardStartsWrong)

/-- 'roadkeep3.LinkNone': WHATEVER THE INPUT: true; the input reads as it did. -/
def linkNoneSpec : ChangeSpec := { name := "linkNone", fn := fun _ => fun
  | [d] => { results := [.lit (.bool true)], args := [d] }
  | _ => none }
def linkNoneRow : OpenClaim := { program := "ytcjkibjaajbfmaa", sum := "d3aed82b6c3f6993c4f5f90b902bfd85dc97379b3d8fb67f78a1a5cccfa99265", func := "roadstead/roadkeep3.LinkNone", spec := "linkNone", inPlace := ["slices.overlaps[roadstead/link.Row]"], loops := true, apart := false }
def LinkNoneSaid : Prop := linkNoneRow.holds Try.pinned (OpenSpec.ofChange linkNoneSpec)

/-- ITS FALSE NEIGHBOUR: 'it returns false'. Refute it at one input. -/
def linkNoneWrong : ChangeSpec := { name := "linkNone", fn := fun _ => fun
  | [d] => { results := [.lit (.bool false)], args := [d] }
  | _ => none }
def LinkNoneWrongFalsely : Prop := linkNoneRow.holds Try.pinned (OpenSpec.ofChange linkNoneWrong)

/-- 'roadkeep3.LinkTold': WHATEVER THE INPUT: true; the input reads as it did. -/
def linkToldSpec : ChangeSpec := { name := "linkTold", fn := fun _ => fun
  | [d1, d2, d3, d4] => { results := [.lit (.bool true)], args := [d1, d2, d3, d4] }
  | _ => none }
def linkToldRow : OpenClaim := { program := "ytcjkibjaajbfmaa", sum := "d3aed82b6c3f6993c4f5f90b902bfd85dc97379b3d8fb67f78a1a5cccfa99265", func := "roadstead/roadkeep3.LinkTold", spec := "linkTold", inPlace := ["slices.overlaps[roadstead/link.Row]"], unfollowed := true, recurses := true, apart := false }
def LinkToldSaid : Prop := linkToldRow.holds Try.pinned (OpenSpec.ofChange linkToldSpec)

/-- ITS FALSE NEIGHBOUR: 'it returns false'. Refute it at one input. -/
def linkToldWrong : ChangeSpec := { name := "linkTold", fn := fun _ => fun
  | [d1, d2, d3, d4] => { results := [.lit (.bool false)], args := [d1, d2, d3, d4] }
  | _ => none }
def LinkToldWrongFalsely : Prop := linkToldRow.holds Try.pinned (OpenSpec.ofChange linkToldWrong)

/-- 'roadkeep3.LinkOnce': WHATEVER THE INPUT: true; the input reads as it did. -/
def linkOnceSpec : ChangeSpec := { name := "linkOnce", fn := fun _ => fun
  | [d1, d2, d3] => { results := [.lit (.bool true)], args := [d1, d2, d3] }
  | _ => none }
def linkOnceRow : OpenClaim := { program := "ytcjkibjaajbfmaa", sum := "d3aed82b6c3f6993c4f5f90b902bfd85dc97379b3d8fb67f78a1a5cccfa99265", func := "roadstead/roadkeep3.LinkOnce", spec := "linkOnce", inPlace := ["slices.overlaps[roadstead/link.Row]"], unfollowed := true, recurses := true, apart := false }
def LinkOnceSaid : Prop := linkOnceRow.holds Try.pinned (OpenSpec.ofChange linkOnceSpec)

/-- ITS FALSE NEIGHBOUR: 'it returns false'. Refute it at one input. -/
def linkOnceWrong : ChangeSpec := { name := "linkOnce", fn := fun _ => fun
  | [d1, d2, d3] => { results := [.lit (.bool false)], args := [d1, d2, d3] }
  | _ => none }
def LinkOnceWrongFalsely : Prop := linkOnceRow.holds Try.pinned (OpenSpec.ofChange linkOnceWrong)

/-- 'roadkeep3.LinkApart': WHATEVER THE INPUT: true; the input reads as it did. -/
def linkApartSpec : ChangeSpec := { name := "linkApart", fn := fun _ => fun
  | [d1, d2, d3, d4] => { results := [.lit (.bool true)], args := [d1, d2, d3, d4] }
  | _ => none }
def linkApartRow : OpenClaim := { program := "ytcjkibjaajbfmaa", sum := "d3aed82b6c3f6993c4f5f90b902bfd85dc97379b3d8fb67f78a1a5cccfa99265", func := "roadstead/roadkeep3.LinkApart", spec := "linkApart", inPlace := ["slices.overlaps[roadstead/link.Row]"], unfollowed := true, recurses := true, apart := false }
def LinkApartSaid : Prop := linkApartRow.holds Try.pinned (OpenSpec.ofChange linkApartSpec)

/-- ITS FALSE NEIGHBOUR: 'it returns false'. Refute it at one input. -/
def linkApartWrong : ChangeSpec := { name := "linkApart", fn := fun _ => fun
  | [d1, d2, d3, d4] => { results := [.lit (.bool false)], args := [d1, d2, d3, d4] }
  | _ => none }
def LinkApartWrongFalsely : Prop := linkApartRow.holds Try.pinned (OpenSpec.ofChange linkApartWrong)

/- THE SECOND FORM. 'bulk': how many values and letters a reading holds, each counted each time it is reached (what is shared counts as often as it is met; a slice's spare places count too). A statement '..UptoSaid' is the law's where the arguments, and the package variables that the reading takes, are together of bulk at most 1048576: NARROWER than '..Said'. Prove '..Said' where nothing that the law and all that it calls make is longer than what came in: it says more and counts as full. Else prove '..UptoSaid'. A law counts once. -/
mutual
def uptoBulk {H : Type} : DataW H → Nat
  | .lit (.string bytes) => bytes.length + 1
  | .lit _ => 1
  | .nil => 1
  | .ptr d => uptoBulk d + 1
  | .slice elems spare => uptoBulkAll elems + uptoBulkAll spare + 1
  | .agg parts => uptoBulkAll parts + 1
  | .iface _ d => uptoBulk d + 1
  | .map entries => uptoBulkEntries entries + 1
  | .held _ => 1
def uptoBulkAll {H : Type} : List (DataW H) → Nat
  | [] => 0
  | d :: r => uptoBulk d + uptoBulkAll r
def uptoBulkEntries {H : Type} : List (Lit × DataW H) → Nat
  | [] => 0
  | x :: r => uptoBulkEntry x + uptoBulkEntries r
def uptoBulkEntry {H : Type} : Lit × DataW H → Nat
  | (.string bytes, d) => bytes.length + uptoBulk d + 1
  | (_, d) => uptoBulk d + 1
 end
def uptoSmall : (H : Type) → List (DataW H) → Bool := fun _ ds => decide (uptoBulkAll ds ≤ 1048576)
def OpenSpec.upto (s : _root_.Go.ChangeSpec) : _root_.Go.OpenSpec := { _root_.Go.OpenSpec.ofChange s with cond := some uptoSmall }

/-- 'roadkeep3.WardOrder', WHERE WHAT IT READS IS OF BULK AT MOST 1048576: true; the input reads as it did. -/
def wardOrderUptoRow : OpenClaim := { program := "ytcjkibjaajbfmaa", sum := "d3aed82b6c3f6993c4f5f90b902bfd85dc97379b3d8fb67f78a1a5cccfa99265", func := "roadstead/roadkeep3.WardOrder", spec := "wardOrder", unfollowed := true, recurses := true, apart := false, narrowed := true }
def WardOrderUptoSaid : Prop := wardOrderUptoRow.holds Try.pinned (OpenSpec.upto wardOrderSpec)

/-- 'roadkeep3.WardReach', WHERE WHAT IT READS IS OF BULK AT MOST 1048576: true; the input reads as it did. -/
def wardReachUptoRow : OpenClaim := { program := "ytcjkibjaajbfmaa", sum := "d3aed82b6c3f6993c4f5f90b902bfd85dc97379b3d8fb67f78a1a5cccfa99265", func := "roadstead/roadkeep3.WardReach", spec := "wardReach", unfollowed := true, recurses := true, apart := false, narrowed := true }
def WardReachUptoSaid : Prop := wardReachUptoRow.holds Try.pinned (OpenSpec.upto wardReachSpec)

/-- 'roadkeep3.WardGives', WHERE WHAT IT READS IS OF BULK AT MOST 1048576: true; the input reads as it did. -/
def wardGivesUptoRow : OpenClaim := { program := "ytcjkibjaajbfmaa", sum := "d3aed82b6c3f6993c4f5f90b902bfd85dc97379b3d8fb67f78a1a5cccfa99265", func := "roadstead/roadkeep3.WardGives", spec := "wardGives", unfollowed := true, recurses := true, apart := false, narrowed := true }
def WardGivesUptoSaid : Prop := wardGivesUptoRow.holds Try.pinned (OpenSpec.upto wardGivesSpec)

/-- 'roadkeep3.WardCalm', WHERE WHAT IT READS IS OF BULK AT MOST 1048576: true; the input reads as it did. -/
def wardCalmUptoRow : OpenClaim := { program := "ytcjkibjaajbfmaa", sum := "d3aed82b6c3f6993c4f5f90b902bfd85dc97379b3d8fb67f78a1a5cccfa99265", func := "roadstead/roadkeep3.WardCalm", spec := "wardCalm", unfollowed := true, recurses := true, apart := false, narrowed := true }
def WardCalmUptoSaid : Prop := wardCalmUptoRow.holds Try.pinned (OpenSpec.upto wardCalmSpec)

/-- 'roadkeep3.WardSteady', WHERE WHAT IT READS IS OF BULK AT MOST 1048576: true; the input reads as it did. -/
def wardSteadyUptoRow : OpenClaim := { program := "ytcjkibjaajbfmaa", sum := "d3aed82b6c3f6993c4f5f90b902bfd85dc97379b3d8fb67f78a1a5cccfa99265", func := "roadstead/roadkeep3.WardSteady", spec := "wardSteady", unfollowed := true, recurses := true, apart := false, narrowed := true }
def WardSteadyUptoSaid : Prop := wardSteadyUptoRow.holds Try.pinned (OpenSpec.upto wardSteadySpec)

/-- 'roadkeep3.WardStarts', WHERE WHAT IT READS IS OF BULK AT MOST 1048576: true; the input reads as it did. -/
def wardStartsUptoRow : OpenClaim := { program := "ytcjkibjaajbfmaa", sum := "d3aed82b6c3f6993c4f5f90b902bfd85dc97379b3d8fb67f78a1a5cccfa99265", func := "roadstead/roadkeep3.WardStarts", spec := "wardStarts", unfollowed := true, recurses := true, apart := false, narrowed := true }
def WardStartsUptoSaid : Prop := wardStartsUptoRow.holds Try.pinned (OpenSpec.upto wardStartsSpec)

/-- 'roadkeep3.LinkNone', WHERE WHAT IT READS IS OF BULK AT MOST 1048576: true; the input reads as it did. -/
def linkNoneUptoRow : OpenClaim := { program := "ytcjkibjaajbfmaa", sum := "d3aed82b6c3f6993c4f5f90b902bfd85dc97379b3d8fb67f78a1a5cccfa99265", func := "roadstead/roadkeep3.LinkNone", spec := "linkNone", inPlace := ["slices.overlaps[roadstead/link.Row]"], loops := true, apart := false, narrowed := true }
def LinkNoneUptoSaid : Prop := linkNoneUptoRow.holds Try.pinned (OpenSpec.upto linkNoneSpec)

/-- 'roadkeep3.LinkTold', WHERE WHAT IT READS IS OF BULK AT MOST 1048576: true; the input reads as it did. -/
def linkToldUptoRow : OpenClaim := { program := "ytcjkibjaajbfmaa", sum := "d3aed82b6c3f6993c4f5f90b902bfd85dc97379b3d8fb67f78a1a5cccfa99265", func := "roadstead/roadkeep3.LinkTold", spec := "linkTold", inPlace := ["slices.overlaps[roadstead/link.Row]"], unfollowed := true, recurses := true, apart := false, narrowed := true }
def LinkToldUptoSaid : Prop := linkToldUptoRow.holds Try.pinned (OpenSpec.upto linkToldSpec)

/-- 'roadkeep3.LinkOnce', WHERE WHAT IT READS IS OF BULK AT MOST 1048576: true; the input reads as it did. -/
def linkOnceUptoRow : OpenClaim := { program := "ytcjkibjaajbfmaa", sum := "d3aed82b6c3f6993c4f5f90b902bfd85dc97379b3d8fb67f78a1a5cccfa99265", func := "roadstead/roadkeep3.LinkOnce", spec := "linkOnce", inPlace := ["slices.overlaps[roadstead/link.Row]"], unfollowed := true, recurses := true, apart := false, narrowed := true }
def LinkOnceUptoSaid : Prop := linkOnceUptoRow.holds Try.pinned (OpenSpec.upto linkOnceSpec)

/-- 'roadkeep3.LinkApart', WHERE WHAT IT READS IS OF BULK AT MOST 1048576: true; the input reads as it did. -/
def linkApartUptoRow : OpenClaim := { program := "ytcjkibjaajbfmaa", sum := "d3aed82b6c3f6993c4f5f90b902bfd85dc97379b3d8fb67f78a1a5cccfa99265", func := "roadstead/roadkeep3.LinkApart", spec := "linkApart", inPlace := ["slices.overlaps[roadstead/link.Row]"], unfollowed := true, recurses := true, apart := false, narrowed := true }
def LinkApartUptoSaid : Prop := linkApartUptoRow.holds Try.pinned (OpenSpec.upto linkApartSpec)

end Rows
end Go.Proofs.Ytcjkibjaajbfmaa
