/-
  No cell of these rows narrows 'for every input' (looked for: loops, veiled, ifaces, maps, wideKeys, modest, calm, conditions, laid).
  DERIVED. THE GIVEN ROWS OF THIS SEAT. 7 by the template 'for every input the law returns true; each argument reads behind the call as it read before'; 0 by the template 'total and deterministic' (their statements: YtaknhoplgcnhkaaTotals.lean).
  GIVEN WITH THE SEED: the statements are not yours to turn. If you find one false, say at which input.
  Laid BY PROGRAM, IN A SANDBOX (cutbox-rows.mjs): the forced cells as the released guide's own fill.sh prints them over the translation 830d95ef32bd34ce… (all of the seat's roots in one cut). By AI agents, Wed Nov 11 2026. No macro, syntax, notation, axiom, sorry.
-/
import Derived.Test.YtaknhoplgcnhkaaChecked
import GoSem.Claim
import GoSem.ClaimJoined
import GoSem.ClaimMapViews
import Derived.JoinedTies
import Derived.KernelRfl
namespace Go.Proofs.Ytaknhoplgcnhkaa
/- THE CELL 'sum', in the pinned program and in every row, IS THE sha256 OF THE DUMP (.gsa) THAT YtaknhoplgcnhkaaProg.lean LOADS. Nothing in Lean hashes anything: it is a label: what it is worth is what the hold of that sum in a sandbox is worth. -/
noncomputable def Try.pinned : Pinned := { name := "ytaknhoplgcnhkaa", sum := "830d95ef32bd34ced67da15ebe397692232abc1695d8c4ebecf12ba3ef473fe8", checked := Try.checked }
namespace Rows
def none {H : Type} : Left H := { results := [], args := [] }

/-- 'hoardlaw07.SpaceHolds': WHATEVER THE INPUT: true; the input reads as it did. -/
def spaceHoldsSpec : ChangeSpec := { name := "spaceHolds", fn := fun _ => fun
  | [d1, d2] => { results := [.lit (.bool true)], args := [d1, d2] }
  | _ => none }
def spaceHoldsRow : OpenClaim := { program := "ytaknhoplgcnhkaa", sum := "830d95ef32bd34ced67da15ebe397692232abc1695d8c4ebecf12ba3ef473fe8", func := "hoard/hoardlaw07.SpaceHolds", spec := "spaceHolds", inPlace := ["slices.overlaps[hoard/space.Range]"], unfollowed := true, recurses := true, apart := false }
def SpaceHoldsSaid : Prop := spaceHoldsRow.holds Try.pinned (OpenSpec.ofChange spaceHoldsSpec)

/-- ITS FALSE NEIGHBOUR: 'it returns false'. Refute it at one input. -/
def spaceHoldsWrong : ChangeSpec := { name := "spaceHolds", fn := fun _ => fun
  | [d1, d2] => { results := [.lit (.bool false)], args := [d1, d2] }
  | _ => none }
def SpaceHoldsWrongFalsely : Prop := spaceHoldsRow.holds Try.pinned (OpenSpec.ofChange spaceHoldsWrong)

/-- 'hoardlaw07.SpaceFits': WHATEVER THE INPUT: true; the input reads as it did. -/
def spaceFitsSpec : ChangeSpec := { name := "spaceFits", fn := fun _ => fun
  | [d1, d2, d3] => { results := [.lit (.bool true)], args := [d1, d2, d3] }
  | _ => none }
def spaceFitsRow : OpenClaim := { program := "ytaknhoplgcnhkaa", sum := "830d95ef32bd34ced67da15ebe397692232abc1695d8c4ebecf12ba3ef473fe8", func := "hoard/hoardlaw07.SpaceFits", spec := "spaceFits", inPlace := ["slices.overlaps[hoard/space.Range]"], unfollowed := true, recurses := true, apart := false }
def SpaceFitsSaid : Prop := spaceFitsRow.holds Try.pinned (OpenSpec.ofChange spaceFitsSpec)

/-- ITS FALSE NEIGHBOUR: 'it returns false'. Refute it at one input. -/
def spaceFitsWrong : ChangeSpec := { name := "spaceFits", fn := fun _ => fun
  | [d1, d2, d3] => { results := [.lit (.bool false)], args := [d1, d2, d3] }
  | _ => none }
def SpaceFitsWrongFalsely : Prop := spaceFitsRow.holds Try.pinned (OpenSpec.ofChange spaceFitsWrong)

/-- 'hoardlaw07.SpaceWhole': WHATEVER THE INPUT: true; the input reads as it did. -/
def spaceWholeSpec : ChangeSpec := { name := "spaceWhole", fn := fun _ => fun
  | [d1, d2, d3] => { results := [.lit (.bool true)], args := [d1, d2, d3] }
  | _ => none }
def spaceWholeRow : OpenClaim := { program := "ytaknhoplgcnhkaa", sum := "830d95ef32bd34ced67da15ebe397692232abc1695d8c4ebecf12ba3ef473fe8", func := "hoard/hoardlaw07.SpaceWhole", spec := "spaceWhole", inPlace := ["slices.overlaps[hoard/space.Range]"], unfollowed := true, recurses := true, apart := false }
def SpaceWholeSaid : Prop := spaceWholeRow.holds Try.pinned (OpenSpec.ofChange spaceWholeSpec)

/-- ITS FALSE NEIGHBOUR: 'it returns false'. Refute it at one input. -/
def spaceWholeWrong : ChangeSpec := { name := "spaceWhole", fn := fun _ => fun
  | [d1, d2, d3] => { results := [.lit (.bool false)], args := [d1, d2, d3] }
  | _ => none }
def SpaceWholeWrongFalsely : Prop := spaceWholeRow.holds Try.pinned (OpenSpec.ofChange spaceWholeWrong)

/-- 'hoardlaw07.SpaceKeeps': WHATEVER THE INPUT: true; the input reads as it did. -/
def spaceKeepsSpec : ChangeSpec := { name := "spaceKeeps", fn := fun _ => fun
  | [d1, d2, d3] => { results := [.lit (.bool true)], args := [d1, d2, d3] }
  | _ => none }
def spaceKeepsRow : OpenClaim := { program := "ytaknhoplgcnhkaa", sum := "830d95ef32bd34ced67da15ebe397692232abc1695d8c4ebecf12ba3ef473fe8", func := "hoard/hoardlaw07.SpaceKeeps", spec := "spaceKeeps", inPlace := ["slices.overlaps[hoard/space.Range]"], unfollowed := true, recurses := true, apart := false }
def SpaceKeepsSaid : Prop := spaceKeepsRow.holds Try.pinned (OpenSpec.ofChange spaceKeepsSpec)

/-- ITS FALSE NEIGHBOUR: 'it returns false'. Refute it at one input. -/
def spaceKeepsWrong : ChangeSpec := { name := "spaceKeeps", fn := fun _ => fun
  | [d1, d2, d3] => { results := [.lit (.bool false)], args := [d1, d2, d3] }
  | _ => none }
def SpaceKeepsWrongFalsely : Prop := spaceKeepsRow.holds Try.pinned (OpenSpec.ofChange spaceKeepsWrong)

/-- 'hoardlaw07.SpacePlays': WHATEVER THE INPUT: true; the input reads as it did. -/
def spacePlaysSpec : ChangeSpec := { name := "spacePlays", fn := fun _ => fun
  | [d1, d2, d3] => { results := [.lit (.bool true)], args := [d1, d2, d3] }
  | _ => none }
def spacePlaysRow : OpenClaim := { program := "ytaknhoplgcnhkaa", sum := "830d95ef32bd34ced67da15ebe397692232abc1695d8c4ebecf12ba3ef473fe8", func := "hoard/hoardlaw07.SpacePlays", spec := "spacePlays", inPlace := ["slices.overlaps[hoard/space.Range]"], unfollowed := true, recurses := true, apart := false }
def SpacePlaysSaid : Prop := spacePlaysRow.holds Try.pinned (OpenSpec.ofChange spacePlaysSpec)

/-- ITS FALSE NEIGHBOUR: 'it returns false'. Refute it at one input. -/
def spacePlaysWrong : ChangeSpec := { name := "spacePlays", fn := fun _ => fun
  | [d1, d2, d3] => { results := [.lit (.bool false)], args := [d1, d2, d3] }
  | _ => none }
def SpacePlaysWrongFalsely : Prop := spacePlaysRow.holds Try.pinned (OpenSpec.ofChange spacePlaysWrong)

/-- 'hoardlaw07.SpaceShort': WHATEVER THE INPUT: true; the input reads as it did. -/
def spaceShortSpec : ChangeSpec := { name := "spaceShort", fn := fun _ => fun
  | [d1, d2] => { results := [.lit (.bool true)], args := [d1, d2] }
  | _ => none }
def spaceShortRow : OpenClaim := { program := "ytaknhoplgcnhkaa", sum := "830d95ef32bd34ced67da15ebe397692232abc1695d8c4ebecf12ba3ef473fe8", func := "hoard/hoardlaw07.SpaceShort", spec := "spaceShort", inPlace := ["slices.overlaps[hoard/space.Range]"], unfollowed := true, recurses := true, apart := false }
def SpaceShortSaid : Prop := spaceShortRow.holds Try.pinned (OpenSpec.ofChange spaceShortSpec)

/-- ITS FALSE NEIGHBOUR: 'it returns false'. Refute it at one input. -/
def spaceShortWrong : ChangeSpec := { name := "spaceShort", fn := fun _ => fun
  | [d1, d2] => { results := [.lit (.bool false)], args := [d1, d2] }
  | _ => none }
def SpaceShortWrongFalsely : Prop := spaceShortRow.holds Try.pinned (OpenSpec.ofChange spaceShortWrong)

/-- 'hoardlaw07.SpaceLogs': WHATEVER THE INPUT: true; the input reads as it did. -/
def spaceLogsSpec : ChangeSpec := { name := "spaceLogs", fn := fun _ => fun
  | [d1, d2] => { results := [.lit (.bool true)], args := [d1, d2] }
  | _ => none }
def spaceLogsRow : OpenClaim := { program := "ytaknhoplgcnhkaa", sum := "830d95ef32bd34ced67da15ebe397692232abc1695d8c4ebecf12ba3ef473fe8", func := "hoard/hoardlaw07.SpaceLogs", spec := "spaceLogs", inPlace := ["slices.overlaps[hoard/space.Range]"], unfollowed := true, recurses := true, apart := false }
def SpaceLogsSaid : Prop := spaceLogsRow.holds Try.pinned (OpenSpec.ofChange spaceLogsSpec)

/-- ITS FALSE NEIGHBOUR: 'it returns false'. Refute it at one input. -/
def spaceLogsWrong : ChangeSpec := { name := "spaceLogs", fn := fun _ => fun
  | [d1, d2] => { results := [.lit (.bool false)], args := [d1, d2] }
  | _ => none }
def SpaceLogsWrongFalsely : Prop := spaceLogsRow.holds Try.pinned (OpenSpec.ofChange spaceLogsWrong)

/- THE SECOND FORM. 'bulk': how many values and letters a reading holds, each counted each time it is reached (what is shared counts as often as it is met; a slice's spare places count too). A statement '..UptoSaid' is the law's where the arguments, and the package variables that the reading takes, are together of bulk at most 1048576: NARROWER than '..Said'. Prove '..Said' where nothing that the law and all that it calls make is longer than what came in: it says more and counts as full. Else prove '..UptoSaid'. A law counts once. -/
mutual
def uptoBulk {H : Type} : DataW H → Nat
  | .lit (.string bytes) => bytes.length + 1
  | .lit _ => 1
  | .nil => 1
  | .ptr d => uptoBulk d + 1
  | .slice elems spare => uptoBulkAll elems + uptoBulkAll spare + 1
  | .agg parts => uptoBulkAll parts + 1
  | .iface _ d => uptoBulk d + 1
  | .map entries => uptoBulkEntries entries + 1
  | .held _ => 1
def uptoBulkAll {H : Type} : List (DataW H) → Nat
  | [] => 0
  | d :: r => uptoBulk d + uptoBulkAll r
def uptoBulkEntries {H : Type} : List (Lit × DataW H) → Nat
  | [] => 0
  | x :: r => uptoBulkEntry x + uptoBulkEntries r
def uptoBulkEntry {H : Type} : Lit × DataW H → Nat
  | (.string bytes, d) => bytes.length + uptoBulk d + 1
  | (_, d) => uptoBulk d + 1
 end
def uptoSmall : (H : Type) → List (DataW H) → Bool := fun _ ds => decide (uptoBulkAll ds ≤ 1048576)
def OpenSpec.upto (s : _root_.Go.ChangeSpec) : _root_.Go.OpenSpec := { _root_.Go.OpenSpec.ofChange s with cond := some uptoSmall }

/-- 'hoardlaw07.SpaceHolds', WHERE WHAT IT READS IS OF BULK AT MOST 1048576: true; the input reads as it did. -/
def spaceHoldsUptoRow : OpenClaim := { program := "ytaknhoplgcnhkaa", sum := "830d95ef32bd34ced67da15ebe397692232abc1695d8c4ebecf12ba3ef473fe8", func := "hoard/hoardlaw07.SpaceHolds", spec := "spaceHolds", inPlace := ["slices.overlaps[hoard/space.Range]"], unfollowed := true, recurses := true, apart := false, narrowed := true }
def SpaceHoldsUptoSaid : Prop := spaceHoldsUptoRow.holds Try.pinned (OpenSpec.upto spaceHoldsSpec)

/-- 'hoardlaw07.SpaceFits', WHERE WHAT IT READS IS OF BULK AT MOST 1048576: true; the input reads as it did. -/
def spaceFitsUptoRow : OpenClaim := { program := "ytaknhoplgcnhkaa", sum := "830d95ef32bd34ced67da15ebe397692232abc1695d8c4ebecf12ba3ef473fe8", func := "hoard/hoardlaw07.SpaceFits", spec := "spaceFits", inPlace := ["slices.overlaps[hoard/space.Range]"], unfollowed := true, recurses := true, apart := false, narrowed := true }
def SpaceFitsUptoSaid : Prop := spaceFitsUptoRow.holds Try.pinned (OpenSpec.upto spaceFitsSpec)

/-- 'hoardlaw07.SpaceWhole', WHERE WHAT IT READS IS OF BULK AT MOST 1048576: true; the input reads as it did. -/
def spaceWholeUptoRow : OpenClaim := { program := "ytaknhoplgcnhkaa", sum := "830d95ef32bd34ced67da15ebe397692232abc1695d8c4ebecf12ba3ef473fe8", func := "hoard/hoardlaw07.SpaceWhole", spec := "spaceWhole", inPlace := ["slices.overlaps[hoard/space.Range]"], unfollowed := true, recurses := true, apart := false, narrowed := true }
def SpaceWholeUptoSaid : Prop := spaceWholeUptoRow.holds Try.pinned (OpenSpec.upto spaceWholeSpec)

/-- 'hoardlaw07.SpaceKeeps', WHERE WHAT IT READS IS OF BULK AT MOST 1048576: true; the input reads as it did. -/
def spaceKeepsUptoRow : OpenClaim := { program := "ytaknhoplgcnhkaa", sum := "830d95ef32bd34ced67da15ebe397692232abc1695d8c4ebecf12ba3ef473fe8", func := "hoard/hoardlaw07.SpaceKeeps", spec := "spaceKeeps", inPlace := ["slices.overlaps[hoard/space.Range]"], unfollowed := true, recurses := true, apart := false, narrowed := true }
def SpaceKeepsUptoSaid : Prop := spaceKeepsUptoRow.holds Try.pinned (OpenSpec.upto spaceKeepsSpec)

/-- 'hoardlaw07.SpacePlays', WHERE WHAT IT READS IS OF BULK AT MOST 1048576: true; the input reads as it did. -/
def spacePlaysUptoRow : OpenClaim := { program := "ytaknhoplgcnhkaa", sum := "830d95ef32bd34ced67da15ebe397692232abc1695d8c4ebecf12ba3ef473fe8", func := "hoard/hoardlaw07.SpacePlays", spec := "spacePlays", inPlace := ["slices.overlaps[hoard/space.Range]"], unfollowed := true, recurses := true, apart := false, narrowed := true }
def SpacePlaysUptoSaid : Prop := spacePlaysUptoRow.holds Try.pinned (OpenSpec.upto spacePlaysSpec)

/-- 'hoardlaw07.SpaceShort', WHERE WHAT IT READS IS OF BULK AT MOST 1048576: true; the input reads as it did. -/
def spaceShortUptoRow : OpenClaim := { program := "ytaknhoplgcnhkaa", sum := "830d95ef32bd34ced67da15ebe397692232abc1695d8c4ebecf12ba3ef473fe8", func := "hoard/hoardlaw07.SpaceShort", spec := "spaceShort", inPlace := ["slices.overlaps[hoard/space.Range]"], unfollowed := true, recurses := true, apart := false, narrowed := true }
def SpaceShortUptoSaid : Prop := spaceShortUptoRow.holds Try.pinned (OpenSpec.upto spaceShortSpec)

/-- 'hoardlaw07.SpaceLogs', WHERE WHAT IT READS IS OF BULK AT MOST 1048576: true; the input reads as it did. -/
def spaceLogsUptoRow : OpenClaim := { program := "ytaknhoplgcnhkaa", sum := "830d95ef32bd34ced67da15ebe397692232abc1695d8c4ebecf12ba3ef473fe8", func := "hoard/hoardlaw07.SpaceLogs", spec := "spaceLogs", inPlace := ["slices.overlaps[hoard/space.Range]"], unfollowed := true, recurses := true, apart := false, narrowed := true }
def SpaceLogsUptoSaid : Prop := spaceLogsUptoRow.holds Try.pinned (OpenSpec.upto spaceLogsSpec)

end Rows
end Go.Proofs.Ytaknhoplgcnhkaa
