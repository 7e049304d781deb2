/-
  No cell of these rows narrows 'for every input' (looked for: loops, veiled, ifaces, maps, wideKeys, modest, calm, conditions, laid).
  DERIVED. THE GIVEN ROWS OF THIS SEAT. 12 by the template 'for every input the law returns true; each argument reads behind the call as it read before'; 0 by the template 'total and deterministic' (their statements: YtbddbadmfhplmaaTotals.lean).
  GIVEN WITH THE SEED: the statements are not yours to turn. If you find one false, say at which input.
  Laid BY PROGRAM, IN A SANDBOX (cutbox-rows.mjs): the forced cells as the released guide's own fill.sh prints them over the translation fe0e3e6007cf18bd… (all of the seat's roots in one cut). By AI agents, Wed Nov 11 2026. No macro, syntax, notation, axiom, sorry.
-/
import Derived.Test.YtbddbadmfhplmaaChecked
import GoSem.Claim
import GoSem.ClaimJoined
import GoSem.ClaimMapViews
import Derived.JoinedTies
import Derived.KernelRfl
namespace Go.Proofs.Ytbddbadmfhplmaa
/- THE CELL 'sum', in the pinned program and in every row, IS THE sha256 OF THE DUMP (.gsa) THAT YtbddbadmfhplmaaProg.lean LOADS. Nothing in Lean hashes anything: it is a label: what it is worth is what the hold of that sum in a sandbox is worth. -/
noncomputable def Try.pinned : Pinned := { name := "ytbddbadmfhplmaa", sum := "fe0e3e6007cf18bdcdf852bec753639d7690d5f09eec518cd928f96776b02dd1", checked := Try.checked }
namespace Rows
def none {H : Type} : Left H := { results := [], args := [] }

/-- 'scionrylaw08.RoomTakes': WHATEVER THE INPUT: true; the input reads as it did. -/
def roomTakesSpec : ChangeSpec := { name := "roomTakes", fn := fun _ => fun
  | [d1, d2, d3] => { results := [.lit (.bool true)], args := [d1, d2, d3] }
  | _ => none }
def roomTakesRow : OpenClaim := { program := "ytbddbadmfhplmaa", sum := "fe0e3e6007cf18bdcdf852bec753639d7690d5f09eec518cd928f96776b02dd1", func := "scionry/scionrylaw08.RoomTakes", spec := "roomTakes", unfollowed := true, recurses := true, apart := false }
def RoomTakesSaid : Prop := roomTakesRow.holds Try.pinned (OpenSpec.ofChange roomTakesSpec)

/-- ITS FALSE NEIGHBOUR: 'it returns false'. Refute it at one input. -/
def roomTakesWrong : ChangeSpec := { name := "roomTakes", fn := fun _ => fun
  | [d1, d2, d3] => { results := [.lit (.bool false)], args := [d1, d2, d3] }
  | _ => none }
def RoomTakesWrongFalsely : Prop := roomTakesRow.holds Try.pinned (OpenSpec.ofChange roomTakesWrong)

/-- 'scionrylaw08.RoomShares': WHATEVER THE INPUT: true; the input reads as it did. -/
def roomSharesSpec : ChangeSpec := { name := "roomShares", fn := fun _ => fun
  | [d1, d2] => { results := [.lit (.bool true)], args := [d1, d2] }
  | _ => none }
def roomSharesRow : OpenClaim := { program := "ytbddbadmfhplmaa", sum := "fe0e3e6007cf18bdcdf852bec753639d7690d5f09eec518cd928f96776b02dd1", func := "scionry/scionrylaw08.RoomShares", spec := "roomShares", unfollowed := true, recurses := true, apart := false }
def RoomSharesSaid : Prop := roomSharesRow.holds Try.pinned (OpenSpec.ofChange roomSharesSpec)

/-- ITS FALSE NEIGHBOUR: 'it returns false'. Refute it at one input. -/
def roomSharesWrong : ChangeSpec := { name := "roomShares", fn := fun _ => fun
  | [d1, d2] => { results := [.lit (.bool false)], args := [d1, d2] }
  | _ => none }
def RoomSharesWrongFalsely : Prop := roomSharesRow.holds Try.pinned (OpenSpec.ofChange roomSharesWrong)

/-- 'scionrylaw08.RoomCounts': WHATEVER THE INPUT: true; the input reads as it did. -/
def roomCountsSpec : ChangeSpec := { name := "roomCounts", fn := fun _ => fun
  | [d1, d2, d3] => { results := [.lit (.bool true)], args := [d1, d2, d3] }
  | _ => none }
def roomCountsRow : OpenClaim := { program := "ytbddbadmfhplmaa", sum := "fe0e3e6007cf18bdcdf852bec753639d7690d5f09eec518cd928f96776b02dd1", func := "scionry/scionrylaw08.RoomCounts", spec := "roomCounts", unfollowed := true, recurses := true, apart := false }
def RoomCountsSaid : Prop := roomCountsRow.holds Try.pinned (OpenSpec.ofChange roomCountsSpec)

/-- ITS FALSE NEIGHBOUR: 'it returns false'. Refute it at one input. -/
def roomCountsWrong : ChangeSpec := { name := "roomCounts", fn := fun _ => fun
  | [d1, d2, d3] => { results := [.lit (.bool false)], args := [d1, d2, d3] }
  | _ => none }
def RoomCountsWrongFalsely : Prop := roomCountsRow.holds Try.pinned (OpenSpec.ofChange roomCountsWrong)

/-- 'scionrylaw08.RoomOrder': WHATEVER THE INPUT: true; the input reads as it did. -/
def roomOrderSpec : ChangeSpec := { name := "roomOrder", fn := fun _ => fun
  | [d1, d2, d3, d4, d5] => { results := [.lit (.bool true)], args := [d1, d2, d3, d4, d5] }
  | _ => none }
def roomOrderRow : OpenClaim := { program := "ytbddbadmfhplmaa", sum := "fe0e3e6007cf18bdcdf852bec753639d7690d5f09eec518cd928f96776b02dd1", func := "scionry/scionrylaw08.RoomOrder", spec := "roomOrder", unfollowed := true, recurses := true, apart := false }
def RoomOrderSaid : Prop := roomOrderRow.holds Try.pinned (OpenSpec.ofChange roomOrderSpec)

/-- ITS FALSE NEIGHBOUR: 'it returns false'. Refute it at one input. -/
def roomOrderWrong : ChangeSpec := { name := "roomOrder", fn := fun _ => fun
  | [d1, d2, d3, d4, d5] => { results := [.lit (.bool false)], args := [d1, d2, d3, d4, d5] }
  | _ => none }
def RoomOrderWrongFalsely : Prop := roomOrderRow.holds Try.pinned (OpenSpec.ofChange roomOrderWrong)

/-- 'scionrylaw08.RoomNames': WHATEVER THE INPUT: true; the input reads as it did. -/
def roomNamesSpec : ChangeSpec := { name := "roomNames", fn := fun _ => fun
  | [] => { results := [.lit (.bool true)], args := [] }
  | _ => none }
def roomNamesRow : OpenClaim := { program := "ytbddbadmfhplmaa", sum := "fe0e3e6007cf18bdcdf852bec753639d7690d5f09eec518cd928f96776b02dd1", func := "scionry/scionrylaw08.RoomNames", spec := "roomNames", unfollowed := true, recurses := true, apart := false }
def RoomNamesSaid : Prop := roomNamesRow.holds Try.pinned (OpenSpec.ofChange roomNamesSpec)

/-- ITS FALSE NEIGHBOUR: 'it returns false'. Refute it at one input. -/
def roomNamesWrong : ChangeSpec := { name := "roomNames", fn := fun _ => fun
  | [] => { results := [.lit (.bool false)], args := [] }
  | _ => none }
def RoomNamesWrongFalsely : Prop := roomNamesRow.holds Try.pinned (OpenSpec.ofChange roomNamesWrong)

/-- 'scionrylaw08.RoomDoes': WHATEVER THE INPUT: true; the input reads as it did. -/
def roomDoesSpec : ChangeSpec := { name := "roomDoes", fn := fun _ => fun
  | [d1, d2, d3, d4] => { results := [.lit (.bool true)], args := [d1, d2, d3, d4] }
  | _ => none }
def roomDoesRow : OpenClaim := { program := "ytbddbadmfhplmaa", sum := "fe0e3e6007cf18bdcdf852bec753639d7690d5f09eec518cd928f96776b02dd1", func := "scionry/scionrylaw08.RoomDoes", spec := "roomDoes", unfollowed := true, recurses := true, apart := false }
def RoomDoesSaid : Prop := roomDoesRow.holds Try.pinned (OpenSpec.ofChange roomDoesSpec)

/-- ITS FALSE NEIGHBOUR: 'it returns false'. Refute it at one input. -/
def roomDoesWrong : ChangeSpec := { name := "roomDoes", fn := fun _ => fun
  | [d1, d2, d3, d4] => { results := [.lit (.bool false)], args := [d1, d2, d3, d4] }
  | _ => none }
def RoomDoesWrongFalsely : Prop := roomDoesRow.holds Try.pinned (OpenSpec.ofChange roomDoesWrong)

/-- 'scionrylaw09.DropDoes': WHATEVER THE INPUT: true; the input reads as it did. -/
def dropDoesSpec : ChangeSpec := { name := "dropDoes", fn := fun _ => fun
  | [d1, d2, d3] => { results := [.lit (.bool true)], args := [d1, d2, d3] }
  | _ => none }
def dropDoesRow : OpenClaim := { program := "ytbddbadmfhplmaa", sum := "fe0e3e6007cf18bdcdf852bec753639d7690d5f09eec518cd928f96776b02dd1", func := "scionry/scionrylaw09.DropDoes", spec := "dropDoes", unfollowed := true, recurses := true, apart := false }
def DropDoesSaid : Prop := dropDoesRow.holds Try.pinned (OpenSpec.ofChange dropDoesSpec)

/-- ITS FALSE NEIGHBOUR: 'it returns false'. Refute it at one input. -/
def dropDoesWrong : ChangeSpec := { name := "dropDoes", fn := fun _ => fun
  | [d1, d2, d3] => { results := [.lit (.bool false)], args := [d1, d2, d3] }
  | _ => none }
def DropDoesWrongFalsely : Prop := dropDoesRow.holds Try.pinned (OpenSpec.ofChange dropDoesWrong)

/-- 'scionrylaw09.DropLeaves': WHATEVER THE INPUT: true; the input reads as it did. -/
def dropLeavesSpec : ChangeSpec := { name := "dropLeaves", fn := fun _ => fun
  | [d1, d2] => { results := [.lit (.bool true)], args := [d1, d2] }
  | _ => none }
def dropLeavesRow : OpenClaim := { program := "ytbddbadmfhplmaa", sum := "fe0e3e6007cf18bdcdf852bec753639d7690d5f09eec518cd928f96776b02dd1", func := "scionry/scionrylaw09.DropLeaves", spec := "dropLeaves", unfollowed := true, recurses := true, apart := false }
def DropLeavesSaid : Prop := dropLeavesRow.holds Try.pinned (OpenSpec.ofChange dropLeavesSpec)

/-- ITS FALSE NEIGHBOUR: 'it returns false'. Refute it at one input. -/
def dropLeavesWrong : ChangeSpec := { name := "dropLeaves", fn := fun _ => fun
  | [d1, d2] => { results := [.lit (.bool false)], args := [d1, d2] }
  | _ => none }
def DropLeavesWrongFalsely : Prop := dropLeavesRow.holds Try.pinned (OpenSpec.ofChange dropLeavesWrong)

/-- 'scionrylaw09.DropBack': WHATEVER THE INPUT: true; the input reads as it did. -/
def dropBackSpec : ChangeSpec := { name := "dropBack", fn := fun _ => fun
  | [d1, d2] => { results := [.lit (.bool true)], args := [d1, d2] }
  | _ => none }
def dropBackRow : OpenClaim := { program := "ytbddbadmfhplmaa", sum := "fe0e3e6007cf18bdcdf852bec753639d7690d5f09eec518cd928f96776b02dd1", func := "scionry/scionrylaw09.DropBack", spec := "dropBack", unfollowed := true, recurses := true, apart := false }
def DropBackSaid : Prop := dropBackRow.holds Try.pinned (OpenSpec.ofChange dropBackSpec)

/-- ITS FALSE NEIGHBOUR: 'it returns false'. Refute it at one input. -/
def dropBackWrong : ChangeSpec := { name := "dropBack", fn := fun _ => fun
  | [d1, d2] => { results := [.lit (.bool false)], args := [d1, d2] }
  | _ => none }
def DropBackWrongFalsely : Prop := dropBackRow.holds Try.pinned (OpenSpec.ofChange dropBackWrong)

/-- 'scionrylaw09.DropTwice': WHATEVER THE INPUT: true; the input reads as it did. -/
def dropTwiceSpec : ChangeSpec := { name := "dropTwice", fn := fun _ => fun
  | [d1, d2] => { results := [.lit (.bool true)], args := [d1, d2] }
  | _ => none }
def dropTwiceRow : OpenClaim := { program := "ytbddbadmfhplmaa", sum := "fe0e3e6007cf18bdcdf852bec753639d7690d5f09eec518cd928f96776b02dd1", func := "scionry/scionrylaw09.DropTwice", spec := "dropTwice", unfollowed := true, recurses := true, apart := false }
def DropTwiceSaid : Prop := dropTwiceRow.holds Try.pinned (OpenSpec.ofChange dropTwiceSpec)

/-- ITS FALSE NEIGHBOUR: 'it returns false'. Refute it at one input. -/
def dropTwiceWrong : ChangeSpec := { name := "dropTwice", fn := fun _ => fun
  | [d1, d2] => { results := [.lit (.bool false)], args := [d1, d2] }
  | _ => none }
def DropTwiceWrongFalsely : Prop := dropTwiceRow.holds Try.pinned (OpenSpec.ofChange dropTwiceWrong)

/-- 'scionrylaw09.DropNames': WHATEVER THE INPUT: true; the input reads as it did. -/
def dropNamesSpec : ChangeSpec := { name := "dropNames", fn := fun _ => fun
  | [] => { results := [.lit (.bool true)], args := [] }
  | _ => none }
def dropNamesRow : OpenClaim := { program := "ytbddbadmfhplmaa", sum := "fe0e3e6007cf18bdcdf852bec753639d7690d5f09eec518cd928f96776b02dd1", func := "scionry/scionrylaw09.DropNames", spec := "dropNames", unfollowed := true, recurses := true, apart := false }
def DropNamesSaid : Prop := dropNamesRow.holds Try.pinned (OpenSpec.ofChange dropNamesSpec)

/-- ITS FALSE NEIGHBOUR: 'it returns false'. Refute it at one input. -/
def dropNamesWrong : ChangeSpec := { name := "dropNames", fn := fun _ => fun
  | [] => { results := [.lit (.bool false)], args := [] }
  | _ => none }
def DropNamesWrongFalsely : Prop := dropNamesRow.holds Try.pinned (OpenSpec.ofChange dropNamesWrong)

/-- 'scionrylaw09.DropLooses': WHATEVER THE INPUT: true; the input reads as it did. -/
def dropLoosesSpec : ChangeSpec := { name := "dropLooses", fn := fun _ => fun
  | [d1, d2] => { results := [.lit (.bool true)], args := [d1, d2] }
  | _ => none }
def dropLoosesRow : OpenClaim := { program := "ytbddbadmfhplmaa", sum := "fe0e3e6007cf18bdcdf852bec753639d7690d5f09eec518cd928f96776b02dd1", func := "scionry/scionrylaw09.DropLooses", spec := "dropLooses", unfollowed := true, recurses := true, apart := false }
def DropLoosesSaid : Prop := dropLoosesRow.holds Try.pinned (OpenSpec.ofChange dropLoosesSpec)

/-- ITS FALSE NEIGHBOUR: 'it returns false'. Refute it at one input. -/
def dropLoosesWrong : ChangeSpec := { name := "dropLooses", fn := fun _ => fun
  | [d1, d2] => { results := [.lit (.bool false)], args := [d1, d2] }
  | _ => none }
def DropLoosesWrongFalsely : Prop := dropLoosesRow.holds Try.pinned (OpenSpec.ofChange dropLoosesWrong)

/- THE SECOND FORM. 'bulk': how many values and letters a reading holds, each counted each time it is reached (what is shared counts as often as it is met; a slice's spare places count too). A statement '..UptoSaid' is the law's where the arguments, and the package variables that the reading takes, are together of bulk at most 1048576: NARROWER than '..Said'. Prove '..Said' where nothing that the law and all that it calls make is longer than what came in: it says more and counts as full. Else prove '..UptoSaid'. A law counts once. -/
mutual
def uptoBulk {H : Type} : DataW H → Nat
  | .lit (.string bytes) => bytes.length + 1
  | .lit _ => 1
  | .nil => 1
  | .ptr d => uptoBulk d + 1
  | .slice elems spare => uptoBulkAll elems + uptoBulkAll spare + 1
  | .agg parts => uptoBulkAll parts + 1
  | .iface _ d => uptoBulk d + 1
  | .map entries => uptoBulkEntries entries + 1
  | .held _ => 1
def uptoBulkAll {H : Type} : List (DataW H) → Nat
  | [] => 0
  | d :: r => uptoBulk d + uptoBulkAll r
def uptoBulkEntries {H : Type} : List (Lit × DataW H) → Nat
  | [] => 0
  | x :: r => uptoBulkEntry x + uptoBulkEntries r
def uptoBulkEntry {H : Type} : Lit × DataW H → Nat
  | (.string bytes, d) => bytes.length + uptoBulk d + 1
  | (_, d) => uptoBulk d + 1
 end
def uptoSmall : (H : Type) → List (DataW H) → Bool := fun _ ds => decide (uptoBulkAll ds ≤ 1048576)
def OpenSpec.upto (s : _root_.Go.ChangeSpec) : _root_.Go.OpenSpec := { _root_.Go.OpenSpec.ofChange s with cond := some uptoSmall }

/-- 'scionrylaw08.RoomTakes', WHERE WHAT IT READS IS OF BULK AT MOST 1048576: true; the input reads as it did. -/
def roomTakesUptoRow : OpenClaim := { program := "ytbddbadmfhplmaa", sum := "fe0e3e6007cf18bdcdf852bec753639d7690d5f09eec518cd928f96776b02dd1", func := "scionry/scionrylaw08.RoomTakes", spec := "roomTakes", unfollowed := true, recurses := true, apart := false, narrowed := true }
def RoomTakesUptoSaid : Prop := roomTakesUptoRow.holds Try.pinned (OpenSpec.upto roomTakesSpec)

/-- 'scionrylaw08.RoomShares', WHERE WHAT IT READS IS OF BULK AT MOST 1048576: true; the input reads as it did. -/
def roomSharesUptoRow : OpenClaim := { program := "ytbddbadmfhplmaa", sum := "fe0e3e6007cf18bdcdf852bec753639d7690d5f09eec518cd928f96776b02dd1", func := "scionry/scionrylaw08.RoomShares", spec := "roomShares", unfollowed := true, recurses := true, apart := false, narrowed := true }
def RoomSharesUptoSaid : Prop := roomSharesUptoRow.holds Try.pinned (OpenSpec.upto roomSharesSpec)

/-- 'scionrylaw08.RoomCounts', WHERE WHAT IT READS IS OF BULK AT MOST 1048576: true; the input reads as it did. -/
def roomCountsUptoRow : OpenClaim := { program := "ytbddbadmfhplmaa", sum := "fe0e3e6007cf18bdcdf852bec753639d7690d5f09eec518cd928f96776b02dd1", func := "scionry/scionrylaw08.RoomCounts", spec := "roomCounts", unfollowed := true, recurses := true, apart := false, narrowed := true }
def RoomCountsUptoSaid : Prop := roomCountsUptoRow.holds Try.pinned (OpenSpec.upto roomCountsSpec)

/-- 'scionrylaw08.RoomOrder', WHERE WHAT IT READS IS OF BULK AT MOST 1048576: true; the input reads as it did. -/
def roomOrderUptoRow : OpenClaim := { program := "ytbddbadmfhplmaa", sum := "fe0e3e6007cf18bdcdf852bec753639d7690d5f09eec518cd928f96776b02dd1", func := "scionry/scionrylaw08.RoomOrder", spec := "roomOrder", unfollowed := true, recurses := true, apart := false, narrowed := true }
def RoomOrderUptoSaid : Prop := roomOrderUptoRow.holds Try.pinned (OpenSpec.upto roomOrderSpec)

/-- 'scionrylaw08.RoomNames', WHERE WHAT IT READS IS OF BULK AT MOST 1048576: true; the input reads as it did. -/
def roomNamesUptoRow : OpenClaim := { program := "ytbddbadmfhplmaa", sum := "fe0e3e6007cf18bdcdf852bec753639d7690d5f09eec518cd928f96776b02dd1", func := "scionry/scionrylaw08.RoomNames", spec := "roomNames", unfollowed := true, recurses := true, apart := false, narrowed := true }
def RoomNamesUptoSaid : Prop := roomNamesUptoRow.holds Try.pinned (OpenSpec.upto roomNamesSpec)

/-- 'scionrylaw08.RoomDoes', WHERE WHAT IT READS IS OF BULK AT MOST 1048576: true; the input reads as it did. -/
def roomDoesUptoRow : OpenClaim := { program := "ytbddbadmfhplmaa", sum := "fe0e3e6007cf18bdcdf852bec753639d7690d5f09eec518cd928f96776b02dd1", func := "scionry/scionrylaw08.RoomDoes", spec := "roomDoes", unfollowed := true, recurses := true, apart := false, narrowed := true }
def RoomDoesUptoSaid : Prop := roomDoesUptoRow.holds Try.pinned (OpenSpec.upto roomDoesSpec)

/-- 'scionrylaw09.DropDoes', WHERE WHAT IT READS IS OF BULK AT MOST 1048576: true; the input reads as it did. -/
def dropDoesUptoRow : OpenClaim := { program := "ytbddbadmfhplmaa", sum := "fe0e3e6007cf18bdcdf852bec753639d7690d5f09eec518cd928f96776b02dd1", func := "scionry/scionrylaw09.DropDoes", spec := "dropDoes", unfollowed := true, recurses := true, apart := false, narrowed := true }
def DropDoesUptoSaid : Prop := dropDoesUptoRow.holds Try.pinned (OpenSpec.upto dropDoesSpec)

/-- 'scionrylaw09.DropLeaves', WHERE WHAT IT READS IS OF BULK AT MOST 1048576: true; the input reads as it did. -/
def dropLeavesUptoRow : OpenClaim := { program := "ytbddbadmfhplmaa", sum := "fe0e3e6007cf18bdcdf852bec753639d7690d5f09eec518cd928f96776b02dd1", func := "scionry/scionrylaw09.DropLeaves", spec := "dropLeaves", unfollowed := true, recurses := true, apart := false, narrowed := true }
def DropLeavesUptoSaid : Prop := dropLeavesUptoRow.holds Try.pinned (OpenSpec.upto dropLeavesSpec)

/-- 'scionrylaw09.DropBack', WHERE WHAT IT READS IS OF BULK AT MOST 1048576: true; the input reads as it did. -/
def dropBackUptoRow : OpenClaim := { program := "ytbddbadmfhplmaa", sum := "fe0e3e6007cf18bdcdf852bec753639d7690d5f09eec518cd928f96776b02dd1", func := "scionry/scionrylaw09.DropBack", spec := "dropBack", unfollowed := true, recurses := true, apart := false, narrowed := true }
def DropBackUptoSaid : Prop := dropBackUptoRow.holds Try.pinned (OpenSpec.upto dropBackSpec)

/-- 'scionrylaw09.DropTwice', WHERE WHAT IT READS IS OF BULK AT MOST 1048576: true; the input reads as it did. -/
def dropTwiceUptoRow : OpenClaim := { program := "ytbddbadmfhplmaa", sum := "fe0e3e6007cf18bdcdf852bec753639d7690d5f09eec518cd928f96776b02dd1", func := "scionry/scionrylaw09.DropTwice", spec := "dropTwice", unfollowed := true, recurses := true, apart := false, narrowed := true }
def DropTwiceUptoSaid : Prop := dropTwiceUptoRow.holds Try.pinned (OpenSpec.upto dropTwiceSpec)

/-- 'scionrylaw09.DropNames', WHERE WHAT IT READS IS OF BULK AT MOST 1048576: true; the input reads as it did. -/
def dropNamesUptoRow : OpenClaim := { program := "ytbddbadmfhplmaa", sum := "fe0e3e6007cf18bdcdf852bec753639d7690d5f09eec518cd928f96776b02dd1", func := "scionry/scionrylaw09.DropNames", spec := "dropNames", unfollowed := true, recurses := true, apart := false, narrowed := true }
def DropNamesUptoSaid : Prop := dropNamesUptoRow.holds Try.pinned (OpenSpec.upto dropNamesSpec)

/-- 'scionrylaw09.DropLooses', WHERE WHAT IT READS IS OF BULK AT MOST 1048576: true; the input reads as it did. -/
def dropLoosesUptoRow : OpenClaim := { program := "ytbddbadmfhplmaa", sum := "fe0e3e6007cf18bdcdf852bec753639d7690d5f09eec518cd928f96776b02dd1", func := "scionry/scionrylaw09.DropLooses", spec := "dropLooses", unfollowed := true, recurses := true, apart := false, narrowed := true }
def DropLoosesUptoSaid : Prop := dropLoosesUptoRow.holds Try.pinned (OpenSpec.upto dropLoosesSpec)

end Rows
end Go.Proofs.Ytbddbadmfhplmaa
