/-
  No cell of these rows narrows 'for every input' (looked for: loops, veiled, ifaces, maps, wideKeys, modest, calm, conditions, laid).
  DERIVED. THE GIVEN ROWS OF THIS SEAT. 12 by the template 'for every input the law returns true; each argument reads behind the call as it read before'; 0 by the template 'total and deterministic' (their statements: YtfdogefoodljaaaTotals.lean).
  GIVEN WITH THE SEED: the statements are not yours to turn. If you find one false, say at which input.
  Laid BY PROGRAM, IN A SANDBOX (cutbox-rows.mjs): the forced cells as the released guide's own fill.sh prints them over the translation 0fab7335222758ce… (all of the seat's roots in one cut). By AI agents, Wed Nov 11 2026. No macro, syntax, notation, axiom, sorry.
-/
import Derived.Test.YtfdogefoodljaaaChecked
import GoSem.Claim
import GoSem.ClaimJoined
import GoSem.ClaimMapViews
import Derived.JoinedTies
import Derived.KernelRfl
namespace Go.Proofs.Ytfdogefoodljaaa
/- THE CELL 'sum', in the pinned program and in every row, IS THE sha256 OF THE DUMP (.gsa) THAT YtfdogefoodljaaaProg.lean LOADS. Nothing in Lean hashes anything: it is a label: what it is worth is what the hold of that sum in a sandbox is worth. -/
noncomputable def Try.pinned : Pinned := { name := "ytfdogefoodljaaa", sum := "0fab7335222758cedfed5acd14f3213caeb0b702d52f50831eff545a1b0bff34", checked := Try.checked }
namespace Rows
def none {H : Type} : Left H := { results := [], args := [] }

/-- 'scionrylaw07.CountTurns': WHATEVER THE INPUT: true; the input reads as it did. -/
def countTurnsSpec : ChangeSpec := { name := "countTurns", fn := fun _ => fun
  | [d1, d2] => { results := [.lit (.bool true)], args := [d1, d2] }
  | _ => none }
def countTurnsRow : OpenClaim := { program := "ytfdogefoodljaaa", sum := "0fab7335222758cedfed5acd14f3213caeb0b702d52f50831eff545a1b0bff34", func := "scionry/scionrylaw07.CountTurns", spec := "countTurns", apart := false }
def CountTurnsSaid : Prop := countTurnsRow.holds Try.pinned (OpenSpec.ofChange countTurnsSpec)

/-- ITS FALSE NEIGHBOUR: 'it returns false'. Refute it at one input. -/
def countTurnsWrong : ChangeSpec := { name := "countTurns", fn := fun _ => fun
  | [d1, d2] => { results := [.lit (.bool false)], args := [d1, d2] }
  | _ => none }
def CountTurnsWrongFalsely : Prop := countTurnsRow.holds Try.pinned (OpenSpec.ofChange countTurnsWrong)

/-- 'scionrylaw07.CountApart': WHATEVER THE INPUT: true; the input reads as it did. -/
def countApartSpec : ChangeSpec := { name := "countApart", fn := fun _ => fun
  | [d1, d2, d3] => { results := [.lit (.bool true)], args := [d1, d2, d3] }
  | _ => none }
def countApartRow : OpenClaim := { program := "ytfdogefoodljaaa", sum := "0fab7335222758cedfed5acd14f3213caeb0b702d52f50831eff545a1b0bff34", func := "scionry/scionrylaw07.CountApart", spec := "countApart", apart := false }
def CountApartSaid : Prop := countApartRow.holds Try.pinned (OpenSpec.ofChange countApartSpec)

/-- ITS FALSE NEIGHBOUR: 'it returns false'. Refute it at one input. -/
def countApartWrong : ChangeSpec := { name := "countApart", fn := fun _ => fun
  | [d1, d2, d3] => { results := [.lit (.bool false)], args := [d1, d2, d3] }
  | _ => none }
def CountApartWrongFalsely : Prop := countApartRow.holds Try.pinned (OpenSpec.ofChange countApartWrong)

/-- 'scionrylaw07.CountSides': WHATEVER THE INPUT: true; the input reads as it did. -/
def countSidesSpec : ChangeSpec := { name := "countSides", fn := fun _ => fun
  | [d1, d2, d3] => { results := [.lit (.bool true)], args := [d1, d2, d3] }
  | _ => none }
def countSidesRow : OpenClaim := { program := "ytfdogefoodljaaa", sum := "0fab7335222758cedfed5acd14f3213caeb0b702d52f50831eff545a1b0bff34", func := "scionry/scionrylaw07.CountSides", spec := "countSides", unfollowed := true, recurses := true, apart := false }
def CountSidesSaid : Prop := countSidesRow.holds Try.pinned (OpenSpec.ofChange countSidesSpec)

/-- ITS FALSE NEIGHBOUR: 'it returns false'. Refute it at one input. -/
def countSidesWrong : ChangeSpec := { name := "countSides", fn := fun _ => fun
  | [d1, d2, d3] => { results := [.lit (.bool false)], args := [d1, d2, d3] }
  | _ => none }
def CountSidesWrongFalsely : Prop := countSidesRow.holds Try.pinned (OpenSpec.ofChange countSidesWrong)

/-- 'scionrylaw07.CountTables': WHATEVER THE INPUT: true; the input reads as it did. -/
def countTablesSpec : ChangeSpec := { name := "countTables", fn := fun _ => fun
  | [d1, d2, d3, d4] => { results := [.lit (.bool true)], args := [d1, d2, d3, d4] }
  | _ => none }
def countTablesRow : OpenClaim := { program := "ytfdogefoodljaaa", sum := "0fab7335222758cedfed5acd14f3213caeb0b702d52f50831eff545a1b0bff34", func := "scionry/scionrylaw07.CountTables", spec := "countTables", unfollowed := true, recurses := true, apart := false }
def CountTablesSaid : Prop := countTablesRow.holds Try.pinned (OpenSpec.ofChange countTablesSpec)

/-- ITS FALSE NEIGHBOUR: 'it returns false'. Refute it at one input. -/
def countTablesWrong : ChangeSpec := { name := "countTables", fn := fun _ => fun
  | [d1, d2, d3, d4] => { results := [.lit (.bool false)], args := [d1, d2, d3, d4] }
  | _ => none }
def CountTablesWrongFalsely : Prop := countTablesRow.holds Try.pinned (OpenSpec.ofChange countTablesWrong)

/-- 'scionrylaw07.CountSums': WHATEVER THE INPUT: true; the input reads as it did. -/
def countSumsSpec : ChangeSpec := { name := "countSums", fn := fun _ => fun
  | [d1, d2, d3, d4] => { results := [.lit (.bool true)], args := [d1, d2, d3, d4] }
  | _ => none }
def countSumsRow : OpenClaim := { program := "ytfdogefoodljaaa", sum := "0fab7335222758cedfed5acd14f3213caeb0b702d52f50831eff545a1b0bff34", func := "scionry/scionrylaw07.CountSums", spec := "countSums", unfollowed := true, recurses := true, apart := false }
def CountSumsSaid : Prop := countSumsRow.holds Try.pinned (OpenSpec.ofChange countSumsSpec)

/-- ITS FALSE NEIGHBOUR: 'it returns false'. Refute it at one input. -/
def countSumsWrong : ChangeSpec := { name := "countSums", fn := fun _ => fun
  | [d1, d2, d3, d4] => { results := [.lit (.bool false)], args := [d1, d2, d3, d4] }
  | _ => none }
def CountSumsWrongFalsely : Prop := countSumsRow.holds Try.pinned (OpenSpec.ofChange countSumsWrong)

/-- 'scionrylaw07.CountNames': WHATEVER THE INPUT: true; the input reads as it did. -/
def countNamesSpec : ChangeSpec := { name := "countNames", fn := fun _ => fun
  | [] => { results := [.lit (.bool true)], args := [] }
  | _ => none }
def countNamesRow : OpenClaim := { program := "ytfdogefoodljaaa", sum := "0fab7335222758cedfed5acd14f3213caeb0b702d52f50831eff545a1b0bff34", func := "scionry/scionrylaw07.CountNames", spec := "countNames", unfollowed := true, recurses := true, apart := false }
def CountNamesSaid : Prop := countNamesRow.holds Try.pinned (OpenSpec.ofChange countNamesSpec)

/-- ITS FALSE NEIGHBOUR: 'it returns false'. Refute it at one input. -/
def countNamesWrong : ChangeSpec := { name := "countNames", fn := fun _ => fun
  | [] => { results := [.lit (.bool false)], args := [] }
  | _ => none }
def CountNamesWrongFalsely : Prop := countNamesRow.holds Try.pinned (OpenSpec.ofChange countNamesWrong)

/-- 'scionrylaw06.NodeNames': WHATEVER THE INPUT: true; the input reads as it did. -/
def nodeNamesSpec : ChangeSpec := { name := "nodeNames", fn := fun _ => fun
  | [] => { results := [.lit (.bool true)], args := [] }
  | _ => none }
def nodeNamesRow : OpenClaim := { program := "ytfdogefoodljaaa", sum := "0fab7335222758cedfed5acd14f3213caeb0b702d52f50831eff545a1b0bff34", func := "scionry/scionrylaw06.NodeNames", spec := "nodeNames", unfollowed := true, recurses := true, apart := false }
def NodeNamesSaid : Prop := nodeNamesRow.holds Try.pinned (OpenSpec.ofChange nodeNamesSpec)

/-- ITS FALSE NEIGHBOUR: 'it returns false'. Refute it at one input. -/
def nodeNamesWrong : ChangeSpec := { name := "nodeNames", fn := fun _ => fun
  | [] => { results := [.lit (.bool false)], args := [] }
  | _ => none }
def NodeNamesWrongFalsely : Prop := nodeNamesRow.holds Try.pinned (OpenSpec.ofChange nodeNamesWrong)

/-- 'scionrylaw06.NodePlaces': WHATEVER THE INPUT: true; the input reads as it did. -/
def nodePlacesSpec : ChangeSpec := { name := "nodePlaces", fn := fun _ => fun
  | [d1, d2] => { results := [.lit (.bool true)], args := [d1, d2] }
  | _ => none }
def nodePlacesRow : OpenClaim := { program := "ytfdogefoodljaaa", sum := "0fab7335222758cedfed5acd14f3213caeb0b702d52f50831eff545a1b0bff34", func := "scionry/scionrylaw06.NodePlaces", spec := "nodePlaces", unfollowed := true, recurses := true, apart := false }
def NodePlacesSaid : Prop := nodePlacesRow.holds Try.pinned (OpenSpec.ofChange nodePlacesSpec)

/-- ITS FALSE NEIGHBOUR: 'it returns false'. Refute it at one input. -/
def nodePlacesWrong : ChangeSpec := { name := "nodePlaces", fn := fun _ => fun
  | [d1, d2] => { results := [.lit (.bool false)], args := [d1, d2] }
  | _ => none }
def NodePlacesWrongFalsely : Prop := nodePlacesRow.holds Try.pinned (OpenSpec.ofChange nodePlacesWrong)

/-- 'scionrylaw06.NodeFound': WHATEVER THE INPUT: true; the input reads as it did. -/
def nodeFoundSpec : ChangeSpec := { name := "nodeFound", fn := fun _ => fun
  | [d1, d2, d3] => { results := [.lit (.bool true)], args := [d1, d2, d3] }
  | _ => none }
def nodeFoundRow : OpenClaim := { program := "ytfdogefoodljaaa", sum := "0fab7335222758cedfed5acd14f3213caeb0b702d52f50831eff545a1b0bff34", func := "scionry/scionrylaw06.NodeFound", spec := "nodeFound", unfollowed := true, recurses := true, apart := false }
def NodeFoundSaid : Prop := nodeFoundRow.holds Try.pinned (OpenSpec.ofChange nodeFoundSpec)

/-- ITS FALSE NEIGHBOUR: 'it returns false'. Refute it at one input. -/
def nodeFoundWrong : ChangeSpec := { name := "nodeFound", fn := fun _ => fun
  | [d1, d2, d3] => { results := [.lit (.bool false)], args := [d1, d2, d3] }
  | _ => none }
def NodeFoundWrongFalsely : Prop := nodeFoundRow.holds Try.pinned (OpenSpec.ofChange nodeFoundWrong)

/-- 'scionrylaw06.NodeBack': WHATEVER THE INPUT: true; the input reads as it did. -/
def nodeBackSpec : ChangeSpec := { name := "nodeBack", fn := fun _ => fun
  | [d1, d2] => { results := [.lit (.bool true)], args := [d1, d2] }
  | _ => none }
def nodeBackRow : OpenClaim := { program := "ytfdogefoodljaaa", sum := "0fab7335222758cedfed5acd14f3213caeb0b702d52f50831eff545a1b0bff34", func := "scionry/scionrylaw06.NodeBack", spec := "nodeBack", unfollowed := true, recurses := true, apart := false }
def NodeBackSaid : Prop := nodeBackRow.holds Try.pinned (OpenSpec.ofChange nodeBackSpec)

/-- ITS FALSE NEIGHBOUR: 'it returns false'. Refute it at one input. -/
def nodeBackWrong : ChangeSpec := { name := "nodeBack", fn := fun _ => fun
  | [d1, d2] => { results := [.lit (.bool false)], args := [d1, d2] }
  | _ => none }
def NodeBackWrongFalsely : Prop := nodeBackRow.holds Try.pinned (OpenSpec.ofChange nodeBackWrong)

/-- 'scionrylaw06.NodeCodes': WHATEVER THE INPUT: true; the input reads as it did. -/
def nodeCodesSpec : ChangeSpec := { name := "nodeCodes", fn := fun _ => fun
  | [d1, d2, d3, d4] => { results := [.lit (.bool true)], args := [d1, d2, d3, d4] }
  | _ => none }
def nodeCodesRow : OpenClaim := { program := "ytfdogefoodljaaa", sum := "0fab7335222758cedfed5acd14f3213caeb0b702d52f50831eff545a1b0bff34", func := "scionry/scionrylaw06.NodeCodes", spec := "nodeCodes", unfollowed := true, recurses := true, apart := false }
def NodeCodesSaid : Prop := nodeCodesRow.holds Try.pinned (OpenSpec.ofChange nodeCodesSpec)

/-- ITS FALSE NEIGHBOUR: 'it returns false'. Refute it at one input. -/
def nodeCodesWrong : ChangeSpec := { name := "nodeCodes", fn := fun _ => fun
  | [d1, d2, d3, d4] => { results := [.lit (.bool false)], args := [d1, d2, d3, d4] }
  | _ => none }
def NodeCodesWrongFalsely : Prop := nodeCodesRow.holds Try.pinned (OpenSpec.ofChange nodeCodesWrong)

/-- 'scionrylaw06.NodeUnlike': WHATEVER THE INPUT: true; the input reads as it did. -/
def nodeUnlikeSpec : ChangeSpec := { name := "nodeUnlike", fn := fun _ => fun
  | [d1, d2] => { results := [.lit (.bool true)], args := [d1, d2] }
  | _ => none }
def nodeUnlikeRow : OpenClaim := { program := "ytfdogefoodljaaa", sum := "0fab7335222758cedfed5acd14f3213caeb0b702d52f50831eff545a1b0bff34", func := "scionry/scionrylaw06.NodeUnlike", spec := "nodeUnlike", unfollowed := true, recurses := true, apart := false }
def NodeUnlikeSaid : Prop := nodeUnlikeRow.holds Try.pinned (OpenSpec.ofChange nodeUnlikeSpec)

/-- ITS FALSE NEIGHBOUR: 'it returns false'. Refute it at one input. -/
def nodeUnlikeWrong : ChangeSpec := { name := "nodeUnlike", fn := fun _ => fun
  | [d1, d2] => { results := [.lit (.bool false)], args := [d1, d2] }
  | _ => none }
def NodeUnlikeWrongFalsely : Prop := nodeUnlikeRow.holds Try.pinned (OpenSpec.ofChange nodeUnlikeWrong)

/- THE SECOND FORM. 'bulk': how many values and letters a reading holds, each counted each time it is reached (what is shared counts as often as it is met; a slice's spare places count too). A statement '..UptoSaid' is the law's where the arguments, and the package variables that the reading takes, are together of bulk at most 1048576: NARROWER than '..Said'. Prove '..Said' where nothing that the law and all that it calls make is longer than what came in: it says more and counts as full. Else prove '..UptoSaid'. A law counts once. -/
mutual
def uptoBulk {H : Type} : DataW H → Nat
  | .lit (.string bytes) => bytes.length + 1
  | .lit _ => 1
  | .nil => 1
  | .ptr d => uptoBulk d + 1
  | .slice elems spare => uptoBulkAll elems + uptoBulkAll spare + 1
  | .agg parts => uptoBulkAll parts + 1
  | .iface _ d => uptoBulk d + 1
  | .map entries => uptoBulkEntries entries + 1
  | .held _ => 1
def uptoBulkAll {H : Type} : List (DataW H) → Nat
  | [] => 0
  | d :: r => uptoBulk d + uptoBulkAll r
def uptoBulkEntries {H : Type} : List (Lit × DataW H) → Nat
  | [] => 0
  | x :: r => uptoBulkEntry x + uptoBulkEntries r
def uptoBulkEntry {H : Type} : Lit × DataW H → Nat
  | (.string bytes, d) => bytes.length + uptoBulk d + 1
  | (_, d) => uptoBulk d + 1
 end
def uptoSmall : (H : Type) → List (DataW H) → Bool := fun _ ds => decide (uptoBulkAll ds ≤ 1048576)
def OpenSpec.upto (s : _root_.Go.ChangeSpec) : _root_.Go.OpenSpec := { _root_.Go.OpenSpec.ofChange s with cond := some uptoSmall }

/-- 'scionrylaw07.CountTurns', WHERE WHAT IT READS IS OF BULK AT MOST 1048576: true; the input reads as it did. -/
def countTurnsUptoRow : OpenClaim := { program := "ytfdogefoodljaaa", sum := "0fab7335222758cedfed5acd14f3213caeb0b702d52f50831eff545a1b0bff34", func := "scionry/scionrylaw07.CountTurns", spec := "countTurns", apart := false, narrowed := true }
def CountTurnsUptoSaid : Prop := countTurnsUptoRow.holds Try.pinned (OpenSpec.upto countTurnsSpec)

/-- 'scionrylaw07.CountApart', WHERE WHAT IT READS IS OF BULK AT MOST 1048576: true; the input reads as it did. -/
def countApartUptoRow : OpenClaim := { program := "ytfdogefoodljaaa", sum := "0fab7335222758cedfed5acd14f3213caeb0b702d52f50831eff545a1b0bff34", func := "scionry/scionrylaw07.CountApart", spec := "countApart", apart := false, narrowed := true }
def CountApartUptoSaid : Prop := countApartUptoRow.holds Try.pinned (OpenSpec.upto countApartSpec)

/-- 'scionrylaw07.CountSides', WHERE WHAT IT READS IS OF BULK AT MOST 1048576: true; the input reads as it did. -/
def countSidesUptoRow : OpenClaim := { program := "ytfdogefoodljaaa", sum := "0fab7335222758cedfed5acd14f3213caeb0b702d52f50831eff545a1b0bff34", func := "scionry/scionrylaw07.CountSides", spec := "countSides", unfollowed := true, recurses := true, apart := false, narrowed := true }
def CountSidesUptoSaid : Prop := countSidesUptoRow.holds Try.pinned (OpenSpec.upto countSidesSpec)

/-- 'scionrylaw07.CountTables', WHERE WHAT IT READS IS OF BULK AT MOST 1048576: true; the input reads as it did. -/
def countTablesUptoRow : OpenClaim := { program := "ytfdogefoodljaaa", sum := "0fab7335222758cedfed5acd14f3213caeb0b702d52f50831eff545a1b0bff34", func := "scionry/scionrylaw07.CountTables", spec := "countTables", unfollowed := true, recurses := true, apart := false, narrowed := true }
def CountTablesUptoSaid : Prop := countTablesUptoRow.holds Try.pinned (OpenSpec.upto countTablesSpec)

/-- 'scionrylaw07.CountSums', WHERE WHAT IT READS IS OF BULK AT MOST 1048576: true; the input reads as it did. -/
def countSumsUptoRow : OpenClaim := { program := "ytfdogefoodljaaa", sum := "0fab7335222758cedfed5acd14f3213caeb0b702d52f50831eff545a1b0bff34", func := "scionry/scionrylaw07.CountSums", spec := "countSums", unfollowed := true, recurses := true, apart := false, narrowed := true }
def CountSumsUptoSaid : Prop := countSumsUptoRow.holds Try.pinned (OpenSpec.upto countSumsSpec)

/-- 'scionrylaw07.CountNames', WHERE WHAT IT READS IS OF BULK AT MOST 1048576: true; the input reads as it did. -/
def countNamesUptoRow : OpenClaim := { program := "ytfdogefoodljaaa", sum := "0fab7335222758cedfed5acd14f3213caeb0b702d52f50831eff545a1b0bff34", func := "scionry/scionrylaw07.CountNames", spec := "countNames", unfollowed := true, recurses := true, apart := false, narrowed := true }
def CountNamesUptoSaid : Prop := countNamesUptoRow.holds Try.pinned (OpenSpec.upto countNamesSpec)

/-- 'scionrylaw06.NodeNames', WHERE WHAT IT READS IS OF BULK AT MOST 1048576: true; the input reads as it did. -/
def nodeNamesUptoRow : OpenClaim := { program := "ytfdogefoodljaaa", sum := "0fab7335222758cedfed5acd14f3213caeb0b702d52f50831eff545a1b0bff34", func := "scionry/scionrylaw06.NodeNames", spec := "nodeNames", unfollowed := true, recurses := true, apart := false, narrowed := true }
def NodeNamesUptoSaid : Prop := nodeNamesUptoRow.holds Try.pinned (OpenSpec.upto nodeNamesSpec)

/-- 'scionrylaw06.NodePlaces', WHERE WHAT IT READS IS OF BULK AT MOST 1048576: true; the input reads as it did. -/
def nodePlacesUptoRow : OpenClaim := { program := "ytfdogefoodljaaa", sum := "0fab7335222758cedfed5acd14f3213caeb0b702d52f50831eff545a1b0bff34", func := "scionry/scionrylaw06.NodePlaces", spec := "nodePlaces", unfollowed := true, recurses := true, apart := false, narrowed := true }
def NodePlacesUptoSaid : Prop := nodePlacesUptoRow.holds Try.pinned (OpenSpec.upto nodePlacesSpec)

/-- 'scionrylaw06.NodeFound', WHERE WHAT IT READS IS OF BULK AT MOST 1048576: true; the input reads as it did. -/
def nodeFoundUptoRow : OpenClaim := { program := "ytfdogefoodljaaa", sum := "0fab7335222758cedfed5acd14f3213caeb0b702d52f50831eff545a1b0bff34", func := "scionry/scionrylaw06.NodeFound", spec := "nodeFound", unfollowed := true, recurses := true, apart := false, narrowed := true }
def NodeFoundUptoSaid : Prop := nodeFoundUptoRow.holds Try.pinned (OpenSpec.upto nodeFoundSpec)

/-- 'scionrylaw06.NodeBack', WHERE WHAT IT READS IS OF BULK AT MOST 1048576: true; the input reads as it did. -/
def nodeBackUptoRow : OpenClaim := { program := "ytfdogefoodljaaa", sum := "0fab7335222758cedfed5acd14f3213caeb0b702d52f50831eff545a1b0bff34", func := "scionry/scionrylaw06.NodeBack", spec := "nodeBack", unfollowed := true, recurses := true, apart := false, narrowed := true }
def NodeBackUptoSaid : Prop := nodeBackUptoRow.holds Try.pinned (OpenSpec.upto nodeBackSpec)

/-- 'scionrylaw06.NodeCodes', WHERE WHAT IT READS IS OF BULK AT MOST 1048576: true; the input reads as it did. -/
def nodeCodesUptoRow : OpenClaim := { program := "ytfdogefoodljaaa", sum := "0fab7335222758cedfed5acd14f3213caeb0b702d52f50831eff545a1b0bff34", func := "scionry/scionrylaw06.NodeCodes", spec := "nodeCodes", unfollowed := true, recurses := true, apart := false, narrowed := true }
def NodeCodesUptoSaid : Prop := nodeCodesUptoRow.holds Try.pinned (OpenSpec.upto nodeCodesSpec)

/-- 'scionrylaw06.NodeUnlike', WHERE WHAT IT READS IS OF BULK AT MOST 1048576: true; the input reads as it did. -/
def nodeUnlikeUptoRow : OpenClaim := { program := "ytfdogefoodljaaa", sum := "0fab7335222758cedfed5acd14f3213caeb0b702d52f50831eff545a1b0bff34", func := "scionry/scionrylaw06.NodeUnlike", spec := "nodeUnlike", unfollowed := true, recurses := true, apart := false, narrowed := true }
def NodeUnlikeUptoSaid : Prop := nodeUnlikeUptoRow.holds Try.pinned (OpenSpec.upto nodeUnlikeSpec)

end Rows
end Go.Proofs.Ytfdogefoodljaaa
