/-
  No cell of these rows narrows 'for every input' (looked for: loops, veiled, ifaces, maps, wideKeys, modest, calm, conditions, laid).
  DERIVED. THE GIVEN ROWS OF THIS SEAT. 12 by the template 'for every input the law returns true; each argument reads behind the call as it read before'; 0 by the template 'total and deterministic' (their statements: YtldidclnfkmonaaTotals.lean).
  GIVEN WITH THE SEED: the statements are not yours to turn. If you find one false, say at which input.
  Laid BY PROGRAM, IN A SANDBOX (cutbox-rows.mjs): the forced cells as the released guide's own fill.sh prints them over the translation 620448bcccb66203… (all of the seat's roots in one cut). By AI agents, Wed Nov 11 2026. No macro, syntax, notation, axiom, sorry.
-/
import Derived.Test.YtldidclnfkmonaaChecked
import GoSem.Claim
import GoSem.ClaimJoined
import GoSem.ClaimMapViews
import Derived.JoinedTies
import Derived.KernelRfl
namespace Go.Proofs.Ytldidclnfkmonaa
/- THE CELL 'sum', in the pinned program and in every row, IS THE sha256 OF THE DUMP (.gsa) THAT YtldidclnfkmonaaProg.lean LOADS. Nothing in Lean hashes anything: it is a label: what it is worth is what the hold of that sum in a sandbox is worth. -/
noncomputable def Try.pinned : Pinned := { name := "ytldidclnfkmonaa", sum := "620448bcccb66203ed5fcffae2ec7a6d88507370780c5201ac4a9594cbfc9e1b", checked := Try.checked }
namespace Rows
def none {H : Type} : Left H := { results := [], args := [] }

/-- 'scionrylaw05.ItemOrder': WHATEVER THE INPUT: true; the input reads as it did. -/
def itemOrderSpec : ChangeSpec := { name := "itemOrder", fn := fun _ => fun
  | [d1, d2, d3] => { results := [.lit (.bool true)], args := [d1, d2, d3] }
  | _ => none }
def itemOrderRow : OpenClaim := { program := "ytldidclnfkmonaa", sum := "620448bcccb66203ed5fcffae2ec7a6d88507370780c5201ac4a9594cbfc9e1b", func := "scionry/scionrylaw05.ItemOrder", spec := "itemOrder", apart := false }
def ItemOrderSaid : Prop := itemOrderRow.holds Try.pinned (OpenSpec.ofChange itemOrderSpec)

/-- ITS FALSE NEIGHBOUR: 'it returns false'. Refute it at one input. -/
def itemOrderWrong : ChangeSpec := { name := "itemOrder", fn := fun _ => fun
  | [d1, d2, d3] => { results := [.lit (.bool false)], args := [d1, d2, d3] }
  | _ => none }
def ItemOrderWrongFalsely : Prop := itemOrderRow.holds Try.pinned (OpenSpec.ofChange itemOrderWrong)

/-- 'scionrylaw05.ItemUnlike': WHATEVER THE INPUT: true; the input reads as it did. -/
def itemUnlikeSpec : ChangeSpec := { name := "itemUnlike", fn := fun _ => fun
  | [d1, d2] => { results := [.lit (.bool true)], args := [d1, d2] }
  | _ => none }
def itemUnlikeRow : OpenClaim := { program := "ytldidclnfkmonaa", sum := "620448bcccb66203ed5fcffae2ec7a6d88507370780c5201ac4a9594cbfc9e1b", func := "scionry/scionrylaw05.ItemUnlike", spec := "itemUnlike", apart := false }
def ItemUnlikeSaid : Prop := itemUnlikeRow.holds Try.pinned (OpenSpec.ofChange itemUnlikeSpec)

/-- ITS FALSE NEIGHBOUR: 'it returns false'. Refute it at one input. -/
def itemUnlikeWrong : ChangeSpec := { name := "itemUnlike", fn := fun _ => fun
  | [d1, d2] => { results := [.lit (.bool false)], args := [d1, d2] }
  | _ => none }
def ItemUnlikeWrongFalsely : Prop := itemUnlikeRow.holds Try.pinned (OpenSpec.ofChange itemUnlikeWrong)

/-- 'scionrylaw03.DevBounds': WHATEVER THE INPUT: true; the input reads as it did. -/
def devBoundsSpec : ChangeSpec := { name := "devBounds", fn := fun _ => fun
  | [d1, d2, d3] => { results := [.lit (.bool true)], args := [d1, d2, d3] }
  | _ => none }
def devBoundsRow : OpenClaim := { program := "ytldidclnfkmonaa", sum := "620448bcccb66203ed5fcffae2ec7a6d88507370780c5201ac4a9594cbfc9e1b", func := "scionry/scionrylaw03.DevBounds", spec := "devBounds", unfollowed := true, recurses := true, apart := false }
def DevBoundsSaid : Prop := devBoundsRow.holds Try.pinned (OpenSpec.ofChange devBoundsSpec)

/-- ITS FALSE NEIGHBOUR: 'it returns false'. Refute it at one input. -/
def devBoundsWrong : ChangeSpec := { name := "devBounds", fn := fun _ => fun
  | [d1, d2, d3] => { results := [.lit (.bool false)], args := [d1, d2, d3] }
  | _ => none }
def DevBoundsWrongFalsely : Prop := devBoundsRow.holds Try.pinned (OpenSpec.ofChange devBoundsWrong)

/-- 'scionrylaw05.ItemTwins': WHATEVER THE INPUT: true; the input reads as it did. -/
def itemTwinsSpec : ChangeSpec := { name := "itemTwins", fn := fun _ => fun
  | [d1, d2] => { results := [.lit (.bool true)], args := [d1, d2] }
  | _ => none }
def itemTwinsRow : OpenClaim := { program := "ytldidclnfkmonaa", sum := "620448bcccb66203ed5fcffae2ec7a6d88507370780c5201ac4a9594cbfc9e1b", func := "scionry/scionrylaw05.ItemTwins", spec := "itemTwins", apart := false }
def ItemTwinsSaid : Prop := itemTwinsRow.holds Try.pinned (OpenSpec.ofChange itemTwinsSpec)

/-- ITS FALSE NEIGHBOUR: 'it returns false'. Refute it at one input. -/
def itemTwinsWrong : ChangeSpec := { name := "itemTwins", fn := fun _ => fun
  | [d1, d2] => { results := [.lit (.bool false)], args := [d1, d2] }
  | _ => none }
def ItemTwinsWrongFalsely : Prop := itemTwinsRow.holds Try.pinned (OpenSpec.ofChange itemTwinsWrong)

/-- 'scionrylaw03.DevReads': WHATEVER THE INPUT: true; the input reads as it did. -/
def devReadsSpec : ChangeSpec := { name := "devReads", fn := fun _ => fun
  | [d1, d2, d3, d4] => { results := [.lit (.bool true)], args := [d1, d2, d3, d4] }
  | _ => none }
def devReadsRow : OpenClaim := { program := "ytldidclnfkmonaa", sum := "620448bcccb66203ed5fcffae2ec7a6d88507370780c5201ac4a9594cbfc9e1b", func := "scionry/scionrylaw03.DevReads", spec := "devReads", unfollowed := true, recurses := true, apart := false }
def DevReadsSaid : Prop := devReadsRow.holds Try.pinned (OpenSpec.ofChange devReadsSpec)

/-- ITS FALSE NEIGHBOUR: 'it returns false'. Refute it at one input. -/
def devReadsWrong : ChangeSpec := { name := "devReads", fn := fun _ => fun
  | [d1, d2, d3, d4] => { results := [.lit (.bool false)], args := [d1, d2, d3, d4] }
  | _ => none }
def DevReadsWrongFalsely : Prop := devReadsRow.holds Try.pinned (OpenSpec.ofChange devReadsWrong)

/-- 'scionrylaw03.DevNames': WHATEVER THE INPUT: true; the input reads as it did. -/
def devNamesSpec : ChangeSpec := { name := "devNames", fn := fun _ => fun
  | [] => { results := [.lit (.bool true)], args := [] }
  | _ => none }
def devNamesRow : OpenClaim := { program := "ytldidclnfkmonaa", sum := "620448bcccb66203ed5fcffae2ec7a6d88507370780c5201ac4a9594cbfc9e1b", func := "scionry/scionrylaw03.DevNames", spec := "devNames", unfollowed := true, recurses := true, apart := false }
def DevNamesSaid : Prop := devNamesRow.holds Try.pinned (OpenSpec.ofChange devNamesSpec)

/-- ITS FALSE NEIGHBOUR: 'it returns false'. Refute it at one input. -/
def devNamesWrong : ChangeSpec := { name := "devNames", fn := fun _ => fun
  | [] => { results := [.lit (.bool false)], args := [] }
  | _ => none }
def DevNamesWrongFalsely : Prop := devNamesRow.holds Try.pinned (OpenSpec.ofChange devNamesWrong)

/-- 'scionrylaw05.ItemNames': WHATEVER THE INPUT: true; the input reads as it did. -/
def itemNamesSpec : ChangeSpec := { name := "itemNames", fn := fun _ => fun
  | [] => { results := [.lit (.bool true)], args := [] }
  | _ => none }
def itemNamesRow : OpenClaim := { program := "ytldidclnfkmonaa", sum := "620448bcccb66203ed5fcffae2ec7a6d88507370780c5201ac4a9594cbfc9e1b", func := "scionry/scionrylaw05.ItemNames", spec := "itemNames", unfollowed := true, recurses := true, apart := false }
def ItemNamesSaid : Prop := itemNamesRow.holds Try.pinned (OpenSpec.ofChange itemNamesSpec)

/-- ITS FALSE NEIGHBOUR: 'it returns false'. Refute it at one input. -/
def itemNamesWrong : ChangeSpec := { name := "itemNames", fn := fun _ => fun
  | [] => { results := [.lit (.bool false)], args := [] }
  | _ => none }
def ItemNamesWrongFalsely : Prop := itemNamesRow.holds Try.pinned (OpenSpec.ofChange itemNamesWrong)

/-- 'scionrylaw05.ItemCodes': WHATEVER THE INPUT: true; the input reads as it did. -/
def itemCodesSpec : ChangeSpec := { name := "itemCodes", fn := fun _ => fun
  | [d1, d2, d3] => { results := [.lit (.bool true)], args := [d1, d2, d3] }
  | _ => none }
def itemCodesRow : OpenClaim := { program := "ytldidclnfkmonaa", sum := "620448bcccb66203ed5fcffae2ec7a6d88507370780c5201ac4a9594cbfc9e1b", func := "scionry/scionrylaw05.ItemCodes", spec := "itemCodes", unfollowed := true, recurses := true, apart := false }
def ItemCodesSaid : Prop := itemCodesRow.holds Try.pinned (OpenSpec.ofChange itemCodesSpec)

/-- ITS FALSE NEIGHBOUR: 'it returns false'. Refute it at one input. -/
def itemCodesWrong : ChangeSpec := { name := "itemCodes", fn := fun _ => fun
  | [d1, d2, d3] => { results := [.lit (.bool false)], args := [d1, d2, d3] }
  | _ => none }
def ItemCodesWrongFalsely : Prop := itemCodesRow.holds Try.pinned (OpenSpec.ofChange itemCodesWrong)

/-- 'scionrylaw05.ItemBack': WHATEVER THE INPUT: true; the input reads as it did. -/
def itemBackSpec : ChangeSpec := { name := "itemBack", fn := fun _ => fun
  | [d1, d2, d3] => { results := [.lit (.bool true)], args := [d1, d2, d3] }
  | _ => none }
def itemBackRow : OpenClaim := { program := "ytldidclnfkmonaa", sum := "620448bcccb66203ed5fcffae2ec7a6d88507370780c5201ac4a9594cbfc9e1b", func := "scionry/scionrylaw05.ItemBack", spec := "itemBack", unfollowed := true, recurses := true, apart := false }
def ItemBackSaid : Prop := itemBackRow.holds Try.pinned (OpenSpec.ofChange itemBackSpec)

/-- ITS FALSE NEIGHBOUR: 'it returns false'. Refute it at one input. -/
def itemBackWrong : ChangeSpec := { name := "itemBack", fn := fun _ => fun
  | [d1, d2, d3] => { results := [.lit (.bool false)], args := [d1, d2, d3] }
  | _ => none }
def ItemBackWrongFalsely : Prop := itemBackRow.holds Try.pinned (OpenSpec.ofChange itemBackWrong)

/-- 'scionrylaw03.DevDoes': WHATEVER THE INPUT: true; the input reads as it did. -/
def devDoesSpec : ChangeSpec := { name := "devDoes", fn := fun _ => fun
  | [d1, d2, d3, d4, d5] => { results := [.lit (.bool true)], args := [d1, d2, d3, d4, d5] }
  | _ => none }
def devDoesRow : OpenClaim := { program := "ytldidclnfkmonaa", sum := "620448bcccb66203ed5fcffae2ec7a6d88507370780c5201ac4a9594cbfc9e1b", func := "scionry/scionrylaw03.DevDoes", spec := "devDoes", unfollowed := true, recurses := true, apart := false }
def DevDoesSaid : Prop := devDoesRow.holds Try.pinned (OpenSpec.ofChange devDoesSpec)

/-- ITS FALSE NEIGHBOUR: 'it returns false'. Refute it at one input. -/
def devDoesWrong : ChangeSpec := { name := "devDoes", fn := fun _ => fun
  | [d1, d2, d3, d4, d5] => { results := [.lit (.bool false)], args := [d1, d2, d3, d4, d5] }
  | _ => none }
def DevDoesWrongFalsely : Prop := devDoesRow.holds Try.pinned (OpenSpec.ofChange devDoesWrong)

/-- 'scionrylaw03.DevCrashes': WHATEVER THE INPUT: true; the input reads as it did. -/
def devCrashesSpec : ChangeSpec := { name := "devCrashes", fn := fun _ => fun
  | [d1, d2, d3] => { results := [.lit (.bool true)], args := [d1, d2, d3] }
  | _ => none }
def devCrashesRow : OpenClaim := { program := "ytldidclnfkmonaa", sum := "620448bcccb66203ed5fcffae2ec7a6d88507370780c5201ac4a9594cbfc9e1b", func := "scionry/scionrylaw03.DevCrashes", spec := "devCrashes", unfollowed := true, recurses := true, apart := false }
def DevCrashesSaid : Prop := devCrashesRow.holds Try.pinned (OpenSpec.ofChange devCrashesSpec)

/-- ITS FALSE NEIGHBOUR: 'it returns false'. Refute it at one input. -/
def devCrashesWrong : ChangeSpec := { name := "devCrashes", fn := fun _ => fun
  | [d1, d2, d3] => { results := [.lit (.bool false)], args := [d1, d2, d3] }
  | _ => none }
def DevCrashesWrongFalsely : Prop := devCrashesRow.holds Try.pinned (OpenSpec.ofChange devCrashesWrong)

/-- 'scionrylaw03.DevApart': WHATEVER THE INPUT: true; the input reads as it did. -/
def devApartSpec : ChangeSpec := { name := "devApart", fn := fun _ => fun
  | [d1, d2, d3, d4, d5] => { results := [.lit (.bool true)], args := [d1, d2, d3, d4, d5] }
  | _ => none }
def devApartRow : OpenClaim := { program := "ytldidclnfkmonaa", sum := "620448bcccb66203ed5fcffae2ec7a6d88507370780c5201ac4a9594cbfc9e1b", func := "scionry/scionrylaw03.DevApart", spec := "devApart", unfollowed := true, recurses := true, apart := false }
def DevApartSaid : Prop := devApartRow.holds Try.pinned (OpenSpec.ofChange devApartSpec)

/-- ITS FALSE NEIGHBOUR: 'it returns false'. Refute it at one input. -/
def devApartWrong : ChangeSpec := { name := "devApart", fn := fun _ => fun
  | [d1, d2, d3, d4, d5] => { results := [.lit (.bool false)], args := [d1, d2, d3, d4, d5] }
  | _ => none }
def DevApartWrongFalsely : Prop := devApartRow.holds Try.pinned (OpenSpec.ofChange devApartWrong)

/- THE SECOND FORM. 'bulk': how many values and letters a reading holds, each counted each time it is reached (what is shared counts as often as it is met; a slice's spare places count too). A statement '..UptoSaid' is the law's where the arguments, and the package variables that the reading takes, are together of bulk at most 1048576: NARROWER than '..Said'. Prove '..Said' where nothing that the law and all that it calls make is longer than what came in: it says more and counts as full. Else prove '..UptoSaid'. A law counts once. -/
mutual
def uptoBulk {H : Type} : DataW H → Nat
  | .lit (.string bytes) => bytes.length + 1
  | .lit _ => 1
  | .nil => 1
  | .ptr d => uptoBulk d + 1
  | .slice elems spare => uptoBulkAll elems + uptoBulkAll spare + 1
  | .agg parts => uptoBulkAll parts + 1
  | .iface _ d => uptoBulk d + 1
  | .map entries => uptoBulkEntries entries + 1
  | .held _ => 1
def uptoBulkAll {H : Type} : List (DataW H) → Nat
  | [] => 0
  | d :: r => uptoBulk d + uptoBulkAll r
def uptoBulkEntries {H : Type} : List (Lit × DataW H) → Nat
  | [] => 0
  | x :: r => uptoBulkEntry x + uptoBulkEntries r
def uptoBulkEntry {H : Type} : Lit × DataW H → Nat
  | (.string bytes, d) => bytes.length + uptoBulk d + 1
  | (_, d) => uptoBulk d + 1
 end
def uptoSmall : (H : Type) → List (DataW H) → Bool := fun _ ds => decide (uptoBulkAll ds ≤ 1048576)
def OpenSpec.upto (s : _root_.Go.ChangeSpec) : _root_.Go.OpenSpec := { _root_.Go.OpenSpec.ofChange s with cond := some uptoSmall }

/-- 'scionrylaw05.ItemOrder', WHERE WHAT IT READS IS OF BULK AT MOST 1048576: true; the input reads as it did. -/
def itemOrderUptoRow : OpenClaim := { program := "ytldidclnfkmonaa", sum := "620448bcccb66203ed5fcffae2ec7a6d88507370780c5201ac4a9594cbfc9e1b", func := "scionry/scionrylaw05.ItemOrder", spec := "itemOrder", apart := false, narrowed := true }
def ItemOrderUptoSaid : Prop := itemOrderUptoRow.holds Try.pinned (OpenSpec.upto itemOrderSpec)

/-- 'scionrylaw05.ItemUnlike', WHERE WHAT IT READS IS OF BULK AT MOST 1048576: true; the input reads as it did. -/
def itemUnlikeUptoRow : OpenClaim := { program := "ytldidclnfkmonaa", sum := "620448bcccb66203ed5fcffae2ec7a6d88507370780c5201ac4a9594cbfc9e1b", func := "scionry/scionrylaw05.ItemUnlike", spec := "itemUnlike", apart := false, narrowed := true }
def ItemUnlikeUptoSaid : Prop := itemUnlikeUptoRow.holds Try.pinned (OpenSpec.upto itemUnlikeSpec)

/-- 'scionrylaw03.DevBounds', WHERE WHAT IT READS IS OF BULK AT MOST 1048576: true; the input reads as it did. -/
def devBoundsUptoRow : OpenClaim := { program := "ytldidclnfkmonaa", sum := "620448bcccb66203ed5fcffae2ec7a6d88507370780c5201ac4a9594cbfc9e1b", func := "scionry/scionrylaw03.DevBounds", spec := "devBounds", unfollowed := true, recurses := true, apart := false, narrowed := true }
def DevBoundsUptoSaid : Prop := devBoundsUptoRow.holds Try.pinned (OpenSpec.upto devBoundsSpec)

/-- 'scionrylaw05.ItemTwins', WHERE WHAT IT READS IS OF BULK AT MOST 1048576: true; the input reads as it did. -/
def itemTwinsUptoRow : OpenClaim := { program := "ytldidclnfkmonaa", sum := "620448bcccb66203ed5fcffae2ec7a6d88507370780c5201ac4a9594cbfc9e1b", func := "scionry/scionrylaw05.ItemTwins", spec := "itemTwins", apart := false, narrowed := true }
def ItemTwinsUptoSaid : Prop := itemTwinsUptoRow.holds Try.pinned (OpenSpec.upto itemTwinsSpec)

/-- 'scionrylaw03.DevReads', WHERE WHAT IT READS IS OF BULK AT MOST 1048576: true; the input reads as it did. -/
def devReadsUptoRow : OpenClaim := { program := "ytldidclnfkmonaa", sum := "620448bcccb66203ed5fcffae2ec7a6d88507370780c5201ac4a9594cbfc9e1b", func := "scionry/scionrylaw03.DevReads", spec := "devReads", unfollowed := true, recurses := true, apart := false, narrowed := true }
def DevReadsUptoSaid : Prop := devReadsUptoRow.holds Try.pinned (OpenSpec.upto devReadsSpec)

/-- 'scionrylaw03.DevNames', WHERE WHAT IT READS IS OF BULK AT MOST 1048576: true; the input reads as it did. -/
def devNamesUptoRow : OpenClaim := { program := "ytldidclnfkmonaa", sum := "620448bcccb66203ed5fcffae2ec7a6d88507370780c5201ac4a9594cbfc9e1b", func := "scionry/scionrylaw03.DevNames", spec := "devNames", unfollowed := true, recurses := true, apart := false, narrowed := true }
def DevNamesUptoSaid : Prop := devNamesUptoRow.holds Try.pinned (OpenSpec.upto devNamesSpec)

/-- 'scionrylaw05.ItemNames', WHERE WHAT IT READS IS OF BULK AT MOST 1048576: true; the input reads as it did. -/
def itemNamesUptoRow : OpenClaim := { program := "ytldidclnfkmonaa", sum := "620448bcccb66203ed5fcffae2ec7a6d88507370780c5201ac4a9594cbfc9e1b", func := "scionry/scionrylaw05.ItemNames", spec := "itemNames", unfollowed := true, recurses := true, apart := false, narrowed := true }
def ItemNamesUptoSaid : Prop := itemNamesUptoRow.holds Try.pinned (OpenSpec.upto itemNamesSpec)

/-- 'scionrylaw05.ItemCodes', WHERE WHAT IT READS IS OF BULK AT MOST 1048576: true; the input reads as it did. -/
def itemCodesUptoRow : OpenClaim := { program := "ytldidclnfkmonaa", sum := "620448bcccb66203ed5fcffae2ec7a6d88507370780c5201ac4a9594cbfc9e1b", func := "scionry/scionrylaw05.ItemCodes", spec := "itemCodes", unfollowed := true, recurses := true, apart := false, narrowed := true }
def ItemCodesUptoSaid : Prop := itemCodesUptoRow.holds Try.pinned (OpenSpec.upto itemCodesSpec)

/-- 'scionrylaw05.ItemBack', WHERE WHAT IT READS IS OF BULK AT MOST 1048576: true; the input reads as it did. -/
def itemBackUptoRow : OpenClaim := { program := "ytldidclnfkmonaa", sum := "620448bcccb66203ed5fcffae2ec7a6d88507370780c5201ac4a9594cbfc9e1b", func := "scionry/scionrylaw05.ItemBack", spec := "itemBack", unfollowed := true, recurses := true, apart := false, narrowed := true }
def ItemBackUptoSaid : Prop := itemBackUptoRow.holds Try.pinned (OpenSpec.upto itemBackSpec)

/-- 'scionrylaw03.DevDoes', WHERE WHAT IT READS IS OF BULK AT MOST 1048576: true; the input reads as it did. -/
def devDoesUptoRow : OpenClaim := { program := "ytldidclnfkmonaa", sum := "620448bcccb66203ed5fcffae2ec7a6d88507370780c5201ac4a9594cbfc9e1b", func := "scionry/scionrylaw03.DevDoes", spec := "devDoes", unfollowed := true, recurses := true, apart := false, narrowed := true }
def DevDoesUptoSaid : Prop := devDoesUptoRow.holds Try.pinned (OpenSpec.upto devDoesSpec)

/-- 'scionrylaw03.DevCrashes', WHERE WHAT IT READS IS OF BULK AT MOST 1048576: true; the input reads as it did. -/
def devCrashesUptoRow : OpenClaim := { program := "ytldidclnfkmonaa", sum := "620448bcccb66203ed5fcffae2ec7a6d88507370780c5201ac4a9594cbfc9e1b", func := "scionry/scionrylaw03.DevCrashes", spec := "devCrashes", unfollowed := true, recurses := true, apart := false, narrowed := true }
def DevCrashesUptoSaid : Prop := devCrashesUptoRow.holds Try.pinned (OpenSpec.upto devCrashesSpec)

/-- 'scionrylaw03.DevApart', WHERE WHAT IT READS IS OF BULK AT MOST 1048576: true; the input reads as it did. -/
def devApartUptoRow : OpenClaim := { program := "ytldidclnfkmonaa", sum := "620448bcccb66203ed5fcffae2ec7a6d88507370780c5201ac4a9594cbfc9e1b", func := "scionry/scionrylaw03.DevApart", spec := "devApart", unfollowed := true, recurses := true, apart := false, narrowed := true }
def DevApartUptoSaid : Prop := devApartUptoRow.holds Try.pinned (OpenSpec.upto devApartSpec)

end Rows
end Go.Proofs.Ytldidclnfkmonaa
