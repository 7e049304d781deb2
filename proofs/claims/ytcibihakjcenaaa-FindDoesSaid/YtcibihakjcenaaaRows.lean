/-
  No cell of these rows narrows 'for every input' (looked for: loops, veiled, ifaces, maps, wideKeys, modest, calm, conditions, laid).
  DERIVED. THE GIVEN ROWS OF THIS SEAT. 12 by the template 'for every input the law returns true; each argument reads behind the call as it read before'; 0 by the template 'total and deterministic' (their statements: YtcibihakjcenaaaTotals.lean).
  GIVEN WITH THE SEED: the statements are not yours to turn. If you find one false, say at which input.
  Laid BY PROGRAM, IN A SANDBOX (cutbox-rows.mjs): the forced cells as the released guide's own fill.sh prints them over the translation c06ec11acb6dca72… (all of the seat's roots in one cut). By AI agents, Wed Nov 11 2026. No macro, syntax, notation, axiom, sorry.
-/
import Derived.Test.YtcibihakjcenaaaChecked
import GoSem.Claim
import GoSem.ClaimJoined
import GoSem.ClaimMapViews
import Derived.JoinedTies
import Derived.KernelRfl
namespace Go.Proofs.Ytcibihakjcenaaa
/- THE CELL 'sum', in the pinned program and in every row, IS THE sha256 OF THE DUMP (.gsa) THAT YtcibihakjcenaaaProg.lean LOADS. Nothing in Lean hashes anything: it is a label: what it is worth is what the hold of that sum in a sandbox is worth. -/
noncomputable def Try.pinned : Pinned := { name := "ytcibihakjcenaaa", sum := "c06ec11acb6dca72659474499a8c7576434e66aa260641aa2594b2caa4e652cd", checked := Try.checked }
namespace Rows
def none {H : Type} : Left H := { results := [], args := [] }

/-- 'scionrylaw04.RingCodes': WHATEVER THE INPUT: true; the input reads as it did. -/
def ringCodesSpec : ChangeSpec := { name := "ringCodes", fn := fun _ => fun
  | [d1, d2, d3] => { results := [.lit (.bool true)], args := [d1, d2, d3] }
  | _ => none }
def ringCodesRow : OpenClaim := { program := "ytcibihakjcenaaa", sum := "c06ec11acb6dca72659474499a8c7576434e66aa260641aa2594b2caa4e652cd", func := "scionry/scionrylaw04.RingCodes", spec := "ringCodes", unfollowed := true, recurses := true, apart := false }
def RingCodesSaid : Prop := ringCodesRow.holds Try.pinned (OpenSpec.ofChange ringCodesSpec)

/-- ITS FALSE NEIGHBOUR: 'it returns false'. Refute it at one input. -/
def ringCodesWrong : ChangeSpec := { name := "ringCodes", fn := fun _ => fun
  | [d1, d2, d3] => { results := [.lit (.bool false)], args := [d1, d2, d3] }
  | _ => none }
def RingCodesWrongFalsely : Prop := ringCodesRow.holds Try.pinned (OpenSpec.ofChange ringCodesWrong)

/-- 'scionrylaw10.FindDoes': WHATEVER THE INPUT: true; the input reads as it did. -/
def findDoesSpec : ChangeSpec := { name := "findDoes", fn := fun _ => fun
  | [d1, d2, d3] => { results := [.lit (.bool true)], args := [d1, d2, d3] }
  | _ => none }
def findDoesRow : OpenClaim := { program := "ytcibihakjcenaaa", sum := "c06ec11acb6dca72659474499a8c7576434e66aa260641aa2594b2caa4e652cd", func := "scionry/scionrylaw10.FindDoes", spec := "findDoes", unfollowed := true, recurses := true, apart := false }
def FindDoesSaid : Prop := findDoesRow.holds Try.pinned (OpenSpec.ofChange findDoesSpec)

/-- ITS FALSE NEIGHBOUR: 'it returns false'. Refute it at one input. -/
def findDoesWrong : ChangeSpec := { name := "findDoes", fn := fun _ => fun
  | [d1, d2, d3] => { results := [.lit (.bool false)], args := [d1, d2, d3] }
  | _ => none }
def FindDoesWrongFalsely : Prop := findDoesRow.holds Try.pinned (OpenSpec.ofChange findDoesWrong)

/-- 'scionrylaw10.FindNames': WHATEVER THE INPUT: true; the input reads as it did. -/
def findNamesSpec : ChangeSpec := { name := "findNames", fn := fun _ => fun
  | [] => { results := [.lit (.bool true)], args := [] }
  | _ => none }
def findNamesRow : OpenClaim := { program := "ytcibihakjcenaaa", sum := "c06ec11acb6dca72659474499a8c7576434e66aa260641aa2594b2caa4e652cd", func := "scionry/scionrylaw10.FindNames", spec := "findNames", unfollowed := true, recurses := true, apart := false }
def FindNamesSaid : Prop := findNamesRow.holds Try.pinned (OpenSpec.ofChange findNamesSpec)

/-- ITS FALSE NEIGHBOUR: 'it returns false'. Refute it at one input. -/
def findNamesWrong : ChangeSpec := { name := "findNames", fn := fun _ => fun
  | [] => { results := [.lit (.bool false)], args := [] }
  | _ => none }
def FindNamesWrongFalsely : Prop := findNamesRow.holds Try.pinned (OpenSpec.ofChange findNamesWrong)

/-- 'scionrylaw10.FindRefuses': WHATEVER THE INPUT: true; the input reads as it did. -/
def findRefusesSpec : ChangeSpec := { name := "findRefuses", fn := fun _ => fun
  | [d1, d2, d3] => { results := [.lit (.bool true)], args := [d1, d2, d3] }
  | _ => none }
def findRefusesRow : OpenClaim := { program := "ytcibihakjcenaaa", sum := "c06ec11acb6dca72659474499a8c7576434e66aa260641aa2594b2caa4e652cd", func := "scionry/scionrylaw10.FindRefuses", spec := "findRefuses", unfollowed := true, recurses := true, apart := false }
def FindRefusesSaid : Prop := findRefusesRow.holds Try.pinned (OpenSpec.ofChange findRefusesSpec)

/-- ITS FALSE NEIGHBOUR: 'it returns false'. Refute it at one input. -/
def findRefusesWrong : ChangeSpec := { name := "findRefuses", fn := fun _ => fun
  | [d1, d2, d3] => { results := [.lit (.bool false)], args := [d1, d2, d3] }
  | _ => none }
def FindRefusesWrongFalsely : Prop := findRefusesRow.holds Try.pinned (OpenSpec.ofChange findRefusesWrong)

/-- 'scionrylaw10.FindAll': WHATEVER THE INPUT: true; the input reads as it did. -/
def findAllSpec : ChangeSpec := { name := "findAll", fn := fun _ => fun
  | [d1, d2, d3] => { results := [.lit (.bool true)], args := [d1, d2, d3] }
  | _ => none }
def findAllRow : OpenClaim := { program := "ytcibihakjcenaaa", sum := "c06ec11acb6dca72659474499a8c7576434e66aa260641aa2594b2caa4e652cd", func := "scionry/scionrylaw10.FindAll", spec := "findAll", unfollowed := true, recurses := true, apart := false }
def FindAllSaid : Prop := findAllRow.holds Try.pinned (OpenSpec.ofChange findAllSpec)

/-- ITS FALSE NEIGHBOUR: 'it returns false'. Refute it at one input. -/
def findAllWrong : ChangeSpec := { name := "findAll", fn := fun _ => fun
  | [d1, d2, d3] => { results := [.lit (.bool false)], args := [d1, d2, d3] }
  | _ => none }
def FindAllWrongFalsely : Prop := findAllRow.holds Try.pinned (OpenSpec.ofChange findAllWrong)

/-- 'scionrylaw10.FindAlone': WHATEVER THE INPUT: true; the input reads as it did. -/
def findAloneSpec : ChangeSpec := { name := "findAlone", fn := fun _ => fun
  | [d1, d2, d3, d4, d5] => { results := [.lit (.bool true)], args := [d1, d2, d3, d4, d5] }
  | _ => none }
def findAloneRow : OpenClaim := { program := "ytcibihakjcenaaa", sum := "c06ec11acb6dca72659474499a8c7576434e66aa260641aa2594b2caa4e652cd", func := "scionry/scionrylaw10.FindAlone", spec := "findAlone", unfollowed := true, recurses := true, apart := false }
def FindAloneSaid : Prop := findAloneRow.holds Try.pinned (OpenSpec.ofChange findAloneSpec)

/-- ITS FALSE NEIGHBOUR: 'it returns false'. Refute it at one input. -/
def findAloneWrong : ChangeSpec := { name := "findAlone", fn := fun _ => fun
  | [d1, d2, d3, d4, d5] => { results := [.lit (.bool false)], args := [d1, d2, d3, d4, d5] }
  | _ => none }
def FindAloneWrongFalsely : Prop := findAloneRow.holds Try.pinned (OpenSpec.ofChange findAloneWrong)

/-- 'scionrylaw04.RingFinds': WHATEVER THE INPUT: true; the input reads as it did. -/
def ringFindsSpec : ChangeSpec := { name := "ringFinds", fn := fun _ => fun
  | [d1, d2] => { results := [.lit (.bool true)], args := [d1, d2] }
  | _ => none }
def ringFindsRow : OpenClaim := { program := "ytcibihakjcenaaa", sum := "c06ec11acb6dca72659474499a8c7576434e66aa260641aa2594b2caa4e652cd", func := "scionry/scionrylaw04.RingFinds", spec := "ringFinds", unfollowed := true, recurses := true, apart := false }
def RingFindsSaid : Prop := ringFindsRow.holds Try.pinned (OpenSpec.ofChange ringFindsSpec)

/-- ITS FALSE NEIGHBOUR: 'it returns false'. Refute it at one input. -/
def ringFindsWrong : ChangeSpec := { name := "ringFinds", fn := fun _ => fun
  | [d1, d2] => { results := [.lit (.bool false)], args := [d1, d2] }
  | _ => none }
def RingFindsWrongFalsely : Prop := ringFindsRow.holds Try.pinned (OpenSpec.ofChange ringFindsWrong)

/-- 'scionrylaw04.RingNames': WHATEVER THE INPUT: true; the input reads as it did. -/
def ringNamesSpec : ChangeSpec := { name := "ringNames", fn := fun _ => fun
  | [] => { results := [.lit (.bool true)], args := [] }
  | _ => none }
def ringNamesRow : OpenClaim := { program := "ytcibihakjcenaaa", sum := "c06ec11acb6dca72659474499a8c7576434e66aa260641aa2594b2caa4e652cd", func := "scionry/scionrylaw04.RingNames", spec := "ringNames", unfollowed := true, recurses := true, apart := false }
def RingNamesSaid : Prop := ringNamesRow.holds Try.pinned (OpenSpec.ofChange ringNamesSpec)

/-- ITS FALSE NEIGHBOUR: 'it returns false'. Refute it at one input. -/
def ringNamesWrong : ChangeSpec := { name := "ringNames", fn := fun _ => fun
  | [] => { results := [.lit (.bool false)], args := [] }
  | _ => none }
def RingNamesWrongFalsely : Prop := ringNamesRow.holds Try.pinned (OpenSpec.ofChange ringNamesWrong)

/-- 'scionrylaw04.RingBack': WHATEVER THE INPUT: true; the input reads as it did. -/
def ringBackSpec : ChangeSpec := { name := "ringBack", fn := fun _ => fun
  | [d1, d2] => { results := [.lit (.bool true)], args := [d1, d2] }
  | _ => none }
def ringBackRow : OpenClaim := { program := "ytcibihakjcenaaa", sum := "c06ec11acb6dca72659474499a8c7576434e66aa260641aa2594b2caa4e652cd", func := "scionry/scionrylaw04.RingBack", spec := "ringBack", unfollowed := true, recurses := true, apart := false }
def RingBackSaid : Prop := ringBackRow.holds Try.pinned (OpenSpec.ofChange ringBackSpec)

/-- ITS FALSE NEIGHBOUR: 'it returns false'. Refute it at one input. -/
def ringBackWrong : ChangeSpec := { name := "ringBack", fn := fun _ => fun
  | [d1, d2] => { results := [.lit (.bool false)], args := [d1, d2] }
  | _ => none }
def RingBackWrongFalsely : Prop := ringBackRow.holds Try.pinned (OpenSpec.ofChange ringBackWrong)

/-- 'scionrylaw04.RingNewest': WHATEVER THE INPUT: true; the input reads as it did. -/
def ringNewestSpec : ChangeSpec := { name := "ringNewest", fn := fun _ => fun
  | [d1, d2] => { results := [.lit (.bool true)], args := [d1, d2] }
  | _ => none }
def ringNewestRow : OpenClaim := { program := "ytcibihakjcenaaa", sum := "c06ec11acb6dca72659474499a8c7576434e66aa260641aa2594b2caa4e652cd", func := "scionry/scionrylaw04.RingNewest", spec := "ringNewest", unfollowed := true, recurses := true, apart := false }
def RingNewestSaid : Prop := ringNewestRow.holds Try.pinned (OpenSpec.ofChange ringNewestSpec)

/-- ITS FALSE NEIGHBOUR: 'it returns false'. Refute it at one input. -/
def ringNewestWrong : ChangeSpec := { name := "ringNewest", fn := fun _ => fun
  | [d1, d2] => { results := [.lit (.bool false)], args := [d1, d2] }
  | _ => none }
def RingNewestWrongFalsely : Prop := ringNewestRow.holds Try.pinned (OpenSpec.ofChange ringNewestWrong)

/-- 'scionrylaw04.RingApart': WHATEVER THE INPUT: true; the input reads as it did. -/
def ringApartSpec : ChangeSpec := { name := "ringApart", fn := fun _ => fun
  | [d1, d2, d3, d4, d5] => { results := [.lit (.bool true)], args := [d1, d2, d3, d4, d5] }
  | _ => none }
def ringApartRow : OpenClaim := { program := "ytcibihakjcenaaa", sum := "c06ec11acb6dca72659474499a8c7576434e66aa260641aa2594b2caa4e652cd", func := "scionry/scionrylaw04.RingApart", spec := "ringApart", unfollowed := true, recurses := true, apart := false }
def RingApartSaid : Prop := ringApartRow.holds Try.pinned (OpenSpec.ofChange ringApartSpec)

/-- ITS FALSE NEIGHBOUR: 'it returns false'. Refute it at one input. -/
def ringApartWrong : ChangeSpec := { name := "ringApart", fn := fun _ => fun
  | [d1, d2, d3, d4, d5] => { results := [.lit (.bool false)], args := [d1, d2, d3, d4, d5] }
  | _ => none }
def RingApartWrongFalsely : Prop := ringApartRow.holds Try.pinned (OpenSpec.ofChange ringApartWrong)

/-- 'scionrylaw04.RingLost': WHATEVER THE INPUT: true; the input reads as it did. -/
def ringLostSpec : ChangeSpec := { name := "ringLost", fn := fun _ => fun
  | [d1, d2, d3] => { results := [.lit (.bool true)], args := [d1, d2, d3] }
  | _ => none }
def ringLostRow : OpenClaim := { program := "ytcibihakjcenaaa", sum := "c06ec11acb6dca72659474499a8c7576434e66aa260641aa2594b2caa4e652cd", func := "scionry/scionrylaw04.RingLost", spec := "ringLost", unfollowed := true, recurses := true, apart := false }
def RingLostSaid : Prop := ringLostRow.holds Try.pinned (OpenSpec.ofChange ringLostSpec)

/-- ITS FALSE NEIGHBOUR: 'it returns false'. Refute it at one input. -/
def ringLostWrong : ChangeSpec := { name := "ringLost", fn := fun _ => fun
  | [d1, d2, d3] => { results := [.lit (.bool false)], args := [d1, d2, d3] }
  | _ => none }
def RingLostWrongFalsely : Prop := ringLostRow.holds Try.pinned (OpenSpec.ofChange ringLostWrong)

/- THE SECOND FORM. 'bulk': how many values and letters a reading holds, each counted each time it is reached (what is shared counts as often as it is met; a slice's spare places count too). A statement '..UptoSaid' is the law's where the arguments, and the package variables that the reading takes, are together of bulk at most 1048576: NARROWER than '..Said'. Prove '..Said' where nothing that the law and all that it calls make is longer than what came in: it says more and counts as full. Else prove '..UptoSaid'. A law counts once. -/
mutual
def uptoBulk {H : Type} : DataW H → Nat
  | .lit (.string bytes) => bytes.length + 1
  | .lit _ => 1
  | .nil => 1
  | .ptr d => uptoBulk d + 1
  | .slice elems spare => uptoBulkAll elems + uptoBulkAll spare + 1
  | .agg parts => uptoBulkAll parts + 1
  | .iface _ d => uptoBulk d + 1
  | .map entries => uptoBulkEntries entries + 1
  | .held _ => 1
def uptoBulkAll {H : Type} : List (DataW H) → Nat
  | [] => 0
  | d :: r => uptoBulk d + uptoBulkAll r
def uptoBulkEntries {H : Type} : List (Lit × DataW H) → Nat
  | [] => 0
  | x :: r => uptoBulkEntry x + uptoBulkEntries r
def uptoBulkEntry {H : Type} : Lit × DataW H → Nat
  | (.string bytes, d) => bytes.length + uptoBulk d + 1
  | (_, d) => uptoBulk d + 1
 end
def uptoSmall : (H : Type) → List (DataW H) → Bool := fun _ ds => decide (uptoBulkAll ds ≤ 1048576)
def OpenSpec.upto (s : _root_.Go.ChangeSpec) : _root_.Go.OpenSpec := { _root_.Go.OpenSpec.ofChange s with cond := some uptoSmall }

/-- 'scionrylaw04.RingCodes', WHERE WHAT IT READS IS OF BULK AT MOST 1048576: true; the input reads as it did. -/
def ringCodesUptoRow : OpenClaim := { program := "ytcibihakjcenaaa", sum := "c06ec11acb6dca72659474499a8c7576434e66aa260641aa2594b2caa4e652cd", func := "scionry/scionrylaw04.RingCodes", spec := "ringCodes", unfollowed := true, recurses := true, apart := false, narrowed := true }
def RingCodesUptoSaid : Prop := ringCodesUptoRow.holds Try.pinned (OpenSpec.upto ringCodesSpec)

/-- 'scionrylaw10.FindDoes', WHERE WHAT IT READS IS OF BULK AT MOST 1048576: true; the input reads as it did. -/
def findDoesUptoRow : OpenClaim := { program := "ytcibihakjcenaaa", sum := "c06ec11acb6dca72659474499a8c7576434e66aa260641aa2594b2caa4e652cd", func := "scionry/scionrylaw10.FindDoes", spec := "findDoes", unfollowed := true, recurses := true, apart := false, narrowed := true }
def FindDoesUptoSaid : Prop := findDoesUptoRow.holds Try.pinned (OpenSpec.upto findDoesSpec)

/-- 'scionrylaw10.FindNames', WHERE WHAT IT READS IS OF BULK AT MOST 1048576: true; the input reads as it did. -/
def findNamesUptoRow : OpenClaim := { program := "ytcibihakjcenaaa", sum := "c06ec11acb6dca72659474499a8c7576434e66aa260641aa2594b2caa4e652cd", func := "scionry/scionrylaw10.FindNames", spec := "findNames", unfollowed := true, recurses := true, apart := false, narrowed := true }
def FindNamesUptoSaid : Prop := findNamesUptoRow.holds Try.pinned (OpenSpec.upto findNamesSpec)

/-- 'scionrylaw10.FindRefuses', WHERE WHAT IT READS IS OF BULK AT MOST 1048576: true; the input reads as it did. -/
def findRefusesUptoRow : OpenClaim := { program := "ytcibihakjcenaaa", sum := "c06ec11acb6dca72659474499a8c7576434e66aa260641aa2594b2caa4e652cd", func := "scionry/scionrylaw10.FindRefuses", spec := "findRefuses", unfollowed := true, recurses := true, apart := false, narrowed := true }
def FindRefusesUptoSaid : Prop := findRefusesUptoRow.holds Try.pinned (OpenSpec.upto findRefusesSpec)

/-- 'scionrylaw10.FindAll', WHERE WHAT IT READS IS OF BULK AT MOST 1048576: true; the input reads as it did. -/
def findAllUptoRow : OpenClaim := { program := "ytcibihakjcenaaa", sum := "c06ec11acb6dca72659474499a8c7576434e66aa260641aa2594b2caa4e652cd", func := "scionry/scionrylaw10.FindAll", spec := "findAll", unfollowed := true, recurses := true, apart := false, narrowed := true }
def FindAllUptoSaid : Prop := findAllUptoRow.holds Try.pinned (OpenSpec.upto findAllSpec)

/-- 'scionrylaw10.FindAlone', WHERE WHAT IT READS IS OF BULK AT MOST 1048576: true; the input reads as it did. -/
def findAloneUptoRow : OpenClaim := { program := "ytcibihakjcenaaa", sum := "c06ec11acb6dca72659474499a8c7576434e66aa260641aa2594b2caa4e652cd", func := "scionry/scionrylaw10.FindAlone", spec := "findAlone", unfollowed := true, recurses := true, apart := false, narrowed := true }
def FindAloneUptoSaid : Prop := findAloneUptoRow.holds Try.pinned (OpenSpec.upto findAloneSpec)

/-- 'scionrylaw04.RingFinds', WHERE WHAT IT READS IS OF BULK AT MOST 1048576: true; the input reads as it did. -/
def ringFindsUptoRow : OpenClaim := { program := "ytcibihakjcenaaa", sum := "c06ec11acb6dca72659474499a8c7576434e66aa260641aa2594b2caa4e652cd", func := "scionry/scionrylaw04.RingFinds", spec := "ringFinds", unfollowed := true, recurses := true, apart := false, narrowed := true }
def RingFindsUptoSaid : Prop := ringFindsUptoRow.holds Try.pinned (OpenSpec.upto ringFindsSpec)

/-- 'scionrylaw04.RingNames', WHERE WHAT IT READS IS OF BULK AT MOST 1048576: true; the input reads as it did. -/
def ringNamesUptoRow : OpenClaim := { program := "ytcibihakjcenaaa", sum := "c06ec11acb6dca72659474499a8c7576434e66aa260641aa2594b2caa4e652cd", func := "scionry/scionrylaw04.RingNames", spec := "ringNames", unfollowed := true, recurses := true, apart := false, narrowed := true }
def RingNamesUptoSaid : Prop := ringNamesUptoRow.holds Try.pinned (OpenSpec.upto ringNamesSpec)

/-- 'scionrylaw04.RingBack', WHERE WHAT IT READS IS OF BULK AT MOST 1048576: true; the input reads as it did. -/
def ringBackUptoRow : OpenClaim := { program := "ytcibihakjcenaaa", sum := "c06ec11acb6dca72659474499a8c7576434e66aa260641aa2594b2caa4e652cd", func := "scionry/scionrylaw04.RingBack", spec := "ringBack", unfollowed := true, recurses := true, apart := false, narrowed := true }
def RingBackUptoSaid : Prop := ringBackUptoRow.holds Try.pinned (OpenSpec.upto ringBackSpec)

/-- 'scionrylaw04.RingNewest', WHERE WHAT IT READS IS OF BULK AT MOST 1048576: true; the input reads as it did. -/
def ringNewestUptoRow : OpenClaim := { program := "ytcibihakjcenaaa", sum := "c06ec11acb6dca72659474499a8c7576434e66aa260641aa2594b2caa4e652cd", func := "scionry/scionrylaw04.RingNewest", spec := "ringNewest", unfollowed := true, recurses := true, apart := false, narrowed := true }
def RingNewestUptoSaid : Prop := ringNewestUptoRow.holds Try.pinned (OpenSpec.upto ringNewestSpec)

/-- 'scionrylaw04.RingApart', WHERE WHAT IT READS IS OF BULK AT MOST 1048576: true; the input reads as it did. -/
def ringApartUptoRow : OpenClaim := { program := "ytcibihakjcenaaa", sum := "c06ec11acb6dca72659474499a8c7576434e66aa260641aa2594b2caa4e652cd", func := "scionry/scionrylaw04.RingApart", spec := "ringApart", unfollowed := true, recurses := true, apart := false, narrowed := true }
def RingApartUptoSaid : Prop := ringApartUptoRow.holds Try.pinned (OpenSpec.upto ringApartSpec)

/-- 'scionrylaw04.RingLost', WHERE WHAT IT READS IS OF BULK AT MOST 1048576: true; the input reads as it did. -/
def ringLostUptoRow : OpenClaim := { program := "ytcibihakjcenaaa", sum := "c06ec11acb6dca72659474499a8c7576434e66aa260641aa2594b2caa4e652cd", func := "scionry/scionrylaw04.RingLost", spec := "ringLost", unfollowed := true, recurses := true, apart := false, narrowed := true }
def RingLostUptoSaid : Prop := ringLostUptoRow.holds Try.pinned (OpenSpec.upto ringLostSpec)

end Rows
end Go.Proofs.Ytcibihakjcenaaa
