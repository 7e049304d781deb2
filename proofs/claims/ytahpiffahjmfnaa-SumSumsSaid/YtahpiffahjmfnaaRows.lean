/-
  No cell of these rows narrows 'for every input' (looked for: loops, veiled, ifaces, maps, wideKeys, modest, calm, conditions, laid).
  DERIVED. THE GIVEN ROWS OF THIS SEAT. 11 by the template 'for every input the law returns true; each argument reads behind the call as it read before'; 0 by the template 'total and deterministic' (their statements: YtahpiffahjmfnaaTotals.lean).
  GIVEN WITH THE SEED: the statements are not yours to turn. If you find one false, say at which input.
  Laid BY PROGRAM, IN A SANDBOX (cutbox-rows.mjs): the forced cells as the released guide's own fill.sh prints them over the translation 1936635bb0b00c18… (all of the seat's roots in one cut). By AI agents, Wed Nov 11 2026. No macro, syntax, notation, axiom, sorry.
-/
import Derived.Test.YtahpiffahjmfnaaChecked
import GoSem.Claim
import GoSem.ClaimJoined
import GoSem.ClaimMapViews
import Derived.JoinedTies
import Derived.KernelRfl
namespace Go.Proofs.Ytahpiffahjmfnaa
/- THE CELL 'sum', in the pinned program and in every row, IS THE sha256 OF THE DUMP (.gsa) THAT YtahpiffahjmfnaaProg.lean LOADS. Nothing in Lean hashes anything: it is a label: what it is worth is what the hold of that sum in a sandbox is worth. -/
noncomputable def Try.pinned : Pinned := { name := "ytahpiffahjmfnaa", sum := "1936635bb0b00c18fd680e38dcdb850304a974585183d9ff7fbeb0d14666f423", checked := Try.checked }
namespace Rows
def none {H : Type} : Left H := { results := [], args := [] }

/-- 'scionrylaw02.SumThree': WHATEVER THE INPUT: true; the input reads as it did. -/
def sumThreeSpec : ChangeSpec := { name := "sumThree", fn := fun _ => fun
  | [d1, d2, d3] => { results := [.lit (.bool true)], args := [d1, d2, d3] }
  | _ => none }
def sumThreeRow : OpenClaim := { program := "ytahpiffahjmfnaa", sum := "1936635bb0b00c18fd680e38dcdb850304a974585183d9ff7fbeb0d14666f423", func := "scionry/scionrylaw02.SumThree", spec := "sumThree", apart := false }
def SumThreeSaid : Prop := sumThreeRow.holds Try.pinned (OpenSpec.ofChange sumThreeSpec)

/-- ITS FALSE NEIGHBOUR: 'it returns false'. Refute it at one input. -/
def sumThreeWrong : ChangeSpec := { name := "sumThree", fn := fun _ => fun
  | [d1, d2, d3] => { results := [.lit (.bool false)], args := [d1, d2, d3] }
  | _ => none }
def SumThreeWrongFalsely : Prop := sumThreeRow.holds Try.pinned (OpenSpec.ofChange sumThreeWrong)

/-- 'scionrylaw01.CodeBounds': WHATEVER THE INPUT: true; the input reads as it did. -/
def codeBoundsSpec : ChangeSpec := { name := "codeBounds", fn := fun _ => fun
  | [d1, d2, d3] => { results := [.lit (.bool true)], args := [d1, d2, d3] }
  | _ => none }
def codeBoundsRow : OpenClaim := { program := "ytahpiffahjmfnaa", sum := "1936635bb0b00c18fd680e38dcdb850304a974585183d9ff7fbeb0d14666f423", func := "scionry/scionrylaw01.CodeBounds", spec := "codeBounds", unfollowed := true, recurses := true, apart := false }
def CodeBoundsSaid : Prop := codeBoundsRow.holds Try.pinned (OpenSpec.ofChange codeBoundsSpec)

/-- ITS FALSE NEIGHBOUR: 'it returns false'. Refute it at one input. -/
def codeBoundsWrong : ChangeSpec := { name := "codeBounds", fn := fun _ => fun
  | [d1, d2, d3] => { results := [.lit (.bool false)], args := [d1, d2, d3] }
  | _ => none }
def CodeBoundsWrongFalsely : Prop := codeBoundsRow.holds Try.pinned (OpenSpec.ofChange codeBoundsWrong)

/-- 'scionrylaw01.CodeUnlike': WHATEVER THE INPUT: true; the input reads as it did. -/
def codeUnlikeSpec : ChangeSpec := { name := "codeUnlike", fn := fun _ => fun
  | [d1, d2] => { results := [.lit (.bool true)], args := [d1, d2] }
  | _ => none }
def codeUnlikeRow : OpenClaim := { program := "ytahpiffahjmfnaa", sum := "1936635bb0b00c18fd680e38dcdb850304a974585183d9ff7fbeb0d14666f423", func := "scionry/scionrylaw01.CodeUnlike", spec := "codeUnlike", unfollowed := true, recurses := true, apart := false }
def CodeUnlikeSaid : Prop := codeUnlikeRow.holds Try.pinned (OpenSpec.ofChange codeUnlikeSpec)

/-- ITS FALSE NEIGHBOUR: 'it returns false'. Refute it at one input. -/
def codeUnlikeWrong : ChangeSpec := { name := "codeUnlike", fn := fun _ => fun
  | [d1, d2] => { results := [.lit (.bool false)], args := [d1, d2] }
  | _ => none }
def CodeUnlikeWrongFalsely : Prop := codeUnlikeRow.holds Try.pinned (OpenSpec.ofChange codeUnlikeWrong)

/-- 'scionrylaw01.CodeNames': WHATEVER THE INPUT: true; the input reads as it did. -/
def codeNamesSpec : ChangeSpec := { name := "codeNames", fn := fun _ => fun
  | [] => { results := [.lit (.bool true)], args := [] }
  | _ => none }
def codeNamesRow : OpenClaim := { program := "ytahpiffahjmfnaa", sum := "1936635bb0b00c18fd680e38dcdb850304a974585183d9ff7fbeb0d14666f423", func := "scionry/scionrylaw01.CodeNames", spec := "codeNames", unfollowed := true, recurses := true, apart := false }
def CodeNamesSaid : Prop := codeNamesRow.holds Try.pinned (OpenSpec.ofChange codeNamesSpec)

/-- ITS FALSE NEIGHBOUR: 'it returns false'. Refute it at one input. -/
def codeNamesWrong : ChangeSpec := { name := "codeNames", fn := fun _ => fun
  | [] => { results := [.lit (.bool false)], args := [] }
  | _ => none }
def CodeNamesWrongFalsely : Prop := codeNamesRow.holds Try.pinned (OpenSpec.ofChange codeNamesWrong)

/-- 'scionrylaw01.CodeCodes': WHATEVER THE INPUT: true; the input reads as it did. -/
def codeCodesSpec : ChangeSpec := { name := "codeCodes", fn := fun _ => fun
  | [d1, d2, d3, d4] => { results := [.lit (.bool true)], args := [d1, d2, d3, d4] }
  | _ => none }
def codeCodesRow : OpenClaim := { program := "ytahpiffahjmfnaa", sum := "1936635bb0b00c18fd680e38dcdb850304a974585183d9ff7fbeb0d14666f423", func := "scionry/scionrylaw01.CodeCodes", spec := "codeCodes", unfollowed := true, recurses := true, apart := false }
def CodeCodesSaid : Prop := codeCodesRow.holds Try.pinned (OpenSpec.ofChange codeCodesSpec)

/-- ITS FALSE NEIGHBOUR: 'it returns false'. Refute it at one input. -/
def codeCodesWrong : ChangeSpec := { name := "codeCodes", fn := fun _ => fun
  | [d1, d2, d3, d4] => { results := [.lit (.bool false)], args := [d1, d2, d3, d4] }
  | _ => none }
def CodeCodesWrongFalsely : Prop := codeCodesRow.holds Try.pinned (OpenSpec.ofChange codeCodesWrong)

/-- 'scionrylaw01.CodeBack': WHATEVER THE INPUT: true; the input reads as it did. -/
def codeBackSpec : ChangeSpec := { name := "codeBack", fn := fun _ => fun
  | [d1, d2, d3, d4, d5] => { results := [.lit (.bool true)], args := [d1, d2, d3, d4, d5] }
  | _ => none }
def codeBackRow : OpenClaim := { program := "ytahpiffahjmfnaa", sum := "1936635bb0b00c18fd680e38dcdb850304a974585183d9ff7fbeb0d14666f423", func := "scionry/scionrylaw01.CodeBack", spec := "codeBack", unfollowed := true, recurses := true, apart := false }
def CodeBackSaid : Prop := codeBackRow.holds Try.pinned (OpenSpec.ofChange codeBackSpec)

/-- ITS FALSE NEIGHBOUR: 'it returns false'. Refute it at one input. -/
def codeBackWrong : ChangeSpec := { name := "codeBack", fn := fun _ => fun
  | [d1, d2, d3, d4, d5] => { results := [.lit (.bool false)], args := [d1, d2, d3, d4, d5] }
  | _ => none }
def CodeBackWrongFalsely : Prop := codeBackRow.holds Try.pinned (OpenSpec.ofChange codeBackWrong)

/-- 'scionrylaw02.SumNames': WHATEVER THE INPUT: true; the input reads as it did. -/
def sumNamesSpec : ChangeSpec := { name := "sumNames", fn := fun _ => fun
  | [] => { results := [.lit (.bool true)], args := [] }
  | _ => none }
def sumNamesRow : OpenClaim := { program := "ytahpiffahjmfnaa", sum := "1936635bb0b00c18fd680e38dcdb850304a974585183d9ff7fbeb0d14666f423", func := "scionry/scionrylaw02.SumNames", spec := "sumNames", unfollowed := true, recurses := true, apart := false }
def SumNamesSaid : Prop := sumNamesRow.holds Try.pinned (OpenSpec.ofChange sumNamesSpec)

/-- ITS FALSE NEIGHBOUR: 'it returns false'. Refute it at one input. -/
def sumNamesWrong : ChangeSpec := { name := "sumNames", fn := fun _ => fun
  | [] => { results := [.lit (.bool false)], args := [] }
  | _ => none }
def SumNamesWrongFalsely : Prop := sumNamesRow.holds Try.pinned (OpenSpec.ofChange sumNamesWrong)

/-- 'scionrylaw02.SumSums': WHATEVER THE INPUT: true; the input reads as it did. -/
def sumSumsSpec : ChangeSpec := { name := "sumSums", fn := fun _ => fun
  | [d] => { results := [.lit (.bool true)], args := [d] }
  | _ => none }
def sumSumsRow : OpenClaim := { program := "ytahpiffahjmfnaa", sum := "1936635bb0b00c18fd680e38dcdb850304a974585183d9ff7fbeb0d14666f423", func := "scionry/scionrylaw02.SumSums", spec := "sumSums", unfollowed := true, recurses := true, apart := false }
def SumSumsSaid : Prop := sumSumsRow.holds Try.pinned (OpenSpec.ofChange sumSumsSpec)

/-- ITS FALSE NEIGHBOUR: 'it returns false'. Refute it at one input. -/
def sumSumsWrong : ChangeSpec := { name := "sumSums", fn := fun _ => fun
  | [d] => { results := [.lit (.bool false)], args := [d] }
  | _ => none }
def SumSumsWrongFalsely : Prop := sumSumsRow.holds Try.pinned (OpenSpec.ofChange sumSumsWrong)

/-- 'scionrylaw02.SumSeals': WHATEVER THE INPUT: true; the input reads as it did. -/
def sumSealsSpec : ChangeSpec := { name := "sumSeals", fn := fun _ => fun
  | [d1, d2, d3] => { results := [.lit (.bool true)], args := [d1, d2, d3] }
  | _ => none }
def sumSealsRow : OpenClaim := { program := "ytahpiffahjmfnaa", sum := "1936635bb0b00c18fd680e38dcdb850304a974585183d9ff7fbeb0d14666f423", func := "scionry/scionrylaw02.SumSeals", spec := "sumSeals", unfollowed := true, recurses := true, apart := false }
def SumSealsSaid : Prop := sumSealsRow.holds Try.pinned (OpenSpec.ofChange sumSealsSpec)

/-- ITS FALSE NEIGHBOUR: 'it returns false'. Refute it at one input. -/
def sumSealsWrong : ChangeSpec := { name := "sumSeals", fn := fun _ => fun
  | [d1, d2, d3] => { results := [.lit (.bool false)], args := [d1, d2, d3] }
  | _ => none }
def SumSealsWrongFalsely : Prop := sumSealsRow.holds Try.pinned (OpenSpec.ofChange sumSealsWrong)

/-- 'scionrylaw02.SumOpens': WHATEVER THE INPUT: true; the input reads as it did. -/
def sumOpensSpec : ChangeSpec := { name := "sumOpens", fn := fun _ => fun
  | [d] => { results := [.lit (.bool true)], args := [d] }
  | _ => none }
def sumOpensRow : OpenClaim := { program := "ytahpiffahjmfnaa", sum := "1936635bb0b00c18fd680e38dcdb850304a974585183d9ff7fbeb0d14666f423", func := "scionry/scionrylaw02.SumOpens", spec := "sumOpens", unfollowed := true, recurses := true, apart := false }
def SumOpensSaid : Prop := sumOpensRow.holds Try.pinned (OpenSpec.ofChange sumOpensSpec)

/-- ITS FALSE NEIGHBOUR: 'it returns false'. Refute it at one input. -/
def sumOpensWrong : ChangeSpec := { name := "sumOpens", fn := fun _ => fun
  | [d] => { results := [.lit (.bool false)], args := [d] }
  | _ => none }
def SumOpensWrongFalsely : Prop := sumOpensRow.holds Try.pinned (OpenSpec.ofChange sumOpensWrong)

/-- 'scionrylaw02.SumBurst': WHATEVER THE INPUT: true; the input reads as it did. -/
def sumBurstSpec : ChangeSpec := { name := "sumBurst", fn := fun _ => fun
  | [d1, d2, d3] => { results := [.lit (.bool true)], args := [d1, d2, d3] }
  | _ => none }
def sumBurstRow : OpenClaim := { program := "ytahpiffahjmfnaa", sum := "1936635bb0b00c18fd680e38dcdb850304a974585183d9ff7fbeb0d14666f423", func := "scionry/scionrylaw02.SumBurst", spec := "sumBurst", unfollowed := true, recurses := true, apart := false }
def SumBurstSaid : Prop := sumBurstRow.holds Try.pinned (OpenSpec.ofChange sumBurstSpec)

/-- ITS FALSE NEIGHBOUR: 'it returns false'. Refute it at one input. -/
def sumBurstWrong : ChangeSpec := { name := "sumBurst", fn := fun _ => fun
  | [d1, d2, d3] => { results := [.lit (.bool false)], args := [d1, d2, d3] }
  | _ => none }
def SumBurstWrongFalsely : Prop := sumBurstRow.holds Try.pinned (OpenSpec.ofChange sumBurstWrong)

/- THE SECOND FORM. 'bulk': how many values and letters a reading holds, each counted each time it is reached (what is shared counts as often as it is met; a slice's spare places count too). A statement '..UptoSaid' is the law's where the arguments, and the package variables that the reading takes, are together of bulk at most 1048576: NARROWER than '..Said'. Prove '..Said' where nothing that the law and all that it calls make is longer than what came in: it says more and counts as full. Else prove '..UptoSaid'. A law counts once. -/
mutual
def uptoBulk {H : Type} : DataW H → Nat
  | .lit (.string bytes) => bytes.length + 1
  | .lit _ => 1
  | .nil => 1
  | .ptr d => uptoBulk d + 1
  | .slice elems spare => uptoBulkAll elems + uptoBulkAll spare + 1
  | .agg parts => uptoBulkAll parts + 1
  | .iface _ d => uptoBulk d + 1
  | .map entries => uptoBulkEntries entries + 1
  | .held _ => 1
def uptoBulkAll {H : Type} : List (DataW H) → Nat
  | [] => 0
  | d :: r => uptoBulk d + uptoBulkAll r
def uptoBulkEntries {H : Type} : List (Lit × DataW H) → Nat
  | [] => 0
  | x :: r => uptoBulkEntry x + uptoBulkEntries r
def uptoBulkEntry {H : Type} : Lit × DataW H → Nat
  | (.string bytes, d) => bytes.length + uptoBulk d + 1
  | (_, d) => uptoBulk d + 1
 end
def uptoSmall : (H : Type) → List (DataW H) → Bool := fun _ ds => decide (uptoBulkAll ds ≤ 1048576)
def OpenSpec.upto (s : _root_.Go.ChangeSpec) : _root_.Go.OpenSpec := { _root_.Go.OpenSpec.ofChange s with cond := some uptoSmall }

/-- 'scionrylaw02.SumThree', WHERE WHAT IT READS IS OF BULK AT MOST 1048576: true; the input reads as it did. -/
def sumThreeUptoRow : OpenClaim := { program := "ytahpiffahjmfnaa", sum := "1936635bb0b00c18fd680e38dcdb850304a974585183d9ff7fbeb0d14666f423", func := "scionry/scionrylaw02.SumThree", spec := "sumThree", apart := false, narrowed := true }
def SumThreeUptoSaid : Prop := sumThreeUptoRow.holds Try.pinned (OpenSpec.upto sumThreeSpec)

/-- 'scionrylaw01.CodeBounds', WHERE WHAT IT READS IS OF BULK AT MOST 1048576: true; the input reads as it did. -/
def codeBoundsUptoRow : OpenClaim := { program := "ytahpiffahjmfnaa", sum := "1936635bb0b00c18fd680e38dcdb850304a974585183d9ff7fbeb0d14666f423", func := "scionry/scionrylaw01.CodeBounds", spec := "codeBounds", unfollowed := true, recurses := true, apart := false, narrowed := true }
def CodeBoundsUptoSaid : Prop := codeBoundsUptoRow.holds Try.pinned (OpenSpec.upto codeBoundsSpec)

/-- 'scionrylaw01.CodeUnlike', WHERE WHAT IT READS IS OF BULK AT MOST 1048576: true; the input reads as it did. -/
def codeUnlikeUptoRow : OpenClaim := { program := "ytahpiffahjmfnaa", sum := "1936635bb0b00c18fd680e38dcdb850304a974585183d9ff7fbeb0d14666f423", func := "scionry/scionrylaw01.CodeUnlike", spec := "codeUnlike", unfollowed := true, recurses := true, apart := false, narrowed := true }
def CodeUnlikeUptoSaid : Prop := codeUnlikeUptoRow.holds Try.pinned (OpenSpec.upto codeUnlikeSpec)

/-- 'scionrylaw01.CodeNames', WHERE WHAT IT READS IS OF BULK AT MOST 1048576: true; the input reads as it did. -/
def codeNamesUptoRow : OpenClaim := { program := "ytahpiffahjmfnaa", sum := "1936635bb0b00c18fd680e38dcdb850304a974585183d9ff7fbeb0d14666f423", func := "scionry/scionrylaw01.CodeNames", spec := "codeNames", unfollowed := true, recurses := true, apart := false, narrowed := true }
def CodeNamesUptoSaid : Prop := codeNamesUptoRow.holds Try.pinned (OpenSpec.upto codeNamesSpec)

/-- 'scionrylaw01.CodeCodes', WHERE WHAT IT READS IS OF BULK AT MOST 1048576: true; the input reads as it did. -/
def codeCodesUptoRow : OpenClaim := { program := "ytahpiffahjmfnaa", sum := "1936635bb0b00c18fd680e38dcdb850304a974585183d9ff7fbeb0d14666f423", func := "scionry/scionrylaw01.CodeCodes", spec := "codeCodes", unfollowed := true, recurses := true, apart := false, narrowed := true }
def CodeCodesUptoSaid : Prop := codeCodesUptoRow.holds Try.pinned (OpenSpec.upto codeCodesSpec)

/-- 'scionrylaw01.CodeBack', WHERE WHAT IT READS IS OF BULK AT MOST 1048576: true; the input reads as it did. -/
def codeBackUptoRow : OpenClaim := { program := "ytahpiffahjmfnaa", sum := "1936635bb0b00c18fd680e38dcdb850304a974585183d9ff7fbeb0d14666f423", func := "scionry/scionrylaw01.CodeBack", spec := "codeBack", unfollowed := true, recurses := true, apart := false, narrowed := true }
def CodeBackUptoSaid : Prop := codeBackUptoRow.holds Try.pinned (OpenSpec.upto codeBackSpec)

/-- 'scionrylaw02.SumNames', WHERE WHAT IT READS IS OF BULK AT MOST 1048576: true; the input reads as it did. -/
def sumNamesUptoRow : OpenClaim := { program := "ytahpiffahjmfnaa", sum := "1936635bb0b00c18fd680e38dcdb850304a974585183d9ff7fbeb0d14666f423", func := "scionry/scionrylaw02.SumNames", spec := "sumNames", unfollowed := true, recurses := true, apart := false, narrowed := true }
def SumNamesUptoSaid : Prop := sumNamesUptoRow.holds Try.pinned (OpenSpec.upto sumNamesSpec)

/-- 'scionrylaw02.SumSums', WHERE WHAT IT READS IS OF BULK AT MOST 1048576: true; the input reads as it did. -/
def sumSumsUptoRow : OpenClaim := { program := "ytahpiffahjmfnaa", sum := "1936635bb0b00c18fd680e38dcdb850304a974585183d9ff7fbeb0d14666f423", func := "scionry/scionrylaw02.SumSums", spec := "sumSums", unfollowed := true, recurses := true, apart := false, narrowed := true }
def SumSumsUptoSaid : Prop := sumSumsUptoRow.holds Try.pinned (OpenSpec.upto sumSumsSpec)

/-- 'scionrylaw02.SumSeals', WHERE WHAT IT READS IS OF BULK AT MOST 1048576: true; the input reads as it did. -/
def sumSealsUptoRow : OpenClaim := { program := "ytahpiffahjmfnaa", sum := "1936635bb0b00c18fd680e38dcdb850304a974585183d9ff7fbeb0d14666f423", func := "scionry/scionrylaw02.SumSeals", spec := "sumSeals", unfollowed := true, recurses := true, apart := false, narrowed := true }
def SumSealsUptoSaid : Prop := sumSealsUptoRow.holds Try.pinned (OpenSpec.upto sumSealsSpec)

/-- 'scionrylaw02.SumOpens', WHERE WHAT IT READS IS OF BULK AT MOST 1048576: true; the input reads as it did. -/
def sumOpensUptoRow : OpenClaim := { program := "ytahpiffahjmfnaa", sum := "1936635bb0b00c18fd680e38dcdb850304a974585183d9ff7fbeb0d14666f423", func := "scionry/scionrylaw02.SumOpens", spec := "sumOpens", unfollowed := true, recurses := true, apart := false, narrowed := true }
def SumOpensUptoSaid : Prop := sumOpensUptoRow.holds Try.pinned (OpenSpec.upto sumOpensSpec)

/-- 'scionrylaw02.SumBurst', WHERE WHAT IT READS IS OF BULK AT MOST 1048576: true; the input reads as it did. -/
def sumBurstUptoRow : OpenClaim := { program := "ytahpiffahjmfnaa", sum := "1936635bb0b00c18fd680e38dcdb850304a974585183d9ff7fbeb0d14666f423", func := "scionry/scionrylaw02.SumBurst", spec := "sumBurst", unfollowed := true, recurses := true, apart := false, narrowed := true }
def SumBurstUptoSaid : Prop := sumBurstUptoRow.holds Try.pinned (OpenSpec.upto sumBurstSpec)

end Rows
end Go.Proofs.Ytahpiffahjmfnaa
