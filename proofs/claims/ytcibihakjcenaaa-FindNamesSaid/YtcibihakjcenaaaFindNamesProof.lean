/- The law scionrylaw10.FindNames answers true: the limits and errors have their numbers, and the chapter's examples are so. Conditions: none. -/
import Derived.Test.YtcibihakjcenaaaRows
import Derived.Test.YtcibihakjcenaaaFindNamesQ1
import Derived.Test.YtcibihakjcenaaaFindNamesQ2
import Derived.Test.YtcibihakjcenaaaFindNamesQ3
import Derived.Test.YtcibihakjcenaaaFindNamesQ4
import Derived.Test.YtcibihakjcenaaaFindNamesQ5
import Derived.Test.YtcibihakjcenaaaFindNamesQ6
import Derived.Test.YtcibihakjcenaaaFindNamesQ7
import Derived.Test.YtcibihakjcenaaaFindNamesQ8
import Derived.Test.YtcibihakjcenaaaFindNamesQ9
import Derived.Test.YtcibihakjcenaaaFindNamesQ10
import Derived.Test.YtcibihakjcenaaaFindNamesQ11
import Derived.Test.YtcibihakjcenaaaFindNamesQ12
import Derived.Test.YtcibihakjcenaaaFindNamesQ13
import Derived.Test.YtcibihakjcenaaaFindNamesQ14
import Derived.Test.YtcibihakjcenaaaFindNamesQ15
import Derived.Test.YtcibihakjcenaaaFindNamesQ16
import Derived.Test.YtcibihakjcenaaaFindNamesQ17
import Derived.Test.YtcibihakjcenaaaFindNamesQ18
namespace Go.Proofs.Ytcibihakjcenaaa
open Go.ChangeShapes Go.WideShapes Go.ChangeAt Go.RowKit
open Go.ChangeMaps (open_string shut_string)
set_option linter.unusedVariables false

set_option maxRecDepth 100000 in
set_option maxHeartbeats 1000000 in
theorem findNames_lifted (os : Os) (started : os.Started) (H : Type) (enc : TypeId × Value → H) :
    ReturnsInHanded {} Try.checked os 5 .any (Rows.findNamesSpec.pre6 enc Try.prog Try.f5 Rows.findNamesRow.domain false) (Rows.findNamesSpec.post enc Try.prog Try.f5 false true false false) := by
  refine returnsInHanded_of_change (C := Try.checked) own_ started (by kernel_rfl) Try.func5
    (ChangeSpec.witness6 (enc := enc) (C := Try.checked) false ⟨#[], #[], []⟩ 8 (by kernel_rfl) (by kernel_rfl) (by kernel_rfl) (by kernel_rfl)) ?_
  intro W base args ds gs before hval0 hW hcnd _
  have hval : ∀ (j : Nat) t v, Try.f5.params[j]? = some t → args[j]? = some v → Value.okWide Try.prog W .any base t v := hval0
  have hW' := hW
  obtain ⟨p, q, hA0, hV, rfl, hfz, hnd⟩ := hW
  have hA : DataW.TrodAll enc Try.prog W 0 (fun _ => true) true Try.f5.params.toList args.toList ds p := hA0
  rw [Try.params5] at hA hval
  obtain ⟨rfl, rfl, rfl⟩ := trodAll_none hA
  obtain ⟨rfl, rfl⟩ := trodVars_none hV
  clear hA0 hval0
  refine (findNames_walk  W ).mono fun e W' ⟨he, bel⟩ => ?_
  subst he
  exact ⟨_, rfl, _, _, _, [], _, [], hW', trodAll_mk1 (shut_bool Try.underlying4 _), rfl, rfl, bel.frame _, fun h => by cases h⟩

theorem findNames_over : Rows.findNamesRow.holds Try.pinned (OpenSpec.ofChange Rows.findNamesSpec) :=
  OpenClaim.holds_of_wide 5 Try.f5 rfl rfl rfl rfl rfl rfl rfl ⟨rfl, rfl, rfl, rfl, rfl⟩ rfl rfl rfl rfl rfl (by kernel_rfl) Try.func5 (by kernel_rfl)
    (of_decide_eq_true (by kernel_rfl)) (by unfold Func.isWrapper; first | (rw [if_pos (by decide +kernel)]; kernel_rfl) | (rw [if_neg (by decide +kernel)]; exact ⟨rfl, rfl⟩))
    (fun os started H enc _ => findNames_lifted os started H enc)

theorem findNames_proved : Rows.FindNamesSaid := findNames_over
#print axioms findNames_proved
end Go.Proofs.Ytcibihakjcenaaa
