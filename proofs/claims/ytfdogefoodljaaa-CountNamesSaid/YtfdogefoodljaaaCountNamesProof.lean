/- The law scionrylaw07.CountNames answers true: the errors have their numbers, and the chapter's examples are so. Conditions: none. -/
import Derived.Test.YtfdogefoodljaaaRows
import Derived.Test.YtfdogefoodljaaaCountNamesQ1
import Derived.Test.YtfdogefoodljaaaCountNamesQ2
import Derived.Test.YtfdogefoodljaaaCountNamesQ3
import Derived.Test.YtfdogefoodljaaaCountNamesQ4
import Derived.Test.YtfdogefoodljaaaCountNamesQ5
import Derived.Test.YtfdogefoodljaaaCountNamesQ6
import Derived.Test.YtfdogefoodljaaaCountNamesQ7
import Derived.Test.YtfdogefoodljaaaCountNamesQ8
import Derived.Test.YtfdogefoodljaaaCountNamesQ9
import Derived.Test.YtfdogefoodljaaaCountNamesQ10
import Derived.Test.YtfdogefoodljaaaCountNamesQ11
import Derived.Test.YtfdogefoodljaaaCountNamesQ12
import Derived.Test.YtfdogefoodljaaaCountNamesQ13
import Derived.Test.YtfdogefoodljaaaCountNamesQ14
import Derived.Test.YtfdogefoodljaaaCountNamesQ15
import Derived.Test.YtfdogefoodljaaaCountNamesQ16
import Derived.Test.YtfdogefoodljaaaCountNamesQ17
import Derived.Test.YtfdogefoodljaaaCountNamesQ18
import Derived.Test.YtfdogefoodljaaaCountNamesQ19
namespace Go.Proofs.Ytfdogefoodljaaa
open Go.ChangeShapes Go.WideShapes Go.ChangeAt Go.RowKit
open Go.ChangeMaps (open_string shut_string)
set_option linter.unusedVariables false

set_option maxRecDepth 100000 in
set_option maxHeartbeats 1000000 in
theorem countNames_lifted (os : Os) (started : os.Started) (H : Type) (enc : TypeId × Value → H) :
    ReturnsInHanded {} Try.checked os 8 .any (Rows.countNamesSpec.pre6 enc Try.prog Try.f8 Rows.countNamesRow.domain false) (Rows.countNamesSpec.post enc Try.prog Try.f8 false true false false) := by
  refine returnsInHanded_of_change (C := Try.checked) own_ started (by kernel_rfl) Try.func8
    (ChangeSpec.witness6 (enc := enc) (C := Try.checked) false ⟨#[], #[], []⟩ 8 (by kernel_rfl) (by kernel_rfl) (by kernel_rfl) (by kernel_rfl)) ?_
  intro W base args ds gs before hval0 hW hcnd _
  have hval : ∀ (j : Nat) t v, Try.f8.params[j]? = some t → args[j]? = some v → Value.okWide Try.prog W .any base t v := hval0
  have hW' := hW
  obtain ⟨p, q, hA0, hV, rfl, hfz, hnd⟩ := hW
  have hA : DataW.TrodAll enc Try.prog W 0 (fun _ => true) true Try.f8.params.toList args.toList ds p := hA0
  rw [Try.params8] at hA hval
  obtain ⟨rfl, rfl, rfl⟩ := trodAll_none hA
  obtain ⟨rfl, rfl⟩ := trodVars_none hV
  clear hA0 hval0
  refine (countNames_walk  W ).mono fun e W' ⟨he, bel⟩ => ?_
  subst he
  exact ⟨_, rfl, _, _, _, [], _, [], hW', trodAll_mk1 (shut_bool Try.underlying4 _), rfl, rfl, bel.frame _, fun h => by cases h⟩

theorem countNames_over : Rows.countNamesRow.holds Try.pinned (OpenSpec.ofChange Rows.countNamesSpec) :=
  OpenClaim.holds_of_wide 8 Try.f8 rfl rfl rfl rfl rfl rfl rfl ⟨rfl, rfl, rfl, rfl, rfl⟩ rfl rfl rfl rfl rfl (by kernel_rfl) Try.func8 (by kernel_rfl)
    (of_decide_eq_true (by kernel_rfl)) (by unfold Func.isWrapper; first | (rw [if_pos (by decide +kernel)]; kernel_rfl) | (rw [if_neg (by decide +kernel)]; exact ⟨rfl, rfl⟩))
    (fun os started H enc _ => countNames_lifted os started H enc)

theorem countNames_proved : Rows.CountNamesSaid := countNames_over
#print axioms countNames_proved
end Go.Proofs.Ytfdogefoodljaaa
