/- the limits and errors have their numbers, and the chapter's examples are so -/
import Derived.Test.YtfdogefoodljaaaRows
import Derived.Test.YtfdogefoodljaaaNodeNamesQ1
import Derived.Test.YtfdogefoodljaaaNodeNamesQ2
import Derived.Test.YtfdogefoodljaaaNodeNamesQ3
import Derived.Test.YtfdogefoodljaaaNodeNamesQ4
import Derived.Test.YtfdogefoodljaaaNodeNamesQ5
import Derived.Test.YtfdogefoodljaaaNodeNamesQ6
import Derived.Test.YtfdogefoodljaaaNodeNamesQ7
import Derived.Test.YtfdogefoodljaaaNodeNamesQ8
import Derived.Test.YtfdogefoodljaaaNodeNamesQ9
import Derived.Test.YtfdogefoodljaaaNodeNamesQ10
import Derived.Test.YtfdogefoodljaaaNodeNamesQ11
import Derived.Test.YtfdogefoodljaaaNodeNamesQ12
import Derived.Test.YtfdogefoodljaaaNodeNamesQ13
import Derived.Test.YtfdogefoodljaaaNodeNamesQ14
import Derived.Test.YtfdogefoodljaaaNodeNamesQ15
import Derived.Test.YtfdogefoodljaaaNodeNamesQ16
import Derived.Test.YtfdogefoodljaaaNodeNamesQ17
import Derived.Test.YtfdogefoodljaaaNodeNamesQ18
import Derived.Test.YtfdogefoodljaaaNodeNamesQ19
import Derived.Test.YtfdogefoodljaaaNodeNamesQ20
import Derived.Test.YtfdogefoodljaaaNodeNamesQ21
namespace Go.Proofs.Ytfdogefoodljaaa
open Go.ChangeShapes Go.WideShapes Go.ChangeAt Go.RowKit
open Go.ChangeMaps (open_string shut_string)
set_option linter.unusedVariables false

set_option maxRecDepth 100000 in
set_option maxHeartbeats 1000000 in
theorem nodeNames_lifted (os : Os) (started : os.Started) (H : Type) (enc : TypeId × Value → H) :
    ReturnsInHanded {} Try.checked os 9 .any (Rows.nodeNamesSpec.pre6 enc Try.prog Try.f9 Rows.nodeNamesRow.domain false) (Rows.nodeNamesSpec.post enc Try.prog Try.f9 false true false false) := by
  refine returnsInHanded_of_change (C := Try.checked) own_ started (by kernel_rfl) Try.func9
    (ChangeSpec.witness6 (enc := enc) (C := Try.checked) false ⟨#[], #[], []⟩ 8 (by kernel_rfl) (by kernel_rfl) (by kernel_rfl) (by kernel_rfl)) ?_
  intro W base args ds gs before hval0 hW hcnd _
  have hval : ∀ (j : Nat) t v, Try.f9.params[j]? = some t → args[j]? = some v → Value.okWide Try.prog W .any base t v := hval0
  have hW' := hW
  obtain ⟨p, q, hA0, hV, rfl, hfz, hnd⟩ := hW
  have hA : DataW.TrodAll enc Try.prog W 0 (fun _ => true) true Try.f9.params.toList args.toList ds p := hA0
  rw [Try.params9] at hA hval
  obtain ⟨rfl, rfl, rfl⟩ := trodAll_none hA
  obtain ⟨rfl, rfl⟩ := trodVars_none hV
  clear hA0 hval0
  refine (nodeNames_walk  W ).mono fun e W' ⟨he, bel⟩ => ?_
  subst he
  exact ⟨_, rfl, _, _, _, [], _, [], hW', trodAll_mk1 (shut_bool Try.underlying4 _), rfl, rfl, bel.frame _, fun h => by cases h⟩

theorem nodeNames_over : Rows.nodeNamesRow.holds Try.pinned (OpenSpec.ofChange Rows.nodeNamesSpec) :=
  OpenClaim.holds_of_wide 9 Try.f9 rfl rfl rfl rfl rfl rfl rfl ⟨rfl, rfl, rfl, rfl, rfl⟩ rfl rfl rfl rfl rfl (by kernel_rfl) Try.func9 (by kernel_rfl)
    (of_decide_eq_true (by kernel_rfl)) (by unfold Func.isWrapper; first | (rw [if_pos (by decide +kernel)]; kernel_rfl) | (rw [if_neg (by decide +kernel)]; exact ⟨rfl, rfl⟩))
    (fun os started H enc _ => nodeNames_lifted os started H enc)

theorem nodeNames_proved : Rows.NodeNamesSaid := nodeNames_over
#print axioms nodeNames_proved
end Go.Proofs.Ytfdogefoodljaaa
