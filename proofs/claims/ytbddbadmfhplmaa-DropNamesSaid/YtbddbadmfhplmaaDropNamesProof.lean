/- the errors have their numbers; examples -/
import Derived.Test.YtbddbadmfhplmaaRows
import Derived.Test.YtbddbadmfhplmaaDropNamesQ1
import Derived.Test.YtbddbadmfhplmaaDropNamesQ2
import Derived.Test.YtbddbadmfhplmaaDropNamesQ3
import Derived.Test.YtbddbadmfhplmaaDropNamesQ4
import Derived.Test.YtbddbadmfhplmaaDropNamesQ5
import Derived.Test.YtbddbadmfhplmaaDropNamesQ6
import Derived.Test.YtbddbadmfhplmaaDropNamesQ7
import Derived.Test.YtbddbadmfhplmaaDropNamesQ8
import Derived.Test.YtbddbadmfhplmaaDropNamesQ9
import Derived.Test.YtbddbadmfhplmaaDropNamesQ10
import Derived.Test.YtbddbadmfhplmaaDropNamesQ11
import Derived.Test.YtbddbadmfhplmaaDropNamesQ12
import Derived.Test.YtbddbadmfhplmaaDropNamesQ13
import Derived.Test.YtbddbadmfhplmaaDropNamesQ14
import Derived.Test.YtbddbadmfhplmaaDropNamesQ15
import Derived.Test.YtbddbadmfhplmaaDropNamesQ16
import Derived.Test.YtbddbadmfhplmaaDropNamesQ17
import Derived.Test.YtbddbadmfhplmaaDropNamesQ18
import Derived.Test.YtbddbadmfhplmaaDropNamesQ19
import Derived.Test.YtbddbadmfhplmaaDropNamesQ20
import Derived.Test.YtbddbadmfhplmaaDropNamesQ21
namespace Go.Proofs.Ytbddbadmfhplmaa
open Go.ChangeShapes Go.WideShapes Go.ChangeAt Go.RowKit
open Go.ChangeMaps (open_string shut_string)
set_option linter.unusedVariables false

set_option maxRecDepth 100000 in
set_option maxHeartbeats 1000000 in
theorem dropNames_lifted (os : Os) (started : os.Started) (H : Type) (enc : TypeId × Value → H) :
    ReturnsInHanded {} Try.checked os 13 .any (Rows.dropNamesSpec.pre6 enc Try.prog Try.f13 Rows.dropNamesRow.domain false) (Rows.dropNamesSpec.post enc Try.prog Try.f13 false true false false) := by
  refine returnsInHanded_of_change (C := Try.checked) own_ started (by kernel_rfl) Try.func13
    (ChangeSpec.witness6 (enc := enc) (C := Try.checked) false ⟨#[], #[], []⟩ 8 (by kernel_rfl) (by kernel_rfl) (by kernel_rfl) (by kernel_rfl)) ?_
  intro W base args ds gs before hval0 hW hcnd _
  have hval : ∀ (j : Nat) t v, Try.f13.params[j]? = some t → args[j]? = some v → Value.okWide Try.prog W .any base t v := hval0
  have hW' := hW
  obtain ⟨p, q, hA0, hV, rfl, hfz, hnd⟩ := hW
  have hA : DataW.TrodAll enc Try.prog W 0 (fun _ => true) true Try.f13.params.toList args.toList ds p := hA0
  rw [Try.params13] at hA hval
  obtain ⟨rfl, rfl, rfl⟩ := trodAll_none hA
  obtain ⟨rfl, rfl⟩ := trodVars_none hV
  clear hA0 hval0
  refine (dropNames_walk  W ).mono fun e W' ⟨he, bel⟩ => ?_
  subst he
  exact ⟨_, rfl, _, _, _, [], _, [], hW', trodAll_mk1 (shut_bool Try.underlying4 _), rfl, rfl, bel.frame _, fun h => by cases h⟩

theorem dropNames_over : Rows.dropNamesRow.holds Try.pinned (OpenSpec.ofChange Rows.dropNamesSpec) :=
  OpenClaim.holds_of_wide 13 Try.f13 rfl rfl rfl rfl rfl rfl rfl ⟨rfl, rfl, rfl, rfl, rfl⟩ rfl rfl rfl rfl rfl (by kernel_rfl) Try.func13 (by kernel_rfl)
    (of_decide_eq_true (by kernel_rfl)) (by unfold Func.isWrapper; first | (rw [if_pos (by decide +kernel)]; kernel_rfl) | (rw [if_neg (by decide +kernel)]; exact ⟨rfl, rfl⟩))
    (fun os started H enc _ => dropNames_lifted os started H enc)

theorem dropNames_proved : Rows.DropNamesSaid := dropNames_over
#print axioms dropNames_proved
end Go.Proofs.Ytbddbadmfhplmaa
