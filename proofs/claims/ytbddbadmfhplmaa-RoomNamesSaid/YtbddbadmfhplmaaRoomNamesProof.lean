/- the errors have their numbers; examples -/
import Derived.Test.YtbddbadmfhplmaaRows
import Derived.Test.YtbddbadmfhplmaaRoomNamesQ1
import Derived.Test.YtbddbadmfhplmaaRoomNamesQ2
import Derived.Test.YtbddbadmfhplmaaRoomNamesQ3
import Derived.Test.YtbddbadmfhplmaaRoomNamesQ4
import Derived.Test.YtbddbadmfhplmaaRoomNamesQ5
import Derived.Test.YtbddbadmfhplmaaRoomNamesQ6
import Derived.Test.YtbddbadmfhplmaaRoomNamesQ7
import Derived.Test.YtbddbadmfhplmaaRoomNamesQ8
import Derived.Test.YtbddbadmfhplmaaRoomNamesQ9
import Derived.Test.YtbddbadmfhplmaaRoomNamesQ10
import Derived.Test.YtbddbadmfhplmaaRoomNamesQ11
import Derived.Test.YtbddbadmfhplmaaRoomNamesQ12
import Derived.Test.YtbddbadmfhplmaaRoomNamesQ13
import Derived.Test.YtbddbadmfhplmaaRoomNamesQ14
import Derived.Test.YtbddbadmfhplmaaRoomNamesQ15
import Derived.Test.YtbddbadmfhplmaaRoomNamesQ16
namespace Go.Proofs.Ytbddbadmfhplmaa
open Go.ChangeShapes Go.WideShapes Go.ChangeAt Go.RowKit
open Go.ChangeMaps (open_string shut_string)
set_option linter.unusedVariables false

set_option maxRecDepth 100000 in
set_option maxHeartbeats 1000000 in
theorem roomNames_lifted (os : Os) (started : os.Started) (H : Type) (enc : TypeId × Value → H) :
    ReturnsInHanded {} Try.checked os 7 .any (Rows.roomNamesSpec.pre6 enc Try.prog Try.f7 Rows.roomNamesRow.domain false) (Rows.roomNamesSpec.post enc Try.prog Try.f7 false true false false) := by
  refine returnsInHanded_of_change (C := Try.checked) own_ started (by kernel_rfl) Try.func7
    (ChangeSpec.witness6 (enc := enc) (C := Try.checked) false ⟨#[], #[], []⟩ 8 (by kernel_rfl) (by kernel_rfl) (by kernel_rfl) (by kernel_rfl)) ?_
  intro W base args ds gs before hval0 hW hcnd _
  have hval : ∀ (j : Nat) t v, Try.f7.params[j]? = some t → args[j]? = some v → Value.okWide Try.prog W .any base t v := hval0
  have hW' := hW
  obtain ⟨p, q, hA0, hV, rfl, hfz, hnd⟩ := hW
  have hA : DataW.TrodAll enc Try.prog W 0 (fun _ => true) true Try.f7.params.toList args.toList ds p := hA0
  rw [Try.params7] at hA hval
  obtain ⟨rfl, rfl, rfl⟩ := trodAll_none hA
  obtain ⟨rfl, rfl⟩ := trodVars_none hV
  clear hA0 hval0
  refine (roomNames_walk  W ).mono fun e W' ⟨he, bel⟩ => ?_
  subst he
  exact ⟨_, rfl, _, _, _, [], _, [], hW', trodAll_mk1 (shut_bool Try.underlying4 _), rfl, rfl, bel.frame _, fun h => by cases h⟩

theorem roomNames_over : Rows.roomNamesRow.holds Try.pinned (OpenSpec.ofChange Rows.roomNamesSpec) :=
  OpenClaim.holds_of_wide 7 Try.f7 rfl rfl rfl rfl rfl rfl rfl ⟨rfl, rfl, rfl, rfl, rfl⟩ rfl rfl rfl rfl rfl (by kernel_rfl) Try.func7 (by kernel_rfl)
    (of_decide_eq_true (by kernel_rfl)) (by unfold Func.isWrapper; first | (rw [if_pos (by decide +kernel)]; kernel_rfl) | (rw [if_neg (by decide +kernel)]; exact ⟨rfl, rfl⟩))
    (fun os started H enc _ => roomNames_lifted os started H enc)

theorem roomNames_proved : Rows.RoomNamesSaid := roomNames_over
#print axioms roomNames_proved
end Go.Proofs.Ytbddbadmfhplmaa
