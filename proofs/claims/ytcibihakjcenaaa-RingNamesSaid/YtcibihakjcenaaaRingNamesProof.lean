/- The law scionrylaw04.RingNames answers true: the limits and errors have their numbers, and the chapter's examples are so. Conditions: none. -/
import Derived.Test.YtcibihakjcenaaaRows
import Derived.Test.YtcibihakjcenaaaRingNamesQ1
import Derived.Test.YtcibihakjcenaaaRingNamesQ2
import Derived.Test.YtcibihakjcenaaaRingNamesQ3
import Derived.Test.YtcibihakjcenaaaRingNamesQ4
import Derived.Test.YtcibihakjcenaaaRingNamesQ5
import Derived.Test.YtcibihakjcenaaaRingNamesQ6
import Derived.Test.YtcibihakjcenaaaRingNamesQ7
import Derived.Test.YtcibihakjcenaaaRingNamesQ8
import Derived.Test.YtcibihakjcenaaaRingNamesQ9
import Derived.Test.YtcibihakjcenaaaRingNamesQ10
import Derived.Test.YtcibihakjcenaaaRingNamesQ11
import Derived.Test.YtcibihakjcenaaaRingNamesQ12
import Derived.Test.YtcibihakjcenaaaRingNamesQ13
import Derived.Test.YtcibihakjcenaaaRingNamesQ14
import Derived.Test.YtcibihakjcenaaaRingNamesQ15
import Derived.Test.YtcibihakjcenaaaRingNamesQ16
import Derived.Test.YtcibihakjcenaaaRingNamesQ17
import Derived.Test.YtcibihakjcenaaaRingNamesQ18
namespace Go.Proofs.Ytcibihakjcenaaa
open Go.ChangeShapes Go.WideShapes Go.ChangeAt Go.RowKit
open Go.ChangeMaps (open_string shut_string)
set_option linter.unusedVariables false

set_option maxRecDepth 100000 in
set_option maxHeartbeats 1000000 in
theorem ringNames_lifted (os : Os) (started : os.Started) (H : Type) (enc : TypeId × Value → H) :
    ReturnsInHanded {} Try.checked os 10 .any (Rows.ringNamesSpec.pre6 enc Try.prog Try.f10 Rows.ringNamesRow.domain false) (Rows.ringNamesSpec.post enc Try.prog Try.f10 false true false false) := by
  refine returnsInHanded_of_change (C := Try.checked) own_ started (by kernel_rfl) Try.func10
    (ChangeSpec.witness6 (enc := enc) (C := Try.checked) false ⟨#[], #[], []⟩ 8 (by kernel_rfl) (by kernel_rfl) (by kernel_rfl) (by kernel_rfl)) ?_
  intro W base args ds gs before hval0 hW hcnd _
  have hval : ∀ (j : Nat) t v, Try.f10.params[j]? = some t → args[j]? = some v → Value.okWide Try.prog W .any base t v := hval0
  have hW' := hW
  obtain ⟨p, q, hA0, hV, rfl, hfz, hnd⟩ := hW
  have hA : DataW.TrodAll enc Try.prog W 0 (fun _ => true) true Try.f10.params.toList args.toList ds p := hA0
  rw [Try.params10] at hA hval
  obtain ⟨rfl, rfl, rfl⟩ := trodAll_none hA
  obtain ⟨rfl, rfl⟩ := trodVars_none hV
  clear hA0 hval0
  refine (ringNames_walk  W ).mono fun e W' ⟨he, bel⟩ => ?_
  subst he
  exact ⟨_, rfl, _, _, _, [], _, [], hW', trodAll_mk1 (shut_bool Try.underlying4 _), rfl, rfl, bel.frame _, fun h => by cases h⟩

theorem ringNames_over : Rows.ringNamesRow.holds Try.pinned (OpenSpec.ofChange Rows.ringNamesSpec) :=
  OpenClaim.holds_of_wide 10 Try.f10 rfl rfl rfl rfl rfl rfl rfl ⟨rfl, rfl, rfl, rfl, rfl⟩ rfl rfl rfl rfl rfl (by kernel_rfl) Try.func10 (by kernel_rfl)
    (of_decide_eq_true (by kernel_rfl)) (by unfold Func.isWrapper; first | (rw [if_pos (by decide +kernel)]; kernel_rfl) | (rw [if_neg (by decide +kernel)]; exact ⟨rfl, rfl⟩))
    (fun os started H enc _ => ringNames_lifted os started H enc)

theorem ringNames_proved : Rows.RingNamesSaid := ringNames_over
#print axioms ringNames_proved
end Go.Proofs.Ytcibihakjcenaaa
