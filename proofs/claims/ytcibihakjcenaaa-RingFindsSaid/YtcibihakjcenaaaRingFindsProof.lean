/- The law scionrylaw04.RingFinds answers true at any disk and superblock: superblocks are put and found as the document says. Conditions: none. -/
import Derived.Test.YtcibihakjcenaaaRows
import Derived.Test.YtcibihakjcenaaaRingFindsQ1
import Derived.Test.YtcibihakjcenaaaRingFindsQ2
import Derived.Test.YtcibihakjcenaaaRingFindsQ3
import Derived.Test.YtcibihakjcenaaaRingFindsQ4
import Derived.Test.YtcibihakjcenaaaRingFindsQ5
import Derived.Test.YtcibihakjcenaaaRingFindsQ6
import Derived.Test.YtcibihakjcenaaaRingFindsQ7
import Derived.Test.YtcibihakjcenaaaRingFindsQ8
import Derived.Test.YtcibihakjcenaaaRingFindsQ9
import Derived.Test.YtcibihakjcenaaaRingFindsQ10
import Derived.Test.YtcibihakjcenaaaRingFindsQ11
import Derived.Test.YtcibihakjcenaaaRingFindsQ12
import Derived.Test.YtcibihakjcenaaaRingFindsQ13
import Derived.Test.YtcibihakjcenaaaRingFindsQ14
import Derived.Test.YtcibihakjcenaaaRingFindsQ15
import Derived.Test.YtcibihakjcenaaaRingFindsQ16
import Derived.Test.YtcibihakjcenaaaRingFindsQ17
import Derived.Test.YtcibihakjcenaaaRingFindsQ18
import Derived.Test.YtcibihakjcenaaaRingFindsQ19
namespace Go.Proofs.Ytcibihakjcenaaa
open Go.ChangeShapes Go.WideShapes Go.ChangeAt Go.RowKit
open Go.ChangeMaps (open_string shut_string)
set_option linter.unusedVariables false

set_option maxRecDepth 100000 in
set_option maxHeartbeats 1000000 in
theorem ringFinds_lifted (os : Os) (started : os.Started) (H : Type) (enc : TypeId × Value → H) :
    ReturnsInHanded {} Try.checked os 9 .any (Rows.ringFindsSpec.pre6 enc Try.prog Try.f9 Rows.ringFindsRow.domain false) (Rows.ringFindsSpec.post enc Try.prog Try.f9 false true false false) := by
  refine returnsInHanded_of_change (C := Try.checked) own_ started (by kernel_rfl) Try.func9
    (ChangeSpec.witness6 (enc := enc) (C := Try.checked) false ⟨#[], #[.agg #[.slice none 0 0, .slice none 0 0], .agg #[.int .u32 0, .int .i64 0, .int .u32 0, .int .u32 0, .slice none 0 0]], []⟩ 8 (by kernel_rfl) (by kernel_rfl) (by kernel_rfl) (by kernel_rfl)) ?_
  intro W base args ds gs before hval0 hW hcnd _
  have hval : ∀ (j : Nat) t v, Try.f9.params[j]? = some t → args[j]? = some v → Value.okWide Try.prog W .any base t v := hval0
  have hW' := hW
  obtain ⟨p, q, hA0, hV, rfl, hfz, hnd⟩ := hW
  have hA : DataW.TrodAll enc Try.prog W 0 (fun _ => true) true Try.f9.params.toList args.toList ds p := hA0
  rw [Try.params9] at hA hval
  obtain ⟨v0, vs0, d0, ds0, p0, q0, hargs, rfl, rfl, h0, r0⟩ := trodAll_cons hA
  obtain ⟨v1, vs1, d1, ds1, p1, q1, rfl, rfl, rfl, h1, r1⟩ := trodAll_cons r0
  obtain ⟨rfl, rfl, rfl⟩ := trodAll_nil r1
  obtain rfl : args = #[v0, v1] := by cases args; simp_all
  obtain ⟨rfl, rfl⟩ := trodVars_none hV
  have k0 := h0
  have lt0 : ∀ x ∈ p0, x.block < W.heap.size := by obtain ⟨m, hm⟩ := k0; exact DataW.trod_lt m _ _ _ hm
  obtain ⟨b0, u0, a0, rfl, w0⟩ := arg_disk (hval 0 44 v0 rfl rfl) h0
  have k1 := h1
  have lt1 : ∀ x ∈ p1, x.block < W.heap.size := by obtain ⟨m, hm⟩ := k1; exact DataW.trod_lt m _ _ _ hm
  obtain ⟨a1, u1, rfl, w1⟩ := arg_super (hval 1 25 v1 rfl rfl) h1
  clear hA0 hval0
  refine (ringFinds_walk a0 b0 u0 a1 u1 W w0 w1).mono fun e W' ⟨he, bel⟩ => ?_
  subst he
  exact ⟨_, rfl, _, _, _, [], _, [], hW', trodAll_mk1 (shut_bool Try.underlying4 _), (trodAll_cons_mk (Below.trod laidOut_ (by kernel_rfl) (of_decide_eq_true (by kernel_rfl)) k0 bel lt0) (trodAll_cons_mk (Below.trod laidOut_ (by kernel_rfl) (of_decide_eq_true (by kernel_rfl)) k1 bel lt1) trodAll_mk0)), rfl, bel.frame _, fun h => by cases h⟩

theorem ringFinds_over : Rows.ringFindsRow.holds Try.pinned (OpenSpec.ofChange Rows.ringFindsSpec) :=
  OpenClaim.holds_of_wide 9 Try.f9 rfl rfl rfl rfl rfl rfl rfl ⟨rfl, rfl, rfl, rfl, rfl⟩ rfl rfl rfl rfl rfl (by kernel_rfl) Try.func9 (by kernel_rfl)
    (of_decide_eq_true (by kernel_rfl)) (by unfold Func.isWrapper; first | (rw [if_pos (by decide +kernel)]; kernel_rfl) | (rw [if_neg (by decide +kernel)]; exact ⟨rfl, rfl⟩))
    (fun os started H enc _ => ringFinds_lifted os started H enc)

theorem ringFinds_proved : Rows.RingFindsSaid := ringFinds_over
#print axioms ringFinds_proved
end Go.Proofs.Ytcibihakjcenaaa
