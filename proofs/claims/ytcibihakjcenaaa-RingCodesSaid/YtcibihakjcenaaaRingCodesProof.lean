/- The law scionrylaw04.RingCodes answers true at any two superblocks and bytes: superblocks are checked, compared, written and read as the document says. Conditions: none. -/
import Derived.Test.YtcibihakjcenaaaRows
import Derived.Test.YtcibihakjcenaaaRingCodesQ1
import Derived.Test.YtcibihakjcenaaaRingCodesQ2
import Derived.Test.YtcibihakjcenaaaRingCodesQ3
import Derived.Test.YtcibihakjcenaaaRingCodesQ4
import Derived.Test.YtcibihakjcenaaaRingCodesQ5
import Derived.Test.YtcibihakjcenaaaRingCodesQ6
import Derived.Test.YtcibihakjcenaaaRingCodesQ7
import Derived.Test.YtcibihakjcenaaaRingCodesQ8
import Derived.Test.YtcibihakjcenaaaRingCodesQ9
import Derived.Test.YtcibihakjcenaaaRingCodesQ10
import Derived.Test.YtcibihakjcenaaaRingCodesQ11
import Derived.Test.YtcibihakjcenaaaRingCodesQ12
import Derived.Test.YtcibihakjcenaaaRingCodesQ13
import Derived.Test.YtcibihakjcenaaaRingCodesQ14
import Derived.Test.YtcibihakjcenaaaRingCodesQ15
import Derived.Test.YtcibihakjcenaaaRingCodesQ16
import Derived.Test.YtcibihakjcenaaaRingCodesQ17
import Derived.Test.YtcibihakjcenaaaRingCodesQ18
namespace Go.Proofs.Ytcibihakjcenaaa
open Go.ChangeShapes Go.WideShapes Go.ChangeAt Go.RowKit
open Go.ChangeMaps (open_string shut_string)
set_option linter.unusedVariables false

set_option maxRecDepth 100000 in
set_option maxHeartbeats 1000000 in
theorem ringCodes_lifted (os : Os) (started : os.Started) (H : Type) (enc : TypeId × Value → H) :
    ReturnsInHanded {} Try.checked os 3 .any (Rows.ringCodesSpec.pre6 enc Try.prog Try.f3 Rows.ringCodesRow.domain false) (Rows.ringCodesSpec.post enc Try.prog Try.f3 false true false false) := by
  refine returnsInHanded_of_change (C := Try.checked) own_ started (by kernel_rfl) Try.func3
    (ChangeSpec.witness6 (enc := enc) (C := Try.checked) false ⟨#[], #[.agg #[.int .u32 0, .int .i64 0, .int .u32 0, .int .u32 0, .slice none 0 0], .agg #[.int .u32 0, .int .i64 0, .int .u32 0, .int .u32 0, .slice none 0 0], .slice none 0 0], []⟩ 8 (by kernel_rfl) (by kernel_rfl) (by kernel_rfl) (by kernel_rfl)) ?_
  intro W base args ds gs before hval0 hW hcnd _
  have hval : ∀ (j : Nat) t v, Try.f3.params[j]? = some t → args[j]? = some v → Value.okWide Try.prog W .any base t v := hval0
  have hW' := hW
  obtain ⟨p, q, hA0, hV, rfl, hfz, hnd⟩ := hW
  have hA : DataW.TrodAll enc Try.prog W 0 (fun _ => true) true Try.f3.params.toList args.toList ds p := hA0
  rw [Try.params3] at hA hval
  obtain ⟨v0, vs0, d0, ds0, p0, q0, hargs, rfl, rfl, h0, r0⟩ := trodAll_cons hA
  obtain ⟨v1, vs1, d1, ds1, p1, q1, rfl, rfl, rfl, h1, r1⟩ := trodAll_cons r0
  obtain ⟨v2, vs2, d2, ds2, p2, q2, rfl, rfl, rfl, h2, r2⟩ := trodAll_cons r1
  obtain ⟨rfl, rfl, rfl⟩ := trodAll_nil r2
  obtain rfl : args = #[v0, v1, v2] := by cases args; simp_all
  obtain ⟨rfl, rfl⟩ := trodVars_none hV
  have k0 := h0
  have lt0 : ∀ x ∈ p0, x.block < W.heap.size := by obtain ⟨m, hm⟩ := k0; exact DataW.trod_lt m _ _ _ hm
  obtain ⟨a0, u0, rfl, w0⟩ := arg_super (hval 0 25 v0 rfl rfl) h0
  have k1 := h1
  have lt1 : ∀ x ∈ p1, x.block < W.heap.size := by obtain ⟨m, hm⟩ := k1; exact DataW.trod_lt m _ _ _ hm
  obtain ⟨a1, u1, rfl, w1⟩ := arg_super (hval 1 25 v1 rfl rfl) h1
  have k2 := h2
  have lt2 : ∀ x ∈ p2, x.block < W.heap.size := by obtain ⟨m, hm⟩ := k2; exact DataW.trod_lt m _ _ _ hm
  obtain ⟨l2, w2⟩ := arg_bytes Try.underlying26 Try.underlying5 (by kernel_rfl) (hval 2 26 v2 rfl rfl) h2
  clear hA0 hval0
  refine (ringCodes_walk a0 u0 a1 u1 v2 l2 W w0 w1 w2).mono fun e W' ⟨he, bel⟩ => ?_
  subst he
  exact ⟨_, rfl, _, _, _, [], _, [], hW', trodAll_mk1 (shut_bool Try.underlying4 _), (trodAll_cons_mk (Below.trod laidOut_ (by kernel_rfl) (of_decide_eq_true (by kernel_rfl)) k0 bel lt0) (trodAll_cons_mk (Below.trod laidOut_ (by kernel_rfl) (of_decide_eq_true (by kernel_rfl)) k1 bel lt1) (trodAll_cons_mk (Below.trod laidOut_ (by kernel_rfl) (of_decide_eq_true (by kernel_rfl)) k2 bel lt2) trodAll_mk0))), rfl, bel.frame _, fun h => by cases h⟩

theorem ringCodes_over : Rows.ringCodesRow.holds Try.pinned (OpenSpec.ofChange Rows.ringCodesSpec) :=
  OpenClaim.holds_of_wide 3 Try.f3 rfl rfl rfl rfl rfl rfl rfl ⟨rfl, rfl, rfl, rfl, rfl⟩ rfl rfl rfl rfl rfl (by kernel_rfl) Try.func3 (by kernel_rfl)
    (of_decide_eq_true (by kernel_rfl)) (by unfold Func.isWrapper; first | (rw [if_pos (by decide +kernel)]; kernel_rfl) | (rw [if_neg (by decide +kernel)]; exact ⟨rfl, rfl⟩))
    (fun os started H enc _ => ringCodes_lifted os started H enc)

theorem ringCodes_proved : Rows.RingCodesSaid := ringCodes_over
#print axioms ringCodes_proved
end Go.Proofs.Ytcibihakjcenaaa
