/- each item of a node that may be is found at its own place, by its key -/
import Derived.Test.YtfdogefoodljaaaRows
import Derived.Test.YtfdogefoodljaaaNodeFoundQ1
import Derived.Test.YtfdogefoodljaaaNodeFoundQ2
import Derived.Test.YtfdogefoodljaaaNodeFoundQ3
import Derived.Test.YtfdogefoodljaaaNodeFoundQ4
import Derived.Test.YtfdogefoodljaaaNodeFoundQ5
import Derived.Test.YtfdogefoodljaaaNodeFoundQ6
import Derived.Test.YtfdogefoodljaaaNodeFoundQ7
import Derived.Test.YtfdogefoodljaaaNodeFoundQ8
import Derived.Test.YtfdogefoodljaaaNodeFoundQ9
import Derived.Test.YtfdogefoodljaaaNodeFoundQ10
import Derived.Test.YtfdogefoodljaaaNodeFoundQ11
import Derived.Test.YtfdogefoodljaaaNodeFoundQ12
import Derived.Test.YtfdogefoodljaaaNodeFoundQ13
import Derived.Test.YtfdogefoodljaaaNodeFoundQ14
import Derived.Test.YtfdogefoodljaaaNodeFoundQ15
import Derived.Test.YtfdogefoodljaaaNodeFoundQ16
import Derived.Test.YtfdogefoodljaaaNodeFoundQ17
import Derived.Test.YtfdogefoodljaaaNodeFoundQ18
import Derived.Test.YtfdogefoodljaaaNodeFoundQ19
import Derived.Test.YtfdogefoodljaaaNodeFoundQ20
namespace Go.Proofs.Ytfdogefoodljaaa
open Go.ChangeShapes Go.WideShapes Go.ChangeAt Go.RowKit
open Go.ChangeMaps (open_string shut_string)
set_option linter.unusedVariables false

set_option maxRecDepth 100000 in
set_option maxHeartbeats 1000000 in
theorem nodeFound_lifted (os : Os) (started : os.Started) (H : Type) (enc : TypeId × Value → H) :
    ReturnsInHanded {} Try.checked os 11 .any (Rows.nodeFoundSpec.pre6 enc Try.prog Try.f11 Rows.nodeFoundRow.domain false) (Rows.nodeFoundSpec.post enc Try.prog Try.f11 false true false false) := by
  refine returnsInHanded_of_change (C := Try.checked) own_ started (by kernel_rfl) Try.func11
    (ChangeSpec.witness6 (enc := enc) (C := Try.checked) false ⟨#[], #[.agg #[.int .i64 0, .slice none 0 0], .agg #[.int .u8 0, .int .u32 0, .int .u32 0], .agg #[.int .u8 0, .int .u32 0, .int .u32 0]], []⟩ 8 (by kernel_rfl) (by kernel_rfl) (by kernel_rfl) (by kernel_rfl)) ?_
  intro W base args ds gs before hval0 hW hcnd _
  have hval : ∀ (j : Nat) t v, Try.f11.params[j]? = some t → args[j]? = some v → Value.okWide Try.prog W .any base t v := hval0
  have hW' := hW
  obtain ⟨p, q, hA0, hV, rfl, hfz, hnd⟩ := hW
  have hA : DataW.TrodAll enc Try.prog W 0 (fun _ => true) true Try.f11.params.toList args.toList ds p := hA0
  rw [Try.params11] at hA hval
  obtain ⟨v0, vs0, d0, ds0, p0, q0, hargs, rfl, rfl, h0, r0⟩ := trodAll_cons hA
  obtain ⟨v1, vs1, d1, ds1, p1, q1, rfl, rfl, rfl, h1, r1⟩ := trodAll_cons r0
  obtain ⟨v2, vs2, d2, ds2, p2, q2, rfl, rfl, rfl, h2, r2⟩ := trodAll_cons r1
  obtain ⟨rfl, rfl, rfl⟩ := trodAll_nil r2
  obtain rfl : args = #[v0, v1, v2] := by cases args; simp_all
  obtain ⟨rfl, rfl⟩ := trodVars_none hV
  have k0 := h0
  have lt0 : ∀ x ∈ p0, x.block < W.heap.size := by obtain ⟨m, hm⟩ := k0; exact DataW.trod_lt m _ _ _ hm
  obtain ⟨a0, u0, rfl, w0⟩ := arg_node (hval 0 62 v0 rfl rfl) h0
  have k1 := h1
  have lt1 : ∀ x ∈ p1, x.block < W.heap.size := by obtain ⟨m, hm⟩ := k1; exact DataW.trod_lt m _ _ _ hm
  obtain ⟨a1, rfl⟩ := arg_key (hval 1 65 v1 rfl rfl) h1
  have k2 := h2
  have lt2 : ∀ x ∈ p2, x.block < W.heap.size := by obtain ⟨m, hm⟩ := k2; exact DataW.trod_lt m _ _ _ hm
  obtain ⟨a2, rfl⟩ := arg_key (hval 2 65 v2 rfl rfl) h2
  clear hA0 hval0
  refine (nodeFound_walk a0 u0 a1 a2 W w0  ).mono fun e W' ⟨he, bel⟩ => ?_
  subst he
  exact ⟨_, rfl, _, _, _, [], _, [], hW', trodAll_mk1 (shut_bool Try.underlying4 _), (trodAll_cons_mk (Below.trod laidOut_ (by kernel_rfl) (of_decide_eq_true (by kernel_rfl)) k0 bel lt0) (trodAll_cons_mk (Below.trod laidOut_ (by kernel_rfl) (of_decide_eq_true (by kernel_rfl)) k1 bel lt1) (trodAll_cons_mk (Below.trod laidOut_ (by kernel_rfl) (of_decide_eq_true (by kernel_rfl)) k2 bel lt2) trodAll_mk0))), rfl, bel.frame _, fun h => by cases h⟩

theorem nodeFound_over : Rows.nodeFoundRow.holds Try.pinned (OpenSpec.ofChange Rows.nodeFoundSpec) :=
  OpenClaim.holds_of_wide 11 Try.f11 rfl rfl rfl rfl rfl rfl rfl ⟨rfl, rfl, rfl, rfl, rfl⟩ rfl rfl rfl rfl rfl (by kernel_rfl) Try.func11 (by kernel_rfl)
    (of_decide_eq_true (by kernel_rfl)) (by unfold Func.isWrapper; first | (rw [if_pos (by decide +kernel)]; kernel_rfl) | (rw [if_neg (by decide +kernel)]; exact ⟨rfl, rfl⟩))
    (fun os started H enc _ => nodeFound_lifted os started H enc)

theorem nodeFound_proved : Rows.NodeFoundSaid := nodeFound_over
#print axioms nodeFound_proved
end Go.Proofs.Ytfdogefoodljaaa
