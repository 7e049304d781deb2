/- nodes and their blocks are told by one another -/
import Derived.Test.YtfdogefoodljaaaRows
import Derived.Test.YtfdogefoodljaaaNodeBackQ1
import Derived.Test.YtfdogefoodljaaaNodeBackQ2
import Derived.Test.YtfdogefoodljaaaNodeBackQ3
import Derived.Test.YtfdogefoodljaaaNodeBackQ4
import Derived.Test.YtfdogefoodljaaaNodeBackQ5
import Derived.Test.YtfdogefoodljaaaNodeBackQ6
import Derived.Test.YtfdogefoodljaaaNodeBackQ7
import Derived.Test.YtfdogefoodljaaaNodeBackQ8
import Derived.Test.YtfdogefoodljaaaNodeBackQ9
import Derived.Test.YtfdogefoodljaaaNodeBackQ10
import Derived.Test.YtfdogefoodljaaaNodeBackQ11
import Derived.Test.YtfdogefoodljaaaNodeBackQ12
import Derived.Test.YtfdogefoodljaaaNodeBackQ13
import Derived.Test.YtfdogefoodljaaaNodeBackQ14
import Derived.Test.YtfdogefoodljaaaNodeBackQ15
import Derived.Test.YtfdogefoodljaaaNodeBackQ16
import Derived.Test.YtfdogefoodljaaaNodeBackQ17
import Derived.Test.YtfdogefoodljaaaNodeBackQ18
import Derived.Test.YtfdogefoodljaaaNodeBackQ19
namespace Go.Proofs.Ytfdogefoodljaaa
open Go.ChangeShapes Go.WideShapes Go.ChangeAt Go.RowKit
open Go.ChangeMaps (open_string shut_string)
set_option linter.unusedVariables false

set_option maxRecDepth 100000 in
set_option maxHeartbeats 1000000 in
theorem nodeBack_lifted (os : Os) (started : os.Started) (H : Type) (enc : TypeId × Value → H) :
    ReturnsInHanded {} Try.checked os 12 .any (Rows.nodeBackSpec.pre6 enc Try.prog Try.f12 Rows.nodeBackRow.domain false) (Rows.nodeBackSpec.post enc Try.prog Try.f12 false true false false) := by
  refine returnsInHanded_of_change (C := Try.checked) own_ started (by kernel_rfl) Try.func12
    (ChangeSpec.witness6 (enc := enc) (C := Try.checked) false ⟨#[], #[.agg #[.int .i64 0, .slice none 0 0], .slice none 0 0], []⟩ 8 (by kernel_rfl) (by kernel_rfl) (by kernel_rfl) (by kernel_rfl)) ?_
  intro W base args ds gs before hval0 hW hcnd _
  have hval : ∀ (j : Nat) t v, Try.f12.params[j]? = some t → args[j]? = some v → Value.okWide Try.prog W .any base t v := hval0
  have hW' := hW
  obtain ⟨p, q, hA0, hV, rfl, hfz, hnd⟩ := hW
  have hA : DataW.TrodAll enc Try.prog W 0 (fun _ => true) true Try.f12.params.toList args.toList ds p := hA0
  rw [Try.params12] at hA hval
  obtain ⟨v0, vs0, d0, ds0, p0, q0, hargs, rfl, rfl, h0, r0⟩ := trodAll_cons hA
  obtain ⟨v1, vs1, d1, ds1, p1, q1, rfl, rfl, rfl, h1, r1⟩ := trodAll_cons r0
  obtain ⟨rfl, rfl, rfl⟩ := trodAll_nil r1
  obtain rfl : args = #[v0, v1] := by cases args; simp_all
  obtain ⟨rfl, rfl⟩ := trodVars_none hV
  have k0 := h0
  have lt0 : ∀ x ∈ p0, x.block < W.heap.size := by obtain ⟨m, hm⟩ := k0; exact DataW.trod_lt m _ _ _ hm
  obtain ⟨a0, u0, rfl, w0⟩ := arg_node (hval 0 62 v0 rfl rfl) h0
  have k1 := h1
  have lt1 : ∀ x ∈ p1, x.block < W.heap.size := by obtain ⟨m, hm⟩ := k1; exact DataW.trod_lt m _ _ _ hm
  obtain ⟨l1, w1⟩ := arg_bytes Try.underlying22 Try.underlying5 (by kernel_rfl) (hval 1 22 v1 rfl rfl) h1
  clear hA0 hval0
  refine (nodeBack_walk a0 u0 v1 l1 W w0 w1).mono fun e W' ⟨he, bel⟩ => ?_
  subst he
  exact ⟨_, rfl, _, _, _, [], _, [], hW', trodAll_mk1 (shut_bool Try.underlying4 _), (trodAll_cons_mk (Below.trod laidOut_ (by kernel_rfl) (of_decide_eq_true (by kernel_rfl)) k0 bel lt0) (trodAll_cons_mk (Below.trod laidOut_ (by kernel_rfl) (of_decide_eq_true (by kernel_rfl)) k1 bel lt1) trodAll_mk0)), rfl, bel.frame _, fun h => by cases h⟩

theorem nodeBack_over : Rows.nodeBackRow.holds Try.pinned (OpenSpec.ofChange Rows.nodeBackSpec) :=
  OpenClaim.holds_of_wide 12 Try.f12 rfl rfl rfl rfl rfl rfl rfl ⟨rfl, rfl, rfl, rfl, rfl⟩ rfl rfl rfl rfl rfl (by kernel_rfl) Try.func12 (by kernel_rfl)
    (of_decide_eq_true (by kernel_rfl)) (by unfold Func.isWrapper; first | (rw [if_pos (by decide +kernel)]; kernel_rfl) | (rw [if_neg (by decide +kernel)]; exact ⟨rfl, rfl⟩))
    (fun os started H enc _ => nodeBack_lifted os started H enc)

theorem nodeBack_proved : Rows.NodeBackSaid := nodeBack_over
#print axioms nodeBack_proved
end Go.Proofs.Ytfdogefoodljaaa
