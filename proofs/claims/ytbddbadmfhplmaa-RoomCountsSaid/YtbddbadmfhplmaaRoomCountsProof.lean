/- a block is taken just where one is free; one fewer is free then -/
import Derived.Test.YtbddbadmfhplmaaRows
import Derived.Test.YtbddbadmfhplmaaRoomCountsQ1
import Derived.Test.YtbddbadmfhplmaaRoomCountsQ2
import Derived.Test.YtbddbadmfhplmaaRoomCountsQ3
import Derived.Test.YtbddbadmfhplmaaRoomCountsQ4
import Derived.Test.YtbddbadmfhplmaaRoomCountsQ5
import Derived.Test.YtbddbadmfhplmaaRoomCountsQ6
import Derived.Test.YtbddbadmfhplmaaRoomCountsQ7
import Derived.Test.YtbddbadmfhplmaaRoomCountsQ8
import Derived.Test.YtbddbadmfhplmaaRoomCountsQ9
import Derived.Test.YtbddbadmfhplmaaRoomCountsQ10
import Derived.Test.YtbddbadmfhplmaaRoomCountsQ11
import Derived.Test.YtbddbadmfhplmaaRoomCountsQ12
import Derived.Test.YtbddbadmfhplmaaRoomCountsQ13
import Derived.Test.YtbddbadmfhplmaaRoomCountsQ14
import Derived.Test.YtbddbadmfhplmaaRoomCountsQ15
import Derived.Test.YtbddbadmfhplmaaRoomCountsQ16
import Derived.Test.YtbddbadmfhplmaaRoomCountsQ17
import Derived.Test.YtbddbadmfhplmaaRoomCountsQ18
import Derived.Test.YtbddbadmfhplmaaRoomCountsQ19
namespace Go.Proofs.Ytbddbadmfhplmaa
open Go.ChangeShapes Go.WideShapes Go.ChangeAt Go.RowKit
open Go.ChangeMaps (open_string shut_string)
set_option linter.unusedVariables false

set_option maxRecDepth 100000 in
set_option maxHeartbeats 1000000 in
theorem roomCounts_lifted (os : Os) (started : os.Started) (H : Type) (enc : TypeId × Value → H) :
    ReturnsInHanded {} Try.checked os 5 .any (Rows.roomCountsSpec.pre6 enc Try.prog Try.f5 Rows.roomCountsRow.domain false) (Rows.roomCountsSpec.post enc Try.prog Try.f5 false true false false) := by
  refine returnsInHanded_of_change (C := Try.checked) own_ started (by kernel_rfl) Try.func5
    (ChangeSpec.witness6 (enc := enc) (C := Try.checked) false ⟨#[], #[.agg #[.slice none 0 0, .slice none 0 0, .slice none 0 0, .slice none 0 0], .slice none 0 0, .int .i64 0], []⟩ 8 (by kernel_rfl) (by kernel_rfl) (by kernel_rfl) (by kernel_rfl)) ?_
  intro W base args ds gs before hval0 hW hcnd _
  have hval : ∀ (j : Nat) t v, Try.f5.params[j]? = some t → args[j]? = some v → Value.okWide Try.prog W .any base t v := hval0
  have hW' := hW
  obtain ⟨p, q, hA0, hV, rfl, hfz, hnd⟩ := hW
  have hA : DataW.TrodAll enc Try.prog W 0 (fun _ => true) true Try.f5.params.toList args.toList ds p := hA0
  rw [Try.params5] at hA hval
  obtain ⟨v0, vs0, d0, ds0, p0, q0, hargs, rfl, rfl, h0, r0⟩ := trodAll_cons hA
  obtain ⟨v1, vs1, d1, ds1, p1, q1, rfl, rfl, rfl, h1, r1⟩ := trodAll_cons r0
  obtain ⟨v2, vs2, d2, ds2, p2, q2, rfl, rfl, rfl, h2, r2⟩ := trodAll_cons r1
  obtain ⟨rfl, rfl, rfl⟩ := trodAll_nil r2
  obtain rfl : args = #[v0, v1, v2] := by cases args; simp_all
  obtain ⟨rfl, rfl⟩ := trodVars_none hV
  have k0 := h0
  have lt0 : ∀ x ∈ p0, x.block < W.heap.size := by obtain ⟨m, hm⟩ := k0; exact DataW.trod_lt m _ _ _ hm
  obtain ⟨a0, b0, u0, x0, y0, rfl, w0⟩ := arg_store (hval 0 28 v0 rfl rfl) h0
  have k1 := h1
  have lt1 : ∀ x ∈ p1, x.block < W.heap.size := by obtain ⟨m, hm⟩ := k1; exact DataW.trod_lt m _ _ _ hm
  obtain ⟨l1, w1⟩ := arg_bytes Try.underlying26 Try.underlying5 (by kernel_rfl) (hval 1 26 v1 rfl rfl) h1
  obtain ⟨a2, rfl, rfl, rfl, w2⟩ := open_int Try.underlying3 (hval 2 3 v2 rfl rfl) h2
  clear hA0 hval0
  refine (roomCounts_walk b0 u0 x0 y0 a0 v1 l1 a2 W w0 w1 w2).mono fun e W' ⟨he, bel⟩ => ?_
  subst he
  exact ⟨_, rfl, _, _, _, [], _, [], hW', trodAll_mk1 (shut_bool Try.underlying4 _), (trodAll_cons_mk (Below.trod laidOut_ (by kernel_rfl) (of_decide_eq_true (by kernel_rfl)) k0 bel lt0) (trodAll_cons_mk (Below.trod laidOut_ (by kernel_rfl) (of_decide_eq_true (by kernel_rfl)) k1 bel lt1) (trodAll_cons_mk (shut_int Try.underlying3 w2) trodAll_mk0))), rfl, bel.frame _, fun h => by cases h⟩

theorem roomCounts_over : Rows.roomCountsRow.holds Try.pinned (OpenSpec.ofChange Rows.roomCountsSpec) :=
  OpenClaim.holds_of_wide 5 Try.f5 rfl rfl rfl rfl rfl rfl rfl ⟨rfl, rfl, rfl, rfl, rfl⟩ rfl rfl rfl rfl rfl (by kernel_rfl) Try.func5 (by kernel_rfl)
    (of_decide_eq_true (by kernel_rfl)) (by unfold Func.isWrapper; first | (rw [if_pos (by decide +kernel)]; kernel_rfl) | (rw [if_neg (by decide +kernel)]; exact ⟨rfl, rfl⟩))
    (fun os started H enc _ => roomCounts_lifted os started H enc)

theorem roomCounts_proved : Rows.RoomCountsSaid := roomCounts_over
#print axioms roomCounts_proved
end Go.Proofs.Ytbddbadmfhplmaa
