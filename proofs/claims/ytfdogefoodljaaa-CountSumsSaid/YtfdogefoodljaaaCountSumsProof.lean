/- The law scionrylaw07.CountSums answers true at any disk, side, table and block: a table that is turned at one block has another sum; to write one twice is to write it once. Conditions: none. -/
import Derived.Test.YtfdogefoodljaaaRows
import Derived.Test.YtfdogefoodljaaaCountSumsQ1
import Derived.Test.YtfdogefoodljaaaCountSumsQ2
import Derived.Test.YtfdogefoodljaaaCountSumsQ3
import Derived.Test.YtfdogefoodljaaaCountSumsQ4
import Derived.Test.YtfdogefoodljaaaCountSumsQ5
import Derived.Test.YtfdogefoodljaaaCountSumsQ6
import Derived.Test.YtfdogefoodljaaaCountSumsQ7
import Derived.Test.YtfdogefoodljaaaCountSumsQ8
import Derived.Test.YtfdogefoodljaaaCountSumsQ9
import Derived.Test.YtfdogefoodljaaaCountSumsQ10
import Derived.Test.YtfdogefoodljaaaCountSumsQ11
import Derived.Test.YtfdogefoodljaaaCountSumsQ12
import Derived.Test.YtfdogefoodljaaaCountSumsQ13
import Derived.Test.YtfdogefoodljaaaCountSumsQ14
import Derived.Test.YtfdogefoodljaaaCountSumsQ15
import Derived.Test.YtfdogefoodljaaaCountSumsQ16
import Derived.Test.YtfdogefoodljaaaCountSumsQ17
import Derived.Test.YtfdogefoodljaaaCountSumsQ18
import Derived.Test.YtfdogefoodljaaaCountSumsQ19
namespace Go.Proofs.Ytfdogefoodljaaa
open Go.ChangeShapes Go.WideShapes Go.ChangeAt Go.RowKit
open Go.ChangeMaps (open_string shut_string)
set_option linter.unusedVariables false

set_option maxRecDepth 100000 in
set_option maxHeartbeats 1000000 in
theorem countSums_lifted (os : Os) (started : os.Started) (H : Type) (enc : TypeId × Value → H) :
    ReturnsInHanded {} Try.checked os 7 .any (Rows.countSumsSpec.pre6 enc Try.prog Try.f7 Rows.countSumsRow.domain false) (Rows.countSumsSpec.post enc Try.prog Try.f7 false true false false) := by
  refine returnsInHanded_of_change (C := Try.checked) own_ started (by kernel_rfl) Try.func7
    (ChangeSpec.witness6 (enc := enc) (C := Try.checked) false ⟨#[], #[.agg #[.slice none 0 0, .slice none 0 0], .int .i64 0, .slice none 0 0, .int .i64 0], []⟩ 8 (by kernel_rfl) (by kernel_rfl) (by kernel_rfl) (by kernel_rfl)) ?_
  intro W base args ds gs before hval0 hW hcnd _
  have hval : ∀ (j : Nat) t v, Try.f7.params[j]? = some t → args[j]? = some v → Value.okWide Try.prog W .any base t v := hval0
  have hW' := hW
  obtain ⟨p, q, hA0, hV, rfl, hfz, hnd⟩ := hW
  have hA : DataW.TrodAll enc Try.prog W 0 (fun _ => true) true Try.f7.params.toList args.toList ds p := hA0
  rw [Try.params7] at hA hval
  obtain ⟨v0, vs0, d0, ds0, p0, q0, hargs, rfl, rfl, h0, r0⟩ := trodAll_cons hA
  obtain ⟨v1, vs1, d1, ds1, p1, q1, rfl, rfl, rfl, h1, r1⟩ := trodAll_cons r0
  obtain ⟨v2, vs2, d2, ds2, p2, q2, rfl, rfl, rfl, h2, r2⟩ := trodAll_cons r1
  obtain ⟨v3, vs3, d3, ds3, p3, q3, rfl, rfl, rfl, h3, r3⟩ := trodAll_cons r2
  obtain ⟨rfl, rfl, rfl⟩ := trodAll_nil r3
  obtain rfl : args = #[v0, v1, v2, v3] := by cases args; simp_all
  obtain ⟨rfl, rfl⟩ := trodVars_none hV
  have k0 := h0
  have lt0 : ∀ x ∈ p0, x.block < W.heap.size := by obtain ⟨m, hm⟩ := k0; exact DataW.trod_lt m _ _ _ hm
  obtain ⟨b0, u0, a0, rfl, w0⟩ := arg_disk (hval 0 33 v0 rfl rfl) h0
  obtain ⟨a1, rfl, rfl, rfl, w1⟩ := open_int Try.underlying3 (hval 1 3 v1 rfl rfl) h1
  have k2 := h2
  have lt2 : ∀ x ∈ p2, x.block < W.heap.size := by obtain ⟨m, hm⟩ := k2; exact DataW.trod_lt m _ _ _ hm
  obtain ⟨l2, w2⟩ := arg_bytes Try.underlying22 Try.underlying5 (by kernel_rfl) (hval 2 22 v2 rfl rfl) h2
  obtain ⟨a3, rfl, rfl, rfl, w3⟩ := open_int Try.underlying3 (hval 3 3 v3 rfl rfl) h3
  clear hA0 hval0
  refine (countSums_walk a0 b0 u0 a1 v2 l2 a3 W w0 w1 w2 w3).mono fun e W' ⟨he, bel⟩ => ?_
  subst he
  exact ⟨_, rfl, _, _, _, [], _, [], hW', trodAll_mk1 (shut_bool Try.underlying4 _), (trodAll_cons_mk (Below.trod laidOut_ (by kernel_rfl) (of_decide_eq_true (by kernel_rfl)) k0 bel lt0) (trodAll_cons_mk (shut_int Try.underlying3 w1) (trodAll_cons_mk (Below.trod laidOut_ (by kernel_rfl) (of_decide_eq_true (by kernel_rfl)) k2 bel lt2) (trodAll_cons_mk (shut_int Try.underlying3 w3) trodAll_mk0)))), rfl, bel.frame _, fun h => by cases h⟩

theorem countSums_over : Rows.countSumsRow.holds Try.pinned (OpenSpec.ofChange Rows.countSumsSpec) :=
  OpenClaim.holds_of_wide 7 Try.f7 rfl rfl rfl rfl rfl rfl rfl ⟨rfl, rfl, rfl, rfl, rfl⟩ rfl rfl rfl rfl rfl (by kernel_rfl) Try.func7 (by kernel_rfl)
    (of_decide_eq_true (by kernel_rfl)) (by unfold Func.isWrapper; first | (rw [if_pos (by decide +kernel)]; kernel_rfl) | (rw [if_neg (by decide +kernel)]; exact ⟨rfl, rfl⟩))
    (fun os started H enc _ => countSums_lifted os started H enc)

theorem countSums_proved : Rows.CountSumsSaid := countSums_over
#print axioms countSums_proved
end Go.Proofs.Ytfdogefoodljaaa
