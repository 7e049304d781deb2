/- The law scionrylaw04.RingApart answers true at any disk, two superblocks, place and block: superblocks of two slots may be put in either order; what is written from block 4 on changes none; one that is put twice stands once. Conditions: none. -/
import Derived.Test.YtcibihakjcenaaaRows
import Derived.Test.YtcibihakjcenaaaRingApartQ1
import Derived.Test.YtcibihakjcenaaaRingApartQ2
import Derived.Test.YtcibihakjcenaaaRingApartQ3
import Derived.Test.YtcibihakjcenaaaRingApartQ4
import Derived.Test.YtcibihakjcenaaaRingApartQ5
import Derived.Test.YtcibihakjcenaaaRingApartQ6
import Derived.Test.YtcibihakjcenaaaRingApartQ7
import Derived.Test.YtcibihakjcenaaaRingApartQ8
import Derived.Test.YtcibihakjcenaaaRingApartQ9
import Derived.Test.YtcibihakjcenaaaRingApartQ10
import Derived.Test.YtcibihakjcenaaaRingApartQ11
import Derived.Test.YtcibihakjcenaaaRingApartQ12
import Derived.Test.YtcibihakjcenaaaRingApartQ13
import Derived.Test.YtcibihakjcenaaaRingApartQ14
import Derived.Test.YtcibihakjcenaaaRingApartQ15
import Derived.Test.YtcibihakjcenaaaRingApartQ16
import Derived.Test.YtcibihakjcenaaaRingApartQ17
import Derived.Test.YtcibihakjcenaaaRingApartQ18
import Derived.Test.YtcibihakjcenaaaRingApartQ19
namespace Go.Proofs.Ytcibihakjcenaaa
open Go.ChangeShapes Go.WideShapes Go.ChangeAt Go.RowKit
open Go.ChangeMaps (open_string shut_string)
set_option linter.unusedVariables false

set_option maxRecDepth 100000 in
set_option maxHeartbeats 1000000 in
theorem ringApart_lifted (os : Os) (started : os.Started) (H : Type) (enc : TypeId × Value → H) :
    ReturnsInHanded {} Try.checked os 13 .any (Rows.ringApartSpec.pre6 enc Try.prog Try.f13 Rows.ringApartRow.domain false) (Rows.ringApartSpec.post enc Try.prog Try.f13 false true false false) := by
  refine returnsInHanded_of_change (C := Try.checked) own_ started (by kernel_rfl) Try.func13
    (ChangeSpec.witness6 (enc := enc) (C := Try.checked) false ⟨#[], #[.agg #[.slice none 0 0, .slice none 0 0], .agg #[.int .u32 0, .int .i64 0, .int .u32 0, .int .u32 0, .slice none 0 0], .agg #[.int .u32 0, .int .i64 0, .int .u32 0, .int .u32 0, .slice none 0 0], .int .i64 0, .slice none 0 0], []⟩ 8 (by kernel_rfl) (by kernel_rfl) (by kernel_rfl) (by kernel_rfl)) ?_
  intro W base args ds gs before hval0 hW hcnd _
  have hval : ∀ (j : Nat) t v, Try.f13.params[j]? = some t → args[j]? = some v → Value.okWide Try.prog W .any base t v := hval0
  have hW' := hW
  obtain ⟨p, q, hA0, hV, rfl, hfz, hnd⟩ := hW
  have hA : DataW.TrodAll enc Try.prog W 0 (fun _ => true) true Try.f13.params.toList args.toList ds p := hA0
  rw [Try.params13] at hA hval
  obtain ⟨v0, vs0, d0, ds0, p0, q0, hargs, rfl, rfl, h0, r0⟩ := trodAll_cons hA
  obtain ⟨v1, vs1, d1, ds1, p1, q1, rfl, rfl, rfl, h1, r1⟩ := trodAll_cons r0
  obtain ⟨v2, vs2, d2, ds2, p2, q2, rfl, rfl, rfl, h2, r2⟩ := trodAll_cons r1
  obtain ⟨v3, vs3, d3, ds3, p3, q3, rfl, rfl, rfl, h3, r3⟩ := trodAll_cons r2
  obtain ⟨v4, vs4, d4, ds4, p4, q4, rfl, rfl, rfl, h4, r4⟩ := trodAll_cons r3
  obtain ⟨rfl, rfl, rfl⟩ := trodAll_nil r4
  obtain rfl : args = #[v0, v1, v2, v3, v4] := by cases args; simp_all
  obtain ⟨rfl, rfl⟩ := trodVars_none hV
  have k0 := h0
  have lt0 : ∀ x ∈ p0, x.block < W.heap.size := by obtain ⟨m, hm⟩ := k0; exact DataW.trod_lt m _ _ _ hm
  obtain ⟨b0, u0, a0, rfl, w0⟩ := arg_disk (hval 0 44 v0 rfl rfl) h0
  have k1 := h1
  have lt1 : ∀ x ∈ p1, x.block < W.heap.size := by obtain ⟨m, hm⟩ := k1; exact DataW.trod_lt m _ _ _ hm
  obtain ⟨a1, u1, rfl, w1⟩ := arg_super (hval 1 25 v1 rfl rfl) h1
  have k2 := h2
  have lt2 : ∀ x ∈ p2, x.block < W.heap.size := by obtain ⟨m, hm⟩ := k2; exact DataW.trod_lt m _ _ _ hm
  obtain ⟨a2, u2, rfl, w2⟩ := arg_super (hval 2 25 v2 rfl rfl) h2
  obtain ⟨a3, rfl, rfl, rfl, w3⟩ := open_int Try.underlying3 (hval 3 3 v3 rfl rfl) h3
  have k4 := h4
  have lt4 : ∀ x ∈ p4, x.block < W.heap.size := by obtain ⟨m, hm⟩ := k4; exact DataW.trod_lt m _ _ _ hm
  obtain ⟨l4, w4⟩ := arg_bytes Try.underlying26 Try.underlying5 (by kernel_rfl) (hval 4 26 v4 rfl rfl) h4
  clear hA0 hval0
  refine (ringApart_walk a0 b0 u0 a1 u1 a2 u2 a3 v4 l4 W w0 w1 w2 w3 w4).mono fun e W' ⟨he, bel⟩ => ?_
  subst he
  exact ⟨_, rfl, _, _, _, [], _, [], hW', trodAll_mk1 (shut_bool Try.underlying4 _), (trodAll_cons_mk (Below.trod laidOut_ (by kernel_rfl) (of_decide_eq_true (by kernel_rfl)) k0 bel lt0) (trodAll_cons_mk (Below.trod laidOut_ (by kernel_rfl) (of_decide_eq_true (by kernel_rfl)) k1 bel lt1) (trodAll_cons_mk (Below.trod laidOut_ (by kernel_rfl) (of_decide_eq_true (by kernel_rfl)) k2 bel lt2) (trodAll_cons_mk (shut_int Try.underlying3 w3) (trodAll_cons_mk (Below.trod laidOut_ (by kernel_rfl) (of_decide_eq_true (by kernel_rfl)) k4 bel lt4) trodAll_mk0))))), rfl, bel.frame _, fun h => by cases h⟩

theorem ringApart_over : Rows.ringApartRow.holds Try.pinned (OpenSpec.ofChange Rows.ringApartSpec) :=
  OpenClaim.holds_of_wide 13 Try.f13 rfl rfl rfl rfl rfl rfl rfl ⟨rfl, rfl, rfl, rfl, rfl⟩ rfl rfl rfl rfl rfl (by kernel_rfl) Try.func13 (by kernel_rfl)
    (of_decide_eq_true (by kernel_rfl)) (by unfold Func.isWrapper; first | (rw [if_pos (by decide +kernel)]; kernel_rfl) | (rw [if_neg (by decide +kernel)]; exact ⟨rfl, rfl⟩))
    (fun os started H enc _ => ringApart_lifted os started H enc)

theorem ringApart_proved : Rows.RingApartSaid := ringApart_over
#print axioms ringApart_proved
end Go.Proofs.Ytcibihakjcenaaa
