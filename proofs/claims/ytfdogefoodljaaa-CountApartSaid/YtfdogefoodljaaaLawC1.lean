/- The walk of the statement CountTurns. -/
import Derived.Test.YtfdogefoodljaaaCntP
import Derived.Test.YtfdogefoodljaaaReg
import Derived.Deep.RegionHeld
import Derived.Deep.DeepCutAuto
namespace Go.Proofs.Ytfdogefoodljaaa
open Go.RowKit

theorem cv_of {w : World} {lo hi : Nat} {v : Value} {l : List UInt8} (h : Bytes w lo hi v l) : (convert 22 9 v).run Try.prog w = .ok (.string ⟨l.toArray⟩) w :=
  conv_bytes (P := Try.prog) h 22 9 5 Try.underlying22 Try.underlying5 Try.underlying9

set_option maxRecDepth 100000 in
set_option maxHeartbeats 1000000 in
theorem alive7 (w : World) : Calls Try.prog 15 #[] w fun e w' => e = .returned (.bool true) ∧ Below w.heap.size w w' := by
  obtain ⟨R, hR⟩ : ∃ R, R = List.replicate 256 (0 : UInt8) := ⟨_, rfl⟩
  have hRe : errT R 9 255 = 0 := by rw [hR]; decide +kernel
  obtain ⟨A, hA⟩ : ∃ A, A = outT R 9 1 255 := ⟨_, rfl⟩
  have hAl : A.length = 256 := by rw [hA, hR]; decide +kernel
  have hA9 : A[9]? = some 1 := by rw [hA, hR]; decide +kernel
  have hd := down_up hRe
  rw [← hA] at hd
  have hc1 := fun w => cnew_any w
  have hc2 := fun v w h => cup_any v R 9 w h
  have hc3 := fun v w h => cdown_any v A 9 w h
  rw [← hR] at hc1
  rw [← hA, hRe] at hc2
  rw [hd.1, hd.2] at hc3
  have HC := Lib.hid (And.intro hc1 (And.intro hc2 hc3))
  have HA := Lib.hid hA9
  clear hc1 hc2 hc3 hd hA9 hA hRe hR
  go_enter Try.func15, Try.ntmps15
  go_wp2_with fail
  refine (HC.out.1 w).mono ?_
  rintro e w1 ⟨u1, rfl, hm1⟩
  go_wp2_with fail
  refine (HC.out.2.1 _ _ hm1.bytes.all0).mono ?_
  rintro e w2 ⟨u2, rfl, hm2⟩
  obtain ⟨b, off, c, rfl, -, -, -, -, -⟩ := hm2.bytes.at_n hAl (by omega)
  go_wp2_with fail
  refine (HC.out.2.2 _ _ hm2.bytes.all0).mono ?_
  rintro e w3 ⟨u3, rfl, hm3⟩
  have hB2 := below_step hm1.below hm1.below.size hm2.below
  have hB3 := below_step hB2 hB2.size hm3.below
  have ha := (hm2.bytes.step hm3.below)
  have ca := fun W => (ha.step (aft_below w3 W)).cellAt 9 1 HA.out
  have c3 := fun W => cv_of (hm3.bytes.step (aft_below w3 W))
  have i9 : (9 : Int).toNat = 9 := rfl
  clear hm1 hm2 HA
  simp only [bV] at ca
  go_wp2_with fail
  refine wp_region_held_drew (S := Cls w3) (by kernel_rfl) (Cls.drew w3) (fun hCl => ?_)
  refine wpAnyH_seg (fuel := 5) (by kernel_rfl) (fun _ d _ _ _ h => by cases d <;> exact h) hCl [0, 1, 2, 3, 4, 5, 6, 7, 8, 9, 10, 11, 12, 13, 14] _ _ _ (by kernel_rfl) (by kernel_rfl) ?_
  simp only [opsOf_cons, opsOf_nil, consOp_some, List.getElem?_toArray, List.getElem?_cons_succ, List.getElem?_cons_zero]
  repeat (first | go_big_quiet_step (fail) | quiet_step (fail))
  refine wpQuiet_nil ?_
  refine wpAnyH_each (fuel := 4) [15] (by kernel_rfl) (by simp) (by kernel_rfl) ?_
  refine Each.cons _ rfl (fun K' hK => ?_) Each.nil
  go_simp
  refine (HC.out.1 _).mono ?_
  rintro e w4 ⟨u4, rfl, hm4⟩
  have hst : Below w3.heap.size w3 w4 := (Below.refl w3.heap.size w3).drew.trans hm4.below
  have c4 := fun (W : World) => cv_of (hm4.bytes.step (aft_below w4 W))
  refine hK.out (Cls w4) (Cls.sub hst) (Cls.refl w4) ?_
  have hCl := Cls.refl w4
  clear hK K' c3 ca
  refine wpAnyH_seg (fuel := 0) (by kernel_rfl) (fun _ d _ _ _ h => by cases d <;> exact h) hCl [16, 17, 18, 19] _ _ _ (by kernel_rfl) (by kernel_rfl) ?_
  simp only [opsOf_cons, opsOf_nil, consOp_some, List.getElem?_toArray, List.getElem?_cons_succ, List.getElem?_cons_zero]
  repeat (first | go_big_quiet_step (fail) | quiet_step (fail))
  refine wpQuiet_nil ?_
  refine wpAnyH_done (by kernel_rfl) ?_ _
  go_wp2
  go_ret
  exact ⟨rfl, below_step hB3 hB3.size hst⟩

end Go.Proofs.Ytfdogefoodljaaa
