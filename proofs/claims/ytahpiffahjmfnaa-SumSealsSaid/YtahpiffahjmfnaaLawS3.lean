/- The walk of the statement SumSeals. -/
import Derived.Test.YtahpiffahjmfnaaSumP
import Derived.Test.YtahpiffahjmfnaaLawS1
import Derived.Test.YtahpiffahjmfnaaOpn
namespace Go.Proofs.Ytahpiffahjmfnaa
open Go.RowKit

set_option maxHeartbeats 400000 in
set_option maxRecDepth 100000 in
theorem sumSeals_walk (v : Value) (l : List UInt8) (at_ : Int) (by_ : Int) (w : World) (hv : Bytes w 0 w.heap.size v l) (_wa : (Lit.int .i64 at_).wf = true) (wb : (Lit.int .u8 by_).wf = true) :
    Calls Try.prog 11 #[v, .int .i64 at_, .int .u8 by_] w fun e w' => e = .returned (.bool true) ∧ Below w.heap.size w w' := by
  obtain ⟨y, hy⟩ := u8_of wb
  rw [hy]
  unfold bV
  have hy1 : (y.toNat : Int) < 256 := by have := y.toNat_lt; omega
  clear hy wb
  have hseal := fun w1 h hl => seal_yes v l w1 h hl
  obtain ⟨a, c, rfl, g1, g2, _, _⟩ := id hv
  unfold maxLen at g2
  by_cases hl : 124 < l.length
  · clear hseal
    go_enter Try.func11, Try.ntmps11
    go_wp2_with fail
    refine (alive2 _).mono ?_
    rintro e w1 ⟨rfl, hb1⟩
    go_wp2
    go_ret
    exact ⟨rfl, hb1⟩
  have hl' : l.length ≤ 124 := by omega
  have Hs := Lib.hid hseal
  have Hop := Lib.hid (open_seal l hl')
  have Hsl := Lib.hid (sealL_length l hl')
  have Hpl := Lib.hid (padL_length l hl')
  clear hseal
  go_enter Try.func11, Try.ntmps11
  go_wp2_with fail
  refine (alive2 _).mono ?_
  rintro e w1 ⟨rfl, hb1⟩
  have hv1 := hv.step hb1
  go_wp2_with fail
  refine (Hs.out w1 hv1 hl').mono ?_
  rintro e w2 ⟨p, rfl, hm⟩
  have hv2 := hv1.step hm.below
  have hB2 := below_step hb1 hb1.size hm.below
  have hp := hm.bytes
  obtain ⟨pb, po, pc, rfl, q0, q1, q2, q3, q4⟩ := hp.at_n Hsl.out (by omega)
  have Hpc := Lib.hid q4
  clear q4
  have hopen := open_any _ _ w2 hp.all0
  rw [Hop.out.1, Hop.out.2] at hopen
  have Ho := Lib.hid hopen
  clear hopen
  go_wp2_with fail
  refine Ho.out.mono ?_
  rintro e w3 ⟨o, rfl, hm3⟩
  have hv3 := hv2.step hm3.below
  have hB3 := below_step hB2 hB2.size hm3.below
  obtain ⟨ob, oo, oc, rfl, k0, k1, k2, k3, k4⟩ := hm3.bytes.at_n Hpl.out (by omega)
  unfold maxLen at k3 q3
  have hpre := hm3.bytes.pre l.length (by rw [Hpl.out]; exact hl')
  rw [padL_take] at hpre
  have c1 := fun nq => cvt_of (w := w3.drewN nq) hpre
  have c2 := fun nq => cvt_of (w := w3.drewN nq) hv3
  have Hk := Lib.hid k4
  have Hv := Lib.hid hv
  have Hm := Lib.hid (And.intro hm hm3)
  clear k4 hpre hv hv1 hv2 hv3 hm hm3 hp
  go_wp2_with fail
  go_quiet (fail)
  clear c1 c2
  go_wp2_with fail
  go_loop [12] (fun i => ∃ k : Nat, l.length ≤ k ∧ k ≤ 124 ∧ i = .int .i64 k) (fun i => 124 - (intOf i).toNat)
  case atStart => exact ⟨_, Nat.le_refl _, hl', rfl⟩
  case round =>
    obtain ⟨k, hk0, hk, rfl⟩ := hrel
    by_cases hlt : k < 124
    · have hx := Hk.out k 0 (padL_at l k hk0 hlt)
      simp only [bV] at hx
      go_wp2
      go_round
      case rel => exact ⟨k + 1, by omega, by omega, by go_num⟩
      case measure => simp [intOf]; omega
    · obtain rfl : k = 124 := by omega
      have hbad : ∀ j : Nat, at_ = j → j < 128 → y ≠ 0 → ∃ x : UInt8, ((sealL l)[j]? = some x) ∧ w2.cell? ⟨pb, po + j, none⟩ = some (bV x) ∧ openE ((sealL l).set j (x ^^^ y)) = 8 ∧ openL ((sealL l).set j (x ^^^ y)) = [] := by
        intro j _ hj hy
        obtain ⟨x, hx⟩ : ∃ x, (sealL l)[j]? = some x := ⟨(sealL l)[j]'(by rw [Hsl.out]; exact hj), by simp⟩
        obtain ⟨h1, h2⟩ := turned_one l hl' j (x ^^^ y) hj (by
          rw [hx]
          intro h
          injection h with h
          exact hy (by have := congrArg (fun z => x ^^^ z) h; simpa [← UInt8.xor_assoc] using this.symm))
        exact ⟨x, hx, Hpc.out j x hx, h1, h2⟩
      have HB := Lib.hid hbad
      clear hbad
      by_cases c1 : at_ < 0
      · go_wp2
        go_ret
        exact ⟨rfl, hB3.trans (below_dn _ _ _)⟩
      by_cases c2 : 128 ≤ at_
      · go_wp2
        go_ret
        exact ⟨rfl, hB3.trans (below_dn _ _ _)⟩
      by_cases c3 : y = 0
      · subst c3
        go_wp2
        go_ret
        exact ⟨rfl, hB3.trans (below_dn _ _ _)⟩
      obtain ⟨j, rfl⟩ := Int.eq_ofNat_of_zero_le (show 0 ≤ at_ by omega)
      have hj : j < 128 := by omega
      obtain ⟨x, hx, hcell, he, hE⟩ := HB.out j rfl hj c3
      have hst3 : Below w2.heap.size w2 (w3.drewN nq) := Hm.out.2.below.trans (below_dn _ _ _)
      have hcell3 : (w3.drewN nq).cell? ⟨pb, po + j, none⟩ = some (.int .u8 (x.toNat : Int)) := (hst3.cell (p := ⟨pb, po + j, none⟩) q1).trans hcell
      have hfz3 : (w3.drewN nq).frozen? ⟨pb, po + j, none⟩ = false := (hst3.frozen (p := ⟨pb, po + j, none⟩) q1).trans (Hm.out.1.thawed _ _ _ _ rfl j hj)
      have hp3 : Bytes (w3.drewN nq) 0 (w3.drewN nq).heap.size (.slice (some ⟨pb, po, none⟩) 128 pc) (sealL l) := (Hm.out.1.bytes.all0.step hst3)
      have hset := hp3.set j (x ^^^ y) (by rw [Hsl.out]; exact hj)
      have hxy := xor_u8 x y
      have hy0 : ((y.toNat : Int) == 0) = false := by
        simp only [beq_eq_false_iff_ne, ne_eq]
        intro h
        apply c3
        apply UInt8.toNat_inj.1
        simpa using h
      have hB4 : Below w.heap.size w (w3.drewN nq) := hB3.trans (below_dn _ _ _)
      have hwp : w.heap.size ≤ pb := Nat.le_trans hb1.size q0
      generalize w3.drewN nq = w4 at *
      have hopen := open_any _ _ (w4.setCell ⟨pb, po + j, none⟩ (bV (x ^^^ y))) (hset.more (Nat.le_refl _) (by simp))
      rw [he, hE] at hopen
      simp only [bV] at hopen
      generalize x ^^^ y = z at *
      have Ho2 := Lib.hid hopen
      have HB4 := Lib.hid hB4
      clear hopen hset hp3 hst3 hcell hx he hE hB4
      go_wp2_with fail
      refine Ho2.out.mono ?_
      rintro e w5 ⟨u, rfl, hm5⟩
      go_wp2
      go_ret
      exact ⟨rfl, (HB4.out.setCell (p := ⟨pb, po + j, none⟩) hwp _).trans (hm5.below.mono (Nat.le_trans HB4.out.size (by simp)))⟩
end Go.Proofs.Ytahpiffahjmfnaa
