/- The walk of the statement SumSums. -/
import Derived.Test.YtahpiffahjmfnaaSumP
import Derived.Test.YtahpiffahjmfnaaLawS1
import Derived.Test.YtahpiffahjmfnaaOpn
namespace Go.Proofs.Ytahpiffahjmfnaa
open Go.RowKit

def sealE (l : List UInt8) : Int := if l.length ≤ 124 then 0 else 3
def sealO (l : List UInt8) : List UInt8 := if l.length ≤ 124 then sealL l else []
theorem seal_any (v : Value) (l : List UInt8) (w : World) (hI : Bytes w 0 w.heap.size v l) :
    Calls Try.prog 25 #[v] w fun e w' => ∃ u, e = .returned (.tuple #[u, .int .i64 (sealE l)]) ∧ MadeB w w' u (sealO l) := by
  unfold sealE sealO
  by_cases h : l.length ≤ 124
  · rw [if_pos h, if_pos h]
    exact seal_yes v l w hI h
  · rw [if_neg h, if_neg h]
    exact (seal_no v l w hI h).mono fun e w' ⟨he, hw⟩ => ⟨_, he, hw ▸ MadeB.nil_ (Below.refl _ _)⟩
theorem rseal_any (v : Value) (l : List UInt8) (w : World) (hI : Bytes w 0 w.heap.size v l) :
    Calls Try.prog 27 #[v] w fun e w' => ∃ u, e = .returned (.tuple #[u, .int .i64 (sealE l)]) ∧ MadeB w w' u (sealO l) := by
  unfold sealE sealO
  by_cases h : l.length ≤ 124
  · rw [if_pos h, if_pos h]
    exact rseal_yes v l w hI h
  · rw [if_neg h, if_neg h]
    exact (rseal_no v l w hI h).mono fun e w' ⟨he, hw⟩ => ⟨_, he, hw ▸ MadeB.nil_ (Below.refl _ _)⟩
theorem add1_u8 (x : UInt8) : ((x.toNat : Int) + 1) % 256 = ((x + 1).toNat : Int) := by
  rw [UInt8.toNat_add]
  simp

set_option maxHeartbeats 1000000 in
set_option maxRecDepth 100000 in
theorem sumSums_walk (v : Value) (l : List UInt8) (w : World) (hv : Bytes w 0 w.heap.size v l) :
    Calls Try.prog 10 #[v] w fun e w' => e = .returned (.bool true) ∧ Below w.heap.size w w' := by
  obtain ⟨a, c, rfl, g1, g2, _, _⟩ := id hv
  unfold maxLen at g2
  by_cases hl : 10000 < l.length
  · go_enter Try.func10, Try.ntmps10
    go_wp2
    go_ret
    exact ⟨rfl, Below.refl _ _⟩
  go_enter Try.func10, Try.ntmps10
  go_wp2_with (at_builtin; refine wpList_appB rfl _ _ 22 rfl w.heap.size 5 Try.underlying22 info_u8 _ [] rfl (OwnB.nil_ _ _ _) _ _ _ l rfl hv (by simp; omega) (Nat.le_refl _) ?_; intro o w1 hown1 hB1)
  rw [List.nil_append] at hown1
  have hv1 := hv.step hB1
  have ho1 := hown1.bytes.all0
  obtain ⟨oa, oc, rfl, o1, o2, _, _⟩ := id ho1
  clear hown1
  have hs := seal_any _ _ w1 ho1
  generalize hE : sealE l = E at hs
  generalize hO : sealO l = O at hs
  have HEO := Lib.hid (And.intro hE hO)
  have Hs := Lib.hid hs
  clear hE hO hs
  go_wp2_with fail
  refine Hs.out.mono ?_
  rintro e w2 ⟨p, rfl, hp⟩
  have hB2 := below_step hB1 hB1.size hp.below
  have hv2 := hv1.step hp.below
  have ho2 := ho1.step hp.below
  have hs := rseal_any _ _ w2 hv2
  rw [HEO.out.1, HEO.out.2] at hs
  have Hrs := Lib.hid hs
  clear hs
  go_wp2_with fail
  refine Hrs.out.mono ?_
  rintro e w3 ⟨q, rfl, hq⟩
  have hB3 := below_step hB2 hB2.size hq.below
  have hv3 := hv2.step hq.below
  have ho3 := ho2.step hq.below
  have hop := open_any _ _ w3 ho3
  generalize hE : openE l = F at hop
  generalize hO : openL l = X at hop
  have HFX := Lib.hid (And.intro hE hO)
  have Hop := Lib.hid hop
  clear hE hO hop
  go_wp2_with fail
  refine Hop.out.mono ?_
  rintro e w4 ⟨x, rfl, hx⟩
  have hB4 := below_step hB3 hB3.size hx.below
  have hv4 := hv3.step hx.below
  have ho4 := ho3.step hx.below
  have hop := ropen_any _ _ w4 hv4
  rw [HFX.out.1, HFX.out.2] at hop
  have Hrop := Lib.hid hop
  clear hop
  go_wp2_with fail
  refine Hrop.out.mono ?_
  rintro e w5 ⟨y, rfl, hy⟩
  have hB5 := below_step hB4 hB4.size hy.below
  have hv5 := hv4.step hy.below
  have ho5 := ho4.step hy.below
  go_wp2_with fail
  refine (of_any _ _ w5 ho5).mono ?_
  rintro e w6 ⟨rfl, hb6⟩
  have hB6 := below_step hB5 hB5.size hb6
  have hv6 := hv5.step hb6
  have ho6 := ho5.step hb6
  go_wp2_with fail
  refine (rof_any _ _ w6 hv6).mono ?_
  rintro e w7 ⟨rfl, hb7⟩
  have hB7 := below_step hB6 hB6.size hb7
  have hv7 := hv6.step hb7
  have ho7 := ho6.step hb7
  have hb57 := below_step hb6 hb6.size hb7
  have hb47 := below_step hy.below hy.below.size hb57
  have hb37 := below_step hx.below hx.below.size hb47
  have hb27 := below_step hq.below hq.below.size hb37
  have p7 := hp.bytes.all0.step hb27
  have q7 := hq.bytes.all0.step hb37
  have x7 := hx.bytes.all0.step hb47
  have y7 := hy.bytes.all0.step hb57
  have c1 := cvt_of p7
  have c2 := cvt_of q7
  have c3 := cvt_of x7
  have c4 := cvt_of y7
  unfold u32v
  have hof := (crc l).isLt
  generalize (crc l).toNat = cn at *
  clear p7 q7 x7 y7
  have lx := hx.later hb47
  have lp := hp.later hb27
  have hb17 := below_step hp.below hp.below.size hb27
  have z1 : w1.heap.size ≤ w2.heap.size := hp.below.size
  have z2 : w2.heap.size ≤ w3.heap.size := hq.below.size
  obtain ⟨xa, xc, rfl, x1, x2⟩ := hx.bytes.form rfl
  obtain ⟨pa, pc, rfl, p1, p2⟩ := hp.bytes.form rfl
  unfold maxLen at x2 p2
  have HA := Lib.hid (And.intro lp lx)
  have HV := Lib.hid (And.intro hv1 (And.intro ho1 (And.intro hb17 (And.intro hB7 hB1))))
  clear lx lp hb17 hp hq hx hy hb57 hb47 hb37 hb27 hv hv1 hv2 hv3 hv4 hv5 hv6 hv7 ho1 ho2 ho3 ho4 ho5 ho6 ho7 hb6 hb7 hB1 hB2 hB3 hB4 hB5 hB6 hB7
  go_wp2_with fail
  clear c1 c2 c3 c4 hof
  go_loopw [12] (fun i wr => ∃ (k : Nat) (L : List UInt8), k ≤ X.length ∧ i = .int .i64 k ∧ L.length = X.length ∧ Bytes wr w3.heap.size w4.heap.size (.slice xa X.length xc) L ∧ Thawed wr (.slice xa X.length xc) ∧ Below w3.heap.size w7 wr) (fun i _ => X.length - (intOf i).toNat)
  case atStart => exact ⟨0, X, Nat.zero_le _, rfl, rfl, HA.out.2.1, HA.out.2.2, Below.refl _ _⟩
  case round =>
    obtain ⟨k, L, hk, rfl, hL, hb, ht, hB⟩ := hrel
    by_cases hlt : k < X.length
    · obtain ⟨xb, xo, xc2, he, r1, r2, r3, r4, r5⟩ := hb.at_n hL (by omega)
      cases he
      obtain ⟨z, hz⟩ : ∃ z, L[k]? = some z := ⟨L[k]'(by omega), by simp⟩
      have hcell := r5 k z hz
      have hfz := ht _ _ _ _ rfl k hlt
      have hset := hb.set k (z + 1) (by omega)
      have htset := ht.set ⟨xb, xo + k, none⟩ (bV (z + 1))
      have hadd := add1_u8 z
      simp only [bV] at hcell
      have HP := Lib.hid (And.intro hset (And.intro htset (And.intro hB (And.intro hL hadd))))
      have hz1 : (z.toNat : Int) < 256 := by have := z.toNat_lt; omega
      unfold maxLen at r4
      clear hset htset hB hL r5 hz hb ht hadd
      go_wp2
      go_roundw
      case rel =>
        obtain ⟨hset, htset, hB, hL, hadd⟩ := HP.out
        rw [hadd]
        exact ⟨k + 1, _, by omega, by go_num, by rw [List.length_set]; exact hL, hset, htset, hB.setCell (p := ⟨xb, xo + k, none⟩) r1 _⟩
      case measure => simp [intOf]; omega
    · obtain rfl : k = X.length := by omega
      have lp := HA.out.1
      have sp := lp.1.below hB (by omega)
      have tp := thawed_below lp.1 lp.2 hB (by omega)
      have hB17 := HV.out.2.2.1.trans (hB.mono (by omega))
      have HB := Lib.hid (And.intro sp (And.intro tp hB17))
      clear lp sp tp hB17 hb ht hL hB hlt
      go_wp2_with fail
      go_loopw [13] (fun i w9 => ∃ (k : Nat) (L : List UInt8), k ≤ O.length ∧ i = .int .i64 k ∧ L.length = O.length ∧ Bytes w9 w1.heap.size w2.heap.size (.slice pa O.length pc) L ∧ Thawed w9 (.slice pa O.length pc) ∧ Below w1.heap.size w1 w9) (fun i _ => O.length - (intOf i).toNat)
      case atStart => exact ⟨0, O, Nat.zero_le _, rfl, rfl, HB.out.1, HB.out.2.1, HB.out.2.2⟩
      case round =>
        obtain ⟨k, L, hk, rfl, hL, hb, ht, hB⟩ := hrel
        by_cases hlt : k < O.length
        · obtain ⟨xb, xo, xc2, he, r1, r2, r3, r4, r5⟩ := hb.at_n hL (by omega)
          cases he
          obtain ⟨z, hz⟩ : ∃ z, L[k]? = some z := ⟨L[k]'(by omega), by simp⟩
          have hcell := r5 k z hz
          have hfz := ht _ _ _ _ rfl k hlt
          have hset := hb.set k (z + 1) (by omega)
          have htset := ht.set ⟨xb, xo + k, none⟩ (bV (z + 1))
          have hadd := add1_u8 z
          simp only [bV] at hcell
          have HP := Lib.hid (And.intro hset (And.intro htset (And.intro hB (And.intro hL hadd))))
          have hz1 : (z.toNat : Int) < 256 := by have := z.toNat_lt; omega
          unfold maxLen at r4
          clear hset htset hB hL r5 hz hb ht hadd
          go_wp2
          go_roundw
          case rel =>
            obtain ⟨hset, htset, hB, hL, hadd⟩ := HP.out
            rw [hadd]
            exact ⟨k + 1, _, by omega, by go_num, by rw [List.length_set]; exact hL, hset, htset, hB.setCell (p := ⟨xb, xo + k, none⟩) r1 _⟩
          case measure => simp [intOf]; omega
        · obtain rfl : k = O.length := by omega
          have d1 := cvt_of (HV.out.1.below hB (Nat.le_refl _))
          have d2 := cvt_of (HV.out.2.1.below hB (Nat.le_refl _))
          have hfin := HV.out.2.2.2.2.trans (hB.mono HV.out.2.2.2.2.size)
          clear hb ht hL hB hlt
          go_wp2
          go_ret
          exact ⟨rfl, hfin⟩
end Go.Proofs.Ytahpiffahjmfnaa
