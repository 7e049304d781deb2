/- The walk of CodeUnlike. -/
import Derived.Test.YtahpiffahjmfnaaLawA1
import Derived.Deep.QuietTactic
import Derived.BigQuiet
namespace Go.Proofs.Ytahpiffahjmfnaa
open Go.RowKit

theorem numOf_fourL (n : Nat) (h : n < 4294967296) : numOf (fourL n) = n := by
  simp [numOf, fourL, UInt8.toNat_ofNat']
  omega
theorem numOf_twoL (n : Nat) (h : n < 65536) : numOf (twoL n) = n := by
  simp [numOf, twoL, UInt8.toNat_ofNat']
  omega
theorem fourL_beq (m n : Nat) (hm : m < 4294967296) (hn : n < 4294967296) : (fourL m == fourL n) = ((m : Int) == (n : Int)) := by
  rw [Bool.eq_iff_iff]
  simp only [beq_iff_eq]
  constructor
  · intro h
    have := congrArg numOf h
    rw [numOf_fourL m hm, numOf_fourL n hn] at this
    omega
  · intro h
    rw [show m = n by omega]
theorem twoL_mod (m : Nat) : twoL (m % 65536) = [UInt8.ofNat m, UInt8.ofNat (m / 256)] := by
  have e1 : UInt8.ofNat (m % 65536) = UInt8.ofNat m := by apply UInt8.toNat_inj.1; simp [UInt8.toNat_ofNat']
  have e2 : UInt8.ofNat (m % 65536 / 256) = UInt8.ofNat (m / 256) := by apply UInt8.toNat_inj.1; simp [UInt8.toNat_ofNat']; omega
  simp [twoL, e1, e2]

set_option maxHeartbeats 4000000 in
set_option maxRecDepth 100000 in
theorem codeUnlike_walk (a b : Int) (w : World) (wa : (Lit.int .u32 a).wf = true) (wb : (Lit.int .u32 b).wf = true) :
    Calls Try.prog 5 #[.int .u32 a, .int .u32 b] w fun e w' => e = .returned (.bool true) ∧ Below w.heap.size w w' := by
  obtain ⟨a0, a1⟩ := bounds_u32 wa
  obtain ⟨b0, b1⟩ := bounds_u32 wb
  obtain ⟨m, rfl⟩ := Int.eq_ofNat_of_zero_le a0
  obtain ⟨n, rfl⟩ := Int.eq_ofNat_of_zero_le b0
  clear wa wb a0 b0
  go_enter Try.func5, Try.ntmps5
  go_wp2_with fail
  refine (alive1 _).mono ?_
  rintro e w1 ⟨rfl, hB1⟩
  go_wp2_with fail
  refine (four_any m _ (by omega)).mono ?_
  rintro e w2 ⟨v2, rfl, hm2⟩
  have hB2 := hB1.trans (hm2.below.mono hB1.size)
  go_wp2_with fail
  refine (four_any n _ (by omega)).mono ?_
  rintro e w3 ⟨v3, rfl, hm3⟩
  have hB3 := hB2.trans (hm3.below.mono hB2.size)
  have hI2 := hm2.bytes.below hm3.below (Nat.le_refl _)
  have hcv2 := conv_bytes (P := Try.prog) hI2 22 9 5 Try.underlying22 Try.underlying5 Try.underlying9
  have hcv3 := conv_bytes (P := Try.prog) hm3.bytes 22 9 5 Try.underlying22 Try.underlying5 Try.underlying9
  obtain ⟨b2, o2, c2, rfl, _, hhi2, hlc, _, hcell2⟩ := hI2.at_ (by simp [fourL])
  obtain ⟨b3, o3, c3, rfl, _, _, _, _, _⟩ := hm3.bytes.at_ (by simp [fourL])
  have x0 := hcell2 0 (UInt8.ofNat m) (by simp [fourL])
  have x2 := hcell2 2 (UInt8.ofNat (m / 65536)) (by simp [fourL])
  have x3 := hcell2 3 (UInt8.ofNat (m / 16777216)) (by simp [fourL])
  simp only [bV, Nat.add_zero, UInt8.toNat_ofNat'] at x0 x2 x3
  simp only [show (fourL m).length = 4 by simp [fourL], show (fourL n).length = 4 by simp [fourL]] at *
  have hs23 := hm3.below.size
  clear hcell2 hB1 hB2 hm2 hm3
  have hfe := fourL_beq m n (by omega) (by omega)
  have hq : ((m : Int) / 16777216 % 256 != (m : Int) / 16777216) = false := by simp; omega
  go_wp2_with fail
  refine (two_any _ _).mono ?_
  rintro e w4 ⟨tv, tl, te, rfl, hm, hte⟩
  have hB4 := hB3.trans (hm.below.mono hB3.size)
  have htl : tl = [UInt8.ofNat m, UInt8.ofNat (m / 256)] ∧ te = 0 := by
    rcases hte with ⟨h0, _, _, h1⟩ | ⟨_, _, h1⟩
    · rw [show ((m : Int) % 65536).toNat = m % 65536 by omega, twoL_mod] at h1
      exact ⟨h1, h0⟩
    · omega
  obtain ⟨rfl, rfl⟩ := htl
  have hcut := ((hI2.below hm.below hs23).cut 0 2 c2 (by simp [fourL]) (by omega) (by assumption))
  rw [show ((fourL m).drop 0).take 2 = [UInt8.ofNat m, UInt8.ofNat (m / 256)] by simp [fourL]] at hcut
  simp only [Nat.add_zero] at hcut
  have hcv4 := fun nq => conv_bytes (P := Try.prog) (w := w4.drewN nq) hm.bytes 22 9 5 Try.underlying22 Try.underlying5 Try.underlying9
  have hcv5 := fun nq => conv_bytes (P := Try.prog) (w := w4.drewN nq) hcut 22 9 5 Try.underlying22 Try.underlying5 Try.underlying9
  have y2 := (hm.below.cell (p := ⟨b2, o2 + 2, none⟩) (by show b2 < w3.heap.size; omega)).trans x2
  have y3 := (hm.below.cell (p := ⟨b2, o2 + 3, none⟩) (by show b2 < w3.heap.size; omega)).trans x3
  have hB4' : Below w.heap.size w w4 := hB4
  clear hcut hI2 hcv2 hcv3 x0 x2 x3 hB3 hB4 hm hfe hq
  by_cases h6 : (65536 : Int) ≤ (m : Int)
  · go_wp2_with fail
    go_quiet (fail)
    go_wp2
    go_ret
    exact ⟨rfl, below_drewN hB4' nq⟩
  · have g2 : m / 65536 % 2 ^ 8 = 0 := by omega
    have g3 : m / 16777216 % 2 ^ 8 = 0 := by omega
    rw [g2] at y2
    rw [g3] at y3
    clear g2 g3
    have h6' : decide ((65536 : Int) ≤ (m : Int)) = false := by simpa using h6
    go_wp2_with fail
    go_quiet (fail)
    go_wp2
    go_ret
    exact ⟨rfl, below_drewN hB4' nq⟩
end Go.Proofs.Ytahpiffahjmfnaa
