/- The walks of the statements of layer 1. -/
import Derived.Test.YtahpiffahjmfnaaRefA
namespace Go.Proofs.Ytahpiffahjmfnaa
open Go.RowKit

set_option maxHeartbeats 1000000 in
theorem alive1 (w : World) : Calls Try.prog 16 #[] w fun e w' => e = .returned (.bool true) ∧ Below w.heap.size w w' := by
  go_enter Try.func16, Try.ntmps16
  go_wp2_with fail
  refine (two_yes 258 _ (by omega)).mono ?_
  rintro e w1 ⟨v, rfl, hm⟩
  have hc := getTwo_any v (twoL 258) 0 w1 (hm.bytes.more (Nat.zero_le _) (Nat.le_refl _))
  rw [show getN (twoL 258) 0 2 = 258 by decide, show getE (twoL 258) 0 2 = 0 by decide] at hc
  obtain ⟨b, off, c, rfl, hlo, hhi, _, _, hcell⟩ := hm.bytes.at_ (by decide)
  have h0 := hcell 0 2 (by decide)
  have hb1 := hm.below
  clear hcell hm
  go_wp2_with fail
  refine hc.mono ?_
  rintro e w2 ⟨rfl, hb2⟩
  have h0' := (hb2.cell (p := ⟨b, off + 0, none⟩) hhi).trans h0
  clear h0 hc
  simp only [bV, Nat.add_zero] at h0'
  have hb3 := hb1.trans (hb2.mono hb1.size)
  go_wp2
  go_ret
  exact ⟨rfl, hb3⟩

theorem all0 {w : World} {hi : Nat} {lo : Nat} {v : Value} {l : List UInt8} (h : Bytes w lo hi v l) : Bytes w 0 hi v l := h.more (Nat.zero_le _) (Nat.le_refl _)

set_option maxHeartbeats 2000000 in
theorem codeNames_walk (w : World) : Calls Try.prog 6 #[] w fun e w' => e = .returned (.bool true) ∧ Below w.heap.size w w' := by
  go_enter Try.func6, Try.ntmps6
  go_wp2_with fail
  refine (two_no 65536 _ (by omega)).mono ?_
  rintro e w1 ⟨rfl, rfl⟩
  go_wp2_with fail
  refine (two_no (-1) _ (by omega)).mono ?_
  rintro e w1 ⟨rfl, rfl⟩
  go_wp2_with fail
  have hB := (Below.refl w.heap.size w).alloc (Nat.le_refl _) (.cells #[.int .u8 7, .int .u8 2, .int .u8 1] 5)
  have hc := getTwo_any _ [7, 2, 1] 1 _ ((Bytes.new w 5 [7, 2, 1] (by simp [maxLen]) (0, 0)).more (Nat.zero_le _) (by simp))
  rw [show getN [7, 2, 1] 1 2 = 258 by decide, show getE [7, 2, 1] 1 2 = 0 by decide] at hc
  refine hc.mono ?_
  rintro e w1 ⟨rfl, hb⟩
  have hB1 := hB.trans (hb.mono hB.size)
  clear hc hB hb
  go_wp2_with fail
  have hB := hB1.alloc hB1.size (.cells #[.int .u8 7] 5)
  have hc := getTwo_any _ [7] 0 _ ((Bytes.new w1 5 [7] (by simp [maxLen]) (0, 0)).more (Nat.zero_le _) (by simp))
  rw [show getN [7] 0 2 = 0 by decide, show getE [7] 0 2 = 8 by decide] at hc
  refine hc.mono ?_
  rintro e w2 ⟨rfl, hb⟩
  have hB2 := hB.trans (hb.mono hB.size)
  clear hc hB hb hB1
  go_wp2_with fail
  refine (four_any 1 _ (by omega)).mono ?_
  rintro e w3 ⟨v3, rfl, hm⟩
  have hc := getFour_any _ (fourL 1) 0 w3 (all0 hm.bytes)
  rw [show getN (fourL 1) 0 4 = 1 by decide, show getE (fourL 1) 0 4 = 0 by decide] at hc
  have hB3 := hB2.trans (hm.below.mono hB2.size)
  clear hm hB2
  go_wp2_with fail
  refine hc.mono ?_
  rintro e w4 ⟨rfl, hb⟩
  have hB4 := hB3.trans (hb.mono hB3.size)
  clear hc hB3 hb
  go_wp2_with fail
  refine (four_any 1 _ (by omega)).mono ?_
  rintro e w5 ⟨v5, rfl, hm⟩
  have hc := getFour_any _ (fourL 1) (-1) w5 (all0 hm.bytes)
  rw [show getN (fourL 1) (-1) 4 = 0 by decide, show getE (fourL 1) (-1) 4 = 8 by decide] at hc
  have hB5 := hB4.trans (hm.below.mono hB4.size)
  clear hm hB4
  go_wp2_with fail
  refine hc.mono ?_
  rintro e w6 ⟨rfl, hb⟩
  have hB6 := hB5.trans (hb.mono hB5.size)
  clear hc hB5 hb
  go_wp2_with fail
  refine (alive1 _).mono ?_
  rintro e w7 ⟨rfl, hb⟩
  have hB7 := hB6.trans (hb.mono hB6.size)
  clear hB6 hb
  go_wp2_with fail
  refine (four_any 1 _ (by omega)).mono ?_
  rintro e w8 ⟨v8, rfl, hm⟩
  have hB8 := hB7.trans (hm.below.mono hB7.size)
  have hcv := conv_bytes (P := Try.prog) hm.bytes 22 9 5 Try.underlying22 Try.underlying5 Try.underlying9
  rw [show fourL 1 = [1, 0, 0, 0] by decide] at hcv
  clear hB7 hm
  go_wp2

  go_ret
  exact ⟨rfl, hB8⟩
end Go.Proofs.Ytahpiffahjmfnaa
