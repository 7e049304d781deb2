/- The walks of the statements of layer 1. -/
import Derived.Test.YtahpiffahjmfnaaRefA
import Derived.OpenShut
namespace Go.Proofs.Ytahpiffahjmfnaa
open Go.RowKit

set_option maxHeartbeats 1000000 in
theorem alive1 (w : World) : Calls Try.prog 16 #[] w fun e w' => e = .returned (.bool true) ∧ Below w.heap.size w w' := by
  go_enter Try.func16, Try.ntmps16
  go_wp2_with fail
  refine (two_yes 258 _ (by omega)).mono ?_
  rintro e w1 ⟨v, rfl, hm⟩
  have hc := getTwo_any v (twoL 258) 0 w1 (hm.bytes.more (Nat.zero_le _) (Nat.le_refl _))
  rw [show getN (twoL 258) 0 2 = 258 by decide, show getE (twoL 258) 0 2 = 0 by decide] at hc
  obtain ⟨b, off, c, rfl, hlo, hhi, _, _, hcell⟩ := hm.bytes.at_ (by decide)
  have h0 := hcell 0 2 (by decide)
  have hb1 := hm.below
  clear hcell hm
  go_wp2_with fail
  refine hc.mono ?_
  rintro e w2 ⟨rfl, hb2⟩
  have h0' := (hb2.cell (p := ⟨b, off + 0, none⟩) hhi).trans h0
  clear h0 hc
  simp only [bV, Nat.add_zero] at h0'
  have hb3 := hb1.trans (hb2.mono hb1.size)
  go_wp2
  go_ret
  exact ⟨rfl, hb3⟩

theorem all0 {w : World} {hi : Nat} {lo : Nat} {v : Value} {l : List UInt8} (h : Bytes w lo hi v l) : Bytes w 0 hi v l := h.more (Nat.zero_le _) (Nat.le_refl _)

set_option maxHeartbeats 2000000 in
theorem codeNames_walk (w : World) : Calls Try.prog 6 #[] w fun e w' => e = .returned (.bool true) ∧ Below w.heap.size w w' := by
  go_enter Try.func6, Try.ntmps6
  go_wp2_with fail
  refine (two_no 65536 _ (by omega)).mono ?_
  rintro e w1 ⟨rfl, rfl⟩
  go_wp2_with fail
  refine (two_no (-1) _ (by omega)).mono ?_
  rintro e w1 ⟨rfl, rfl⟩
  go_wp2_with fail
  have hB := (Below.refl w.heap.size w).alloc (Nat.le_refl _) (.cells #[.int .u8 7, .int .u8 2, .int .u8 1] 5)
  have hc := getTwo_any _ [7, 2, 1] 1 _ ((Bytes.new w 5 [7, 2, 1] (by simp [maxLen]) (0, 0)).more (Nat.zero_le _) (by simp))
  rw [show getN [7, 2, 1] 1 2 = 258 by decide, show getE [7, 2, 1] 1 2 = 0 by decide] at hc
  refine hc.mono ?_
  rintro e w1 ⟨rfl, hb⟩
  have hB1 := hB.trans (hb.mono hB.size)
  clear hc hB hb
  go_wp2_with fail
  have hB := hB1.alloc hB1.size (.cells #[.int .u8 7] 5)
  have hc := getTwo_any _ [7] 0 _ ((Bytes.new w1 5 [7] (by simp [maxLen]) (0, 0)).more (Nat.zero_le _) (by simp))
  rw [show getN [7] 0 2 = 0 by decide, show getE [7] 0 2 = 8 by decide] at hc
  refine hc.mono ?_
  rintro e w2 ⟨rfl, hb⟩
  have hB2 := hB.trans (hb.mono hB.size)
  clear hc hB hb hB1
  go_wp2_with fail
  refine (four_any 1 _ (by omega)).mono ?_
  rintro e w3 ⟨v3, rfl, hm⟩
  have hc := getFour_any _ (fourL 1) 0 w3 (all0 hm.bytes)
  rw [show getN (fourL 1) 0 4 = 1 by decide, show getE (fourL 1) 0 4 = 0 by decide] at hc
  have hB3 := hB2.trans (hm.below.mono hB2.size)
  clear hm hB2
  go_wp2_with fail
  refine hc.mono ?_
  rintro e w4 ⟨rfl, hb⟩
  have hB4 := hB3.trans (hb.mono hB3.size)
  clear hc hB3 hb
  go_wp2_with fail
  refine (four_any 1 _ (by omega)).mono ?_
  rintro e w5 ⟨v5, rfl, hm⟩
  have hc := getFour_any _ (fourL 1) (-1) w5 (all0 hm.bytes)
  rw [show getN (fourL 1) (-1) 4 = 0 by decide, show getE (fourL 1) (-1) 4 = 8 by decide] at hc
  have hB5 := hB4.trans (hm.below.mono hB4.size)
  clear hm hB4
  go_wp2_with fail
  refine hc.mono ?_
  rintro e w6 ⟨rfl, hb⟩
  have hB6 := hB5.trans (hb.mono hB5.size)
  clear hc hB5 hb
  go_wp2_with fail
  refine (alive1 _).mono ?_
  rintro e w7 ⟨rfl, hb⟩
  have hB7 := hB6.trans (hb.mono hB6.size)
  clear hB6 hb
  go_wp2_with fail
  refine (four_any 1 _ (by omega)).mono ?_
  rintro e w8 ⟨v8, rfl, hm⟩
  have hB8 := hB7.trans (hm.below.mono hB7.size)
  have hcv := conv_bytes (P := Try.prog) hm.bytes 22 9 5 Try.underlying22 Try.underlying5 Try.underlying9
  rw [show fourL 1 = [1, 0, 0, 0] by decide] at hcv
  clear hB7 hm
  go_wp2

  go_ret
  exact ⟨rfl, hB8⟩

/-- Two, both ways. -/
theorem two_any (n : Int) (w : World) : Calls Try.prog 17 #[.int .i64 n] w fun e w' => ∃ v l te, e = .returned (.tuple #[v, .int .i64 te]) ∧ MadeB w w' v l ∧
    ((te = 0 ∧ 0 ≤ n ∧ n < 65536 ∧ l = twoL n.toNat) ∨ (te = 2 ∧ l = [] ∧ (n < 0 ∨ 65536 ≤ n))) := by
  by_cases h : 0 ≤ n ∧ n < 65536
  · obtain ⟨k, rfl⟩ := Int.eq_ofNat_of_zero_le h.1
    exact (two_yes k w (by omega)).mono fun e w' ⟨v, he, hm⟩ => ⟨v, _, 0, he, hm, .inl ⟨rfl, h.1, h.2, rfl⟩⟩
  · exact (two_no n w h).mono fun e w' ⟨he, hw⟩ => ⟨_, [], 2, he, by subst hw; exact MadeB.nil_ (Below.refl _ _), .inr ⟨rfl, rfl, by omega⟩⟩

theorem get_cases (l : List UInt8) (at_ : Int) (many : Nat) : (getE l at_ many = 0 ∧ 0 ≤ at_ ∧ at_ ≤ (l.length : Int) - many) ∨ (getE l at_ many = 8 ∧ getN l at_ many = 0 ∧ (at_ < 0 ∨ (0 ≤ at_ ∧ (l.length : Int) - many < at_))) := by
  unfold getE getN
  by_cases h : 0 ≤ at_ ∧ at_.toNat + many ≤ l.length
  · rw [if_pos h]; exact .inl ⟨rfl, by omega, by omega⟩
  · rw [if_neg h, if_neg h]; exact .inr ⟨rfl, rfl, by omega⟩

set_option maxHeartbeats 4000000 in
set_option maxRecDepth 100000 in
theorem codeBounds_walk (n : Int) (v : Value) (l : List UInt8) (at_ : Int) (w : World) (_wn : (Lit.int .i64 n).wf = true) (hI : Bytes w 0 w.heap.size v l) (_wa : (Lit.int .i64 at_).wf = true) :
    Calls Try.prog 4 #[.int .i64 n, v, .int .i64 at_] w fun e w' => e = .returned (.bool true) ∧ Below w.heap.size w w' := by
  have hlm := hI.len_le
  unfold maxLen at hlm
  by_cases hl : 10000 < l.length
  · obtain ⟨a, c, rfl, g1, g2, g3, _⟩ := hI
    clear g3
    go_enter Try.func4, Try.ntmps4
    go_wp2_with fail
    refine (alive1 _).mono ?_
    rintro e w1 ⟨rfl, hb⟩
    go_wp2
    go_ret
    exact ⟨rfl, hb⟩
  · obtain ⟨a, c, rfl, g1, g2, g3, g4⟩ := id hI
    clear g3 g4
    go_enter Try.func4, Try.ntmps4
    go_wp2_with fail
    refine (alive1 _).mono ?_
    rintro e w1 ⟨rfl, hB1⟩
    go_wp2_with fail
    refine (two_any n _).mono ?_
    rintro e w2 ⟨tv, tl, te, rfl, hm, hte⟩
    obtain ⟨ta, tc, rfl, _, _, _⟩ := hm.bytes
    have hB2 := hB1.trans (hm.below.mono hB1.size)
    have Hte := Lib.hid hte
    clear hm hte hB1
    go_wp2_with fail
    have hc := getTwo_any _ l at_ w2 ((hI.below hB2 (Nat.le_refl _)).more (Nat.le_refl _) hB2.size)
    have h2 := get_cases l at_ 2
    generalize getN l at_ 2 = n2 at *
    generalize getE l at_ 2 = e2 at *
    have H2 := Lib.hid h2
    clear h2
    refine hc.mono ?_
    rintro e w3 ⟨rfl, hb⟩
    have hB3 := hB2.trans (hb.mono hB2.size)
    clear hc hb hB2
    go_wp2_with fail
    have hc := getFour_any _ l at_ w3 ((hI.below hB3 (Nat.le_refl _)).more (Nat.le_refl _) hB3.size)
    have h4 := get_cases l at_ 4
    generalize getN l at_ 4 = n4 at *
    generalize getE l at_ 4 = e4 at *
    have H4 := Lib.hid h4
    clear h4
    refine hc.mono ?_
    rintro e w4 ⟨rfl, hb⟩
    have hB4 := hB3.trans (hb.mono hB3.size)
    clear hc hb hB3 hI
    have hend : Below w.heap.size w w4 := hB4
    clear hB4
    rcases Hte.out with ⟨rfl, t1, t2, _⟩ | ⟨rfl, rfl, t1 | t1⟩ <;> clear Hte <;> rcases H2.out with ⟨rfl, u1, u2⟩ | ⟨rfl, rfl, u1 | ⟨u0, u1⟩⟩ <;> clear H2 <;> rcases H4.out with ⟨rfl, x1, x2⟩ | ⟨rfl, rfl, x1 | ⟨x0, x1⟩⟩ <;> clear H4
    all_goals first
      | (exfalso; omega)
      | (go_wp2
         go_ret
         exact ⟨by first | rfl | (show Ending.returned (.bool (!decide (at_ ≤ (l.length : Int) - 4))) = _; rw [show decide (at_ ≤ (l.length : Int) - 4) = false by simp; omega]; rfl), hend⟩)
end Go.Proofs.Ytahpiffahjmfnaa
