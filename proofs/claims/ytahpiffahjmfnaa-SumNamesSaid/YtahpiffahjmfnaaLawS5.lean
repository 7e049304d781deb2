/- The walk of the statement SumNames. -/
import Derived.Test.YtahpiffahjmfnaaSumP
import Derived.Test.YtahpiffahjmfnaaLawS1
import Derived.Test.YtahpiffahjmfnaaOpn
namespace Go.Proofs.Ytahpiffahjmfnaa
open Go.RowKit

theorem openE_zeros : openE (List.replicate 128 0) = 8 ∧ openL (List.replicate 128 0) = [] := by decide +kernel
theorem crc_nil : crc [] = 0#32 := by decide +kernel
theorem one_bytes (w : World) (t : TypeId) (x : UInt8) (n : Int) (hx : n = (x.toNat : Int)) : Bytes (w.alloc (.cells #[.int .u8 n] t)) 0 (w.alloc (.cells #[.int .u8 n] t)).heap.size (.slice (some ⟨w.heap.size, 0, none⟩) 1 1) [x] := by
  subst hx
  exact (Bytes.new w t [x] (by simp [maxLen]) (0, 0)).more (Nat.zero_le _) (by simp)
theorem two_bytes (w : World) (t : TypeId) (x y : UInt8) (n m : Int) (hx : n = (x.toNat : Int)) (hy : m = (y.toNat : Int)) : Bytes (w.alloc (.cells #[.int .u8 n, .int .u8 m] t)) 0 (w.alloc (.cells #[.int .u8 n, .int .u8 m] t)).heap.size (.slice (some ⟨w.heap.size, 0, none⟩) 2 2) [x, y] := by
  subst hx hy
  exact (Bytes.new w t [x, y] (by simp [maxLen]) (0, 0)).more (Nat.zero_le _) (by simp)
theorem RowB.all {w : World} {g n : Nat} {e : TypeId} {l : List UInt8} (h : RowB w g e l) (hn : l.length = n) (hl : n ≤ maxLen) : Bytes w 0 w.heap.size (.slice (some ⟨g, 0, none⟩) n n) l := by
  subst hn
  exact (h.bytes hl).more (Nat.zero_le _) h.lt
set_option maxHeartbeats 1000000 in
set_option maxRecDepth 100000 in
theorem sumNames_walk (w : World) : Calls Try.prog 9 #[] w fun e w' => e = .returned (.bool true) ∧ Below w.heap.size w w' := by
  have hB0 := fun t => (Below.refl w.heap.size w).alloc (Nat.le_refl _) (.cells #[.int .u8 1, .int .u8 2] t)
  have hs := fun t => seal_yes _ _ _ (two_bytes w t 1 2 1 2 rfl rfl) (by decide)
  have Hs := Lib.hid hs
  have Hop := Lib.hid (open_seal [1, 2] (by decide))
  have Hsl := Lib.hid (sealL_length [1, 2] (by decide))
  have Hpl := Lib.hid (padL_length [1, 2] (by decide))
  have Hz := Lib.hid openE_zeros
  clear hs
  go_enter Try.func9, Try.ntmps9
  go_wp2_with fail
  refine (Hs.out _).mono ?_
  rintro e w1 ⟨p, rfl, hm⟩
  have hB1 := below_step (hB0 _) (hB0 _).size hm.below
  obtain ⟨pb, po, pc, rfl, q0, q1, q2, q3, q4⟩ := hm.bytes.at_n Hsl.out (by omega)
  have hopen := open_any _ _ _ hm.bytes.all0
  rw [Hop.out.1, Hop.out.2] at hopen
  have Ho := Lib.hid hopen
  clear hm hopen q4 hB0
  go_wp2_with fail
  refine Ho.out.mono ?_
  rintro e w2 ⟨o, rfl, hm2⟩
  have hB2 := below_step hB1 hB1.size hm2.below
  obtain ⟨ob, oo, oc, rfl, k0, k1, k2, k3, k4⟩ := hm2.bytes.at_n Hpl.out (by omega)
  have c0 := k4 0 1 (by decide)
  have c1 := k4 1 2 (by decide)
  have c2 := k4 2 0 (by decide)
  simp only [bV] at c0 c1 c2
  clear hm2 k4 q0 q1 hB1
  go_wp2_with (refine wpList_makeB rfl (.const (.int .i64 128)) (.const (.int .i64 128)) 22 rfl 5 Try.underlying22 info_u8 128 rfl rfl (by omega) ?_; intro w3 hrow hb3)
  have hB3 := below_step hB2 hB2.size hb3
  have hopen := open_any _ _ _ (hrow.all (by rw [List.length_replicate]) (by unfold maxLen; omega))
  rw [Hz.out.1, Hz.out.2] at hopen
  have Ho2 := Lib.hid hopen
  have b0 := (hb3.cell (p := ⟨ob, oo + 0, none⟩) k1).trans c0
  have b1 := (hb3.cell (p := ⟨ob, oo + 1, none⟩) k1).trans c1
  have b2 := (hb3.cell (p := ⟨ob, oo + 2, none⟩) k1).trans c2
  have k13 := Nat.lt_of_lt_of_le k1 hb3.size
  clear hrow hopen c0 c1 c2 hb3 hB2
  refine Ho2.out.mono ?_
  rintro e w4 ⟨_, rfl, hm4⟩
  have hB4 := below_step hB3 hB3.size hm4.below
  have c0 := (hm4.below.cell (p := ⟨ob, oo + 0, none⟩) k13).trans b0
  have c1 := (hm4.below.cell (p := ⟨ob, oo + 1, none⟩) k13).trans b1
  have c2 := (hm4.below.cell (p := ⟨ob, oo + 2, none⟩) k13).trans b2
  have k14 := Nat.lt_of_lt_of_le k13 hm4.below.size
  clear hm4 hB3 b0 b1 b2
  go_wp2_with (refine wpList_makeB rfl (.const (.int .i64 125)) (.const (.int .i64 125)) 22 rfl 5 Try.underlying22 info_u8 125 rfl rfl (by omega) ?_; intro w5 hrow hb5)
  have hB5 := below_step hB4 hB4.size hb5
  have hno := seal_no _ _ _ (hrow.all (by rw [List.length_replicate]) (by unfold maxLen; omega)) (by simp)
  have Ho3 := Lib.hid hno
  have b0 := (hb5.cell (p := ⟨ob, oo + 0, none⟩) k14).trans c0
  have b1 := (hb5.cell (p := ⟨ob, oo + 1, none⟩) k14).trans c1
  have b2 := (hb5.cell (p := ⟨ob, oo + 2, none⟩) k14).trans c2
  have k15 := Nat.lt_of_lt_of_le k14 hb5.size
  clear hrow hno c0 c1 c2 hb5 hB4
  refine Ho3.out.mono ?_
  rintro e w6 ⟨rfl, rfl⟩
  have hB6 := fun t => hB5.alloc hB5.size (.cells #[.int .u8 1] t)
  have h1 := fun t => open_any _ _ _ (one_bytes w5 t 1 1 rfl)
  rw [show openE [1] = 3 from rfl] at h1
  have Ho4 := Lib.hid h1
  have c0 := fun t => ((Below.refl w5.heap.size w5).alloc (Nat.le_refl _) (.cells #[.int .u8 1] t)).cell (p := ⟨ob, oo + 0, none⟩) k15 |>.trans b0
  have c1 := fun t => ((Below.refl w5.heap.size w5).alloc (Nat.le_refl _) (.cells #[.int .u8 1] t)).cell (p := ⟨ob, oo + 1, none⟩) k15 |>.trans b1
  have c2 := fun t => ((Below.refl w5.heap.size w5).alloc (Nat.le_refl _) (.cells #[.int .u8 1] t)).cell (p := ⟨ob, oo + 2, none⟩) k15 |>.trans b2
  have HC := Lib.hid (And.intro c0 (And.intro c1 c2))
  clear h1 c0 c1 c2 b0 b1 b2
  go_wp2_with fail
  refine (Ho4.out _).mono ?_
  rintro e w7 ⟨_, rfl, hm7⟩
  have hB7 := below_step (hB6 _) (hB6 _).size hm7.below
  have k17 : ob < (w5.alloc (.cells #[.int .u8 1] 5)).heap.size := by simp; omega
  have c0 := (hm7.below.cell (p := ⟨ob, oo + 0, none⟩) k17).trans (HC.out.1 _)
  have c1 := (hm7.below.cell (p := ⟨ob, oo + 1, none⟩) k17).trans (HC.out.2.1 _)
  have c2 := (hm7.below.cell (p := ⟨ob, oo + 2, none⟩) k17).trans (HC.out.2.2 _)
  have k18 := Nat.lt_of_lt_of_le k17 hm7.below.size
  clear hm7 hB6 hB5
  go_wp2_with fail
  refine (alive2 _).mono ?_
  rintro e w8 ⟨rfl, hb8⟩
  have hB8 := below_step hB7 hB7.size hb8
  have b0 := (hb8.cell (p := ⟨ob, oo + 0, none⟩) k18).trans c0
  have b1 := (hb8.cell (p := ⟨ob, oo + 1, none⟩) k18).trans c1
  have b2 := (hb8.cell (p := ⟨ob, oo + 2, none⟩) k18).trans c2
  have k19 := Nat.lt_of_lt_of_le k18 hb8.size
  have hof := of_any _ _ w8 (Bytes.nil_ w8 0 w8.heap.size)
  rw [crc_nil] at hof
  have Hof := Lib.hid hof
  clear hof hb8 c0 c1 c2 hB7
  go_wp2_with fail
  refine Hof.out.mono ?_
  rintro e w9 ⟨rfl, hb9⟩
  have hB9 := below_step hB8 hB8.size hb9
  have c0 := (hb9.cell (p := ⟨ob, oo + 0, none⟩) k19).trans b0
  have c1 := (hb9.cell (p := ⟨ob, oo + 1, none⟩) k19).trans b1
  have c2 := (hb9.cell (p := ⟨ob, oo + 2, none⟩) k19).trans b2
  clear b0 b1 b2 hb9
  unfold u32v
  unfold maxLen at k3
  simp only [Nat.add_zero] at c0
  go_wp2
  go_ret
  exact ⟨rfl, hB9⟩
end Go.Proofs.Ytahpiffahjmfnaa
