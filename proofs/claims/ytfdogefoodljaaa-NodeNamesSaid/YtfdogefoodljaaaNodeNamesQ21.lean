/- NodeNames: the words and contracts, part 21. -/
import Derived.Test.YtfdogefoodljaaaNodeNamesQ1
import Derived.Test.YtfdogefoodljaaaNodeNamesQ2
import Derived.Test.YtfdogefoodljaaaNodeNamesQ3
import Derived.Test.YtfdogefoodljaaaNodeNamesQ4
import Derived.Test.YtfdogefoodljaaaNodeNamesQ5
import Derived.Test.YtfdogefoodljaaaNodeNamesQ6
import Derived.Test.YtfdogefoodljaaaNodeNamesQ7
import Derived.Test.YtfdogefoodljaaaNodeNamesQ8
import Derived.Test.YtfdogefoodljaaaNodeNamesQ9
import Derived.Test.YtfdogefoodljaaaNodeNamesQ10
import Derived.Test.YtfdogefoodljaaaNodeNamesQ11
import Derived.Test.YtfdogefoodljaaaNodeNamesQ12
import Derived.Test.YtfdogefoodljaaaNodeNamesQ13
import Derived.Test.YtfdogefoodljaaaNodeNamesQ14
import Derived.Test.YtfdogefoodljaaaNodeNamesQ15
import Derived.Test.YtfdogefoodljaaaNodeNamesQ16
import Derived.Test.YtfdogefoodljaaaNodeNamesQ17
import Derived.Test.YtfdogefoodljaaaNodeNamesQ18
import Derived.Test.YtfdogefoodljaaaNodeNamesQ19
import Derived.Test.YtfdogefoodljaaaNodeNamesQ20
import Derived.Test.YtfdogefoodljaaaChecked
import Derived.WalkKit
import Derived.WalkLawsBesides
import Derived.WalkSpells
import Derived.Lib.Hide
import Derived.Laws.Rows
import Derived.Laws.AppendOwnNone
import Derived.Maps.AppendAt
import Derived.ProofKit
import Derived.Deep.Slices
import Derived.WideShapes
import Derived.RangeFuncNested
import Derived.RangeFuncBound
import Derived.RangeFuncCalls
import Derived.RangeFuncLeaves
import Derived.RangeFuncBox
import Derived.Shelf.Abstract
import Derived.Shelf.RegionOpen
import Derived.OwnWalkIn
import Derived.TacticsInMore
import Derived.LoopNIn
import Derived.LoopIn
import Derived.Lib.AppendZerosOnto
import Derived.Lib.SliceRun
import Derived.Lib.Walk
import Derived.Deep.LoopGhost
import Derived.Laws.CopyOwn
import Derived.Laws.CopyRow
import Derived.OrdersHeld
import Derived.Deep.QuietTactic
import Derived.BigQuiet
import Derived.StillTailTactics
import Derived.OpenShut
import Derived.Deep.DeepCutAuto
import Derived.Deep.RegionHeld
import Derived.Laws.MakeOwn
import Derived.KernelRfl
import Derived.ShutString
import Derived.ChangeOld
import Derived.Below
namespace Go.Proofs.Ytfdogefoodljaaa
open Go.RowKit

theorem names6_words : (cntN [leafI 2, leafI 4, leafI 6] ⟨2, 0, 5⟩ = 2 ∧ isN [leafI 2, leafI 4, leafI 6] ⟨2, 0, 5⟩ = false) ∧ (cntN [leafI 2, leafI 4, leafI 6] ⟨2, 0, 9⟩ = 3 ∧ isN [leafI 2, leafI 4, leafI 6] ⟨2, 0, 9⟩ = false) ∧
    (mayN ⟨0, []⟩ = true ∧ mayN ⟨1, []⟩ = false ∧ mayN ⟨0, [leafI 3, leafI 3]⟩ = false) ∧ (errNd (blockN ⟨0, []⟩) = 0 ∧ readNd (blockN ⟨0, []⟩) = ⟨0, []⟩) ∧ errNd (List.replicate 128 0) = 8 ∧ readNd (List.replicate 128 0) = ⟨0, []⟩ := by
  refine ⟨⟨by decide +kernel, by decide +kernel⟩, ⟨by decide +kernel, by decide +kernel⟩, ⟨by decide +kernel, by decide +kernel, by decide +kernel⟩, ⟨by decide +kernel, by decide +kernel⟩, by decide +kernel, by decide +kernel⟩

set_option maxRecDepth 100000 in
set_option maxHeartbeats 2000000 in
theorem nodeNames_walk  (w : World)  :
    Calls Try.prog 9 #[] w fun e w' => e = .returned (.bool true) ∧ Below w.heap.size w w' := by
  have hB : LW w w := Below.refl _ _
  have HQ := Lib.hid (hB)
  clear hB
  obtain ⟨L2, hL2⟩ : ∃ L, L = [leafI 3, leafI 3] := ⟨_, rfl⟩
  obtain ⟨L3, hL3⟩ : ∃ L, L = [leafI 2, leafI 4, leafI 6] := ⟨_, rfl⟩
  obtain ⟨B2, hB2⟩ : ∃ L, L = blockN ⟨0, []⟩ := ⟨_, rfl⟩
  obtain ⟨BZ, hBZ⟩ : ∃ L, L = List.replicate 128 (0 : UInt8) := ⟨_, rfl⟩
  obtain ⟨⟨n1, n2⟩, ⟨n3, n4⟩, ⟨n5, n6, n7⟩, ⟨n8, n9⟩, n10, n11⟩ := names6_words
  rw [← hL3] at n1 n2 n3 n4
  rw [← hL2] at n7
  rw [← hB2] at n8 n9
  rw [← hBZ] at n10 n11
  have hk5 : keyV ⟨2, 0, 5⟩ = .agg #[.int .u8 2, .int .u32 0, .int .u32 5] := rfl
  have hk9 : keyV ⟨2, 0, 9⟩ = .agg #[.int .u8 2, .int .u32 0, .int .u32 9] := rfl
  have k_l3 := fun V => leaf_new V [2, 4, 6] 3 #[.int .u32 2, .int .u32 4, .int .u32 6] 42 (by decide) rfl rfl
  rw [show [2, 4, 6].map leafI = L3 from hL3.symm] at k_l3
  have k_l2 := fun V => leaf_new V [3, 3] 2 #[.int .u32 3, .int .u32 3] 42 (by decide) rfl rfl
  rw [show [3, 3].map leafI = L2 from hL2.symm] at k_l2
  have k_p5 := fun V u hh => nplace_any 0 L3 u ⟨2, 0, 5⟩ V hh
  rw [n1, n2, hk5, show ((2 : Nat) : Int) = 2 from rfl] at k_p5
  have k_p9 := fun V u hh => nplace_any 0 L3 u ⟨2, 0, 9⟩ V hh
  rw [n3, n4, hk9, show ((3 : Nat) : Int) = 3 from rfl] at k_p9
  have k_wr := fun V => nwrite_any ⟨0, []⟩ (.slice none 0 0) V (Sl.nil_ _ _ _)
  rw [n5, ← hB2, show mayE true = 0 from rfl] at k_wr
  have k_rd := fun V u hh => nread_any u B2 V hh
  rw [n8, n9] at k_rd
  have k_rz := fun V u hh => nread_any u BZ V hh
  rw [n10, n11] at k_rz
  have k_c0 := fun V => ncheck_any ⟨0, []⟩ (.slice none 0 0) V (Sl.nil_ _ _ _)
  rw [n5, show mayE true = 0 from rfl] at k_c0
  have k_c1 := fun V => ncheck_any ⟨1, []⟩ (.slice none 0 0) V (Sl.nil_ _ _ _)
  rw [n6, show mayE false = 8 from rfl] at k_c1
  have k_c3 := fun V u hh => ncheck_any ⟨0, L2⟩ u V hh
  rw [n7, show mayE false = 8 from rfl] at k_c3
  have hmk : ∀ X : World, (Instr.makeSlice 22 (.int .i64 128) (.int .i64 128)).run Try.prog X = .ok (.slice (some ⟨X.heap.size, 0, none⟩) 128 128) (X.alloc (.cells (madeCells #[.int .u8 0] 128) 5)) := fun X => run_makeN (P := Try.prog) 22 5 (.int .u8 0) #[.int .u8 0] 1 1 Try.underlying22 (by kernel_rfl) rfl 128 128 128 rfl (by decide) (by decide) (by decide) X
  have hz : madeCells #[.int .u8 0] 128 = (BZ.map bV).toArray := by rw [hBZ]; kernel_rfl
  have hzl : BZ.length = 128 := by rw [hBZ]; rfl
  have hzn : ∀ X : World, Bytes (X.alloc (.cells (madeCells #[.int .u8 0] 128) 5)) X.heap.size (X.heap.size + 1) (.slice (some ⟨X.heap.size, 0, none⟩) 128 128) BZ := fun X => by
    rw [hz]
    have h9 := Bytes.new X 5 BZ (by rw [hzl]; simp [maxLen]) (0, 0)
    rwa [hzl] at h9
  generalize madeCells #[.int .u8 0] 128 = Z at *
  have HZN := Lib.hid hzn
  clear n1 n2 n3 n4 n5 n6 n7 n8 n9 n10 n11 hk5 hk9 hL2 hL3 hB2 hBZ hz hzl hzn
  have HC := Lib.hid (And.intro k_l3 (And.intro k_l2 (And.intro k_p5 (And.intro k_p9 (And.intro k_wr (And.intro k_rd (And.intro k_rz (And.intro k_c0 (And.intro k_c1 k_c3)))))))))
  clear k_l3 k_l2 k_p5 k_p9 k_wr k_rd k_rz k_c0 k_c1 k_c3
  go_enter Try.func9, Try.ntmps9
  go_wp2_with fail
  refine (HC.out.1 _).mono ?_
  rintro e w1 ⟨u_a, rfl, hls, hst⟩
  have hB := HQ.out
  clear HQ
  have S_a := hls
  clear hls
  have sz_w1 : w.heap.size ≤ w1.heap.size := hst.size
  replace hB := hB.step hst
  clear hst
  have HQ := Lib.hid (And.intro S_a hB)
  clear S_a hB
  go_wp2_with fail
  refine (HC.out.2.2.1 _ _ HQ.out.1.v).mono ?_
  rintro e w2 ⟨rfl, hst⟩
  obtain ⟨S_a, hB⟩ := HQ.out
  clear HQ
  clear S_a
  have sz_w2 : w1.heap.size ≤ w2.heap.size := hst.size
  replace hB := hB.step hst
  clear hst
  have HQ := Lib.hid (hB)
  clear hB
  go_wp2_with fail
  refine (HC.out.1 _).mono ?_
  rintro e w3 ⟨u_b, rfl, hls, hst⟩
  have hB := HQ.out
  clear HQ
  have S_b := hls
  clear hls
  have sz_w3 : w2.heap.size ≤ w3.heap.size := hst.size
  replace hB := hB.step hst
  clear hst
  have HQ := Lib.hid (And.intro S_b hB)
  clear S_b hB
  go_wp2_with fail
  refine (HC.out.2.2.2.1 _ _ HQ.out.1.v).mono ?_
  rintro e w4 ⟨rfl, hst⟩
  obtain ⟨S_b, hB⟩ := HQ.out
  clear HQ
  clear S_b
  have sz_w4 : w3.heap.size ≤ w4.heap.size := hst.size
  replace hB := hB.step hst
  clear hst
  have HQ := Lib.hid (hB)
  clear hB
  go_wp2_with fail
  refine (HC.out.2.2.2.2.1 _).mono ?_
  rintro e w5 ⟨v_b, rfl, hm⟩
  have hB := HQ.out
  clear HQ
  have B_b := LM.of hm
  have hst := hm.below
  clear hm
  have sz_w5 : w4.heap.size ≤ w5.heap.size := hst.size
  replace hB := hB.step hst
  clear hst
  have HQ := Lib.hid (And.intro B_b hB)
  clear B_b hB
  go_wp2_with fail
  refine (HC.out.2.2.2.2.2.1 _ _ HQ.out.1.v).mono ?_
  rintro e w6 ⟨u_n, rfl, hm⟩
  obtain ⟨B_b, hB⟩ := HQ.out
  clear HQ
  have hst := hm.below
  obtain ⟨a_n, c_n, rfl, -⟩ := hm.items
  clear hm
  clear B_b
  have sz_w6 : w5.heap.size ≤ w6.heap.size := hst.size
  replace hB := hB.step hst
  clear hst
  have HQ := Lib.hid (hB)
  clear hB
  have hl0 : (⟨0, []⟩ : NodeL).items.length = 0 := rfl
  rw [hl0]
  clear hl0
  go_upto_region 5 with (fail)
  have hB := HQ.out
  clear HQ
  have hst := (Below.refl w6.heap.size w6).alloc (Nat.le_refl _) (.cells #[.int .i64 0, .slice a_n 0 c_n] 62)
  have hlt : w6.heap.size < (w6.alloc (.cells #[.int .i64 0, .slice a_n 0 c_n] 62)).heap.size := by simp
  have q_n := LK.new w6 (.cells #[.int .i64 0, .slice a_n 0 c_n] 62)
  replace hB := hB.step hst
  obtain ⟨w7, hw⟩ : ∃ v, w6.alloc (.cells #[.int .i64 0, .slice a_n 0 c_n] 62) = v := ⟨_, rfl⟩
  rw [hw] at hlt q_n hB ⊢
  clear hw hst
  have sz_w7 := hlt
  clear hlt
  have HQ := Lib.hid (And.intro q_n hB)
  clear q_n hB
  have c_q_n0 := LK.cell HQ.out.1 0
  have c_q_n1 := LK.cell HQ.out.1 1
  simp at c_q_n0 c_q_n1
  go_wp2_with fail
  refine (HC.out.2.2.2.2.2.2.1 _ _ ((HZN.out _).more (Nat.zero_le _) (by simp))).mono ?_
  rintro e w9 ⟨u_z, rfl, hm⟩
  obtain ⟨a_z, c_z, rfl, -⟩ := hm.items
  have hl0 : (⟨0, []⟩ : NodeL).items.length = 0 := rfl
  rw [hl0]
  clear hl0
  clear c_q_n0 c_q_n1
  obtain ⟨q_n, hB⟩ := HQ.out
  clear HQ
  have hst := below_step (Below.refl _ w7) (Nat.le_refl _) ((Below.alloc (Below.refl _ w7) (Nat.le_refl _) (.cells Z 5)).trans (hm.below.mono (by simp)))
  clear hm
  have sz_w9 : w7.heap.size ≤ w9.heap.size := hst.size
  replace q_n := q_n.step hst
  replace hB := hB.step hst
  clear hst
  have HQ := Lib.hid (And.intro q_n hB)
  clear q_n hB
  have c_q_n0 := LK.cell HQ.out.1 0
  have c_q_n1 := LK.cell HQ.out.1 1
  simp at c_q_n0 c_q_n1
  go_upto_region 6 with (fail)
  clear c_q_n0 c_q_n1
  obtain ⟨q_n, hB⟩ := HQ.out
  clear HQ
  have hst := (Below.refl w9.heap.size w9).alloc (Nat.le_refl _) (.cells #[.int .i64 0, .slice a_z 0 c_z] 62)
  have hlt : w9.heap.size < (w9.alloc (.cells #[.int .i64 0, .slice a_z 0 c_z] 62)).heap.size := by simp
  have q_z := LK.new w9 (.cells #[.int .i64 0, .slice a_z 0 c_z] 62)
  replace q_n := q_n.step hst
  replace hB := hB.step hst
  obtain ⟨w10, hw⟩ : ∃ v, w9.alloc (.cells #[.int .i64 0, .slice a_z 0 c_z] 62) = v := ⟨_, rfl⟩
  rw [hw] at hlt q_z q_n hB ⊢
  clear hw hst
  have sz_w10 := hlt
  clear hlt
  have HQ := Lib.hid (And.intro q_n (And.intro q_z hB))
  clear q_n q_z hB
  have c_q_n0 := LK.cell HQ.out.1 0
  have c_q_n1 := LK.cell HQ.out.1 1
  simp at c_q_n0 c_q_n1
  go_wp2_with fail
  refine (alive6 _).mono ?_
  rintro e w11 ⟨rfl, hst⟩
  clear c_q_n0 c_q_n1
  obtain ⟨q_n, q_z, hB⟩ := HQ.out
  clear HQ
  have sz_w11 : w10.heap.size ≤ w11.heap.size := hst.size
  replace q_n := q_n.step hst
  replace q_z := q_z.step hst
  replace hB := hB.step hst
  clear hst
  have HQ := Lib.hid (And.intro q_n (And.intro q_z hB))
  clear q_n q_z hB
  have c_q_n0 := LK.cell HQ.out.1 0
  have c_q_n1 := LK.cell HQ.out.1 1
  simp at c_q_n0 c_q_n1
  go_wp2_with fail
  refine (HC.out.2.2.2.2.2.2.2.1 _).mono ?_
  rintro e w12 ⟨rfl, hst⟩
  clear c_q_n0 c_q_n1
  obtain ⟨q_n, q_z, hB⟩ := HQ.out
  clear HQ
  have sz_w12 : w11.heap.size ≤ w12.heap.size := hst.size
  replace q_n := q_n.step hst
  replace q_z := q_z.step hst
  replace hB := hB.step hst
  clear hst
  have HQ := Lib.hid (And.intro q_n (And.intro q_z hB))
  clear q_n q_z hB
  have c_q_n0 := LK.cell HQ.out.1 0
  have c_q_n1 := LK.cell HQ.out.1 1
  simp at c_q_n0 c_q_n1
  go_wp2_with fail
  refine (HC.out.2.2.2.2.2.2.2.2.1 _).mono ?_
  rintro e w13 ⟨rfl, hst⟩
  clear c_q_n0 c_q_n1
  obtain ⟨q_n, q_z, hB⟩ := HQ.out
  clear HQ
  have sz_w13 : w12.heap.size ≤ w13.heap.size := hst.size
  replace q_n := q_n.step hst
  replace q_z := q_z.step hst
  replace hB := hB.step hst
  clear hst
  have HQ := Lib.hid (And.intro q_n (And.intro q_z hB))
  clear q_n q_z hB
  have c_q_n0 := LK.cell HQ.out.1 0
  have c_q_n1 := LK.cell HQ.out.1 1
  simp at c_q_n0 c_q_n1
  go_wp2_with fail
  refine (HC.out.2.1 _).mono ?_
  rintro e w14 ⟨u_c, rfl, hls, hst⟩
  clear c_q_n0 c_q_n1
  obtain ⟨q_n, q_z, hB⟩ := HQ.out
  clear HQ
  have S_c := hls
  clear hls
  have sz_w14 : w13.heap.size ≤ w14.heap.size := hst.size
  replace q_n := q_n.step hst
  replace q_z := q_z.step hst
  replace hB := hB.step hst
  clear hst
  have HQ := Lib.hid (And.intro q_n (And.intro q_z (And.intro S_c hB)))
  clear q_n q_z S_c hB
  have c_q_n0 := LK.cell HQ.out.1 0
  have c_q_n1 := LK.cell HQ.out.1 1
  simp at c_q_n0 c_q_n1
  go_wp2_with fail
  refine (HC.out.2.2.2.2.2.2.2.2.2 _ _ HQ.out.2.2.1.v).mono ?_
  rintro e w15 ⟨rfl, hst⟩
  clear c_q_n0 c_q_n1
  obtain ⟨q_n, q_z, S_c, hB⟩ := HQ.out
  clear HQ
  clear S_c
  have sz_w15 : w14.heap.size ≤ w15.heap.size := hst.size
  replace q_n := q_n.step hst
  replace q_z := q_z.step hst
  replace hB := hB.step hst
  clear hst
  have HQ := Lib.hid (And.intro q_n (And.intro q_z hB))
  clear q_n q_z hB
  have c_q_n0 := LK.cell HQ.out.1 0
  have c_q_n1 := LK.cell HQ.out.1 1
  simp at c_q_n0 c_q_n1
  go_wp2
  go_ret
  exact ⟨rfl, HQ.out.2.2⟩
end Go.Proofs.Ytfdogefoodljaaa

namespace Go.Proofs.Ytfdogefoodljaaa
open Go.ChangeShapes Go.WideShapes Go.ChangeAt Go.RowKit

theorem own_ : ownKnob Try.prog.godebug = none := by kernel_rfl
end Go.Proofs.Ytfdogefoodljaaa

