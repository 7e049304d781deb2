/- RingNames: the words and contracts, part 18. -/
import Derived.Test.YtcibihakjcenaaaRingNamesQ1
import Derived.Test.YtcibihakjcenaaaRingNamesQ2
import Derived.Test.YtcibihakjcenaaaRingNamesQ3
import Derived.Test.YtcibihakjcenaaaRingNamesQ4
import Derived.Test.YtcibihakjcenaaaRingNamesQ5
import Derived.Test.YtcibihakjcenaaaRingNamesQ6
import Derived.Test.YtcibihakjcenaaaRingNamesQ7
import Derived.Test.YtcibihakjcenaaaRingNamesQ8
import Derived.Test.YtcibihakjcenaaaRingNamesQ9
import Derived.Test.YtcibihakjcenaaaRingNamesQ10
import Derived.Test.YtcibihakjcenaaaRingNamesQ11
import Derived.Test.YtcibihakjcenaaaRingNamesQ12
import Derived.Test.YtcibihakjcenaaaRingNamesQ13
import Derived.Test.YtcibihakjcenaaaRingNamesQ14
import Derived.Test.YtcibihakjcenaaaRingNamesQ15
import Derived.Test.YtcibihakjcenaaaRingNamesQ16
import Derived.Test.YtcibihakjcenaaaRingNamesQ17
import Derived.WalkKit
import Derived.WalkLawsBesides
import Derived.WalkSpells
import Derived.Lib.Hide
import Derived.Laws.Rows
import Derived.Laws.AppendOwnNone
import Derived.Maps.AppendAt
import Derived.ProofKit
import Derived.Deep.Slices
import Derived.WideShapes
import Derived.RangeFuncNested
import Derived.RangeFuncBound
import Derived.RangeFuncCalls
import Derived.RangeFuncLeaves
import Derived.RangeFuncBox
import Derived.Shelf.Abstract
import Derived.Shelf.RegionOpen
import Derived.OwnWalkIn
import Derived.TacticsInMore
import Derived.LoopNIn
import Derived.LoopIn
import Derived.Lib.AppendZerosOnto
import Derived.Lib.SliceRun
import Derived.Lib.Walk
import Derived.Deep.LoopGhost
import Derived.Laws.CopyOwn
import Derived.Laws.CopyRow
import Derived.OrdersHeld
import Derived.Deep.QuietTactic
import Derived.BigQuiet
import Derived.StillTailTactics
import Derived.OpenShut
import Derived.Deep.DeepCutAuto
import Derived.Deep.RegionHeld
import Derived.Laws.MakeOwn
import Derived.KernelRfl
import Derived.BigFrameIn
import Derived.ShutString
import Derived.ChangeOld
import Derived.Below
import Derived.Shelf.SlSortCmp.SmallK
import Derived.Shelf.Small.Bits
namespace Go.Proofs.Ytcibihakjcenaaa
open Go.RowKit

set_option linter.unusedSimpArgs false
theorem bytes_blk {V : World} {g : Nat} {cs : Array Value} {T : TypeId} {f : Nat × Nat} (h : V.heap[g]? = some (.cells cs T f)) (l : List UInt8) (hc : cs = (l.map bV).toArray) (n : Nat) (hn : l.length = n) (hm : n ≤ maxLen) : Bytes V 0 V.heap.size (.slice (some ⟨g, 0, none⟩) n n) l := by
  subst hc hn
  refine ⟨_, _, rfl, Nat.le_refl _, hm, fun _ => ⟨g, 0, rfl, Nat.zero_le _, (Array.getElem?_eq_some_iff.1 h).1, fun i x hx => ?_⟩, fun e => by cases e⟩
  rw [blk_cell h, Nat.zero_add]
  simp [hx]
theorem uread_bad {l : List UInt8} {e0 : Int} (he : errUr l = e0) (h0 : e0 ≠ 0) (u : Value) (V : World) (hh : Bytes V 0 V.heap.size u l) :
    Calls Try.prog 17 #[u] V fun e w' => ∃ c a, e = .returned (.tuple #[.agg #[.int .u32 0, .int .i64 0, .int .u32 0, .int .u32 0, .slice a 0 c], .int .i64 e0]) ∧ Below V.heap.size V w' := by
  have h := uread_any u _ V hh
  have hr : readU l = noU := by unfold readU; rw [if_neg (by rw [he]; exact h0)]
  rw [hr, he] at h
  refine Calls.mono h ?_
  rintro e w' ⟨u, rfl, hm⟩
  obtain ⟨a, c, rfl, -, -, -, -⟩ := id hm.sup.2
  exact ⟨c, a, rfl, hm.below⟩

set_option maxRecDepth 100000 in
set_option maxHeartbeats 2000000 in
theorem ringNames_walk  (w : World)  :
    Calls Try.prog 10 #[] w fun e w' => e = .returned (.bool true) ∧ Below w.heap.size w w' := by
  have hB : LW w w := Below.refl _ _
  have HQ := Lib.hid (hB)
  clear hB
  obtain ⟨f1, f2⟩ := f_put6
  obtain ⟨f3, f4⟩ := f_new
  have k_p5 := fun b u V h1 => uput_any b u newD s5 (.slice none 0 0) V h1 (sup_nil 5 0 0 8 (by decide))
  rw [u_put5] at k_p5
  have k_n := fun V => dnew_any V
  have k_p6 := fun b u V h1 => uput_any b u (putU newD s5) s6 (.slice none 0 0) V h1 (sup_nil 6 0 0 9 (by decide))
  rw [u_put6] at k_p6
  obtain ⟨T2, hT2⟩ : ∃ T, putU (putU newD s5) s6 = T := ⟨_, rfl⟩
  rw [hT2] at f1 f2 k_p6
  obtain ⟨T, hT⟩ : ∃ T, putU newD s5 = T := ⟨_, rfl⟩
  rw [hT] at k_p5 k_p6
  have k_f0 := fun b u V h1 => ufind_any b u newD V h1
  rw [f3, f4] at k_f0
  obtain ⟨N, hN⟩ : ∃ N, newD = N := ⟨_, rfl⟩
  rw [hN] at k_p5 k_n k_f0
  have k_f := fun b u V h1 => ufind_any b u T2 V h1
  rw [f1, f2] at k_f
  simp only [wV] at k_p5 k_p6
  clear hT hT2 hN f1 f2 f3 f4
  have e5 : (s5.gen.toNat : Int) = 5 := rfl
  have e6 : (s5.root : Int) = 8 := rfl
  have e7 : (s5.next.toNat : Int) = 0 := rfl
  have e8 : (s5.table.toNat : Int) = 0 := rfl
  have e9 : (s6.gen.toNat : Int) = 6 := rfl
  have e10 : (s6.root : Int) = 9 := rfl
  have e11 : (s6.next.toNat : Int) = 0 := rfl
  have e12 : (s6.table.toNat : Int) = 0 := rfl
  rw [e5, e6, e7, e8] at k_p5
  rw [e9, e10, e11, e12] at k_p6
  have k_r0 := fun u V hh => uread_bad u_sum0 (by decide) u V hh
  have k_r1 := fun u V hh => uread_bad u_text (by decide) u V hh
  have k_sl : ∀ V, Calls Try.prog 23 #[.int .u32 7] V fun e w' => e = .returned (.int .i64 3) ∧ w' = V := fun V => uslot_any 7 V
  have k_c8 : ∀ V, Calls Try.prog 20 #[.agg #[.int .u32 0, .int .i64 8, .int .u32 0, .int .u32 0, .slice none 0 0]] V fun e w' => e = .returned (.int .i64 0) ∧ Below V.heap.size V w' := fun V => ucheck_any ⟨0, 8, 0, 0, []⟩ (.slice none 0 0) V (sup_nil 0 0 0 8 (by decide))
  have k_c7 : ∀ V, Calls Try.prog 20 #[.agg #[.int .u32 0, .int .i64 7, .int .u32 0, .int .u32 0, .slice none 0 0]] V fun e w' => e = .returned (.int .i64 8) ∧ Below V.heap.size V w' := fun V => ucheck_any ⟨0, 7, 0, 0, []⟩ (.slice none 0 0) V (sup_nil 0 0 0 7 (by decide))
  have hmk : ∀ X : World, (Instr.makeSlice 26 (.int .i64 128) (.int .i64 128)).run Try.prog X = .ok (.slice (some ⟨X.heap.size, 0, none⟩) 128 128) (X.alloc (.cells (madeCells #[.int .u8 0] 128) 5)) := fun X => run_makeN (P := Try.prog) 26 5 (.int .u8 0) #[.int .u8 0] 1 1 Try.underlying26 (by kernel_rfl) rfl 128 128 128 rfl (by decide) (by decide) (by decide) X
  have hz : madeCells #[.int .u8 0] 128 = ((List.replicate 128 (0 : UInt8)).map bV).toArray := by kernel_rfl
  have hzl : (List.replicate 128 (0 : UInt8)).length = 128 := by simp
  generalize List.replicate 128 (0 : UInt8) = Z at *
  generalize madeCells #[.int .u8 0] 128 = MC at *
  have HZ := Lib.hid (And.intro hz hzl)
  clear hz hzl
  have HC := Lib.hid (And.intro k_p5 (And.intro k_p6 (And.intro k_n (And.intro k_f0 (And.intro k_f (And.intro k_r0 (And.intro k_r1 (And.intro k_sl (And.intro k_c8 k_c7)))))))))
  clear k_p5 k_p6 k_n k_f0 k_f k_r0 k_r1 k_sl k_c8 k_c7
  go_enter Try.func10, Try.ntmps10
  go_wp2_with fail
  refine (alive10 w).mono ?_
  rintro e w1 ⟨rfl, hst⟩
  have hB := HQ.out
  clear HQ
  have sz_w1 : w.heap.size ≤ w1.heap.size := hst.size
  replace hB := hB.step hst
  clear hst
  have HQ := Lib.hid (hB)
  clear hB
  go_wp2_with fail
  refine (HC.out.2.2.1 _).mono ?_
  rintro e w2 ⟨b_n, rfl, hm⟩
  have hB := HQ.out
  clear HQ
  have D_n := LT.of hm
  have hst := hm.below
  obtain ⟨ab_n, cb_n, rfl, -, -, -, -⟩ := hm.v0.1
  clear hm
  have sz_w2 : w1.heap.size ≤ w2.heap.size := hst.size
  replace hB := hB.step hst
  clear hst
  have HQ := Lib.hid (And.intro D_n hB)
  clear D_n hB
  go_wp2_with fail
  refine (HC.out.2.2.2.1 _ _ _ HQ.out.1.v).mono ?_
  rintro e w3 ⟨v_z, rfl, hm⟩
  obtain ⟨D_n, hB⟩ := HQ.out
  clear HQ
  have S_z := LS.of hm.row (Nat.le_refl _)
  have hst := hm.below
  obtain ⟨a_z, c_z, rfl, -, -, -, -⟩ := id hm.row
  clear hm
  have sz_w3 : w2.heap.size ≤ w3.heap.size := hst.size
  replace D_n := D_n.step hst
  replace hB := hB.step hst
  clear hst
  have HQ := Lib.hid (And.intro D_n (And.intro S_z hB))
  clear D_n S_z hB
  go_wp2_with fail
  refine (HC.out.2.2.1 _).mono ?_
  rintro e w4 ⟨b_m, rfl, hm⟩
  obtain ⟨D_n, S_z, hB⟩ := HQ.out
  clear HQ
  have D_m := LT.of hm
  have hst := hm.below
  obtain ⟨ab_m, cb_m, rfl, -, -, -, -⟩ := hm.v0.1
  clear hm
  have sz_w4 : w3.heap.size ≤ w4.heap.size := hst.size
  replace D_n := D_n.step hst
  replace S_z := S_z.step hst
  replace hB := hB.step hst
  clear hst
  have HQ := Lib.hid (And.intro D_n (And.intro S_z (And.intro D_m hB)))
  clear D_n S_z D_m hB
  go_wp2_with fail
  refine (HC.out.1 _ _ _ HQ.out.2.2.1.v).mono ?_
  rintro e w5 ⟨b1, u1, rfl, hm⟩
  obtain ⟨D_n, S_z, D_m, hB⟩ := HQ.out
  clear HQ
  have D_t := LT.of hm
  have hst := hm.below
  obtain ⟨ab_t, cb_t, rfl, -, -, -, -⟩ := hm.v0.1
  obtain ⟨au_t, cu_t, rfl, -, -, -, -⟩ := hm.v0.2
  clear hm
  have sz_w5 : w4.heap.size ≤ w5.heap.size := hst.size
  replace D_n := D_n.step hst
  replace S_z := S_z.step hst
  replace D_m := D_m.step hst
  replace hB := hB.step hst
  clear hst
  have HQ := Lib.hid (And.intro D_n (And.intro S_z (And.intro D_m (And.intro D_t hB))))
  clear D_n S_z D_m D_t hB
  go_upto_region 5 with (fail)
  obtain ⟨D_n, S_z, D_m, D_t, hB⟩ := HQ.out
  clear HQ
  have hst := (Below.refl w5.heap.size w5).alloc (Nat.le_refl _) (.cells #[.slice ab_t T.blocks.length cb_t, .slice au_t T.waits.length cu_t] 44)
  have hlt : w5.heap.size < (w5.alloc (.cells #[.slice ab_t T.blocks.length cb_t, .slice au_t T.waits.length cu_t] 44)).heap.size := by simp
  have q_t := LK.new w5 (.cells #[.slice ab_t T.blocks.length cb_t, .slice au_t T.waits.length cu_t] 44)
  replace D_n := D_n.step hst
  replace S_z := S_z.step hst
  replace D_m := D_m.step hst
  replace D_t := D_t.step hst
  replace hB := hB.step hst
  obtain ⟨w6, hw⟩ : ∃ v, w5.alloc (.cells #[.slice ab_t T.blocks.length cb_t, .slice au_t T.waits.length cu_t] 44) = v := ⟨_, rfl⟩
  rw [hw] at hlt q_t D_n S_z D_m D_t hB ⊢
  clear hw hst
  have sz_w6 := hlt
  clear hlt
  have HQ := Lib.hid (And.intro D_n (And.intro S_z (And.intro D_m (And.intro D_t (And.intro q_t hB)))))
  clear D_n S_z D_m D_t q_t hB
  have c_q_t0 := LK.cell HQ.out.2.2.2.2.1 0
  have c_q_t1 := LK.cell HQ.out.2.2.2.2.1 1
  simp at c_q_t0 c_q_t1
  go_wp2_with fail
  refine (HC.out.2.1 _ _ _ HQ.out.2.2.2.1.v).mono ?_
  rintro e w7 ⟨b2, u2, rfl, hm⟩
  clear c_q_t0 c_q_t1
  obtain ⟨D_n, S_z, D_m, D_t, q_t, hB⟩ := HQ.out
  clear HQ
  have D_x := LT.of hm
  have hst := hm.below
  obtain ⟨ab_x, cb_x, rfl, -, -, -, -⟩ := hm.v0.1
  obtain ⟨au_x, cu_x, rfl, -, -, -, -⟩ := hm.v0.2
  clear hm
  have sz_w7 : w6.heap.size ≤ w7.heap.size := hst.size
  replace D_n := D_n.step hst
  replace S_z := S_z.step hst
  replace D_m := D_m.step hst
  replace D_t := D_t.step hst
  replace q_t := q_t.step hst
  replace hB := hB.step hst
  clear hst
  have HQ := Lib.hid (And.intro D_n (And.intro S_z (And.intro D_m (And.intro D_t (And.intro q_t (And.intro D_x hB))))))
  clear D_n S_z D_m D_t q_t D_x hB
  have c_q_t0 := LK.cell HQ.out.2.2.2.2.1 0
  have c_q_t1 := LK.cell HQ.out.2.2.2.2.1 1
  have z_q_t0 := LK.frozen HQ.out.2.2.2.2.1 0
  have z_q_t1 := LK.frozen HQ.out.2.2.2.2.1 1
  simp at c_q_t0 c_q_t1
  go_upto_region 6 with (fail)
  clear z_q_t0 z_q_t1 c_q_t0 c_q_t1
  obtain ⟨D_n, S_z, D_m, D_t, q_t, D_x, hB⟩ := HQ.out
  clear HQ
  have hcb := LK.blk q_t
  have hF : LK (w5.heap.size) (.cells #[.slice ab_x T2.blocks.length cb_x, .slice au_x T2.waits.length cu_x] 44) ((w7.setCell ⟨w5.heap.size, 0, none⟩ (.slice ab_x T2.blocks.length cb_x)).setCell ⟨w5.heap.size, 1, none⟩ (.slice au_x T2.waits.length cu_x)) := LK.of (set_block (set_block hcb 0 _) 1 _)
  have hbel : Below (w5.heap.size) w7 ((w7.setCell ⟨w5.heap.size, 0, none⟩ (.slice ab_x T2.blocks.length cb_x)).setCell ⟨w5.heap.size, 1, none⟩ (.slice au_x T2.waits.length cu_x)) := ((Below.refl _ w7).setCell (p := ⟨w5.heap.size, 0, none⟩) (Nat.le_refl _) _).setCell (p := ⟨w5.heap.size, 1, none⟩) (Nat.le_refl _) _
  have hfr : ∀ x, x < w7.heap.size → (x < w5.heap.size ∨ w5.heap.size + 1 ≤ x) → ((w7.setCell ⟨w5.heap.size, 0, none⟩ (.slice ab_x T2.blocks.length cb_x)).setCell ⟨w5.heap.size, 1, none⟩ (.slice au_x T2.waits.length cu_x)).heap[x]? = w7.heap[x]? := fun x _ h => (set_other _ _ _ _ _ (by omega)).trans ((set_other _ _ _ _ _ (by omega)))
  have hs4 : ((w7.setCell ⟨w5.heap.size, 0, none⟩ (.slice ab_x T2.blocks.length cb_x)).setCell ⟨w5.heap.size, 1, none⟩ (.slice au_x T2.waits.length cu_x)).heap.size = w7.heap.size := by simp only [World.size_setCell]
  replace D_n := D_n.out (Nat.le_of_eq hs4.symm) hfr (by omega)
  replace S_z := S_z.out (Nat.le_of_eq hs4.symm) hfr (by omega)
  replace D_m := D_m.out (Nat.le_of_eq hs4.symm) hfr (by omega)
  replace D_t := D_t.out (Nat.le_of_eq hs4.symm) hfr (by omega)
  replace D_x := D_x.out (Nat.le_of_eq hs4.symm) hfr (by omega)
  replace hB := hB.outB hbel (by omega)
  replace q_t := hF
  obtain ⟨w8, hw⟩ : ∃ v, ((w7.setCell ⟨w5.heap.size, 0, none⟩ (.slice ab_x T2.blocks.length cb_x)).setCell ⟨w5.heap.size, 1, none⟩ (.slice au_x T2.waits.length cu_x)) = v := ⟨_, rfl⟩
  rw [hw] at hs4 D_n S_z D_m D_t q_t D_x hB ⊢
  have sz_w8 := Nat.le_of_eq hs4
  have sy_w8 := Nat.le_of_eq hs4.symm
  clear hw hF hbel hfr hcb hs4
  have HQ := Lib.hid (And.intro D_n (And.intro S_z (And.intro D_m (And.intro D_t (And.intro q_t (And.intro D_x hB))))))
  clear D_n S_z D_m D_t q_t D_x hB
  have c_q_t0 := LK.cell HQ.out.2.2.2.2.1 0
  have c_q_t1 := LK.cell HQ.out.2.2.2.2.1 1
  simp at c_q_t0 c_q_t1
  go_wp2_with fail
  refine (HC.out.2.2.2.2.1 _ _ _ HQ.out.2.2.2.2.2.1.v).mono ?_
  rintro e w9 ⟨v_l, rfl, hm⟩
  clear c_q_t0 c_q_t1
  obtain ⟨D_n, S_z, D_m, D_t, q_t, D_x, hB⟩ := HQ.out
  clear HQ
  have S_l := LS.of hm.row (Nat.le_refl _)
  have hst := hm.below
  obtain ⟨a_l, c_l, rfl, -, -, -, -⟩ := id hm.row
  clear hm
  have sz_w9 : w8.heap.size ≤ w9.heap.size := hst.size
  replace D_n := D_n.step hst
  replace S_z := S_z.step hst
  replace D_m := D_m.step hst
  replace D_t := D_t.step hst
  replace q_t := q_t.step hst
  replace D_x := D_x.step hst
  replace hB := hB.step hst
  clear hst
  have HQ := Lib.hid (And.intro D_n (And.intro S_z (And.intro D_m (And.intro D_t (And.intro q_t (And.intro D_x (And.intro S_l hB)))))))
  clear D_n S_z D_m D_t q_t D_x S_l hB
  have c_q_t0 := LK.cell HQ.out.2.2.2.2.1 0
  have c_q_t1 := LK.cell HQ.out.2.2.2.2.1 1
  simp at c_q_t0 c_q_t1
  go_wp2_with fail
  clear c_q_t0 c_q_t1
  obtain ⟨D_n, S_z, D_m, D_t, q_t, D_x, S_l, hB⟩ := HQ.out
  clear HQ
  have hst := (Below.refl w9.heap.size w9).alloc (Nat.le_refl _) (.cells MC 5)
  have hlt : w9.heap.size < (w9.alloc (.cells MC 5)).heap.size := by simp
  have q_m := LK.new w9 (.cells MC 5)
  replace D_n := D_n.step hst
  replace S_z := S_z.step hst
  replace D_m := D_m.step hst
  replace D_t := D_t.step hst
  replace q_t := q_t.step hst
  replace D_x := D_x.step hst
  replace S_l := S_l.step hst
  replace hB := hB.step hst
  obtain ⟨w10, hw⟩ : ∃ v, w9.alloc (.cells MC 5) = v := ⟨_, rfl⟩
  rw [hw] at hlt q_m D_n S_z D_m D_t q_t D_x S_l hB ⊢
  clear hw hst
  have sz_w10 := hlt
  clear hlt
  have HQ := Lib.hid (And.intro D_n (And.intro S_z (And.intro D_m (And.intro D_t (And.intro q_t (And.intro D_x (And.intro S_l (And.intro q_m hB))))))))
  clear D_n S_z D_m D_t q_t D_x S_l q_m hB
  have c_q_t0 := LK.cell HQ.out.2.2.2.2.1 0
  have c_q_t1 := LK.cell HQ.out.2.2.2.2.1 1
  simp at c_q_t0 c_q_t1
  refine (HC.out.2.2.2.2.2.1 _ _ (bytes_blk (LK.blk HQ.out.2.2.2.2.2.2.2.1) Z HZ.out.1 128 HZ.out.2 (by decide))).mono ?_
  rintro e w11 ⟨c_r, a_r, rfl, hst⟩
  clear c_q_t0 c_q_t1
  obtain ⟨D_n, S_z, D_m, D_t, q_t, D_x, S_l, q_m, hB⟩ := HQ.out
  clear HQ
  have sz_w11 : w10.heap.size ≤ w11.heap.size := hst.size
  replace D_n := D_n.step hst
  replace S_z := S_z.step hst
  replace D_m := D_m.step hst
  replace D_t := D_t.step hst
  replace q_t := q_t.step hst
  replace D_x := D_x.step hst
  replace S_l := S_l.step hst
  replace q_m := q_m.step hst
  replace hB := hB.step hst
  clear hst
  have HQ := Lib.hid (And.intro D_n (And.intro S_z (And.intro D_m (And.intro D_t (And.intro q_t (And.intro D_x (And.intro S_l (And.intro q_m hB))))))))
  clear D_n S_z D_m D_t q_t D_x S_l q_m hB
  have c_q_t0 := LK.cell HQ.out.2.2.2.2.1 0
  have c_q_t1 := LK.cell HQ.out.2.2.2.2.1 1
  simp at c_q_t0 c_q_t1
  go_upto_region 8 with (fail)
  clear c_q_t0 c_q_t1
  obtain ⟨D_n, S_z, D_m, D_t, q_t, D_x, S_l, q_m, hB⟩ := HQ.out
  clear HQ
  have hst := (Below.refl w11.heap.size w11).alloc (Nat.le_refl _) (.cells #[.int .u32 0, .int .i64 0, .int .u32 0, .int .u32 0, .slice a_r 0 c_r] 25)
  have hlt : w11.heap.size < (w11.alloc (.cells #[.int .u32 0, .int .i64 0, .int .u32 0, .int .u32 0, .slice a_r 0 c_r] 25)).heap.size := by simp
  have q_r := LK.new w11 (.cells #[.int .u32 0, .int .i64 0, .int .u32 0, .int .u32 0, .slice a_r 0 c_r] 25)
  replace D_n := D_n.step hst
  replace S_z := S_z.step hst
  replace D_m := D_m.step hst
  replace D_t := D_t.step hst
  replace q_t := q_t.step hst
  replace D_x := D_x.step hst
  replace S_l := S_l.step hst
  replace q_m := q_m.step hst
  replace hB := hB.step hst
  obtain ⟨w12, hw⟩ : ∃ v, w11.alloc (.cells #[.int .u32 0, .int .i64 0, .int .u32 0, .int .u32 0, .slice a_r 0 c_r] 25) = v := ⟨_, rfl⟩
  rw [hw] at hlt q_r D_n S_z D_m D_t q_t D_x S_l q_m hB ⊢
  clear hw hst
  have sz_w12 := hlt
  clear hlt
  have HQ := Lib.hid (And.intro D_n (And.intro S_z (And.intro D_m (And.intro D_t (And.intro q_t (And.intro D_x (And.intro S_l (And.intro q_m (And.intro q_r hB)))))))))
  clear D_n S_z D_m D_t q_t D_x S_l q_m q_r hB
  have c_q_t0 := LK.cell HQ.out.2.2.2.2.1 0
  have c_q_t1 := LK.cell HQ.out.2.2.2.2.1 1
  simp at c_q_t0 c_q_t1
  go_wp2_with fail
  clear c_q_t0 c_q_t1
  obtain ⟨D_n, S_z, D_m, D_t, q_t, D_x, S_l, q_m, q_r, hB⟩ := HQ.out
  clear HQ
  have hst := (Below.refl w12.heap.size w12).alloc (Nat.le_refl _) (.cells #[.int .u8 1] 5)
  have hlt : w12.heap.size < (w12.alloc (.cells #[.int .u8 1] 5)).heap.size := by simp
  have q_o := LK.new w12 (.cells #[.int .u8 1] 5)
  replace D_n := D_n.step hst
  replace S_z := S_z.step hst
  replace D_m := D_m.step hst
  replace D_t := D_t.step hst
  replace q_t := q_t.step hst
  replace D_x := D_x.step hst
  replace S_l := S_l.step hst
  replace q_m := q_m.step hst
  replace q_r := q_r.step hst
  replace hB := hB.step hst
  obtain ⟨w13, hw⟩ : ∃ v, w12.alloc (.cells #[.int .u8 1] 5) = v := ⟨_, rfl⟩
  rw [hw] at hlt q_o D_n S_z D_m D_t q_t D_x S_l q_m q_r hB ⊢
  clear hw hst
  have sz_w13 := hlt
  clear hlt
  have HQ := Lib.hid (And.intro D_n (And.intro S_z (And.intro D_m (And.intro D_t (And.intro q_t (And.intro D_x (And.intro S_l (And.intro q_m (And.intro q_r (And.intro q_o hB))))))))))
  clear D_n S_z D_m D_t q_t D_x S_l q_m q_r q_o hB
  have c_q_t0 := LK.cell HQ.out.2.2.2.2.1 0
  have c_q_t1 := LK.cell HQ.out.2.2.2.2.1 1
  simp at c_q_t0 c_q_t1
  refine (HC.out.2.2.2.2.2.2.1 _ _ (bytes_blk (LK.blk HQ.out.2.2.2.2.2.2.2.2.2.1) [1] rfl 1 rfl (by decide))).mono ?_
  rintro e w14 ⟨c_k, a_k, rfl, hst⟩
  clear c_q_t0 c_q_t1
  obtain ⟨D_n, S_z, D_m, D_t, q_t, D_x, S_l, q_m, q_r, q_o, hB⟩ := HQ.out
  clear HQ
  have sz_w14 : w13.heap.size ≤ w14.heap.size := hst.size
  replace D_n := D_n.step hst
  replace S_z := S_z.step hst
  replace D_m := D_m.step hst
  replace D_t := D_t.step hst
  replace q_t := q_t.step hst
  replace D_x := D_x.step hst
  replace S_l := S_l.step hst
  replace q_m := q_m.step hst
  replace q_r := q_r.step hst
  replace q_o := q_o.step hst
  replace hB := hB.step hst
  clear hst
  have HQ := Lib.hid (And.intro D_n (And.intro S_z (And.intro D_m (And.intro D_t (And.intro q_t (And.intro D_x (And.intro S_l (And.intro q_m (And.intro q_r (And.intro q_o hB))))))))))
  clear D_n S_z D_m D_t q_t D_x S_l q_m q_r q_o hB
  have c_q_t0 := LK.cell HQ.out.2.2.2.2.1 0
  have c_q_t1 := LK.cell HQ.out.2.2.2.2.1 1
  simp at c_q_t0 c_q_t1
  go_upto_region 9 with (fail)
  clear c_q_t0 c_q_t1
  obtain ⟨D_n, S_z, D_m, D_t, q_t, D_x, S_l, q_m, q_r, q_o, hB⟩ := HQ.out
  clear HQ
  have hst := (Below.refl w14.heap.size w14).alloc (Nat.le_refl _) (.cells #[.int .u32 0, .int .i64 0, .int .u32 0, .int .u32 0, .slice a_k 0 c_k] 25)
  have hlt : w14.heap.size < (w14.alloc (.cells #[.int .u32 0, .int .i64 0, .int .u32 0, .int .u32 0, .slice a_k 0 c_k] 25)).heap.size := by simp
  have q_k := LK.new w14 (.cells #[.int .u32 0, .int .i64 0, .int .u32 0, .int .u32 0, .slice a_k 0 c_k] 25)
  replace D_n := D_n.step hst
  replace S_z := S_z.step hst
  replace D_m := D_m.step hst
  replace D_t := D_t.step hst
  replace q_t := q_t.step hst
  replace D_x := D_x.step hst
  replace S_l := S_l.step hst
  replace q_m := q_m.step hst
  replace q_r := q_r.step hst
  replace q_o := q_o.step hst
  replace hB := hB.step hst
  obtain ⟨w15, hw⟩ : ∃ v, w14.alloc (.cells #[.int .u32 0, .int .i64 0, .int .u32 0, .int .u32 0, .slice a_k 0 c_k] 25) = v := ⟨_, rfl⟩
  rw [hw] at hlt q_k D_n S_z D_m D_t q_t D_x S_l q_m q_r q_o hB ⊢
  clear hw hst
  have sz_w15 := hlt
  clear hlt
  have HQ := Lib.hid (And.intro D_n (And.intro S_z (And.intro D_m (And.intro D_t (And.intro q_t (And.intro D_x (And.intro S_l (And.intro q_m (And.intro q_r (And.intro q_o (And.intro q_k hB)))))))))))
  clear D_n S_z D_m D_t q_t D_x S_l q_m q_r q_o q_k hB
  have c_q_t0 := LK.cell HQ.out.2.2.2.2.1 0
  have c_q_t1 := LK.cell HQ.out.2.2.2.2.1 1
  simp at c_q_t0 c_q_t1
  obtain ⟨bl, ol, e1⟩ := Sl.some_ HQ.out.2.2.2.2.2.2.1.v (by decide)
  subst e1
  go_wp2_with fail
  refine (HC.out.2.2.2.2.2.2.2.1 _).mono ?_
  rintro e w0 ⟨rfl, hw0⟩
  rw [hw0]
  clear hw0 w0
  go_wp2_with fail
  refine (HC.out.2.2.2.2.2.2.2.2.1 _).mono ?_
  rintro e w16 ⟨rfl, hst⟩
  clear c_q_t0 c_q_t1
  obtain ⟨D_n, S_z, D_m, D_t, q_t, D_x, S_l, q_m, q_r, q_o, q_k, hB⟩ := HQ.out
  clear HQ
  have sz_w16 : w15.heap.size ≤ w16.heap.size := hst.size
  replace D_n := D_n.step hst
  replace S_z := S_z.step hst
  replace D_m := D_m.step hst
  replace D_t := D_t.step hst
  replace q_t := q_t.step hst
  replace D_x := D_x.step hst
  replace S_l := S_l.step hst
  replace q_m := q_m.step hst
  replace q_r := q_r.step hst
  replace q_o := q_o.step hst
  replace q_k := q_k.step hst
  replace hB := hB.step hst
  clear hst
  have HQ := Lib.hid (And.intro D_n (And.intro S_z (And.intro D_m (And.intro D_t (And.intro q_t (And.intro D_x (And.intro S_l (And.intro q_m (And.intro q_r (And.intro q_o (And.intro q_k hB)))))))))))
  clear D_n S_z D_m D_t q_t D_x S_l q_m q_r q_o q_k hB
  have c_q_t0 := LK.cell HQ.out.2.2.2.2.1 0
  have c_q_t1 := LK.cell HQ.out.2.2.2.2.1 1
  simp at c_q_t0 c_q_t1
  go_wp2_with fail
  refine (HC.out.2.2.2.2.2.2.2.2.2 _).mono ?_
  rintro e w17 ⟨rfl, hst⟩
  clear c_q_t0 c_q_t1
  obtain ⟨D_n, S_z, D_m, D_t, q_t, D_x, S_l, q_m, q_r, q_o, q_k, hB⟩ := HQ.out
  clear HQ
  have sz_w17 : w16.heap.size ≤ w17.heap.size := hst.size
  replace D_n := D_n.step hst
  replace S_z := S_z.step hst
  replace D_m := D_m.step hst
  replace D_t := D_t.step hst
  replace q_t := q_t.step hst
  replace D_x := D_x.step hst
  replace S_l := S_l.step hst
  replace q_m := q_m.step hst
  replace q_r := q_r.step hst
  replace q_o := q_o.step hst
  replace q_k := q_k.step hst
  replace hB := hB.step hst
  clear hst
  have HQ := Lib.hid (And.intro D_n (And.intro S_z (And.intro D_m (And.intro D_t (And.intro q_t (And.intro D_x (And.intro S_l (And.intro q_m (And.intro q_r (And.intro q_o (And.intro q_k hB)))))))))))
  clear D_n S_z D_m D_t q_t D_x S_l q_m q_r q_o q_k hB
  have c_q_t0 := LK.cell HQ.out.2.2.2.2.1 0
  have c_q_t1 := LK.cell HQ.out.2.2.2.2.1 1
  simp at c_q_t0 c_q_t1
  have d0 := (Sl.superAt HQ.out.2.2.2.2.2.2.1.v 0 s6 rfl).1
  have d1 := (Sl.superAt HQ.out.2.2.2.2.2.2.1.v 1 s5 rfl).1
  rw [e9] at d0
  rw [e5] at d1
  simp only [Nat.zero_mul, Nat.add_zero, Nat.one_mul] at d0 d1
  go_wp2
  go_ret
  exact ⟨rfl, HQ.out.2.2.2.2.2.2.2.2.2.2.2⟩
end Go.Proofs.Ytcibihakjcenaaa

