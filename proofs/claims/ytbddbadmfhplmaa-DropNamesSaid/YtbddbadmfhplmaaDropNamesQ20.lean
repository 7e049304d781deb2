/- DropNames: the words and contracts, part 20. -/
import Derived.Test.YtbddbadmfhplmaaDropNamesQ1
import Derived.Test.YtbddbadmfhplmaaDropNamesQ2
import Derived.Test.YtbddbadmfhplmaaDropNamesQ3
import Derived.Test.YtbddbadmfhplmaaDropNamesQ4
import Derived.Test.YtbddbadmfhplmaaDropNamesQ5
import Derived.Test.YtbddbadmfhplmaaDropNamesQ6
import Derived.Test.YtbddbadmfhplmaaDropNamesQ7
import Derived.Test.YtbddbadmfhplmaaDropNamesQ8
import Derived.Test.YtbddbadmfhplmaaDropNamesQ9
import Derived.Test.YtbddbadmfhplmaaDropNamesQ10
import Derived.Test.YtbddbadmfhplmaaDropNamesQ11
import Derived.Test.YtbddbadmfhplmaaDropNamesQ12
import Derived.Test.YtbddbadmfhplmaaDropNamesQ13
import Derived.Test.YtbddbadmfhplmaaDropNamesQ14
import Derived.Test.YtbddbadmfhplmaaDropNamesQ15
import Derived.Test.YtbddbadmfhplmaaDropNamesQ16
import Derived.Test.YtbddbadmfhplmaaDropNamesQ17
import Derived.Test.YtbddbadmfhplmaaDropNamesQ18
import Derived.Test.YtbddbadmfhplmaaDropNamesQ19
import Derived.WalkKit
import Derived.WalkLawsBesides
import Derived.WalkSpells
import Derived.Lib.Hide
import Derived.Laws.Rows
import Derived.Laws.AppendOwnNone
import Derived.Maps.AppendAt
import Derived.ProofKit
import Derived.Deep.Slices
import Derived.WideShapes
import Derived.RangeFuncNested
import Derived.RangeFuncBound
import Derived.RangeFuncCalls
import Derived.RangeFuncLeaves
import Derived.RangeFuncBox
import Derived.Shelf.Abstract
import Derived.Shelf.RegionOpen
import Derived.OwnWalkIn
import Derived.TacticsInMore
import Derived.LoopNIn
import Derived.LoopIn
import Derived.Lib.AppendZerosOnto
import Derived.Lib.SliceRun
import Derived.Lib.Walk
import Derived.Deep.LoopGhost
import Derived.Laws.CopyOwn
import Derived.Laws.CopyRow
import Derived.OrdersHeld
import Derived.Deep.QuietTactic
import Derived.BigQuiet
import Derived.StillTailTactics
import Derived.OpenShut
import Derived.Deep.DeepCutAuto
import Derived.Laws.MakeOwn
import Derived.Deep.RegionHeld
import Derived.KernelRfl
import Derived.BigFrameIn
import Derived.OrdersIn
import Derived.Sort.CutIn
import Derived.ArgAppend
namespace Go.Proofs.Ytbddbadmfhplmaa
open Go.RowKit

def it9 : ItemL := ⟨⟨0, 0, 0⟩, 9, []⟩
theorem names9 : errDm newS ⟨0, [it9]⟩ = 6 ∧ errLv newS 9 = 6 ∧ errAs newS 7 = 2 ∧ errLv (takeS newS zs8) 8 = 8 := by decide +kernel
/-- One item in a block. -/
theorem sl_one {V : World} {b : Nat} {T : TypeId} {x : ItemL} {u : Value} (hb : V.heap[b]? = some (.cells #[bV x.key.kind, wV x.key.id, wV x.key.off, .int .i64 x.ref, u] T (0, 0))) (hwf : (Lit.int .i64 x.ref).wf = true) (hu : Bytes V 0 V.heap.size u x.val) :
    Sl rItem V 0 V.heap.size (.slice (some ⟨b, 0, none⟩) 1 1) [x] := by
  refine ⟨_, 1, rfl, Nat.le_refl _, by unfold maxLen; omega, fun _ => ⟨b, 0, rfl, Nat.zero_le _, (Array.getElem?_eq_some_iff.1 hb).1, fun i y hy => ?_⟩, fun e => by cases e⟩
  cases i with
  | succ i => simp at hy
  | zero =>
    cases hy
    exact ⟨blk_cell hb 0, blk_cell hb 1, blk_cell hb 2, blk_cell hb 3, hwf, u, blk_cell hb 4, hu⟩

set_option maxRecDepth 100000 in
set_option maxHeartbeats 4000000 in
theorem dropNames_walk  (w : World)  :
    Calls Try.prog 13 #[] w fun e w' => e = .returned (.bool true) ∧ Below w.heap.size w w' := by
  have hB : LW w w := Below.refl _ _
  have HQ := Lib.hid (hB)
  clear hB
  obtain ⟨t1, t2, -, -⟩ := take_new
  obtain ⟨n1, n2, n3, n4⟩ := names9
  obtain ⟨N, hN⟩ : ∃ N, newS = N := ⟨_, rfl⟩
  obtain ⟨Z, hZ⟩ : ∃ Z, zs8 = Z := ⟨_, rfl⟩
  obtain ⟨T, hT⟩ : ∃ T, takeS newS zs8 = T := ⟨_, rfl⟩
  have k_t := fun V b u x y v h1 h2 => stake_any b u x y newS v zs8 V h1 h2
  rw [t1, t2, hT, hN, hZ] at k_t
  have k_n := fun V => snew_any V
  rw [hN] at k_n
  rw [hT] at n4
  rw [hN] at n1 n2 n3
  have k_m := fun V b u x y v h1 h2 => dmake_any b u x y N ⟨0, [it9]⟩ v V h1 ⟨(by decide : (Lit.int .i64 0).wf = true), h2⟩
  rw [n1, show madS N ⟨0, [it9]⟩ = noS by unfold madS; rw [n1]; rfl, show atD N ⟨0, [it9]⟩ = 0 by unfold atD; rw [n1]; rfl] at k_m
  have k_l := fun V b u x y h1 => dleave_any b u x y N 9 V h1
  rw [n2, show leftS N 9 = noS by unfold leftS; rw [n2]; rfl] at k_l
  have k_7 := fun V b u x y h1 => dloose_any b u x y N 7 V h1
  rw [n3, show loosS N 7 = noS by unfold loosS; rw [n3]; rfl] at k_7
  have k_8 := fun V b u x y h1 => dleave_any b u x y T 8 V h1
  rw [n4, show leftS T 8 = noS by unfold leftS; rw [n4]; rfl] at k_8
  have hmk : ∀ X : World, (Instr.makeSlice 26 (.int .i64 128) (.int .i64 128)).run Try.prog X = .ok (.slice (some ⟨X.heap.size, 0, none⟩) 128 128) (X.alloc (.cells (madeCells #[.int .u8 0] 128) 5)) := fun X => run_makeN (P := Try.prog) 26 5 (.int .u8 0) #[.int .u8 0] 1 1 Try.underlying26 (by kernel_rfl) rfl 128 128 128 rfl (by decide) (by decide) (by decide) X
  have hz : madeCells #[.int .u8 0] 128 = (zs8.map bV).toArray := by kernel_rfl
  rw [hZ] at hz
  have hZl : Z.length = 128 := by rw [← hZ]; rfl
  have hzn : ∀ X : World, LB X.heap.size (X.heap.size + 1) (.slice (some ⟨X.heap.size, 0, none⟩) 128 128) Z (X.alloc (.cells (madeCells #[.int .u8 0] 128) 5)) := fun X => LB.of (by have := Bytes.new X 5 Z (by rw [hZl]; simp [maxLen]) (0, 0); rw [hZl] at this; rwa [hz]) (by simp)
  generalize madeCells #[.int .u8 0] 128 = MC at *
  have HZN := Lib.hid hzn
  clear hz hzn hZl
  clear hZ hN hT n1 n2 n3 n4 t1 t2
  have HC := Lib.hid (And.intro k_t (And.intro k_n (And.intro k_m (And.intro k_l (And.intro k_7 k_8)))))
  clear k_t k_n k_m k_l k_7 k_8
  go_enter Try.func13, Try.ntmps13
  go_wp2_with fail
  refine (alive9 w).mono ?_
  rintro e w1 ⟨rfl, hst⟩
  have hB := HQ.out
  clear HQ
  have sz_w1 : w.heap.size ≤ w1.heap.size := hst.size
  replace hB := hB.step hst
  clear hst
  have HQ := Lib.hid (hB)
  clear hB
  go_wp2_with fail
  refine (HC.out.2.1 _).mono ?_
  rintro e w2 ⟨b_1, u_1, x_1, y_1, rfl, hm⟩
  have hB := HQ.out
  clear HQ
  have P_1 := LP.of hm
  have hst := hm.below
  clear hm
  have sz_w2 : w1.heap.size ≤ w2.heap.size := hst.size
  replace hB := hB.step hst
  clear hst
  have HQ := Lib.hid (And.intro P_1 hB)
  clear P_1 hB
  go_wp2_with fail
  obtain ⟨P_1, hB⟩ := HQ.out
  clear HQ
  have hst := (Below.refl w2.heap.size w2).alloc (Nat.le_refl _) (.cells #[.int .u8 0, .int .u32 0, .int .u32 0, .int .i64 9, .slice none 0 0] 75)
  have hlt : w2.heap.size < (w2.alloc (.cells #[.int .u8 0, .int .u32 0, .int .u32 0, .int .i64 9, .slice none 0 0] 75)).heap.size := by simp
  have q_i := LK.new w2 (.cells #[.int .u8 0, .int .u32 0, .int .u32 0, .int .i64 9, .slice none 0 0] 75)
  replace P_1 := P_1.step hst
  replace hB := hB.step hst
  obtain ⟨w3, hw⟩ : ∃ v, w2.alloc (.cells #[.int .u8 0, .int .u32 0, .int .u32 0, .int .i64 9, .slice none 0 0] 75) = v := ⟨_, rfl⟩
  rw [hw] at hlt q_i P_1 hB ⊢
  clear hw hst
  have sz_w3 := hlt
  clear hlt
  have HQ := Lib.hid (And.intro P_1 (And.intro q_i hB))
  clear P_1 q_i hB
  refine (HC.out.2.2.1 _ _ _ _ _ _ HQ.out.1.v (sl_one (x := it9) (LK.blk HQ.out.2.1) (by decide) (Bytes.nil_ _ _ _))).mono ?_
  rintro e w4 ⟨b0, u0, x0, y0, rfl, hm⟩
  obtain ⟨P_1, q_i, hB⟩ := HQ.out
  clear HQ
  have P_v0 := LP.of hm
  have hst := hm.below
  obtain ⟨ab_v0, cb_v0, rfl, -, -, -, -⟩ := hm.store.v.1.1
  obtain ⟨au_v0, cu_v0, rfl, -, -, -, -⟩ := hm.store.v.1.2
  obtain ⟨ax_v0, cx_v0, rfl, -, -⟩ := hm.store.v.2.1.form rfl
  obtain ⟨ay_v0, cy_v0, rfl, -, -⟩ := hm.store.v.2.2.form rfl
  clear hm
  clear P_1 q_i
  have sz_w4 : w3.heap.size ≤ w4.heap.size := hst.size
  replace hB := hB.step hst
  clear hst
  have HQ := Lib.hid (And.intro P_v0 hB)
  clear P_v0 hB
  go_upto_region 4 with (fail)
  obtain ⟨P_v0, hB⟩ := HQ.out
  clear HQ
  have hst := (Below.refl w4.heap.size w4).alloc (Nat.le_refl _) (.cells #[.slice ab_v0 noS.disk.blocks.length cb_v0, .slice au_v0 noS.disk.waits.length cu_v0, .slice ax_v0 noS.now.length cx_v0, .slice ay_v0 noS.last.length cy_v0] 28)
  have hlt : w4.heap.size < (w4.alloc (.cells #[.slice ab_v0 noS.disk.blocks.length cb_v0, .slice au_v0 noS.disk.waits.length cu_v0, .slice ax_v0 noS.now.length cx_v0, .slice ay_v0 noS.last.length cy_v0] 28)).heap.size := by simp
  have q_v0 := LK.new w4 (.cells #[.slice ab_v0 noS.disk.blocks.length cb_v0, .slice au_v0 noS.disk.waits.length cu_v0, .slice ax_v0 noS.now.length cx_v0, .slice ay_v0 noS.last.length cy_v0] 28)
  replace P_v0 := P_v0.step hst
  replace hB := hB.step hst
  obtain ⟨w5, hw⟩ : ∃ v, w4.alloc (.cells #[.slice ab_v0 noS.disk.blocks.length cb_v0, .slice au_v0 noS.disk.waits.length cu_v0, .slice ax_v0 noS.now.length cx_v0, .slice ay_v0 noS.last.length cy_v0] 28) = v := ⟨_, rfl⟩
  rw [hw] at hlt q_v0 P_v0 hB ⊢
  clear hw hst
  have sz_w5 := hlt
  clear hlt
  have HQ := Lib.hid (And.intro P_v0 (And.intro q_v0 hB))
  clear P_v0 q_v0 hB
  go_wp2_with fail
  refine (HC.out.2.1 _).mono ?_
  rintro e w6 ⟨b_2, u_2, x_2, y_2, rfl, hm⟩
  obtain ⟨P_v0, q_v0, hB⟩ := HQ.out
  clear HQ
  have P_2 := LP.of hm
  have hst := hm.below
  clear hm
  have sz_w6 : w5.heap.size ≤ w6.heap.size := hst.size
  replace P_v0 := P_v0.step hst
  replace q_v0 := q_v0.step hst
  replace hB := hB.step hst
  clear hst
  have HQ := Lib.hid (And.intro P_v0 (And.intro q_v0 (And.intro P_2 hB)))
  clear P_v0 q_v0 P_2 hB
  go_wp2_with fail
  refine (HC.out.2.2.2.1 _ _ _ _ _ HQ.out.2.2.1.v).mono ?_
  rintro e w7 ⟨b1, u1, x1, y1, rfl, hm⟩
  obtain ⟨P_v0, q_v0, P_2, hB⟩ := HQ.out
  clear HQ
  have P_v2 := LP.of hm
  have hst := hm.below
  obtain ⟨ab_v2, cb_v2, rfl, -, -, -, -⟩ := hm.store.v.1.1
  obtain ⟨au_v2, cu_v2, rfl, -, -, -, -⟩ := hm.store.v.1.2
  obtain ⟨ax_v2, cx_v2, rfl, -, -⟩ := hm.store.v.2.1.form rfl
  obtain ⟨ay_v2, cy_v2, rfl, -, -⟩ := hm.store.v.2.2.form rfl
  clear hm
  clear P_2 P_v0
  have sz_w7 : w6.heap.size ≤ w7.heap.size := hst.size
  replace q_v0 := q_v0.step hst
  replace hB := hB.step hst
  clear hst
  have HQ := Lib.hid (And.intro q_v0 (And.intro P_v2 hB))
  clear q_v0 P_v2 hB
  go_upto_region 5 with (fail)
  obtain ⟨q_v0, P_v2, hB⟩ := HQ.out
  clear HQ
  have hst := (Below.refl w7.heap.size w7).alloc (Nat.le_refl _) (.cells #[.slice ab_v2 noS.disk.blocks.length cb_v2, .slice au_v2 noS.disk.waits.length cu_v2, .slice ax_v2 noS.now.length cx_v2, .slice ay_v2 noS.last.length cy_v2] 28)
  have hlt : w7.heap.size < (w7.alloc (.cells #[.slice ab_v2 noS.disk.blocks.length cb_v2, .slice au_v2 noS.disk.waits.length cu_v2, .slice ax_v2 noS.now.length cx_v2, .slice ay_v2 noS.last.length cy_v2] 28)).heap.size := by simp
  have q_v2 := LK.new w7 (.cells #[.slice ab_v2 noS.disk.blocks.length cb_v2, .slice au_v2 noS.disk.waits.length cu_v2, .slice ax_v2 noS.now.length cx_v2, .slice ay_v2 noS.last.length cy_v2] 28)
  replace q_v0 := q_v0.step hst
  replace P_v2 := P_v2.step hst
  replace hB := hB.step hst
  obtain ⟨w8, hw⟩ : ∃ v, w7.alloc (.cells #[.slice ab_v2 noS.disk.blocks.length cb_v2, .slice au_v2 noS.disk.waits.length cu_v2, .slice ax_v2 noS.now.length cx_v2, .slice ay_v2 noS.last.length cy_v2] 28) = v := ⟨_, rfl⟩
  rw [hw] at hlt q_v2 q_v0 P_v2 hB ⊢
  clear hw hst
  have sz_w8 := hlt
  clear hlt
  have HQ := Lib.hid (And.intro q_v0 (And.intro P_v2 (And.intro q_v2 hB)))
  clear q_v0 P_v2 q_v2 hB
  go_wp2_with fail
  refine (HC.out.2.1 _).mono ?_
  rintro e w9 ⟨b_3, u_3, x_3, y_3, rfl, hm⟩
  obtain ⟨q_v0, P_v2, q_v2, hB⟩ := HQ.out
  clear HQ
  have P_3 := LP.of hm
  have hst := hm.below
  clear hm
  have sz_w9 : w8.heap.size ≤ w9.heap.size := hst.size
  replace q_v0 := q_v0.step hst
  replace P_v2 := P_v2.step hst
  replace q_v2 := q_v2.step hst
  replace hB := hB.step hst
  clear hst
  have HQ := Lib.hid (And.intro q_v0 (And.intro P_v2 (And.intro q_v2 (And.intro P_3 hB))))
  clear q_v0 P_v2 q_v2 P_3 hB
  go_wp2_with fail
  refine (HC.out.2.2.2.2.1 _ _ _ _ _ HQ.out.2.2.2.1.v).mono ?_
  rintro e w10 ⟨b2, u2, x2, y2, rfl, hm⟩
  obtain ⟨q_v0, P_v2, q_v2, P_3, hB⟩ := HQ.out
  clear HQ
  have P_v3 := LP.of hm
  have hst := hm.below
  obtain ⟨ab_v3, cb_v3, rfl, -, -, -, -⟩ := hm.store.v.1.1
  obtain ⟨au_v3, cu_v3, rfl, -, -, -, -⟩ := hm.store.v.1.2
  obtain ⟨ax_v3, cx_v3, rfl, -, -⟩ := hm.store.v.2.1.form rfl
  obtain ⟨ay_v3, cy_v3, rfl, -, -⟩ := hm.store.v.2.2.form rfl
  clear hm
  clear P_3 P_v2
  have sz_w10 : w9.heap.size ≤ w10.heap.size := hst.size
  replace q_v0 := q_v0.step hst
  replace q_v2 := q_v2.step hst
  replace hB := hB.step hst
  clear hst
  have HQ := Lib.hid (And.intro q_v0 (And.intro q_v2 (And.intro P_v3 hB)))
  clear q_v0 q_v2 P_v3 hB
  go_upto_region 6 with (fail)
  obtain ⟨q_v0, q_v2, P_v3, hB⟩ := HQ.out
  clear HQ
  have hst := (Below.refl w10.heap.size w10).alloc (Nat.le_refl _) (.cells #[.slice ab_v3 noS.disk.blocks.length cb_v3, .slice au_v3 noS.disk.waits.length cu_v3, .slice ax_v3 noS.now.length cx_v3, .slice ay_v3 noS.last.length cy_v3] 28)
  have hlt : w10.heap.size < (w10.alloc (.cells #[.slice ab_v3 noS.disk.blocks.length cb_v3, .slice au_v3 noS.disk.waits.length cu_v3, .slice ax_v3 noS.now.length cx_v3, .slice ay_v3 noS.last.length cy_v3] 28)).heap.size := by simp
  have q_v3 := LK.new w10 (.cells #[.slice ab_v3 noS.disk.blocks.length cb_v3, .slice au_v3 noS.disk.waits.length cu_v3, .slice ax_v3 noS.now.length cx_v3, .slice ay_v3 noS.last.length cy_v3] 28)
  replace q_v0 := q_v0.step hst
  replace q_v2 := q_v2.step hst
  replace P_v3 := P_v3.step hst
  replace hB := hB.step hst
  obtain ⟨w11, hw⟩ : ∃ v, w10.alloc (.cells #[.slice ab_v3 noS.disk.blocks.length cb_v3, .slice au_v3 noS.disk.waits.length cu_v3, .slice ax_v3 noS.now.length cx_v3, .slice ay_v3 noS.last.length cy_v3] 28) = v := ⟨_, rfl⟩
  rw [hw] at hlt q_v3 q_v0 q_v2 P_v3 hB ⊢
  clear hw hst
  have sz_w11 := hlt
  clear hlt
  have HQ := Lib.hid (And.intro q_v0 (And.intro q_v2 (And.intro P_v3 (And.intro q_v3 hB))))
  clear q_v0 q_v2 P_v3 q_v3 hB
  go_upto_region 6 with (fail)
  go_cut [8, 9, 10] (fun t1 t2 t3 wx => ∃ (g lo hi : Nat) (b u x y : Value), t1 = .pointer (some ⟨g, 0, none⟩) ∧ t2 = .int .i64 8 ∧ t3 = .int .i64 0 ∧ LK g (.cells #[b, u, x, y] 28) wx ∧ LO lo hi b u x y T wx ∧ Below w11.heap.size w11 wx)
  case first =>
    refine wp_region_held_drew (S := Cls w11) (by kernel_rfl) (Cls.drew w11) (fun hCl => ?_)
    refine wpAnyH_each (fuel := 10) [0, 1, 7] (by kernel_rfl) (by simp) (by kernel_rfl) ?_
    refine Each.cons _ rfl (fun K' hK => ?_) ?_
    · go_simp
      refine (HC.out.2.1 _).mono ?_
      rintro e z1 ⟨b0, u0, x0, y0, rfl, hm⟩
      have hs := hm.below
      have F0 := (LP.of hm).o
      have sz_z1 : w11.drew.heap.size ≤ z1.heap.size := hs.size
      have hst := below_step hCl.below hCl.below.size hs
      clear hs
      have hCl := Cls.of hst
      refine hK.out (Cls w11) (fun _ h => h) hCl ?_
      clear hK K'
      refine wpAnyH_each (fuel := 9) [1, 7] (by kernel_rfl) (by simp) (by kernel_rfl) ?_
      refine Each.cons _ rfl (fun K' hK => ?_) ?_
      · go_simp
        have hs := cls_alloc hCl (.cells MC 5)
        have F1 := cls_at hCl HZN.out
        have hlt : z1.heap.size < (z1.alloc (.cells MC 5)).heap.size := by simp
        replace F0 := F0.step hs
        have hst := below_step hCl.below hCl.below.size hs
        have lo_F1 := hCl.below.size
        obtain ⟨z2, hz⟩ : ∃ v, z1.alloc (.cells MC 5) = v := ⟨_, rfl⟩
        have hz2 : z1.alloc (.cells MC 5) = z2 := hz
        rw [hz] at ⊢
        rw [hz2] at hst hlt F0 F1
        have sz_z2 := hlt
        clear hz hz2 hs hlt
        have hCl := Cls.of hst
        refine hK.out (Cls w11) (fun _ h => h) hCl ?_
        clear hK K'
        refine wpAnyH_each (fuel := 8) [2, 7] (by kernel_rfl) (by simp) (by kernel_rfl) ?_
        refine Each.cons _ rfl (fun K' hK => ?_) ?_
        · go_simp
          refine (HC.out.1 _ _ _ _ _ _ F0.v F1.v).mono ?_
          rintro e z3 ⟨b2, u2, x2, y2, rfl, hm⟩
          have hs := hm.below
          obtain ⟨ab_t, cb_t, rfl, -, -, -, -⟩ := hm.store.v.1.1
          obtain ⟨au_t, cu_t, rfl, -, -, -, -⟩ := hm.store.v.1.2
          obtain ⟨ax_t, cx_t, rfl, -, -⟩ := hm.store.v.2.1.form rfl
          obtain ⟨ay_t, cy_t, rfl, -, -⟩ := hm.store.v.2.2.form rfl
          replace F0 := F0.step hs
          replace F1 := F1.step hs
          have F2 := LP.of hm
          have sz_z3 : z2.heap.size ≤ z3.heap.size := hs.size
          have hst := below_step hCl.below hCl.below.size hs
          clear hs
          have hCl := Cls.of hst
          refine hK.out (Cls w11) (fun _ h => h) hCl ?_
          clear hK K'
          refine wpAnyH_seg (fuel := 4) (by kernel_rfl) (fun _ d _ _ _ h => by cases d <;> exact h) hCl [3, 4, 5, 6] _ _ _ (by kernel_rfl) (by kernel_rfl) ?_
          simp only [opsOf_cons, opsOf_nil, consOp_some, List.getElem?_toArray, List.getElem?_cons_succ, List.getElem?_cons_zero]
          repeat (first | go_big_quiet_step (fail) | quiet_step (fail))
          refine wpQuiet_nil ?_
          refine wpAnyH_each (fuel := 3) [7] (by kernel_rfl) (by simp) (by kernel_rfl) ?_
          refine Each.cons _ rfl (fun K' hK => ?_) Each.nil
          go_simp
          have hs := cls_alloc hCl (.cells #[.slice none 0 0, .slice none 0 0, .slice none 0 0, .slice none 0 0] 28)
          have F7 : LK z3.heap.size (.cells #[.slice none 0 0, .slice none 0 0, .slice none 0 0, .slice none 0 0] 28) _ := cls_new hCl (.cells #[.slice none 0 0, .slice none 0 0, .slice none 0 0, .slice none 0 0] 28)
          have hlt : z3.heap.size < (z3.alloc (.cells #[.slice none 0 0, .slice none 0 0, .slice none 0 0, .slice none 0 0] 28)).heap.size := by simp
          replace F0 := F0.step hs
          replace F1 := F1.step hs
          replace F2 := F2.step hs
          have hst := below_step hCl.below hCl.below.size hs
          have lo_F7 := hCl.below.size
          obtain ⟨z4, hz⟩ : ∃ v, z3.alloc (.cells #[.slice none 0 0, .slice none 0 0, .slice none 0 0, .slice none 0 0] 28) = v := ⟨_, rfl⟩
          have hz2 : z3.alloc (.cells #[.slice none 0 0, .slice none 0 0, .slice none 0 0, .slice none 0 0] 28) = z4 := hz
          rw [hz] at ⊢
          rw [hz2] at hst hlt F0 F1 F2 F7
          have sz_z4 := hlt
          clear hz hz2 hs hlt
          have hCl := Cls.of hst
          refine hK.out (Cls w11) (fun _ h => h) hCl ?_
          clear hK K'
          refine wpAnyH_each (fuel := 2) [8] (by kernel_rfl) (by simp) (by kernel_rfl) ?_
          refine Each.cons _ rfl (fun K' hK => ?_) Each.nil
          have hcb := LK.blk F7
          have r0 := LK.cell F7 0
          have r1 := LK.cell F7 1
          have r2 := LK.cell F7 2
          have r3 := LK.cell F7 3
          simp at r0 r1 r2 r3
          have s0 := LK.frozen F7 0
          have s1 := LK.frozen F7 1
          have s2 := LK.frozen F7 2
          have s3 := LK.frozen F7 3
          go_simp
          have F8 : LK (z3.heap.size) (.cells #[.slice ab_t T.disk.blocks.length cb_t, .slice au_t T.disk.waits.length cu_t, .slice ax_t T.now.length cx_t, .slice ay_t T.last.length cy_t] 28) ((((z4.setCell ⟨z3.heap.size, 0, none⟩ (.slice ab_t T.disk.blocks.length cb_t)).setCell ⟨z3.heap.size, 1, none⟩ (.slice au_t T.disk.waits.length cu_t)).setCell ⟨z3.heap.size, 2, none⟩ (.slice ax_t T.now.length cx_t)).setCell ⟨z3.heap.size, 3, none⟩ (.slice ay_t T.last.length cy_t)) := LK.of (set_block (set_block (set_block (set_block hcb 0 _) 1 _) 2 _) 3 _)
          have hst := Below.trans hCl.below (below_four z4 (.slice ab_t T.disk.blocks.length cb_t) (.slice au_t T.disk.waits.length cu_t) (.slice ax_t T.now.length cx_t) (.slice ay_t T.last.length cy_t) lo_F7)
          have hfr : ∀ x, x < z4.heap.size → (x < z3.heap.size ∨ z3.heap.size + 1 ≤ x) → ((((z4.setCell ⟨z3.heap.size, 0, none⟩ (.slice ab_t T.disk.blocks.length cb_t)).setCell ⟨z3.heap.size, 1, none⟩ (.slice au_t T.disk.waits.length cu_t)).setCell ⟨z3.heap.size, 2, none⟩ (.slice ax_t T.now.length cx_t)).setCell ⟨z3.heap.size, 3, none⟩ (.slice ay_t T.last.length cy_t)).heap[x]? = z4.heap[x]? := fun x _ h => (set_other _ _ _ _ _ (by omega)).trans ((set_other _ _ _ _ _ (by omega)).trans ((set_other _ _ _ _ _ (by omega)).trans (set_other _ _ _ _ _ (by omega))))
          have F9 := F2.o.out (V' := ((((z4.setCell ⟨z3.heap.size, 0, none⟩ (.slice ab_t T.disk.blocks.length cb_t)).setCell ⟨z3.heap.size, 1, none⟩ (.slice au_t T.disk.waits.length cu_t)).setCell ⟨z3.heap.size, 2, none⟩ (.slice ax_t T.now.length cx_t)).setCell ⟨z3.heap.size, 3, none⟩ (.slice ay_t T.last.length cy_t))) (by simp only [World.size_setCell]; omega) hfr (by omega)
          have hCl := Cls.of hst
          refine hK.out (Cls w11) (fun _ h => h) hCl ?_
          clear hK K'
          refine wpAnyH_seg (fuel := 0) (by kernel_rfl) (fun _ d _ _ _ h => by cases d <;> exact h) hCl [9, 10] _ _ _ (by kernel_rfl) (by kernel_rfl) ?_
          simp only [opsOf_cons, opsOf_nil, consOp_some, List.getElem?_toArray, List.getElem?_cons_succ, List.getElem?_cons_zero]
          repeat (first | go_big_quiet_step (fail) | quiet_step (fail))
          refine wpQuiet_nil ?_
          refine wpAnyH_done (by kernel_rfl) ?_ _
          go_wp2
          go_meet
          exact ⟨_, _, _, _, _, _, _, rfl, rfl, rfl, F8, F9, hst⟩
        refine Each.cons _ rfl (fun K' hK => ?_) ?_
        · go_simp
          have hs := cls_alloc hCl (.cells #[.slice none 0 0, .slice none 0 0, .slice none 0 0, .slice none 0 0] 28)
          have F7 : LK z2.heap.size (.cells #[.slice none 0 0, .slice none 0 0, .slice none 0 0, .slice none 0 0] 28) _ := cls_new hCl (.cells #[.slice none 0 0, .slice none 0 0, .slice none 0 0, .slice none 0 0] 28)
          have hlt : z2.heap.size < (z2.alloc (.cells #[.slice none 0 0, .slice none 0 0, .slice none 0 0, .slice none 0 0] 28)).heap.size := by simp
          replace F0 := F0.step hs
          replace F1 := F1.step hs
          have hst := below_step hCl.below hCl.below.size hs
          have lo_F7 := hCl.below.size
          obtain ⟨z6, hz⟩ : ∃ v, z2.alloc (.cells #[.slice none 0 0, .slice none 0 0, .slice none 0 0, .slice none 0 0] 28) = v := ⟨_, rfl⟩
          have hz2 : z2.alloc (.cells #[.slice none 0 0, .slice none 0 0, .slice none 0 0, .slice none 0 0] 28) = z6 := hz
          rw [hz] at ⊢
          rw [hz2] at hst hlt F0 F1 F7
          have sz_z6 := hlt
          clear hz hz2 hs hlt
          have hCl := Cls.of hst
          refine hK.out (Cls w11) (fun _ h => h) hCl ?_
          clear hK K'
          refine wpAnyH_each (fuel := 7) [2] (by kernel_rfl) (by simp) (by kernel_rfl) ?_
          refine Each.cons _ rfl (fun K' hK => ?_) Each.nil
          go_simp
          refine (HC.out.1 _ _ _ _ _ _ F0.v F1.v).mono ?_
          rintro e z7 ⟨b2, u2, x2, y2, rfl, hm⟩
          have hs := hm.below
          obtain ⟨ab_t, cb_t, rfl, -, -, -, -⟩ := hm.store.v.1.1
          obtain ⟨au_t, cu_t, rfl, -, -, -, -⟩ := hm.store.v.1.2
          obtain ⟨ax_t, cx_t, rfl, -, -⟩ := hm.store.v.2.1.form rfl
          obtain ⟨ay_t, cy_t, rfl, -, -⟩ := hm.store.v.2.2.form rfl
          replace F0 := F0.step hs
          replace F1 := F1.step hs
          replace F7 := F7.step hs
          have F2 := LP.of hm
          have sz_z7 : z6.heap.size ≤ z7.heap.size := hs.size
          have hst := below_step hCl.below hCl.below.size hs
          clear hs
          have hCl := Cls.of hst
          refine hK.out (Cls w11) (fun _ h => h) hCl ?_
          clear hK K'
          refine wpAnyH_seg (fuel := 3) (by kernel_rfl) (fun _ d _ _ _ h => by cases d <;> exact h) hCl [3, 4, 5, 6] _ _ _ (by kernel_rfl) (by kernel_rfl) ?_
          simp only [opsOf_cons, opsOf_nil, consOp_some, List.getElem?_toArray, List.getElem?_cons_succ, List.getElem?_cons_zero]
          repeat (first | go_big_quiet_step (fail) | quiet_step (fail))
          refine wpQuiet_nil ?_
          refine wpAnyH_each (fuel := 2) [8] (by kernel_rfl) (by simp) (by kernel_rfl) ?_
          refine Each.cons _ rfl (fun K' hK => ?_) Each.nil
          have hcb := LK.blk F7
          have r0 := LK.cell F7 0
          have r1 := LK.cell F7 1
          have r2 := LK.cell F7 2
          have r3 := LK.cell F7 3
          simp at r0 r1 r2 r3
          have s0 := LK.frozen F7 0
          have s1 := LK.frozen F7 1
          have s2 := LK.frozen F7 2
          have s3 := LK.frozen F7 3
          go_simp
          have F8 : LK (z2.heap.size) (.cells #[.slice ab_t T.disk.blocks.length cb_t, .slice au_t T.disk.waits.length cu_t, .slice ax_t T.now.length cx_t, .slice ay_t T.last.length cy_t] 28) ((((z7.setCell ⟨z2.heap.size, 0, none⟩ (.slice ab_t T.disk.blocks.length cb_t)).setCell ⟨z2.heap.size, 1, none⟩ (.slice au_t T.disk.waits.length cu_t)).setCell ⟨z2.heap.size, 2, none⟩ (.slice ax_t T.now.length cx_t)).setCell ⟨z2.heap.size, 3, none⟩ (.slice ay_t T.last.length cy_t)) := LK.of (set_block (set_block (set_block (set_block hcb 0 _) 1 _) 2 _) 3 _)
          have hst := Below.trans hCl.below (below_four z7 (.slice ab_t T.disk.blocks.length cb_t) (.slice au_t T.disk.waits.length cu_t) (.slice ax_t T.now.length cx_t) (.slice ay_t T.last.length cy_t) lo_F7)
          have hfr : ∀ x, x < z7.heap.size → (x < z2.heap.size ∨ z2.heap.size + 1 ≤ x) → ((((z7.setCell ⟨z2.heap.size, 0, none⟩ (.slice ab_t T.disk.blocks.length cb_t)).setCell ⟨z2.heap.size, 1, none⟩ (.slice au_t T.disk.waits.length cu_t)).setCell ⟨z2.heap.size, 2, none⟩ (.slice ax_t T.now.length cx_t)).setCell ⟨z2.heap.size, 3, none⟩ (.slice ay_t T.last.length cy_t)).heap[x]? = z7.heap[x]? := fun x _ h => (set_other _ _ _ _ _ (by omega)).trans ((set_other _ _ _ _ _ (by omega)).trans ((set_other _ _ _ _ _ (by omega)).trans (set_other _ _ _ _ _ (by omega))))
          have F9 := F2.o.out (V' := ((((z7.setCell ⟨z2.heap.size, 0, none⟩ (.slice ab_t T.disk.blocks.length cb_t)).setCell ⟨z2.heap.size, 1, none⟩ (.slice au_t T.disk.waits.length cu_t)).setCell ⟨z2.heap.size, 2, none⟩ (.slice ax_t T.now.length cx_t)).setCell ⟨z2.heap.size, 3, none⟩ (.slice ay_t T.last.length cy_t))) (by simp only [World.size_setCell]; omega) hfr (by omega)
          have hCl := Cls.of hst
          refine hK.out (Cls w11) (fun _ h => h) hCl ?_
          clear hK K'
          refine wpAnyH_seg (fuel := 0) (by kernel_rfl) (fun _ d _ _ _ h => by cases d <;> exact h) hCl [9, 10] _ _ _ (by kernel_rfl) (by kernel_rfl) ?_
          simp only [opsOf_cons, opsOf_nil, consOp_some, List.getElem?_toArray, List.getElem?_cons_succ, List.getElem?_cons_zero]
          repeat (first | go_big_quiet_step (fail) | quiet_step (fail))
          refine wpQuiet_nil ?_
          refine wpAnyH_done (by kernel_rfl) ?_ _
          go_wp2
          go_meet
          exact ⟨_, _, _, _, _, _, _, rfl, rfl, rfl, F8, F9, hst⟩
        exact Each.nil
      refine Each.cons _ rfl (fun K' hK => ?_) ?_
      · go_simp
        have hs := cls_alloc hCl (.cells #[.slice none 0 0, .slice none 0 0, .slice none 0 0, .slice none 0 0] 28)
        have F7 : LK z1.heap.size (.cells #[.slice none 0 0, .slice none 0 0, .slice none 0 0, .slice none 0 0] 28) _ := cls_new hCl (.cells #[.slice none 0 0, .slice none 0 0, .slice none 0 0, .slice none 0 0] 28)
        have hlt : z1.heap.size < (z1.alloc (.cells #[.slice none 0 0, .slice none 0 0, .slice none 0 0, .slice none 0 0] 28)).heap.size := by simp
        replace F0 := F0.step hs
        have hst := below_step hCl.below hCl.below.size hs
        have lo_F7 := hCl.below.size
        obtain ⟨z9, hz⟩ : ∃ v, z1.alloc (.cells #[.slice none 0 0, .slice none 0 0, .slice none 0 0, .slice none 0 0] 28) = v := ⟨_, rfl⟩
        have hz2 : z1.alloc (.cells #[.slice none 0 0, .slice none 0 0, .slice none 0 0, .slice none 0 0] 28) = z9 := hz
        rw [hz] at ⊢
        rw [hz2] at hst hlt F0 F7
        have sz_z9 := hlt
        clear hz hz2 hs hlt
        have hCl := Cls.of hst
        refine hK.out (Cls w11) (fun _ h => h) hCl ?_
        clear hK K'
        refine wpAnyH_each (fuel := 8) [1] (by kernel_rfl) (by simp) (by kernel_rfl) ?_
        refine Each.cons _ rfl (fun K' hK => ?_) Each.nil
        go_simp
        have hs := cls_alloc hCl (.cells MC 5)
        have F1 := cls_at hCl HZN.out
        have hlt : z9.heap.size < (z9.alloc (.cells MC 5)).heap.size := by simp
        replace F0 := F0.step hs
        replace F7 := F7.step hs
        have hst := below_step hCl.below hCl.below.size hs
        have lo_F1 := hCl.below.size
        obtain ⟨z10, hz⟩ : ∃ v, z9.alloc (.cells MC 5) = v := ⟨_, rfl⟩
        have hz2 : z9.alloc (.cells MC 5) = z10 := hz
        rw [hz] at ⊢
        rw [hz2] at hst hlt F0 F7 F1
        have sz_z10 := hlt
        clear hz hz2 hs hlt
        have hCl := Cls.of hst
        refine hK.out (Cls w11) (fun _ h => h) hCl ?_
        clear hK K'
        refine wpAnyH_each (fuel := 7) [2] (by kernel_rfl) (by simp) (by kernel_rfl) ?_
        refine Each.cons _ rfl (fun K' hK => ?_) Each.nil
        go_simp
        refine (HC.out.1 _ _ _ _ _ _ F0.v F1.v).mono ?_
        rintro e z11 ⟨b2, u2, x2, y2, rfl, hm⟩
        have hs := hm.below
        obtain ⟨ab_t, cb_t, rfl, -, -, -, -⟩ := hm.store.v.1.1
        obtain ⟨au_t, cu_t, rfl, -, -, -, -⟩ := hm.store.v.1.2
        obtain ⟨ax_t, cx_t, rfl, -, -⟩ := hm.store.v.2.1.form rfl
        obtain ⟨ay_t, cy_t, rfl, -, -⟩ := hm.store.v.2.2.form rfl
        replace F0 := F0.step hs
        replace F7 := F7.step hs
        replace F1 := F1.step hs
        have F2 := LP.of hm
        have sz_z11 : z10.heap.size ≤ z11.heap.size := hs.size
        have hst := below_step hCl.below hCl.below.size hs
        clear hs
        have hCl := Cls.of hst
        refine hK.out (Cls w11) (fun _ h => h) hCl ?_
        clear hK K'
        refine wpAnyH_seg (fuel := 3) (by kernel_rfl) (fun _ d _ _ _ h => by cases d <;> exact h) hCl [3, 4, 5, 6] _ _ _ (by kernel_rfl) (by kernel_rfl) ?_
        simp only [opsOf_cons, opsOf_nil, consOp_some, List.getElem?_toArray, List.getElem?_cons_succ, List.getElem?_cons_zero]
        repeat (first | go_big_quiet_step (fail) | quiet_step (fail))
        refine wpQuiet_nil ?_
        refine wpAnyH_each (fuel := 2) [8] (by kernel_rfl) (by simp) (by kernel_rfl) ?_
        refine Each.cons _ rfl (fun K' hK => ?_) Each.nil
        have hcb := LK.blk F7
        have r0 := LK.cell F7 0
        have r1 := LK.cell F7 1
        have r2 := LK.cell F7 2
        have r3 := LK.cell F7 3
        simp at r0 r1 r2 r3
        have s0 := LK.frozen F7 0
        have s1 := LK.frozen F7 1
        have s2 := LK.frozen F7 2
        have s3 := LK.frozen F7 3
        go_simp
        have F8 : LK (z1.heap.size) (.cells #[.slice ab_t T.disk.blocks.length cb_t, .slice au_t T.disk.waits.length cu_t, .slice ax_t T.now.length cx_t, .slice ay_t T.last.length cy_t] 28) ((((z11.setCell ⟨z1.heap.size, 0, none⟩ (.slice ab_t T.disk.blocks.length cb_t)).setCell ⟨z1.heap.size, 1, none⟩ (.slice au_t T.disk.waits.length cu_t)).setCell ⟨z1.heap.size, 2, none⟩ (.slice ax_t T.now.length cx_t)).setCell ⟨z1.heap.size, 3, none⟩ (.slice ay_t T.last.length cy_t)) := LK.of (set_block (set_block (set_block (set_block hcb 0 _) 1 _) 2 _) 3 _)
        have hst := Below.trans hCl.below (below_four z11 (.slice ab_t T.disk.blocks.length cb_t) (.slice au_t T.disk.waits.length cu_t) (.slice ax_t T.now.length cx_t) (.slice ay_t T.last.length cy_t) lo_F7)
        have hfr : ∀ x, x < z11.heap.size → (x < z1.heap.size ∨ z1.heap.size + 1 ≤ x) → ((((z11.setCell ⟨z1.heap.size, 0, none⟩ (.slice ab_t T.disk.blocks.length cb_t)).setCell ⟨z1.heap.size, 1, none⟩ (.slice au_t T.disk.waits.length cu_t)).setCell ⟨z1.heap.size, 2, none⟩ (.slice ax_t T.now.length cx_t)).setCell ⟨z1.heap.size, 3, none⟩ (.slice ay_t T.last.length cy_t)).heap[x]? = z11.heap[x]? := fun x _ h => (set_other _ _ _ _ _ (by omega)).trans ((set_other _ _ _ _ _ (by omega)).trans ((set_other _ _ _ _ _ (by omega)).trans (set_other _ _ _ _ _ (by omega))))
        have F9 := F2.o.out (V' := ((((z11.setCell ⟨z1.heap.size, 0, none⟩ (.slice ab_t T.disk.blocks.length cb_t)).setCell ⟨z1.heap.size, 1, none⟩ (.slice au_t T.disk.waits.length cu_t)).setCell ⟨z1.heap.size, 2, none⟩ (.slice ax_t T.now.length cx_t)).setCell ⟨z1.heap.size, 3, none⟩ (.slice ay_t T.last.length cy_t))) (by simp only [World.size_setCell]; omega) hfr (by omega)
        have hCl := Cls.of hst
        refine hK.out (Cls w11) (fun _ h => h) hCl ?_
        clear hK K'
        refine wpAnyH_seg (fuel := 0) (by kernel_rfl) (fun _ d _ _ _ h => by cases d <;> exact h) hCl [9, 10] _ _ _ (by kernel_rfl) (by kernel_rfl) ?_
        simp only [opsOf_cons, opsOf_nil, consOp_some, List.getElem?_toArray, List.getElem?_cons_succ, List.getElem?_cons_zero]
        repeat (first | go_big_quiet_step (fail) | quiet_step (fail))
        refine wpQuiet_nil ?_
        refine wpAnyH_done (by kernel_rfl) ?_ _
        go_wp2
        go_meet
        exact ⟨_, _, _, _, _, _, _, rfl, rfl, rfl, F8, F9, hst⟩
      exact Each.nil
    refine Each.cons _ rfl (fun K' hK => ?_) ?_
    · go_simp
      have hs := cls_alloc hCl (.cells MC 5)
      have F1 := cls_at hCl HZN.out
      have hlt : w11.drew.heap.size < (w11.drew.alloc (.cells MC 5)).heap.size := by simp
      have hst := below_step hCl.below hCl.below.size hs
      have lo_F1 := hCl.below.size
      obtain ⟨z13, hz⟩ : ∃ v, (w11.alloc (.cells MC 5)).drew = v := ⟨_, rfl⟩
      have hz2 : w11.drew.alloc (.cells MC 5) = z13 := hz
      rw [hz] at ⊢
      rw [hz2] at hst hlt F1
      have sz_z13 := hlt
      clear hz hz2 hs hlt
      have hCl := Cls.of hst
      refine hK.out (Cls w11) (fun _ h => h) hCl ?_
      clear hK K'
      refine wpAnyH_each (fuel := 9) [0, 7] (by kernel_rfl) (by simp) (by kernel_rfl) ?_
      refine Each.cons _ rfl (fun K' hK => ?_) ?_
      · go_simp
        refine (HC.out.2.1 _).mono ?_
        rintro e z14 ⟨b0, u0, x0, y0, rfl, hm⟩
        have hs := hm.below
        replace F1 := F1.step hs
        have F0 := (LP.of hm).o
        have sz_z14 : z13.heap.size ≤ z14.heap.size := hs.size
        have hst := below_step hCl.below hCl.below.size hs
        clear hs
        have hCl := Cls.of hst
        refine hK.out (Cls w11) (fun _ h => h) hCl ?_
        clear hK K'
        refine wpAnyH_each (fuel := 8) [2, 7] (by kernel_rfl) (by simp) (by kernel_rfl) ?_
        refine Each.cons _ rfl (fun K' hK => ?_) ?_
        · go_simp
          refine (HC.out.1 _ _ _ _ _ _ F0.v F1.v).mono ?_
          rintro e z15 ⟨b2, u2, x2, y2, rfl, hm⟩
          have hs := hm.below
          obtain ⟨ab_t, cb_t, rfl, -, -, -, -⟩ := hm.store.v.1.1
          obtain ⟨au_t, cu_t, rfl, -, -, -, -⟩ := hm.store.v.1.2
          obtain ⟨ax_t, cx_t, rfl, -, -⟩ := hm.store.v.2.1.form rfl
          obtain ⟨ay_t, cy_t, rfl, -, -⟩ := hm.store.v.2.2.form rfl
          replace F1 := F1.step hs
          replace F0 := F0.step hs
          have F2 := LP.of hm
          have sz_z15 : z14.heap.size ≤ z15.heap.size := hs.size
          have hst := below_step hCl.below hCl.below.size hs
          clear hs
          have hCl := Cls.of hst
          refine hK.out (Cls w11) (fun _ h => h) hCl ?_
          clear hK K'
          refine wpAnyH_seg (fuel := 4) (by kernel_rfl) (fun _ d _ _ _ h => by cases d <;> exact h) hCl [3, 4, 5, 6] _ _ _ (by kernel_rfl) (by kernel_rfl) ?_
          simp only [opsOf_cons, opsOf_nil, consOp_some, List.getElem?_toArray, List.getElem?_cons_succ, List.getElem?_cons_zero]
          repeat (first | go_big_quiet_step (fail) | quiet_step (fail))
          refine wpQuiet_nil ?_
          refine wpAnyH_each (fuel := 3) [7] (by kernel_rfl) (by simp) (by kernel_rfl) ?_
          refine Each.cons _ rfl (fun K' hK => ?_) Each.nil
          go_simp
          have hs := cls_alloc hCl (.cells #[.slice none 0 0, .slice none 0 0, .slice none 0 0, .slice none 0 0] 28)
          have F7 : LK z15.heap.size (.cells #[.slice none 0 0, .slice none 0 0, .slice none 0 0, .slice none 0 0] 28) _ := cls_new hCl (.cells #[.slice none 0 0, .slice none 0 0, .slice none 0 0, .slice none 0 0] 28)
          have hlt : z15.heap.size < (z15.alloc (.cells #[.slice none 0 0, .slice none 0 0, .slice none 0 0, .slice none 0 0] 28)).heap.size := by simp
          replace F1 := F1.step hs
          replace F0 := F0.step hs
          replace F2 := F2.step hs
          have hst := below_step hCl.below hCl.below.size hs
          have lo_F7 := hCl.below.size
          obtain ⟨z16, hz⟩ : ∃ v, z15.alloc (.cells #[.slice none 0 0, .slice none 0 0, .slice none 0 0, .slice none 0 0] 28) = v := ⟨_, rfl⟩
          have hz2 : z15.alloc (.cells #[.slice none 0 0, .slice none 0 0, .slice none 0 0, .slice none 0 0] 28) = z16 := hz
          rw [hz] at ⊢
          rw [hz2] at hst hlt F1 F0 F2 F7
          have sz_z16 := hlt
          clear hz hz2 hs hlt
          have hCl := Cls.of hst
          refine hK.out (Cls w11) (fun _ h => h) hCl ?_
          clear hK K'
          refine wpAnyH_each (fuel := 2) [8] (by kernel_rfl) (by simp) (by kernel_rfl) ?_
          refine Each.cons _ rfl (fun K' hK => ?_) Each.nil
          have hcb := LK.blk F7
          have r0 := LK.cell F7 0
          have r1 := LK.cell F7 1
          have r2 := LK.cell F7 2
          have r3 := LK.cell F7 3
          simp at r0 r1 r2 r3
          have s0 := LK.frozen F7 0
          have s1 := LK.frozen F7 1
          have s2 := LK.frozen F7 2
          have s3 := LK.frozen F7 3
          go_simp
          have F8 : LK (z15.heap.size) (.cells #[.slice ab_t T.disk.blocks.length cb_t, .slice au_t T.disk.waits.length cu_t, .slice ax_t T.now.length cx_t, .slice ay_t T.last.length cy_t] 28) ((((z16.setCell ⟨z15.heap.size, 0, none⟩ (.slice ab_t T.disk.blocks.length cb_t)).setCell ⟨z15.heap.size, 1, none⟩ (.slice au_t T.disk.waits.length cu_t)).setCell ⟨z15.heap.size, 2, none⟩ (.slice ax_t T.now.length cx_t)).setCell ⟨z15.heap.size, 3, none⟩ (.slice ay_t T.last.length cy_t)) := LK.of (set_block (set_block (set_block (set_block hcb 0 _) 1 _) 2 _) 3 _)
          have hst := Below.trans hCl.below (below_four z16 (.slice ab_t T.disk.blocks.length cb_t) (.slice au_t T.disk.waits.length cu_t) (.slice ax_t T.now.length cx_t) (.slice ay_t T.last.length cy_t) lo_F7)
          have hfr : ∀ x, x < z16.heap.size → (x < z15.heap.size ∨ z15.heap.size + 1 ≤ x) → ((((z16.setCell ⟨z15.heap.size, 0, none⟩ (.slice ab_t T.disk.blocks.length cb_t)).setCell ⟨z15.heap.size, 1, none⟩ (.slice au_t T.disk.waits.length cu_t)).setCell ⟨z15.heap.size, 2, none⟩ (.slice ax_t T.now.length cx_t)).setCell ⟨z15.heap.size, 3, none⟩ (.slice ay_t T.last.length cy_t)).heap[x]? = z16.heap[x]? := fun x _ h => (set_other _ _ _ _ _ (by omega)).trans ((set_other _ _ _ _ _ (by omega)).trans ((set_other _ _ _ _ _ (by omega)).trans (set_other _ _ _ _ _ (by omega))))
          have F9 := F2.o.out (V' := ((((z16.setCell ⟨z15.heap.size, 0, none⟩ (.slice ab_t T.disk.blocks.length cb_t)).setCell ⟨z15.heap.size, 1, none⟩ (.slice au_t T.disk.waits.length cu_t)).setCell ⟨z15.heap.size, 2, none⟩ (.slice ax_t T.now.length cx_t)).setCell ⟨z15.heap.size, 3, none⟩ (.slice ay_t T.last.length cy_t))) (by simp only [World.size_setCell]; omega) hfr (by omega)
          have hCl := Cls.of hst
          refine hK.out (Cls w11) (fun _ h => h) hCl ?_
          clear hK K'
          refine wpAnyH_seg (fuel := 0) (by kernel_rfl) (fun _ d _ _ _ h => by cases d <;> exact h) hCl [9, 10] _ _ _ (by kernel_rfl) (by kernel_rfl) ?_
          simp only [opsOf_cons, opsOf_nil, consOp_some, List.getElem?_toArray, List.getElem?_cons_succ, List.getElem?_cons_zero]
          repeat (first | go_big_quiet_step (fail) | quiet_step (fail))
          refine wpQuiet_nil ?_
          refine wpAnyH_done (by kernel_rfl) ?_ _
          go_wp2
          go_meet
          exact ⟨_, _, _, _, _, _, _, rfl, rfl, rfl, F8, F9, hst⟩
        refine Each.cons _ rfl (fun K' hK => ?_) ?_
        · go_simp
          have hs := cls_alloc hCl (.cells #[.slice none 0 0, .slice none 0 0, .slice none 0 0, .slice none 0 0] 28)
          have F7 : LK z14.heap.size (.cells #[.slice none 0 0, .slice none 0 0, .slice none 0 0, .slice none 0 0] 28) _ := cls_new hCl (.cells #[.slice none 0 0, .slice none 0 0, .slice none 0 0, .slice none 0 0] 28)
          have hlt : z14.heap.size < (z14.alloc (.cells #[.slice none 0 0, .slice none 0 0, .slice none 0 0, .slice none 0 0] 28)).heap.size := by simp
          replace F1 := F1.step hs
          replace F0 := F0.step hs
          have hst := below_step hCl.below hCl.below.size hs
          have lo_F7 := hCl.below.size
          obtain ⟨z18, hz⟩ : ∃ v, z14.alloc (.cells #[.slice none 0 0, .slice none 0 0, .slice none 0 0, .slice none 0 0] 28) = v := ⟨_, rfl⟩
          have hz2 : z14.alloc (.cells #[.slice none 0 0, .slice none 0 0, .slice none 0 0, .slice none 0 0] 28) = z18 := hz
          rw [hz] at ⊢
          rw [hz2] at hst hlt F1 F0 F7
          have sz_z18 := hlt
          clear hz hz2 hs hlt
          have hCl := Cls.of hst
          refine hK.out (Cls w11) (fun _ h => h) hCl ?_
          clear hK K'
          refine wpAnyH_each (fuel := 7) [2] (by kernel_rfl) (by simp) (by kernel_rfl) ?_
          refine Each.cons _ rfl (fun K' hK => ?_) Each.nil
          go_simp
          refine (HC.out.1 _ _ _ _ _ _ F0.v F1.v).mono ?_
          rintro e z19 ⟨b2, u2, x2, y2, rfl, hm⟩
          have hs := hm.below
          obtain ⟨ab_t, cb_t, rfl, -, -, -, -⟩ := hm.store.v.1.1
          obtain ⟨au_t, cu_t, rfl, -, -, -, -⟩ := hm.store.v.1.2
          obtain ⟨ax_t, cx_t, rfl, -, -⟩ := hm.store.v.2.1.form rfl
          obtain ⟨ay_t, cy_t, rfl, -, -⟩ := hm.store.v.2.2.form rfl
          replace F1 := F1.step hs
          replace F0 := F0.step hs
          replace F7 := F7.step hs
          have F2 := LP.of hm
          have sz_z19 : z18.heap.size ≤ z19.heap.size := hs.size
          have hst := below_step hCl.below hCl.below.size hs
          clear hs
          have hCl := Cls.of hst
          refine hK.out (Cls w11) (fun _ h => h) hCl ?_
          clear hK K'
          refine wpAnyH_seg (fuel := 3) (by kernel_rfl) (fun _ d _ _ _ h => by cases d <;> exact h) hCl [3, 4, 5, 6] _ _ _ (by kernel_rfl) (by kernel_rfl) ?_
          simp only [opsOf_cons, opsOf_nil, consOp_some, List.getElem?_toArray, List.getElem?_cons_succ, List.getElem?_cons_zero]
          repeat (first | go_big_quiet_step (fail) | quiet_step (fail))
          refine wpQuiet_nil ?_
          refine wpAnyH_each (fuel := 2) [8] (by kernel_rfl) (by simp) (by kernel_rfl) ?_
          refine Each.cons _ rfl (fun K' hK => ?_) Each.nil
          have hcb := LK.blk F7
          have r0 := LK.cell F7 0
          have r1 := LK.cell F7 1
          have r2 := LK.cell F7 2
          have r3 := LK.cell F7 3
          simp at r0 r1 r2 r3
          have s0 := LK.frozen F7 0
          have s1 := LK.frozen F7 1
          have s2 := LK.frozen F7 2
          have s3 := LK.frozen F7 3
          go_simp
          have F8 : LK (z14.heap.size) (.cells #[.slice ab_t T.disk.blocks.length cb_t, .slice au_t T.disk.waits.length cu_t, .slice ax_t T.now.length cx_t, .slice ay_t T.last.length cy_t] 28) ((((z19.setCell ⟨z14.heap.size, 0, none⟩ (.slice ab_t T.disk.blocks.length cb_t)).setCell ⟨z14.heap.size, 1, none⟩ (.slice au_t T.disk.waits.length cu_t)).setCell ⟨z14.heap.size, 2, none⟩ (.slice ax_t T.now.length cx_t)).setCell ⟨z14.heap.size, 3, none⟩ (.slice ay_t T.last.length cy_t)) := LK.of (set_block (set_block (set_block (set_block hcb 0 _) 1 _) 2 _) 3 _)
          have hst := Below.trans hCl.below (below_four z19 (.slice ab_t T.disk.blocks.length cb_t) (.slice au_t T.disk.waits.length cu_t) (.slice ax_t T.now.length cx_t) (.slice ay_t T.last.length cy_t) lo_F7)
          have hfr : ∀ x, x < z19.heap.size → (x < z14.heap.size ∨ z14.heap.size + 1 ≤ x) → ((((z19.setCell ⟨z14.heap.size, 0, none⟩ (.slice ab_t T.disk.blocks.length cb_t)).setCell ⟨z14.heap.size, 1, none⟩ (.slice au_t T.disk.waits.length cu_t)).setCell ⟨z14.heap.size, 2, none⟩ (.slice ax_t T.now.length cx_t)).setCell ⟨z14.heap.size, 3, none⟩ (.slice ay_t T.last.length cy_t)).heap[x]? = z19.heap[x]? := fun x _ h => (set_other _ _ _ _ _ (by omega)).trans ((set_other _ _ _ _ _ (by omega)).trans ((set_other _ _ _ _ _ (by omega)).trans (set_other _ _ _ _ _ (by omega))))
          have F9 := F2.o.out (V' := ((((z19.setCell ⟨z14.heap.size, 0, none⟩ (.slice ab_t T.disk.blocks.length cb_t)).setCell ⟨z14.heap.size, 1, none⟩ (.slice au_t T.disk.waits.length cu_t)).setCell ⟨z14.heap.size, 2, none⟩ (.slice ax_t T.now.length cx_t)).setCell ⟨z14.heap.size, 3, none⟩ (.slice ay_t T.last.length cy_t))) (by simp only [World.size_setCell]; omega) hfr (by omega)
          have hCl := Cls.of hst
          refine hK.out (Cls w11) (fun _ h => h) hCl ?_
          clear hK K'
          refine wpAnyH_seg (fuel := 0) (by kernel_rfl) (fun _ d _ _ _ h => by cases d <;> exact h) hCl [9, 10] _ _ _ (by kernel_rfl) (by kernel_rfl) ?_
          simp only [opsOf_cons, opsOf_nil, consOp_some, List.getElem?_toArray, List.getElem?_cons_succ, List.getElem?_cons_zero]
          repeat (first | go_big_quiet_step (fail) | quiet_step (fail))
          refine wpQuiet_nil ?_
          refine wpAnyH_done (by kernel_rfl) ?_ _
          go_wp2
          go_meet
          exact ⟨_, _, _, _, _, _, _, rfl, rfl, rfl, F8, F9, hst⟩
        exact Each.nil
      refine Each.cons _ rfl (fun K' hK => ?_) ?_
      · go_simp
        have hs := cls_alloc hCl (.cells #[.slice none 0 0, .slice none 0 0, .slice none 0 0, .slice none 0 0] 28)
        have F7 : LK z13.heap.size (.cells #[.slice none 0 0, .slice none 0 0, .slice none 0 0, .slice none 0 0] 28) _ := cls_new hCl (.cells #[.slice none 0 0, .slice none 0 0, .slice none 0 0, .slice none 0 0] 28)
        have hlt : z13.heap.size < (z13.alloc (.cells #[.slice none 0 0, .slice none 0 0, .slice none 0 0, .slice none 0 0] 28)).heap.size := by simp
        replace F1 := F1.step hs
        have hst := below_step hCl.below hCl.below.size hs
        have lo_F7 := hCl.below.size
        obtain ⟨z21, hz⟩ : ∃ v, z13.alloc (.cells #[.slice none 0 0, .slice none 0 0, .slice none 0 0, .slice none 0 0] 28) = v := ⟨_, rfl⟩
        have hz2 : z13.alloc (.cells #[.slice none 0 0, .slice none 0 0, .slice none 0 0, .slice none 0 0] 28) = z21 := hz
        rw [hz] at ⊢
        rw [hz2] at hst hlt F1 F7
        have sz_z21 := hlt
        clear hz hz2 hs hlt
        have hCl := Cls.of hst
        refine hK.out (Cls w11) (fun _ h => h) hCl ?_
        clear hK K'
        refine wpAnyH_each (fuel := 8) [0] (by kernel_rfl) (by simp) (by kernel_rfl) ?_
        refine Each.cons _ rfl (fun K' hK => ?_) Each.nil
        go_simp
        refine (HC.out.2.1 _).mono ?_
        rintro e z22 ⟨b0, u0, x0, y0, rfl, hm⟩
        have hs := hm.below
        replace F1 := F1.step hs
        replace F7 := F7.step hs
        have F0 := (LP.of hm).o
        have sz_z22 : z21.heap.size ≤ z22.heap.size := hs.size
        have hst := below_step hCl.below hCl.below.size hs
        clear hs
        have hCl := Cls.of hst
        refine hK.out (Cls w11) (fun _ h => h) hCl ?_
        clear hK K'
        refine wpAnyH_each (fuel := 7) [2] (by kernel_rfl) (by simp) (by kernel_rfl) ?_
        refine Each.cons _ rfl (fun K' hK => ?_) Each.nil
        go_simp
        refine (HC.out.1 _ _ _ _ _ _ F0.v F1.v).mono ?_
        rintro e z23 ⟨b2, u2, x2, y2, rfl, hm⟩
        have hs := hm.below
        obtain ⟨ab_t, cb_t, rfl, -, -, -, -⟩ := hm.store.v.1.1
        obtain ⟨au_t, cu_t, rfl, -, -, -, -⟩ := hm.store.v.1.2
        obtain ⟨ax_t, cx_t, rfl, -, -⟩ := hm.store.v.2.1.form rfl
        obtain ⟨ay_t, cy_t, rfl, -, -⟩ := hm.store.v.2.2.form rfl
        replace F1 := F1.step hs
        replace F7 := F7.step hs
        replace F0 := F0.step hs
        have F2 := LP.of hm
        have sz_z23 : z22.heap.size ≤ z23.heap.size := hs.size
        have hst := below_step hCl.below hCl.below.size hs
        clear hs
        have hCl := Cls.of hst
        refine hK.out (Cls w11) (fun _ h => h) hCl ?_
        clear hK K'
        refine wpAnyH_seg (fuel := 3) (by kernel_rfl) (fun _ d _ _ _ h => by cases d <;> exact h) hCl [3, 4, 5, 6] _ _ _ (by kernel_rfl) (by kernel_rfl) ?_
        simp only [opsOf_cons, opsOf_nil, consOp_some, List.getElem?_toArray, List.getElem?_cons_succ, List.getElem?_cons_zero]
        repeat (first | go_big_quiet_step (fail) | quiet_step (fail))
        refine wpQuiet_nil ?_
        refine wpAnyH_each (fuel := 2) [8] (by kernel_rfl) (by simp) (by kernel_rfl) ?_
        refine Each.cons _ rfl (fun K' hK => ?_) Each.nil
        have hcb := LK.blk F7
        have r0 := LK.cell F7 0
        have r1 := LK.cell F7 1
        have r2 := LK.cell F7 2
        have r3 := LK.cell F7 3
        simp at r0 r1 r2 r3
        have s0 := LK.frozen F7 0
        have s1 := LK.frozen F7 1
        have s2 := LK.frozen F7 2
        have s3 := LK.frozen F7 3
        go_simp
        have F8 : LK (z13.heap.size) (.cells #[.slice ab_t T.disk.blocks.length cb_t, .slice au_t T.disk.waits.length cu_t, .slice ax_t T.now.length cx_t, .slice ay_t T.last.length cy_t] 28) ((((z23.setCell ⟨z13.heap.size, 0, none⟩ (.slice ab_t T.disk.blocks.length cb_t)).setCell ⟨z13.heap.size, 1, none⟩ (.slice au_t T.disk.waits.length cu_t)).setCell ⟨z13.heap.size, 2, none⟩ (.slice ax_t T.now.length cx_t)).setCell ⟨z13.heap.size, 3, none⟩ (.slice ay_t T.last.length cy_t)) := LK.of (set_block (set_block (set_block (set_block hcb 0 _) 1 _) 2 _) 3 _)
        have hst := Below.trans hCl.below (below_four z23 (.slice ab_t T.disk.blocks.length cb_t) (.slice au_t T.disk.waits.length cu_t) (.slice ax_t T.now.length cx_t) (.slice ay_t T.last.length cy_t) lo_F7)
        have hfr : ∀ x, x < z23.heap.size → (x < z13.heap.size ∨ z13.heap.size + 1 ≤ x) → ((((z23.setCell ⟨z13.heap.size, 0, none⟩ (.slice ab_t T.disk.blocks.length cb_t)).setCell ⟨z13.heap.size, 1, none⟩ (.slice au_t T.disk.waits.length cu_t)).setCell ⟨z13.heap.size, 2, none⟩ (.slice ax_t T.now.length cx_t)).setCell ⟨z13.heap.size, 3, none⟩ (.slice ay_t T.last.length cy_t)).heap[x]? = z23.heap[x]? := fun x _ h => (set_other _ _ _ _ _ (by omega)).trans ((set_other _ _ _ _ _ (by omega)).trans ((set_other _ _ _ _ _ (by omega)).trans (set_other _ _ _ _ _ (by omega))))
        have F9 := F2.o.out (V' := ((((z23.setCell ⟨z13.heap.size, 0, none⟩ (.slice ab_t T.disk.blocks.length cb_t)).setCell ⟨z13.heap.size, 1, none⟩ (.slice au_t T.disk.waits.length cu_t)).setCell ⟨z13.heap.size, 2, none⟩ (.slice ax_t T.now.length cx_t)).setCell ⟨z13.heap.size, 3, none⟩ (.slice ay_t T.last.length cy_t))) (by simp only [World.size_setCell]; omega) hfr (by omega)
        have hCl := Cls.of hst
        refine hK.out (Cls w11) (fun _ h => h) hCl ?_
        clear hK K'
        refine wpAnyH_seg (fuel := 0) (by kernel_rfl) (fun _ d _ _ _ h => by cases d <;> exact h) hCl [9, 10] _ _ _ (by kernel_rfl) (by kernel_rfl) ?_
        simp only [opsOf_cons, opsOf_nil, consOp_some, List.getElem?_toArray, List.getElem?_cons_succ, List.getElem?_cons_zero]
        repeat (first | go_big_quiet_step (fail) | quiet_step (fail))
        refine wpQuiet_nil ?_
        refine wpAnyH_done (by kernel_rfl) ?_ _
        go_wp2
        go_meet
        exact ⟨_, _, _, _, _, _, _, rfl, rfl, rfl, F8, F9, hst⟩
      exact Each.nil
    refine Each.cons _ rfl (fun K' hK => ?_) ?_
    · go_simp
      have hs := cls_alloc hCl (.cells #[.slice none 0 0, .slice none 0 0, .slice none 0 0, .slice none 0 0] 28)
      have F7 : LK w11.heap.size (.cells #[.slice none 0 0, .slice none 0 0, .slice none 0 0, .slice none 0 0] 28) _ := cls_new hCl (.cells #[.slice none 0 0, .slice none 0 0, .slice none 0 0, .slice none 0 0] 28)
      have hlt : w11.drew.heap.size < (w11.drew.alloc (.cells #[.slice none 0 0, .slice none 0 0, .slice none 0 0, .slice none 0 0] 28)).heap.size := by simp
      have hst := below_step hCl.below hCl.below.size hs
      have lo_F7 := hCl.below.size
      obtain ⟨z25, hz⟩ : ∃ v, (w11.alloc (.cells #[.slice none 0 0, .slice none 0 0, .slice none 0 0, .slice none 0 0] 28)).drew = v := ⟨_, rfl⟩
      have hz2 : w11.drew.alloc (.cells #[.slice none 0 0, .slice none 0 0, .slice none 0 0, .slice none 0 0] 28) = z25 := hz
      rw [hz] at ⊢
      rw [hz2] at hst hlt F7
      have sz_z25 := hlt
      clear hz hz2 hs hlt
      have hCl := Cls.of hst
      refine hK.out (Cls w11) (fun _ h => h) hCl ?_
      clear hK K'
      refine wpAnyH_each (fuel := 9) [0, 1] (by kernel_rfl) (by simp) (by kernel_rfl) ?_
      refine Each.cons _ rfl (fun K' hK => ?_) ?_
      · go_simp
        refine (HC.out.2.1 _).mono ?_
        rintro e z26 ⟨b0, u0, x0, y0, rfl, hm⟩
        have hs := hm.below
        replace F7 := F7.step hs
        have F0 := (LP.of hm).o
        have sz_z26 : z25.heap.size ≤ z26.heap.size := hs.size
        have hst := below_step hCl.below hCl.below.size hs
        clear hs
        have hCl := Cls.of hst
        refine hK.out (Cls w11) (fun _ h => h) hCl ?_
        clear hK K'
        refine wpAnyH_each (fuel := 8) [1] (by kernel_rfl) (by simp) (by kernel_rfl) ?_
        refine Each.cons _ rfl (fun K' hK => ?_) Each.nil
        go_simp
        have hs := cls_alloc hCl (.cells MC 5)
        have F1 := cls_at hCl HZN.out
        have hlt : z26.heap.size < (z26.alloc (.cells MC 5)).heap.size := by simp
        replace F7 := F7.step hs
        replace F0 := F0.step hs
        have hst := below_step hCl.below hCl.below.size hs
        have lo_F1 := hCl.below.size
        obtain ⟨z27, hz⟩ : ∃ v, z26.alloc (.cells MC 5) = v := ⟨_, rfl⟩
        have hz2 : z26.alloc (.cells MC 5) = z27 := hz
        rw [hz] at ⊢
        rw [hz2] at hst hlt F7 F0 F1
        have sz_z27 := hlt
        clear hz hz2 hs hlt
        have hCl := Cls.of hst
        refine hK.out (Cls w11) (fun _ h => h) hCl ?_
        clear hK K'
        refine wpAnyH_each (fuel := 7) [2] (by kernel_rfl) (by simp) (by kernel_rfl) ?_
        refine Each.cons _ rfl (fun K' hK => ?_) Each.nil
        go_simp
        refine (HC.out.1 _ _ _ _ _ _ F0.v F1.v).mono ?_
        rintro e z28 ⟨b2, u2, x2, y2, rfl, hm⟩
        have hs := hm.below
        obtain ⟨ab_t, cb_t, rfl, -, -, -, -⟩ := hm.store.v.1.1
        obtain ⟨au_t, cu_t, rfl, -, -, -, -⟩ := hm.store.v.1.2
        obtain ⟨ax_t, cx_t, rfl, -, -⟩ := hm.store.v.2.1.form rfl
        obtain ⟨ay_t, cy_t, rfl, -, -⟩ := hm.store.v.2.2.form rfl
        replace F7 := F7.step hs
        replace F0 := F0.step hs
        replace F1 := F1.step hs
        have F2 := LP.of hm
        have sz_z28 : z27.heap.size ≤ z28.heap.size := hs.size
        have hst := below_step hCl.below hCl.below.size hs
        clear hs
        have hCl := Cls.of hst
        refine hK.out (Cls w11) (fun _ h => h) hCl ?_
        clear hK K'
        refine wpAnyH_seg (fuel := 3) (by kernel_rfl) (fun _ d _ _ _ h => by cases d <;> exact h) hCl [3, 4, 5, 6] _ _ _ (by kernel_rfl) (by kernel_rfl) ?_
        simp only [opsOf_cons, opsOf_nil, consOp_some, List.getElem?_toArray, List.getElem?_cons_succ, List.getElem?_cons_zero]
        repeat (first | go_big_quiet_step (fail) | quiet_step (fail))
        refine wpQuiet_nil ?_
        refine wpAnyH_each (fuel := 2) [8] (by kernel_rfl) (by simp) (by kernel_rfl) ?_
        refine Each.cons _ rfl (fun K' hK => ?_) Each.nil
        have hcb := LK.blk F7
        have r0 := LK.cell F7 0
        have r1 := LK.cell F7 1
        have r2 := LK.cell F7 2
        have r3 := LK.cell F7 3
        simp at r0 r1 r2 r3
        have s0 := LK.frozen F7 0
        have s1 := LK.frozen F7 1
        have s2 := LK.frozen F7 2
        have s3 := LK.frozen F7 3
        go_simp
        have F8 : LK (w11.heap.size) (.cells #[.slice ab_t T.disk.blocks.length cb_t, .slice au_t T.disk.waits.length cu_t, .slice ax_t T.now.length cx_t, .slice ay_t T.last.length cy_t] 28) ((((z28.setCell ⟨w11.heap.size, 0, none⟩ (.slice ab_t T.disk.blocks.length cb_t)).setCell ⟨w11.heap.size, 1, none⟩ (.slice au_t T.disk.waits.length cu_t)).setCell ⟨w11.heap.size, 2, none⟩ (.slice ax_t T.now.length cx_t)).setCell ⟨w11.heap.size, 3, none⟩ (.slice ay_t T.last.length cy_t)) := LK.of (set_block (set_block (set_block (set_block hcb 0 _) 1 _) 2 _) 3 _)
        have hst := Below.trans hCl.below (below_four z28 (.slice ab_t T.disk.blocks.length cb_t) (.slice au_t T.disk.waits.length cu_t) (.slice ax_t T.now.length cx_t) (.slice ay_t T.last.length cy_t) lo_F7)
        have hfr : ∀ x, x < z28.heap.size → (x < w11.heap.size ∨ w11.heap.size + 1 ≤ x) → ((((z28.setCell ⟨w11.heap.size, 0, none⟩ (.slice ab_t T.disk.blocks.length cb_t)).setCell ⟨w11.heap.size, 1, none⟩ (.slice au_t T.disk.waits.length cu_t)).setCell ⟨w11.heap.size, 2, none⟩ (.slice ax_t T.now.length cx_t)).setCell ⟨w11.heap.size, 3, none⟩ (.slice ay_t T.last.length cy_t)).heap[x]? = z28.heap[x]? := fun x _ h => (set_other _ _ _ _ _ (by omega)).trans ((set_other _ _ _ _ _ (by omega)).trans ((set_other _ _ _ _ _ (by omega)).trans (set_other _ _ _ _ _ (by omega))))
        have F9 := F2.o.out (V' := ((((z28.setCell ⟨w11.heap.size, 0, none⟩ (.slice ab_t T.disk.blocks.length cb_t)).setCell ⟨w11.heap.size, 1, none⟩ (.slice au_t T.disk.waits.length cu_t)).setCell ⟨w11.heap.size, 2, none⟩ (.slice ax_t T.now.length cx_t)).setCell ⟨w11.heap.size, 3, none⟩ (.slice ay_t T.last.length cy_t))) (by simp only [World.size_setCell]; omega) hfr (by omega)
        have hCl := Cls.of hst
        refine hK.out (Cls w11) (fun _ h => h) hCl ?_
        clear hK K'
        refine wpAnyH_seg (fuel := 0) (by kernel_rfl) (fun _ d _ _ _ h => by cases d <;> exact h) hCl [9, 10] _ _ _ (by kernel_rfl) (by kernel_rfl) ?_
        simp only [opsOf_cons, opsOf_nil, consOp_some, List.getElem?_toArray, List.getElem?_cons_succ, List.getElem?_cons_zero]
        repeat (first | go_big_quiet_step (fail) | quiet_step (fail))
        refine wpQuiet_nil ?_
        refine wpAnyH_done (by kernel_rfl) ?_ _
        go_wp2
        go_meet
        exact ⟨_, _, _, _, _, _, _, rfl, rfl, rfl, F8, F9, hst⟩
      refine Each.cons _ rfl (fun K' hK => ?_) ?_
      · go_simp
        have hs := cls_alloc hCl (.cells MC 5)
        have F1 := cls_at hCl HZN.out
        have hlt : z25.heap.size < (z25.alloc (.cells MC 5)).heap.size := by simp
        replace F7 := F7.step hs
        have hst := below_step hCl.below hCl.below.size hs
        have lo_F1 := hCl.below.size
        obtain ⟨z30, hz⟩ : ∃ v, z25.alloc (.cells MC 5) = v := ⟨_, rfl⟩
        have hz2 : z25.alloc (.cells MC 5) = z30 := hz
        rw [hz] at ⊢
        rw [hz2] at hst hlt F7 F1
        have sz_z30 := hlt
        clear hz hz2 hs hlt
        have hCl := Cls.of hst
        refine hK.out (Cls w11) (fun _ h => h) hCl ?_
        clear hK K'
        refine wpAnyH_each (fuel := 8) [0] (by kernel_rfl) (by simp) (by kernel_rfl) ?_
        refine Each.cons _ rfl (fun K' hK => ?_) Each.nil
        go_simp
        refine (HC.out.2.1 _).mono ?_
        rintro e z31 ⟨b0, u0, x0, y0, rfl, hm⟩
        have hs := hm.below
        replace F7 := F7.step hs
        replace F1 := F1.step hs
        have F0 := (LP.of hm).o
        have sz_z31 : z30.heap.size ≤ z31.heap.size := hs.size
        have hst := below_step hCl.below hCl.below.size hs
        clear hs
        have hCl := Cls.of hst
        refine hK.out (Cls w11) (fun _ h => h) hCl ?_
        clear hK K'
        refine wpAnyH_each (fuel := 7) [2] (by kernel_rfl) (by simp) (by kernel_rfl) ?_
        refine Each.cons _ rfl (fun K' hK => ?_) Each.nil
        go_simp
        refine (HC.out.1 _ _ _ _ _ _ F0.v F1.v).mono ?_
        rintro e z32 ⟨b2, u2, x2, y2, rfl, hm⟩
        have hs := hm.below
        obtain ⟨ab_t, cb_t, rfl, -, -, -, -⟩ := hm.store.v.1.1
        obtain ⟨au_t, cu_t, rfl, -, -, -, -⟩ := hm.store.v.1.2
        obtain ⟨ax_t, cx_t, rfl, -, -⟩ := hm.store.v.2.1.form rfl
        obtain ⟨ay_t, cy_t, rfl, -, -⟩ := hm.store.v.2.2.form rfl
        replace F7 := F7.step hs
        replace F1 := F1.step hs
        replace F0 := F0.step hs
        have F2 := LP.of hm
        have sz_z32 : z31.heap.size ≤ z32.heap.size := hs.size
        have hst := below_step hCl.below hCl.below.size hs
        clear hs
        have hCl := Cls.of hst
        refine hK.out (Cls w11) (fun _ h => h) hCl ?_
        clear hK K'
        refine wpAnyH_seg (fuel := 3) (by kernel_rfl) (fun _ d _ _ _ h => by cases d <;> exact h) hCl [3, 4, 5, 6] _ _ _ (by kernel_rfl) (by kernel_rfl) ?_
        simp only [opsOf_cons, opsOf_nil, consOp_some, List.getElem?_toArray, List.getElem?_cons_succ, List.getElem?_cons_zero]
        repeat (first | go_big_quiet_step (fail) | quiet_step (fail))
        refine wpQuiet_nil ?_
        refine wpAnyH_each (fuel := 2) [8] (by kernel_rfl) (by simp) (by kernel_rfl) ?_
        refine Each.cons _ rfl (fun K' hK => ?_) Each.nil
        have hcb := LK.blk F7
        have r0 := LK.cell F7 0
        have r1 := LK.cell F7 1
        have r2 := LK.cell F7 2
        have r3 := LK.cell F7 3
        simp at r0 r1 r2 r3
        have s0 := LK.frozen F7 0
        have s1 := LK.frozen F7 1
        have s2 := LK.frozen F7 2
        have s3 := LK.frozen F7 3
        go_simp
        have F8 : LK (w11.heap.size) (.cells #[.slice ab_t T.disk.blocks.length cb_t, .slice au_t T.disk.waits.length cu_t, .slice ax_t T.now.length cx_t, .slice ay_t T.last.length cy_t] 28) ((((z32.setCell ⟨w11.heap.size, 0, none⟩ (.slice ab_t T.disk.blocks.length cb_t)).setCell ⟨w11.heap.size, 1, none⟩ (.slice au_t T.disk.waits.length cu_t)).setCell ⟨w11.heap.size, 2, none⟩ (.slice ax_t T.now.length cx_t)).setCell ⟨w11.heap.size, 3, none⟩ (.slice ay_t T.last.length cy_t)) := LK.of (set_block (set_block (set_block (set_block hcb 0 _) 1 _) 2 _) 3 _)
        have hst := Below.trans hCl.below (below_four z32 (.slice ab_t T.disk.blocks.length cb_t) (.slice au_t T.disk.waits.length cu_t) (.slice ax_t T.now.length cx_t) (.slice ay_t T.last.length cy_t) lo_F7)
        have hfr : ∀ x, x < z32.heap.size → (x < w11.heap.size ∨ w11.heap.size + 1 ≤ x) → ((((z32.setCell ⟨w11.heap.size, 0, none⟩ (.slice ab_t T.disk.blocks.length cb_t)).setCell ⟨w11.heap.size, 1, none⟩ (.slice au_t T.disk.waits.length cu_t)).setCell ⟨w11.heap.size, 2, none⟩ (.slice ax_t T.now.length cx_t)).setCell ⟨w11.heap.size, 3, none⟩ (.slice ay_t T.last.length cy_t)).heap[x]? = z32.heap[x]? := fun x _ h => (set_other _ _ _ _ _ (by omega)).trans ((set_other _ _ _ _ _ (by omega)).trans ((set_other _ _ _ _ _ (by omega)).trans (set_other _ _ _ _ _ (by omega))))
        have F9 := F2.o.out (V' := ((((z32.setCell ⟨w11.heap.size, 0, none⟩ (.slice ab_t T.disk.blocks.length cb_t)).setCell ⟨w11.heap.size, 1, none⟩ (.slice au_t T.disk.waits.length cu_t)).setCell ⟨w11.heap.size, 2, none⟩ (.slice ax_t T.now.length cx_t)).setCell ⟨w11.heap.size, 3, none⟩ (.slice ay_t T.last.length cy_t))) (by simp only [World.size_setCell]; omega) hfr (by omega)
        have hCl := Cls.of hst
        refine hK.out (Cls w11) (fun _ h => h) hCl ?_
        clear hK K'
        refine wpAnyH_seg (fuel := 0) (by kernel_rfl) (fun _ d _ _ _ h => by cases d <;> exact h) hCl [9, 10] _ _ _ (by kernel_rfl) (by kernel_rfl) ?_
        simp only [opsOf_cons, opsOf_nil, consOp_some, List.getElem?_toArray, List.getElem?_cons_succ, List.getElem?_cons_zero]
        repeat (first | go_big_quiet_step (fail) | quiet_step (fail))
        refine wpQuiet_nil ?_
        refine wpAnyH_done (by kernel_rfl) ?_ _
        go_wp2
        go_meet
        exact ⟨_, _, _, _, _, _, _, rfl, rfl, rfl, F8, F9, hst⟩
      exact Each.nil
    exact Each.nil
  case rest =>
  obtain ⟨gT, lo, hi, bT, uT, xT, yT, rfl, rfl, rfl, q_T, O_T, hst⟩ := hcut
  obtain ⟨q_v0, q_v2, P_v3, q_v3, hB⟩ := HQ.out
  clear HQ
  replace q_v0 := q_v0.step hst
  replace q_v2 := q_v2.step hst
  replace P_v3 := P_v3.step hst
  replace q_v3 := q_v3.step hst
  replace hB := hB.step hst
  obtain ⟨wc, hwc⟩ := named_w hst
  subst hwc
  clear hst
  have HQ := Lib.hid (And.intro q_v0 (And.intro q_v2 (And.intro P_v3 (And.intro q_v3 (And.intro q_T (And.intro O_T hB))))))
  clear q_v0 q_v2 P_v3 q_v3 q_T O_T hB
  have c_q_T0 := LK.cell HQ.out.2.2.2.2.1 0
  have c_q_T1 := LK.cell HQ.out.2.2.2.2.1 1
  have c_q_T2 := LK.cell HQ.out.2.2.2.2.1 2
  have c_q_T3 := LK.cell HQ.out.2.2.2.2.1 3
  simp at c_q_T0 c_q_T1 c_q_T2 c_q_T3
  go_wp2_with fail
  refine (HC.out.2.2.2.2.2 _ _ _ _ _ HQ.out.2.2.2.2.2.1.v).mono ?_
  rintro e w12 ⟨b3, u3, x3, y3, rfl, hm⟩
  clear c_q_T0 c_q_T1 c_q_T2 c_q_T3
  obtain ⟨q_v0, q_v2, P_v3, q_v3, q_T, O_T, hB⟩ := HQ.out
  clear HQ
  have P_v4 := LP.of hm
  have hst := hm.below
  obtain ⟨ab_v4, cb_v4, rfl, -, -, -, -⟩ := hm.store.v.1.1
  obtain ⟨au_v4, cu_v4, rfl, -, -, -, -⟩ := hm.store.v.1.2
  obtain ⟨ax_v4, cx_v4, rfl, -, -⟩ := hm.store.v.2.1.form rfl
  obtain ⟨ay_v4, cy_v4, rfl, -, -⟩ := hm.store.v.2.2.form rfl
  clear hm
  have sz_w12 : wc.heap.size ≤ w12.heap.size := hst.size
  replace q_v0 := q_v0.step hst
  replace q_v2 := q_v2.step hst
  replace P_v3 := P_v3.step hst
  replace q_v3 := q_v3.step hst
  replace q_T := q_T.step hst
  replace O_T := O_T.step hst
  replace hB := hB.step hst
  clear hst
  have HQ := Lib.hid (And.intro q_v0 (And.intro q_v2 (And.intro P_v3 (And.intro q_v3 (And.intro q_T (And.intro O_T (And.intro P_v4 hB)))))))
  clear q_v0 q_v2 P_v3 q_v3 q_T O_T P_v4 hB
  have c_q_T0 := LK.cell HQ.out.2.2.2.2.1 0
  have c_q_T1 := LK.cell HQ.out.2.2.2.2.1 1
  have c_q_T2 := LK.cell HQ.out.2.2.2.2.1 2
  have c_q_T3 := LK.cell HQ.out.2.2.2.2.1 3
  simp at c_q_T0 c_q_T1 c_q_T2 c_q_T3
  go_upto_region 8 with (fail)
  clear c_q_T0 c_q_T1 c_q_T2 c_q_T3
  obtain ⟨q_v0, q_v2, P_v3, q_v3, q_T, O_T, P_v4, hB⟩ := HQ.out
  clear HQ
  have hst := (Below.refl w12.heap.size w12).alloc (Nat.le_refl _) (.cells #[.slice ab_v4 noS.disk.blocks.length cb_v4, .slice au_v4 noS.disk.waits.length cu_v4, .slice ax_v4 noS.now.length cx_v4, .slice ay_v4 noS.last.length cy_v4] 28)
  have hlt : w12.heap.size < (w12.alloc (.cells #[.slice ab_v4 noS.disk.blocks.length cb_v4, .slice au_v4 noS.disk.waits.length cu_v4, .slice ax_v4 noS.now.length cx_v4, .slice ay_v4 noS.last.length cy_v4] 28)).heap.size := by simp
  have q_v4 := LK.new w12 (.cells #[.slice ab_v4 noS.disk.blocks.length cb_v4, .slice au_v4 noS.disk.waits.length cu_v4, .slice ax_v4 noS.now.length cx_v4, .slice ay_v4 noS.last.length cy_v4] 28)
  replace q_v0 := q_v0.step hst
  replace q_v2 := q_v2.step hst
  replace P_v3 := P_v3.step hst
  replace q_v3 := q_v3.step hst
  replace q_T := q_T.step hst
  replace O_T := O_T.step hst
  replace P_v4 := P_v4.step hst
  replace hB := hB.step hst
  obtain ⟨w13, hw⟩ : ∃ v, w12.alloc (.cells #[.slice ab_v4 noS.disk.blocks.length cb_v4, .slice au_v4 noS.disk.waits.length cu_v4, .slice ax_v4 noS.now.length cx_v4, .slice ay_v4 noS.last.length cy_v4] 28) = v := ⟨_, rfl⟩
  rw [hw] at hlt q_v4 q_v0 q_v2 P_v3 q_v3 q_T O_T P_v4 hB ⊢
  clear hw hst
  have sz_w13 := hlt
  clear hlt
  have HQ := Lib.hid (And.intro q_v0 (And.intro q_v2 (And.intro P_v3 (And.intro q_v3 (And.intro q_T (And.intro O_T (And.intro P_v4 (And.intro q_v4 hB))))))))
  clear q_v0 q_v2 P_v3 q_v3 q_T O_T P_v4 q_v4 hB
  have c_q_T0 := LK.cell HQ.out.2.2.2.2.1 0
  have c_q_T1 := LK.cell HQ.out.2.2.2.2.1 1
  have c_q_T2 := LK.cell HQ.out.2.2.2.2.1 2
  have c_q_T3 := LK.cell HQ.out.2.2.2.2.1 3
  simp at c_q_T0 c_q_T1 c_q_T2 c_q_T3
  go_wp2
  go_ret
  exact ⟨rfl, HQ.out.2.2.2.2.2.2.2.2⟩

end Go.Proofs.Ytbddbadmfhplmaa

