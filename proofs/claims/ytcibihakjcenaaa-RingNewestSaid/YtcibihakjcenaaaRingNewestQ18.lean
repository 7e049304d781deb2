/- RingNewest: the words and contracts, part 18. -/
import Derived.Test.YtcibihakjcenaaaRingNewestQ1
import Derived.Test.YtcibihakjcenaaaRingNewestQ2
import Derived.Test.YtcibihakjcenaaaRingNewestQ3
import Derived.Test.YtcibihakjcenaaaRingNewestQ4
import Derived.Test.YtcibihakjcenaaaRingNewestQ5
import Derived.Test.YtcibihakjcenaaaRingNewestQ6
import Derived.Test.YtcibihakjcenaaaRingNewestQ7
import Derived.Test.YtcibihakjcenaaaRingNewestQ8
import Derived.Test.YtcibihakjcenaaaRingNewestQ9
import Derived.Test.YtcibihakjcenaaaRingNewestQ10
import Derived.Test.YtcibihakjcenaaaRingNewestQ11
import Derived.Test.YtcibihakjcenaaaRingNewestQ12
import Derived.Test.YtcibihakjcenaaaRingNewestQ13
import Derived.Test.YtcibihakjcenaaaRingNewestQ14
import Derived.Test.YtcibihakjcenaaaRingNewestQ15
import Derived.Test.YtcibihakjcenaaaRingNewestQ16
import Derived.Test.YtcibihakjcenaaaRingNewestQ17
import Derived.WalkKit
import Derived.WalkLawsBesides
import Derived.WalkSpells
import Derived.Lib.Hide
import Derived.Laws.Rows
import Derived.Laws.AppendOwnNone
import Derived.Maps.AppendAt
import Derived.ProofKit
import Derived.Deep.Slices
import Derived.WideShapes
import Derived.RangeFuncNested
import Derived.RangeFuncBound
import Derived.RangeFuncCalls
import Derived.RangeFuncLeaves
import Derived.RangeFuncBox
import Derived.Shelf.Abstract
import Derived.Shelf.RegionOpen
import Derived.OwnWalkIn
import Derived.TacticsInMore
import Derived.LoopNIn
import Derived.LoopIn
import Derived.Lib.AppendZerosOnto
import Derived.Lib.SliceRun
import Derived.Lib.Walk
import Derived.Deep.LoopGhost
import Derived.Laws.CopyOwn
import Derived.Laws.CopyRow
import Derived.OrdersHeld
import Derived.Deep.QuietTactic
import Derived.BigQuiet
import Derived.StillTailTactics
import Derived.OpenShut
import Derived.Deep.DeepCutAuto
import Derived.Deep.RegionHeld
import Derived.Laws.MakeOwn
import Derived.KernelRfl
import Derived.BigFrameIn
import Derived.ShutString
import Derived.ChangeOld
import Derived.Below
import Derived.Shelf.SlSortCmp.SmallK
import Derived.Shelf.Small.Bits
namespace Go.Proofs.Ytcibihakjcenaaa
open Go.RowKit

set_option linter.unusedSimpArgs false
def othU (g : UInt32) (l : List SupL) : List SupL := l.filter fun x => decide (slotU x.gen ≠ slotU g)
theorem oth_snoc (g : UInt32) (l : List SupL) (x : SupL) : othU g (l ++ [x]) = if slotU x.gen = slotU g then othU g l else othU g l ++ [x] := by
  unfold othU
  rw [List.filter_append]
  by_cases h : slotU x.gen = slotU g <;> simp [h]
theorem newest_is {d : DiskL} {s : SupL} (h : errPut d s = 0) (hn : ∀ x ∈ fndU d, x.gen.toNat < s.gen.toNat) : fndU (putU d s) = s :: othU s.gen (fndU d) := by
  unfold fndU at *
  rw [put_mayD h, if_pos rfl] at *
  rw [put_may h, if_pos rfl]
  exact findU_put h hn
theorem fnd_len (d : DiskL) : (fndU d).length ≤ 4 := by
  unfold fndU
  split
  · rw [findU_len]; exact standU_len d 4
  · exact Nat.zero_le _
theorem errF_or {d : DiskL} {s : SupL} (h : errPut d s = 0) : errF d = 0 ∨ errF d = 40 := by
  unfold errF
  rw [put_mayD h, if_pos rfl]
  split
  · exact .inr rfl
  · exact .inl rfl
theorem row_super_old {base : Nat} {S : Nat → Bool} {wr W0 : World} {v u : Value} {kl : List SupL} {x : SupL} (h : OwnR rSuper base 25 0 S wr v kl) (hS : ∀ k, k < W0.heap.size → S k = false) (hb0 : W0.heap.size ≤ base)
    (hB : Below W0.heap.size W0 wr) (hx : SupV W0 0 W0.heap.size u x) (T2 : TypeId) :
    OwnR rSuper base 25 0 S (wr.alloc (.cells #[wV x.gen, .int .i64 x.root, wV x.next, wV x.table, u] T2)) v kl ∧ ∀ j y, [x][j]? = some y → rSuper.R (hideW (wr.alloc (.cells #[wV x.gen, .int .i64 x.root, wV x.next, wV x.table, u] T2)) (andOwn S v)) 0 (wr.alloc (.cells #[wV x.gen, .int .i64 x.root, wV x.next, wV x.table, u] T2)).heap.size y (fun i => [wV x.gen, .int .i64 x.root, wV x.next, wV x.table, u][j * rSuper.n + i]?) := by
  have hs := hB.size
  refine ⟨h.alloc rSuper_ck _, fun j y hj => ?_⟩
  cases j with
  | zero =>
    cases hj
    have hkp : Kp 0 W0.heap.size W0 (hideW (wr.alloc (.cells #[wV x.gen, .int .i64 x.root, wV x.next, wV x.table, u] T2)) (andOwn S v)) := hideW_kp fun k h1 h2 => ⟨andOwn_of (hS k h2) (fun e => by have := (h.lt k e).1; omega), (Below.heap_alloc wr _ k (by omega)).trans (hB.block k h2)⟩
    exact ⟨rfl, rfl, hx.1, rfl, rfl, u, rfl, (hx.2.keep hkp).more (Nat.le_refl _) (by simp; omega)⟩
  | succ j => simp at hj

set_option maxRecDepth 100000 in
set_option maxHeartbeats 4000000 in
theorem ringNewest_walk (d : DiskL) (b_d u_d : Value) (s : SupL) (u_s : Value) (w : World) (h_d : DiskV w 0 w.heap.size b_d u_d d) (h_s : SupV w 0 w.heap.size u_s s) :
    Calls Try.prog 12 #[.agg #[b_d, u_d], .agg #[wV s.gen, .int .i64 s.root, wV s.next, wV s.table, u_s]] w fun e w' => e = .returned (.bool true) ∧ Below w.heap.size w w' := by
  obtain ⟨ab_d, cb_d, rfl, gb_d, gc_d, -, -⟩ := h_d.1
  obtain ⟨au_d, cu_d, rfl, gu_d, gv_d, -, -⟩ := h_d.2
  unfold maxLen at gc_d gv_d
  obtain ⟨s_g, s_r, s_n, s_t, s_d⟩ := s
  obtain ⟨hw_s, h_s⟩ := h_s
  dsimp only at hw_s h_s
  obtain ⟨a_s, c_s, rfl, g_s, gm_s, -, -⟩ := id h_s
  unfold maxLen at gm_s
  simp only [bV, wV]
  have hst := (((Below.refl w.heap.size w).alloc (Nat.le_refl _) (.cells #[.slice ab_d d.blocks.length cb_d, .slice au_d d.waits.length cu_d] 44)).alloc (by simp) (.cells #[.int .u32 (s_g.toNat : Int), .int .i64 s_r, .int .u32 (s_n.toNat : Int), .int .u32 (s_t.toNat : Int), .slice a_s s_d.length c_s] 25))
  have hq := two_new w (.cells #[.slice ab_d d.blocks.length cb_d, .slice au_d d.waits.length cu_d] 44) (.cells #[.int .u32 (s_g.toNat : Int), .int .i64 s_r, .int .u32 (s_n.toNat : Int), .int .u32 (s_t.toNat : Int), .slice a_s s_d.length c_s] 25)
  have q_d := LK.of hq.1
  have q_s := LK.of hq.2
  have hB : LW w _ := hst
  have D_d := (LD.of h_d (Nat.le_refl _)).step hst
  have S_s := (LS.of h_s (Nat.le_refl _)).step hst
  have sz_V : w.heap.size + 1 < ((w.alloc (.cells #[.slice ab_d d.blocks.length cb_d, .slice au_d d.waits.length cu_d] 44)).alloc (.cells #[.int .u32 (s_g.toNat : Int), .int .i64 s_r, .int .u32 (s_n.toNat : Int), .int .u32 (s_t.toNat : Int), .slice a_s s_d.length c_s] 25)).heap.size := by simp
  obtain ⟨V, hV⟩ : ∃ V, ((w.alloc (.cells #[.slice ab_d d.blocks.length cb_d, .slice au_d d.waits.length cu_d] 44)).alloc (.cells #[.int .u32 (s_g.toNat : Int), .int .i64 s_r, .int .u32 (s_n.toNat : Int), .int .u32 (s_t.toNat : Int), .slice a_s s_d.length c_s] 25)) = V := ⟨_, rfl⟩
  rw [hV] at sz_V q_d q_s D_d S_s hB
  clear hst h_d h_s hq
  have HQ := Lib.hid (And.intro q_d (And.intro q_s (And.intro D_d (And.intro S_s hB))))
  clear q_d q_s D_d S_s hB
  have c_q_d0 := LK.cell HQ.out.1 0
  have c_q_d1 := LK.cell HQ.out.1 1
  have c_q_s0 := LK.cell HQ.out.2.1 0
  have c_q_s1 := LK.cell HQ.out.2.1 1
  have c_q_s2 := LK.cell HQ.out.2.1 2
  have c_q_s3 := LK.cell HQ.out.2.1 3
  have c_q_s4 := LK.cell HQ.out.2.1 4
  simp at c_q_d0 c_q_d1 c_q_s0 c_q_s1 c_q_s2 c_q_s3 c_q_s4
  have k_g := fun V hh => great_any (.slice ab_d d.blocks.length cb_d) (.slice au_d d.waits.length cu_d) d V hh
  have k_f := fun V hh => ufind_any (.slice ab_d d.blocks.length cb_d) (.slice au_d d.waits.length cu_d) d V hh
  have k_p := fun V h1 hh => uput_any (.slice ab_d d.blocks.length cb_d) (.slice au_d d.waits.length cu_d) d (⟨s_g, s_r, s_n, s_t, s_d⟩ : SupL) (.slice a_s s_d.length c_s) V h1 (⟨hw_s, hh⟩ : SupV _ _ _ _ (⟨s_g, s_r, s_n, s_t, s_d⟩ : SupL))
  have k_fp := fun b u V hh => ufind_any b u (putU d (⟨s_g, s_r, s_n, s_t, s_d⟩ : SupL)) V hh
  have k_s := fun V v h1 hh => usame_any (⟨s_g, s_r, s_n, s_t, s_d⟩ : SupL) (⟨s_g, s_r, s_n, s_t, s_d⟩ : SupL) v (.slice a_s s_d.length c_s) V h1 (⟨hw_s, hh⟩ : SupV _ _ _ _ (⟨s_g, s_r, s_n, s_t, s_d⟩ : SupL))
  simp only [decide_true] at k_s
  have k_x := fun (x : SupL) V v u h1 h2 => usame_any x x v u V h1 h2
  simp only [decide_true] at k_x
  have k_sl := fun (g : UInt32) V => uslot_any g V
  simp only [wV] at k_p k_s k_x k_sl
  have h1 := fun (h : errPut d (⟨s_g, s_r, s_n, s_t, s_d⟩ : SupL) ≠ 0) => congrArg DiskL.blocks (put_no h)
  have h2 := fun (h : errPut d (⟨s_g, s_r, s_n, s_t, s_d⟩ : SupL) = 0) => errF_or h
  have h3 := fun (h : errPut d (⟨s_g, s_r, s_n, s_t, s_d⟩ : SupL) = 0) => put_find h
  have h4 := fun (h : errPut d (⟨s_g, s_r, s_n, s_t, s_d⟩ : SupL) = 0) hn => newest_is h hn
  have h5 := fnd_len d
  obtain ⟨P, h0⟩ : ∃ x, putU d (⟨s_g, s_r, s_n, s_t, s_d⟩ : SupL) = x := ⟨_, rfl⟩
  simp only [h0] at k_p k_fp h1 h3 h4
  clear h0
  obtain ⟨ep, h0⟩ : ∃ x, errPut d (⟨s_g, s_r, s_n, s_t, s_d⟩ : SupL) = x := ⟨_, rfl⟩
  simp only [h0] at k_p h1 h2 h3 h4
  clear h0
  obtain ⟨fl, h0⟩ : ∃ x, fndU d = x := ⟨_, rfl⟩
  simp only [h0] at k_f h4 h5
  clear h0
  obtain ⟨fp, h0⟩ : ∃ x, fndU P = x := ⟨_, rfl⟩
  simp only [h0] at k_fp h4
  clear h0
  obtain ⟨ed, h0⟩ : ∃ x, errF d = x := ⟨_, rfl⟩
  simp only [h0] at k_f h2
  clear h0
  obtain ⟨eP, h0⟩ : ∃ x, errF P = x := ⟨_, rfl⟩
  simp only [h0] at k_fp h3
  clear h0
  have HN := Lib.hid (And.intro h1 (And.intro h2 (And.intro h3 (And.intro h4 h5))))
  clear h1 h2 h3 h4 h5
  have HC := Lib.hid (And.intro k_g (And.intro k_f (And.intro k_p (And.intro k_fp (And.intro k_s (And.intro k_x k_sl))))))
  clear k_g k_f k_p k_fp k_s k_x k_sl
  go_enter Try.func12, Try.ntmps12
  go_upto_region 1 with (fail)
  clear hV
  go_wp2_with fail
  refine (alive10 V).mono ?_
  rintro e w1 ⟨rfl, hst⟩
  clear c_q_d0 c_q_d1 c_q_s0 c_q_s1 c_q_s2 c_q_s3 c_q_s4
  obtain ⟨q_d, q_s, D_d, S_s, hB⟩ := HQ.out
  clear HQ
  have sz_w1 : V.heap.size ≤ w1.heap.size := hst.size
  replace q_d := q_d.step hst
  replace q_s := q_s.step hst
  replace D_d := D_d.step hst
  replace S_s := S_s.step hst
  replace hB := hB.step hst
  clear hst
  have HQ := Lib.hid (And.intro q_d (And.intro q_s (And.intro D_d (And.intro S_s hB))))
  clear q_d q_s D_d S_s hB
  have c_q_d0 := LK.cell HQ.out.1 0
  have c_q_d1 := LK.cell HQ.out.1 1
  have c_q_s0 := LK.cell HQ.out.2.1 0
  have c_q_s1 := LK.cell HQ.out.2.1 1
  have c_q_s2 := LK.cell HQ.out.2.1 2
  have c_q_s3 := LK.cell HQ.out.2.1 3
  have c_q_s4 := LK.cell HQ.out.2.1 4
  simp at c_q_d0 c_q_d1 c_q_s0 c_q_s1 c_q_s2 c_q_s3 c_q_s4
  go_wp2_with fail
  refine (HC.out.1 _ HQ.out.2.2.1.v).mono ?_
  rintro e w2 ⟨g, rfl, hst, -⟩
  clear c_q_d0 c_q_d1 c_q_s0 c_q_s1 c_q_s2 c_q_s3 c_q_s4
  obtain ⟨q_d, q_s, D_d, S_s, hB⟩ := HQ.out
  clear HQ
  have sz_w2 : w1.heap.size ≤ w2.heap.size := hst.size
  replace q_d := q_d.step hst
  replace q_s := q_s.step hst
  replace D_d := D_d.step hst
  replace S_s := S_s.step hst
  replace hB := hB.step hst
  clear hst
  have HQ := Lib.hid (And.intro q_d (And.intro q_s (And.intro D_d (And.intro S_s hB))))
  clear q_d q_s D_d S_s hB
  have c_q_d0 := LK.cell HQ.out.1 0
  have c_q_d1 := LK.cell HQ.out.1 1
  have c_q_s0 := LK.cell HQ.out.2.1 0
  have c_q_s1 := LK.cell HQ.out.2.1 1
  have c_q_s2 := LK.cell HQ.out.2.1 2
  have c_q_s3 := LK.cell HQ.out.2.1 3
  have c_q_s4 := LK.cell HQ.out.2.1 4
  simp at c_q_d0 c_q_d1 c_q_s0 c_q_s1 c_q_s2 c_q_s3 c_q_s4
  cases g
  case true =>
    go_wp2
    go_ret
    exact ⟨rfl, HQ.out.2.2.2.2⟩
  by_cases hd : 1000 < s_d.length
  · have i3 : (1000 : Int) < s_d.length := by omega
    go_wp2
    go_ret
    exact ⟨rfl, HQ.out.2.2.2.2⟩
  have i3 : decide ((1000 : Int) < s_d.length) = false := by simp; omega
  have i4 : ¬ 1000 < s_d.length := hd
  go_wp2_with fail
  refine (HC.out.2.1 _ HQ.out.2.2.1.v).mono ?_
  rintro e w3 ⟨v_l, rfl, hm⟩
  clear c_q_d0 c_q_d1 c_q_s0 c_q_s1 c_q_s2 c_q_s3 c_q_s4
  obtain ⟨q_d, q_s, D_d, S_s, hB⟩ := HQ.out
  clear HQ
  have S_l := LS.of hm.row (Nat.le_refl _)
  have hst := hm.below
  obtain ⟨a_l, c_l, rfl, -, gm_l, -, -⟩ := id hm.row
  unfold maxLen at gm_l
  clear hm
  have sz_w3 : w2.heap.size ≤ w3.heap.size := hst.size
  replace q_d := q_d.step hst
  replace q_s := q_s.step hst
  replace D_d := D_d.step hst
  replace S_s := S_s.step hst
  replace hB := hB.step hst
  clear hst
  have HQ := Lib.hid (And.intro q_d (And.intro q_s (And.intro D_d (And.intro S_s (And.intro S_l hB)))))
  clear q_d q_s D_d S_s S_l hB
  have c_q_d0 := LK.cell HQ.out.1 0
  have c_q_d1 := LK.cell HQ.out.1 1
  have c_q_s0 := LK.cell HQ.out.2.1 0
  have c_q_s1 := LK.cell HQ.out.2.1 1
  have c_q_s2 := LK.cell HQ.out.2.1 2
  have c_q_s3 := LK.cell HQ.out.2.1 3
  have c_q_s4 := LK.cell HQ.out.2.1 4
  simp at c_q_d0 c_q_d1 c_q_s0 c_q_s1 c_q_s2 c_q_s3 c_q_s4
  clear i3 i4 hd
  go_wp2_with fail
  refine (HC.out.2.2.1 _ HQ.out.2.2.1.v HQ.out.2.2.2.1.v).mono ?_
  rintro e w4 ⟨b1, u1, rfl, hm⟩
  clear c_q_d0 c_q_d1 c_q_s0 c_q_s1 c_q_s2 c_q_s3 c_q_s4
  obtain ⟨q_d, q_s, D_d, S_s, S_l, hB⟩ := HQ.out
  clear HQ
  have D_x := LT.of hm
  have hst := hm.below
  obtain ⟨ab_x, cb_x, rfl, -, -, -, -⟩ := hm.v0.1
  obtain ⟨au_x, cu_x, rfl, -, -, -, -⟩ := hm.v0.2
  clear hm
  have sz_w4 : w3.heap.size ≤ w4.heap.size := hst.size
  replace q_d := q_d.step hst
  replace q_s := q_s.step hst
  replace D_d := D_d.step hst
  replace S_s := S_s.step hst
  replace S_l := S_l.step hst
  replace hB := hB.step hst
  clear hst
  have HQ := Lib.hid (And.intro q_d (And.intro q_s (And.intro D_d (And.intro S_s (And.intro S_l (And.intro D_x hB))))))
  clear q_d q_s D_d S_s S_l D_x hB
  have c_q_d0 := LK.cell HQ.out.1 0
  have c_q_d1 := LK.cell HQ.out.1 1
  have c_q_s0 := LK.cell HQ.out.2.1 0
  have c_q_s1 := LK.cell HQ.out.2.1 1
  have c_q_s2 := LK.cell HQ.out.2.1 2
  have c_q_s3 := LK.cell HQ.out.2.1 3
  have c_q_s4 := LK.cell HQ.out.2.1 4
  simp at c_q_d0 c_q_d1 c_q_s0 c_q_s1 c_q_s2 c_q_s3 c_q_s4
  go_upto_region 8 with (fail)
  clear c_q_d0 c_q_d1 c_q_s0 c_q_s1 c_q_s2 c_q_s3 c_q_s4
  obtain ⟨q_d, q_s, D_d, S_s, S_l, D_x, hB⟩ := HQ.out
  clear HQ
  have hst := (Below.refl w4.heap.size w4).alloc (Nat.le_refl _) (.cells #[.slice ab_x P.blocks.length cb_x, .slice au_x P.waits.length cu_x] 44)
  have hlt : w4.heap.size < (w4.alloc (.cells #[.slice ab_x P.blocks.length cb_x, .slice au_x P.waits.length cu_x] 44)).heap.size := by simp
  have q_x := LK.new w4 (.cells #[.slice ab_x P.blocks.length cb_x, .slice au_x P.waits.length cu_x] 44)
  replace q_d := q_d.step hst
  replace q_s := q_s.step hst
  replace D_d := D_d.step hst
  replace S_s := S_s.step hst
  replace S_l := S_l.step hst
  replace D_x := D_x.step hst
  replace hB := hB.step hst
  obtain ⟨w5, hw⟩ : ∃ v, w4.alloc (.cells #[.slice ab_x P.blocks.length cb_x, .slice au_x P.waits.length cu_x] 44) = v := ⟨_, rfl⟩
  rw [hw] at hlt q_x q_d q_s D_d S_s S_l D_x hB ⊢
  clear hw hst
  have sz_w5 := hlt
  clear hlt
  have HQ := Lib.hid (And.intro q_d (And.intro q_s (And.intro D_d (And.intro S_s (And.intro S_l (And.intro D_x (And.intro q_x hB)))))))
  clear q_d q_s D_d S_s S_l D_x q_x hB
  have c_q_d0 := LK.cell HQ.out.1 0
  have c_q_d1 := LK.cell HQ.out.1 1
  have c_q_s0 := LK.cell HQ.out.2.1 0
  have c_q_s1 := LK.cell HQ.out.2.1 1
  have c_q_s2 := LK.cell HQ.out.2.1 2
  have c_q_s3 := LK.cell HQ.out.2.1 3
  have c_q_s4 := LK.cell HQ.out.2.1 4
  have c_q_x0 := LK.cell HQ.out.2.2.2.2.2.2.1 0
  have c_q_x1 := LK.cell HQ.out.2.2.2.2.2.2.1 1
  simp at c_q_d0 c_q_d1 c_q_s0 c_q_s1 c_q_s2 c_q_s3 c_q_s4 c_q_x0 c_q_x1
  by_cases he : ep = 0
  case neg =>
    have i1 : (ep != 0) = true := by simp [he]
    have hb := HN.out.1 he
    have i2 : P.blocks.length = 0 := by rw [hb]; rfl
    clear hb
    go_wp2
    go_ret
    exact ⟨rfl, HQ.out.2.2.2.2.2.2.2⟩
  subst he
  have hed := HN.out.2.1 (by trivial)
  have t1 := HN.out.2.2.1 (by trivial)
  subst t1
  go_cut [47] (fun t wx => t = .bool false ∧ wx = w5)
  case first =>
    rcases hed with rfl | rfl
    · go_wp2
      go_meet
      exact ⟨rfl, rfl⟩
    · go_wp2
      go_meet
      exact ⟨rfl, rfl⟩
  case rest =>
  obtain ⟨rfl, hwx⟩ := hcut
  rw [hwx]
  clear hwx hed
  have hfl4 : fl.length ≤ 4 := HN.out.2.2.2.2
  clear c_q_d0 c_q_d1 c_q_s0 c_q_s1 c_q_s2 c_q_s3 c_q_s4 c_q_x0 c_q_x1
  have HW := Lib.hid (And.intro HQ.out.2.2.2.2.1 HQ.out.2.2.2.2.2.2.2)
  have c_q_d0 := LK.cell HQ.out.1 0
  have c_q_d1 := LK.cell HQ.out.1 1
  have c_q_s0 := LK.cell HQ.out.2.1 0
  have c_q_s1 := LK.cell HQ.out.2.1 1
  have c_q_s2 := LK.cell HQ.out.2.1 2
  have c_q_s3 := LK.cell HQ.out.2.1 3
  have c_q_s4 := LK.cell HQ.out.2.1 4
  have c_q_x0 := LK.cell HQ.out.2.2.2.2.2.2.1 0
  have c_q_x1 := LK.cell HQ.out.2.2.2.2.2.2.1 1
  simp at c_q_d0 c_q_d1 c_q_s0 c_q_s1 c_q_s2 c_q_s3 c_q_s4 c_q_x0 c_q_x1
  go_wp2_with fail
  go_loopw [10, 11] (fun t i wr => ∃ (j : Nat) (st : List SupL) (ar : Option Addr) (cr : Nat), j ≤ fl.length ∧ i = .int .i64 j ∧ t = .slice ar st.length cr ∧ othU s_g (fl.take j) = st ∧ (∀ x ∈ fl.take j, x.gen.toNat < s_g.toNat) ∧ st.length ≤ j ∧ cr ≤ 9223372036854775807 ∧ OwnR rSuper w5.heap.size 25 0 (fun _ => false) wr (.slice ar st.length cr) st ∧ Below w5.heap.size w5 wr) (fun _ i _ => fl.length - (intOf i).toNat)
  case atStart => exact ⟨0, [], none, 0, Nat.zero_le _, rfl, rfl, rfl, fun x hx => (by simp at hx), Nat.le_refl _, by decide, OwnR.nil_ _ _ _ _ _ _, Below.refl _ _⟩
  case round =>
  obtain ⟨j, st, ar, cr, hj, rfl, rfl, hst0, hall, hsn, hcr, hown, hBr⟩ := hrel
  clear c_q_d0 c_q_d1 c_q_s0 c_q_s1 c_q_s2 c_q_s3 c_q_s4 c_q_x0 c_q_x1
  obtain ⟨q_d, q_s, D_d, S_s, S_l, D_x, q_x, hB⟩ := HQ.out
  clear HQ
  replace q_d := q_d.step hBr
  replace q_s := q_s.step hBr
  replace D_d := D_d.step hBr
  replace S_s := S_s.step hBr
  replace S_l := S_l.step hBr
  replace D_x := D_x.step hBr
  replace q_x := q_x.step hBr
  replace hB := hB.step hBr
  have HQ := Lib.hid (And.intro q_d (And.intro q_s (And.intro D_d (And.intro S_s (And.intro S_l (And.intro D_x (And.intro q_x hB)))))))
  clear q_d q_s D_d S_s S_l D_x q_x hB
  have c_q_d0 := LK.cell HQ.out.1 0
  have c_q_d1 := LK.cell HQ.out.1 1
  have c_q_s0 := LK.cell HQ.out.2.1 0
  have c_q_s1 := LK.cell HQ.out.2.1 1
  have c_q_s2 := LK.cell HQ.out.2.1 2
  have c_q_s3 := LK.cell HQ.out.2.1 3
  have c_q_s4 := LK.cell HQ.out.2.1 4
  have c_q_x0 := LK.cell HQ.out.2.2.2.2.2.2.1 0
  have c_q_x1 := LK.cell HQ.out.2.2.2.2.2.2.1 1
  simp at c_q_d0 c_q_d1 c_q_s0 c_q_s1 c_q_s2 c_q_s3 c_q_s4 c_q_x0 c_q_x1
  have szr := hBr.size
  have HR := Lib.hid (And.intro hst0 (And.intro hall (And.intro hown hBr)))
  clear hst0 hall hown hBr
  by_cases hlt : j < fl.length
  · obtain ⟨bl, ol, e1⟩ := Sl.some_ HQ.out.2.2.2.2.1.v (by omega)
    subst e1
    obtain ⟨f0, f1, f2, f3, ax, cx, f4, -⟩ := Sl.superAt HQ.out.2.2.2.2.1.v j (fl.getD j noU) (get_sup _ _ hlt)
    obtain ⟨h0, h1, h2, h3, ay, cy, h4, hy⟩ := Sl.superAt HW.out.1.v j (fl.getD j noU) (get_sup _ _ hlt)
    have hay : Value.slice ay (fl.getD j noU).dead.length cy = .slice ax (fl.getD j noU).dead.length cx := by
      have q1 := ((Below.cell HR.out.2.2.2 (p := ⟨bl, ol + j * 5 + 4, none⟩) (cell_lt' h4)).trans h4).symm.trans f4
      exact Option.some.inj q1
    rw [hay] at hy
    clear h0 h1 h2 h3 h4 hay
    have ht : fl.take (j + 1) = fl.take j ++ [fl.getD j noU] := by rw [List.take_add_one, get_sup _ _ hlt]; rfl
    have hos : othU s_g (fl.take (j + 1)) = if slotU (fl.getD j noU).gen = slotU s_g then st else st ++ [fl.getD j noU] := by rw [ht, oth_snoc, HR.out.1]
    obtain ⟨X, hX⟩ : ∃ X, fl.getD j noU = X := ⟨_, rfl⟩
    rw [hX] at f0 f1 f2 f3 f4 hy ht hos
    have z1 := cell_lt' f0
    have x_0 := fun Z => ((aft_below wr Z).cell (p := ⟨bl, ol + j * 5, none⟩) z1).trans f0
    have x_1 := fun Z => ((aft_below wr Z).cell (p := ⟨bl, ol + j * 5 + 1, none⟩) z1).trans f1
    have x_2 := fun Z => ((aft_below wr Z).cell (p := ⟨bl, ol + j * 5 + 2, none⟩) z1).trans f2
    have x_3 := fun Z => ((aft_below wr Z).cell (p := ⟨bl, ol + j * 5 + 3, none⟩) z1).trans f3
    have x_4 := fun Z => ((aft_below wr Z).cell (p := ⟨bl, ol + j * 5 + 4, none⟩) z1).trans f4
    have x_s0 := fun Z => LK.cell (HQ.out.2.1.step (aft_below wr Z)) 0
    simp at x_s0
    have HX := Lib.hid (And.intro hy (And.intro ht hos))
    clear hy ht hos hX
    have i1 : (j : Int) < fl.length := by omega
    go_upto_region 14 with (fail)
    clear c_q_d0 c_q_d1 c_q_s0 c_q_s1 c_q_s2 c_q_s3 c_q_s4 c_q_x0 c_q_x1
    refine wp_region_held_drew (S := Cls wr) (by kernel_rfl) (Cls.drew wr) (fun hCl => ?_)
    refine wpAnyH_seg (fuel := 0) (by kernel_rfl) (fun _ d _ _ _ h => by cases d <;> exact h) hCl [0, 1, 2, 3, 4, 5, 6, 7] _ _ _ (by kernel_rfl) (by kernel_rfl) ?_
    simp only [opsOf_cons, opsOf_nil, consOp_some, List.getElem?_toArray, List.getElem?_cons_succ, List.getElem?_cons_zero]
    repeat (first | go_big_quiet_step (fail) | quiet_step (fail))
    refine wpQuiet_nil ?_
    refine wpAnyH_done (by kernel_rfl) ?_ _
    by_cases hge : s_g.toNat ≤ X.gen.toNat
    · have i2 : (s_g.toNat : Int) ≤ X.gen.toNat := by omega
      go_wp2
      go_ret
      exact ⟨rfl, (HQ.out.2.2.2.2.2.2.2).drew⟩
    have i2 : ¬ (s_g.toNat : Int) ≤ X.gen.toNat := by omega
    obtain ⟨zs, hzs⟩ : ∃ x, slotU s_g = x := ⟨_, rfl⟩
    obtain ⟨zx, hzx⟩ : ∃ x, slotU X.gen = x := ⟨_, rfl⟩
    have ks := HC.out.2.2.2.2.2.2 s_g
    have kx := HC.out.2.2.2.2.2.2 X.gen
    rw [hzs] at ks HX
    rw [hzx] at kx HX
    have KSL := Lib.hid (And.intro kx ks)
    clear ks kx hzs hzx
    clear hCl
    go_upto_region 16 with (fail)
    refine wp_region_held_drew (S := Cls wr) (by kernel_rfl) (Cls.of (Below.refl _ _).drew.drew) (fun hCl => ?_)
    refine wpAnyH_seg (fuel := 3) (by kernel_rfl) (fun _ d _ _ _ h => by cases d <;> exact h) hCl [0, 1, 2, 3, 4, 6, 7] _ _ _ (by kernel_rfl) (by kernel_rfl) ?_
    simp only [opsOf_cons, opsOf_nil, consOp_some, List.getElem?_toArray, List.getElem?_cons_succ, List.getElem?_cons_zero]
    repeat (first | go_big_quiet_step (fail) | quiet_step (fail))
    refine wpQuiet_nil ?_
    refine wpAnyH_each (fuel := 2) [5] (by kernel_rfl) (by simp) (by kernel_rfl) ?_
    refine Each.cons _ rfl (fun K' hK => ?_) Each.nil
    go_simp
    refine (KSL.out.1 _).mono ?_
    rintro e z1 ⟨rfl, rfl⟩
    have hst := hCl.below
    have hCl := Cls.of hst
    refine hK.out (Cls wr) (fun _ h => h) hCl ?_
    clear hK K'
    refine wpAnyH_each (fuel := 1) [8] (by kernel_rfl) (by simp) (by kernel_rfl) ?_
    refine Each.cons _ rfl (fun K' hK => ?_) Each.nil
    go_simp
    refine (KSL.out.2 _).mono ?_
    rintro e z2 ⟨rfl, rfl⟩
    have hst := hCl.below
    have hCl := Cls.of hst
    refine hK.out (Cls wr) (fun _ h => h) hCl ?_
    clear hK K'
    refine wpAnyH_seg (fuel := 0) (by kernel_rfl) (fun _ d _ _ _ h => by cases d <;> exact h) hCl [9] _ _ _ (by kernel_rfl) (by kernel_rfl) ?_
    simp only [opsOf_cons, opsOf_nil, consOp_some, List.getElem?_toArray, List.getElem?_cons_succ, List.getElem?_cons_zero]
    repeat (first | go_big_quiet_step (fail) | quiet_step (fail))
    refine wpQuiet_nil ?_
    refine wpAnyH_done (by kernel_rfl) ?_ _
    have hdr : Below wr.heap.size wr wr.drew.drew := (Below.refl wr.heap.size wr).drew.drew
    clear hst hCl x_0 x_1 x_2 x_3 x_4 x_s0
    by_cases hzz : zx = zs
    · have i4 : ((zx : Int) != zs) = false := by simp; omega
      go_wp2
      go_roundw
      case rel => exact ⟨j + 1, st, ar, cr, by omega, by go_num, rfl, by rw [HX.out.2.2, if_pos hzz], fun x hx => by rw [HX.out.2.1, List.mem_append] at hx; rcases hx with hx | hx; exact HR.out.2.1 x hx; simp at hx; rw [hx]; omega, by omega, hcr, HR.out.2.2.1.step rSuper_ck hdr, HR.out.2.2.2.trans (hdr.mono (by omega))⟩
      case measure => simp [intOf]; omega
    have i4 : ((zx : Int) != zs) = true := by simp; omega
    obtain ⟨hra, hrb⟩ := row_super_old (HR.out.2.2.1.step rSuper_ck hdr) (fun _ _ => rfl) (Nat.le_refl _) (HR.out.2.2.2.trans (hdr.mono (by omega))) HX.out.1 25
    simp only [wV] at hra hrb
    have HRR := Lib.hid (And.intro hra hrb)
    clear hra hrb
    go_wp2_with (at_builtin; refine wpList_appR rSuper_ck rfl (.tmp 80) (.tmp 85) 83 rfl 25 (.agg #[.int .u32 0, .int .i64 0, .int .u32 0, .int .u32 0, .slice none 0 0]) 48 Try.underlying83 (by kernel_rfl) rfl (by decide) w5.heap.size 0 (fun _ => false) (.slice ar st.length cr) st [X] rfl HRR.out.1 (fun _ _ => rfl) ⟨wr.heap.size, 0, none⟩ 1 [.int .u32 (X.gen.toNat : Int), .int .i64 X.root, .int .u32 (X.next.toNat : Int), .int .u32 (X.table.toNat : Int), .slice ax X.dead.length cx] rfl rfl (news_one #[.int .u32 (X.gen.toNat : Int), .int .i64 X.root, .int .u32 (X.next.toNat : Int), .int .u32 (X.table.toNat : Int), .slice ax X.dead.length cx] 25) (by intro u hu; simp at hu; rcases hu with rfl | rfl | rfl | rfl | rfl <;> rfl) HRR.out.2 (by show st.length + 1 ≤ 1000000; omega) (by decide) (by show w5.heap.size ≤ (wr.alloc _).heap.size; rw [World.size_alloc]; omega) ?_; intro a4 c4 z4 hown4 hB4 hf4; rw [show (st ++ [X]).length = st.length + 1 by simp] at hown4 ⊢; have HO := Lib.hid (And.intro hown4 hB4); clear hown4 hB4 hf4)
    go_roundw
    case rel =>
      have hls : (st ++ [X]).length = st.length + 1 := by simp
      have hc4 : c4 ≤ 9223372036854775807 := by
        obtain ⟨ad, cc, e, hc⟩ := HO.out.1.form
        injection e with _ _ e3
        rw [e3]
        exact hc
      refine ⟨j + 1, st ++ [X], a4, c4, by omega, by go_num, by rw [hls], by rw [HX.out.2.2, if_neg hzz], fun x hx => by rw [HX.out.2.1, List.mem_append] at hx; rcases hx with hx | hx; exact HR.out.2.1 x hx; simp at hx; rw [hx]; omega, by rw [hls]; omega, hc4, by rw [hls]; exact HO.out.1, ?_⟩
      exact ((HR.out.2.2.2.trans (hdr.mono (by omega))).alloc (by show w5.heap.size ≤ wr.heap.size; omega) _).trans HO.out.2
    case measure => simp [intOf]; omega
  obtain rfl : j = fl.length := by omega
  have hall := HR.out.2.1
  rw [List.take_length] at hall
  have hst0 := HR.out.1
  rw [List.take_length] at hst0
  have hfp := HN.out.2.2.2.1 (by trivial) hall
  rw [hst0] at hfp
  subst hfp
  have hsl := HR.out.2.2.1.sl rSuper_ck (lo' := 0) (Nat.zero_le _) (Nat.le_refl _)
  clear hall hst0 hlt hj
  clear c_q_d0 c_q_d1 c_q_s0 c_q_s1 c_q_s2 c_q_s3 c_q_s4 c_q_x0 c_q_x1
  obtain ⟨q_d, q_s, D_d, S_s, S_l, D_x, q_x, hB⟩ := HQ.out
  clear HQ
  have S_y := LS.of hsl (Nat.le_refl _)
  clear hsl
  have HQ := Lib.hid (And.intro q_d (And.intro q_s (And.intro D_d (And.intro S_s (And.intro S_l (And.intro D_x (And.intro q_x (And.intro S_y hB))))))))
  clear q_d q_s D_d S_s S_l D_x q_x S_y hB
  have c_q_d0 := LK.cell HQ.out.1 0
  have c_q_d1 := LK.cell HQ.out.1 1
  have c_q_s0 := LK.cell HQ.out.2.1 0
  have c_q_s1 := LK.cell HQ.out.2.1 1
  have c_q_s2 := LK.cell HQ.out.2.1 2
  have c_q_s3 := LK.cell HQ.out.2.1 3
  have c_q_s4 := LK.cell HQ.out.2.1 4
  have c_q_x0 := LK.cell HQ.out.2.2.2.2.2.2.1 0
  have c_q_x1 := LK.cell HQ.out.2.2.2.2.2.2.1 1
  simp at c_q_d0 c_q_d1 c_q_s0 c_q_s1 c_q_s2 c_q_s3 c_q_s4 c_q_x0 c_q_x1
  have HSN := Lib.hid hsn
  go_wp2_with fail
  refine (HC.out.2.2.2.1 _ _ _ HQ.out.2.2.2.2.2.1.v).mono ?_
  rintro e w6 ⟨v_m, rfl, hm⟩
  clear c_q_d0 c_q_d1 c_q_s0 c_q_s1 c_q_s2 c_q_s3 c_q_s4 c_q_x0 c_q_x1
  obtain ⟨q_d, q_s, D_d, S_s, S_l, D_x, q_x, S_y, hB⟩ := HQ.out
  clear HQ
  have S_m := LS.of hm.row (Nat.le_refl _)
  have hst := hm.below
  obtain ⟨a_m, c_m, rfl, -, gm_m, -, -⟩ := id hm.row
  unfold maxLen at gm_m
  clear hm
  have sz_w6 : wr.heap.size ≤ w6.heap.size := hst.size
  replace q_d := q_d.step hst
  replace q_s := q_s.step hst
  replace D_d := D_d.step hst
  replace S_s := S_s.step hst
  replace S_l := S_l.step hst
  replace D_x := D_x.step hst
  replace q_x := q_x.step hst
  replace S_y := S_y.step hst
  replace hB := hB.step hst
  clear hst
  have HQ := Lib.hid (And.intro q_d (And.intro q_s (And.intro D_d (And.intro S_s (And.intro S_l (And.intro D_x (And.intro q_x (And.intro S_y (And.intro S_m hB)))))))))
  clear q_d q_s D_d S_s S_l D_x q_x S_y S_m hB
  have c_q_d0 := LK.cell HQ.out.1 0
  have c_q_d1 := LK.cell HQ.out.1 1
  have c_q_s0 := LK.cell HQ.out.2.1 0
  have c_q_s1 := LK.cell HQ.out.2.1 1
  have c_q_s2 := LK.cell HQ.out.2.1 2
  have c_q_s3 := LK.cell HQ.out.2.1 3
  have c_q_s4 := LK.cell HQ.out.2.1 4
  have c_q_x0 := LK.cell HQ.out.2.2.2.2.2.2.1 0
  have c_q_x1 := LK.cell HQ.out.2.2.2.2.2.2.1 1
  simp at c_q_d0 c_q_d1 c_q_s0 c_q_s1 c_q_s2 c_q_s3 c_q_s4 c_q_x0 c_q_x1
  have hln : ((⟨s_g, s_r, s_n, s_t, s_d⟩ : SupL) :: st).length = st.length + 1 := rfl
  skip
  obtain ⟨bm, om, e1⟩ := Sl.some_ HQ.out.2.2.2.2.2.2.2.2.1.v (by simp)
  subst e1
  obtain ⟨f0, f1, f2, f3, ax, cx, f4, hx⟩ := Sl.superAt HQ.out.2.2.2.2.2.2.2.2.1.v 0 (⟨s_g, s_r, s_n, s_t, s_d⟩ : SupL) rfl
  simp only [Nat.zero_mul, Nat.add_zero] at f0 f1 f2 f3 f4
  have z1 := cell_lt' f0
  clear c_q_d0 c_q_d1 c_q_s0 c_q_s1 c_q_s2 c_q_s3 c_q_s4 c_q_x0 c_q_x1
  have x_0 := fun Z => ((aft_below w6 Z).cell (p := ⟨bm, om, none⟩) z1).trans f0
  have x_1 := fun Z => ((aft_below w6 Z).cell (p := ⟨bm, om + 1, none⟩) z1).trans f1
  have x_2 := fun Z => ((aft_below w6 Z).cell (p := ⟨bm, om + 2, none⟩) z1).trans f2
  have x_3 := fun Z => ((aft_below w6 Z).cell (p := ⟨bm, om + 3, none⟩) z1).trans f3
  have x_4 := fun Z => ((aft_below w6 Z).cell (p := ⟨bm, om + 4, none⟩) z1).trans f4
  have x_s0 := fun Z => LK.cell (HQ.out.2.1.step (aft_below w6 Z)) 0
  have x_s1 := fun Z => LK.cell (HQ.out.2.1.step (aft_below w6 Z)) 1
  have x_s2 := fun Z => LK.cell (HQ.out.2.1.step (aft_below w6 Z)) 2
  have x_s3 := fun Z => LK.cell (HQ.out.2.1.step (aft_below w6 Z)) 3
  have x_s4 := fun Z => LK.cell (HQ.out.2.1.step (aft_below w6 Z)) 4
  simp at x_s0 x_s1 x_s2 x_s3 x_s4
  have HX := Lib.hid hx
  clear hx f0 f1 f2 f3 f4
  go_upto_region 19 with (fail)
  refine wp_region_held_drew (S := Cls w6) (by kernel_rfl) (Cls.drew w6) (fun hCl => ?_)
  refine wpAnyH_seg (fuel := 3) (by kernel_rfl) (fun _ d _ _ _ h => by cases d <;> exact h) hCl [0, 1, 2, 3, 4, 5, 6, 7, 8, 9, 10, 11, 12, 13, 14] _ _ _ (by kernel_rfl) (by kernel_rfl) ?_
  simp only [opsOf_cons, opsOf_nil, consOp_some, List.getElem?_toArray, List.getElem?_cons_succ, List.getElem?_cons_zero]
  repeat (first | go_big_quiet_step (fail) | quiet_step (fail))
  refine wpQuiet_nil ?_
  refine wpAnyH_each (fuel := 2) [15] (by kernel_rfl) (by simp) (by kernel_rfl) ?_
  refine Each.cons _ rfl (fun K' hK => ?_) Each.nil
  go_simp
  refine (HC.out.2.2.2.2.1 _ _ ⟨HX.out.1, HX.out.2.step hCl.below⟩ (HQ.out.2.2.2.1.step hCl.below).v).mono ?_
  rintro e z1 ⟨rfl, hb⟩
  have hst := below_step hCl.below hCl.below.size hb
  clear hb
  have hCl := Cls.of hst
  refine hK.out (Cls w6) (fun _ h => h) hCl ?_
  clear hK K'
  refine wpAnyH_seg (fuel := 0) (by kernel_rfl) (fun _ d _ _ _ h => by cases d <;> exact h) hCl [16, 17] _ _ _ (by kernel_rfl) (by kernel_rfl) ?_
  simp only [opsOf_cons, opsOf_nil, consOp_some, List.getElem?_toArray, List.getElem?_cons_succ, List.getElem?_cons_zero]
  repeat (first | go_big_quiet_step (fail) | quiet_step (fail))
  refine wpQuiet_nil ?_
  refine wpAnyH_done (by kernel_rfl) ?_ _
  obtain ⟨wd, hwd⟩ := named_w hst
  subst hwd
  clear hCl x_0 x_s0 x_1 x_s1 x_2 x_s2 x_3 x_s3 x_4 x_s4
  obtain ⟨q_d, q_s, D_d, S_s, S_l, D_x, q_x, S_y, S_m, hB⟩ := HQ.out
  clear HQ
  have sz_wd : w6.heap.size ≤ wd.heap.size := hst.size
  replace q_d := q_d.step hst
  replace q_s := q_s.step hst
  replace D_d := D_d.step hst
  replace S_s := S_s.step hst
  replace S_l := S_l.step hst
  replace D_x := D_x.step hst
  replace q_x := q_x.step hst
  replace S_y := S_y.step hst
  replace S_m := S_m.step hst
  replace hB := hB.step hst
  clear hst
  have HQ := Lib.hid (And.intro q_d (And.intro q_s (And.intro D_d (And.intro S_s (And.intro S_l (And.intro D_x (And.intro q_x (And.intro S_y (And.intro S_m hB)))))))))
  clear q_d q_s D_d S_s S_l D_x q_x S_y S_m hB
  have c_q_d0 := LK.cell HQ.out.1 0
  have c_q_d1 := LK.cell HQ.out.1 1
  have c_q_s0 := LK.cell HQ.out.2.1 0
  have c_q_s1 := LK.cell HQ.out.2.1 1
  have c_q_s2 := LK.cell HQ.out.2.1 2
  have c_q_s3 := LK.cell HQ.out.2.1 3
  have c_q_s4 := LK.cell HQ.out.2.1 4
  have c_q_x0 := LK.cell HQ.out.2.2.2.2.2.2.1 0
  have c_q_x1 := LK.cell HQ.out.2.2.2.2.2.2.1 1
  simp at c_q_d0 c_q_d1 c_q_s0 c_q_s1 c_q_s2 c_q_s3 c_q_s4 c_q_x0 c_q_x1
  go_wp2_with fail
  go_loopw [14] (fun i wr => ∃ j : Nat, j ≤ st.length ∧ i = .int .i64 j ∧ Below wd.heap.size wd wr) (fun i _ => st.length - (intOf i).toNat)
  case atStart => exact ⟨0, Nat.zero_le _, rfl, Below.refl _ _⟩
  case round =>
  obtain ⟨q, hq, rfl, hBq⟩ := hrel
  obtain ⟨wq, hwq⟩ := named_w hBq
  subst hwq
  clear c_q_d0 c_q_d1 c_q_s0 c_q_s1 c_q_s2 c_q_s3 c_q_s4 c_q_x0 c_q_x1
  obtain ⟨q_d, q_s, D_d, S_s, S_l, D_x, q_x, S_y, S_m, hB⟩ := HQ.out
  clear HQ
  replace q_d := q_d.step hBq
  replace q_s := q_s.step hBq
  replace D_d := D_d.step hBq
  replace S_s := S_s.step hBq
  replace S_l := S_l.step hBq
  replace D_x := D_x.step hBq
  replace q_x := q_x.step hBq
  replace S_y := S_y.step hBq
  replace S_m := S_m.step hBq
  replace hB := hB.step hBq
  have HQ := Lib.hid (And.intro q_d (And.intro q_s (And.intro D_d (And.intro S_s (And.intro S_l (And.intro D_x (And.intro q_x (And.intro S_y (And.intro S_m hB)))))))))
  clear q_d q_s D_d S_s S_l D_x q_x S_y S_m hB
  have c_q_d0 := LK.cell HQ.out.1 0
  have c_q_d1 := LK.cell HQ.out.1 1
  have c_q_s0 := LK.cell HQ.out.2.1 0
  have c_q_s1 := LK.cell HQ.out.2.1 1
  have c_q_s2 := LK.cell HQ.out.2.1 2
  have c_q_s3 := LK.cell HQ.out.2.1 3
  have c_q_s4 := LK.cell HQ.out.2.1 4
  have c_q_x0 := LK.cell HQ.out.2.2.2.2.2.2.1 0
  have c_q_x1 := LK.cell HQ.out.2.2.2.2.2.2.1 1
  simp at c_q_d0 c_q_d1 c_q_s0 c_q_s1 c_q_s2 c_q_s3 c_q_s4 c_q_x0 c_q_x1
  by_cases hlt : q < st.length
  · obtain ⟨by_, oy, e1⟩ := Sl.some_ HQ.out.2.2.2.2.2.2.2.1.v (by omega)
    subst e1
    obtain ⟨f0, f1, f2, f3, ay, cy, f4, hy⟩ := Sl.superAt HQ.out.2.2.2.2.2.2.2.1.v q (st.getD q noU) (get_sup _ _ hlt)
    obtain ⟨h0, h1, h2, h3, az, cz, h4, hz⟩ := Sl.superAt HQ.out.2.2.2.2.2.2.2.2.1.v (q + 1) (st.getD q noU) (by rw [List.getElem?_cons_succ]; exact get_sup _ _ hlt)
    obtain ⟨X, hX⟩ : ∃ X, st.getD q noU = X := ⟨_, rfl⟩
    rw [hX] at f0 f1 f2 f3 f4 hy h0 h1 h2 h3 h4 hz
    have z1 := cell_lt' f0
    have z2 := cell_lt' h0
    have x_0 := fun Z => ((aft_below wq Z).cell (p := ⟨by_, oy + q * 5, none⟩) z1).trans f0
    have x_1 := fun Z => ((aft_below wq Z).cell (p := ⟨by_, oy + q * 5 + 1, none⟩) z1).trans f1
    have x_2 := fun Z => ((aft_below wq Z).cell (p := ⟨by_, oy + q * 5 + 2, none⟩) z1).trans f2
    have x_3 := fun Z => ((aft_below wq Z).cell (p := ⟨by_, oy + q * 5 + 3, none⟩) z1).trans f3
    have x_4 := fun Z => ((aft_below wq Z).cell (p := ⟨by_, oy + q * 5 + 4, none⟩) z1).trans f4
    have y_0 := fun Z => ((aft_below wq Z).cell (p := ⟨bm, om + (q + 1) * 5, none⟩) z2).trans h0
    have y_1 := fun Z => ((aft_below wq Z).cell (p := ⟨bm, om + (q + 1) * 5 + 1, none⟩) z2).trans h1
    have y_2 := fun Z => ((aft_below wq Z).cell (p := ⟨bm, om + (q + 1) * 5 + 2, none⟩) z2).trans h2
    have y_3 := fun Z => ((aft_below wq Z).cell (p := ⟨bm, om + (q + 1) * 5 + 3, none⟩) z2).trans h3
    have y_4 := fun Z => ((aft_below wq Z).cell (p := ⟨bm, om + (q + 1) * 5 + 4, none⟩) z2).trans h4
    have i1 : (q : Int) < st.length := by omega
    have i6 : (q : Int) + 1 < st.length + 1 := by omega
    skip
    have HX2 := Lib.hid (And.intro hy hz)
    clear hy hz hX f0 f1 f2 f3 f4 h0 h1 h2 h3 h4
    go_upto_region 24 with (fail)
    clear c_q_d0 c_q_d1 c_q_s0 c_q_s1 c_q_s2 c_q_s3 c_q_s4 c_q_x0 c_q_x1
    refine wp_region_held_drew (S := Cls wq) (by kernel_rfl) (Cls.drew wq) (fun hCl => ?_)
    refine wpAnyH_seg (fuel := 2) (by kernel_rfl) (fun _ d _ _ _ h => by cases d <;> exact h) hCl [0, 1, 2, 3, 4, 5, 6, 7, 8] _ _ _ (by kernel_rfl) (by kernel_rfl) ?_
    simp only [opsOf_cons, opsOf_nil, consOp_some, List.getElem?_toArray, List.getElem?_cons_succ, List.getElem?_cons_zero]
    repeat (first | go_big_quiet_step (fail) | quiet_step (fail))
    refine wpQuiet_nil ?_
    refine wpAnyH_each (fuel := 1) [9] (by kernel_rfl) (by simp) (by kernel_rfl) ?_
    refine Each.cons _ rfl (fun K' hK => ?_) Each.nil
    go_simp
    refine (HC.out.2.2.2.2.2.1 X _ _ _ ⟨HX2.out.2.1, HX2.out.2.2.step hCl.below⟩ ⟨HX2.out.1.1, HX2.out.1.2.step hCl.below⟩).mono ?_
    rintro e z1 ⟨rfl, hb⟩
    have hst := below_step hCl.below hCl.below.size hb
    clear hb
    have hCl := Cls.of hst
    refine hK.out (Cls wq) (fun _ h => h) hCl ?_
    clear hK K'
    refine wpAnyH_seg (fuel := 0) (by kernel_rfl) (fun _ d _ _ _ h => by cases d <;> exact h) hCl [10] _ _ _ (by kernel_rfl) (by kernel_rfl) ?_
    simp only [opsOf_cons, opsOf_nil, consOp_some, List.getElem?_toArray, List.getElem?_cons_succ, List.getElem?_cons_zero]
    repeat (first | go_big_quiet_step (fail) | quiet_step (fail))
    refine wpQuiet_nil ?_
    refine wpAnyH_done (by kernel_rfl) ?_ _
    clear x_0 y_0 x_1 y_1 x_2 y_2 x_3 y_3 x_4 y_4
    go_wp2
    go_roundw
    case rel => exact ⟨q + 1, by omega, by go_num, hBq.trans (hst.mono hBq.size)⟩
    case measure => simp [intOf]; omega
  obtain rfl : q = st.length := by omega
  go_wp2
  go_ret
  exact ⟨rfl, HQ.out.2.2.2.2.2.2.2.2.2⟩
end Go.Proofs.Ytcibihakjcenaaa

