/- CountSums: the words and contracts, part 18. -/
import Derived.Test.YtfdogefoodljaaaCountSumsQ1
import Derived.Test.YtfdogefoodljaaaCountSumsQ2
import Derived.Test.YtfdogefoodljaaaCountSumsQ3
import Derived.Test.YtfdogefoodljaaaCountSumsQ4
import Derived.Test.YtfdogefoodljaaaCountSumsQ5
import Derived.Test.YtfdogefoodljaaaCountSumsQ6
import Derived.Test.YtfdogefoodljaaaCountSumsQ7
import Derived.Test.YtfdogefoodljaaaCountSumsQ8
import Derived.Test.YtfdogefoodljaaaCountSumsQ9
import Derived.Test.YtfdogefoodljaaaCountSumsQ10
import Derived.Test.YtfdogefoodljaaaCountSumsQ11
import Derived.Test.YtfdogefoodljaaaCountSumsQ12
import Derived.Test.YtfdogefoodljaaaCountSumsQ13
import Derived.Test.YtfdogefoodljaaaCountSumsQ14
import Derived.Test.YtfdogefoodljaaaCountSumsQ15
import Derived.Test.YtfdogefoodljaaaCountSumsQ16
import Derived.Test.YtfdogefoodljaaaCountSumsQ17
import Derived.WalkKit
import Derived.WalkLawsBesides
import Derived.WalkSpells
import Derived.Lib.Hide
import Derived.Laws.Rows
import Derived.Laws.AppendOwnNone
import Derived.Maps.AppendAt
import Derived.ProofKit
import Derived.Deep.Slices
import Derived.WideShapes
import Derived.RangeFuncNested
import Derived.RangeFuncBound
import Derived.RangeFuncCalls
import Derived.RangeFuncLeaves
import Derived.RangeFuncBox
import Derived.Shelf.Abstract
import Derived.Shelf.RegionOpen
import Derived.OwnWalkIn
import Derived.TacticsInMore
import Derived.LoopNIn
import Derived.LoopIn
import Derived.Lib.AppendZerosOnto
import Derived.Lib.SliceRun
import Derived.Lib.Walk
import Derived.Deep.LoopGhost
import Derived.Laws.CopyOwn
import Derived.OrdersHeld
import Derived.Deep.QuietTactic
import Derived.BigQuiet
import Derived.StillTailTactics
import Derived.OpenShut
import Derived.Deep.DeepCutAuto
import Derived.Laws.CopyRow
import Derived.Laws.MakeOwn
import Derived.Deep.RegionHeld
import Derived.KernelRfl
import Derived.BigFrameIn
namespace Go.Proofs.Ytfdogefoodljaaa
open Go.RowKit

theorem u32_ne {a b : BitVec 32} (h : a ≠ b) : ((a.toNat : Int) == (b.toNat : Int)) = false := by
  have : a.toNat ≠ b.toNat := fun e => h (BitVec.eq_of_toNat_eq e)
  simp only [beq_eq_false_iff_ne]
  omega
/-- What the two writings of one table come to. -/
theorem twice {d : DiskL} {s : Int} {t : List UInt8} (h : errX d s t = 0) : errR (outX d s t) s = 0 ∧ readT (outX d s t) s = t ∧
    (errX (outX d s t) s t = 0 → errR (outX (outX d s t) s t) s = 0 ∧ readT (outX (outX d s t) s t) s = t) := by
  obtain ⟨h1, h2, -⟩ := sides h
  refine ⟨h1, h2, fun h3 => ?_⟩
  obtain ⟨h4, h5, -⟩ := sides h3
  exact ⟨h4, h5⟩
/-- What the sums come to. -/
theorem sums_are (t : List UInt8) (p : Int) : (errU t ≠ 0 → sumT t = 0) ∧ (errU t = 0 → errT t p 255 = 0 → errU (outT t p 1 255) = 0 ∧ sumT (outT t p 1 255) ≠ sumT t) := by
  unfold errU sumT
  cases hm : mayT t with
  | false => exact ⟨fun _ => rfl, fun h => by cases h⟩
  | true =>
    refine ⟨fun h => absurd rfl h, fun _ h => ?_⟩
    obtain ⟨h1, h2⟩ := sum_turned h (show (1 : UInt8) ≠ 0 by decide)
    rw [h1]
    exact ⟨rfl, h2⟩

set_option maxRecDepth 100000 in
set_option maxHeartbeats 2000000 in
theorem countSums_walk (d : DiskL) (b_d u_d : Value) (s : Int) (v_t : Value) (t : List UInt8) (p : Int) (w : World) (h_d : DiskV w 0 w.heap.size b_d u_d d) (_ws : (Lit.int .i64 s).wf = true) (h_t : Bytes w 0 w.heap.size v_t t) (_wp : (Lit.int .i64 p).wf = true) :
    Calls Try.prog 7 #[.agg #[b_d, u_d], .int .i64 s, v_t, .int .i64 p] w fun e w' => e = .returned (.bool true) ∧ Below w.heap.size w w' := by
  obtain ⟨ab_d, cb_d, rfl, gb_d, gc_d, -, -⟩ := h_d.1
  obtain ⟨au_d, cu_d, rfl, gu_d, gv_d, -, -⟩ := h_d.2
  unfold maxLen at gc_d gv_d
  obtain ⟨a_t, c_t, rfl, g_t, gm_t⟩ := h_t.form rfl
  unfold maxLen at gm_t
  have hst := ((Below.refl w.heap.size w).alloc (Nat.le_refl _) (.cells #[.slice ab_d d.blocks.length cb_d, .slice au_d d.waits.length cu_d] 33))
  have q_d := LK.new w (.cells #[.slice ab_d d.blocks.length cb_d, .slice au_d d.waits.length cu_d] 33)
  have hB : LW w _ := hst
  have D_d := (LD.of h_d (Nat.le_refl _)).step hst
  have B_t := (LB.of h_t (Nat.le_refl _)).step hst
  have sz_V : w.heap.size + 0 < (w.alloc (.cells #[.slice ab_d d.blocks.length cb_d, .slice au_d d.waits.length cu_d] 33)).heap.size := by simp
  obtain ⟨V, hV⟩ : ∃ V, (w.alloc (.cells #[.slice ab_d d.blocks.length cb_d, .slice au_d d.waits.length cu_d] 33)) = V := ⟨_, rfl⟩
  rw [hV] at sz_V q_d D_d B_t hB
  clear hst h_d h_t
  have HQ := Lib.hid (And.intro q_d (And.intro D_d (And.intro B_t hB)))
  clear q_d D_d B_t hB
  have c_q_d0 := LK.cell HQ.out.1 0
  have c_q_d1 := LK.cell HQ.out.1 1
  simp at c_q_d0 c_q_d1
  have hno := outX_no (d := d) (s := s) (t := t)
  have hyes := twice (d := d) (s := s) (t := t)
  have hsu := sums_are t p
  obtain ⟨W, hW⟩ : ∃ W, outX d s t = W := ⟨_, rfl⟩
  obtain ⟨ex, hex⟩ : ∃ ex, errX d s t = ex := ⟨_, rfl⟩
  have k_w := fun V b u v h1 h2 => cwrite_any b u d s v t V h1 h2
  rw [hW, hex] at k_w hno hyes
  have k_g := fun V hh => great_any (.slice ab_d d.blocks.length cb_d) (.slice au_d d.waits.length cu_d) d V hh
  have k_v := fun V b u v h1 h2 => cwrite_any b u W s v t V h1 h2
  obtain ⟨X, hX⟩ : ∃ X, outX W s t = X := ⟨_, rfl⟩
  obtain ⟨ey, hey⟩ : ∃ ey, errX W s t = ey := ⟨_, rfl⟩
  rw [hX, hey] at k_v hyes
  have k_a := fun V b u hh => cread_any b u W s V hh
  have k_b := fun V b u hh => cread_any b u X s V hh
  obtain ⟨ea, hea⟩ : ∃ ea, errR W s = ea := ⟨_, rfl⟩
  obtain ⟨ra, hra⟩ : ∃ ra, readT W s = ra := ⟨_, rfl⟩
  obtain ⟨eb, heb⟩ : ∃ eb, errR X s = eb := ⟨_, rfl⟩
  obtain ⟨rb, hrb⟩ : ∃ rb, readT X s = rb := ⟨_, rfl⟩
  rw [hea, hra] at k_a hyes
  rw [heb, hrb] at k_b hyes
  have k_s := fun V hh => csum_any (.slice a_t t.length c_t) t V hh
  have k_u := fun V hh => cup_any (.slice a_t t.length c_t) t p V hh
  have k_s2 := fun V v hh => csum_any v (outT t p 1 255) V hh
  obtain ⟨xo, hxo⟩ : ∃ xo, outT t p 1 255 = xo := ⟨_, rfl⟩
  obtain ⟨et, het⟩ : ∃ et, errT t p 255 = et := ⟨_, rfl⟩
  rw [hxo, het] at k_u hsu
  rw [hxo] at k_s2
  obtain ⟨eu, heu⟩ : ∃ eu, errU t = eu := ⟨_, rfl⟩
  obtain ⟨su, hsm⟩ : ∃ su, sumT t = su := ⟨_, rfl⟩
  obtain ⟨e2, he2⟩ : ∃ e2, errU xo = e2 := ⟨_, rfl⟩
  obtain ⟨s2, hs2⟩ : ∃ s2, sumT xo = s2 := ⟨_, rfl⟩
  rw [heu, hsm] at k_s
  rw [he2, hs2] at k_s2
  rw [heu, hsm, he2, hs2] at hsu
  simp only [u32v] at k_s k_s2
  have HN := Lib.hid (And.intro hno (And.intro hyes hsu))
  clear hno hyes hsu hW hex hX hey hea hra heb hrb hxo het heu hsm he2 hs2
  have HC := Lib.hid (And.intro k_w (And.intro k_g (And.intro k_v (And.intro k_a (And.intro k_b (And.intro k_s (And.intro k_u k_s2)))))))
  clear k_w k_g k_v k_a k_b k_s k_u k_s2
  go_enter Try.func7, Try.ntmps7
  go_upto_region 1 with (fail)
  clear hV
  go_wp2_with fail
  refine (alive7 V).mono ?_
  rintro e w1 ⟨rfl, hst⟩
  clear c_q_d0 c_q_d1
  obtain ⟨q_d, D_d, B_t, hB⟩ := HQ.out
  clear HQ
  have sz_w1 : V.heap.size ≤ w1.heap.size := hst.size
  replace q_d := q_d.step hst
  replace D_d := D_d.step hst
  replace B_t := B_t.step hst
  replace hB := hB.step hst
  clear hst
  have HQ := Lib.hid (And.intro q_d (And.intro D_d (And.intro B_t hB)))
  clear q_d D_d B_t hB
  have c_q_d0 := LK.cell HQ.out.1 0
  have c_q_d1 := LK.cell HQ.out.1 1
  simp at c_q_d0 c_q_d1
  go_wp2_with fail
  refine (HC.out.2.1 _ HQ.out.2.1.v).mono ?_
  rintro e w2 ⟨g, rfl, hst, hg1⟩
  clear c_q_d0 c_q_d1
  obtain ⟨q_d, D_d, B_t, hB⟩ := HQ.out
  clear HQ
  have sz_w2 : w1.heap.size ≤ w2.heap.size := hst.size
  replace q_d := q_d.step hst
  replace D_d := D_d.step hst
  replace B_t := B_t.step hst
  replace hB := hB.step hst
  clear hst
  have HQ := Lib.hid (And.intro q_d (And.intro D_d (And.intro B_t hB)))
  clear q_d D_d B_t hB
  have c_q_d0 := LK.cell HQ.out.1 0
  have c_q_d1 := LK.cell HQ.out.1 1
  simp at c_q_d0 c_q_d1
  cases g
  case true =>
    go_wp2
    go_ret
    exact ⟨rfl, HQ.out.2.2.2⟩
  obtain ⟨hn1, hn2, -⟩ := hg1 rfl
  clear hg1
  by_cases hl : 10000 < t.length
  · have i1 : (10000 : Int) < t.length := by omega
    go_wp2
    go_ret
    exact ⟨rfl, HQ.out.2.2.2⟩
  have i1 : decide ((10000 : Int) < t.length) = false := by simp; omega
  go_wp2_with fail
  refine (HC.out.2.2.2.2.2.1 _ HQ.out.2.2.1.v).mono ?_
  rintro e w3 ⟨rfl, hst⟩
  clear c_q_d0 c_q_d1
  obtain ⟨q_d, D_d, B_t, hB⟩ := HQ.out
  clear HQ
  have sz_w3 : w2.heap.size ≤ w3.heap.size := hst.size
  replace q_d := q_d.step hst
  replace D_d := D_d.step hst
  replace B_t := B_t.step hst
  replace hB := hB.step hst
  clear hst
  have HQ := Lib.hid (And.intro q_d (And.intro D_d (And.intro B_t hB)))
  clear q_d D_d B_t hB
  have c_q_d0 := LK.cell HQ.out.1 0
  have c_q_d1 := LK.cell HQ.out.1 1
  simp at c_q_d0 c_q_d1
  by_cases hz : eu = 0
  case neg =>
    have i2 : (eu != 0) = true := by simp [hz]
    have hs0 := HN.out.2.2.1 hz
    subst hs0
    go_wp2
    go_ret
    exact ⟨rfl, HQ.out.2.2.2⟩
  subst hz
  go_wp2_with fail
  refine (HC.out.2.2.2.2.2.2.1 _ HQ.out.2.2.1.v).mono ?_
  rintro e w4 ⟨v2, rfl, hm⟩
  clear c_q_d0 c_q_d1
  obtain ⟨q_d, D_d, B_t, hB⟩ := HQ.out
  clear HQ
  have B_x := LM.of hm
  have hst := hm.below
  obtain ⟨a_x, c_x, rfl, -, -⟩ := hm.bytes.form rfl
  clear hm
  have sz_w4 : w3.heap.size ≤ w4.heap.size := hst.size
  replace q_d := q_d.step hst
  replace D_d := D_d.step hst
  replace B_t := B_t.step hst
  replace hB := hB.step hst
  clear hst
  have HQ := Lib.hid (And.intro q_d (And.intro D_d (And.intro B_t (And.intro B_x hB))))
  clear q_d D_d B_t B_x hB
  have c_q_d0 := LK.cell HQ.out.1 0
  have c_q_d1 := LK.cell HQ.out.1 1
  simp at c_q_d0 c_q_d1
  go_upto_region 8 with (fail)
  clear c_q_d0 c_q_d1
  have hlt := sz_w4
  have sz_r : w.heap.size ≤ w4.heap.size := by omega
  have HQ0 := HQ
  by_cases hz3 : et = 0
  · have i4 : (et == 0) = true := by simp [hz3]
    obtain ⟨y4, y5⟩ := HN.out.2.2.2 (by trivial) hz3
    have n4 := u32_ne y5
    have HY := Lib.hid n4
    clear n4 y5
    subst y4
    have c_q_d0 := LK.cell HQ.out.1 0
    have c_q_d1 := LK.cell HQ.out.1 1
    simp at c_q_d0 c_q_d1
    go_wp2_with fail
    refine (HC.out.2.2.2.2.2.2.2 _ _ HQ.out.2.2.2.1.v).mono ?_
    rintro e w5 ⟨rfl, hst⟩
    clear c_q_d0 c_q_d1
    obtain ⟨q_d, D_d, B_t, B_x, hB⟩ := HQ.out
    clear HQ
    have sz_w5 : w4.heap.size ≤ w5.heap.size := hst.size
    replace q_d := q_d.step hst
    replace D_d := D_d.step hst
    replace B_t := B_t.step hst
    replace B_x := B_x.step hst
    replace hB := hB.step hst
    clear hst
    have HQ := Lib.hid (And.intro q_d (And.intro D_d (And.intro B_t (And.intro B_x hB))))
    clear q_d D_d B_t B_x hB
    have c_q_d0 := LK.cell HQ.out.1 0
    have c_q_d1 := LK.cell HQ.out.1 1
    simp at c_q_d0 c_q_d1
    have n4 := HY.out
    go_wp2_with fail
    refine (HC.out.1 _ _ _ _ HQ.out.2.1.v HQ.out.2.2.1.v).mono ?_
    rintro e w6 ⟨b1, u1, rfl, hm⟩
    clear c_q_d0 c_q_d1
    obtain ⟨q_d, D_d, B_t, B_x, hB⟩ := HQ.out
    clear HQ
    have D_W := LT.of hm
    have hst := hm.below
    obtain ⟨ab_W, cb_W, rfl, -, -, -, -⟩ := hm.v0.1
    obtain ⟨au_W, cu_W, rfl, -, -, -, -⟩ := hm.v0.2
    clear hm
    have sz_w6 : w5.heap.size ≤ w6.heap.size := hst.size
    replace q_d := q_d.step hst
    replace D_d := D_d.step hst
    replace B_t := B_t.step hst
    replace B_x := B_x.step hst
    replace hB := hB.step hst
    clear hst
    have HQ := Lib.hid (And.intro q_d (And.intro D_d (And.intro B_t (And.intro B_x (And.intro D_W hB)))))
    clear q_d D_d B_t B_x D_W hB
    have c_q_d0 := LK.cell HQ.out.1 0
    have c_q_d1 := LK.cell HQ.out.1 1
    simp at c_q_d0 c_q_d1
    go_upto_region 13 with (fail)
    clear c_q_d0 c_q_d1
    obtain ⟨q_d, D_d, B_t, B_x, D_W, hB⟩ := HQ.out
    clear HQ
    have hst := (Below.refl w6.heap.size w6).alloc (Nat.le_refl _) (.cells #[.slice ab_W W.blocks.length cb_W, .slice au_W W.waits.length cu_W] 33)
    have hlt : w6.heap.size < (w6.alloc (.cells #[.slice ab_W W.blocks.length cb_W, .slice au_W W.waits.length cu_W] 33)).heap.size := by simp
    have q_W := LK.new w6 (.cells #[.slice ab_W W.blocks.length cb_W, .slice au_W W.waits.length cu_W] 33)
    replace q_d := q_d.step hst
    replace D_d := D_d.step hst
    replace B_t := B_t.step hst
    replace B_x := B_x.step hst
    replace D_W := D_W.step hst
    replace hB := hB.step hst
    obtain ⟨w7, hw⟩ : ∃ v, w6.alloc (.cells #[.slice ab_W W.blocks.length cb_W, .slice au_W W.waits.length cu_W] 33) = v := ⟨_, rfl⟩
    rw [hw] at hlt q_W q_d D_d B_t B_x D_W hB ⊢
    clear hw hst
    have sz_w7 := hlt
    clear hlt
    have HQ := Lib.hid (And.intro q_d (And.intro D_d (And.intro B_t (And.intro B_x (And.intro D_W (And.intro q_W hB))))))
    clear q_d D_d B_t B_x D_W q_W hB
    have c_q_d0 := LK.cell HQ.out.1 0
    have c_q_d1 := LK.cell HQ.out.1 1
    have c_q_W0 := LK.cell HQ.out.2.2.2.2.2.1 0
    have c_q_W1 := LK.cell HQ.out.2.2.2.2.2.1 1
    simp at c_q_d0 c_q_d1 c_q_W0 c_q_W1
    by_cases hz : ex = 0
    case neg =>
      have i2 : (ex != 0) = true := by simp [hz]
      have hwz : (W.blocks.length : Int) = 0 := by rw [HN.out.1 hz]; rfl
      go_wp2
      go_ret
      exact ⟨rfl, HQ.out.2.2.2.2.2.2⟩
    subst hz
    obtain ⟨y1, y2, y3⟩ := HN.out.2.1 rfl
    subst y1 y2
    go_wp2_with fail
    refine (HC.out.2.2.1 _ _ _ _ HQ.out.2.2.2.2.1.v HQ.out.2.2.1.v).mono ?_
    rintro e w8 ⟨b3, u3, rfl, hm⟩
    clear c_q_d0 c_q_d1 c_q_W0 c_q_W1
    obtain ⟨q_d, D_d, B_t, B_x, D_W, q_W, hB⟩ := HQ.out
    clear HQ
    have D_X := LT.of hm
    have hst := hm.below
    obtain ⟨ab_X, cb_X, rfl, -, -, -, -⟩ := hm.v0.1
    obtain ⟨au_X, cu_X, rfl, -, -, -, -⟩ := hm.v0.2
    clear hm
    have sz_w8 : w7.heap.size ≤ w8.heap.size := hst.size
    replace q_d := q_d.step hst
    replace D_d := D_d.step hst
    replace B_t := B_t.step hst
    replace B_x := B_x.step hst
    replace D_W := D_W.step hst
    replace q_W := q_W.step hst
    replace hB := hB.step hst
    clear hst
    have HQ := Lib.hid (And.intro q_d (And.intro D_d (And.intro B_t (And.intro B_x (And.intro D_W (And.intro q_W (And.intro D_X hB)))))))
    clear q_d D_d B_t B_x D_W q_W D_X hB
    have c_q_d0 := LK.cell HQ.out.1 0
    have c_q_d1 := LK.cell HQ.out.1 1
    have c_q_W0 := LK.cell HQ.out.2.2.2.2.2.1 0
    have c_q_W1 := LK.cell HQ.out.2.2.2.2.2.1 1
    simp at c_q_d0 c_q_d1 c_q_W0 c_q_W1
    go_upto_region 16 with (fail)
    clear c_q_d0 c_q_d1 c_q_W0 c_q_W1
    obtain ⟨q_d, D_d, B_t, B_x, D_W, q_W, D_X, hB⟩ := HQ.out
    clear HQ
    have hst := (Below.refl w8.heap.size w8).alloc (Nat.le_refl _) (.cells #[.slice ab_X X.blocks.length cb_X, .slice au_X X.waits.length cu_X] 33)
    have hlt : w8.heap.size < (w8.alloc (.cells #[.slice ab_X X.blocks.length cb_X, .slice au_X X.waits.length cu_X] 33)).heap.size := by simp
    have q_X := LK.new w8 (.cells #[.slice ab_X X.blocks.length cb_X, .slice au_X X.waits.length cu_X] 33)
    replace q_d := q_d.step hst
    replace D_d := D_d.step hst
    replace B_t := B_t.step hst
    replace B_x := B_x.step hst
    replace D_W := D_W.step hst
    replace q_W := q_W.step hst
    replace D_X := D_X.step hst
    replace hB := hB.step hst
    obtain ⟨w9, hw⟩ : ∃ v, w8.alloc (.cells #[.slice ab_X X.blocks.length cb_X, .slice au_X X.waits.length cu_X] 33) = v := ⟨_, rfl⟩
    rw [hw] at hlt q_X q_d D_d B_t B_x D_W q_W D_X hB ⊢
    clear hw hst
    have sz_w9 := hlt
    clear hlt
    have HQ := Lib.hid (And.intro q_d (And.intro D_d (And.intro B_t (And.intro B_x (And.intro D_W (And.intro q_W (And.intro D_X (And.intro q_X hB))))))))
    clear q_d D_d B_t B_x D_W q_W D_X q_X hB
    have c_q_d0 := LK.cell HQ.out.1 0
    have c_q_d1 := LK.cell HQ.out.1 1
    have c_q_W0 := LK.cell HQ.out.2.2.2.2.2.1 0
    have c_q_W1 := LK.cell HQ.out.2.2.2.2.2.1 1
    have c_q_X0 := LK.cell HQ.out.2.2.2.2.2.2.2.1 0
    have c_q_X1 := LK.cell HQ.out.2.2.2.2.2.2.2.1 1
    simp at c_q_d0 c_q_d1 c_q_W0 c_q_W1 c_q_X0 c_q_X1
    go_wp2_with fail
    refine (HC.out.2.2.2.1 _ _ _ HQ.out.2.2.2.2.1.v).mono ?_
    rintro e w10 ⟨v4, rfl, hm⟩
    clear c_q_d0 c_q_d1 c_q_W0 c_q_W1 c_q_X0 c_q_X1
    obtain ⟨q_d, D_d, B_t, B_x, D_W, q_W, D_X, q_X, hB⟩ := HQ.out
    clear HQ
    have B_a := LM.of hm
    have hst := hm.below
    obtain ⟨a_a, c_a, rfl, -, -⟩ := hm.bytes.form rfl
    clear hm
    have sz_w10 : w9.heap.size ≤ w10.heap.size := hst.size
    replace q_d := q_d.step hst
    replace D_d := D_d.step hst
    replace B_t := B_t.step hst
    replace B_x := B_x.step hst
    replace D_W := D_W.step hst
    replace q_W := q_W.step hst
    replace D_X := D_X.step hst
    replace q_X := q_X.step hst
    replace hB := hB.step hst
    clear hst
    have HQ := Lib.hid (And.intro q_d (And.intro D_d (And.intro B_t (And.intro B_x (And.intro D_W (And.intro q_W (And.intro D_X (And.intro q_X (And.intro B_a hB)))))))))
    clear q_d D_d B_t B_x D_W q_W D_X q_X B_a hB
    have c_q_d0 := LK.cell HQ.out.1 0
    have c_q_d1 := LK.cell HQ.out.1 1
    have c_q_W0 := LK.cell HQ.out.2.2.2.2.2.1 0
    have c_q_W1 := LK.cell HQ.out.2.2.2.2.2.1 1
    have c_q_X0 := LK.cell HQ.out.2.2.2.2.2.2.2.1 0
    have c_q_X1 := LK.cell HQ.out.2.2.2.2.2.2.2.1 1
    simp at c_q_d0 c_q_d1 c_q_W0 c_q_W1 c_q_X0 c_q_X1
    go_wp2_with fail
    refine (HC.out.2.2.2.2.1 _ _ _ HQ.out.2.2.2.2.2.2.1.v).mono ?_
    rintro e w11 ⟨v5, rfl, hm⟩
    clear c_q_d0 c_q_d1 c_q_W0 c_q_W1 c_q_X0 c_q_X1
    obtain ⟨q_d, D_d, B_t, B_x, D_W, q_W, D_X, q_X, B_a, hB⟩ := HQ.out
    clear HQ
    have B_b := LM.of hm
    have hst := hm.below
    obtain ⟨a_b, c_b, rfl, -, -⟩ := hm.bytes.form rfl
    clear hm
    have sz_w11 : w10.heap.size ≤ w11.heap.size := hst.size
    replace q_d := q_d.step hst
    replace D_d := D_d.step hst
    replace B_t := B_t.step hst
    replace B_x := B_x.step hst
    replace D_W := D_W.step hst
    replace q_W := q_W.step hst
    replace D_X := D_X.step hst
    replace q_X := q_X.step hst
    replace B_a := B_a.step hst
    replace hB := hB.step hst
    clear hst
    have HQ := Lib.hid (And.intro q_d (And.intro D_d (And.intro B_t (And.intro B_x (And.intro D_W (And.intro q_W (And.intro D_X (And.intro q_X (And.intro B_a (And.intro B_b hB))))))))))
    clear q_d D_d B_t B_x D_W q_W D_X q_X B_a B_b hB
    have c_q_d0 := LK.cell HQ.out.1 0
    have c_q_d1 := LK.cell HQ.out.1 1
    have c_q_W0 := LK.cell HQ.out.2.2.2.2.2.1 0
    have c_q_W1 := LK.cell HQ.out.2.2.2.2.2.1 1
    have c_q_X0 := LK.cell HQ.out.2.2.2.2.2.2.2.1 0
    have c_q_X1 := LK.cell HQ.out.2.2.2.2.2.2.2.1 1
    simp at c_q_d0 c_q_d1 c_q_W0 c_q_W1 c_q_X0 c_q_X1
    have t1 := cv_of HQ.out.2.2.2.2.2.2.2.2.1.v
    have t2 := cv_of HQ.out.2.2.1.v
    have t3 := cv_of HQ.out.2.2.2.2.2.2.2.2.2.1.v
    by_cases hz2 : ey = 0
    · subst hz2
      obtain ⟨z1, z2⟩ := y3 rfl
      subst z1 z2
      clear y3
      go_wp2
      go_ret
      exact ⟨rfl, HQ.out.2.2.2.2.2.2.2.2.2.2⟩
    · have i3 : (ey != 0) = true := by simp [hz2]
      clear y3
      go_wp2
      go_ret
      exact ⟨rfl, HQ.out.2.2.2.2.2.2.2.2.2.2⟩
  · have i4 : (et == 0) = false := by simp [hz3]
    have c_q_d0 := LK.cell HQ.out.1 0
    have c_q_d1 := LK.cell HQ.out.1 1
    simp at c_q_d0 c_q_d1
    go_wp2_with fail
    refine (HC.out.1 _ _ _ _ HQ.out.2.1.v HQ.out.2.2.1.v).mono ?_
    rintro e w5 ⟨b1, u1, rfl, hm⟩
    clear c_q_d0 c_q_d1
    obtain ⟨q_d, D_d, B_t, B_x, hB⟩ := HQ.out
    clear HQ
    have D_W := LT.of hm
    have hst := hm.below
    obtain ⟨ab_W, cb_W, rfl, -, -, -, -⟩ := hm.v0.1
    obtain ⟨au_W, cu_W, rfl, -, -, -, -⟩ := hm.v0.2
    clear hm
    have sz_w5 : w4.heap.size ≤ w5.heap.size := hst.size
    replace q_d := q_d.step hst
    replace D_d := D_d.step hst
    replace B_t := B_t.step hst
    replace B_x := B_x.step hst
    replace hB := hB.step hst
    clear hst
    have HQ := Lib.hid (And.intro q_d (And.intro D_d (And.intro B_t (And.intro B_x (And.intro D_W hB)))))
    clear q_d D_d B_t B_x D_W hB
    have c_q_d0 := LK.cell HQ.out.1 0
    have c_q_d1 := LK.cell HQ.out.1 1
    simp at c_q_d0 c_q_d1
    go_upto_region 13 with (fail)
    clear c_q_d0 c_q_d1
    obtain ⟨q_d, D_d, B_t, B_x, D_W, hB⟩ := HQ.out
    clear HQ
    have hst := (Below.refl w5.heap.size w5).alloc (Nat.le_refl _) (.cells #[.slice ab_W W.blocks.length cb_W, .slice au_W W.waits.length cu_W] 33)
    have hlt : w5.heap.size < (w5.alloc (.cells #[.slice ab_W W.blocks.length cb_W, .slice au_W W.waits.length cu_W] 33)).heap.size := by simp
    have q_W := LK.new w5 (.cells #[.slice ab_W W.blocks.length cb_W, .slice au_W W.waits.length cu_W] 33)
    replace q_d := q_d.step hst
    replace D_d := D_d.step hst
    replace B_t := B_t.step hst
    replace B_x := B_x.step hst
    replace D_W := D_W.step hst
    replace hB := hB.step hst
    obtain ⟨w6, hw⟩ : ∃ v, w5.alloc (.cells #[.slice ab_W W.blocks.length cb_W, .slice au_W W.waits.length cu_W] 33) = v := ⟨_, rfl⟩
    rw [hw] at hlt q_W q_d D_d B_t B_x D_W hB ⊢
    clear hw hst
    have sz_w6 := hlt
    clear hlt
    have HQ := Lib.hid (And.intro q_d (And.intro D_d (And.intro B_t (And.intro B_x (And.intro D_W (And.intro q_W hB))))))
    clear q_d D_d B_t B_x D_W q_W hB
    have c_q_d0 := LK.cell HQ.out.1 0
    have c_q_d1 := LK.cell HQ.out.1 1
    have c_q_W0 := LK.cell HQ.out.2.2.2.2.2.1 0
    have c_q_W1 := LK.cell HQ.out.2.2.2.2.2.1 1
    simp at c_q_d0 c_q_d1 c_q_W0 c_q_W1
    by_cases hz : ex = 0
    case neg =>
      have i2 : (ex != 0) = true := by simp [hz]
      have hwz : (W.blocks.length : Int) = 0 := by rw [HN.out.1 hz]; rfl
      go_wp2
      go_ret
      exact ⟨rfl, HQ.out.2.2.2.2.2.2⟩
    subst hz
    obtain ⟨y1, y2, y3⟩ := HN.out.2.1 rfl
    subst y1 y2
    go_wp2_with fail
    refine (HC.out.2.2.1 _ _ _ _ HQ.out.2.2.2.2.1.v HQ.out.2.2.1.v).mono ?_
    rintro e w7 ⟨b3, u3, rfl, hm⟩
    clear c_q_d0 c_q_d1 c_q_W0 c_q_W1
    obtain ⟨q_d, D_d, B_t, B_x, D_W, q_W, hB⟩ := HQ.out
    clear HQ
    have D_X := LT.of hm
    have hst := hm.below
    obtain ⟨ab_X, cb_X, rfl, -, -, -, -⟩ := hm.v0.1
    obtain ⟨au_X, cu_X, rfl, -, -, -, -⟩ := hm.v0.2
    clear hm
    have sz_w7 : w6.heap.size ≤ w7.heap.size := hst.size
    replace q_d := q_d.step hst
    replace D_d := D_d.step hst
    replace B_t := B_t.step hst
    replace B_x := B_x.step hst
    replace D_W := D_W.step hst
    replace q_W := q_W.step hst
    replace hB := hB.step hst
    clear hst
    have HQ := Lib.hid (And.intro q_d (And.intro D_d (And.intro B_t (And.intro B_x (And.intro D_W (And.intro q_W (And.intro D_X hB)))))))
    clear q_d D_d B_t B_x D_W q_W D_X hB
    have c_q_d0 := LK.cell HQ.out.1 0
    have c_q_d1 := LK.cell HQ.out.1 1
    have c_q_W0 := LK.cell HQ.out.2.2.2.2.2.1 0
    have c_q_W1 := LK.cell HQ.out.2.2.2.2.2.1 1
    simp at c_q_d0 c_q_d1 c_q_W0 c_q_W1
    go_upto_region 16 with (fail)
    clear c_q_d0 c_q_d1 c_q_W0 c_q_W1
    obtain ⟨q_d, D_d, B_t, B_x, D_W, q_W, D_X, hB⟩ := HQ.out
    clear HQ
    have hst := (Below.refl w7.heap.size w7).alloc (Nat.le_refl _) (.cells #[.slice ab_X X.blocks.length cb_X, .slice au_X X.waits.length cu_X] 33)
    have hlt : w7.heap.size < (w7.alloc (.cells #[.slice ab_X X.blocks.length cb_X, .slice au_X X.waits.length cu_X] 33)).heap.size := by simp
    have q_X := LK.new w7 (.cells #[.slice ab_X X.blocks.length cb_X, .slice au_X X.waits.length cu_X] 33)
    replace q_d := q_d.step hst
    replace D_d := D_d.step hst
    replace B_t := B_t.step hst
    replace B_x := B_x.step hst
    replace D_W := D_W.step hst
    replace q_W := q_W.step hst
    replace D_X := D_X.step hst
    replace hB := hB.step hst
    obtain ⟨w8, hw⟩ : ∃ v, w7.alloc (.cells #[.slice ab_X X.blocks.length cb_X, .slice au_X X.waits.length cu_X] 33) = v := ⟨_, rfl⟩
    rw [hw] at hlt q_X q_d D_d B_t B_x D_W q_W D_X hB ⊢
    clear hw hst
    have sz_w8 := hlt
    clear hlt
    have HQ := Lib.hid (And.intro q_d (And.intro D_d (And.intro B_t (And.intro B_x (And.intro D_W (And.intro q_W (And.intro D_X (And.intro q_X hB))))))))
    clear q_d D_d B_t B_x D_W q_W D_X q_X hB
    have c_q_d0 := LK.cell HQ.out.1 0
    have c_q_d1 := LK.cell HQ.out.1 1
    have c_q_W0 := LK.cell HQ.out.2.2.2.2.2.1 0
    have c_q_W1 := LK.cell HQ.out.2.2.2.2.2.1 1
    have c_q_X0 := LK.cell HQ.out.2.2.2.2.2.2.2.1 0
    have c_q_X1 := LK.cell HQ.out.2.2.2.2.2.2.2.1 1
    simp at c_q_d0 c_q_d1 c_q_W0 c_q_W1 c_q_X0 c_q_X1
    go_wp2_with fail
    refine (HC.out.2.2.2.1 _ _ _ HQ.out.2.2.2.2.1.v).mono ?_
    rintro e w9 ⟨v4, rfl, hm⟩
    clear c_q_d0 c_q_d1 c_q_W0 c_q_W1 c_q_X0 c_q_X1
    obtain ⟨q_d, D_d, B_t, B_x, D_W, q_W, D_X, q_X, hB⟩ := HQ.out
    clear HQ
    have B_a := LM.of hm
    have hst := hm.below
    obtain ⟨a_a, c_a, rfl, -, -⟩ := hm.bytes.form rfl
    clear hm
    have sz_w9 : w8.heap.size ≤ w9.heap.size := hst.size
    replace q_d := q_d.step hst
    replace D_d := D_d.step hst
    replace B_t := B_t.step hst
    replace B_x := B_x.step hst
    replace D_W := D_W.step hst
    replace q_W := q_W.step hst
    replace D_X := D_X.step hst
    replace q_X := q_X.step hst
    replace hB := hB.step hst
    clear hst
    have HQ := Lib.hid (And.intro q_d (And.intro D_d (And.intro B_t (And.intro B_x (And.intro D_W (And.intro q_W (And.intro D_X (And.intro q_X (And.intro B_a hB)))))))))
    clear q_d D_d B_t B_x D_W q_W D_X q_X B_a hB
    have c_q_d0 := LK.cell HQ.out.1 0
    have c_q_d1 := LK.cell HQ.out.1 1
    have c_q_W0 := LK.cell HQ.out.2.2.2.2.2.1 0
    have c_q_W1 := LK.cell HQ.out.2.2.2.2.2.1 1
    have c_q_X0 := LK.cell HQ.out.2.2.2.2.2.2.2.1 0
    have c_q_X1 := LK.cell HQ.out.2.2.2.2.2.2.2.1 1
    simp at c_q_d0 c_q_d1 c_q_W0 c_q_W1 c_q_X0 c_q_X1
    go_wp2_with fail
    refine (HC.out.2.2.2.2.1 _ _ _ HQ.out.2.2.2.2.2.2.1.v).mono ?_
    rintro e w10 ⟨v5, rfl, hm⟩
    clear c_q_d0 c_q_d1 c_q_W0 c_q_W1 c_q_X0 c_q_X1
    obtain ⟨q_d, D_d, B_t, B_x, D_W, q_W, D_X, q_X, B_a, hB⟩ := HQ.out
    clear HQ
    have B_b := LM.of hm
    have hst := hm.below
    obtain ⟨a_b, c_b, rfl, -, -⟩ := hm.bytes.form rfl
    clear hm
    have sz_w10 : w9.heap.size ≤ w10.heap.size := hst.size
    replace q_d := q_d.step hst
    replace D_d := D_d.step hst
    replace B_t := B_t.step hst
    replace B_x := B_x.step hst
    replace D_W := D_W.step hst
    replace q_W := q_W.step hst
    replace D_X := D_X.step hst
    replace q_X := q_X.step hst
    replace B_a := B_a.step hst
    replace hB := hB.step hst
    clear hst
    have HQ := Lib.hid (And.intro q_d (And.intro D_d (And.intro B_t (And.intro B_x (And.intro D_W (And.intro q_W (And.intro D_X (And.intro q_X (And.intro B_a (And.intro B_b hB))))))))))
    clear q_d D_d B_t B_x D_W q_W D_X q_X B_a B_b hB
    have c_q_d0 := LK.cell HQ.out.1 0
    have c_q_d1 := LK.cell HQ.out.1 1
    have c_q_W0 := LK.cell HQ.out.2.2.2.2.2.1 0
    have c_q_W1 := LK.cell HQ.out.2.2.2.2.2.1 1
    have c_q_X0 := LK.cell HQ.out.2.2.2.2.2.2.2.1 0
    have c_q_X1 := LK.cell HQ.out.2.2.2.2.2.2.2.1 1
    simp at c_q_d0 c_q_d1 c_q_W0 c_q_W1 c_q_X0 c_q_X1
    have t1 := cv_of HQ.out.2.2.2.2.2.2.2.2.1.v
    have t2 := cv_of HQ.out.2.2.1.v
    have t3 := cv_of HQ.out.2.2.2.2.2.2.2.2.2.1.v
    by_cases hz2 : ey = 0
    · subst hz2
      obtain ⟨z1, z2⟩ := y3 rfl
      subst z1 z2
      clear y3
      go_wp2
      go_ret
      exact ⟨rfl, HQ.out.2.2.2.2.2.2.2.2.2.2⟩
    · have i3 : (ey != 0) = true := by simp [hz2]
      clear y3
      go_wp2
      go_ret
      exact ⟨rfl, HQ.out.2.2.2.2.2.2.2.2.2.2⟩
end Go.Proofs.Ytfdogefoodljaaa

