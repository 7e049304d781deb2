/- NodeBack: the words and contracts, part 19. -/
import Derived.Test.YtfdogefoodljaaaNodeBackQ1
import Derived.Test.YtfdogefoodljaaaNodeBackQ2
import Derived.Test.YtfdogefoodljaaaNodeBackQ3
import Derived.Test.YtfdogefoodljaaaNodeBackQ4
import Derived.Test.YtfdogefoodljaaaNodeBackQ5
import Derived.Test.YtfdogefoodljaaaNodeBackQ6
import Derived.Test.YtfdogefoodljaaaNodeBackQ7
import Derived.Test.YtfdogefoodljaaaNodeBackQ8
import Derived.Test.YtfdogefoodljaaaNodeBackQ9
import Derived.Test.YtfdogefoodljaaaNodeBackQ10
import Derived.Test.YtfdogefoodljaaaNodeBackQ11
import Derived.Test.YtfdogefoodljaaaNodeBackQ12
import Derived.Test.YtfdogefoodljaaaNodeBackQ13
import Derived.Test.YtfdogefoodljaaaNodeBackQ14
import Derived.Test.YtfdogefoodljaaaNodeBackQ15
import Derived.Test.YtfdogefoodljaaaNodeBackQ16
import Derived.Test.YtfdogefoodljaaaNodeBackQ17
import Derived.Test.YtfdogefoodljaaaNodeBackQ18
import Derived.Test.YtfdogefoodljaaaChecked
import Derived.WalkKit
import Derived.WalkLawsBesides
import Derived.WalkSpells
import Derived.Lib.Hide
import Derived.Laws.Rows
import Derived.Laws.AppendOwnNone
import Derived.Maps.AppendAt
import Derived.ProofKit
import Derived.Deep.Slices
import Derived.WideShapes
import Derived.RangeFuncNested
import Derived.RangeFuncBound
import Derived.RangeFuncCalls
import Derived.RangeFuncLeaves
import Derived.RangeFuncBox
import Derived.Shelf.Abstract
import Derived.Shelf.RegionOpen
import Derived.OwnWalkIn
import Derived.TacticsInMore
import Derived.LoopNIn
import Derived.LoopIn
import Derived.Lib.AppendZerosOnto
import Derived.Lib.SliceRun
import Derived.Lib.Walk
import Derived.Deep.LoopGhost
import Derived.Laws.CopyOwn
import Derived.Laws.CopyRow
import Derived.OrdersHeld
import Derived.Deep.QuietTactic
import Derived.BigQuiet
import Derived.StillTailTactics
import Derived.OpenShut
import Derived.Deep.DeepCutAuto
import Derived.Deep.RegionHeld
import Derived.Laws.MakeOwn
import Derived.KernelRfl
import Derived.BigFrameIn
import Derived.ShutString
import Derived.ChangeOld
import Derived.Below
namespace Go.Proofs.Ytfdogefoodljaaa
open Go.RowKit

theorem nread_back {n : NodeL} (h : mayN n = true) (u : Value) (V : World) (hh : Bytes V 0 V.heap.size u (blockN n)) :
    Calls Try.prog 37 #[u] V fun e w' => ∃ x, e = .returned (.tuple #[.agg #[.int .i64 n.level, x], .int .i64 0]) ∧ MadeN V w' x n.items := by
  have := nread_any u _ V hh
  rw [(back1 h).1, (back1 h).2.1] at this
  exact this
theorem nwrite_back {l : List UInt8} (h : errNd l = 0) (u : Value) (V : World) (hh : Sl rItem V 0 V.heap.size u (readNd l).items) :
    Calls Try.prog 36 #[.agg #[.int .i64 (readNd l).level, u]] V fun e w' => ∃ x, e = .returned (.tuple #[x, .int .i64 0]) ∧ MadeB V w' x l := by
  have := nwrite_any (readNd l) u V hh
  rw [(back2 h).1, (back2 h).2] at this
  exact this

set_option maxRecDepth 100000 in
set_option maxHeartbeats 4000000 in
theorem nodeBack_walk (n : NodeL) (u_n : Value) (v_l : Value) (l : List UInt8) (w : World) (h_n : (Lit.int .i64 n.level).wf = true ∧ Sl rItem w 0 w.heap.size u_n n.items) (h_l : Bytes w 0 w.heap.size v_l l) :
    Calls Try.prog 12 #[.agg #[.int .i64 n.level, u_n], v_l] w fun e w' => e = .returned (.bool true) ∧ Below w.heap.size w w' := by
  obtain ⟨hw_n, h_n⟩ := h_n
  obtain ⟨a_n, c_n, rfl, g_n, gm_n, -, -⟩ := id h_n
  unfold maxLen at gm_n
  obtain ⟨a_l, c_l, rfl, g_l, gm_l⟩ := h_l.form rfl
  unfold maxLen at gm_l
  have hst := ((Below.refl w.heap.size w).alloc (Nat.le_refl _) (.cells #[.int .i64 n.level, .slice a_n n.items.length c_n] 62))
  have q_n := LK.new w (.cells #[.int .i64 n.level, .slice a_n n.items.length c_n] 62)
  have hB : LW w _ := hst
  have S_n := (LS.of h_n (Nat.le_refl _)).step hst
  have B_l := (LB.of h_l (Nat.le_refl _)).step hst
  have sz_V : w.heap.size + 0 < (w.alloc (.cells #[.int .i64 n.level, .slice a_n n.items.length c_n] 62)).heap.size := by simp
  obtain ⟨V, hV⟩ : ∃ V, (w.alloc (.cells #[.int .i64 n.level, .slice a_n n.items.length c_n] 62)) = V := ⟨_, rfl⟩
  rw [hV] at sz_V q_n S_n B_l hB
  clear hst h_n h_l
  have HQ := Lib.hid (And.intro q_n (And.intro S_n (And.intro B_l hB)))
  clear q_n S_n B_l hB
  have c_q_n0 := LK.cell HQ.out.1 0
  have c_q_n1 := LK.cell HQ.out.1 1
  simp at c_q_n0 c_q_n1
  have k_g := fun V hh => great6_any (.slice a_n n.items.length c_n) n.items V hh
  have k_w := fun V hh => nwrite_any n (.slice a_n n.items.length c_n) V hh
  have k_r1 := fun (h : mayN n = true) V u hh => nread_back h u V hh
  have k_r2 := fun V hh => nread_any (.slice a_l l.length c_l) l V hh
  have k_w2 := fun (h : errNd l = 0) V u hh => nwrite_back h u V hh
  have k_s := fun V v u h1 h2 => nsame_any n n v u V h1 h2
  simp only [decide_true] at k_s
  have k_s2 := fun V v (h1 : Sl rItem V 0 V.heap.size v []) => nsame_any ⟨0, []⟩ ⟨0, []⟩ v (.slice none 0 0) V h1 (Sl.nil_ _ _ _)
  simp only [decide_true] at k_s2
  have hbl := fun (h : mayN n = true) => (back1 h).2.2
  have hbad : errNd l ≠ 0 → readNd l = ⟨0, []⟩ := fun h => by unfold readNd; rw [if_neg h]
  obtain ⟨BN, hBN⟩ : ∃ b, blockN n = b := ⟨_, rfl⟩
  obtain ⟨R, hR⟩ : ∃ b, readNd l = b := ⟨_, rfl⟩
  obtain ⟨er, her⟩ : ∃ b, errNd l = b := ⟨_, rfl⟩
  obtain ⟨mn, hmn⟩ : ∃ b, mayN n = b := ⟨_, rfl⟩
  rw [hBN] at k_w k_r1 hbl
  rw [hR] at k_r2 k_w2 hbad
  rw [her] at k_r2 k_w2 hbad
  rw [hmn] at k_w k_r1 hbl
  have HN := Lib.hid (And.intro hbl hbad)
  clear hbl hbad hBN hR her hmn
  have HC := Lib.hid (And.intro k_g (And.intro k_w (And.intro k_r1 (And.intro k_r2 (And.intro k_w2 (And.intro k_s k_s2))))))
  clear k_g k_w k_r1 k_r2 k_w2 k_s k_s2
  go_enter Try.func12, Try.ntmps12
  go_upto_region 1 with (fail)
  clear hV
  go_wp2_with fail
  refine (alive6 V).mono ?_
  rintro e w1 ⟨rfl, hst⟩
  clear c_q_n0 c_q_n1
  obtain ⟨q_n, S_n, B_l, hB⟩ := HQ.out
  clear HQ
  have sz_w1 : V.heap.size ≤ w1.heap.size := hst.size
  replace q_n := q_n.step hst
  replace S_n := S_n.step hst
  replace B_l := B_l.step hst
  replace hB := hB.step hst
  clear hst
  have HQ := Lib.hid (And.intro q_n (And.intro S_n (And.intro B_l hB)))
  clear q_n S_n B_l hB
  have c_q_n0 := LK.cell HQ.out.1 0
  have c_q_n1 := LK.cell HQ.out.1 1
  simp at c_q_n0 c_q_n1
  go_wp2_with fail
  refine (HC.out.1 _ HQ.out.2.1.v).mono ?_
  rintro e w2 ⟨g, rfl, hst, -⟩
  clear c_q_n0 c_q_n1
  obtain ⟨q_n, S_n, B_l, hB⟩ := HQ.out
  clear HQ
  have sz_w2 : w1.heap.size ≤ w2.heap.size := hst.size
  replace q_n := q_n.step hst
  replace S_n := S_n.step hst
  replace B_l := B_l.step hst
  replace hB := hB.step hst
  clear hst
  have HQ := Lib.hid (And.intro q_n (And.intro S_n (And.intro B_l hB)))
  clear q_n S_n B_l hB
  have c_q_n0 := LK.cell HQ.out.1 0
  have c_q_n1 := LK.cell HQ.out.1 1
  simp at c_q_n0 c_q_n1
  cases g
  case true =>
    go_wp2
    go_ret
    exact ⟨rfl, HQ.out.2.2.2⟩
  by_cases hl : 10000 < l.length
  · have i1 : (10000 : Int) < l.length := by omega
    go_wp2
    go_ret
    exact ⟨rfl, HQ.out.2.2.2⟩
  have i1 : decide ((10000 : Int) < l.length) = false := by simp; omega
  have i2 : ¬ 10000 < l.length := hl
  go_wp2_with fail
  refine (HC.out.2.1 _ HQ.out.2.1.v).mono ?_
  rintro e w3 ⟨v_b, rfl, hm⟩
  clear c_q_n0 c_q_n1
  obtain ⟨q_n, S_n, B_l, hB⟩ := HQ.out
  clear HQ
  have B_b := LM.of hm
  have hst := hm.below
  obtain ⟨a_b, c_b, rfl, -, -⟩ := hm.bytes.form rfl
  clear hm
  have sz_w3 : w2.heap.size ≤ w3.heap.size := hst.size
  replace q_n := q_n.step hst
  replace S_n := S_n.step hst
  replace B_l := B_l.step hst
  replace hB := hB.step hst
  clear hst
  have HQ := Lib.hid (And.intro q_n (And.intro S_n (And.intro B_l (And.intro B_b hB))))
  clear q_n S_n B_l B_b hB
  have c_q_n0 := LK.cell HQ.out.1 0
  have c_q_n1 := LK.cell HQ.out.1 1
  simp at c_q_n0 c_q_n1
  clear i1 i2 hl
  cases mn
  case false =>
    have me8 : mayE false = 8 := rfl
    rw [me8]
    clear me8
    go_wp2_with fail
    refine (HC.out.2.2.2.1 _ HQ.out.2.2.1.v).mono ?_
    rintro e w4 ⟨u_r, rfl, hm⟩
    clear c_q_n0 c_q_n1
    obtain ⟨q_n, S_n, B_l, B_b, hB⟩ := HQ.out
    clear HQ
    have S_r := LS.of (sl_itemT hm.items) (Nat.le_refl _)
    have hst := hm.below
    obtain ⟨a_r, c_r, rfl, -⟩ := hm.items
    clear hm
    have sz_w4 : w3.heap.size ≤ w4.heap.size := hst.size
    replace q_n := q_n.step hst
    replace S_n := S_n.step hst
    replace B_l := B_l.step hst
    replace B_b := B_b.step hst
    replace hB := hB.step hst
    clear hst
    have HQ := Lib.hid (And.intro q_n (And.intro S_n (And.intro B_l (And.intro B_b (And.intro S_r hB)))))
    clear q_n S_n B_l B_b S_r hB
    have c_q_n0 := LK.cell HQ.out.1 0
    have c_q_n1 := LK.cell HQ.out.1 1
    simp at c_q_n0 c_q_n1
    go_upto_region 10 with (fail)
    clear c_q_n0 c_q_n1
    obtain ⟨q_n, S_n, B_l, B_b, S_r, hB⟩ := HQ.out
    clear HQ
    have hst := (Below.refl w4.heap.size w4).alloc (Nat.le_refl _) (.cells #[.int .i64 R.level, .slice a_r R.items.length c_r] 62)
    have hlt : w4.heap.size < (w4.alloc (.cells #[.int .i64 R.level, .slice a_r R.items.length c_r] 62)).heap.size := by simp
    have q_r := LK.new w4 (.cells #[.int .i64 R.level, .slice a_r R.items.length c_r] 62)
    replace q_n := q_n.step hst
    replace S_n := S_n.step hst
    replace B_l := B_l.step hst
    replace B_b := B_b.step hst
    replace S_r := S_r.step hst
    replace hB := hB.step hst
    obtain ⟨w5, hw⟩ : ∃ v, w4.alloc (.cells #[.int .i64 R.level, .slice a_r R.items.length c_r] 62) = v := ⟨_, rfl⟩
    rw [hw] at hlt q_r q_n S_n B_l B_b S_r hB ⊢
    clear hw hst
    have sz_w5 := hlt
    clear hlt
    have HQ := Lib.hid (And.intro q_n (And.intro S_n (And.intro B_l (And.intro B_b (And.intro S_r (And.intro q_r hB))))))
    clear q_n S_n B_l B_b S_r q_r hB
    have c_q_n0 := LK.cell HQ.out.1 0
    have c_q_n1 := LK.cell HQ.out.1 1
    have c_q_r0 := LK.cell HQ.out.2.2.2.2.2.1 0
    have c_q_r1 := LK.cell HQ.out.2.2.2.2.2.1 1
    simp at c_q_n0 c_q_n1 c_q_r0 c_q_r1
    by_cases he : er = 0
    · subst he
      go_wp2_with fail
      refine (HC.out.2.2.2.2.1 (by trivial) _ _ HQ.out.2.2.2.2.1.v).mono ?_
      rintro e w6 ⟨v_a, rfl, hm⟩
      clear c_q_n0 c_q_n1 c_q_r0 c_q_r1
      obtain ⟨q_n, S_n, B_l, B_b, S_r, q_r, hB⟩ := HQ.out
      clear HQ
      have B_a := LM.of hm
      have hst := hm.below
      obtain ⟨a_a, c_a, rfl, -, -⟩ := hm.bytes.form rfl
      clear hm
      have sz_w6 : w5.heap.size ≤ w6.heap.size := hst.size
      replace q_n := q_n.step hst
      replace S_n := S_n.step hst
      replace B_l := B_l.step hst
      replace B_b := B_b.step hst
      replace S_r := S_r.step hst
      replace q_r := q_r.step hst
      replace hB := hB.step hst
      clear hst
      have HQ := Lib.hid (And.intro q_n (And.intro S_n (And.intro B_l (And.intro B_b (And.intro S_r (And.intro q_r (And.intro B_a hB)))))))
      clear q_n S_n B_l B_b S_r q_r B_a hB
      have c_q_n0 := LK.cell HQ.out.1 0
      have c_q_n1 := LK.cell HQ.out.1 1
      have c_q_r0 := LK.cell HQ.out.2.2.2.2.2.1 0
      have c_q_r1 := LK.cell HQ.out.2.2.2.2.2.1 1
      simp at c_q_n0 c_q_n1 c_q_r0 c_q_r1
      have t1 := cv_of HQ.out.2.2.2.2.2.2.1.v
      have t2 := cv_of HQ.out.2.2.1.v
      go_wp2
      go_ret
      exact ⟨rfl, HQ.out.2.2.2.2.2.2.2⟩
    have hR := HN.out.2 he
    subst hR
    have i3 : (er != 0) = true := by simp [he]
    have hl0 : (⟨0, []⟩ : NodeL).items.length = 0 := rfl
    have hl1 : (⟨0, []⟩ : NodeL).level = 0 := rfl
    go_wp2_with fail
    refine (HC.out.2.2.2.2.2.2 _ _ HQ.out.2.2.2.2.1.v).mono ?_
    rintro e w6 ⟨rfl, hst⟩
    clear c_q_n0 c_q_n1 c_q_r0 c_q_r1
    obtain ⟨q_n, S_n, B_l, B_b, S_r, q_r, hB⟩ := HQ.out
    clear HQ
    have sz_w6 : w5.heap.size ≤ w6.heap.size := hst.size
    replace q_n := q_n.step hst
    replace S_n := S_n.step hst
    replace B_l := B_l.step hst
    replace B_b := B_b.step hst
    replace S_r := S_r.step hst
    replace q_r := q_r.step hst
    replace hB := hB.step hst
    clear hst
    have HQ := Lib.hid (And.intro q_n (And.intro S_n (And.intro B_l (And.intro B_b (And.intro S_r (And.intro q_r hB))))))
    clear q_n S_n B_l B_b S_r q_r hB
    have c_q_n0 := LK.cell HQ.out.1 0
    have c_q_n1 := LK.cell HQ.out.1 1
    have c_q_r0 := LK.cell HQ.out.2.2.2.2.2.1 0
    have c_q_r1 := LK.cell HQ.out.2.2.2.2.2.1 1
    simp at c_q_n0 c_q_n1 c_q_r0 c_q_r1
    go_wp2
    go_ret
    exact ⟨rfl, HQ.out.2.2.2.2.2.2⟩
  have me0 : mayE true = 0 := rfl
  rw [me0]
  clear me0
  have hbl := HN.out.1 (by trivial)
  rw [hbl]
  have HBL := Lib.hid hbl
  clear hbl
  go_wp2_with fail
  refine (HC.out.2.2.1 (by trivial) _ _ (by have := HQ.out.2.2.2.1.v; rwa [HBL.out] at this)).mono ?_
  rintro e w4 ⟨u_x, rfl, hm⟩
  clear c_q_n0 c_q_n1
  obtain ⟨q_n, S_n, B_l, B_b, hB⟩ := HQ.out
  clear HQ
  have S_x := LS.of (sl_itemT hm.items) (Nat.le_refl _)
  have hst := hm.below
  obtain ⟨a_x, c_x, rfl, -⟩ := hm.items
  clear hm
  have sz_w4 : w3.heap.size ≤ w4.heap.size := hst.size
  replace q_n := q_n.step hst
  replace S_n := S_n.step hst
  replace B_l := B_l.step hst
  replace B_b := B_b.step hst
  replace hB := hB.step hst
  clear hst
  have HQ := Lib.hid (And.intro q_n (And.intro S_n (And.intro B_l (And.intro B_b (And.intro S_x hB)))))
  clear q_n S_n B_l B_b S_x hB
  have c_q_n0 := LK.cell HQ.out.1 0
  have c_q_n1 := LK.cell HQ.out.1 1
  simp at c_q_n0 c_q_n1
  go_upto_region 7 with (fail)
  clear c_q_n0 c_q_n1
  obtain ⟨q_n, S_n, B_l, B_b, S_x, hB⟩ := HQ.out
  clear HQ
  have hst := (Below.refl w4.heap.size w4).alloc (Nat.le_refl _) (.cells #[.int .i64 n.level, .slice a_x n.items.length c_x] 62)
  have hlt : w4.heap.size < (w4.alloc (.cells #[.int .i64 n.level, .slice a_x n.items.length c_x] 62)).heap.size := by simp
  have q_x := LK.new w4 (.cells #[.int .i64 n.level, .slice a_x n.items.length c_x] 62)
  replace q_n := q_n.step hst
  replace S_n := S_n.step hst
  replace B_l := B_l.step hst
  replace B_b := B_b.step hst
  replace S_x := S_x.step hst
  replace hB := hB.step hst
  obtain ⟨w5, hw⟩ : ∃ v, w4.alloc (.cells #[.int .i64 n.level, .slice a_x n.items.length c_x] 62) = v := ⟨_, rfl⟩
  rw [hw] at hlt q_x q_n S_n B_l B_b S_x hB ⊢
  clear hw hst
  have sz_w5 := hlt
  clear hlt
  have HQ := Lib.hid (And.intro q_n (And.intro S_n (And.intro B_l (And.intro B_b (And.intro S_x (And.intro q_x hB))))))
  clear q_n S_n B_l B_b S_x q_x hB
  have c_q_n0 := LK.cell HQ.out.1 0
  have c_q_n1 := LK.cell HQ.out.1 1
  have c_q_x0 := LK.cell HQ.out.2.2.2.2.2.1 0
  have c_q_x1 := LK.cell HQ.out.2.2.2.2.2.1 1
  simp at c_q_n0 c_q_n1 c_q_x0 c_q_x1
  go_wp2_with fail
  refine (HC.out.2.2.2.2.2.1 _ _ _ HQ.out.2.2.2.2.1.v HQ.out.2.1.v).mono ?_
  rintro e w6 ⟨rfl, hst⟩
  clear c_q_n0 c_q_n1 c_q_x0 c_q_x1
  obtain ⟨q_n, S_n, B_l, B_b, S_x, q_x, hB⟩ := HQ.out
  clear HQ
  have sz_w6 : w5.heap.size ≤ w6.heap.size := hst.size
  replace q_n := q_n.step hst
  replace S_n := S_n.step hst
  replace B_l := B_l.step hst
  replace B_b := B_b.step hst
  replace S_x := S_x.step hst
  replace q_x := q_x.step hst
  replace hB := hB.step hst
  clear hst
  have HQ := Lib.hid (And.intro q_n (And.intro S_n (And.intro B_l (And.intro B_b (And.intro S_x (And.intro q_x hB))))))
  clear q_n S_n B_l B_b S_x q_x hB
  have c_q_n0 := LK.cell HQ.out.1 0
  have c_q_n1 := LK.cell HQ.out.1 1
  have c_q_x0 := LK.cell HQ.out.2.2.2.2.2.1 0
  have c_q_x1 := LK.cell HQ.out.2.2.2.2.2.1 1
  simp at c_q_n0 c_q_n1 c_q_x0 c_q_x1
  go_wp2_with fail
  refine (HC.out.2.2.2.1 _ HQ.out.2.2.1.v).mono ?_
  rintro e w7 ⟨u_r, rfl, hm⟩
  clear c_q_n0 c_q_n1 c_q_x0 c_q_x1
  obtain ⟨q_n, S_n, B_l, B_b, S_x, q_x, hB⟩ := HQ.out
  clear HQ
  have S_r := LS.of (sl_itemT hm.items) (Nat.le_refl _)
  have hst := hm.below
  obtain ⟨a_r, c_r, rfl, -⟩ := hm.items
  clear hm
  have sz_w7 : w6.heap.size ≤ w7.heap.size := hst.size
  replace q_n := q_n.step hst
  replace S_n := S_n.step hst
  replace B_l := B_l.step hst
  replace B_b := B_b.step hst
  replace S_x := S_x.step hst
  replace q_x := q_x.step hst
  replace hB := hB.step hst
  clear hst
  have HQ := Lib.hid (And.intro q_n (And.intro S_n (And.intro B_l (And.intro B_b (And.intro S_x (And.intro q_x (And.intro S_r hB)))))))
  clear q_n S_n B_l B_b S_x q_x S_r hB
  have c_q_n0 := LK.cell HQ.out.1 0
  have c_q_n1 := LK.cell HQ.out.1 1
  have c_q_x0 := LK.cell HQ.out.2.2.2.2.2.1 0
  have c_q_x1 := LK.cell HQ.out.2.2.2.2.2.1 1
  simp at c_q_n0 c_q_n1 c_q_x0 c_q_x1
  go_upto_region 10 with (fail)
  clear c_q_n0 c_q_n1 c_q_x0 c_q_x1
  obtain ⟨q_n, S_n, B_l, B_b, S_x, q_x, S_r, hB⟩ := HQ.out
  clear HQ
  have hst := (Below.refl w7.heap.size w7).alloc (Nat.le_refl _) (.cells #[.int .i64 R.level, .slice a_r R.items.length c_r] 62)
  have hlt : w7.heap.size < (w7.alloc (.cells #[.int .i64 R.level, .slice a_r R.items.length c_r] 62)).heap.size := by simp
  have q_r := LK.new w7 (.cells #[.int .i64 R.level, .slice a_r R.items.length c_r] 62)
  replace q_n := q_n.step hst
  replace S_n := S_n.step hst
  replace B_l := B_l.step hst
  replace B_b := B_b.step hst
  replace S_x := S_x.step hst
  replace q_x := q_x.step hst
  replace S_r := S_r.step hst
  replace hB := hB.step hst
  obtain ⟨w8, hw⟩ : ∃ v, w7.alloc (.cells #[.int .i64 R.level, .slice a_r R.items.length c_r] 62) = v := ⟨_, rfl⟩
  rw [hw] at hlt q_r q_n S_n B_l B_b S_x q_x S_r hB ⊢
  clear hw hst
  have sz_w8 := hlt
  clear hlt
  have HQ := Lib.hid (And.intro q_n (And.intro S_n (And.intro B_l (And.intro B_b (And.intro S_x (And.intro q_x (And.intro S_r (And.intro q_r hB))))))))
  clear q_n S_n B_l B_b S_x q_x S_r q_r hB
  have c_q_n0 := LK.cell HQ.out.1 0
  have c_q_n1 := LK.cell HQ.out.1 1
  have c_q_x0 := LK.cell HQ.out.2.2.2.2.2.1 0
  have c_q_x1 := LK.cell HQ.out.2.2.2.2.2.1 1
  have c_q_r0 := LK.cell HQ.out.2.2.2.2.2.2.2.1 0
  have c_q_r1 := LK.cell HQ.out.2.2.2.2.2.2.2.1 1
  simp at c_q_n0 c_q_n1 c_q_x0 c_q_x1 c_q_r0 c_q_r1
  by_cases he : er = 0
  · subst he
    go_wp2_with fail
    refine (HC.out.2.2.2.2.1 (by trivial) _ _ HQ.out.2.2.2.2.2.2.1.v).mono ?_
    rintro e w9 ⟨v_a, rfl, hm⟩
    clear c_q_n0 c_q_n1 c_q_x0 c_q_x1 c_q_r0 c_q_r1
    obtain ⟨q_n, S_n, B_l, B_b, S_x, q_x, S_r, q_r, hB⟩ := HQ.out
    clear HQ
    have B_a := LM.of hm
    have hst := hm.below
    obtain ⟨a_a, c_a, rfl, -, -⟩ := hm.bytes.form rfl
    clear hm
    have sz_w9 : w8.heap.size ≤ w9.heap.size := hst.size
    replace q_n := q_n.step hst
    replace S_n := S_n.step hst
    replace B_l := B_l.step hst
    replace B_b := B_b.step hst
    replace S_x := S_x.step hst
    replace q_x := q_x.step hst
    replace S_r := S_r.step hst
    replace q_r := q_r.step hst
    replace hB := hB.step hst
    clear hst
    have HQ := Lib.hid (And.intro q_n (And.intro S_n (And.intro B_l (And.intro B_b (And.intro S_x (And.intro q_x (And.intro S_r (And.intro q_r (And.intro B_a hB)))))))))
    clear q_n S_n B_l B_b S_x q_x S_r q_r B_a hB
    have c_q_n0 := LK.cell HQ.out.1 0
    have c_q_n1 := LK.cell HQ.out.1 1
    have c_q_x0 := LK.cell HQ.out.2.2.2.2.2.1 0
    have c_q_x1 := LK.cell HQ.out.2.2.2.2.2.1 1
    have c_q_r0 := LK.cell HQ.out.2.2.2.2.2.2.2.1 0
    have c_q_r1 := LK.cell HQ.out.2.2.2.2.2.2.2.1 1
    simp at c_q_n0 c_q_n1 c_q_x0 c_q_x1 c_q_r0 c_q_r1
    have t1 := cv_of HQ.out.2.2.2.2.2.2.2.2.1.v
    have t2 := cv_of HQ.out.2.2.1.v
    go_wp2
    go_ret
    exact ⟨rfl, HQ.out.2.2.2.2.2.2.2.2.2⟩
  have hR := HN.out.2 he
  subst hR
  have i3 : (er != 0) = true := by simp [he]
  have hl0 : (⟨0, []⟩ : NodeL).items.length = 0 := rfl
  have hl1 : (⟨0, []⟩ : NodeL).level = 0 := rfl
  go_wp2_with fail
  refine (HC.out.2.2.2.2.2.2 _ _ HQ.out.2.2.2.2.2.2.1.v).mono ?_
  rintro e w9 ⟨rfl, hst⟩
  clear c_q_n0 c_q_n1 c_q_x0 c_q_x1 c_q_r0 c_q_r1
  obtain ⟨q_n, S_n, B_l, B_b, S_x, q_x, S_r, q_r, hB⟩ := HQ.out
  clear HQ
  have sz_w9 : w8.heap.size ≤ w9.heap.size := hst.size
  replace q_n := q_n.step hst
  replace S_n := S_n.step hst
  replace B_l := B_l.step hst
  replace B_b := B_b.step hst
  replace S_x := S_x.step hst
  replace q_x := q_x.step hst
  replace S_r := S_r.step hst
  replace q_r := q_r.step hst
  replace hB := hB.step hst
  clear hst
  have HQ := Lib.hid (And.intro q_n (And.intro S_n (And.intro B_l (And.intro B_b (And.intro S_x (And.intro q_x (And.intro S_r (And.intro q_r hB))))))))
  clear q_n S_n B_l B_b S_x q_x S_r q_r hB
  have c_q_n0 := LK.cell HQ.out.1 0
  have c_q_n1 := LK.cell HQ.out.1 1
  have c_q_x0 := LK.cell HQ.out.2.2.2.2.2.1 0
  have c_q_x1 := LK.cell HQ.out.2.2.2.2.2.1 1
  have c_q_r0 := LK.cell HQ.out.2.2.2.2.2.2.2.1 0
  have c_q_r1 := LK.cell HQ.out.2.2.2.2.2.2.2.1 1
  simp at c_q_n0 c_q_n1 c_q_x0 c_q_x1 c_q_r0 c_q_r1
  go_wp2
  go_ret
  exact ⟨rfl, HQ.out.2.2.2.2.2.2.2.2⟩
end Go.Proofs.Ytfdogefoodljaaa

namespace Go.Proofs.Ytfdogefoodljaaa
open Go.ChangeShapes Go.WideShapes Go.ChangeAt Go.RowKit

theorem own_ : ownKnob Try.prog.godebug = none := by kernel_rfl
theorem laidOut_ : laidOutB Try.prog = true := by kernel_rfl

theorem arg_bytes {H : Type} {enc : TypeId × Value → H} {P : Program} {W : World} {r : Reach} {base b0 : Nat} {spare : Nat → Bool} {held : Bool} {t e : TypeId} {v : Value} {d : DataW H} {p : List MemPlace} (ht : P.underlying t = some (.slice e)) (he : P.underlying e = some (.int .u8))
    (hC : P.cellsOf e = 1) (hv : Value.okWide P W r base t v) (h : DataW.Trod enc P W b0 spare held t v d p) : ∃ l, Bytes W 0 W.heap.size v l := by
  obtain ⟨a, len, cap, rfl⟩ := okWide_slice ht hv
  obtain ⟨fuel, hf⟩ := h
  rcases open_ints ht he hC hf with ⟨hcs, _⟩ | ⟨x, l, c, zs, hcs, _, hl, hm, hz, _, hcell, hwz⟩
  · simp [Value.cells] at hcs
    obtain ⟨rfl, rfl, rfl⟩ := hcs
    exact ⟨[], Bytes.nil_ _ _ _⟩
  · simp [Value.cells] at hcs
    obtain ⟨rfl, rfl, rfl⟩ := hcs
    have hz' : zs.length = cap ∨ zs.length = len := by first | exact .inl hz | (split at hz <;> first | exact .inl hz | exact .inr hz)
    have hb8 : ∀ n ∈ zs, 0 ≤ n ∧ n ≤ 255 := fun n hn => bounds_u8 (hwz n hn)
    have hll : len ≤ zs.length := by omega
    refine ⟨(zs.take len).map fun n => UInt8.ofNat n.toNat, some x, cap, by simp [Nat.min_eq_left hll], by simp; omega, hm, fun hp => ?_, fun h => by cases h⟩
    have hp' : 0 < len := by simp at hp; omega
    have h0 := hcell 0 (by omega)
    obtain ⟨b, off, spot⟩ := x
    have hspot : spot = none := by simpa [Addr.add] using World.cell?_spot h0
    subst hspot
    have hblk : b < W.heap.size := cell_lt' (a := ⟨b, off, none⟩) (by simpa [Addr.add] using h0)
    refine ⟨b, off, rfl, Nat.zero_le _, hblk, fun i y hy => ?_⟩
    have hi : i < len := by have := (List.getElem?_eq_some_iff.1 hy).1; simp at this; omega
    have hc := hcell i (by omega)
    have e2 : (⟨b, off, none⟩ : Addr).add i = ⟨b, off + i, none⟩ := by unfold Addr.add; split <;> simp_all
    rw [e2] at hc
    rw [hc]
    have hi2 : i < zs.length := by omega
    have hbz := hb8 zs[i] (List.getElem_mem hi2)
    simp [hi, hi2] at hy
    subst hy
    simp [bV, hi2]
    omega
end Go.Proofs.Ytfdogefoodljaaa

namespace Go.Proofs.Ytfdogefoodljaaa
open Go.ChangeShapes Go.WideShapes Go.ChangeAt Go.RowKit

section
variable {H : Type} {enc : TypeId × Value → H} {W : World} {r : Reach} {base : Nat} {spare : Nat → Bool} {held : Bool} {v : Value} {d : DataW H} {p : List MemPlace}
set_option maxRecDepth 100000 in
theorem arg_node (hv : Value.okWide Try.prog W r base 62 v) (h : DataW.Trod enc Try.prog W 0 spare held 62 v d p) :
    ∃ (x : NodeL) (u : Value), v = .agg #[.int .i64 x.level, u] ∧ (Lit.int .i64 x.level).wf = true ∧ Sl rItem W 0 W.heap.size u x.items := by
  have ht : fieldsOf Try.prog 62 = some [(0, 3), (1, 60)] := by kernel_rfl
  have hit : fieldsOf Try.prog 73 = some [(0, 65), (3, 3), (4, 22)] := by kernel_rfl
  have hk : fieldsOf Try.prog 65 = some [(0, 5), (1, 42), (2, 42)] := by kernel_rfl
  have hop : Opens Try.prog 73 rItem := opens_item hit hk Try.underlying5 Try.underlying42 (by kernel_rfl) (by kernel_rfl) (by kernel_rfl) Try.underlying3 (by kernel_rfl) (by kernel_rfl) (by kernel_rfl) Try.underlying22 Try.underlying5 (by kernel_rfl)
  have hci : Try.prog.cellsOf 3 = 1 := by kernel_rfl
  have hcl : Try.prog.cellsOf 60 = 1 := by kernel_rfl
  have ce : Try.prog.cellsOf 62 = 2 := by kernel_rfl
  obtain ⟨cs, rfl, hsz⟩ := okW_struct ht hv
  obtain ⟨fuel, hf⟩ := h
  obtain ⟨hl, n, hf⟩ := trod_parts ht hf
  obtain ⟨y0, h0⟩ := hf (0, 3) (by simp)
  obtain ⟨y1, h1⟩ := hf (1, 60) (by simp)
  dsimp only at h0 h1
  rw [hci] at h0
  rw [hcl] at h1
  rw [ce] at hsz
  obtain ⟨k0, e0, _, w0⟩ := DataW.trod_int Try.underlying3 h0
  obtain ⟨u, l, e1, hB⟩ := open_sl (r := rItem) Try.underlying60 (by kernel_rfl) (by decide) hop h1
  refine ⟨⟨k0, l⟩, u, ?_, w0, hB⟩
  congr 1
  apply Array.toList_inj.1
  obtain ⟨cl⟩ := cs
  match cl, hsz with
  | [c0, c1], _ =>
    simp [Value.cells] at e0 e1
    simp [e0, e1]
end
end Go.Proofs.Ytfdogefoodljaaa

