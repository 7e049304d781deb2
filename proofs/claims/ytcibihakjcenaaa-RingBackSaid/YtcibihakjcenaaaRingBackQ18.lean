/- RingBack: the words and contracts, part 18. -/
import Derived.Test.YtcibihakjcenaaaRingBackQ1
import Derived.Test.YtcibihakjcenaaaRingBackQ2
import Derived.Test.YtcibihakjcenaaaRingBackQ3
import Derived.Test.YtcibihakjcenaaaRingBackQ4
import Derived.Test.YtcibihakjcenaaaRingBackQ5
import Derived.Test.YtcibihakjcenaaaRingBackQ6
import Derived.Test.YtcibihakjcenaaaRingBackQ7
import Derived.Test.YtcibihakjcenaaaRingBackQ8
import Derived.Test.YtcibihakjcenaaaRingBackQ9
import Derived.Test.YtcibihakjcenaaaRingBackQ10
import Derived.Test.YtcibihakjcenaaaRingBackQ11
import Derived.Test.YtcibihakjcenaaaRingBackQ12
import Derived.Test.YtcibihakjcenaaaRingBackQ13
import Derived.Test.YtcibihakjcenaaaRingBackQ14
import Derived.Test.YtcibihakjcenaaaRingBackQ15
import Derived.Test.YtcibihakjcenaaaRingBackQ16
import Derived.Test.YtcibihakjcenaaaRingBackQ17
import Derived.WalkKit
import Derived.WalkLawsBesides
import Derived.WalkSpells
import Derived.Lib.Hide
import Derived.Laws.Rows
import Derived.Laws.AppendOwnNone
import Derived.Maps.AppendAt
import Derived.ProofKit
import Derived.Deep.Slices
import Derived.WideShapes
import Derived.RangeFuncNested
import Derived.RangeFuncBound
import Derived.RangeFuncCalls
import Derived.RangeFuncLeaves
import Derived.RangeFuncBox
import Derived.Shelf.Abstract
import Derived.Shelf.RegionOpen
import Derived.OwnWalkIn
import Derived.TacticsInMore
import Derived.LoopNIn
import Derived.LoopIn
import Derived.Lib.AppendZerosOnto
import Derived.Lib.SliceRun
import Derived.Lib.Walk
import Derived.Deep.LoopGhost
import Derived.Laws.CopyOwn
import Derived.Laws.CopyRow
import Derived.OrdersHeld
import Derived.Deep.QuietTactic
import Derived.BigQuiet
import Derived.StillTailTactics
import Derived.OpenShut
import Derived.Deep.DeepCutAuto
import Derived.Deep.RegionHeld
import Derived.Laws.MakeOwn
import Derived.KernelRfl
import Derived.BigFrameIn
import Derived.ShutString
import Derived.ChangeOld
import Derived.Below
import Derived.Shelf.SlSortCmp.SmallK
import Derived.Shelf.Small.Bits
namespace Go.Proofs.Ytcibihakjcenaaa
open Go.RowKit

set_option linter.unusedSimpArgs false
theorem uread_back {s : SupL} (h : mayU s = true) (u : Value) (V : World) (hh : Bytes V 0 V.heap.size u (blockU s)) :
    Calls Try.prog 17 #[u] V fun e w' => ∃ x, e = .returned (.tuple #[.agg #[wV s.gen, .int .i64 s.root, wV s.next, wV s.table, x], .int .i64 0]) ∧ MadeU V w' x s := by
  have := uread_any u _ V hh
  rw [(backU1 h).1, (backU1 h).2.1] at this
  exact this
theorem uwrite_back {l : List UInt8} (h : errUr l = 0) (u : Value) (V : World) (hh : SupV V 0 V.heap.size u (readU l)) :
    Calls Try.prog 15 #[.agg #[wV (readU l).gen, .int .i64 (readU l).root, wV (readU l).next, wV (readU l).table, u]] V fun e w' => ∃ x, e = .returned (.tuple #[x, .int .i64 0]) ∧ MadeB V w' x l := by
  have := uwrite_any (readU l) u V hh
  unfold errUw at this
  rw [(backU2 h).1, (backU2 h).2] at this
  exact this
theorem usame_none (u : Value) (V : World) (h : SupV V 0 V.heap.size u noU) :
    Calls Try.prog 22 #[.agg #[.int .u32 0, .int .i64 0, .int .u32 0, .int .u32 0, u], .agg #[.int .u32 0, .int .i64 0, .int .u32 0, .int .u32 0, .slice none 0 0]] V fun e w' => e = .returned (.bool true) ∧ Below V.heap.size V w' := by
  have := usame_any noU noU u (.slice none 0 0) V h (sup_nil 0 0 0 0 (by decide))
  simp only [decide_true] at this
  exact this
def LU5 (lo hi : Nat) (v : Value) (x : SupL) (V : World) : Prop := Lv lo hi (fun W => SupV W lo hi v x) V
theorem LU5.of {V : World} {lo hi : Nat} {v : Value} {x : SupL} (h : SupV V lo hi v x) (hh : hi ≤ V.heap.size) : LU5 lo hi v x V := Lv.mk' hh fun _ hk => ⟨h.1, h.2.keep hk⟩
theorem LU5.v {V : World} {lo hi : Nat} {v : Value} {x : SupL} (h : LU5 lo hi v x V) : SupV V 0 V.heap.size v x := ⟨(Lv.get h).1, (Lv.get h).2.more (Nat.zero_le _) (Lv.hi_le h)⟩
theorem LU5.step {V V' : World} {lo hi : Nat} {v : Value} {x : SupL} (h : LU5 lo hi v x V) (hb : Below V.heap.size V V') : LU5 lo hi v x V' := Lv.step h hb

set_option maxRecDepth 100000 in
set_option maxHeartbeats 1000000 in
theorem ringBack_walk (s : SupL) (u_s : Value) (v_l : Value) (l : List UInt8) (w : World) (h_s : SupV w 0 w.heap.size u_s s) (h_l : Bytes w 0 w.heap.size v_l l) :
    Calls Try.prog 11 #[.agg #[wV s.gen, .int .i64 s.root, wV s.next, wV s.table, u_s], v_l] w fun e w' => e = .returned (.bool true) ∧ Below w.heap.size w w' := by
  obtain ⟨s_g, s_r, s_n, s_t, s_d⟩ := s
  obtain ⟨hw_s, h_s⟩ := h_s
  dsimp only at hw_s h_s
  obtain ⟨a_s, c_s, rfl, g_s, gm_s, -, -⟩ := id h_s
  unfold maxLen at gm_s
  simp only [bV, wV]
  obtain ⟨a_l, c_l, rfl, g_l, gm_l⟩ := h_l.form rfl
  unfold maxLen at gm_l
  have hst := ((Below.refl w.heap.size w).alloc (Nat.le_refl _) (.cells #[.int .u32 (s_g.toNat : Int), .int .i64 s_r, .int .u32 (s_n.toNat : Int), .int .u32 (s_t.toNat : Int), .slice a_s s_d.length c_s] 25))
  have q_s := LK.new w (.cells #[.int .u32 (s_g.toNat : Int), .int .i64 s_r, .int .u32 (s_n.toNat : Int), .int .u32 (s_t.toNat : Int), .slice a_s s_d.length c_s] 25)
  have hB : LW w _ := hst
  have S_s := (LS.of h_s (Nat.le_refl _)).step hst
  have B_l := (LB.of h_l (Nat.le_refl _)).step hst
  have sz_V : w.heap.size + 0 < (w.alloc (.cells #[.int .u32 (s_g.toNat : Int), .int .i64 s_r, .int .u32 (s_n.toNat : Int), .int .u32 (s_t.toNat : Int), .slice a_s s_d.length c_s] 25)).heap.size := by simp
  obtain ⟨V, hV⟩ : ∃ V, (w.alloc (.cells #[.int .u32 (s_g.toNat : Int), .int .i64 s_r, .int .u32 (s_n.toNat : Int), .int .u32 (s_t.toNat : Int), .slice a_s s_d.length c_s] 25)) = V := ⟨_, rfl⟩
  rw [hV] at sz_V q_s S_s B_l hB
  clear hst h_s h_l
  have HQ := Lib.hid (And.intro q_s (And.intro S_s (And.intro B_l hB)))
  clear q_s S_s B_l hB
  have c_q_s0 := LK.cell HQ.out.1 0
  have c_q_s1 := LK.cell HQ.out.1 1
  have c_q_s2 := LK.cell HQ.out.1 2
  have c_q_s3 := LK.cell HQ.out.1 3
  have c_q_s4 := LK.cell HQ.out.1 4
  simp at c_q_s0 c_q_s1 c_q_s2 c_q_s3 c_q_s4
  have k_w := fun V hh => uwrite_any (⟨s_g, s_r, s_n, s_t, s_d⟩ : SupL) (.slice a_s s_d.length c_s) V (⟨hw_s, hh⟩ : SupV _ _ _ _ (⟨s_g, s_r, s_n, s_t, s_d⟩ : SupL))
  have k_r1 := fun (h : mayU (⟨s_g, s_r, s_n, s_t, s_d⟩ : SupL) = true) V u hh => uread_back h u V hh
  have k_r2 := fun V hh => uread_any (.slice a_l l.length c_l) l V hh
  have k_w2 := fun (h : errUr l = 0) V u hh => uwrite_back h u V hh
  have k_s := fun V v h1 hh => usame_any (⟨s_g, s_r, s_n, s_t, s_d⟩ : SupL) (⟨s_g, s_r, s_n, s_t, s_d⟩ : SupL) v (.slice a_s s_d.length c_s) V h1 (⟨hw_s, hh⟩ : SupV _ _ _ _ (⟨s_g, s_r, s_n, s_t, s_d⟩ : SupL))
  simp only [decide_true] at k_s
  have k_s2 := fun V v h1 => usame_none v V h1
  have hew : errUw (⟨s_g, s_r, s_n, s_t, s_d⟩ : SupL) = if mayU (⟨s_g, s_r, s_n, s_t, s_d⟩ : SupL) then 0 else 8 := rfl
  rw [hew] at k_w
  have hbl := fun (h : mayU (⟨s_g, s_r, s_n, s_t, s_d⟩ : SupL) = true) => (backU1 h).2.2
  have hbad : errUr l ≠ 0 → readU l = noU := fun h => by unfold readU; rw [if_neg h]
  obtain ⟨BN, hBN⟩ : ∃ b, blockU (⟨s_g, s_r, s_n, s_t, s_d⟩ : SupL) = b := ⟨_, rfl⟩
  obtain ⟨R, hR⟩ : ∃ b, readU l = b := ⟨_, rfl⟩
  obtain ⟨er, her⟩ : ∃ b, errUr l = b := ⟨_, rfl⟩
  obtain ⟨mn, hmn⟩ : ∃ b, mayU (⟨s_g, s_r, s_n, s_t, s_d⟩ : SupL) = b := ⟨_, rfl⟩
  rw [hBN] at k_w k_r1 hbl
  rw [hR] at k_r2 k_w2 hbad
  rw [her] at k_r2 k_w2 hbad
  rw [hmn] at k_w k_r1 hbl
  simp only [wV] at k_w k_r1 k_r2 k_w2 k_s
  have HN := Lib.hid (And.intro hbl hbad)
  clear hbl hbad hBN hR her hmn hew
  have HC := Lib.hid (And.intro k_w (And.intro k_r1 (And.intro k_r2 (And.intro k_w2 (And.intro k_s k_s2)))))
  clear k_w k_r1 k_r2 k_w2 k_s k_s2
  go_enter Try.func11, Try.ntmps11
  go_upto_region 1 with (fail)
  clear hV
  go_wp2_with fail
  refine (alive10 V).mono ?_
  rintro e w1 ⟨rfl, hst⟩
  clear c_q_s0 c_q_s1 c_q_s2 c_q_s3 c_q_s4
  obtain ⟨q_s, S_s, B_l, hB⟩ := HQ.out
  clear HQ
  have sz_w1 : V.heap.size ≤ w1.heap.size := hst.size
  replace q_s := q_s.step hst
  replace S_s := S_s.step hst
  replace B_l := B_l.step hst
  replace hB := hB.step hst
  clear hst
  have HQ := Lib.hid (And.intro q_s (And.intro S_s (And.intro B_l hB)))
  clear q_s S_s B_l hB
  have c_q_s0 := LK.cell HQ.out.1 0
  have c_q_s1 := LK.cell HQ.out.1 1
  have c_q_s2 := LK.cell HQ.out.1 2
  have c_q_s3 := LK.cell HQ.out.1 3
  have c_q_s4 := LK.cell HQ.out.1 4
  simp at c_q_s0 c_q_s1 c_q_s2 c_q_s3 c_q_s4
  by_cases hl : 10000 < l.length
  · have i1 : (10000 : Int) < l.length := by omega
    go_wp2
    go_ret
    exact ⟨rfl, HQ.out.2.2.2⟩
  have i1 : decide ((10000 : Int) < l.length) = false := by simp; omega
  have i2 : ¬ 10000 < l.length := hl
  by_cases hd : 1000 < s_d.length
  · have i3 : (1000 : Int) < s_d.length := by omega
    go_wp2
    go_ret
    exact ⟨rfl, HQ.out.2.2.2⟩
  have i3 : decide ((1000 : Int) < s_d.length) = false := by simp; omega
  have i4 : ¬ 1000 < s_d.length := hd
  go_wp2_with fail
  refine (HC.out.1 _ HQ.out.2.1.v).mono ?_
  rintro e w2 ⟨v_b, rfl, hm⟩
  clear c_q_s0 c_q_s1 c_q_s2 c_q_s3 c_q_s4
  obtain ⟨q_s, S_s, B_l, hB⟩ := HQ.out
  clear HQ
  have B_b := LM.of hm
  have hst := hm.below
  obtain ⟨a_b, c_b, rfl, -, -⟩ := hm.bytes.form rfl
  clear hm
  have sz_w2 : w1.heap.size ≤ w2.heap.size := hst.size
  replace q_s := q_s.step hst
  replace S_s := S_s.step hst
  replace B_l := B_l.step hst
  replace hB := hB.step hst
  clear hst
  have HQ := Lib.hid (And.intro q_s (And.intro S_s (And.intro B_l (And.intro B_b hB))))
  clear q_s S_s B_l B_b hB
  have c_q_s0 := LK.cell HQ.out.1 0
  have c_q_s1 := LK.cell HQ.out.1 1
  have c_q_s2 := LK.cell HQ.out.1 2
  have c_q_s3 := LK.cell HQ.out.1 3
  have c_q_s4 := LK.cell HQ.out.1 4
  simp at c_q_s0 c_q_s1 c_q_s2 c_q_s3 c_q_s4
  clear i1 i2 hl i3 i4 hd
  cases mn
  case false =>
    go_wp2_with fail
    refine (HC.out.2.2.1 _ HQ.out.2.2.1.v).mono ?_
    rintro e w3 ⟨u_r, rfl, hm⟩
    clear c_q_s0 c_q_s1 c_q_s2 c_q_s3 c_q_s4
    obtain ⟨q_s, S_s, B_l, B_b, hB⟩ := HQ.out
    clear HQ
    have S_r := LU5.of hm.sup (Nat.le_refl _)
    have hst := hm.below
    obtain ⟨a_r, c_r, rfl, -, -, -, -⟩ := id hm.sup.2
    clear hm
    have sz_w3 : w2.heap.size ≤ w3.heap.size := hst.size
    replace q_s := q_s.step hst
    replace S_s := S_s.step hst
    replace B_l := B_l.step hst
    replace B_b := B_b.step hst
    replace hB := hB.step hst
    clear hst
    have HQ := Lib.hid (And.intro q_s (And.intro S_s (And.intro B_l (And.intro B_b (And.intro S_r hB)))))
    clear q_s S_s B_l B_b S_r hB
    have c_q_s0 := LK.cell HQ.out.1 0
    have c_q_s1 := LK.cell HQ.out.1 1
    have c_q_s2 := LK.cell HQ.out.1 2
    have c_q_s3 := LK.cell HQ.out.1 3
    have c_q_s4 := LK.cell HQ.out.1 4
    simp at c_q_s0 c_q_s1 c_q_s2 c_q_s3 c_q_s4
    go_upto_region 10 with (fail)
    clear c_q_s0 c_q_s1 c_q_s2 c_q_s3 c_q_s4
    obtain ⟨q_s, S_s, B_l, B_b, S_r, hB⟩ := HQ.out
    clear HQ
    have hst := (Below.refl w3.heap.size w3).alloc (Nat.le_refl _) (.cells #[.int .u32 (R.gen.toNat : Int), .int .i64 R.root, .int .u32 (R.next.toNat : Int), .int .u32 (R.table.toNat : Int), .slice a_r R.dead.length c_r] 25)
    have hlt : w3.heap.size < (w3.alloc (.cells #[.int .u32 (R.gen.toNat : Int), .int .i64 R.root, .int .u32 (R.next.toNat : Int), .int .u32 (R.table.toNat : Int), .slice a_r R.dead.length c_r] 25)).heap.size := by simp
    have q_r := LK.new w3 (.cells #[.int .u32 (R.gen.toNat : Int), .int .i64 R.root, .int .u32 (R.next.toNat : Int), .int .u32 (R.table.toNat : Int), .slice a_r R.dead.length c_r] 25)
    replace q_s := q_s.step hst
    replace S_s := S_s.step hst
    replace B_l := B_l.step hst
    replace B_b := B_b.step hst
    replace S_r := S_r.step hst
    replace hB := hB.step hst
    obtain ⟨w4, hw⟩ : ∃ v, w3.alloc (.cells #[.int .u32 (R.gen.toNat : Int), .int .i64 R.root, .int .u32 (R.next.toNat : Int), .int .u32 (R.table.toNat : Int), .slice a_r R.dead.length c_r] 25) = v := ⟨_, rfl⟩
    rw [hw] at hlt q_r q_s S_s B_l B_b S_r hB ⊢
    clear hw hst
    have sz_w4 := hlt
    clear hlt
    have HQ := Lib.hid (And.intro q_s (And.intro S_s (And.intro B_l (And.intro B_b (And.intro S_r (And.intro q_r hB))))))
    clear q_s S_s B_l B_b S_r q_r hB
    have c_q_s0 := LK.cell HQ.out.1 0
    have c_q_s1 := LK.cell HQ.out.1 1
    have c_q_s2 := LK.cell HQ.out.1 2
    have c_q_s3 := LK.cell HQ.out.1 3
    have c_q_s4 := LK.cell HQ.out.1 4
    have c_q_r0 := LK.cell HQ.out.2.2.2.2.2.1 0
    have c_q_r1 := LK.cell HQ.out.2.2.2.2.2.1 1
    have c_q_r2 := LK.cell HQ.out.2.2.2.2.2.1 2
    have c_q_r3 := LK.cell HQ.out.2.2.2.2.2.1 3
    have c_q_r4 := LK.cell HQ.out.2.2.2.2.2.1 4
    simp at c_q_s0 c_q_s1 c_q_s2 c_q_s3 c_q_s4 c_q_r0 c_q_r1 c_q_r2 c_q_r3 c_q_r4
    by_cases he : er = 0
    · subst he
      go_wp2_with fail
      refine (HC.out.2.2.2.1 (by trivial) _ _ HQ.out.2.2.2.2.1.v).mono ?_
      rintro e w5 ⟨v_a, rfl, hm⟩
      clear c_q_s0 c_q_s1 c_q_s2 c_q_s3 c_q_s4 c_q_r0 c_q_r1 c_q_r2 c_q_r3 c_q_r4
      obtain ⟨q_s, S_s, B_l, B_b, S_r, q_r, hB⟩ := HQ.out
      clear HQ
      have B_a := LM.of hm
      have hst := hm.below
      obtain ⟨a_a, c_a, rfl, -, -⟩ := hm.bytes.form rfl
      clear hm
      have sz_w5 : w4.heap.size ≤ w5.heap.size := hst.size
      replace q_s := q_s.step hst
      replace S_s := S_s.step hst
      replace B_l := B_l.step hst
      replace B_b := B_b.step hst
      replace S_r := S_r.step hst
      replace q_r := q_r.step hst
      replace hB := hB.step hst
      clear hst
      have HQ := Lib.hid (And.intro q_s (And.intro S_s (And.intro B_l (And.intro B_b (And.intro S_r (And.intro q_r (And.intro B_a hB)))))))
      clear q_s S_s B_l B_b S_r q_r B_a hB
      have c_q_s0 := LK.cell HQ.out.1 0
      have c_q_s1 := LK.cell HQ.out.1 1
      have c_q_s2 := LK.cell HQ.out.1 2
      have c_q_s3 := LK.cell HQ.out.1 3
      have c_q_s4 := LK.cell HQ.out.1 4
      have c_q_r0 := LK.cell HQ.out.2.2.2.2.2.1 0
      have c_q_r1 := LK.cell HQ.out.2.2.2.2.2.1 1
      have c_q_r2 := LK.cell HQ.out.2.2.2.2.2.1 2
      have c_q_r3 := LK.cell HQ.out.2.2.2.2.2.1 3
      have c_q_r4 := LK.cell HQ.out.2.2.2.2.2.1 4
      simp at c_q_s0 c_q_s1 c_q_s2 c_q_s3 c_q_s4 c_q_r0 c_q_r1 c_q_r2 c_q_r3 c_q_r4
      have t1 := cv_of HQ.out.2.2.2.2.2.2.1.v
      have t2 := cv_of HQ.out.2.2.1.v
      go_wp2
      go_ret
      exact ⟨rfl, HQ.out.2.2.2.2.2.2.2⟩
    have hR := HN.out.2 he
    subst hR
    have i3 : (er != 0) = true := by simp [he]
    have hl0 : noU.dead.length = 0 := rfl
    have hl1 : noU.root = 0 := rfl
    have hl2 : (noU.gen.toNat : Int) = 0 := rfl
    have hl3 : (noU.next.toNat : Int) = 0 := rfl
    have hl4 : (noU.table.toNat : Int) = 0 := rfl
    go_wp2_with fail
    refine (HC.out.2.2.2.2.2 _ _ HQ.out.2.2.2.2.1.v).mono ?_
    rintro e w5 ⟨rfl, hst⟩
    clear c_q_s0 c_q_s1 c_q_s2 c_q_s3 c_q_s4 c_q_r0 c_q_r1 c_q_r2 c_q_r3 c_q_r4
    obtain ⟨q_s, S_s, B_l, B_b, S_r, q_r, hB⟩ := HQ.out
    clear HQ
    have sz_w5 : w4.heap.size ≤ w5.heap.size := hst.size
    replace q_s := q_s.step hst
    replace S_s := S_s.step hst
    replace B_l := B_l.step hst
    replace B_b := B_b.step hst
    replace S_r := S_r.step hst
    replace q_r := q_r.step hst
    replace hB := hB.step hst
    clear hst
    have HQ := Lib.hid (And.intro q_s (And.intro S_s (And.intro B_l (And.intro B_b (And.intro S_r (And.intro q_r hB))))))
    clear q_s S_s B_l B_b S_r q_r hB
    have c_q_s0 := LK.cell HQ.out.1 0
    have c_q_s1 := LK.cell HQ.out.1 1
    have c_q_s2 := LK.cell HQ.out.1 2
    have c_q_s3 := LK.cell HQ.out.1 3
    have c_q_s4 := LK.cell HQ.out.1 4
    have c_q_r0 := LK.cell HQ.out.2.2.2.2.2.1 0
    have c_q_r1 := LK.cell HQ.out.2.2.2.2.2.1 1
    have c_q_r2 := LK.cell HQ.out.2.2.2.2.2.1 2
    have c_q_r3 := LK.cell HQ.out.2.2.2.2.2.1 3
    have c_q_r4 := LK.cell HQ.out.2.2.2.2.2.1 4
    simp at c_q_s0 c_q_s1 c_q_s2 c_q_s3 c_q_s4 c_q_r0 c_q_r1 c_q_r2 c_q_r3 c_q_r4
    go_wp2
    go_ret
    exact ⟨rfl, HQ.out.2.2.2.2.2.2⟩
  have hbl := HN.out.1 (by trivial)
  rw [hbl]
  have HBL := Lib.hid hbl
  clear hbl
  go_wp2_with fail
  refine (HC.out.2.1 (by trivial) _ _ (by have := HQ.out.2.2.2.1.v; rwa [HBL.out] at this)).mono ?_
  rintro e w3 ⟨u_x, rfl, hm⟩
  clear c_q_s0 c_q_s1 c_q_s2 c_q_s3 c_q_s4
  obtain ⟨q_s, S_s, B_l, B_b, hB⟩ := HQ.out
  clear HQ
  have S_x := LU5.of hm.sup (Nat.le_refl _)
  have hst := hm.below
  obtain ⟨a_x, c_x, rfl, -, -, -, -⟩ := id hm.sup.2
  clear hm
  have sz_w3 : w2.heap.size ≤ w3.heap.size := hst.size
  replace q_s := q_s.step hst
  replace S_s := S_s.step hst
  replace B_l := B_l.step hst
  replace B_b := B_b.step hst
  replace hB := hB.step hst
  clear hst
  have HQ := Lib.hid (And.intro q_s (And.intro S_s (And.intro B_l (And.intro B_b (And.intro S_x hB)))))
  clear q_s S_s B_l B_b S_x hB
  have c_q_s0 := LK.cell HQ.out.1 0
  have c_q_s1 := LK.cell HQ.out.1 1
  have c_q_s2 := LK.cell HQ.out.1 2
  have c_q_s3 := LK.cell HQ.out.1 3
  have c_q_s4 := LK.cell HQ.out.1 4
  simp at c_q_s0 c_q_s1 c_q_s2 c_q_s3 c_q_s4
  go_upto_region 7 with (fail)
  clear c_q_s0 c_q_s1 c_q_s2 c_q_s3 c_q_s4
  obtain ⟨q_s, S_s, B_l, B_b, S_x, hB⟩ := HQ.out
  clear HQ
  have hst := (Below.refl w3.heap.size w3).alloc (Nat.le_refl _) (.cells #[.int .u32 (s_g.toNat : Int), .int .i64 s_r, .int .u32 (s_n.toNat : Int), .int .u32 (s_t.toNat : Int), .slice a_x s_d.length c_x] 25)
  have hlt : w3.heap.size < (w3.alloc (.cells #[.int .u32 (s_g.toNat : Int), .int .i64 s_r, .int .u32 (s_n.toNat : Int), .int .u32 (s_t.toNat : Int), .slice a_x s_d.length c_x] 25)).heap.size := by simp
  have q_x := LK.new w3 (.cells #[.int .u32 (s_g.toNat : Int), .int .i64 s_r, .int .u32 (s_n.toNat : Int), .int .u32 (s_t.toNat : Int), .slice a_x s_d.length c_x] 25)
  replace q_s := q_s.step hst
  replace S_s := S_s.step hst
  replace B_l := B_l.step hst
  replace B_b := B_b.step hst
  replace S_x := S_x.step hst
  replace hB := hB.step hst
  obtain ⟨w4, hw⟩ : ∃ v, w3.alloc (.cells #[.int .u32 (s_g.toNat : Int), .int .i64 s_r, .int .u32 (s_n.toNat : Int), .int .u32 (s_t.toNat : Int), .slice a_x s_d.length c_x] 25) = v := ⟨_, rfl⟩
  rw [hw] at hlt q_x q_s S_s B_l B_b S_x hB ⊢
  clear hw hst
  have sz_w4 := hlt
  clear hlt
  have HQ := Lib.hid (And.intro q_s (And.intro S_s (And.intro B_l (And.intro B_b (And.intro S_x (And.intro q_x hB))))))
  clear q_s S_s B_l B_b S_x q_x hB
  have c_q_s0 := LK.cell HQ.out.1 0
  have c_q_s1 := LK.cell HQ.out.1 1
  have c_q_s2 := LK.cell HQ.out.1 2
  have c_q_s3 := LK.cell HQ.out.1 3
  have c_q_s4 := LK.cell HQ.out.1 4
  have c_q_x0 := LK.cell HQ.out.2.2.2.2.2.1 0
  have c_q_x1 := LK.cell HQ.out.2.2.2.2.2.1 1
  have c_q_x2 := LK.cell HQ.out.2.2.2.2.2.1 2
  have c_q_x3 := LK.cell HQ.out.2.2.2.2.2.1 3
  have c_q_x4 := LK.cell HQ.out.2.2.2.2.2.1 4
  simp at c_q_s0 c_q_s1 c_q_s2 c_q_s3 c_q_s4 c_q_x0 c_q_x1 c_q_x2 c_q_x3 c_q_x4
  go_wp2_with fail
  refine (HC.out.2.2.2.2.1 _ _ HQ.out.2.2.2.2.1.v HQ.out.2.1.v).mono ?_
  rintro e w5 ⟨rfl, hst⟩
  clear c_q_s0 c_q_s1 c_q_s2 c_q_s3 c_q_s4 c_q_x0 c_q_x1 c_q_x2 c_q_x3 c_q_x4
  obtain ⟨q_s, S_s, B_l, B_b, S_x, q_x, hB⟩ := HQ.out
  clear HQ
  have sz_w5 : w4.heap.size ≤ w5.heap.size := hst.size
  replace q_s := q_s.step hst
  replace S_s := S_s.step hst
  replace B_l := B_l.step hst
  replace B_b := B_b.step hst
  replace S_x := S_x.step hst
  replace q_x := q_x.step hst
  replace hB := hB.step hst
  clear hst
  have HQ := Lib.hid (And.intro q_s (And.intro S_s (And.intro B_l (And.intro B_b (And.intro S_x (And.intro q_x hB))))))
  clear q_s S_s B_l B_b S_x q_x hB
  have c_q_s0 := LK.cell HQ.out.1 0
  have c_q_s1 := LK.cell HQ.out.1 1
  have c_q_s2 := LK.cell HQ.out.1 2
  have c_q_s3 := LK.cell HQ.out.1 3
  have c_q_s4 := LK.cell HQ.out.1 4
  have c_q_x0 := LK.cell HQ.out.2.2.2.2.2.1 0
  have c_q_x1 := LK.cell HQ.out.2.2.2.2.2.1 1
  have c_q_x2 := LK.cell HQ.out.2.2.2.2.2.1 2
  have c_q_x3 := LK.cell HQ.out.2.2.2.2.2.1 3
  have c_q_x4 := LK.cell HQ.out.2.2.2.2.2.1 4
  simp at c_q_s0 c_q_s1 c_q_s2 c_q_s3 c_q_s4 c_q_x0 c_q_x1 c_q_x2 c_q_x3 c_q_x4
  go_wp2_with fail
  refine (HC.out.2.2.1 _ HQ.out.2.2.1.v).mono ?_
  rintro e w6 ⟨u_r, rfl, hm⟩
  clear c_q_s0 c_q_s1 c_q_s2 c_q_s3 c_q_s4 c_q_x0 c_q_x1 c_q_x2 c_q_x3 c_q_x4
  obtain ⟨q_s, S_s, B_l, B_b, S_x, q_x, hB⟩ := HQ.out
  clear HQ
  have S_r := LU5.of hm.sup (Nat.le_refl _)
  have hst := hm.below
  obtain ⟨a_r, c_r, rfl, -, -, -, -⟩ := id hm.sup.2
  clear hm
  have sz_w6 : w5.heap.size ≤ w6.heap.size := hst.size
  replace q_s := q_s.step hst
  replace S_s := S_s.step hst
  replace B_l := B_l.step hst
  replace B_b := B_b.step hst
  replace S_x := S_x.step hst
  replace q_x := q_x.step hst
  replace hB := hB.step hst
  clear hst
  have HQ := Lib.hid (And.intro q_s (And.intro S_s (And.intro B_l (And.intro B_b (And.intro S_x (And.intro q_x (And.intro S_r hB)))))))
  clear q_s S_s B_l B_b S_x q_x S_r hB
  have c_q_s0 := LK.cell HQ.out.1 0
  have c_q_s1 := LK.cell HQ.out.1 1
  have c_q_s2 := LK.cell HQ.out.1 2
  have c_q_s3 := LK.cell HQ.out.1 3
  have c_q_s4 := LK.cell HQ.out.1 4
  have c_q_x0 := LK.cell HQ.out.2.2.2.2.2.1 0
  have c_q_x1 := LK.cell HQ.out.2.2.2.2.2.1 1
  have c_q_x2 := LK.cell HQ.out.2.2.2.2.2.1 2
  have c_q_x3 := LK.cell HQ.out.2.2.2.2.2.1 3
  have c_q_x4 := LK.cell HQ.out.2.2.2.2.2.1 4
  simp at c_q_s0 c_q_s1 c_q_s2 c_q_s3 c_q_s4 c_q_x0 c_q_x1 c_q_x2 c_q_x3 c_q_x4
  go_upto_region 10 with (fail)
  clear c_q_s0 c_q_s1 c_q_s2 c_q_s3 c_q_s4 c_q_x0 c_q_x1 c_q_x2 c_q_x3 c_q_x4
  obtain ⟨q_s, S_s, B_l, B_b, S_x, q_x, S_r, hB⟩ := HQ.out
  clear HQ
  have hst := (Below.refl w6.heap.size w6).alloc (Nat.le_refl _) (.cells #[.int .u32 (R.gen.toNat : Int), .int .i64 R.root, .int .u32 (R.next.toNat : Int), .int .u32 (R.table.toNat : Int), .slice a_r R.dead.length c_r] 25)
  have hlt : w6.heap.size < (w6.alloc (.cells #[.int .u32 (R.gen.toNat : Int), .int .i64 R.root, .int .u32 (R.next.toNat : Int), .int .u32 (R.table.toNat : Int), .slice a_r R.dead.length c_r] 25)).heap.size := by simp
  have q_r := LK.new w6 (.cells #[.int .u32 (R.gen.toNat : Int), .int .i64 R.root, .int .u32 (R.next.toNat : Int), .int .u32 (R.table.toNat : Int), .slice a_r R.dead.length c_r] 25)
  replace q_s := q_s.step hst
  replace S_s := S_s.step hst
  replace B_l := B_l.step hst
  replace B_b := B_b.step hst
  replace S_x := S_x.step hst
  replace q_x := q_x.step hst
  replace S_r := S_r.step hst
  replace hB := hB.step hst
  obtain ⟨w7, hw⟩ : ∃ v, w6.alloc (.cells #[.int .u32 (R.gen.toNat : Int), .int .i64 R.root, .int .u32 (R.next.toNat : Int), .int .u32 (R.table.toNat : Int), .slice a_r R.dead.length c_r] 25) = v := ⟨_, rfl⟩
  rw [hw] at hlt q_r q_s S_s B_l B_b S_x q_x S_r hB ⊢
  clear hw hst
  have sz_w7 := hlt
  clear hlt
  have HQ := Lib.hid (And.intro q_s (And.intro S_s (And.intro B_l (And.intro B_b (And.intro S_x (And.intro q_x (And.intro S_r (And.intro q_r hB))))))))
  clear q_s S_s B_l B_b S_x q_x S_r q_r hB
  have c_q_s0 := LK.cell HQ.out.1 0
  have c_q_s1 := LK.cell HQ.out.1 1
  have c_q_s2 := LK.cell HQ.out.1 2
  have c_q_s3 := LK.cell HQ.out.1 3
  have c_q_s4 := LK.cell HQ.out.1 4
  have c_q_x0 := LK.cell HQ.out.2.2.2.2.2.1 0
  have c_q_x1 := LK.cell HQ.out.2.2.2.2.2.1 1
  have c_q_x2 := LK.cell HQ.out.2.2.2.2.2.1 2
  have c_q_x3 := LK.cell HQ.out.2.2.2.2.2.1 3
  have c_q_x4 := LK.cell HQ.out.2.2.2.2.2.1 4
  have c_q_r0 := LK.cell HQ.out.2.2.2.2.2.2.2.1 0
  have c_q_r1 := LK.cell HQ.out.2.2.2.2.2.2.2.1 1
  have c_q_r2 := LK.cell HQ.out.2.2.2.2.2.2.2.1 2
  have c_q_r3 := LK.cell HQ.out.2.2.2.2.2.2.2.1 3
  have c_q_r4 := LK.cell HQ.out.2.2.2.2.2.2.2.1 4
  simp at c_q_s0 c_q_s1 c_q_s2 c_q_s3 c_q_s4 c_q_x0 c_q_x1 c_q_x2 c_q_x3 c_q_x4 c_q_r0 c_q_r1 c_q_r2 c_q_r3 c_q_r4
  by_cases he : er = 0
  · subst he
    go_wp2_with fail
    refine (HC.out.2.2.2.1 (by trivial) _ _ HQ.out.2.2.2.2.2.2.1.v).mono ?_
    rintro e w8 ⟨v_a, rfl, hm⟩
    clear c_q_s0 c_q_s1 c_q_s2 c_q_s3 c_q_s4 c_q_x0 c_q_x1 c_q_x2 c_q_x3 c_q_x4 c_q_r0 c_q_r1 c_q_r2 c_q_r3 c_q_r4
    obtain ⟨q_s, S_s, B_l, B_b, S_x, q_x, S_r, q_r, hB⟩ := HQ.out
    clear HQ
    have B_a := LM.of hm
    have hst := hm.below
    obtain ⟨a_a, c_a, rfl, -, -⟩ := hm.bytes.form rfl
    clear hm
    have sz_w8 : w7.heap.size ≤ w8.heap.size := hst.size
    replace q_s := q_s.step hst
    replace S_s := S_s.step hst
    replace B_l := B_l.step hst
    replace B_b := B_b.step hst
    replace S_x := S_x.step hst
    replace q_x := q_x.step hst
    replace S_r := S_r.step hst
    replace q_r := q_r.step hst
    replace hB := hB.step hst
    clear hst
    have HQ := Lib.hid (And.intro q_s (And.intro S_s (And.intro B_l (And.intro B_b (And.intro S_x (And.intro q_x (And.intro S_r (And.intro q_r (And.intro B_a hB)))))))))
    clear q_s S_s B_l B_b S_x q_x S_r q_r B_a hB
    have c_q_s0 := LK.cell HQ.out.1 0
    have c_q_s1 := LK.cell HQ.out.1 1
    have c_q_s2 := LK.cell HQ.out.1 2
    have c_q_s3 := LK.cell HQ.out.1 3
    have c_q_s4 := LK.cell HQ.out.1 4
    have c_q_x0 := LK.cell HQ.out.2.2.2.2.2.1 0
    have c_q_x1 := LK.cell HQ.out.2.2.2.2.2.1 1
    have c_q_x2 := LK.cell HQ.out.2.2.2.2.2.1 2
    have c_q_x3 := LK.cell HQ.out.2.2.2.2.2.1 3
    have c_q_x4 := LK.cell HQ.out.2.2.2.2.2.1 4
    have c_q_r0 := LK.cell HQ.out.2.2.2.2.2.2.2.1 0
    have c_q_r1 := LK.cell HQ.out.2.2.2.2.2.2.2.1 1
    have c_q_r2 := LK.cell HQ.out.2.2.2.2.2.2.2.1 2
    have c_q_r3 := LK.cell HQ.out.2.2.2.2.2.2.2.1 3
    have c_q_r4 := LK.cell HQ.out.2.2.2.2.2.2.2.1 4
    simp at c_q_s0 c_q_s1 c_q_s2 c_q_s3 c_q_s4 c_q_x0 c_q_x1 c_q_x2 c_q_x3 c_q_x4 c_q_r0 c_q_r1 c_q_r2 c_q_r3 c_q_r4
    have t1 := cv_of HQ.out.2.2.2.2.2.2.2.2.1.v
    have t2 := cv_of HQ.out.2.2.1.v
    go_wp2
    go_ret
    exact ⟨rfl, HQ.out.2.2.2.2.2.2.2.2.2⟩
  have hR := HN.out.2 he
  subst hR
  have i3 : (er != 0) = true := by simp [he]
  have hl0 : noU.dead.length = 0 := rfl
  have hl1 : noU.root = 0 := rfl
  have hl2 : (noU.gen.toNat : Int) = 0 := rfl
  have hl3 : (noU.next.toNat : Int) = 0 := rfl
  have hl4 : (noU.table.toNat : Int) = 0 := rfl
  go_wp2_with fail
  refine (HC.out.2.2.2.2.2 _ _ HQ.out.2.2.2.2.2.2.1.v).mono ?_
  rintro e w8 ⟨rfl, hst⟩
  clear c_q_s0 c_q_s1 c_q_s2 c_q_s3 c_q_s4 c_q_x0 c_q_x1 c_q_x2 c_q_x3 c_q_x4 c_q_r0 c_q_r1 c_q_r2 c_q_r3 c_q_r4
  obtain ⟨q_s, S_s, B_l, B_b, S_x, q_x, S_r, q_r, hB⟩ := HQ.out
  clear HQ
  have sz_w8 : w7.heap.size ≤ w8.heap.size := hst.size
  replace q_s := q_s.step hst
  replace S_s := S_s.step hst
  replace B_l := B_l.step hst
  replace B_b := B_b.step hst
  replace S_x := S_x.step hst
  replace q_x := q_x.step hst
  replace S_r := S_r.step hst
  replace q_r := q_r.step hst
  replace hB := hB.step hst
  clear hst
  have HQ := Lib.hid (And.intro q_s (And.intro S_s (And.intro B_l (And.intro B_b (And.intro S_x (And.intro q_x (And.intro S_r (And.intro q_r hB))))))))
  clear q_s S_s B_l B_b S_x q_x S_r q_r hB
  have c_q_s0 := LK.cell HQ.out.1 0
  have c_q_s1 := LK.cell HQ.out.1 1
  have c_q_s2 := LK.cell HQ.out.1 2
  have c_q_s3 := LK.cell HQ.out.1 3
  have c_q_s4 := LK.cell HQ.out.1 4
  have c_q_x0 := LK.cell HQ.out.2.2.2.2.2.1 0
  have c_q_x1 := LK.cell HQ.out.2.2.2.2.2.1 1
  have c_q_x2 := LK.cell HQ.out.2.2.2.2.2.1 2
  have c_q_x3 := LK.cell HQ.out.2.2.2.2.2.1 3
  have c_q_x4 := LK.cell HQ.out.2.2.2.2.2.1 4
  have c_q_r0 := LK.cell HQ.out.2.2.2.2.2.2.2.1 0
  have c_q_r1 := LK.cell HQ.out.2.2.2.2.2.2.2.1 1
  have c_q_r2 := LK.cell HQ.out.2.2.2.2.2.2.2.1 2
  have c_q_r3 := LK.cell HQ.out.2.2.2.2.2.2.2.1 3
  have c_q_r4 := LK.cell HQ.out.2.2.2.2.2.2.2.1 4
  simp at c_q_s0 c_q_s1 c_q_s2 c_q_s3 c_q_s4 c_q_x0 c_q_x1 c_q_x2 c_q_x3 c_q_x4 c_q_r0 c_q_r1 c_q_r2 c_q_r3 c_q_r4
  go_wp2
  go_ret
  exact ⟨rfl, HQ.out.2.2.2.2.2.2.2.2⟩
end Go.Proofs.Ytcibihakjcenaaa

