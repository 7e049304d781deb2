/- RoomCounts: the words and contracts, part 18. -/
import Derived.Test.YtbddbadmfhplmaaRoomCountsQ1
import Derived.Test.YtbddbadmfhplmaaRoomCountsQ2
import Derived.Test.YtbddbadmfhplmaaRoomCountsQ3
import Derived.Test.YtbddbadmfhplmaaRoomCountsQ4
import Derived.Test.YtbddbadmfhplmaaRoomCountsQ5
import Derived.Test.YtbddbadmfhplmaaRoomCountsQ6
import Derived.Test.YtbddbadmfhplmaaRoomCountsQ7
import Derived.Test.YtbddbadmfhplmaaRoomCountsQ8
import Derived.Test.YtbddbadmfhplmaaRoomCountsQ9
import Derived.Test.YtbddbadmfhplmaaRoomCountsQ10
import Derived.Test.YtbddbadmfhplmaaRoomCountsQ11
import Derived.Test.YtbddbadmfhplmaaRoomCountsQ12
import Derived.Test.YtbddbadmfhplmaaRoomCountsQ13
import Derived.Test.YtbddbadmfhplmaaRoomCountsQ14
import Derived.Test.YtbddbadmfhplmaaRoomCountsQ15
import Derived.Test.YtbddbadmfhplmaaRoomCountsQ16
import Derived.Test.YtbddbadmfhplmaaRoomCountsQ17
import Derived.WalkKit
import Derived.WalkLawsBesides
import Derived.WalkSpells
import Derived.Lib.Hide
import Derived.Laws.Rows
import Derived.Laws.AppendOwnNone
import Derived.Maps.AppendAt
import Derived.ProofKit
import Derived.Deep.Slices
import Derived.WideShapes
import Derived.RangeFuncNested
import Derived.RangeFuncBound
import Derived.RangeFuncCalls
import Derived.RangeFuncLeaves
import Derived.RangeFuncBox
import Derived.Shelf.Abstract
import Derived.Shelf.RegionOpen
import Derived.OwnWalkIn
import Derived.TacticsInMore
import Derived.LoopNIn
import Derived.LoopIn
import Derived.Lib.AppendZerosOnto
import Derived.Lib.SliceRun
import Derived.Lib.Walk
import Derived.Deep.LoopGhost
import Derived.Laws.CopyOwn
import Derived.Laws.CopyRow
import Derived.OrdersHeld
import Derived.Deep.QuietTactic
import Derived.BigQuiet
import Derived.StillTailTactics
import Derived.OpenShut
import Derived.Deep.DeepCutAuto
import Derived.Laws.MakeOwn
import Derived.Deep.RegionHeld
import Derived.KernelRfl
import Derived.BigFrameIn
import Derived.OrdersIn
namespace Go.Proofs.Ytbddbadmfhplmaa
open Go.RowKit

set_option maxRecDepth 100000 in
set_option maxHeartbeats 12000000 in
theorem roomCounts_walk (b_s u_s x_s y_s : Value) (s : StoreL) (v_b : Value) (b : List UInt8) (p : Int) (w : World) (h_s : StoreV w 0 w.heap.size b_s u_s x_s y_s s) (h_b : Bytes w 0 w.heap.size v_b b) (_wp : (Lit.int .i64 p).wf = true) :
    Calls Try.prog 5 #[.agg #[b_s, u_s, x_s, y_s], v_b, .int .i64 p] w fun e w' => e = .returned (.bool true) ∧ Below w.heap.size w w' := by
  obtain ⟨ab_s, cb_s, rfl, gb_s, gc_s, -, -⟩ := h_s.1.1
  obtain ⟨au_s, cu_s, rfl, gu_s, gv_s, -, -⟩ := h_s.1.2
  obtain ⟨ax_s, cx_s, rfl, gx_s, gz_s⟩ := h_s.2.1.form rfl
  obtain ⟨ay_s, cy_s, rfl, gy_s, gw_s⟩ := h_s.2.2.form rfl
  unfold maxLen at gc_s gv_s gz_s gw_s
  obtain ⟨a_b, c_b, rfl, g_b, gm_b⟩ := h_b.form rfl
  unfold maxLen at gm_b
  have hst := ((Below.refl w.heap.size w).alloc (Nat.le_refl _) (.cells #[.slice ab_s s.disk.blocks.length cb_s, .slice au_s s.disk.waits.length cu_s, .slice ax_s s.now.length cx_s, .slice ay_s s.last.length cy_s] 28))
  have q_s := LK.new w (.cells #[.slice ab_s s.disk.blocks.length cb_s, .slice au_s s.disk.waits.length cu_s, .slice ax_s s.now.length cx_s, .slice ay_s s.last.length cy_s] 28)
  have hB : LW w _ := hst
  have O_s := (LO.of h_s (Nat.le_refl _)).step hst
  have B_b := (LB.of h_b (Nat.le_refl _)).step hst
  have sz_V : w.heap.size + 0 < (w.alloc (.cells #[.slice ab_s s.disk.blocks.length cb_s, .slice au_s s.disk.waits.length cu_s, .slice ax_s s.now.length cx_s, .slice ay_s s.last.length cy_s] 28)).heap.size := by simp
  obtain ⟨V, hV⟩ : ∃ V, (w.alloc (.cells #[.slice ab_s s.disk.blocks.length cb_s, .slice au_s s.disk.waits.length cu_s, .slice ax_s s.now.length cx_s, .slice ay_s s.last.length cy_s] 28)) = V := ⟨_, rfl⟩
  rw [hV] at sz_V q_s O_s B_b hB
  clear hst h_s h_b
  have HQ := Lib.hid (And.intro q_s (And.intro O_s (And.intro B_b hB)))
  clear q_s O_s B_b hB
  have c_q_s0 := LK.cell HQ.out.1 0
  have c_q_s1 := LK.cell HQ.out.1 1
  have c_q_s2 := LK.cell HQ.out.1 2
  have c_q_s3 := LK.cell HQ.out.1 3
  simp at c_q_s0 c_q_s1 c_q_s2 c_q_s3
  have hyes := take_law (s := s) (b := b)
  have hshd := fun h => take_should (s := s) (b := b) h
  have hsy := share_law (s := s) (p := p)
  have hsf := share_free (s := s) (p := p)
  have hsn : errSh s p ≠ 0 → shareS s p = noS := fun h => by unfold shareS; rw [if_neg h]
  have hlf := freeL_le s
  have hes : (mayS s = false ∧ errS s = 8) ∨ (mayS s = true ∧ errS s = 0) := by
    unfold errS
    cases mayS s
    · exact .inl ⟨rfl, rfl⟩
    · exact .inr ⟨rfl, rfl⟩
  have k_g := fun V b u x y hh => great8_any b u x y s V hh
  have k_c := fun V b u x y hh => scheck_any b u x y s V hh
  have k_f := fun V b u x y hh => sfree_any b u x y s V hh
  have k_t := fun V b1 u x y v hh hv => stake_any b1 u x y s v b V hh hv
  have k_s := fun V b1 u x y hh => sshare_any b1 u x y s p V hh
  obtain ⟨es, hse⟩ : ∃ e, errS s = e := ⟨_, rfl⟩
  obtain ⟨T, hT⟩ : ∃ T, takeS s b = T := ⟨_, rfl⟩
  obtain ⟨et, het⟩ : ∃ e, errTk s b = e := ⟨_, rfl⟩
  obtain ⟨at1, hat⟩ : ∃ e, atTk s b = e := ⟨_, rfl⟩
  obtain ⟨FL, hFL⟩ : ∃ e, freeL s = e := ⟨_, rfl⟩
  obtain ⟨X, hX⟩ : ∃ X, shareS s p = X := ⟨_, rfl⟩
  obtain ⟨ex, hex⟩ : ∃ e, errSh s p = e := ⟨_, rfl⟩
  rw [hse] at k_c k_f hes
  rw [hFL] at k_f
  rw [hT, het, hat] at k_t
  rw [hT, het, hat, hFL] at hyes
  rw [het, hFL] at hshd
  rw [hX, hex] at k_s hsy hsf hsn
  rw [hFL] at hsf hlf
  have k_f2 := fun V b u x y hh => sfree_any b u x y T V hh
  have k_f3 := fun V b u x y hh => sfree_any b u x y X V hh
  have k_d := fun V b1 u1 b2 u2 h1 h2 => dsame_any b1 u1 b2 u2 X.disk s.disk V h1 h2
  have HN := Lib.hid (And.intro hyes (And.intro hshd (And.intro hsy (And.intro hsf (And.intro hsn hlf)))))
  clear hyes hshd hsy hsf hsn hlf hse hT het hat hFL hX hex
  have HC := Lib.hid (And.intro k_g (And.intro k_c (And.intro k_f (And.intro k_t (And.intro k_s (And.intro k_f2 (And.intro k_f3 k_d)))))))
  clear k_g k_c k_f k_t k_s k_f2 k_f3 k_d
  go_enter Try.func5, Try.ntmps5
  go_upto_region 1 with (fail)
  clear hV
  go_wp2_with fail
  refine (alive8 V).mono ?_
  rintro e w1 ⟨rfl, hst⟩
  clear c_q_s0 c_q_s1 c_q_s2 c_q_s3
  obtain ⟨q_s, O_s, B_b, hB⟩ := HQ.out
  clear HQ
  have sz_w1 : V.heap.size ≤ w1.heap.size := hst.size
  replace q_s := q_s.step hst
  replace O_s := O_s.step hst
  replace B_b := B_b.step hst
  replace hB := hB.step hst
  clear hst
  have HQ := Lib.hid (And.intro q_s (And.intro O_s (And.intro B_b hB)))
  clear q_s O_s B_b hB
  have c_q_s0 := LK.cell HQ.out.1 0
  have c_q_s1 := LK.cell HQ.out.1 1
  have c_q_s2 := LK.cell HQ.out.1 2
  have c_q_s3 := LK.cell HQ.out.1 3
  simp at c_q_s0 c_q_s1 c_q_s2 c_q_s3
  go_wp2_with fail
  refine (HC.out.1 _ _ _ _ _ HQ.out.2.1.v).mono ?_
  rintro e w2 ⟨g, rfl, hst, -⟩
  clear c_q_s0 c_q_s1 c_q_s2 c_q_s3
  obtain ⟨q_s, O_s, B_b, hB⟩ := HQ.out
  clear HQ
  have sz_w2 : w1.heap.size ≤ w2.heap.size := hst.size
  replace q_s := q_s.step hst
  replace O_s := O_s.step hst
  replace B_b := B_b.step hst
  replace hB := hB.step hst
  clear hst
  have HQ := Lib.hid (And.intro q_s (And.intro O_s (And.intro B_b hB)))
  clear q_s O_s B_b hB
  have c_q_s0 := LK.cell HQ.out.1 0
  have c_q_s1 := LK.cell HQ.out.1 1
  have c_q_s2 := LK.cell HQ.out.1 2
  have c_q_s3 := LK.cell HQ.out.1 3
  simp at c_q_s0 c_q_s1 c_q_s2 c_q_s3
  cases g
  case true =>
    go_wp2
    go_ret
    exact ⟨rfl, HQ.out.2.2.2⟩
  by_cases hl : 10000 < b.length
  · have i1 : (10000 : Int) < b.length := by omega
    go_wp2
    go_ret
    exact ⟨rfl, HQ.out.2.2.2⟩
  have i1 : decide ((10000 : Int) < b.length) = false := by simp; omega
  go_wp2_with fail
  refine (HC.out.2.1 _ _ _ _ _ HQ.out.2.1.v).mono ?_
  rintro e w3 ⟨rfl, hst⟩
  clear c_q_s0 c_q_s1 c_q_s2 c_q_s3
  obtain ⟨q_s, O_s, B_b, hB⟩ := HQ.out
  clear HQ
  have sz_w3 : w2.heap.size ≤ w3.heap.size := hst.size
  replace q_s := q_s.step hst
  replace O_s := O_s.step hst
  replace B_b := B_b.step hst
  replace hB := hB.step hst
  clear hst
  have HQ := Lib.hid (And.intro q_s (And.intro O_s (And.intro B_b hB)))
  clear q_s O_s B_b hB
  have c_q_s0 := LK.cell HQ.out.1 0
  have c_q_s1 := LK.cell HQ.out.1 1
  have c_q_s2 := LK.cell HQ.out.1 2
  have c_q_s3 := LK.cell HQ.out.1 3
  simp at c_q_s0 c_q_s1 c_q_s2 c_q_s3
  rcases hes with ⟨-, rfl⟩ | ⟨hmy, rfl⟩
  · skip
    go_wp2
    go_ret
    exact ⟨rfl, HQ.out.2.2.2⟩
  go_wp2_with fail
  clear i1 hl
  refine (HC.out.2.2.1 _ _ _ _ _ HQ.out.2.1.v).mono ?_
  rintro e w4 ⟨v_f, rfl, hS, hst⟩
  clear c_q_s0 c_q_s1 c_q_s2 c_q_s3
  obtain ⟨q_s, O_s, B_b, hB⟩ := HQ.out
  clear HQ
  have S_f := LS.of hS (Nat.le_refl _)
  obtain ⟨a_f, c_f, rfl, -, -, -, -⟩ := hS
  obtain ⟨n_f, hn_f⟩ : ∃ n, FL.length = n := ⟨_, rfl⟩
  rw [hn_f] at S_f ⊢
  have HL_f := Lib.hid hn_f
  clear hn_f
  have sz_w4 : w3.heap.size ≤ w4.heap.size := hst.size
  replace q_s := q_s.step hst
  replace O_s := O_s.step hst
  replace B_b := B_b.step hst
  replace hB := hB.step hst
  clear hst
  have HQ := Lib.hid (And.intro q_s (And.intro O_s (And.intro B_b (And.intro S_f hB))))
  clear q_s O_s B_b S_f hB
  have c_q_s0 := LK.cell HQ.out.1 0
  have c_q_s1 := LK.cell HQ.out.1 1
  have c_q_s2 := LK.cell HQ.out.1 2
  have c_q_s3 := LK.cell HQ.out.1 3
  simp at c_q_s0 c_q_s1 c_q_s2 c_q_s3
  go_wp2_with fail
  refine (HC.out.2.2.2.1 _ _ _ _ _ _ HQ.out.2.1.v HQ.out.2.2.1.v).mono ?_
  rintro e w5 ⟨b1, u1, x1, y1, rfl, hm⟩
  clear c_q_s0 c_q_s1 c_q_s2 c_q_s3
  obtain ⟨q_s, O_s, B_b, S_f, hB⟩ := HQ.out
  clear HQ
  have P_t := LP.of hm
  have hst := hm.below
  obtain ⟨ab_t, cb_t, rfl, -, -, -, -⟩ := hm.store.v.1.1
  obtain ⟨au_t, cu_t, rfl, -, -, -, -⟩ := hm.store.v.1.2
  obtain ⟨ax_t, cx_t, rfl, -, -⟩ := hm.store.v.2.1.form rfl
  obtain ⟨ay_t, cy_t, rfl, -, -⟩ := hm.store.v.2.2.form rfl
  clear hm
  have sz_w5 : w4.heap.size ≤ w5.heap.size := hst.size
  replace q_s := q_s.step hst
  replace O_s := O_s.step hst
  replace B_b := B_b.step hst
  replace S_f := S_f.step hst
  replace hB := hB.step hst
  clear hst
  have HQ := Lib.hid (And.intro q_s (And.intro O_s (And.intro B_b (And.intro S_f (And.intro P_t hB)))))
  clear q_s O_s B_b S_f P_t hB
  have c_q_s0 := LK.cell HQ.out.1 0
  have c_q_s1 := LK.cell HQ.out.1 1
  have c_q_s2 := LK.cell HQ.out.1 2
  have c_q_s3 := LK.cell HQ.out.1 3
  simp at c_q_s0 c_q_s1 c_q_s2 c_q_s3
  go_upto_region 6 with (fail)
  clear c_q_s0 c_q_s1 c_q_s2 c_q_s3
  obtain ⟨q_s, O_s, B_b, S_f, P_t, hB⟩ := HQ.out
  clear HQ
  have hst := (Below.refl w5.heap.size w5).alloc (Nat.le_refl _) (.cells #[.slice ab_t T.disk.blocks.length cb_t, .slice au_t T.disk.waits.length cu_t, .slice ax_t T.now.length cx_t, .slice ay_t T.last.length cy_t] 28)
  have hlt : w5.heap.size < (w5.alloc (.cells #[.slice ab_t T.disk.blocks.length cb_t, .slice au_t T.disk.waits.length cu_t, .slice ax_t T.now.length cx_t, .slice ay_t T.last.length cy_t] 28)).heap.size := by simp
  have q_t := LK.new w5 (.cells #[.slice ab_t T.disk.blocks.length cb_t, .slice au_t T.disk.waits.length cu_t, .slice ax_t T.now.length cx_t, .slice ay_t T.last.length cy_t] 28)
  replace q_s := q_s.step hst
  replace O_s := O_s.step hst
  replace B_b := B_b.step hst
  replace S_f := S_f.step hst
  replace P_t := P_t.step hst
  replace hB := hB.step hst
  obtain ⟨w6, hw⟩ : ∃ v, w5.alloc (.cells #[.slice ab_t T.disk.blocks.length cb_t, .slice au_t T.disk.waits.length cu_t, .slice ax_t T.now.length cx_t, .slice ay_t T.last.length cy_t] 28) = v := ⟨_, rfl⟩
  rw [hw] at hlt q_t q_s O_s B_b S_f P_t hB ⊢
  clear hw hst
  have sz_w6 := hlt
  clear hlt
  have HQ := Lib.hid (And.intro q_s (And.intro O_s (And.intro B_b (And.intro S_f (And.intro P_t (And.intro q_t hB))))))
  clear q_s O_s B_b S_f P_t q_t hB
  have c_q_s0 := LK.cell HQ.out.1 0
  have c_q_s1 := LK.cell HQ.out.1 1
  have c_q_s2 := LK.cell HQ.out.1 2
  have c_q_s3 := LK.cell HQ.out.1 3
  have c_q_t0 := LK.cell HQ.out.2.2.2.2.2.1 0
  have c_q_t1 := LK.cell HQ.out.2.2.2.2.2.1 1
  have c_q_t2 := LK.cell HQ.out.2.2.2.2.2.1 2
  have c_q_t3 := LK.cell HQ.out.2.2.2.2.2.1 3
  simp at c_q_s0 c_q_s1 c_q_s2 c_q_s3 c_q_t0 c_q_t1 c_q_t2 c_q_t3
  obtain ⟨sh, hsh⟩ : ∃ sh : Bool, sh = decide (et = 0) := ⟨_, rfl⟩
  have hshd := HN.out.2.1 hmy
  rw [HL_f.out] at hshd
  go_cut [13] (fun t wx => t = .bool sh ∧ Below w6.heap.size w6 wx)
  case first =>
    by_cases a1 : 0 < n_f
    case neg =>
      obtain rfl : n_f = 0 := by omega
      obtain rfl : sh = false := by rw [hsh]; simp; intro e; exact absurd (hshd.1 e).1 (by omega)
      clear hsh hshd
      go_wp2
      go_meet
      exact ⟨rfl, Below.refl _ _⟩
    have j1 : (0 : Int) < n_f := by omega
    by_cases a2 : b.length = 128
    case neg =>
      obtain rfl : sh = false := by rw [hsh]; simp; intro e; exact a2 (hshd.1 e).2.1
      have j2 : ¬ (b.length : Int) = 128 := by omega
      clear hsh hshd a2
      go_wp2
      go_meet
      exact ⟨rfl, Below.refl _ _⟩
    have j2 : (b.length : Int) = 128 := by omega
    by_cases a3 : s.disk.waits.length < 4096
    case neg =>
      obtain rfl : sh = false := by rw [hsh]; simp; intro e; exact a3 (hshd.1 e).2.2
      have j3 : ¬ (s.disk.waits.length : Int) < 4096 := by omega
      clear hsh hshd a2 a3
      go_wp2
      go_meet
      exact ⟨rfl, Below.refl _ _⟩
    obtain rfl : sh = true := by rw [hsh]; simp; exact hshd.2 ⟨a1, a2, a3⟩
    have j3 : (s.disk.waits.length : Int) < 4096 := by omega
    clear hsh hshd a2 a3 a1
    go_wp2
    go_meet
    exact ⟨rfl, Below.refl _ _⟩
  case rest =>
  obtain ⟨rfl, hst⟩ := hcut
  obtain ⟨wc, hwc⟩ := named_w hst
  subst hwc
  clear c_q_s0 c_q_s1 c_q_s2 c_q_s3 c_q_t0 c_q_t1 c_q_t2 c_q_t3
  obtain ⟨q_s, O_s, B_b, S_f, P_t, q_t, hB⟩ := HQ.out
  clear HQ
  have sz_wc : w6.heap.size ≤ wc.heap.size := hst.size
  replace q_s := q_s.step hst
  replace O_s := O_s.step hst
  replace B_b := B_b.step hst
  replace S_f := S_f.step hst
  replace P_t := P_t.step hst
  replace q_t := q_t.step hst
  replace hB := hB.step hst
  clear hst
  have HQ := Lib.hid (And.intro q_s (And.intro O_s (And.intro B_b (And.intro S_f (And.intro P_t (And.intro q_t hB))))))
  clear q_s O_s B_b S_f P_t q_t hB
  have c_q_s0 := LK.cell HQ.out.1 0
  have c_q_s1 := LK.cell HQ.out.1 1
  have c_q_s2 := LK.cell HQ.out.1 2
  have c_q_s3 := LK.cell HQ.out.1 3
  have c_q_t0 := LK.cell HQ.out.2.2.2.2.2.1 0
  have c_q_t1 := LK.cell HQ.out.2.2.2.2.2.1 1
  have c_q_t2 := LK.cell HQ.out.2.2.2.2.2.1 2
  have c_q_t3 := LK.cell HQ.out.2.2.2.2.2.1 3
  simp at c_q_s0 c_q_s1 c_q_s2 c_q_s3 c_q_t0 c_q_t1 c_q_t2 c_q_t3
  by_cases hz : et = 0
  case neg =>
    have i1 : (et == 0) = false := by simp [hz]
    obtain rfl : sh = false := by rw [hsh]; simp [hz]
    clear hsh hshd
    go_wp2_with fail
    refine (HC.out.2.2.2.2.1 _ _ _ _ _ HQ.out.2.1.v).mono ?_
    rintro e w7 ⟨b2, u2, x2, y2, rfl, hm⟩
    clear c_q_s0 c_q_s1 c_q_s2 c_q_s3 c_q_t0 c_q_t1 c_q_t2 c_q_t3
    obtain ⟨q_s, O_s, B_b, S_f, P_t, q_t, hB⟩ := HQ.out
    clear HQ
    have P_x := LP.of hm
    have hst := hm.below
    obtain ⟨ab_x, cb_x, rfl, -, -, -, -⟩ := hm.store.v.1.1
    obtain ⟨au_x, cu_x, rfl, -, -, -, -⟩ := hm.store.v.1.2
    obtain ⟨ax_x, cx_x, rfl, -, -⟩ := hm.store.v.2.1.form rfl
    obtain ⟨ay_x, cy_x, rfl, -, -⟩ := hm.store.v.2.2.form rfl
    clear hm
    have sz_w7 : wc.heap.size ≤ w7.heap.size := hst.size
    replace q_s := q_s.step hst
    replace O_s := O_s.step hst
    replace B_b := B_b.step hst
    replace S_f := S_f.step hst
    replace P_t := P_t.step hst
    replace q_t := q_t.step hst
    replace hB := hB.step hst
    clear hst
    have HQ := Lib.hid (And.intro q_s (And.intro O_s (And.intro B_b (And.intro S_f (And.intro P_t (And.intro q_t (And.intro P_x hB)))))))
    clear q_s O_s B_b S_f P_t q_t P_x hB
    have c_q_s0 := LK.cell HQ.out.1 0
    have c_q_s1 := LK.cell HQ.out.1 1
    have c_q_s2 := LK.cell HQ.out.1 2
    have c_q_s3 := LK.cell HQ.out.1 3
    have c_q_t0 := LK.cell HQ.out.2.2.2.2.2.1 0
    have c_q_t1 := LK.cell HQ.out.2.2.2.2.2.1 1
    have c_q_t2 := LK.cell HQ.out.2.2.2.2.2.1 2
    have c_q_t3 := LK.cell HQ.out.2.2.2.2.2.1 3
    simp at c_q_s0 c_q_s1 c_q_s2 c_q_s3 c_q_t0 c_q_t1 c_q_t2 c_q_t3
    go_upto_region 19 with (fail)
    clear c_q_s0 c_q_s1 c_q_s2 c_q_s3 c_q_t0 c_q_t1 c_q_t2 c_q_t3
    obtain ⟨q_s, O_s, B_b, S_f, P_t, q_t, P_x, hB⟩ := HQ.out
    clear HQ
    have hst := (Below.refl w7.heap.size w7).alloc (Nat.le_refl _) (.cells #[.slice ab_x X.disk.blocks.length cb_x, .slice au_x X.disk.waits.length cu_x, .slice ax_x X.now.length cx_x, .slice ay_x X.last.length cy_x] 28)
    have hlt : w7.heap.size < (w7.alloc (.cells #[.slice ab_x X.disk.blocks.length cb_x, .slice au_x X.disk.waits.length cu_x, .slice ax_x X.now.length cx_x, .slice ay_x X.last.length cy_x] 28)).heap.size := by simp
    have q_x := LK.new w7 (.cells #[.slice ab_x X.disk.blocks.length cb_x, .slice au_x X.disk.waits.length cu_x, .slice ax_x X.now.length cx_x, .slice ay_x X.last.length cy_x] 28)
    replace q_s := q_s.step hst
    replace O_s := O_s.step hst
    replace B_b := B_b.step hst
    replace S_f := S_f.step hst
    replace P_t := P_t.step hst
    replace q_t := q_t.step hst
    replace P_x := P_x.step hst
    replace hB := hB.step hst
    obtain ⟨w8, hw⟩ : ∃ v, w7.alloc (.cells #[.slice ab_x X.disk.blocks.length cb_x, .slice au_x X.disk.waits.length cu_x, .slice ax_x X.now.length cx_x, .slice ay_x X.last.length cy_x] 28) = v := ⟨_, rfl⟩
    rw [hw] at hlt q_x q_s O_s B_b S_f P_t q_t P_x hB ⊢
    clear hw hst
    have sz_w8 := hlt
    clear hlt
    have HQ := Lib.hid (And.intro q_s (And.intro O_s (And.intro B_b (And.intro S_f (And.intro P_t (And.intro q_t (And.intro P_x (And.intro q_x hB))))))))
    clear q_s O_s B_b S_f P_t q_t P_x q_x hB
    have c_q_s0 := LK.cell HQ.out.1 0
    have c_q_s1 := LK.cell HQ.out.1 1
    have c_q_s2 := LK.cell HQ.out.1 2
    have c_q_s3 := LK.cell HQ.out.1 3
    have c_q_t0 := LK.cell HQ.out.2.2.2.2.2.1 0
    have c_q_t1 := LK.cell HQ.out.2.2.2.2.2.1 1
    have c_q_t2 := LK.cell HQ.out.2.2.2.2.2.1 2
    have c_q_t3 := LK.cell HQ.out.2.2.2.2.2.1 3
    have c_q_x0 := LK.cell HQ.out.2.2.2.2.2.2.2.1 0
    have c_q_x1 := LK.cell HQ.out.2.2.2.2.2.2.2.1 1
    have c_q_x2 := LK.cell HQ.out.2.2.2.2.2.2.2.1 2
    have c_q_x3 := LK.cell HQ.out.2.2.2.2.2.2.2.1 3
    simp at c_q_s0 c_q_s1 c_q_s2 c_q_s3 c_q_t0 c_q_t1 c_q_t2 c_q_t3 c_q_x0 c_q_x1 c_q_x2 c_q_x3
    by_cases hzx : ex = 0
    case neg =>
      have hX := HN.out.2.2.2.2.1 hzx
      subst hX
      have i1 : (ex != 0) = true := by simp [hzx]
      have hl0 : noS.now.length = 0 := rfl
      go_wp2
      go_ret
      exact ⟨rfl, HQ.out.2.2.2.2.2.2.2.2⟩
    subst hzx
    obtain ⟨pn, z, rfl, h8, h9, hz0, hz1, hsl, htl, htd, -, hsz, htz, -⟩ := HN.out.2.2.1 rfl
    obtain ⟨hf1, hf2⟩ := HN.out.2.2.2.1 rfl
    have k_z := HC.out.2.2.2.2.2.2.1
    rw [hf1, hf2] at k_z
    have hd : decide (X.disk = s.disk) = true := by simp [htd]
    have kd := HC.out.2.2.2.2.2.2.2
    rw [hd] at kd
    have KD := Lib.hid kd
    have KZ := Lib.hid k_z
    have HSL := Lib.hid (And.intro hsl htl)
    clear kd k_z hd hf1 hf2 htd hsl htl
    go_wp2_with fail
    refine (KZ.out _ _ _ _ _ HQ.out.2.2.2.2.2.2.1.v).mono ?_
    rintro e w9 ⟨v_z, rfl, hS, hst⟩
    clear c_q_s0 c_q_s1 c_q_s2 c_q_s3 c_q_t0 c_q_t1 c_q_t2 c_q_t3 c_q_x0 c_q_x1 c_q_x2 c_q_x3
    obtain ⟨q_s, O_s, B_b, S_f, P_t, q_t, P_x, q_x, hB⟩ := HQ.out
    clear HQ
    have S_z := LS.of hS (Nat.le_refl _)
    obtain ⟨a_z, c_z, rfl, -, -, -, -⟩ := hS
    rw [HL_f.out] at S_z ⊢
    have sz_w9 : w8.heap.size ≤ w9.heap.size := hst.size
    replace q_s := q_s.step hst
    replace O_s := O_s.step hst
    replace B_b := B_b.step hst
    replace S_f := S_f.step hst
    replace P_t := P_t.step hst
    replace q_t := q_t.step hst
    replace P_x := P_x.step hst
    replace q_x := q_x.step hst
    replace hB := hB.step hst
    clear hst
    have HQ := Lib.hid (And.intro q_s (And.intro O_s (And.intro B_b (And.intro S_f (And.intro P_t (And.intro q_t (And.intro P_x (And.intro q_x (And.intro S_z hB)))))))))
    clear q_s O_s B_b S_f P_t q_t P_x q_x S_z hB
    have c_q_s0 := LK.cell HQ.out.1 0
    have c_q_s1 := LK.cell HQ.out.1 1
    have c_q_s2 := LK.cell HQ.out.1 2
    have c_q_s3 := LK.cell HQ.out.1 3
    have c_q_t0 := LK.cell HQ.out.2.2.2.2.2.1 0
    have c_q_t1 := LK.cell HQ.out.2.2.2.2.2.1 1
    have c_q_t2 := LK.cell HQ.out.2.2.2.2.2.1 2
    have c_q_t3 := LK.cell HQ.out.2.2.2.2.2.1 3
    have c_q_x0 := LK.cell HQ.out.2.2.2.2.2.2.2.1 0
    have c_q_x1 := LK.cell HQ.out.2.2.2.2.2.2.2.1 1
    have c_q_x2 := LK.cell HQ.out.2.2.2.2.2.2.2.1 2
    have c_q_x3 := LK.cell HQ.out.2.2.2.2.2.2.2.1 3
    simp at c_q_s0 c_q_s1 c_q_s2 c_q_s3 c_q_t0 c_q_t1 c_q_t2 c_q_t3 c_q_x0 c_q_x1 c_q_x2 c_q_x3
    obtain ⟨hsl, htl⟩ := HSL.out
    clear HSL
    obtain ⟨nb, no, nc, e1, -, zb, z1, zc, hcs⟩ := HQ.out.2.1.n.at_n hsl (by omega)
    injection e1 with e1 el e2
    subst e1 e2
    clear el
    obtain ⟨tb, tf, tc, e1, -, zd, z2, ze, hct⟩ := HQ.out.2.2.2.2.2.2.1.n.at_n htl (by omega)
    injection e1 with e1 el e2
    subst e1 e2
    clear el
    unfold maxLen at zc ze
    clear c_q_s0 c_q_s1 c_q_s2 c_q_s3 c_q_t0 c_q_t1 c_q_t2 c_q_t3 c_q_x0 c_q_x1 c_q_x2 c_q_x3
    have a0 := fun X => LK.cell (HQ.out.1.step (aft_below w9 X)) 0
    have a1 := fun X => LK.cell (HQ.out.1.step (aft_below w9 X)) 1
    have a2 := fun X => LK.cell (HQ.out.1.step (aft_below w9 X)) 2
    have a3 := fun X => LK.cell (HQ.out.1.step (aft_below w9 X)) 3
    have b0 := fun X => LK.cell (HQ.out.2.2.2.2.2.2.2.1.step (aft_below w9 X)) 0
    have b1 := fun X => LK.cell (HQ.out.2.2.2.2.2.2.2.1.step (aft_below w9 X)) 1
    have b2 := fun X => LK.cell (HQ.out.2.2.2.2.2.2.2.1.step (aft_below w9 X)) 2
    have b3 := fun X => LK.cell (HQ.out.2.2.2.2.2.2.2.1.step (aft_below w9 X)) 3
    simp at a0 a1 a2 a3 b0 b1 b2 b3
    simp only [hsl] at a2
    simp only [htl] at b2
    have f1 := fun X => ((aft_below w9 X).cell (p := ⟨nb, no + pn, none⟩) zb).trans (hcs pn (s.now.getD pn 0) (get_l _ _ _ (by omega)))
    have f2 := fun Y => ((aft_below w9 Y).cell (p := ⟨tb, tf + pn, none⟩) zd).trans (hct pn (X.now.getD pn 0) (get_l _ _ _ (by omega)))
    simp only [bV, hsz, htz] at f1 f2
    clear hcs hct hsl htl hsz htz
    have i3 : ¬ (256 : Int) ≤ pn := by omega
    have i5 : ((z + 1 : Nat) : Int) = (z : Int) + 1 := by omega
    simp only [i5] at f2
    have i6 : IntKind.u8.wrap ((z : Int) + 1) = (z : Int) + 1 := by rw [IntKind.wrap_u8]; omega
    clear i5
    go_upto_region 22 with (fail)
    refine wp_region_held_drew (S := Cls w9) (by kernel_rfl) (Cls.drew w9) (fun hCl => ?_)
    refine wpAnyH_seg (fuel := 3) (by kernel_rfl) (fun _ d _ _ _ h => by cases d <;> exact h) hCl [0, 1, 2, 3, 4, 5, 6, 7, 8, 9, 10, 11, 12, 13, 14, 15, 16, 17, 18, 19, 20, 21, 22, 23, 24, 25, 26, 27, 28, 29, 30] _ _ _ (by kernel_rfl) (by kernel_rfl) ?_
    simp only [opsOf_cons, opsOf_nil, consOp_some, List.getElem?_toArray, List.getElem?_cons_succ, List.getElem?_cons_zero]
    repeat (first | go_big_quiet_step (fail) | quiet_step (fail))
    refine wpQuiet_nil ?_
    refine wpAnyH_each (fuel := 2) [31] (by kernel_rfl) (by simp) (by kernel_rfl) ?_
    refine Each.cons _ rfl (fun K' hK => ?_) Each.nil
    go_simp
    refine (KD.out _ _ _ _ _ (HQ.out.2.2.2.2.2.2.1.step hCl.below).d (HQ.out.2.1.step hCl.below).d).mono ?_
    rintro e zz1 ⟨rfl, hb⟩
    have hst := below_step hCl.below hCl.below.size hb
    clear hb
    have hCl := Cls.of hst
    refine hK.out (Cls w9) (fun _ h => h) hCl ?_
    clear hK K'
    refine wpAnyH_seg (fuel := 0) (by kernel_rfl) (fun _ d _ _ _ h => by cases d <;> exact h) hCl [32, 33] _ _ _ (by kernel_rfl) (by kernel_rfl) ?_
    simp only [opsOf_cons, opsOf_nil, consOp_some, List.getElem?_toArray, List.getElem?_cons_succ, List.getElem?_cons_zero]
    repeat (first | go_big_quiet_step (fail) | quiet_step (fail))
    refine wpQuiet_nil ?_
    refine wpAnyH_done (by kernel_rfl) ?_ _
    have hBf := LW.step HQ.out.2.2.2.2.2.2.2.2.2 hst
    go_wp2
    go_ret
    exact ⟨rfl, hBf⟩
  subst hz
  obtain rfl : sh = true := hsh
  obtain ⟨hn, ML, rfl, h8, h9, -, -, htl, -, rfl, hMl, hML, heT, -, -, ht1, -⟩ := HN.out.1 rfl
  have k_m := HC.out.2.2.2.2.2.1
  rw [heT, hML] at k_m
  have KM := Lib.hid k_m
  clear k_m heT hML hshd
  have hnf : n_f = ML.length + 1 := HL_f.out.symm
  have HNF := Lib.hid hnf
  have HTL := Lib.hid htl
  clear hnf htl
  go_wp2_with fail
  refine (KM.out _ _ _ _ _ HQ.out.2.2.2.2.1.v).mono ?_
  rintro e w7 ⟨v_g, rfl, hS, hst⟩
  clear c_q_s0 c_q_s1 c_q_s2 c_q_s3 c_q_t0 c_q_t1 c_q_t2 c_q_t3
  obtain ⟨q_s, O_s, B_b, S_f, P_t, q_t, hB⟩ := HQ.out
  clear HQ
  have S_g := LS.of hS (Nat.le_refl _)
  obtain ⟨a_g, c_g, rfl, -, -, -, -⟩ := hS
  obtain ⟨n_g, hn_g⟩ : ∃ n, ML.length = n := ⟨_, rfl⟩
  rw [hn_g] at S_g ⊢
  have HL_g := Lib.hid hn_g
  clear hn_g
  have sz_w7 : wc.heap.size ≤ w7.heap.size := hst.size
  replace q_s := q_s.step hst
  replace O_s := O_s.step hst
  replace B_b := B_b.step hst
  replace S_f := S_f.step hst
  replace P_t := P_t.step hst
  replace q_t := q_t.step hst
  replace hB := hB.step hst
  clear hst
  have HQ := Lib.hid (And.intro q_s (And.intro O_s (And.intro B_b (And.intro S_f (And.intro P_t (And.intro q_t (And.intro S_g hB)))))))
  clear q_s O_s B_b S_f P_t q_t S_g hB
  have c_q_s0 := LK.cell HQ.out.1 0
  have c_q_s1 := LK.cell HQ.out.1 1
  have c_q_s2 := LK.cell HQ.out.1 2
  have c_q_s3 := LK.cell HQ.out.1 3
  have c_q_t0 := LK.cell HQ.out.2.2.2.2.2.1 0
  have c_q_t1 := LK.cell HQ.out.2.2.2.2.2.1 1
  have c_q_t2 := LK.cell HQ.out.2.2.2.2.2.1 2
  have c_q_t3 := LK.cell HQ.out.2.2.2.2.2.1 3
  simp at c_q_s0 c_q_s1 c_q_s2 c_q_s3 c_q_t0 c_q_t1 c_q_t2 c_q_t3
  have htl := HTL.out
  clear HTL
  have hfg : n_f = n_g + 1 := by have := HL_g.out; have := HNF.out; omega
  have hng : n_g ≤ 256 := by have := HL_g.out; omega
  obtain ⟨fb, ff, fc, e1, -, zf, yf, xf, hcf⟩ := HQ.out.2.2.2.1.v.at_ (by simp)
  injection e1 with e1 el e2
  subst e1 e2
  clear el
  unfold maxLen at xf
  rw [List.length_cons, HL_g.out] at yf
  have f4 := (hcf 0 (hn : Int) rfl).1
  simp [rInt] at f4
  obtain ⟨tb, tf, tc, e1, -, zt, yt, xt, hct⟩ := HQ.out.2.2.2.2.1.n.at_n htl (by omega)
  injection e1 with e1 el e2
  subst e1 e2
  clear el
  unfold maxLen at xt
  have f3 := hct hn (T.now.getD hn 0) (get_l _ _ _ (by omega))
  rw [ht1] at f3
  have e1 : bV 1 = .int .u8 1 := rfl
  rw [e1] at f3
  clear e1
  clear c_q_s0 c_q_s1 c_q_s2 c_q_s3 c_q_t0 c_q_t1 c_q_t2 c_q_t3
  have c_q_s0 := LK.cell HQ.out.1 0
  have c_q_s1 := LK.cell HQ.out.1 1
  have c_q_s2 := LK.cell HQ.out.1 2
  have c_q_s3 := LK.cell HQ.out.1 3
  have c_q_t0 := LK.cell HQ.out.2.2.2.2.2.1 0
  have c_q_t1 := LK.cell HQ.out.2.2.2.2.2.1 1
  have c_q_t2 := LK.cell HQ.out.2.2.2.2.2.1 2
  have c_q_t3 := LK.cell HQ.out.2.2.2.2.2.1 3
  simp at c_q_s0 c_q_s1 c_q_s2 c_q_s3 c_q_t0 c_q_t1 c_q_t2 c_q_t3
  rw [htl] at c_q_t2
  have i1 : ¬ (256 : Int) ≤ hn := by omega
  have i15 : IntKind.i64.wrap ((n_f : Int) - 1) = (n_g : Int) := by rw [IntWalk.i64_in _ (by omega)]; omega
  have i16 : (0 : Int) < n_f := by omega
  have i17 : 0 < n_f := by omega
  have HCT := Lib.hid (And.intro hcf htl)
  clear hct hcf htl ht1 hMl
  go_wp2_with fail
  go_loopw [16] (fun i wr => ∃ j : Nat, j ≤ n_g ∧ i = .int .i64 j ∧ Below w7.heap.size w7 wr) (fun i _ => n_g - (intOf i).toNat)
  case atStart => exact ⟨0, by omega, rfl, Below.refl _ _⟩
  case round =>
  obtain ⟨j, hj, rfl, hBr⟩ := hrel
  clear f3 f4 i15 i16 i17 i1
  clear c_q_s0 c_q_s1 c_q_s2 c_q_s3 c_q_t0 c_q_t1 c_q_t2 c_q_t3
  by_cases hlt : j < n_g
  · have i5 : ¬ (n_g : Int) ≤ j := by omega
    obtain ⟨gb, gf, gc, e1, -, zg, yg, xg, hcg⟩ := (HQ.out.2.2.2.2.2.2.1.step hBr).v.at_ (by have := HL_g.out; omega)
    injection e1 with e1 el e2
    subst e1 e2
    rw [HL_g.out] at yg
    clear el
    unfold maxLen at xg
    have hjm : j < ML.length := by have := HL_g.out; omega
    have n1 := (hcg j (ML.getD j 0) (get_l _ _ _ hjm)).1
    have n2 := ((HQ.out.2.2.2.1.step hBr).v.cellAt (j + 1) (ML.getD j 0) (by rw [List.getElem?_cons_succ]; exact get_l _ _ _ hjm)).1
    obtain ⟨cv, hcv⟩ : ∃ c, ML.getD j 0 = c := ⟨_, rfl⟩
    rw [hcv] at n1 n2
    simp [rInt] at n1 n2
    clear hcg hcv hjm
    have i6 : IntKind.i64.wrap ((j : Int) + 1) = ((j + 1 : Nat) : Int) := by rw [IntWalk.i64_in _ (by omega)]; omega
    have i7 : ((j + 1 : Nat) : Int) < n_f := by omega
    have i8 : (j : Int) < n_g := by omega
    have i9 : j + 1 < n_f := by omega
    have HBR := Lib.hid hBr
    clear hBr
    go_wp2_with fail
    go_quiet (fail)
    go_wp2
    go_roundw
    case rel => exact ⟨j + 1, by omega, by go_num, HBR.out.trans (below_dn _ _ _)⟩
    case measure => simp [intOf]; omega
  obtain rfl : j = n_g := by omega
  have hst := hBr
  clear hBr hj hlt
  obtain ⟨q_s, O_s, B_b, S_f, P_t, q_t, S_g, hB⟩ := HQ.out
  clear HQ
  have sz_wr : w7.heap.size ≤ wr.heap.size := hst.size
  replace q_s := q_s.step hst
  replace O_s := O_s.step hst
  replace B_b := B_b.step hst
  replace S_f := S_f.step hst
  replace P_t := P_t.step hst
  replace q_t := q_t.step hst
  replace S_g := S_g.step hst
  replace hB := hB.step hst
  clear hst
  have HQ := Lib.hid (And.intro q_s (And.intro O_s (And.intro B_b (And.intro S_f (And.intro P_t (And.intro q_t (And.intro S_g hB)))))))
  clear q_s O_s B_b S_f P_t q_t S_g hB
  have c_q_s0 := LK.cell HQ.out.1 0
  have c_q_s1 := LK.cell HQ.out.1 1
  have c_q_s2 := LK.cell HQ.out.1 2
  have c_q_s3 := LK.cell HQ.out.1 3
  have c_q_t0 := LK.cell HQ.out.2.2.2.2.2.1 0
  have c_q_t1 := LK.cell HQ.out.2.2.2.2.2.1 1
  have c_q_t2 := LK.cell HQ.out.2.2.2.2.2.1 2
  have c_q_t3 := LK.cell HQ.out.2.2.2.2.2.1 3
  simp at c_q_s0 c_q_s1 c_q_s2 c_q_s3 c_q_t0 c_q_t1 c_q_t2 c_q_t3
  go_wp2_with fail
  refine (HC.out.2.2.2.2.1 _ _ _ _ _ HQ.out.2.1.v).mono ?_
  rintro e w8 ⟨b2, u2, x2, y2, rfl, hm⟩
  clear c_q_s0 c_q_s1 c_q_s2 c_q_s3 c_q_t0 c_q_t1 c_q_t2 c_q_t3
  obtain ⟨q_s, O_s, B_b, S_f, P_t, q_t, S_g, hB⟩ := HQ.out
  clear HQ
  have P_x := LP.of hm
  have hst := hm.below
  obtain ⟨ab_x, cb_x, rfl, -, -, -, -⟩ := hm.store.v.1.1
  obtain ⟨au_x, cu_x, rfl, -, -, -, -⟩ := hm.store.v.1.2
  obtain ⟨ax_x, cx_x, rfl, -, -⟩ := hm.store.v.2.1.form rfl
  obtain ⟨ay_x, cy_x, rfl, -, -⟩ := hm.store.v.2.2.form rfl
  clear hm
  have sz_w8 : wr.heap.size ≤ w8.heap.size := hst.size
  replace q_s := q_s.step hst
  replace O_s := O_s.step hst
  replace B_b := B_b.step hst
  replace S_f := S_f.step hst
  replace P_t := P_t.step hst
  replace q_t := q_t.step hst
  replace S_g := S_g.step hst
  replace hB := hB.step hst
  clear hst
  have HQ := Lib.hid (And.intro q_s (And.intro O_s (And.intro B_b (And.intro S_f (And.intro P_t (And.intro q_t (And.intro S_g (And.intro P_x hB))))))))
  clear q_s O_s B_b S_f P_t q_t S_g P_x hB
  have c_q_s0 := LK.cell HQ.out.1 0
  have c_q_s1 := LK.cell HQ.out.1 1
  have c_q_s2 := LK.cell HQ.out.1 2
  have c_q_s3 := LK.cell HQ.out.1 3
  have c_q_t0 := LK.cell HQ.out.2.2.2.2.2.1 0
  have c_q_t1 := LK.cell HQ.out.2.2.2.2.2.1 1
  have c_q_t2 := LK.cell HQ.out.2.2.2.2.2.1 2
  have c_q_t3 := LK.cell HQ.out.2.2.2.2.2.1 3
  simp at c_q_s0 c_q_s1 c_q_s2 c_q_s3 c_q_t0 c_q_t1 c_q_t2 c_q_t3
  go_upto_region 19 with (fail)
  clear c_q_s0 c_q_s1 c_q_s2 c_q_s3 c_q_t0 c_q_t1 c_q_t2 c_q_t3
  obtain ⟨q_s, O_s, B_b, S_f, P_t, q_t, S_g, P_x, hB⟩ := HQ.out
  clear HQ
  have hst := (Below.refl w8.heap.size w8).alloc (Nat.le_refl _) (.cells #[.slice ab_x X.disk.blocks.length cb_x, .slice au_x X.disk.waits.length cu_x, .slice ax_x X.now.length cx_x, .slice ay_x X.last.length cy_x] 28)
  have hlt : w8.heap.size < (w8.alloc (.cells #[.slice ab_x X.disk.blocks.length cb_x, .slice au_x X.disk.waits.length cu_x, .slice ax_x X.now.length cx_x, .slice ay_x X.last.length cy_x] 28)).heap.size := by simp
  have q_x := LK.new w8 (.cells #[.slice ab_x X.disk.blocks.length cb_x, .slice au_x X.disk.waits.length cu_x, .slice ax_x X.now.length cx_x, .slice ay_x X.last.length cy_x] 28)
  replace q_s := q_s.step hst
  replace O_s := O_s.step hst
  replace B_b := B_b.step hst
  replace S_f := S_f.step hst
  replace P_t := P_t.step hst
  replace q_t := q_t.step hst
  replace S_g := S_g.step hst
  replace P_x := P_x.step hst
  replace hB := hB.step hst
  obtain ⟨w9, hw⟩ : ∃ v, w8.alloc (.cells #[.slice ab_x X.disk.blocks.length cb_x, .slice au_x X.disk.waits.length cu_x, .slice ax_x X.now.length cx_x, .slice ay_x X.last.length cy_x] 28) = v := ⟨_, rfl⟩
  rw [hw] at hlt q_x q_s O_s B_b S_f P_t q_t S_g P_x hB ⊢
  clear hw hst
  have sz_w9 := hlt
  clear hlt
  have HQ := Lib.hid (And.intro q_s (And.intro O_s (And.intro B_b (And.intro S_f (And.intro P_t (And.intro q_t (And.intro S_g (And.intro P_x (And.intro q_x hB)))))))))
  clear q_s O_s B_b S_f P_t q_t S_g P_x q_x hB
  have c_q_s0 := LK.cell HQ.out.1 0
  have c_q_s1 := LK.cell HQ.out.1 1
  have c_q_s2 := LK.cell HQ.out.1 2
  have c_q_s3 := LK.cell HQ.out.1 3
  have c_q_t0 := LK.cell HQ.out.2.2.2.2.2.1 0
  have c_q_t1 := LK.cell HQ.out.2.2.2.2.2.1 1
  have c_q_t2 := LK.cell HQ.out.2.2.2.2.2.1 2
  have c_q_t3 := LK.cell HQ.out.2.2.2.2.2.1 3
  have c_q_x0 := LK.cell HQ.out.2.2.2.2.2.2.2.2.1 0
  have c_q_x1 := LK.cell HQ.out.2.2.2.2.2.2.2.2.1 1
  have c_q_x2 := LK.cell HQ.out.2.2.2.2.2.2.2.2.1 2
  have c_q_x3 := LK.cell HQ.out.2.2.2.2.2.2.2.2.1 3
  simp at c_q_s0 c_q_s1 c_q_s2 c_q_s3 c_q_t0 c_q_t1 c_q_t2 c_q_t3 c_q_x0 c_q_x1 c_q_x2 c_q_x3
  by_cases hzx : ex = 0
  case neg =>
    have hX := HN.out.2.2.2.2.1 hzx
    subst hX
    have i1 : (ex != 0) = true := by simp [hzx]
    have hl0 : noS.now.length = 0 := rfl
    go_wp2
    go_ret
    exact ⟨rfl, HQ.out.2.2.2.2.2.2.2.2.2⟩
  subst hzx
  obtain ⟨pn, z, rfl, h8, h9, hz0, hz1, hsl, htl, htd, -, hsz, htz, -⟩ := HN.out.2.2.1 rfl
  obtain ⟨hf1, hf2⟩ := HN.out.2.2.2.1 rfl
  have k_z := HC.out.2.2.2.2.2.2.1
  rw [hf1, hf2] at k_z
  have hd : decide (X.disk = s.disk) = true := by simp [htd]
  have kd := HC.out.2.2.2.2.2.2.2
  rw [hd] at kd
  have KD := Lib.hid kd
  have KZ := Lib.hid k_z
  have HSL := Lib.hid (And.intro hsl htl)
  clear kd k_z hd hf1 hf2 htd hsl htl
  go_wp2_with fail
  refine (KZ.out _ _ _ _ _ HQ.out.2.2.2.2.2.2.2.1.v).mono ?_
  rintro e w10 ⟨v_z, rfl, hS, hst⟩
  clear c_q_s0 c_q_s1 c_q_s2 c_q_s3 c_q_t0 c_q_t1 c_q_t2 c_q_t3 c_q_x0 c_q_x1 c_q_x2 c_q_x3
  obtain ⟨q_s, O_s, B_b, S_f, P_t, q_t, S_g, P_x, q_x, hB⟩ := HQ.out
  clear HQ
  have S_z := LS.of hS (Nat.le_refl _)
  obtain ⟨a_z, c_z, rfl, -, -, -, -⟩ := hS
  rw [HL_f.out] at S_z ⊢
  have sz_w10 : w9.heap.size ≤ w10.heap.size := hst.size
  replace q_s := q_s.step hst
  replace O_s := O_s.step hst
  replace B_b := B_b.step hst
  replace S_f := S_f.step hst
  replace P_t := P_t.step hst
  replace q_t := q_t.step hst
  replace S_g := S_g.step hst
  replace P_x := P_x.step hst
  replace q_x := q_x.step hst
  replace hB := hB.step hst
  clear hst
  have HQ := Lib.hid (And.intro q_s (And.intro O_s (And.intro B_b (And.intro S_f (And.intro P_t (And.intro q_t (And.intro S_g (And.intro P_x (And.intro q_x (And.intro S_z hB))))))))))
  clear q_s O_s B_b S_f P_t q_t S_g P_x q_x S_z hB
  have c_q_s0 := LK.cell HQ.out.1 0
  have c_q_s1 := LK.cell HQ.out.1 1
  have c_q_s2 := LK.cell HQ.out.1 2
  have c_q_s3 := LK.cell HQ.out.1 3
  have c_q_t0 := LK.cell HQ.out.2.2.2.2.2.1 0
  have c_q_t1 := LK.cell HQ.out.2.2.2.2.2.1 1
  have c_q_t2 := LK.cell HQ.out.2.2.2.2.2.1 2
  have c_q_t3 := LK.cell HQ.out.2.2.2.2.2.1 3
  have c_q_x0 := LK.cell HQ.out.2.2.2.2.2.2.2.2.1 0
  have c_q_x1 := LK.cell HQ.out.2.2.2.2.2.2.2.2.1 1
  have c_q_x2 := LK.cell HQ.out.2.2.2.2.2.2.2.2.1 2
  have c_q_x3 := LK.cell HQ.out.2.2.2.2.2.2.2.2.1 3
  simp at c_q_s0 c_q_s1 c_q_s2 c_q_s3 c_q_t0 c_q_t1 c_q_t2 c_q_t3 c_q_x0 c_q_x1 c_q_x2 c_q_x3
  obtain ⟨hsl, htl⟩ := HSL.out
  clear HSL
  obtain ⟨nb, no, nc, e1, -, zb, z1, zc, hcs⟩ := HQ.out.2.1.n.at_n hsl (by omega)
  injection e1 with e1 el e2
  subst e1 e2
  clear el
  obtain ⟨tb, tf, tc, e1, -, zd, z2, ze, hct⟩ := HQ.out.2.2.2.2.2.2.2.1.n.at_n htl (by omega)
  injection e1 with e1 el e2
  subst e1 e2
  clear el
  unfold maxLen at zc ze
  clear c_q_s0 c_q_s1 c_q_s2 c_q_s3 c_q_t0 c_q_t1 c_q_t2 c_q_t3 c_q_x0 c_q_x1 c_q_x2 c_q_x3
  have a0 := fun X => LK.cell (HQ.out.1.step (aft_below w10 X)) 0
  have a1 := fun X => LK.cell (HQ.out.1.step (aft_below w10 X)) 1
  have a2 := fun X => LK.cell (HQ.out.1.step (aft_below w10 X)) 2
  have a3 := fun X => LK.cell (HQ.out.1.step (aft_below w10 X)) 3
  have b0 := fun X => LK.cell (HQ.out.2.2.2.2.2.2.2.2.1.step (aft_below w10 X)) 0
  have b1 := fun X => LK.cell (HQ.out.2.2.2.2.2.2.2.2.1.step (aft_below w10 X)) 1
  have b2 := fun X => LK.cell (HQ.out.2.2.2.2.2.2.2.2.1.step (aft_below w10 X)) 2
  have b3 := fun X => LK.cell (HQ.out.2.2.2.2.2.2.2.2.1.step (aft_below w10 X)) 3
  simp at a0 a1 a2 a3 b0 b1 b2 b3
  simp only [hsl] at a2
  simp only [htl] at b2
  have f1 := fun X => ((aft_below w10 X).cell (p := ⟨nb, no + pn, none⟩) zb).trans (hcs pn (s.now.getD pn 0) (get_l _ _ _ (by omega)))
  have f2 := fun Y => ((aft_below w10 Y).cell (p := ⟨tb, tf + pn, none⟩) zd).trans (hct pn (X.now.getD pn 0) (get_l _ _ _ (by omega)))
  simp only [bV, hsz, htz] at f1 f2
  clear hcs hct hsl htl hsz htz
  have i3 : ¬ (256 : Int) ≤ pn := by omega
  have i5 : ((z + 1 : Nat) : Int) = (z : Int) + 1 := by omega
  simp only [i5] at f2
  have i6 : IntKind.u8.wrap ((z : Int) + 1) = (z : Int) + 1 := by rw [IntKind.wrap_u8]; omega
  clear i5
  go_upto_region 22 with (fail)
  refine wp_region_held_drew (S := Cls w10) (by kernel_rfl) (Cls.drew w10) (fun hCl => ?_)
  refine wpAnyH_seg (fuel := 3) (by kernel_rfl) (fun _ d _ _ _ h => by cases d <;> exact h) hCl [0, 1, 2, 3, 4, 5, 6, 7, 8, 9, 10, 11, 12, 13, 14, 15, 16, 17, 18, 19, 20, 21, 22, 23, 24, 25, 26, 27, 28, 29, 30] _ _ _ (by kernel_rfl) (by kernel_rfl) ?_
  simp only [opsOf_cons, opsOf_nil, consOp_some, List.getElem?_toArray, List.getElem?_cons_succ, List.getElem?_cons_zero]
  repeat (first | go_big_quiet_step (fail) | quiet_step (fail))
  refine wpQuiet_nil ?_
  refine wpAnyH_each (fuel := 2) [31] (by kernel_rfl) (by simp) (by kernel_rfl) ?_
  refine Each.cons _ rfl (fun K' hK => ?_) Each.nil
  go_simp
  refine (KD.out _ _ _ _ _ (HQ.out.2.2.2.2.2.2.2.1.step hCl.below).d (HQ.out.2.1.step hCl.below).d).mono ?_
  rintro e zz1 ⟨rfl, hb⟩
  have hst := below_step hCl.below hCl.below.size hb
  clear hb
  have hCl := Cls.of hst
  refine hK.out (Cls w10) (fun _ h => h) hCl ?_
  clear hK K'
  refine wpAnyH_seg (fuel := 0) (by kernel_rfl) (fun _ d _ _ _ h => by cases d <;> exact h) hCl [32, 33] _ _ _ (by kernel_rfl) (by kernel_rfl) ?_
  simp only [opsOf_cons, opsOf_nil, consOp_some, List.getElem?_toArray, List.getElem?_cons_succ, List.getElem?_cons_zero]
  repeat (first | go_big_quiet_step (fail) | quiet_step (fail))
  refine wpQuiet_nil ?_
  refine wpAnyH_done (by kernel_rfl) ?_ _
  have hBf := LW.step HQ.out.2.2.2.2.2.2.2.2.2.2 hst
  go_wp2
  go_ret
  exact ⟨rfl, hBf⟩

end Go.Proofs.Ytbddbadmfhplmaa

