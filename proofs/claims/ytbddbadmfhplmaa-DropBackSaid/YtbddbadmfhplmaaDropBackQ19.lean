/- DropBack: the words and contracts, part 19. -/
import Derived.Test.YtbddbadmfhplmaaDropBackQ1
import Derived.Test.YtbddbadmfhplmaaDropBackQ2
import Derived.Test.YtbddbadmfhplmaaDropBackQ3
import Derived.Test.YtbddbadmfhplmaaDropBackQ4
import Derived.Test.YtbddbadmfhplmaaDropBackQ5
import Derived.Test.YtbddbadmfhplmaaDropBackQ6
import Derived.Test.YtbddbadmfhplmaaDropBackQ7
import Derived.Test.YtbddbadmfhplmaaDropBackQ8
import Derived.Test.YtbddbadmfhplmaaDropBackQ9
import Derived.Test.YtbddbadmfhplmaaDropBackQ10
import Derived.Test.YtbddbadmfhplmaaDropBackQ11
import Derived.Test.YtbddbadmfhplmaaDropBackQ12
import Derived.Test.YtbddbadmfhplmaaDropBackQ13
import Derived.Test.YtbddbadmfhplmaaDropBackQ14
import Derived.Test.YtbddbadmfhplmaaDropBackQ15
import Derived.Test.YtbddbadmfhplmaaDropBackQ16
import Derived.Test.YtbddbadmfhplmaaDropBackQ17
import Derived.Test.YtbddbadmfhplmaaDropBackQ18
import Derived.Test.YtbddbadmfhplmaaChecked
import Derived.WalkKit
import Derived.WalkLawsBesides
import Derived.WalkSpells
import Derived.Lib.Hide
import Derived.Laws.Rows
import Derived.Laws.AppendOwnNone
import Derived.Maps.AppendAt
import Derived.ProofKit
import Derived.Deep.Slices
import Derived.WideShapes
import Derived.RangeFuncNested
import Derived.RangeFuncBound
import Derived.RangeFuncCalls
import Derived.RangeFuncLeaves
import Derived.RangeFuncBox
import Derived.Shelf.Abstract
import Derived.Shelf.RegionOpen
import Derived.OwnWalkIn
import Derived.TacticsInMore
import Derived.LoopNIn
import Derived.LoopIn
import Derived.Lib.AppendZerosOnto
import Derived.Lib.SliceRun
import Derived.Lib.Walk
import Derived.Deep.LoopGhost
import Derived.Laws.CopyOwn
import Derived.Laws.CopyRow
import Derived.OrdersHeld
import Derived.Deep.QuietTactic
import Derived.BigQuiet
import Derived.StillTailTactics
import Derived.OpenShut
import Derived.Deep.DeepCutAuto
import Derived.Laws.MakeOwn
import Derived.Deep.RegionHeld
import Derived.KernelRfl
import Derived.BigFrameIn
import Derived.OrdersIn
import Derived.Sort.CutIn
import Derived.ArgAppend
import Derived.ShutString
import Derived.ChangeOld
import Derived.Below
namespace Go.Proofs.Ytbddbadmfhplmaa
open Go.RowKit

/-- All places of items are counted once more each. -/
def upN : List UInt8 → List ItemL → List UInt8
  | l, [] => l
  | l, y :: its => if 0 < y.ref then upN (l.set y.ref.toNat (l.getD y.ref.toNat 0 + 1)) its else upN l its
theorem upN_len : ∀ (its : List ItemL) (l : List UInt8), (upN l its).length = l.length
  | [], _ => rfl
  | y :: its, l => by
    rw [upN]
    split
    · rw [upN_len its]; simp
    · exact upN_len its l
theorem upN_app : ∀ (a b : List ItemL) (l : List UInt8), upN l (a ++ b) = upN (upN l a) b
  | [], _, _ => rfl
  | y :: a, b, l => by
    rw [List.cons_append, upN, upN]
    split
    · exact upN_app a b _
    · exact upN_app a b l
theorem upN_next (l : List UInt8) (its : List ItemL) (j : Nat) (hj : j < its.length) : upN l (its.take (j + 1)) = if 0 < (its.getD j nokI).ref then (upN l (its.take j)).set (its.getD j nokI).ref.toNat ((upN l (its.take j)).getD (its.getD j nokI).ref.toNat 0 + 1) else upN l (its.take j) := by
  rw [List.take_add_one, get_l its nokI j hj]
  show upN l (its.take j ++ [its.getD j nokI]) = _
  rw [upN_app, upN]
  rfl
theorem upN_set : ∀ (its : List ItemL) (l : List UInt8) (a : Nat) (x : UInt8), (∀ y ∈ its, 0 < y.ref → y.ref.toNat ≠ a) → upN (l.set a x) its = (upN l its).set a x
  | [], _, _, _, _ => rfl
  | y :: its, l, a, x, h => by
    have h' := fun z hz => h z (List.mem_cons_of_mem _ hz)
    rw [upN, upN]
    by_cases hp : 0 < y.ref
    · have hne := h y (List.mem_cons_self ..) hp
      rw [if_pos hp, if_pos hp, bget_set_ne _ _ _ _ (fun e => hne e.symm), List.set_comm _ _ (fun e => hne e.symm)]
      exact upN_set its _ a x h'
    · rw [if_neg hp, if_neg hp]
      exact upN_set its l a x h'
theorem shS_up : ∀ (its : List ItemL) (s : StoreL), RefsOk its → shE s its = 0 → (shS s its).now = upN s.now its
  | [], _, _, _ => rfl
  | y :: its, s, hr, h => by
    have hr' : RefsOk its := fun z hz => hr z (List.mem_cons_of_mem _ hz)
    have hy := hr y (List.mem_cons_self ..)
    rw [shE] at h
    rw [shS, upN]
    by_cases h0 : y.ref = 0
    · rw [if_pos h0] at h ⊢
      rw [if_neg (show ¬ 0 < y.ref by omega)]
      exact shS_up its s hr' h
    · rw [if_neg h0] at h ⊢
      rw [if_pos (show 0 < y.ref by omega)]
      split at h
      · rename_i h1
        rw [if_pos h1, shS_up its _ hr' h]
        rcases up_cases s y.ref.toNat with ⟨_, h2, _⟩ | ⟨_, h2, _⟩ | ⟨_, _, _, h3⟩
        · rw [h1] at h2; cases h2
        · rw [h1] at h2; cases h2
        · rw [h3]
      · rename_i h1
        exact absurd h h1
theorem cntR_pos {its : List ItemL} {y : ItemL} (hy : y ∈ its) (h0 : y.ref ≠ 0) : 0 < cntR its y.ref.toNat := by
  unfold cntR
  exact List.length_pos_of_mem (List.mem_filter.2 ⟨hy, by simp [h0]⟩)
/-- All that is so of what was made, and then left. -/
theorem back_law {s : StoreL} {n : NodeL} (h : errDm s n = 0) : ∃ a : Nat, atD s n = a ∧ 8 ≤ a ∧ a < 256 ∧ s.now.getD a 0 = 0 ∧ s.last.getD a 0 = 0 ∧ s.now.length = 256 ∧ s.last.length = 256 ∧ (madS s n).now = upN (s.now.set a 1) n.items ∧ (madS s n).now.length = 256 ∧
    errSn (madS s n) a = 0 ∧ nodeS (madS s n) a = n ∧ errLv (madS s n) a = 0 ∧ (leftS (madS s n) a).now = s.now ∧ (leftS (madS s n) a).last = s.last ∧ (∀ y ∈ n.items, y.ref = 0 ∨ (8 ≤ y.ref ∧ y.ref < 256)) := by
  obtain ⟨hm, hn, hs, ht, e1, e2, e3⟩ := errDm_zero h
  obtain ⟨i1, i2, i3, i4⟩ := shS_is s n.items hm (may_refs hn)
  obtain ⟨t1, t2, -, t4⟩ := take_is ht
  obtain ⟨p1, p2, -, -⟩ := head_free t4
  rw [i4] at t4
  have hh := freeN_mem.1 (show headS (shS s n.items) ∈ freeN s 256 by rw [show freeN s 256 = _ from t4]; exact List.mem_cons_self ..)
  obtain ⟨-, q1, q2⟩ := noneAt_iff.1 hh.2
  obtain ⟨a, ha⟩ : ∃ a, headS (shS s n.items) = a := ⟨_, rfl⟩
  have eT : madS s n = ⟨⟨s.disk.blocks, s.disk.waits ++ [⟨(a : Int), blockN n⟩]⟩, (shS s n.items).now.set a 1, s.last⟩ := by
    rw [e1]
    unfold mkS
    rw [t1, ha, i2, i3]
  rw [ha] at p1 p2 q1 q2 e3
  have h256 := mayT_len (mayS_iff.1 hm).2.1
  have h257 := mayT_len (mayS_iff.1 hm).2.2
  obtain ⟨c1, c2⟩ := shS_cnt s n.items hs
  have hal : a < (shS s n.items).now.length := by rw [c1, h256]; exact p2
  have hne : ∀ q, 0 < cntR n.items q → q ≠ a := fun q hq e => by subst e; exact (c2 q).2 hq q1
  have hT1 : (madS s n).now.getD a 0 = 1 := by rw [eT]; exact cgetD_set_self _ _ _ hal
  have hTo : ∀ q, q ≠ a → (madS s n).now.getD q 0 = (shS s n.items).now.getD q 0 := fun q hq => by rw [eT]; exact bget_set_ne _ _ _ _ (fun e => hq e.symm)
  have hseen : seenD (madS s n).disk (a : Int) = blockN n := by
    rw [eT]
    unfold seenD
    rw [lastW_app, if_pos rfl]
  obtain ⟨b1, b2, -⟩ := back1 hn
  have hA : errAs (madS s n) a = 0 := by
    unfold errAs
    rw [e2, if_pos rfl, if_neg (by omega), Int.toNat_natCast, hT1, if_neg (by decide)]
  have hSn : errSn (madS s n) a = 0 := by unfold errSn; rw [hA, if_neg (by decide), hseen, if_pos b1]
  have hTl : (madS s n).now.length = 256 := by rw [eT]; show ((shS s n.items).now.set a 1).length = 256; rw [List.length_set, c1, h256]
  obtain ⟨now', l1, l2, l3⟩ := lvS_made (s := madS s n) (p := a) (n := n) (by rw [hT1]; rfl) (by rw [hseen]; exact b1) (by rw [hseen]; exact b2) (fun q hq => ⟨hne q hq, by
    rw [hTo q (hne q hq), (c2 q).1]
    have : (s.now.getD q 0).toNat ≠ 0 := fun e => (c2 q).2 hq (u8_inj e)
    omega⟩)
  have hnow : now' = s.now := by
    refine ext_getD _ _ 0 (by rw [l2, hTl, h256]) (fun q _ => u8_inj ?_)
    show (now'.getD q 0).toNat = (s.now.getD q 0).toNat
    rw [l3 q]
    by_cases hq : q = a
    · subst hq
      rw [hT1, if_pos rfl, q1]
      show 1 - cntR n.items q - 1 = 0
      omega
    · rw [hTo q hq, (c2 q).1, if_neg hq]
      omega
  have hLv : errLv (madS s n) a = 0 := by
    unfold errLv
    rw [hA, if_neg (by decide), Int.toNat_natCast, l1, if_neg (by simp)]
  refine ⟨a, e3, p1, p2, q1, q2, h256, h257, ?_, hTl, hSn, ?_, hLv, ?_, ?_, may_refs hn⟩
  · rw [eT]
    show (shS s n.items).now.set a 1 = _
    rw [shS_up n.items s (may_refs hn) hs, upN_set n.items s.now a 1 (fun y hy hp => hne _ (cntR_pos hy (by omega)))]
  · unfold nodeS
    rw [hSn, if_pos rfl, hseen, b2]
  · unfold leftS
    rw [if_pos hLv, Int.toNat_natCast, l1]
    exact hnow
  · unfold leftS
    rw [if_pos hLv, eT]

set_option maxRecDepth 100000 in
set_option maxHeartbeats 4000000 in
theorem dropBack_walk (b_s u_s x_s y_s : Value) (s : StoreL) (n : NodeL) (u_n : Value) (w : World) (h_s : StoreV w 0 w.heap.size b_s u_s x_s y_s s) (h_n : (Lit.int .i64 n.level).wf = true ∧ Sl rItem w 0 w.heap.size u_n n.items) :
    Calls Try.prog 11 #[.agg #[b_s, u_s, x_s, y_s], .agg #[.int .i64 n.level, u_n]] w fun e w' => e = .returned (.bool true) ∧ Below w.heap.size w w' := by
  obtain ⟨ab_s, cb_s, rfl, gb_s, gc_s, -, -⟩ := h_s.1.1
  obtain ⟨au_s, cu_s, rfl, gu_s, gv_s, -, -⟩ := h_s.1.2
  obtain ⟨ax_s, cx_s, rfl, gx_s, gz_s⟩ := h_s.2.1.form rfl
  obtain ⟨ay_s, cy_s, rfl, gy_s, gw_s⟩ := h_s.2.2.form rfl
  unfold maxLen at gc_s gv_s gz_s gw_s
  obtain ⟨hw_n, h_n⟩ := h_n
  obtain ⟨a_n, c_n, rfl, g_n, gm_n, -, -⟩ := id h_n
  unfold maxLen at gm_n
  have hst := (((Below.refl w.heap.size w).alloc (Nat.le_refl _) (.cells #[.slice ab_s s.disk.blocks.length cb_s, .slice au_s s.disk.waits.length cu_s, .slice ax_s s.now.length cx_s, .slice ay_s s.last.length cy_s] 28)).alloc (by simp) (.cells #[.int .i64 n.level, .slice a_n n.items.length c_n] 50))
  have hq := two_new w (.cells #[.slice ab_s s.disk.blocks.length cb_s, .slice au_s s.disk.waits.length cu_s, .slice ax_s s.now.length cx_s, .slice ay_s s.last.length cy_s] 28) (.cells #[.int .i64 n.level, .slice a_n n.items.length c_n] 50)
  have q_s := LK.of hq.1
  have q_n := LK.of hq.2
  have hB : LW w _ := hst
  have O_s := (LO.of h_s (Nat.le_refl _)).step hst
  have S_n := (LS.of h_n (Nat.le_refl _)).step hst
  have sz_V : w.heap.size + 1 < ((w.alloc (.cells #[.slice ab_s s.disk.blocks.length cb_s, .slice au_s s.disk.waits.length cu_s, .slice ax_s s.now.length cx_s, .slice ay_s s.last.length cy_s] 28)).alloc (.cells #[.int .i64 n.level, .slice a_n n.items.length c_n] 50)).heap.size := by simp
  obtain ⟨V, hV⟩ : ∃ V, ((w.alloc (.cells #[.slice ab_s s.disk.blocks.length cb_s, .slice au_s s.disk.waits.length cu_s, .slice ax_s s.now.length cx_s, .slice ay_s s.last.length cy_s] 28)).alloc (.cells #[.int .i64 n.level, .slice a_n n.items.length c_n] 50)) = V := ⟨_, rfl⟩
  rw [hV] at sz_V q_s q_n O_s S_n hB
  clear hst h_s h_n hq
  have HQ := Lib.hid (And.intro q_s (And.intro q_n (And.intro O_s (And.intro S_n hB))))
  clear q_s q_n O_s S_n hB
  have c_q_s0 := LK.cell HQ.out.1 0
  have c_q_s1 := LK.cell HQ.out.1 1
  have c_q_s2 := LK.cell HQ.out.1 2
  have c_q_s3 := LK.cell HQ.out.1 3
  have c_q_n0 := LK.cell HQ.out.2.1 0
  have c_q_n1 := LK.cell HQ.out.2.1 1
  simp at c_q_s0 c_q_s1 c_q_s2 c_q_s3 c_q_n0 c_q_n1
  have hyes := back_law (s := s) (n := n)
  have hno : errDm s n ≠ 0 → madS s n = noS ∧ atD s n = 0 := fun h => ⟨by unfold madS; rw [if_neg h], by unfold atD; rw [if_neg h]⟩
  have k_g := fun V b u x y hh => great8_any b u x y s V hh
  have k_g6 := fun V v hh => great6_any v n.items V hh
  have k_m := fun V b u x y v h1 h2 => dmake_any b u x y s n v V h1 ⟨hw_n, h2⟩
  obtain ⟨es, hes⟩ : ∃ e, errDm s n = e := ⟨_, rfl⟩
  obtain ⟨at1, hat⟩ : ∃ e, atD s n = e := ⟨_, rfl⟩
  obtain ⟨T, hT⟩ : ∃ T, madS s n = T := ⟨_, rfl⟩
  simp only [hes, hat, hT] at hno hyes k_m
  have HN := Lib.hid (And.intro hno hyes)
  clear hno hyes hes hT hat
  have HC := Lib.hid (And.intro k_g (And.intro k_g6 k_m))
  clear k_g k_g6 k_m
  go_enter Try.func11, Try.ntmps11
  go_upto_region 1 with (fail)
  clear hV
  go_wp2_with fail
  refine (alive9 V).mono ?_
  rintro e w1 ⟨rfl, hst⟩
  clear c_q_s0 c_q_s1 c_q_s2 c_q_s3 c_q_n0 c_q_n1
  obtain ⟨q_s, q_n, O_s, S_n, hB⟩ := HQ.out
  clear HQ
  have sz_w1 : V.heap.size ≤ w1.heap.size := hst.size
  replace q_s := q_s.step hst
  replace q_n := q_n.step hst
  replace O_s := O_s.step hst
  replace S_n := S_n.step hst
  replace hB := hB.step hst
  clear hst
  have HQ := Lib.hid (And.intro q_s (And.intro q_n (And.intro O_s (And.intro S_n hB))))
  clear q_s q_n O_s S_n hB
  have c_q_s0 := LK.cell HQ.out.1 0
  have c_q_s1 := LK.cell HQ.out.1 1
  have c_q_s2 := LK.cell HQ.out.1 2
  have c_q_s3 := LK.cell HQ.out.1 3
  have c_q_n0 := LK.cell HQ.out.2.1 0
  have c_q_n1 := LK.cell HQ.out.2.1 1
  simp at c_q_s0 c_q_s1 c_q_s2 c_q_s3 c_q_n0 c_q_n1
  go_wp2_with fail
  refine (HC.out.1 _ _ _ _ _ HQ.out.2.2.1.v).mono ?_
  rintro e w2 ⟨g, rfl, hst, -⟩
  clear c_q_s0 c_q_s1 c_q_s2 c_q_s3 c_q_n0 c_q_n1
  obtain ⟨q_s, q_n, O_s, S_n, hB⟩ := HQ.out
  clear HQ
  have sz_w2 : w1.heap.size ≤ w2.heap.size := hst.size
  replace q_s := q_s.step hst
  replace q_n := q_n.step hst
  replace O_s := O_s.step hst
  replace S_n := S_n.step hst
  replace hB := hB.step hst
  clear hst
  have HQ := Lib.hid (And.intro q_s (And.intro q_n (And.intro O_s (And.intro S_n hB))))
  clear q_s q_n O_s S_n hB
  have c_q_s0 := LK.cell HQ.out.1 0
  have c_q_s1 := LK.cell HQ.out.1 1
  have c_q_s2 := LK.cell HQ.out.1 2
  have c_q_s3 := LK.cell HQ.out.1 3
  have c_q_n0 := LK.cell HQ.out.2.1 0
  have c_q_n1 := LK.cell HQ.out.2.1 1
  simp at c_q_s0 c_q_s1 c_q_s2 c_q_s3 c_q_n0 c_q_n1
  cases g
  case true =>
    go_wp2
    go_ret
    exact ⟨rfl, HQ.out.2.2.2.2⟩
  go_wp2_with fail
  refine (HC.out.2.1 _ _ HQ.out.2.2.2.1.v).mono ?_
  rintro e w3 ⟨g, rfl, hst, -⟩
  clear c_q_s0 c_q_s1 c_q_s2 c_q_s3 c_q_n0 c_q_n1
  obtain ⟨q_s, q_n, O_s, S_n, hB⟩ := HQ.out
  clear HQ
  have sz_w3 : w2.heap.size ≤ w3.heap.size := hst.size
  replace q_s := q_s.step hst
  replace q_n := q_n.step hst
  replace O_s := O_s.step hst
  replace S_n := S_n.step hst
  replace hB := hB.step hst
  clear hst
  have HQ := Lib.hid (And.intro q_s (And.intro q_n (And.intro O_s (And.intro S_n hB))))
  clear q_s q_n O_s S_n hB
  have c_q_s0 := LK.cell HQ.out.1 0
  have c_q_s1 := LK.cell HQ.out.1 1
  have c_q_s2 := LK.cell HQ.out.1 2
  have c_q_s3 := LK.cell HQ.out.1 3
  have c_q_n0 := LK.cell HQ.out.2.1 0
  have c_q_n1 := LK.cell HQ.out.2.1 1
  simp at c_q_s0 c_q_s1 c_q_s2 c_q_s3 c_q_n0 c_q_n1
  cases g
  case true =>
    go_wp2
    go_ret
    exact ⟨rfl, HQ.out.2.2.2.2⟩
  go_wp2_with fail
  refine (HC.out.2.2 _ _ _ _ _ _ HQ.out.2.2.1.v HQ.out.2.2.2.1.v).mono ?_
  rintro e w4 ⟨b1, u1, x1, y1, rfl, hm⟩
  clear c_q_s0 c_q_s1 c_q_s2 c_q_s3 c_q_n0 c_q_n1
  obtain ⟨q_s, q_n, O_s, S_n, hB⟩ := HQ.out
  clear HQ
  have P_t := LP.of hm
  have hst := hm.below
  obtain ⟨ab_t, cb_t, rfl, -, -, -, -⟩ := hm.store.v.1.1
  obtain ⟨au_t, cu_t, rfl, -, -, -, -⟩ := hm.store.v.1.2
  obtain ⟨ax_t, cx_t, rfl, -, -⟩ := hm.store.v.2.1.form rfl
  obtain ⟨ay_t, cy_t, rfl, -, -⟩ := hm.store.v.2.2.form rfl
  clear hm
  have sz_w4 : w3.heap.size ≤ w4.heap.size := hst.size
  replace q_s := q_s.step hst
  replace q_n := q_n.step hst
  replace O_s := O_s.step hst
  replace S_n := S_n.step hst
  replace hB := hB.step hst
  clear hst
  have HQ := Lib.hid (And.intro q_s (And.intro q_n (And.intro O_s (And.intro S_n (And.intro P_t hB)))))
  clear q_s q_n O_s S_n P_t hB
  have c_q_s0 := LK.cell HQ.out.1 0
  have c_q_s1 := LK.cell HQ.out.1 1
  have c_q_s2 := LK.cell HQ.out.1 2
  have c_q_s3 := LK.cell HQ.out.1 3
  have c_q_n0 := LK.cell HQ.out.2.1 0
  have c_q_n1 := LK.cell HQ.out.2.1 1
  simp at c_q_s0 c_q_s1 c_q_s2 c_q_s3 c_q_n0 c_q_n1
  go_upto_region 7 with (fail)
  clear c_q_s0 c_q_s1 c_q_s2 c_q_s3 c_q_n0 c_q_n1
  obtain ⟨q_s, q_n, O_s, S_n, P_t, hB⟩ := HQ.out
  clear HQ
  have hst := (Below.refl w4.heap.size w4).alloc (Nat.le_refl _) (.cells #[.slice ab_t T.disk.blocks.length cb_t, .slice au_t T.disk.waits.length cu_t, .slice ax_t T.now.length cx_t, .slice ay_t T.last.length cy_t] 28)
  have hlt : w4.heap.size < (w4.alloc (.cells #[.slice ab_t T.disk.blocks.length cb_t, .slice au_t T.disk.waits.length cu_t, .slice ax_t T.now.length cx_t, .slice ay_t T.last.length cy_t] 28)).heap.size := by simp
  have q_t := LK.new w4 (.cells #[.slice ab_t T.disk.blocks.length cb_t, .slice au_t T.disk.waits.length cu_t, .slice ax_t T.now.length cx_t, .slice ay_t T.last.length cy_t] 28)
  replace q_s := q_s.step hst
  replace q_n := q_n.step hst
  replace O_s := O_s.step hst
  replace S_n := S_n.step hst
  replace P_t := P_t.step hst
  replace hB := hB.step hst
  obtain ⟨w5, hw⟩ : ∃ v, w4.alloc (.cells #[.slice ab_t T.disk.blocks.length cb_t, .slice au_t T.disk.waits.length cu_t, .slice ax_t T.now.length cx_t, .slice ay_t T.last.length cy_t] 28) = v := ⟨_, rfl⟩
  rw [hw] at hlt q_t q_s q_n O_s S_n P_t hB ⊢
  clear hw hst
  have sz_w5 := hlt
  clear hlt
  have HQ := Lib.hid (And.intro q_s (And.intro q_n (And.intro O_s (And.intro S_n (And.intro P_t (And.intro q_t hB))))))
  clear q_s q_n O_s S_n P_t q_t hB
  have c_q_s0 := LK.cell HQ.out.1 0
  have c_q_s1 := LK.cell HQ.out.1 1
  have c_q_s2 := LK.cell HQ.out.1 2
  have c_q_s3 := LK.cell HQ.out.1 3
  have c_q_n0 := LK.cell HQ.out.2.1 0
  have c_q_n1 := LK.cell HQ.out.2.1 1
  have c_q_t0 := LK.cell HQ.out.2.2.2.2.2.1 0
  have c_q_t1 := LK.cell HQ.out.2.2.2.2.2.1 1
  have c_q_t2 := LK.cell HQ.out.2.2.2.2.2.1 2
  have c_q_t3 := LK.cell HQ.out.2.2.2.2.2.1 3
  simp at c_q_s0 c_q_s1 c_q_s2 c_q_s3 c_q_n0 c_q_n1 c_q_t0 c_q_t1 c_q_t2 c_q_t3
  by_cases hz : es = 0
  case neg =>
    obtain ⟨hT, hat⟩ := HN.out.1 hz
    subst hT hat
    have i1 : (es != 0) = true := by simp [hz]
    have hl0 : noS.now.length = 0 := rfl
    go_wp2
    go_ret
    exact ⟨rfl, HQ.out.2.2.2.2.2.2⟩
  subst hz
  obtain ⟨a, rfl, h8, h9, hz1, hz2, hsl, hll, hTn, hTl, hsn, hnd, hlv, hun, hul, hrf⟩ := HN.out.2 rfl
  clear HN
  have kx := fun V b u x y hh => snode_any b u x y T (a : Int) V hh
  simp only [hsn, hnd] at kx
  have kl := fun V b u x y hh => dleave_any b u x y T (a : Int) V hh
  obtain ⟨U, hU⟩ : ∃ U, leftS T (a : Int) = U := ⟨_, rfl⟩
  rw [hU] at hun hul
  simp only [hlv, hU] at kl
  have ks := fun V v u h1 h2 => rnsame_any n n v u V h1 h2
  simp only [decide_true] at ks
  have K := Lib.hid (And.intro kx (And.intro kl ks))
  clear kx kl ks hsn hnd hlv hU
  have HT := Lib.hid (And.intro hsl (And.intro hll (And.intro hTn (And.intro hTl (And.intro hun (And.intro hul (And.intro hrf (And.intro hz1 hz2))))))))
  clear hsl hll hTn hTl hun hul hrf hz1 hz2
  go_wp2_with fail
  refine (K.out.1 _ _ _ _ _ HQ.out.2.2.2.2.1.v).mono ?_
  rintro e w6 ⟨v_x, rfl, hS, hst⟩
  clear c_q_s0 c_q_s1 c_q_s2 c_q_s3 c_q_n0 c_q_n1 c_q_t0 c_q_t1 c_q_t2 c_q_t3
  obtain ⟨q_s, q_n, O_s, S_n, P_t, q_t, hB⟩ := HQ.out
  clear HQ
  have S_x := LS.of hS (Nat.le_refl _)
  obtain ⟨a_x, c_x, rfl, -, -⟩ := hS
  have sz_w6 : w5.heap.size ≤ w6.heap.size := hst.size
  replace q_s := q_s.step hst
  replace q_n := q_n.step hst
  replace O_s := O_s.step hst
  replace S_n := S_n.step hst
  replace P_t := P_t.step hst
  replace q_t := q_t.step hst
  replace hB := hB.step hst
  clear hst
  have HQ := Lib.hid (And.intro q_s (And.intro q_n (And.intro O_s (And.intro S_n (And.intro P_t (And.intro q_t (And.intro S_x hB)))))))
  clear q_s q_n O_s S_n P_t q_t S_x hB
  have c_q_s0 := LK.cell HQ.out.1 0
  have c_q_s1 := LK.cell HQ.out.1 1
  have c_q_s2 := LK.cell HQ.out.1 2
  have c_q_s3 := LK.cell HQ.out.1 3
  have c_q_n0 := LK.cell HQ.out.2.1 0
  have c_q_n1 := LK.cell HQ.out.2.1 1
  have c_q_t0 := LK.cell HQ.out.2.2.2.2.2.1 0
  have c_q_t1 := LK.cell HQ.out.2.2.2.2.2.1 1
  have c_q_t2 := LK.cell HQ.out.2.2.2.2.2.1 2
  have c_q_t3 := LK.cell HQ.out.2.2.2.2.2.1 3
  simp at c_q_s0 c_q_s1 c_q_s2 c_q_s3 c_q_n0 c_q_n1 c_q_t0 c_q_t1 c_q_t2 c_q_t3
  go_upto_region 10 with (fail)
  clear c_q_s0 c_q_s1 c_q_s2 c_q_s3 c_q_n0 c_q_n1 c_q_t0 c_q_t1 c_q_t2 c_q_t3
  obtain ⟨q_s, q_n, O_s, S_n, P_t, q_t, S_x, hB⟩ := HQ.out
  clear HQ
  have hst := (Below.refl w6.heap.size w6).alloc (Nat.le_refl _) (.cells #[.int .i64 n.level, .slice a_x n.items.length c_x] 50)
  have hlt : w6.heap.size < (w6.alloc (.cells #[.int .i64 n.level, .slice a_x n.items.length c_x] 50)).heap.size := by simp
  have q_x := LK.new w6 (.cells #[.int .i64 n.level, .slice a_x n.items.length c_x] 50)
  replace q_s := q_s.step hst
  replace q_n := q_n.step hst
  replace O_s := O_s.step hst
  replace S_n := S_n.step hst
  replace P_t := P_t.step hst
  replace q_t := q_t.step hst
  replace S_x := S_x.step hst
  replace hB := hB.step hst
  obtain ⟨w7, hw⟩ : ∃ v, w6.alloc (.cells #[.int .i64 n.level, .slice a_x n.items.length c_x] 50) = v := ⟨_, rfl⟩
  rw [hw] at hlt q_x q_s q_n O_s S_n P_t q_t S_x hB ⊢
  clear hw hst
  have sz_w7 := hlt
  clear hlt
  have HQ := Lib.hid (And.intro q_s (And.intro q_n (And.intro O_s (And.intro S_n (And.intro P_t (And.intro q_t (And.intro S_x (And.intro q_x hB))))))))
  clear q_s q_n O_s S_n P_t q_t S_x q_x hB
  have c_q_s0 := LK.cell HQ.out.1 0
  have c_q_s1 := LK.cell HQ.out.1 1
  have c_q_s2 := LK.cell HQ.out.1 2
  have c_q_s3 := LK.cell HQ.out.1 3
  have c_q_n0 := LK.cell HQ.out.2.1 0
  have c_q_n1 := LK.cell HQ.out.2.1 1
  have c_q_t0 := LK.cell HQ.out.2.2.2.2.2.1 0
  have c_q_t1 := LK.cell HQ.out.2.2.2.2.2.1 1
  have c_q_t2 := LK.cell HQ.out.2.2.2.2.2.1 2
  have c_q_t3 := LK.cell HQ.out.2.2.2.2.2.1 3
  have c_q_x0 := LK.cell HQ.out.2.2.2.2.2.2.2.1 0
  have c_q_x1 := LK.cell HQ.out.2.2.2.2.2.2.2.1 1
  simp at c_q_s0 c_q_s1 c_q_s2 c_q_s3 c_q_n0 c_q_n1 c_q_t0 c_q_t1 c_q_t2 c_q_t3 c_q_x0 c_q_x1
  go_wp2_with fail
  refine (K.out.2.2 _ _ _ (sl_itemT HQ.out.2.2.2.2.2.2.1.v) HQ.out.2.2.2.1.v).mono ?_
  rintro e w8 ⟨rfl, hst⟩
  clear c_q_s0 c_q_s1 c_q_s2 c_q_s3 c_q_n0 c_q_n1 c_q_t0 c_q_t1 c_q_t2 c_q_t3 c_q_x0 c_q_x1
  obtain ⟨q_s, q_n, O_s, S_n, P_t, q_t, S_x, q_x, hB⟩ := HQ.out
  clear HQ
  have sz_w8 : w7.heap.size ≤ w8.heap.size := hst.size
  replace q_s := q_s.step hst
  replace q_n := q_n.step hst
  replace O_s := O_s.step hst
  replace S_n := S_n.step hst
  replace P_t := P_t.step hst
  replace q_t := q_t.step hst
  replace S_x := S_x.step hst
  replace q_x := q_x.step hst
  replace hB := hB.step hst
  clear hst
  have HQ := Lib.hid (And.intro q_s (And.intro q_n (And.intro O_s (And.intro S_n (And.intro P_t (And.intro q_t (And.intro S_x (And.intro q_x hB))))))))
  clear q_s q_n O_s S_n P_t q_t S_x q_x hB
  have c_q_s0 := LK.cell HQ.out.1 0
  have c_q_s1 := LK.cell HQ.out.1 1
  have c_q_s2 := LK.cell HQ.out.1 2
  have c_q_s3 := LK.cell HQ.out.1 3
  have c_q_n0 := LK.cell HQ.out.2.1 0
  have c_q_n1 := LK.cell HQ.out.2.1 1
  have c_q_t0 := LK.cell HQ.out.2.2.2.2.2.1 0
  have c_q_t1 := LK.cell HQ.out.2.2.2.2.2.1 1
  have c_q_t2 := LK.cell HQ.out.2.2.2.2.2.1 2
  have c_q_t3 := LK.cell HQ.out.2.2.2.2.2.1 3
  have c_q_x0 := LK.cell HQ.out.2.2.2.2.2.2.2.1 0
  have c_q_x1 := LK.cell HQ.out.2.2.2.2.2.2.2.1 1
  simp at c_q_s0 c_q_s1 c_q_s2 c_q_s3 c_q_n0 c_q_n1 c_q_t0 c_q_t1 c_q_t2 c_q_t3 c_q_x0 c_q_x1
  obtain ⟨nb, no, nc, e1, -, zb, z1, zc, hcs⟩ := HQ.out.2.2.1.n.at_n HT.out.1 (by omega)
  injection e1 with e1 el e2
  subst e1 e2
  clear el
  obtain ⟨lb, lo, lc, e1, -, zd, z2, ze, hcl⟩ := HQ.out.2.2.1.l.at_n HT.out.2.1 (by omega)
  injection e1 with e1 el e2
  subst e1 e2
  clear el
  unfold maxLen at zc ze
  have f1 := hcs a (s.now.getD a 0) (get_l _ _ _ (by have := HT.out.1; omega))
  have f2 := hcl a (s.last.getD a 0) (get_l _ _ _ (by have := HT.out.2.1; omega))
  rw [HT.out.2.2.2.2.2.2.2.1] at f1
  rw [HT.out.2.2.2.2.2.2.2.2] at f2
  have e0 : bV 0 = .int .u8 0 := rfl
  rw [e0] at f1 f2
  rw [HT.out.1] at c_q_s2
  rw [HT.out.2.1] at c_q_s3
  have i1 : ¬ (256 : Int) ≤ a := by omega
  clear hcs hcl e0
  have hbn := HQ.out.2.2.1.n
  rw [HT.out.1] at hbn
  have HBN := Lib.hid hbn
  clear hbn
  go_upto_region 13 with (at_builtin; refine wpList_appB rfl _ _ 26 rfl w8.heap.size 5 Try.underlying26 info_u8 _ [] rfl (OwnB.nil_ _ _ _) 0 w8.heap.size _ s.now rfl HBN.out (by have := HT.out.1; show 0 + s.now.length ≤ _; omega) (Nat.le_refl _) ?_; intro ov wo hown hst; rw [List.nil_append] at hown; have hmo := OwnB.made hown hst; clear hown)
  clear c_q_s0 c_q_s1 c_q_s2 c_q_s3 c_q_n0 c_q_n1 c_q_t0 c_q_t1 c_q_t2 c_q_t3 c_q_x0 c_q_x1
  clear f1 f2 HBN
  obtain ⟨q_s, q_n, O_s, S_n, P_t, q_t, S_x, q_x, hB⟩ := HQ.out
  clear HQ
  have B_o := LM.of hmo
  obtain ⟨ob, oo, oc, rfl, o1, o2, o3, o4, -⟩ := hmo.bytes.at_n HT.out.1 (by omega)
  unfold maxLen at o4
  clear hmo
  have sz_wo : w8.heap.size ≤ wo.heap.size := hst.size
  replace q_s := q_s.step hst
  replace q_n := q_n.step hst
  replace O_s := O_s.step hst
  replace S_n := S_n.step hst
  replace P_t := P_t.step hst
  replace q_t := q_t.step hst
  replace S_x := S_x.step hst
  replace q_x := q_x.step hst
  replace hB := hB.step hst
  clear hst
  have HQ := Lib.hid (And.intro q_s (And.intro q_n (And.intro O_s (And.intro S_n (And.intro P_t (And.intro q_t (And.intro S_x (And.intro q_x (And.intro B_o hB)))))))))
  clear q_s q_n O_s S_n P_t q_t S_x q_x B_o hB
  have g1 := (LM.v HQ.out.2.2.2.2.2.2.2.2.1).cellAt a (s.now.getD a 0) (get_l _ _ _ (by have := HT.out.1; omega))
  have g2 := (LM.m HQ.out.2.2.2.2.2.2.2.2.1).2 _ _ _ _ rfl a h9
  simp only [bV] at g1
  go_upto_region 14 with (fail)
  clear g1 g2
  obtain ⟨q_s, q_n, O_s, S_n, P_t, q_t, S_x, q_x, B_o, hB⟩ := HQ.out
  clear HQ
  have hnew : LM w8.heap.size wo.heap.size (.slice (some ⟨ob, oo, none⟩) 256 oc) (s.now.set a 1) (wo.setCell ⟨ob, oo + a, none⟩ (.int .u8 1)) := LM.set B_o a 1 (by have := HT.out.1; omega)
  have hs : wo.heap.size ≤ (wo.setCell ⟨ob, oo + a, none⟩ (.int .u8 1)).heap.size := by rw [World.size_setCell]; exact Nat.le_refl _
  have hf : ∀ x, x < wo.heap.size → (x < ob ∨ ob + 1 ≤ x) → (wo.setCell ⟨ob, oo + a, none⟩ (.int .u8 1)).heap[x]? = wo.heap[x]? := fun x _ hx => set_other wo ob _ _ x (by omega)
  have hbe : Below ob wo (wo.setCell ⟨ob, oo + a, none⟩ (.int .u8 1)) := (Below.refl ob wo).setCell (p := ⟨ob, oo + a, none⟩) (Nat.le_refl _) _
  replace q_s := q_s.out hs hf (by omega)
  replace q_n := q_n.out hs hf (by omega)
  replace O_s := O_s.out hs hf (by omega)
  replace S_n := S_n.out hs hf (by omega)
  replace P_t := P_t.out hs hf (by omega)
  replace q_t := q_t.out hs hf (by omega)
  replace S_x := S_x.out hs hf (by omega)
  replace q_x := q_x.out hs hf (by omega)
  replace B_o := hnew
  replace hB := hB.outB hbe (by omega)
  obtain ⟨w1o, hw⟩ : ∃ v, (wo.setCell ⟨ob, oo + a, none⟩ (.int .u8 1)) = v := ⟨_, rfl⟩
  rw [hw] at hs q_s q_n O_s S_n P_t q_t S_x q_x B_o hB ⊢
  have sz_w1o := hs
  clear hw hs hf hbe hnew
  have HQ := Lib.hid (And.intro q_s (And.intro q_n (And.intro O_s (And.intro S_n (And.intro P_t (And.intro q_t (And.intro S_x (And.intro q_x (And.intro B_o hB)))))))))
  clear q_s q_n O_s S_n P_t q_t S_x q_x B_o hB
  have c_q_s0 := LK.cell HQ.out.1 0
  have c_q_s1 := LK.cell HQ.out.1 1
  have c_q_s2 := LK.cell HQ.out.1 2
  have c_q_s3 := LK.cell HQ.out.1 3
  have c_q_n0 := LK.cell HQ.out.2.1 0
  have c_q_n1 := LK.cell HQ.out.2.1 1
  have c_q_t0 := LK.cell HQ.out.2.2.2.2.2.1 0
  have c_q_t1 := LK.cell HQ.out.2.2.2.2.2.1 1
  have c_q_t2 := LK.cell HQ.out.2.2.2.2.2.1 2
  have c_q_t3 := LK.cell HQ.out.2.2.2.2.2.1 3
  have c_q_x0 := LK.cell HQ.out.2.2.2.2.2.2.2.1 0
  have c_q_x1 := LK.cell HQ.out.2.2.2.2.2.2.2.1 1
  simp at c_q_s0 c_q_s1 c_q_s2 c_q_s3 c_q_n0 c_q_n1 c_q_t0 c_q_t1 c_q_t2 c_q_t3 c_q_x0 c_q_x1
  go_wp2_with fail
  go_loopw [12] (fun i wr => ∃ j : Nat, j ≤ n.items.length ∧ i = .int .i64 j ∧ LM w8.heap.size wo.heap.size (.slice (some ⟨ob, oo, none⟩) 256 oc) (upN (s.now.set a 1) (n.items.take j)) wr ∧ w1o.heap.size ≤ wr.heap.size ∧ (∀ x, x < w1o.heap.size → (x < ob ∨ ob + 1 ≤ x) → wr.heap[x]? = w1o.heap[x]?) ∧ Below ob w1o wr) (fun i _ => n.items.length - (intOf i).toNat)
  case atStart => exact ⟨0, Nat.zero_le _, rfl, HQ.out.2.2.2.2.2.2.2.2.1, Nat.le_refl _, fun _ _ _ => rfl, Below.refl _ _⟩
  case round =>
  obtain ⟨j, hj, rfl, hbo, hsr, hfr, hBr⟩ := hrel
  clear c_q_s0 c_q_s1 c_q_s2 c_q_s3 c_q_n0 c_q_n1 c_q_t0 c_q_t1 c_q_t2 c_q_t3 c_q_x0 c_q_x1
  obtain ⟨q_s, q_n, O_s, S_n, P_t, q_t, S_x, q_x, B_o, hB⟩ := HQ.out
  clear HQ
  replace q_s := q_s.out hsr hfr (by omega)
  replace q_n := q_n.out hsr hfr (by omega)
  replace O_s := O_s.out hsr hfr (by omega)
  replace S_n := S_n.out hsr hfr (by omega)
  replace P_t := P_t.out hsr hfr (by omega)
  replace q_t := q_t.out hsr hfr (by omega)
  replace S_x := S_x.out hsr hfr (by omega)
  replace q_x := q_x.out hsr hfr (by omega)
  replace B_o := hbo
  replace hB := hB.outB hBr (by omega)
  clear hbo
  have HQ := Lib.hid (And.intro q_s (And.intro q_n (And.intro O_s (And.intro S_n (And.intro P_t (And.intro q_t (And.intro S_x (And.intro q_x (And.intro B_o hB)))))))))
  clear q_s q_n O_s S_n P_t q_t S_x q_x B_o hB
  have c_q_s0 := LK.cell HQ.out.1 0
  have c_q_s1 := LK.cell HQ.out.1 1
  have c_q_s2 := LK.cell HQ.out.1 2
  have c_q_s3 := LK.cell HQ.out.1 3
  have c_q_n0 := LK.cell HQ.out.2.1 0
  have c_q_n1 := LK.cell HQ.out.2.1 1
  have c_q_t0 := LK.cell HQ.out.2.2.2.2.2.1 0
  have c_q_t1 := LK.cell HQ.out.2.2.2.2.2.1 1
  have c_q_t2 := LK.cell HQ.out.2.2.2.2.2.1 2
  have c_q_t3 := LK.cell HQ.out.2.2.2.2.2.1 3
  have c_q_x0 := LK.cell HQ.out.2.2.2.2.2.2.2.1 0
  have c_q_x1 := LK.cell HQ.out.2.2.2.2.2.2.2.1 1
  simp at c_q_s0 c_q_s1 c_q_s2 c_q_s3 c_q_n0 c_q_n1 c_q_t0 c_q_t1 c_q_t2 c_q_t3 c_q_x0 c_q_x1
  have HR := Lib.hid (And.intro hsr (And.intro hfr hBr))
  clear hfr hBr
  by_cases hlt : j < n.items.length
  case pos =>
    obtain ⟨bb, bo, cb, e1, -, hbb, -, zc2, hcell⟩ := HQ.out.2.2.2.1.v.at_ (by omega)
    injection e1 with e1 _ e2
    subst e1 e2
    obtain ⟨-, -, -, f3, -, -⟩ := hcell j (n.items.getD j nokI) (get_l _ _ _ hlt)
    have hrx := HT.out.2.2.2.2.2.2.1 (n.items.getD j nokI) (List.mem_of_getElem? (get_l _ _ _ hlt))
    have hnx := upN_next (s.now.set a 1) n.items j hlt
    obtain ⟨x, hx⟩ : ∃ x, n.items.getD j nokI = x := ⟨_, rfl⟩
    rw [hx] at f3 hrx hnx
    obtain ⟨xr, hxr⟩ : ∃ xr : Nat, x.ref = xr := ⟨x.ref.toNat, by omega⟩
    rw [hxr] at f3 hrx hnx
    rw [Int.toNat_natCast] at hnx
    have hn5 : rItem.n = 5 := rfl
    rw [hn5] at f3
    unfold maxLen at zc2
    obtain ⟨L, hL⟩ : ∃ L, upN (s.now.set a 1) (n.items.take j) = L := ⟨_, rfl⟩
    have hLl : L.length = 256 := by rw [← hL, upN_len, List.length_set]; exact HT.out.1
    rw [hL] at HQ hnx
    clear hcell hx hL hn5
    by_cases hz : xr = 0
    case pos =>
      subst hz
      rw [if_neg (by simp)] at hnx
      have HX := Lib.hid hnx
      clear hnx
      go_wp2
      go_roundw
      case rel => exact ⟨j + 1, by omega, by go_num, by rw [HX.out]; exact HQ.out.2.2.2.2.2.2.2.2.1, HR.out.1, HR.out.2.1, HR.out.2.2⟩
      case measure => simp [intOf]; omega
    rw [if_pos (by omega)] at hnx
    have HX := Lib.hid (And.intro hnx hLl)
    clear hnx
    have j1 : (0 : Int) < xr := by omega
    have j2 : ¬ (256 : Int) ≤ xr := by omega
    have hxl : xr < 256 := by omega
    have e1 := (LM.v HQ.out.2.2.2.2.2.2.2.2.1).cellAt xr (L.getD xr 0) (get_l _ _ _ (by omega))
    have e2 := (LM.m HQ.out.2.2.2.2.2.2.2.2.1).2 _ _ _ _ rfl xr hxl
    obtain ⟨q, hq⟩ : ∃ q, L.getD xr 0 = q := ⟨_, rfl⟩
    rw [hq] at e1
    simp only [bV] at e1
    have hset := LM.set HQ.out.2.2.2.2.2.2.2.2.1 xr (q + 1) (by omega)
    have hv : (.int .u8 (((q.toNat : Int) + 1) % 256) : Value) = bV (q + 1) := by
      unfold bV
      rw [UInt8.toNat_add]
      congr 1
    rw [← hv] at hset
    have HSE := Lib.hid (And.intro hset hq)
    clear hset hv hq hLl
    go_upto_region 18 with (fail)
    have x1 := fun X => ((aft_below wr X).cell (p := ⟨w.heap.size + 1, 1, none⟩) (by show w.heap.size + 1 < wr.heap.size; omega)).trans c_q_n1
    have x2 := fun X => ((aft_below wr X).cell (p := ⟨bb, bo + j * 5 + 3, none⟩) (by show bb < wr.heap.size; omega)).trans f3
    have x3 := fun X => ((aft_below wr X).cell (p := ⟨ob, oo + xr, none⟩) (by show ob < wr.heap.size; omega)).trans e1
    have hp0 := (Below.refl wr.heap.size wr).drew
    refine wp_region_L (S := Cls wr) 18 (by kernel_rfl) (Cls.of hp0) (fun hCl => ?_)
    refine wpAnyL_seg (fuel := 1) (by kernel_rfl) (fun _ d _ _ _ h => by cases d <;> exact h) hCl [0, 1, 2, 3, 4, 5, 6, 7, 8, 9, 10, 11, 12, 13, 14, 15, 16, 17] _ _ _ (by kernel_rfl) (by kernel_rfl) (by kernel_rfl) (by kernel_rfl) ?_
    simp only [opsOf_cons, opsOf_nil, consOp_some, List.getElem?_toArray, List.getElem?_cons_succ, List.getElem?_cons_zero]
    repeat (first | go_big_quiet_step (fail) | quiet_step (fail))
    refine wpQuiet_nil ?_
    refine wpAnyL_each (fuel := 0) [18] (by kernel_rfl) (by simp) (by kernel_rfl) ?_
    refine EachL.cons _ rfl (fun K' hK => ?_) EachL.nil
    have zz : wr.drew.frozen? ⟨ob, oo + xr, none⟩ = false := e2
    have z3 : wr.drew.cell? ⟨ob, oo + xr, none⟩ = some (.int .u8 (q.toNat : Int)) := e1
    go_simp
    refine hK.out (.inl rfl) ?_
    clear hK K'
    refine wpAnyL_done (by kernel_rfl) ?_ _
    clear x1 x2 x3
    go_wp2
    go_roundw
    case rel => exact ⟨j + 1, by omega, by go_num, by rw [HX.out.1, HSE.out.2]; exact ⟨HSE.out.1.1, fun V hV => HSE.out.1.2 V hV⟩, Nat.le_trans HR.out.1 (Nat.le_of_eq (World.size_setCell wr _ _).symm), fun x hx hd => (set_other wr _ _ _ x (by omega)).trans (HR.out.2.1 x hx hd), HR.out.2.2.trans ((Below.refl ob wr).setCell (p := ⟨ob, oo + xr, none⟩) (Nat.le_refl _) _).drew⟩
    case measure => simp [intOf]; omega
  obtain rfl : j = n.items.length := by omega
  rw [List.take_length, ← HT.out.2.2.1] at HQ
  clear HR hj hlt
  rename World => w2o
  clear c_q_s0 c_q_s1 c_q_s2 c_q_s3 c_q_n0 c_q_n1 c_q_t0 c_q_t1 c_q_t2 c_q_t3 c_q_x0 c_q_x1
  have c_q_s0 := LK.cell HQ.out.1 0
  have c_q_s1 := LK.cell HQ.out.1 1
  have c_q_s2 := LK.cell HQ.out.1 2
  have c_q_s3 := LK.cell HQ.out.1 3
  have c_q_n0 := LK.cell HQ.out.2.1 0
  have c_q_n1 := LK.cell HQ.out.2.1 1
  have c_q_t0 := LK.cell HQ.out.2.2.2.2.2.1 0
  have c_q_t1 := LK.cell HQ.out.2.2.2.2.2.1 1
  have c_q_t2 := LK.cell HQ.out.2.2.2.2.2.1 2
  have c_q_t3 := LK.cell HQ.out.2.2.2.2.2.1 3
  have c_q_x0 := LK.cell HQ.out.2.2.2.2.2.2.2.1 0
  have c_q_x1 := LK.cell HQ.out.2.2.2.2.2.2.2.1 1
  simp at c_q_s0 c_q_s1 c_q_s2 c_q_s3 c_q_n0 c_q_n1 c_q_t0 c_q_t1 c_q_t2 c_q_t3 c_q_x0 c_q_x1
  go_wp2_with fail
  refine (K.out.2.1 _ _ _ _ _ HQ.out.2.2.2.2.1.v).mono ?_
  rintro e w9 ⟨b2, u2, x2, y2, rfl, hm⟩
  clear c_q_s0 c_q_s1 c_q_s2 c_q_s3 c_q_n0 c_q_n1 c_q_t0 c_q_t1 c_q_t2 c_q_t3 c_q_x0 c_q_x1
  obtain ⟨q_s, q_n, O_s, S_n, P_t, q_t, S_x, q_x, B_o, hB⟩ := HQ.out
  clear HQ
  have P_u := LP.of hm
  have hst := hm.below
  obtain ⟨ab_u, cb_u, rfl, -, -, -, -⟩ := hm.store.v.1.1
  obtain ⟨au_u, cu_u, rfl, -, -, -, -⟩ := hm.store.v.1.2
  obtain ⟨ax_u, cx_u, rfl, -, -⟩ := hm.store.v.2.1.form rfl
  obtain ⟨ay_u, cy_u, rfl, -, -⟩ := hm.store.v.2.2.form rfl
  clear hm
  have sz_w9 : w2o.heap.size ≤ w9.heap.size := hst.size
  replace q_s := q_s.step hst
  replace q_n := q_n.step hst
  replace O_s := O_s.step hst
  replace S_n := S_n.step hst
  replace P_t := P_t.step hst
  replace q_t := q_t.step hst
  replace S_x := S_x.step hst
  replace q_x := q_x.step hst
  replace B_o := B_o.step hst
  replace hB := hB.step hst
  clear hst
  have HQ := Lib.hid (And.intro q_s (And.intro q_n (And.intro O_s (And.intro S_n (And.intro P_t (And.intro q_t (And.intro S_x (And.intro q_x (And.intro B_o (And.intro P_u hB))))))))))
  clear q_s q_n O_s S_n P_t q_t S_x q_x B_o P_u hB
  have c_q_s0 := LK.cell HQ.out.1 0
  have c_q_s1 := LK.cell HQ.out.1 1
  have c_q_s2 := LK.cell HQ.out.1 2
  have c_q_s3 := LK.cell HQ.out.1 3
  have c_q_n0 := LK.cell HQ.out.2.1 0
  have c_q_n1 := LK.cell HQ.out.2.1 1
  have c_q_t0 := LK.cell HQ.out.2.2.2.2.2.1 0
  have c_q_t1 := LK.cell HQ.out.2.2.2.2.2.1 1
  have c_q_t2 := LK.cell HQ.out.2.2.2.2.2.1 2
  have c_q_t3 := LK.cell HQ.out.2.2.2.2.2.1 3
  have c_q_x0 := LK.cell HQ.out.2.2.2.2.2.2.2.1 0
  have c_q_x1 := LK.cell HQ.out.2.2.2.2.2.2.2.1 1
  simp at c_q_s0 c_q_s1 c_q_s2 c_q_s3 c_q_n0 c_q_n1 c_q_t0 c_q_t1 c_q_t2 c_q_t3 c_q_x0 c_q_x1
  go_upto_region 20 with (fail)
  clear c_q_s0 c_q_s1 c_q_s2 c_q_s3 c_q_n0 c_q_n1 c_q_t0 c_q_t1 c_q_t2 c_q_t3 c_q_x0 c_q_x1
  obtain ⟨q_s, q_n, O_s, S_n, P_t, q_t, S_x, q_x, B_o, P_u, hB⟩ := HQ.out
  clear HQ
  have hst := (Below.refl w9.heap.size w9).alloc (Nat.le_refl _) (.cells #[.slice ab_u U.disk.blocks.length cb_u, .slice au_u U.disk.waits.length cu_u, .slice ax_u U.now.length cx_u, .slice ay_u U.last.length cy_u] 28)
  have hlt : w9.heap.size < (w9.alloc (.cells #[.slice ab_u U.disk.blocks.length cb_u, .slice au_u U.disk.waits.length cu_u, .slice ax_u U.now.length cx_u, .slice ay_u U.last.length cy_u] 28)).heap.size := by simp
  have q_u := LK.new w9 (.cells #[.slice ab_u U.disk.blocks.length cb_u, .slice au_u U.disk.waits.length cu_u, .slice ax_u U.now.length cx_u, .slice ay_u U.last.length cy_u] 28)
  replace q_s := q_s.step hst
  replace q_n := q_n.step hst
  replace O_s := O_s.step hst
  replace S_n := S_n.step hst
  replace P_t := P_t.step hst
  replace q_t := q_t.step hst
  replace S_x := S_x.step hst
  replace q_x := q_x.step hst
  replace B_o := B_o.step hst
  replace P_u := P_u.step hst
  replace hB := hB.step hst
  obtain ⟨w10, hw⟩ : ∃ v, w9.alloc (.cells #[.slice ab_u U.disk.blocks.length cb_u, .slice au_u U.disk.waits.length cu_u, .slice ax_u U.now.length cx_u, .slice ay_u U.last.length cy_u] 28) = v := ⟨_, rfl⟩
  rw [hw] at hlt q_u q_s q_n O_s S_n P_t q_t S_x q_x B_o P_u hB ⊢
  clear hw hst
  have sz_w10 := hlt
  clear hlt
  have HQ := Lib.hid (And.intro q_s (And.intro q_n (And.intro O_s (And.intro S_n (And.intro P_t (And.intro q_t (And.intro S_x (And.intro q_x (And.intro B_o (And.intro P_u (And.intro q_u hB)))))))))))
  clear q_s q_n O_s S_n P_t q_t S_x q_x B_o P_u q_u hB
  have c_q_s0 := LK.cell HQ.out.1 0
  have c_q_s1 := LK.cell HQ.out.1 1
  have c_q_s2 := LK.cell HQ.out.1 2
  have c_q_s3 := LK.cell HQ.out.1 3
  have c_q_n0 := LK.cell HQ.out.2.1 0
  have c_q_n1 := LK.cell HQ.out.2.1 1
  have c_q_t0 := LK.cell HQ.out.2.2.2.2.2.1 0
  have c_q_t1 := LK.cell HQ.out.2.2.2.2.2.1 1
  have c_q_t2 := LK.cell HQ.out.2.2.2.2.2.1 2
  have c_q_t3 := LK.cell HQ.out.2.2.2.2.2.1 3
  have c_q_x0 := LK.cell HQ.out.2.2.2.2.2.2.2.1 0
  have c_q_x1 := LK.cell HQ.out.2.2.2.2.2.2.2.1 1
  have c_q_u0 := LK.cell HQ.out.2.2.2.2.2.2.2.2.2.2.1 0
  have c_q_u1 := LK.cell HQ.out.2.2.2.2.2.2.2.2.2.2.1 1
  have c_q_u2 := LK.cell HQ.out.2.2.2.2.2.2.2.2.2.2.1 2
  have c_q_u3 := LK.cell HQ.out.2.2.2.2.2.2.2.2.2.2.1 3
  simp at c_q_s0 c_q_s1 c_q_s2 c_q_s3 c_q_n0 c_q_n1 c_q_t0 c_q_t1 c_q_t2 c_q_t3 c_q_x0 c_q_x1 c_q_u0 c_q_u1 c_q_u2 c_q_u3
  have y1 := cv_of (LM.v HQ.out.2.2.2.2.2.2.2.2.1)
  have y2 := cv_of HQ.out.2.2.2.2.1.n
  have y3 := cv_of HQ.out.2.2.2.2.2.2.2.2.2.1.n
  have y4 := cv_of HQ.out.2.2.1.n
  have y5 := cv_of HQ.out.2.2.2.2.2.2.2.2.2.1.l
  have y6 := cv_of HQ.out.2.2.1.l
  have hun := HT.out.2.2.2.2.1
  have hul := HT.out.2.2.2.2.2.1
  simp only [hun] at y3 c_q_u2
  simp only [hul] at y5 c_q_u3
  clear hun hul
  go_wp2
  go_ret
  exact ⟨rfl, HQ.out.2.2.2.2.2.2.2.2.2.2.2⟩

end Go.Proofs.Ytbddbadmfhplmaa

namespace Go.Proofs.Ytbddbadmfhplmaa
open Go.ChangeShapes Go.WideShapes Go.ChangeAt Go.RowKit

theorem own_ : ownKnob Try.prog.godebug = none := by kernel_rfl
theorem laidOut_ : laidOutB Try.prog = true := by kernel_rfl

end Go.Proofs.Ytbddbadmfhplmaa

namespace Go.Proofs.Ytbddbadmfhplmaa
open Go.ChangeShapes Go.WideShapes Go.ChangeAt Go.RowKit

section
variable {H : Type} {enc : TypeId × Value → H} {W : World} {r : Reach} {base : Nat} {spare : Nat → Bool} {held : Bool} {v : Value} {d : DataW H} {p : List MemPlace}
set_option maxRecDepth 100000 in
theorem arg_node (hv : Value.okWide Try.prog W r base 50 v) (h : DataW.Trod enc Try.prog W 0 spare held 50 v d p) :
    ∃ (x : NodeL) (u : Value), v = .agg #[.int .i64 x.level, u] ∧ (Lit.int .i64 x.level).wf = true ∧ Sl rItem W 0 W.heap.size u x.items := by
  have ht : fieldsOf Try.prog 50 = some [(0, 3), (1, 48)] := by kernel_rfl
  have hit : fieldsOf Try.prog 75 = some [(0, 73), (3, 3), (4, 26)] := by kernel_rfl
  have hk : fieldsOf Try.prog 73 = some [(0, 5), (1, 71), (2, 71)] := by kernel_rfl
  have hop : Opens Try.prog 75 rItem := opens_item hit hk Try.underlying5 Try.underlying71 (by kernel_rfl) (by kernel_rfl) (by kernel_rfl) Try.underlying3 (by kernel_rfl) (by kernel_rfl) (by kernel_rfl) Try.underlying26 Try.underlying5 (by kernel_rfl)
  have hci : Try.prog.cellsOf 3 = 1 := by kernel_rfl
  have hcl : Try.prog.cellsOf 48 = 1 := by kernel_rfl
  have ce : Try.prog.cellsOf 50 = 2 := by kernel_rfl
  obtain ⟨cs, rfl, hsz⟩ := okW_struct ht hv
  obtain ⟨fuel, hf⟩ := h
  obtain ⟨hl, n, hf⟩ := trod_parts ht hf
  obtain ⟨y0, h0⟩ := hf (0, 3) (by simp)
  obtain ⟨y1, h1⟩ := hf (1, 48) (by simp)
  dsimp only at h0 h1
  rw [hci] at h0
  rw [hcl] at h1
  rw [ce] at hsz
  obtain ⟨k0, e0, _, w0⟩ := DataW.trod_int Try.underlying3 h0
  obtain ⟨u, l, e1, hB⟩ := open_sl (r := rItem) Try.underlying48 (by kernel_rfl) (by decide) hop h1
  refine ⟨⟨k0, l⟩, u, ?_, w0, hB⟩
  congr 1
  apply Array.toList_inj.1
  obtain ⟨cl⟩ := cs
  match cl, hsz with
  | [c0, c1], _ =>
    simp [Value.cells] at e0 e1
    simp [e0, e1]
end
end Go.Proofs.Ytbddbadmfhplmaa

namespace Go.Proofs.Ytbddbadmfhplmaa
open Go.ChangeShapes Go.WideShapes Go.ChangeAt Go.RowKit

section
variable {H : Type} {enc : TypeId × Value → H} {W : World} {r : Reach} {base : Nat} {spare : Nat → Bool} {held : Bool} {v : Value} {d : DataW H} {p : List MemPlace}
set_option maxRecDepth 100000 in
theorem arg_store (hv : Value.okWide Try.prog W r base 28 v) (h : DataW.Trod enc Try.prog W 0 spare held 28 v d p) :
    ∃ (s : StoreL) (b u x y : Value), v = .agg #[b, u, x, y] ∧ StoreV W 0 W.heap.size b u x y s := by
  have ht : fieldsOf Try.prog 28 = some [(0, 25), (2, 26), (3, 26)] := by kernel_rfl
  have hd : fieldsOf Try.prog 25 = some [(0, 22), (1, 23)] := by kernel_rfl
  have htw : fieldsOf Try.prog 92 = some [(0, 3), (1, 26)] := by kernel_rfl
  have hcb : Try.prog.cellsOf 26 = 1 := by kernel_rfl
  have hcd : Try.prog.cellsOf 25 = 2 := by kernel_rfl
  have ce : Try.prog.cellsOf 28 = 4 := by kernel_rfl
  obtain ⟨cs, rfl, hsz⟩ := okW_struct ht hv
  obtain ⟨fuel, hf⟩ := h
  obtain ⟨hl, n, hf⟩ := trod_parts ht hf
  obtain ⟨y0, h0⟩ := hf (0, 25) (by simp)
  obtain ⟨y1, h1⟩ := hf (2, 26) (by simp)
  obtain ⟨y2, h2⟩ := hf (3, 26) (by simp)
  dsimp only at h0 h1 h2
  rw [hcb] at h1 h2
  rw [hcd] at h0
  rw [ce] at hsz
  obtain ⟨b, u, x, e0, hD⟩ := open_disk hd Try.underlying22 Try.underlying23 (by kernel_rfl) (by kernel_rfl) htw (by kernel_rfl) Try.underlying3 (by kernel_rfl) (by kernel_rfl) (by kernel_rfl) Try.underlying26 Try.underlying5 (by kernel_rfl) h0
  obtain ⟨v1, l1, e1, B1⟩ := open_bytes Try.underlying26 Try.underlying5 (by kernel_rfl) h1
  obtain ⟨v2, l2, e2, B2⟩ := open_bytes Try.underlying26 Try.underlying5 (by kernel_rfl) h2
  refine ⟨⟨x, l1, l2⟩, b, u, v1, v2, ?_, hD, B1, B2⟩
  congr 1
  apply Array.toList_inj.1
  obtain ⟨cl⟩ := cs
  match cl, hsz with
  | [c0, c1, c2, c3], _ =>
    simp [Value.cells] at e0 e1 e2
    simp [e0, e1, e2]
end
end Go.Proofs.Ytbddbadmfhplmaa

