/- DropTwice: the words and contracts, part 19. -/
import Derived.Test.YtbddbadmfhplmaaDropTwiceQ1
import Derived.Test.YtbddbadmfhplmaaDropTwiceQ2
import Derived.Test.YtbddbadmfhplmaaDropTwiceQ3
import Derived.Test.YtbddbadmfhplmaaDropTwiceQ4
import Derived.Test.YtbddbadmfhplmaaDropTwiceQ5
import Derived.Test.YtbddbadmfhplmaaDropTwiceQ6
import Derived.Test.YtbddbadmfhplmaaDropTwiceQ7
import Derived.Test.YtbddbadmfhplmaaDropTwiceQ8
import Derived.Test.YtbddbadmfhplmaaDropTwiceQ9
import Derived.Test.YtbddbadmfhplmaaDropTwiceQ10
import Derived.Test.YtbddbadmfhplmaaDropTwiceQ11
import Derived.Test.YtbddbadmfhplmaaDropTwiceQ12
import Derived.Test.YtbddbadmfhplmaaDropTwiceQ13
import Derived.Test.YtbddbadmfhplmaaDropTwiceQ14
import Derived.Test.YtbddbadmfhplmaaDropTwiceQ15
import Derived.Test.YtbddbadmfhplmaaDropTwiceQ16
import Derived.Test.YtbddbadmfhplmaaDropTwiceQ17
import Derived.Test.YtbddbadmfhplmaaDropTwiceQ18
import Derived.WalkKit
import Derived.WalkLawsBesides
import Derived.WalkSpells
import Derived.Lib.Hide
import Derived.Laws.Rows
import Derived.Laws.AppendOwnNone
import Derived.Maps.AppendAt
import Derived.ProofKit
import Derived.Deep.Slices
import Derived.WideShapes
import Derived.RangeFuncNested
import Derived.RangeFuncBound
import Derived.RangeFuncCalls
import Derived.RangeFuncLeaves
import Derived.RangeFuncBox
import Derived.Shelf.Abstract
import Derived.Shelf.RegionOpen
import Derived.OwnWalkIn
import Derived.TacticsInMore
import Derived.LoopNIn
import Derived.LoopIn
import Derived.Lib.AppendZerosOnto
import Derived.Lib.SliceRun
import Derived.Lib.Walk
import Derived.Deep.LoopGhost
import Derived.Laws.CopyOwn
import Derived.Laws.CopyRow
import Derived.OrdersHeld
import Derived.Deep.QuietTactic
import Derived.BigQuiet
import Derived.StillTailTactics
import Derived.OpenShut
import Derived.Deep.DeepCutAuto
import Derived.Laws.MakeOwn
import Derived.Deep.RegionHeld
import Derived.KernelRfl
import Derived.BigFrameIn
import Derived.OrdersIn
import Derived.Sort.CutIn
import Derived.ArgAppend
namespace Go.Proofs.Ytbddbadmfhplmaa
open Go.RowKit

/-- What was made. -/
theorem made_facts {s : StoreL} {n : NodeL} (h : errDm s n = 0) : ∃ a : Nat, atD s n = a ∧ 8 ≤ a ∧ a < 256 ∧ mayN n = true ∧ mayS s = true ∧ mayS (madS s n) = true ∧ s.now.getD a 0 = 0 ∧ (madS s n).now.getD a 0 = 1 ∧
    (madS s n).disk = ⟨s.disk.blocks, s.disk.waits ++ [⟨(a : Int), blockN n⟩]⟩ ∧ (∀ q, 0 < cntR n.items q → q ≠ a ∧ (s.now.getD q 0).toNat ≠ 0) ∧ ∀ q, q ≠ a → ((madS s n).now.getD q 0).toNat = (s.now.getD q 0).toNat + cntR n.items q := by
  obtain ⟨hm, hn, hs, ht, e1, e2, e3⟩ := errDm_zero h
  obtain ⟨i1, i2, i3, i4⟩ := shS_is s n.items hm (may_refs hn)
  obtain ⟨t1, t2, -, t4⟩ := take_is ht
  obtain ⟨p1, p2, -, -⟩ := head_free t4
  rw [i4] at t4
  have hh := freeN_mem.1 (show headS (shS s n.items) ∈ freeN s 256 by rw [show freeN s 256 = _ from t4]; exact List.mem_cons_self ..)
  obtain ⟨-, q1, q2⟩ := noneAt_iff.1 hh.2
  obtain ⟨a, ha⟩ : ∃ a, headS (shS s n.items) = a := ⟨_, rfl⟩
  have eT : madS s n = ⟨⟨s.disk.blocks, s.disk.waits ++ [⟨(a : Int), blockN n⟩]⟩, (shS s n.items).now.set a 1, s.last⟩ := by
    rw [e1]
    unfold mkS
    rw [t1, ha, i2, i3]
  rw [ha] at p1 p2 q1 q2 e3
  have h256 := mayT_len (mayS_iff.1 hm).2.1
  obtain ⟨c1, c2⟩ := shS_cnt s n.items hs
  have hal : a < (shS s n.items).now.length := by rw [c1, h256]; exact p2
  refine ⟨a, e3, p1, p2, hn, hm, e2, q1, by rw [eT]; exact cgetD_set_self _ _ _ hal, by rw [eT], fun q hq => ⟨fun e => by subst e; exact (c2 q).2 hq q1, fun e => (c2 q).2 hq (u8_inj e)⟩, fun q hq => ?_⟩
  rw [eT]
  show (((shS s n.items).now.set a 1).getD q 0).toNat = _
  rw [bget_set_ne _ _ _ _ (fun e => hq e.symm), (c2 q).1]
/-- A node of one reference, left. -/
theorem leave_facts {X : StoreL} {c : Nat} {n : NodeL} (hm : mayS X = true) (h8 : 8 ≤ c) (h9 : c < 256) (h1 : (X.now.getD c 0).toNat = 1) (hb : seenD X.disk (c : Int) = blockN n) (hn : mayN n = true)
    (hc : ∀ q, 0 < cntR n.items q → q ≠ c ∧ cntR n.items q < (X.now.getD q 0).toNat) :
    errSn X c = 0 ∧ nodeS X c = n ∧ errLv X c = 0 ∧ (leftS X c).disk = X.disk ∧ mayS (leftS X c) = true ∧ ∀ q, ((leftS X c).now.getD q 0).toNat = (X.now.getD q 0).toNat - cntR n.items q - if q = c then 1 else 0 := by
  obtain ⟨b1, b2, -⟩ := back1 hn
  have h0 : X.now.getD c 0 ≠ 0 := fun e => by rw [e] at h1; cases h1
  have hA : errAs X c = 0 := by unfold errAs; rw [hm, if_pos rfl, if_neg (by omega), Int.toNat_natCast, if_neg h0]
  have hS : errSn X c = 0 := by unfold errSn; rw [hA, if_neg (by decide), hb, if_pos b1]
  obtain ⟨now', l1, l2, l3⟩ := lvS_made (s := X) (p := c) (n := n) h1 (by rw [hb]; exact b1) (by rw [hb]; exact b2) hc
  have hL : errLv X c = 0 := by unfold errLv; rw [hA, if_neg (by decide), Int.toNat_natCast, l1, if_neg (by simp)]
  obtain ⟨-, -, -, -, now2, m1, m2, -, m4⟩ := left_is hL
  rw [Int.toNat_natCast, l1] at m1
  injection m1 with m1
  subst m1
  refine ⟨hS, by unfold nodeS; rw [hS, if_pos rfl, hb, b2], hL, by rw [m2], m4, fun q => ?_⟩
  rw [m2]
  exact l3 q
theorem now_eq {X s : StoreL} (hX : mayS X = true) (hs : mayS s = true) (h : ∀ q, (X.now.getD q 0).toNat = (s.now.getD q 0).toNat) : X.now = s.now :=
  ext_getD _ _ 0 (by rw [mayT_len (mayS_iff.1 hX).2.1, mayT_len (mayS_iff.1 hs).2.1]) (fun q _ => u8_inj (h q))
theorem twice_law {s : StoreL} {n : NodeL} (h : errDm s n = 0) (h' : errDm (madS s n) n = 0) : ∃ a b : Nat, atD s n = a ∧ atD (madS s n) n = b ∧ a ≠ b ∧ s.now.length = 256 ∧ (madS (madS s n) n).now.length = 256 ∧
    errSn (madS (madS s n) n) a = 0 ∧ nodeS (madS (madS s n) n) a = n ∧ errSn (madS (madS s n) n) b = 0 ∧ nodeS (madS (madS s n) n) b = n ∧
    (∀ y ∈ n.items, y.ref = 0 ∨ (8 ≤ y.ref ∧ y.ref < 256)) ∧ (∀ y ∈ n.items, y.ref ≠ 0 → (s.now.getD y.ref.toNat 0).toNat + 2 ≤ ((madS (madS s n) n).now.getD y.ref.toNat 0).toNat) ∧
    (errLv (madS (madS s n) n) a = 0 ∧ errLv (leftS (madS (madS s n) n) a) b = 0 ∧ (leftS (leftS (madS (madS s n) n) a) b).now = s.now) ∧
    (errLv (madS (madS s n) n) b = 0 ∧ errLv (leftS (madS (madS s n) n) b) a = 0 ∧ (leftS (leftS (madS (madS s n) n) b) a).now = s.now) := by
  obtain ⟨a, a1, a2, a3, a4, a5, a6, a7, a8, a9, a10, a11⟩ := made_facts h
  obtain ⟨b, b1, b2, b3, -, -, b6, b7, b8, b9, b10, b11⟩ := made_facts h'
  obtain ⟨T, hT⟩ : ∃ T, madS s n = T := ⟨_, rfl⟩
  rw [hT] at a6 a8 a9 a11 b1 b6 b7 b8 b9 b10 b11 ⊢
  obtain ⟨U, hU⟩ : ∃ U, madS T n = U := ⟨_, rfl⟩
  rw [hU] at b6 b8 b9 b11 ⊢
  have hab : a ≠ b := fun e => by rw [e, b7] at a8; cases a8
  have ca : cntR n.items a = 0 := by
    rcases Nat.eq_zero_or_pos (cntR n.items a) with h | h
    · exact h
    · exact absurd rfl (a10 a h).1
  have cb : cntR n.items b = 0 := by
    rcases Nat.eq_zero_or_pos (cntR n.items b) with h | h
    · exact h
    · exact absurd rfl (b10 b h).1
  have a7' : (s.now.getD a 0).toNat = 0 := by rw [a7]; rfl
  have a8' : (T.now.getD a 0).toNat = 1 := by rw [a8]; rfl
  have b7' : (T.now.getD b 0).toNat = 0 := by rw [b7]; rfl
  have b8' : (U.now.getD b 0).toNat = 1 := by rw [b8]; rfl
  have hUa : (U.now.getD a 0).toNat = 1 := by rw [b11 a hab, a8', ca]
  have hsb : (s.now.getD b 0).toNat = 0 := by have := a11 b (fun e => hab e.symm); omega
  have hU2 : ∀ q, q ≠ a → q ≠ b → (U.now.getD q 0).toNat = (s.now.getD q 0).toNat + cntR n.items q + cntR n.items q := fun q h1 h2 => by rw [b11 q h2, a11 q h1]
  have hsa2 : seenD U.disk (a : Int) = blockN n := by
    rw [b9, a9]
    unfold seenD
    rw [lastW_app, if_neg (by show ¬ (b : Int) = a; omega), lastW_app, if_pos rfl]
  have hsb2 : seenD U.disk (b : Int) = blockN n := by
    rw [b9]
    unfold seenD
    rw [lastW_app, if_pos rfl]
  obtain ⟨u1, u2, u3, u4, u5, u6⟩ := leave_facts b6 a2 a3 hUa hsa2 a4 (fun q hq => ⟨(a10 q hq).1, by rw [hU2 q (a10 q hq).1 (b10 q hq).1]; have := (a10 q hq).2; omega⟩)
  obtain ⟨v1, v2, v3, v4, v5, v6⟩ := leave_facts b6 b2 b3 b8' hsb2 a4 (fun q hq => ⟨(b10 q hq).1, by rw [hU2 q (a10 q hq).1 (b10 q hq).1]; have := (a10 q hq).2; omega⟩)
  obtain ⟨-, -, x3, -, x5, x6⟩ := leave_facts u5 b2 b3 (by rw [u6 b, b8', cb, if_neg (fun e => hab e.symm)]) (by rw [u4]; exact hsb2) a4 (fun q hq => ⟨(b10 q hq).1, by rw [u6 q, hU2 q (a10 q hq).1 (b10 q hq).1, if_neg (a10 q hq).1]; have := (a10 q hq).2; omega⟩)
  obtain ⟨-, -, y3, -, y5, y6⟩ := leave_facts v5 a2 a3 (by rw [v6 a, hUa, ca, if_neg hab]) (by rw [v4]; exact hsa2) a4 (fun q hq => ⟨(a10 q hq).1, by rw [v6 q, hU2 q (a10 q hq).1 (b10 q hq).1, if_neg (b10 q hq).1]; have := (a10 q hq).2; omega⟩)
  refine ⟨a, b, a1, b1, hab, mayT_len (mayS_iff.1 a5).2.1, mayT_len (mayS_iff.1 b6).2.1, u1, u2, v1, v2, may_refs a4, fun y hy h0 => ?_, ⟨u3, x3, now_eq x5 a5 fun q => ?_⟩, ⟨v3, y3, now_eq y5 a5 fun q => ?_⟩⟩
  · have hp := cntR_pos hy h0
    rw [hU2 _ (a10 _ hp).1 (b10 _ hp).1]
    omega
  · rw [x6 q, u6 q]
    by_cases h1 : q = a
    · subst h1; rw [hUa, a7', ca, if_pos rfl, if_neg hab]
    · by_cases h2 : q = b
      · subst h2; rw [b8', hsb, cb, if_neg h1, if_pos rfl]
      · rw [hU2 q h1 h2, if_neg h1, if_neg h2]; omega
  · rw [y6 q, v6 q]
    by_cases h1 : q = a
    · subst h1; rw [hUa, a7', ca, if_neg hab, if_pos rfl]
    · by_cases h2 : q = b
      · subst h2; rw [b8', hsb, cb, if_pos rfl, if_neg h1]
      · rw [hU2 q h1 h2, if_neg h1, if_neg h2]; omega

set_option maxRecDepth 100000 in
set_option maxHeartbeats 4000000 in
theorem dropTwice_walk (b_s u_s x_s y_s : Value) (s : StoreL) (n : NodeL) (u_n : Value) (w : World) (h_s : StoreV w 0 w.heap.size b_s u_s x_s y_s s) (h_n : (Lit.int .i64 n.level).wf = true ∧ Sl rItem w 0 w.heap.size u_n n.items) :
    Calls Try.prog 12 #[.agg #[b_s, u_s, x_s, y_s], .agg #[.int .i64 n.level, u_n]] w fun e w' => e = .returned (.bool true) ∧ Below w.heap.size w w' := by
  obtain ⟨ab_s, cb_s, rfl, gb_s, gc_s, -, -⟩ := h_s.1.1
  obtain ⟨au_s, cu_s, rfl, gu_s, gv_s, -, -⟩ := h_s.1.2
  obtain ⟨ax_s, cx_s, rfl, gx_s, gz_s⟩ := h_s.2.1.form rfl
  obtain ⟨ay_s, cy_s, rfl, gy_s, gw_s⟩ := h_s.2.2.form rfl
  unfold maxLen at gc_s gv_s gz_s gw_s
  obtain ⟨hw_n, h_n⟩ := h_n
  obtain ⟨a_n, c_n, rfl, g_n, gm_n, -, -⟩ := id h_n
  unfold maxLen at gm_n
  have hst := (((Below.refl w.heap.size w).alloc (Nat.le_refl _) (.cells #[.slice ab_s s.disk.blocks.length cb_s, .slice au_s s.disk.waits.length cu_s, .slice ax_s s.now.length cx_s, .slice ay_s s.last.length cy_s] 28)).alloc (by simp) (.cells #[.int .i64 n.level, .slice a_n n.items.length c_n] 50))
  have hq := two_new w (.cells #[.slice ab_s s.disk.blocks.length cb_s, .slice au_s s.disk.waits.length cu_s, .slice ax_s s.now.length cx_s, .slice ay_s s.last.length cy_s] 28) (.cells #[.int .i64 n.level, .slice a_n n.items.length c_n] 50)
  have q_s := LK.of hq.1
  have q_n := LK.of hq.2
  have hB : LW w _ := hst
  have O_s := (LO.of h_s (Nat.le_refl _)).step hst
  have S_n := (LS.of h_n (Nat.le_refl _)).step hst
  have sz_V : w.heap.size + 1 < ((w.alloc (.cells #[.slice ab_s s.disk.blocks.length cb_s, .slice au_s s.disk.waits.length cu_s, .slice ax_s s.now.length cx_s, .slice ay_s s.last.length cy_s] 28)).alloc (.cells #[.int .i64 n.level, .slice a_n n.items.length c_n] 50)).heap.size := by simp
  obtain ⟨V, hV⟩ : ∃ V, ((w.alloc (.cells #[.slice ab_s s.disk.blocks.length cb_s, .slice au_s s.disk.waits.length cu_s, .slice ax_s s.now.length cx_s, .slice ay_s s.last.length cy_s] 28)).alloc (.cells #[.int .i64 n.level, .slice a_n n.items.length c_n] 50)) = V := ⟨_, rfl⟩
  rw [hV] at sz_V q_s q_n O_s S_n hB
  clear hst h_s h_n hq
  have HQ := Lib.hid (And.intro q_s (And.intro q_n (And.intro O_s (And.intro S_n hB))))
  clear q_s q_n O_s S_n hB
  have c_q_s0 := LK.cell HQ.out.1 0
  have c_q_s1 := LK.cell HQ.out.1 1
  have c_q_s2 := LK.cell HQ.out.1 2
  have c_q_s3 := LK.cell HQ.out.1 3
  have c_q_n0 := LK.cell HQ.out.2.1 0
  have c_q_n1 := LK.cell HQ.out.2.1 1
  simp at c_q_s0 c_q_s1 c_q_s2 c_q_s3 c_q_n0 c_q_n1
  have hyes := twice_law (s := s) (n := n)
  have k_g := fun V b u x y hh => great8_any b u x y s V hh
  have k_g6 := fun V v hh => great6_any v n.items V hh
  have k_m := fun V b u x y v h1 h2 => dmake_any b u x y s n v V h1 ⟨hw_n, h2⟩
  have k_m2 := fun V b u x y v h1 h2 => dmake_any b u x y (madS s n) n v V h1 ⟨hw_n, h2⟩
  obtain ⟨es, hes⟩ : ∃ e, errDm s n = e := ⟨_, rfl⟩
  obtain ⟨at1, hat⟩ : ∃ e, atD s n = e := ⟨_, rfl⟩
  obtain ⟨T, hT⟩ : ∃ T, madS s n = T := ⟨_, rfl⟩
  simp only [hes, hat, hT] at hyes k_m k_m2
  obtain ⟨es2, hes2⟩ : ∃ e, errDm T n = e := ⟨_, rfl⟩
  obtain ⟨at2, hat2⟩ : ∃ e, atD T n = e := ⟨_, rfl⟩
  obtain ⟨U, hU⟩ : ∃ U, madS T n = U := ⟨_, rfl⟩
  simp only [hes2, hat2, hU] at hyes k_m2
  have HN := Lib.hid hyes
  clear hyes hes hT hat hes2 hat2 hU
  have HC := Lib.hid (And.intro k_g (And.intro k_g6 (And.intro k_m k_m2)))
  clear k_g k_g6 k_m k_m2
  go_enter Try.func12, Try.ntmps12
  go_upto_region 1 with (fail)
  clear hV
  go_wp2_with fail
  refine (alive9 V).mono ?_
  rintro e w1 ⟨rfl, hst⟩
  clear c_q_s0 c_q_s1 c_q_s2 c_q_s3 c_q_n0 c_q_n1
  obtain ⟨q_s, q_n, O_s, S_n, hB⟩ := HQ.out
  clear HQ
  have sz_w1 : V.heap.size ≤ w1.heap.size := hst.size
  replace q_s := q_s.step hst
  replace q_n := q_n.step hst
  replace O_s := O_s.step hst
  replace S_n := S_n.step hst
  replace hB := hB.step hst
  clear hst
  have HQ := Lib.hid (And.intro q_s (And.intro q_n (And.intro O_s (And.intro S_n hB))))
  clear q_s q_n O_s S_n hB
  have c_q_s0 := LK.cell HQ.out.1 0
  have c_q_s1 := LK.cell HQ.out.1 1
  have c_q_s2 := LK.cell HQ.out.1 2
  have c_q_s3 := LK.cell HQ.out.1 3
  have c_q_n0 := LK.cell HQ.out.2.1 0
  have c_q_n1 := LK.cell HQ.out.2.1 1
  simp at c_q_s0 c_q_s1 c_q_s2 c_q_s3 c_q_n0 c_q_n1
  go_wp2_with fail
  refine (HC.out.1 _ _ _ _ _ HQ.out.2.2.1.v).mono ?_
  rintro e w2 ⟨g, rfl, hst, -⟩
  clear c_q_s0 c_q_s1 c_q_s2 c_q_s3 c_q_n0 c_q_n1
  obtain ⟨q_s, q_n, O_s, S_n, hB⟩ := HQ.out
  clear HQ
  have sz_w2 : w1.heap.size ≤ w2.heap.size := hst.size
  replace q_s := q_s.step hst
  replace q_n := q_n.step hst
  replace O_s := O_s.step hst
  replace S_n := S_n.step hst
  replace hB := hB.step hst
  clear hst
  have HQ := Lib.hid (And.intro q_s (And.intro q_n (And.intro O_s (And.intro S_n hB))))
  clear q_s q_n O_s S_n hB
  have c_q_s0 := LK.cell HQ.out.1 0
  have c_q_s1 := LK.cell HQ.out.1 1
  have c_q_s2 := LK.cell HQ.out.1 2
  have c_q_s3 := LK.cell HQ.out.1 3
  have c_q_n0 := LK.cell HQ.out.2.1 0
  have c_q_n1 := LK.cell HQ.out.2.1 1
  simp at c_q_s0 c_q_s1 c_q_s2 c_q_s3 c_q_n0 c_q_n1
  cases g
  case true =>
    go_wp2
    go_ret
    exact ⟨rfl, HQ.out.2.2.2.2⟩
  go_wp2_with fail
  refine (HC.out.2.1 _ _ HQ.out.2.2.2.1.v).mono ?_
  rintro e w3 ⟨g, rfl, hst, -⟩
  clear c_q_s0 c_q_s1 c_q_s2 c_q_s3 c_q_n0 c_q_n1
  obtain ⟨q_s, q_n, O_s, S_n, hB⟩ := HQ.out
  clear HQ
  have sz_w3 : w2.heap.size ≤ w3.heap.size := hst.size
  replace q_s := q_s.step hst
  replace q_n := q_n.step hst
  replace O_s := O_s.step hst
  replace S_n := S_n.step hst
  replace hB := hB.step hst
  clear hst
  have HQ := Lib.hid (And.intro q_s (And.intro q_n (And.intro O_s (And.intro S_n hB))))
  clear q_s q_n O_s S_n hB
  have c_q_s0 := LK.cell HQ.out.1 0
  have c_q_s1 := LK.cell HQ.out.1 1
  have c_q_s2 := LK.cell HQ.out.1 2
  have c_q_s3 := LK.cell HQ.out.1 3
  have c_q_n0 := LK.cell HQ.out.2.1 0
  have c_q_n1 := LK.cell HQ.out.2.1 1
  simp at c_q_s0 c_q_s1 c_q_s2 c_q_s3 c_q_n0 c_q_n1
  cases g
  case true =>
    go_wp2
    go_ret
    exact ⟨rfl, HQ.out.2.2.2.2⟩
  go_wp2_with fail
  refine (HC.out.2.2.1 _ _ _ _ _ _ HQ.out.2.2.1.v HQ.out.2.2.2.1.v).mono ?_
  rintro e w4 ⟨b1, u1, x1, y1, rfl, hm⟩
  clear c_q_s0 c_q_s1 c_q_s2 c_q_s3 c_q_n0 c_q_n1
  obtain ⟨q_s, q_n, O_s, S_n, hB⟩ := HQ.out
  clear HQ
  have P_t := LP.of hm
  have hst := hm.below
  obtain ⟨ab_t, cb_t, rfl, -, -, -, -⟩ := hm.store.v.1.1
  obtain ⟨au_t, cu_t, rfl, -, -, -, -⟩ := hm.store.v.1.2
  obtain ⟨ax_t, cx_t, rfl, -, -⟩ := hm.store.v.2.1.form rfl
  obtain ⟨ay_t, cy_t, rfl, -, -⟩ := hm.store.v.2.2.form rfl
  clear hm
  have sz_w4 : w3.heap.size ≤ w4.heap.size := hst.size
  replace q_s := q_s.step hst
  replace q_n := q_n.step hst
  replace O_s := O_s.step hst
  replace S_n := S_n.step hst
  replace hB := hB.step hst
  clear hst
  have HQ := Lib.hid (And.intro q_s (And.intro q_n (And.intro O_s (And.intro S_n (And.intro P_t hB)))))
  clear q_s q_n O_s S_n P_t hB
  have c_q_s0 := LK.cell HQ.out.1 0
  have c_q_s1 := LK.cell HQ.out.1 1
  have c_q_s2 := LK.cell HQ.out.1 2
  have c_q_s3 := LK.cell HQ.out.1 3
  have c_q_n0 := LK.cell HQ.out.2.1 0
  have c_q_n1 := LK.cell HQ.out.2.1 1
  simp at c_q_s0 c_q_s1 c_q_s2 c_q_s3 c_q_n0 c_q_n1
  go_upto_region 5 with (fail)
  clear c_q_s0 c_q_s1 c_q_s2 c_q_s3 c_q_n0 c_q_n1
  obtain ⟨q_s, q_n, O_s, S_n, P_t, hB⟩ := HQ.out
  clear HQ
  have hst := (Below.refl w4.heap.size w4).alloc (Nat.le_refl _) (.cells #[.slice ab_t T.disk.blocks.length cb_t, .slice au_t T.disk.waits.length cu_t, .slice ax_t T.now.length cx_t, .slice ay_t T.last.length cy_t] 28)
  have hlt : w4.heap.size < (w4.alloc (.cells #[.slice ab_t T.disk.blocks.length cb_t, .slice au_t T.disk.waits.length cu_t, .slice ax_t T.now.length cx_t, .slice ay_t T.last.length cy_t] 28)).heap.size := by simp
  have q_t := LK.new w4 (.cells #[.slice ab_t T.disk.blocks.length cb_t, .slice au_t T.disk.waits.length cu_t, .slice ax_t T.now.length cx_t, .slice ay_t T.last.length cy_t] 28)
  replace q_s := q_s.step hst
  replace q_n := q_n.step hst
  replace O_s := O_s.step hst
  replace S_n := S_n.step hst
  replace P_t := P_t.step hst
  replace hB := hB.step hst
  obtain ⟨w5, hw⟩ : ∃ v, w4.alloc (.cells #[.slice ab_t T.disk.blocks.length cb_t, .slice au_t T.disk.waits.length cu_t, .slice ax_t T.now.length cx_t, .slice ay_t T.last.length cy_t] 28) = v := ⟨_, rfl⟩
  rw [hw] at hlt q_t q_s q_n O_s S_n P_t hB ⊢
  clear hw hst
  have sz_w5 := hlt
  clear hlt
  have HQ := Lib.hid (And.intro q_s (And.intro q_n (And.intro O_s (And.intro S_n (And.intro P_t (And.intro q_t hB))))))
  clear q_s q_n O_s S_n P_t q_t hB
  have c_q_s0 := LK.cell HQ.out.1 0
  have c_q_s1 := LK.cell HQ.out.1 1
  have c_q_s2 := LK.cell HQ.out.1 2
  have c_q_s3 := LK.cell HQ.out.1 3
  have c_q_n0 := LK.cell HQ.out.2.1 0
  have c_q_n1 := LK.cell HQ.out.2.1 1
  have c_q_t0 := LK.cell HQ.out.2.2.2.2.2.1 0
  have c_q_t1 := LK.cell HQ.out.2.2.2.2.2.1 1
  have c_q_t2 := LK.cell HQ.out.2.2.2.2.2.1 2
  have c_q_t3 := LK.cell HQ.out.2.2.2.2.2.1 3
  simp at c_q_s0 c_q_s1 c_q_s2 c_q_s3 c_q_n0 c_q_n1 c_q_t0 c_q_t1 c_q_t2 c_q_t3
  go_wp2_with fail
  refine (HC.out.2.2.2 _ _ _ _ _ _ HQ.out.2.2.2.2.1.v HQ.out.2.2.2.1.v).mono ?_
  rintro e w6 ⟨b2, u2, x2, y2, rfl, hm⟩
  clear c_q_s0 c_q_s1 c_q_s2 c_q_s3 c_q_n0 c_q_n1 c_q_t0 c_q_t1 c_q_t2 c_q_t3
  obtain ⟨q_s, q_n, O_s, S_n, P_t, q_t, hB⟩ := HQ.out
  clear HQ
  have P_u := LP.of hm
  have hst := hm.below
  obtain ⟨ab_u, cb_u, rfl, -, -, -, -⟩ := hm.store.v.1.1
  obtain ⟨au_u, cu_u, rfl, -, -, -, -⟩ := hm.store.v.1.2
  obtain ⟨ax_u, cx_u, rfl, -, -⟩ := hm.store.v.2.1.form rfl
  obtain ⟨ay_u, cy_u, rfl, -, -⟩ := hm.store.v.2.2.form rfl
  clear hm
  have sz_w6 : w5.heap.size ≤ w6.heap.size := hst.size
  replace q_s := q_s.step hst
  replace q_n := q_n.step hst
  replace O_s := O_s.step hst
  replace S_n := S_n.step hst
  replace P_t := P_t.step hst
  replace q_t := q_t.step hst
  replace hB := hB.step hst
  clear hst
  have HQ := Lib.hid (And.intro q_s (And.intro q_n (And.intro O_s (And.intro S_n (And.intro P_t (And.intro q_t (And.intro P_u hB)))))))
  clear q_s q_n O_s S_n P_t q_t P_u hB
  have c_q_s0 := LK.cell HQ.out.1 0
  have c_q_s1 := LK.cell HQ.out.1 1
  have c_q_s2 := LK.cell HQ.out.1 2
  have c_q_s3 := LK.cell HQ.out.1 3
  have c_q_n0 := LK.cell HQ.out.2.1 0
  have c_q_n1 := LK.cell HQ.out.2.1 1
  have c_q_t0 := LK.cell HQ.out.2.2.2.2.2.1 0
  have c_q_t1 := LK.cell HQ.out.2.2.2.2.2.1 1
  have c_q_t2 := LK.cell HQ.out.2.2.2.2.2.1 2
  have c_q_t3 := LK.cell HQ.out.2.2.2.2.2.1 3
  simp at c_q_s0 c_q_s1 c_q_s2 c_q_s3 c_q_n0 c_q_n1 c_q_t0 c_q_t1 c_q_t2 c_q_t3
  go_upto_region 6 with (fail)
  clear c_q_s0 c_q_s1 c_q_s2 c_q_s3 c_q_n0 c_q_n1 c_q_t0 c_q_t1 c_q_t2 c_q_t3
  obtain ⟨q_s, q_n, O_s, S_n, P_t, q_t, P_u, hB⟩ := HQ.out
  clear HQ
  have hst := (Below.refl w6.heap.size w6).alloc (Nat.le_refl _) (.cells #[.slice ab_u U.disk.blocks.length cb_u, .slice au_u U.disk.waits.length cu_u, .slice ax_u U.now.length cx_u, .slice ay_u U.last.length cy_u] 28)
  have hlt : w6.heap.size < (w6.alloc (.cells #[.slice ab_u U.disk.blocks.length cb_u, .slice au_u U.disk.waits.length cu_u, .slice ax_u U.now.length cx_u, .slice ay_u U.last.length cy_u] 28)).heap.size := by simp
  have q_u := LK.new w6 (.cells #[.slice ab_u U.disk.blocks.length cb_u, .slice au_u U.disk.waits.length cu_u, .slice ax_u U.now.length cx_u, .slice ay_u U.last.length cy_u] 28)
  replace q_s := q_s.step hst
  replace q_n := q_n.step hst
  replace O_s := O_s.step hst
  replace S_n := S_n.step hst
  replace P_t := P_t.step hst
  replace q_t := q_t.step hst
  replace P_u := P_u.step hst
  replace hB := hB.step hst
  obtain ⟨w7, hw⟩ : ∃ v, w6.alloc (.cells #[.slice ab_u U.disk.blocks.length cb_u, .slice au_u U.disk.waits.length cu_u, .slice ax_u U.now.length cx_u, .slice ay_u U.last.length cy_u] 28) = v := ⟨_, rfl⟩
  rw [hw] at hlt q_u q_s q_n O_s S_n P_t q_t P_u hB ⊢
  clear hw hst
  have sz_w7 := hlt
  clear hlt
  have HQ := Lib.hid (And.intro q_s (And.intro q_n (And.intro O_s (And.intro S_n (And.intro P_t (And.intro q_t (And.intro P_u (And.intro q_u hB))))))))
  clear q_s q_n O_s S_n P_t q_t P_u q_u hB
  have c_q_s0 := LK.cell HQ.out.1 0
  have c_q_s1 := LK.cell HQ.out.1 1
  have c_q_s2 := LK.cell HQ.out.1 2
  have c_q_s3 := LK.cell HQ.out.1 3
  have c_q_n0 := LK.cell HQ.out.2.1 0
  have c_q_n1 := LK.cell HQ.out.2.1 1
  have c_q_t0 := LK.cell HQ.out.2.2.2.2.2.1 0
  have c_q_t1 := LK.cell HQ.out.2.2.2.2.2.1 1
  have c_q_t2 := LK.cell HQ.out.2.2.2.2.2.1 2
  have c_q_t3 := LK.cell HQ.out.2.2.2.2.2.1 3
  have c_q_u0 := LK.cell HQ.out.2.2.2.2.2.2.2.1 0
  have c_q_u1 := LK.cell HQ.out.2.2.2.2.2.2.2.1 1
  have c_q_u2 := LK.cell HQ.out.2.2.2.2.2.2.2.1 2
  have c_q_u3 := LK.cell HQ.out.2.2.2.2.2.2.2.1 3
  simp at c_q_s0 c_q_s1 c_q_s2 c_q_s3 c_q_n0 c_q_n1 c_q_t0 c_q_t1 c_q_t2 c_q_t3 c_q_u0 c_q_u1 c_q_u2 c_q_u3
  by_cases hz : es = 0
  case neg =>
    have i1 : (es == 0) = false := by simp [hz]
    have i2 : (es != 0) = true := by simp [hz]
    go_wp2
    go_ret
    exact ⟨rfl, HQ.out.2.2.2.2.2.2.2.2⟩
  by_cases hz2 : es2 = 0
  case neg =>
    subst hz
    have i1 : (es2 == 0) = false := by simp [hz2]
    have i2 : (es2 != 0) = true := by simp [hz2]
    go_wp2
    go_ret
    exact ⟨rfl, HQ.out.2.2.2.2.2.2.2.2⟩
  subst hz hz2
  obtain ⟨a, b, rfl, rfl, hab, hsl, hul, n1, n2, n3, n4, hrf, htwo, ⟨l1, l2, l3⟩, l4, l5, l6⟩ := HN.out rfl rfl
  clear HN
  have kxa := fun V b u x y hh => snode_any b u x y U (a : Int) V hh
  simp only [n1, n2] at kxa
  have kxb := fun V bb u x y hh => snode_any bb u x y U (b : Int) V hh
  simp only [n3, n4] at kxb
  have kla := fun V bb u x y hh => dleave_any bb u x y U (a : Int) V hh
  have klab := fun V bb u x y hh => dleave_any bb u x y (leftS U (a : Int)) (b : Int) V hh
  have klb := fun V bb u x y hh => dleave_any bb u x y U (b : Int) V hh
  have klba := fun V bb u x y hh => dleave_any bb u x y (leftS U (b : Int)) (a : Int) V hh
  obtain ⟨V1, hV1⟩ : ∃ Z, leftS U (a : Int) = Z := ⟨_, rfl⟩
  obtain ⟨W1, hW1⟩ : ∃ Z, leftS U (b : Int) = Z := ⟨_, rfl⟩
  simp only [hV1] at kla klab l2 l3
  simp only [hW1] at klb klba l5 l6
  obtain ⟨V2, hV2⟩ : ∃ Z, leftS V1 (b : Int) = Z := ⟨_, rfl⟩
  obtain ⟨W2, hW2⟩ : ∃ Z, leftS W1 (a : Int) = Z := ⟨_, rfl⟩
  simp only [hV2] at klab l3
  simp only [hW2] at klba l6
  simp only [l1] at kla
  simp only [l2] at klab
  simp only [l4] at klb
  simp only [l5] at klba
  have K := Lib.hid (And.intro kxa (And.intro kxb (And.intro kla (And.intro klab (And.intro klb klba)))))
  have HT := Lib.hid (And.intro hsl (And.intro hul (And.intro hrf (And.intro htwo (And.intro l3 l6)))))
  clear kxa kxb kla klab klb klba hsl hul hrf htwo l1 l2 l3 l4 l5 l6 n1 n2 n3 n4 hV1 hW1 hV2 hW2
  go_wp2_with fail
  refine (K.out.1 _ _ _ _ _ HQ.out.2.2.2.2.2.2.1.v).mono ?_
  rintro e w8 ⟨v_x, rfl, hS, hst⟩
  clear c_q_s0 c_q_s1 c_q_s2 c_q_s3 c_q_n0 c_q_n1 c_q_t0 c_q_t1 c_q_t2 c_q_t3 c_q_u0 c_q_u1 c_q_u2 c_q_u3
  obtain ⟨q_s, q_n, O_s, S_n, P_t, q_t, P_u, q_u, hB⟩ := HQ.out
  clear HQ
  have S_x := LS.of hS (Nat.le_refl _)
  obtain ⟨a_x, c_x, rfl, gx1, gx2, -, -⟩ := hS
  have sz_w8 : w7.heap.size ≤ w8.heap.size := hst.size
  replace q_s := q_s.step hst
  replace q_n := q_n.step hst
  replace O_s := O_s.step hst
  replace S_n := S_n.step hst
  replace P_t := P_t.step hst
  replace q_t := q_t.step hst
  replace P_u := P_u.step hst
  replace q_u := q_u.step hst
  replace hB := hB.step hst
  clear hst
  have HQ := Lib.hid (And.intro q_s (And.intro q_n (And.intro O_s (And.intro S_n (And.intro P_t (And.intro q_t (And.intro P_u (And.intro q_u (And.intro S_x hB)))))))))
  clear q_s q_n O_s S_n P_t q_t P_u q_u S_x hB
  have c_q_s0 := LK.cell HQ.out.1 0
  have c_q_s1 := LK.cell HQ.out.1 1
  have c_q_s2 := LK.cell HQ.out.1 2
  have c_q_s3 := LK.cell HQ.out.1 3
  have c_q_n0 := LK.cell HQ.out.2.1 0
  have c_q_n1 := LK.cell HQ.out.2.1 1
  have c_q_t0 := LK.cell HQ.out.2.2.2.2.2.1 0
  have c_q_t1 := LK.cell HQ.out.2.2.2.2.2.1 1
  have c_q_t2 := LK.cell HQ.out.2.2.2.2.2.1 2
  have c_q_t3 := LK.cell HQ.out.2.2.2.2.2.1 3
  have c_q_u0 := LK.cell HQ.out.2.2.2.2.2.2.2.1 0
  have c_q_u1 := LK.cell HQ.out.2.2.2.2.2.2.2.1 1
  have c_q_u2 := LK.cell HQ.out.2.2.2.2.2.2.2.1 2
  have c_q_u3 := LK.cell HQ.out.2.2.2.2.2.2.2.1 3
  simp at c_q_s0 c_q_s1 c_q_s2 c_q_s3 c_q_n0 c_q_n1 c_q_t0 c_q_t1 c_q_t2 c_q_t3 c_q_u0 c_q_u1 c_q_u2 c_q_u3
  go_upto_region 9 with (fail)
  clear c_q_s0 c_q_s1 c_q_s2 c_q_s3 c_q_n0 c_q_n1 c_q_t0 c_q_t1 c_q_t2 c_q_t3 c_q_u0 c_q_u1 c_q_u2 c_q_u3
  obtain ⟨q_s, q_n, O_s, S_n, P_t, q_t, P_u, q_u, S_x, hB⟩ := HQ.out
  clear HQ
  have hst := (Below.refl w8.heap.size w8).alloc (Nat.le_refl _) (.cells #[.int .i64 n.level, .slice a_x n.items.length c_x] 50)
  have hlt : w8.heap.size < (w8.alloc (.cells #[.int .i64 n.level, .slice a_x n.items.length c_x] 50)).heap.size := by simp
  have q_x := LK.new w8 (.cells #[.int .i64 n.level, .slice a_x n.items.length c_x] 50)
  replace q_s := q_s.step hst
  replace q_n := q_n.step hst
  replace O_s := O_s.step hst
  replace S_n := S_n.step hst
  replace P_t := P_t.step hst
  replace q_t := q_t.step hst
  replace P_u := P_u.step hst
  replace q_u := q_u.step hst
  replace S_x := S_x.step hst
  replace hB := hB.step hst
  obtain ⟨w9, hw⟩ : ∃ v, w8.alloc (.cells #[.int .i64 n.level, .slice a_x n.items.length c_x] 50) = v := ⟨_, rfl⟩
  rw [hw] at hlt q_x q_s q_n O_s S_n P_t q_t P_u q_u S_x hB ⊢
  clear hw hst
  have sz_w9 := hlt
  clear hlt
  have HQ := Lib.hid (And.intro q_s (And.intro q_n (And.intro O_s (And.intro S_n (And.intro P_t (And.intro q_t (And.intro P_u (And.intro q_u (And.intro S_x (And.intro q_x hB))))))))))
  clear q_s q_n O_s S_n P_t q_t P_u q_u S_x q_x hB
  have c_q_s0 := LK.cell HQ.out.1 0
  have c_q_s1 := LK.cell HQ.out.1 1
  have c_q_s2 := LK.cell HQ.out.1 2
  have c_q_s3 := LK.cell HQ.out.1 3
  have c_q_n0 := LK.cell HQ.out.2.1 0
  have c_q_n1 := LK.cell HQ.out.2.1 1
  have c_q_t0 := LK.cell HQ.out.2.2.2.2.2.1 0
  have c_q_t1 := LK.cell HQ.out.2.2.2.2.2.1 1
  have c_q_t2 := LK.cell HQ.out.2.2.2.2.2.1 2
  have c_q_t3 := LK.cell HQ.out.2.2.2.2.2.1 3
  have c_q_u0 := LK.cell HQ.out.2.2.2.2.2.2.2.1 0
  have c_q_u1 := LK.cell HQ.out.2.2.2.2.2.2.2.1 1
  have c_q_u2 := LK.cell HQ.out.2.2.2.2.2.2.2.1 2
  have c_q_u3 := LK.cell HQ.out.2.2.2.2.2.2.2.1 3
  have c_q_x0 := LK.cell HQ.out.2.2.2.2.2.2.2.2.2.1 0
  have c_q_x1 := LK.cell HQ.out.2.2.2.2.2.2.2.2.2.1 1
  simp at c_q_s0 c_q_s1 c_q_s2 c_q_s3 c_q_n0 c_q_n1 c_q_t0 c_q_t1 c_q_t2 c_q_t3 c_q_u0 c_q_u1 c_q_u2 c_q_u3 c_q_x0 c_q_x1
  go_wp2_with fail
  refine (K.out.2.1 _ _ _ _ _ HQ.out.2.2.2.2.2.2.1.v).mono ?_
  rintro e w10 ⟨v_y, rfl, hS, hst⟩
  clear c_q_s0 c_q_s1 c_q_s2 c_q_s3 c_q_n0 c_q_n1 c_q_t0 c_q_t1 c_q_t2 c_q_t3 c_q_u0 c_q_u1 c_q_u2 c_q_u3 c_q_x0 c_q_x1
  obtain ⟨q_s, q_n, O_s, S_n, P_t, q_t, P_u, q_u, S_x, q_x, hB⟩ := HQ.out
  clear HQ
  have S_y := LS.of hS (Nat.le_refl _)
  obtain ⟨a_y, c_y, rfl, -, -⟩ := hS
  have sz_w10 : w9.heap.size ≤ w10.heap.size := hst.size
  replace q_s := q_s.step hst
  replace q_n := q_n.step hst
  replace O_s := O_s.step hst
  replace S_n := S_n.step hst
  replace P_t := P_t.step hst
  replace q_t := q_t.step hst
  replace P_u := P_u.step hst
  replace q_u := q_u.step hst
  replace S_x := S_x.step hst
  replace q_x := q_x.step hst
  replace hB := hB.step hst
  clear hst
  have HQ := Lib.hid (And.intro q_s (And.intro q_n (And.intro O_s (And.intro S_n (And.intro P_t (And.intro q_t (And.intro P_u (And.intro q_u (And.intro S_x (And.intro q_x (And.intro S_y hB)))))))))))
  clear q_s q_n O_s S_n P_t q_t P_u q_u S_x q_x S_y hB
  have c_q_s0 := LK.cell HQ.out.1 0
  have c_q_s1 := LK.cell HQ.out.1 1
  have c_q_s2 := LK.cell HQ.out.1 2
  have c_q_s3 := LK.cell HQ.out.1 3
  have c_q_n0 := LK.cell HQ.out.2.1 0
  have c_q_n1 := LK.cell HQ.out.2.1 1
  have c_q_t0 := LK.cell HQ.out.2.2.2.2.2.1 0
  have c_q_t1 := LK.cell HQ.out.2.2.2.2.2.1 1
  have c_q_t2 := LK.cell HQ.out.2.2.2.2.2.1 2
  have c_q_t3 := LK.cell HQ.out.2.2.2.2.2.1 3
  have c_q_u0 := LK.cell HQ.out.2.2.2.2.2.2.2.1 0
  have c_q_u1 := LK.cell HQ.out.2.2.2.2.2.2.2.1 1
  have c_q_u2 := LK.cell HQ.out.2.2.2.2.2.2.2.1 2
  have c_q_u3 := LK.cell HQ.out.2.2.2.2.2.2.2.1 3
  have c_q_x0 := LK.cell HQ.out.2.2.2.2.2.2.2.2.2.1 0
  have c_q_x1 := LK.cell HQ.out.2.2.2.2.2.2.2.2.2.1 1
  simp at c_q_s0 c_q_s1 c_q_s2 c_q_s3 c_q_n0 c_q_n1 c_q_t0 c_q_t1 c_q_t2 c_q_t3 c_q_u0 c_q_u1 c_q_u2 c_q_u3 c_q_x0 c_q_x1
  go_upto_region 10 with (fail)
  clear c_q_s0 c_q_s1 c_q_s2 c_q_s3 c_q_n0 c_q_n1 c_q_t0 c_q_t1 c_q_t2 c_q_t3 c_q_u0 c_q_u1 c_q_u2 c_q_u3 c_q_x0 c_q_x1
  obtain ⟨q_s, q_n, O_s, S_n, P_t, q_t, P_u, q_u, S_x, q_x, S_y, hB⟩ := HQ.out
  clear HQ
  have hst := (Below.refl w10.heap.size w10).alloc (Nat.le_refl _) (.cells #[.int .i64 n.level, .slice a_y n.items.length c_y] 50)
  have hlt : w10.heap.size < (w10.alloc (.cells #[.int .i64 n.level, .slice a_y n.items.length c_y] 50)).heap.size := by simp
  have q_y := LK.new w10 (.cells #[.int .i64 n.level, .slice a_y n.items.length c_y] 50)
  replace q_s := q_s.step hst
  replace q_n := q_n.step hst
  replace O_s := O_s.step hst
  replace S_n := S_n.step hst
  replace P_t := P_t.step hst
  replace q_t := q_t.step hst
  replace P_u := P_u.step hst
  replace q_u := q_u.step hst
  replace S_x := S_x.step hst
  replace q_x := q_x.step hst
  replace S_y := S_y.step hst
  replace hB := hB.step hst
  obtain ⟨w11, hw⟩ : ∃ v, w10.alloc (.cells #[.int .i64 n.level, .slice a_y n.items.length c_y] 50) = v := ⟨_, rfl⟩
  rw [hw] at hlt q_y q_s q_n O_s S_n P_t q_t P_u q_u S_x q_x S_y hB ⊢
  clear hw hst
  have sz_w11 := hlt
  clear hlt
  have HQ := Lib.hid (And.intro q_s (And.intro q_n (And.intro O_s (And.intro S_n (And.intro P_t (And.intro q_t (And.intro P_u (And.intro q_u (And.intro S_x (And.intro q_x (And.intro S_y (And.intro q_y hB))))))))))))
  clear q_s q_n O_s S_n P_t q_t P_u q_u S_x q_x S_y q_y hB
  have c_q_s0 := LK.cell HQ.out.1 0
  have c_q_s1 := LK.cell HQ.out.1 1
  have c_q_s2 := LK.cell HQ.out.1 2
  have c_q_s3 := LK.cell HQ.out.1 3
  have c_q_n0 := LK.cell HQ.out.2.1 0
  have c_q_n1 := LK.cell HQ.out.2.1 1
  have c_q_t0 := LK.cell HQ.out.2.2.2.2.2.1 0
  have c_q_t1 := LK.cell HQ.out.2.2.2.2.2.1 1
  have c_q_t2 := LK.cell HQ.out.2.2.2.2.2.1 2
  have c_q_t3 := LK.cell HQ.out.2.2.2.2.2.1 3
  have c_q_u0 := LK.cell HQ.out.2.2.2.2.2.2.2.1 0
  have c_q_u1 := LK.cell HQ.out.2.2.2.2.2.2.2.1 1
  have c_q_u2 := LK.cell HQ.out.2.2.2.2.2.2.2.1 2
  have c_q_u3 := LK.cell HQ.out.2.2.2.2.2.2.2.1 3
  have c_q_x0 := LK.cell HQ.out.2.2.2.2.2.2.2.2.2.1 0
  have c_q_x1 := LK.cell HQ.out.2.2.2.2.2.2.2.2.2.1 1
  have c_q_y0 := LK.cell HQ.out.2.2.2.2.2.2.2.2.2.2.2.1 0
  have c_q_y1 := LK.cell HQ.out.2.2.2.2.2.2.2.2.2.2.2.1 1
  simp at c_q_s0 c_q_s1 c_q_s2 c_q_s3 c_q_n0 c_q_n1 c_q_t0 c_q_t1 c_q_t2 c_q_t3 c_q_u0 c_q_u1 c_q_u2 c_q_u3 c_q_x0 c_q_x1 c_q_y0 c_q_y1
  unfold maxLen at gx2
  have i1 : ((a : Int) == (b : Int)) = false := by simp; omega
  have i1b : ¬ (a : Int) = b := by omega
  go_wp2_with fail
  clear c_q_s0 c_q_s1 c_q_s2 c_q_s3 c_q_n0 c_q_n1 c_q_t0 c_q_t1 c_q_t2 c_q_t3 c_q_u0 c_q_u1 c_q_u2 c_q_u3 c_q_x0 c_q_x1 c_q_y0 c_q_y1
  go_loopw [16] (fun i wr => ∃ j : Nat, j ≤ n.items.length ∧ i = .int .i64 j ∧ Below w11.heap.size w11 wr) (fun i _ => n.items.length - (intOf i).toNat)
  case atStart => exact ⟨0, Nat.zero_le _, rfl, Below.refl _ _⟩
  case round =>
  obtain ⟨j, hj, rfl, hst⟩ := hrel
  have sz_r : w11.heap.size ≤ wr.heap.size := hst.size
  have hBr := hst
  obtain ⟨q_s, q_n, O_s, S_n, P_t, q_t, P_u, q_u, S_x, q_x, S_y, q_y, hB⟩ := HQ.out
  clear HQ
  replace q_s := q_s.step hst
  replace q_n := q_n.step hst
  replace O_s := O_s.step hst
  replace S_n := S_n.step hst
  replace P_t := P_t.step hst
  replace q_t := q_t.step hst
  replace P_u := P_u.step hst
  replace q_u := q_u.step hst
  replace S_x := S_x.step hst
  replace q_x := q_x.step hst
  replace S_y := S_y.step hst
  replace q_y := q_y.step hst
  replace hB := hB.step hst
  clear hst
  have HQ := Lib.hid (And.intro q_s (And.intro q_n (And.intro O_s (And.intro S_n (And.intro P_t (And.intro q_t (And.intro P_u (And.intro q_u (And.intro S_x (And.intro q_x (And.intro S_y (And.intro q_y hB))))))))))))
  clear q_s q_n O_s S_n P_t q_t P_u q_u S_x q_x S_y q_y hB
  have c_q_s0 := LK.cell HQ.out.1 0
  have c_q_s1 := LK.cell HQ.out.1 1
  have c_q_s2 := LK.cell HQ.out.1 2
  have c_q_s3 := LK.cell HQ.out.1 3
  have c_q_n0 := LK.cell HQ.out.2.1 0
  have c_q_n1 := LK.cell HQ.out.2.1 1
  have c_q_t0 := LK.cell HQ.out.2.2.2.2.2.1 0
  have c_q_t1 := LK.cell HQ.out.2.2.2.2.2.1 1
  have c_q_t2 := LK.cell HQ.out.2.2.2.2.2.1 2
  have c_q_t3 := LK.cell HQ.out.2.2.2.2.2.1 3
  have c_q_u0 := LK.cell HQ.out.2.2.2.2.2.2.2.1 0
  have c_q_u1 := LK.cell HQ.out.2.2.2.2.2.2.2.1 1
  have c_q_u2 := LK.cell HQ.out.2.2.2.2.2.2.2.1 2
  have c_q_u3 := LK.cell HQ.out.2.2.2.2.2.2.2.1 3
  have c_q_x0 := LK.cell HQ.out.2.2.2.2.2.2.2.2.2.1 0
  have c_q_x1 := LK.cell HQ.out.2.2.2.2.2.2.2.2.2.1 1
  have c_q_y0 := LK.cell HQ.out.2.2.2.2.2.2.2.2.2.2.2.1 0
  have c_q_y1 := LK.cell HQ.out.2.2.2.2.2.2.2.2.2.2.2.1 1
  simp at c_q_s0 c_q_s1 c_q_s2 c_q_s3 c_q_n0 c_q_n1 c_q_t0 c_q_t1 c_q_t2 c_q_t3 c_q_u0 c_q_u1 c_q_u2 c_q_u3 c_q_x0 c_q_x1 c_q_y0 c_q_y1
  by_cases hlt : j < n.items.length
  case pos =>
    obtain ⟨bb, bo, cb, e1, -, hbb, -, zc2, hcell⟩ := HQ.out.2.2.2.1.v.at_ (by omega)
    injection e1 with e1 _ e2
    subst e1 e2
    obtain ⟨-, -, -, f3, -, -⟩ := hcell j (n.items.getD j nokI) (get_l _ _ _ hlt)
    obtain ⟨xb, xo, xc, e1, -, hxb, -, zc3, hcell2⟩ := HQ.out.2.2.2.2.2.2.2.2.1.v.at_ (by omega)
    injection e1 with e1 _ e2
    subst e1 e2
    obtain ⟨-, -, -, h3, -, -⟩ := hcell2 j (n.items.getD j nokI) (get_l _ _ _ hlt)
    have hrx := HT.out.2.2.1 (n.items.getD j nokI) (List.mem_of_getElem? (get_l _ _ _ hlt))
    have htw := HT.out.2.2.2.1 (n.items.getD j nokI) (List.mem_of_getElem? (get_l _ _ _ hlt))
    obtain ⟨x, hx⟩ : ∃ x, n.items.getD j nokI = x := ⟨_, rfl⟩
    rw [hx] at f3 h3 hrx htw
    obtain ⟨xr, hxr⟩ : ∃ xr : Nat, x.ref = xr := ⟨x.ref.toNat, by omega⟩
    rw [hxr] at f3 h3 hrx htw
    rw [Int.toNat_natCast] at htw
    have hn5 : rItem.n = 5 := rfl
    have hn6 : rItemT.n = 5 := rfl
    rw [hn5] at f3
    rw [hn6] at h3
    unfold maxLen at zc2 zc3
    have HBR := Lib.hid hBr
    clear hcell hcell2 hx hn5 hn6 hBr
    by_cases hz : xr = 0
    case pos =>
      subst hz
      have z0 : ((0 : Nat) : Int) = 0 := rfl
      rw [z0] at f3 h3
      clear htw z0
      go_wp2_with fail
      go_quiet (fail)
      go_wp2
      go_roundw
      case rel => exact ⟨j + 1, by omega, by go_num, HBR.out.trans (below_dn _ _ _)⟩
      case measure => simp [intOf]; omega
    have hp : xr < 256 := by omega
    have j1 : (0 : Int) < xr := by omega
    have j1n : 0 < xr := by omega
    have j1d : decide (0 < xr) = true := decide_eq_true j1n
    have j1e : decide ((0 : Int) < (xr : Int)) = true := decide_eq_true j1
    have j2 : ¬ (256 : Int) ≤ xr := by omega
    have hq := htw (by omega)
    obtain ⟨nb, no, nc, e1, -, zb, z1, zc, hcs⟩ := HQ.out.2.2.1.n.at_n HT.out.1 (by omega)
    injection e1 with e1 el e2
    subst e1 e2
    clear el
    obtain ⟨ub, uo, uc, e1, -, zd, z2, ze, hcu⟩ := HQ.out.2.2.2.2.2.2.1.n.at_n HT.out.2.1 (by omega)
    injection e1 with e1 el e2
    subst e1 e2
    clear el
    unfold maxLen at zc ze
    have g1 := hcs xr (s.now.getD xr 0) (get_l _ _ _ (by have := HT.out.1; omega))
    have g2 := hcu xr (U.now.getD xr 0) (get_l _ _ _ (by have := HT.out.2.1; omega))
    rw [HT.out.1] at c_q_s2
    rw [HT.out.2.1] at c_q_u2
    have b1 := (s.now.getD xr 0).toNat_lt
    have b2 := (U.now.getD xr 0).toNat_lt
    simp only [bV] at g1 g2
    obtain ⟨q1, hq1⟩ : ∃ q : Nat, (U.now.getD xr 0).toNat = q := ⟨_, rfl⟩
    obtain ⟨q2, hq2⟩ : ∃ q : Nat, (s.now.getD xr 0).toNat = q := ⟨_, rfl⟩
    rw [hq1] at g2 hq b2
    rw [hq2] at g1 hq b1
    have w1 : IntKind.i64.wrap (q1 : Int) = q1 := IntWalk.i64_in _ (by omega)
    have w2 : IntKind.i64.wrap (q2 : Int) = q2 := IntWalk.i64_in _ (by omega)
    have w3 : IntKind.i64.wrap ((q2 : Int) + 2) = (q2 : Int) + 2 := IntWalk.i64_in _ (by omega)
    have i3 : ¬ (q1 : Int) < (q2 : Int) + 2 := by omega
    have i3b : decide ((q1 : Int) < (q2 : Int) + 2) = false := decide_eq_false i3
    clear hcs hcu hq1 hq2 hq htw b1 b2
    generalize (q1 : Int) = a1 at *
    generalize (q2 : Int) = a2 at *
    go_wp2_with fail
    go_quiet (fail)
    go_wp2
    go_roundw
    case rel => exact ⟨j + 1, by omega, by go_num, HBR.out.trans (below_dn _ _ _)⟩
    case measure => simp [intOf]; omega
  obtain rfl : j = n.items.length := by omega
  clear hj hlt hBr
  rename World => w2o
  clear c_q_s0 c_q_s1 c_q_s2 c_q_s3 c_q_n0 c_q_n1 c_q_t0 c_q_t1 c_q_t2 c_q_t3 c_q_u0 c_q_u1 c_q_u2 c_q_u3 c_q_x0 c_q_x1 c_q_y0 c_q_y1
  have c_q_s0 := LK.cell HQ.out.1 0
  have c_q_s1 := LK.cell HQ.out.1 1
  have c_q_s2 := LK.cell HQ.out.1 2
  have c_q_s3 := LK.cell HQ.out.1 3
  have c_q_n0 := LK.cell HQ.out.2.1 0
  have c_q_n1 := LK.cell HQ.out.2.1 1
  have c_q_t0 := LK.cell HQ.out.2.2.2.2.2.1 0
  have c_q_t1 := LK.cell HQ.out.2.2.2.2.2.1 1
  have c_q_t2 := LK.cell HQ.out.2.2.2.2.2.1 2
  have c_q_t3 := LK.cell HQ.out.2.2.2.2.2.1 3
  have c_q_u0 := LK.cell HQ.out.2.2.2.2.2.2.2.1 0
  have c_q_u1 := LK.cell HQ.out.2.2.2.2.2.2.2.1 1
  have c_q_u2 := LK.cell HQ.out.2.2.2.2.2.2.2.1 2
  have c_q_u3 := LK.cell HQ.out.2.2.2.2.2.2.2.1 3
  have c_q_x0 := LK.cell HQ.out.2.2.2.2.2.2.2.2.2.1 0
  have c_q_x1 := LK.cell HQ.out.2.2.2.2.2.2.2.2.2.1 1
  have c_q_y0 := LK.cell HQ.out.2.2.2.2.2.2.2.2.2.2.2.1 0
  have c_q_y1 := LK.cell HQ.out.2.2.2.2.2.2.2.2.2.2.2.1 1
  simp at c_q_s0 c_q_s1 c_q_s2 c_q_s3 c_q_n0 c_q_n1 c_q_t0 c_q_t1 c_q_t2 c_q_t3 c_q_u0 c_q_u1 c_q_u2 c_q_u3 c_q_x0 c_q_x1 c_q_y0 c_q_y1
  go_wp2_with fail
  refine (K.out.2.2.1 _ _ _ _ _ HQ.out.2.2.2.2.2.2.1.v).mono ?_
  rintro e w12 ⟨b_v1, u_v1, x_v1, y_v1, rfl, hm⟩
  clear c_q_s0 c_q_s1 c_q_s2 c_q_s3 c_q_n0 c_q_n1 c_q_t0 c_q_t1 c_q_t2 c_q_t3 c_q_u0 c_q_u1 c_q_u2 c_q_u3 c_q_x0 c_q_x1 c_q_y0 c_q_y1
  obtain ⟨q_s, q_n, O_s, S_n, P_t, q_t, P_u, q_u, S_x, q_x, S_y, q_y, hB⟩ := HQ.out
  clear HQ
  have P_v1 := LP.of hm
  have hst := hm.below
  obtain ⟨ab_v1, cb_v1, rfl, -, -, -, -⟩ := hm.store.v.1.1
  obtain ⟨au_v1, cu_v1, rfl, -, -, -, -⟩ := hm.store.v.1.2
  obtain ⟨ax_v1, cx_v1, rfl, -, -⟩ := hm.store.v.2.1.form rfl
  obtain ⟨ay_v1, cy_v1, rfl, -, -⟩ := hm.store.v.2.2.form rfl
  clear hm
  have sz_w12 : w2o.heap.size ≤ w12.heap.size := hst.size
  replace q_s := q_s.step hst
  replace q_n := q_n.step hst
  replace O_s := O_s.step hst
  replace S_n := S_n.step hst
  replace P_t := P_t.step hst
  replace q_t := q_t.step hst
  replace P_u := P_u.step hst
  replace q_u := q_u.step hst
  replace S_x := S_x.step hst
  replace q_x := q_x.step hst
  replace S_y := S_y.step hst
  replace q_y := q_y.step hst
  replace hB := hB.step hst
  clear hst
  have HQ := Lib.hid (And.intro q_s (And.intro q_n (And.intro O_s (And.intro S_n (And.intro P_t (And.intro q_t (And.intro P_u (And.intro q_u (And.intro S_x (And.intro q_x (And.intro S_y (And.intro q_y (And.intro P_v1 hB)))))))))))))
  clear q_s q_n O_s S_n P_t q_t P_u q_u S_x q_x S_y q_y P_v1 hB
  have c_q_s0 := LK.cell HQ.out.1 0
  have c_q_s1 := LK.cell HQ.out.1 1
  have c_q_s2 := LK.cell HQ.out.1 2
  have c_q_s3 := LK.cell HQ.out.1 3
  have c_q_n0 := LK.cell HQ.out.2.1 0
  have c_q_n1 := LK.cell HQ.out.2.1 1
  have c_q_t0 := LK.cell HQ.out.2.2.2.2.2.1 0
  have c_q_t1 := LK.cell HQ.out.2.2.2.2.2.1 1
  have c_q_t2 := LK.cell HQ.out.2.2.2.2.2.1 2
  have c_q_t3 := LK.cell HQ.out.2.2.2.2.2.1 3
  have c_q_u0 := LK.cell HQ.out.2.2.2.2.2.2.2.1 0
  have c_q_u1 := LK.cell HQ.out.2.2.2.2.2.2.2.1 1
  have c_q_u2 := LK.cell HQ.out.2.2.2.2.2.2.2.1 2
  have c_q_u3 := LK.cell HQ.out.2.2.2.2.2.2.2.1 3
  have c_q_x0 := LK.cell HQ.out.2.2.2.2.2.2.2.2.2.1 0
  have c_q_x1 := LK.cell HQ.out.2.2.2.2.2.2.2.2.2.1 1
  have c_q_y0 := LK.cell HQ.out.2.2.2.2.2.2.2.2.2.2.2.1 0
  have c_q_y1 := LK.cell HQ.out.2.2.2.2.2.2.2.2.2.2.2.1 1
  simp at c_q_s0 c_q_s1 c_q_s2 c_q_s3 c_q_n0 c_q_n1 c_q_t0 c_q_t1 c_q_t2 c_q_t3 c_q_u0 c_q_u1 c_q_u2 c_q_u3 c_q_x0 c_q_x1 c_q_y0 c_q_y1
  go_upto_region 19 with (fail)
  clear c_q_s0 c_q_s1 c_q_s2 c_q_s3 c_q_n0 c_q_n1 c_q_t0 c_q_t1 c_q_t2 c_q_t3 c_q_u0 c_q_u1 c_q_u2 c_q_u3 c_q_x0 c_q_x1 c_q_y0 c_q_y1
  obtain ⟨q_s, q_n, O_s, S_n, P_t, q_t, P_u, q_u, S_x, q_x, S_y, q_y, P_v1, hB⟩ := HQ.out
  clear HQ
  have hst := (Below.refl w12.heap.size w12).alloc (Nat.le_refl _) (.cells #[.slice ab_v1 V1.disk.blocks.length cb_v1, .slice au_v1 V1.disk.waits.length cu_v1, .slice ax_v1 V1.now.length cx_v1, .slice ay_v1 V1.last.length cy_v1] 28)
  have hlt : w12.heap.size < (w12.alloc (.cells #[.slice ab_v1 V1.disk.blocks.length cb_v1, .slice au_v1 V1.disk.waits.length cu_v1, .slice ax_v1 V1.now.length cx_v1, .slice ay_v1 V1.last.length cy_v1] 28)).heap.size := by simp
  have q_v := LK.new w12 (.cells #[.slice ab_v1 V1.disk.blocks.length cb_v1, .slice au_v1 V1.disk.waits.length cu_v1, .slice ax_v1 V1.now.length cx_v1, .slice ay_v1 V1.last.length cy_v1] 28)
  replace q_s := q_s.step hst
  replace q_n := q_n.step hst
  replace O_s := O_s.step hst
  replace S_n := S_n.step hst
  replace P_t := P_t.step hst
  replace q_t := q_t.step hst
  replace P_u := P_u.step hst
  replace q_u := q_u.step hst
  replace S_x := S_x.step hst
  replace q_x := q_x.step hst
  replace S_y := S_y.step hst
  replace q_y := q_y.step hst
  replace P_v1 := P_v1.step hst
  replace hB := hB.step hst
  obtain ⟨w13, hw⟩ : ∃ v, w12.alloc (.cells #[.slice ab_v1 V1.disk.blocks.length cb_v1, .slice au_v1 V1.disk.waits.length cu_v1, .slice ax_v1 V1.now.length cx_v1, .slice ay_v1 V1.last.length cy_v1] 28) = v := ⟨_, rfl⟩
  rw [hw] at hlt q_v q_s q_n O_s S_n P_t q_t P_u q_u S_x q_x S_y q_y P_v1 hB ⊢
  clear hw hst
  have sz_w13 := hlt
  clear hlt
  have HQ := Lib.hid (And.intro q_s (And.intro q_n (And.intro O_s (And.intro S_n (And.intro P_t (And.intro q_t (And.intro P_u (And.intro q_u (And.intro S_x (And.intro q_x (And.intro S_y (And.intro q_y (And.intro P_v1 (And.intro q_v hB))))))))))))))
  clear q_s q_n O_s S_n P_t q_t P_u q_u S_x q_x S_y q_y P_v1 q_v hB
  have c_q_s0 := LK.cell HQ.out.1 0
  have c_q_s1 := LK.cell HQ.out.1 1
  have c_q_s2 := LK.cell HQ.out.1 2
  have c_q_s3 := LK.cell HQ.out.1 3
  have c_q_n0 := LK.cell HQ.out.2.1 0
  have c_q_n1 := LK.cell HQ.out.2.1 1
  have c_q_t0 := LK.cell HQ.out.2.2.2.2.2.1 0
  have c_q_t1 := LK.cell HQ.out.2.2.2.2.2.1 1
  have c_q_t2 := LK.cell HQ.out.2.2.2.2.2.1 2
  have c_q_t3 := LK.cell HQ.out.2.2.2.2.2.1 3
  have c_q_u0 := LK.cell HQ.out.2.2.2.2.2.2.2.1 0
  have c_q_u1 := LK.cell HQ.out.2.2.2.2.2.2.2.1 1
  have c_q_u2 := LK.cell HQ.out.2.2.2.2.2.2.2.1 2
  have c_q_u3 := LK.cell HQ.out.2.2.2.2.2.2.2.1 3
  have c_q_x0 := LK.cell HQ.out.2.2.2.2.2.2.2.2.2.1 0
  have c_q_x1 := LK.cell HQ.out.2.2.2.2.2.2.2.2.2.1 1
  have c_q_y0 := LK.cell HQ.out.2.2.2.2.2.2.2.2.2.2.2.1 0
  have c_q_y1 := LK.cell HQ.out.2.2.2.2.2.2.2.2.2.2.2.1 1
  have c_q_v0 := LK.cell HQ.out.2.2.2.2.2.2.2.2.2.2.2.2.2.1 0
  have c_q_v1 := LK.cell HQ.out.2.2.2.2.2.2.2.2.2.2.2.2.2.1 1
  have c_q_v2 := LK.cell HQ.out.2.2.2.2.2.2.2.2.2.2.2.2.2.1 2
  have c_q_v3 := LK.cell HQ.out.2.2.2.2.2.2.2.2.2.2.2.2.2.1 3
  simp at c_q_s0 c_q_s1 c_q_s2 c_q_s3 c_q_n0 c_q_n1 c_q_t0 c_q_t1 c_q_t2 c_q_t3 c_q_u0 c_q_u1 c_q_u2 c_q_u3 c_q_x0 c_q_x1 c_q_y0 c_q_y1 c_q_v0 c_q_v1 c_q_v2 c_q_v3
  go_wp2_with fail
  refine (K.out.2.2.2.1 _ _ _ _ _ HQ.out.2.2.2.2.2.2.2.2.2.2.2.2.1.v).mono ?_
  rintro e w14 ⟨b_v2, u_v2, x_v2, y_v2, rfl, hm⟩
  clear c_q_s0 c_q_s1 c_q_s2 c_q_s3 c_q_n0 c_q_n1 c_q_t0 c_q_t1 c_q_t2 c_q_t3 c_q_u0 c_q_u1 c_q_u2 c_q_u3 c_q_x0 c_q_x1 c_q_y0 c_q_y1 c_q_v0 c_q_v1 c_q_v2 c_q_v3
  obtain ⟨q_s, q_n, O_s, S_n, P_t, q_t, P_u, q_u, S_x, q_x, S_y, q_y, P_v1, q_v, hB⟩ := HQ.out
  clear HQ
  have P_v2 := LP.of hm
  have hst := hm.below
  obtain ⟨ab_v2, cb_v2, rfl, -, -, -, -⟩ := hm.store.v.1.1
  obtain ⟨au_v2, cu_v2, rfl, -, -, -, -⟩ := hm.store.v.1.2
  obtain ⟨ax_v2, cx_v2, rfl, -, -⟩ := hm.store.v.2.1.form rfl
  obtain ⟨ay_v2, cy_v2, rfl, -, -⟩ := hm.store.v.2.2.form rfl
  clear hm
  have sz_w14 : w13.heap.size ≤ w14.heap.size := hst.size
  replace q_s := q_s.step hst
  replace q_n := q_n.step hst
  replace O_s := O_s.step hst
  replace S_n := S_n.step hst
  replace P_t := P_t.step hst
  replace q_t := q_t.step hst
  replace P_u := P_u.step hst
  replace q_u := q_u.step hst
  replace S_x := S_x.step hst
  replace q_x := q_x.step hst
  replace S_y := S_y.step hst
  replace q_y := q_y.step hst
  replace P_v1 := P_v1.step hst
  replace q_v := q_v.step hst
  replace hB := hB.step hst
  clear hst
  have HQ := Lib.hid (And.intro q_s (And.intro q_n (And.intro O_s (And.intro S_n (And.intro P_t (And.intro q_t (And.intro P_u (And.intro q_u (And.intro S_x (And.intro q_x (And.intro S_y (And.intro q_y (And.intro P_v1 (And.intro q_v (And.intro P_v2 hB)))))))))))))))
  clear q_s q_n O_s S_n P_t q_t P_u q_u S_x q_x S_y q_y P_v1 q_v P_v2 hB
  have c_q_s0 := LK.cell HQ.out.1 0
  have c_q_s1 := LK.cell HQ.out.1 1
  have c_q_s2 := LK.cell HQ.out.1 2
  have c_q_s3 := LK.cell HQ.out.1 3
  have c_q_n0 := LK.cell HQ.out.2.1 0
  have c_q_n1 := LK.cell HQ.out.2.1 1
  have c_q_t0 := LK.cell HQ.out.2.2.2.2.2.1 0
  have c_q_t1 := LK.cell HQ.out.2.2.2.2.2.1 1
  have c_q_t2 := LK.cell HQ.out.2.2.2.2.2.1 2
  have c_q_t3 := LK.cell HQ.out.2.2.2.2.2.1 3
  have c_q_u0 := LK.cell HQ.out.2.2.2.2.2.2.2.1 0
  have c_q_u1 := LK.cell HQ.out.2.2.2.2.2.2.2.1 1
  have c_q_u2 := LK.cell HQ.out.2.2.2.2.2.2.2.1 2
  have c_q_u3 := LK.cell HQ.out.2.2.2.2.2.2.2.1 3
  have c_q_x0 := LK.cell HQ.out.2.2.2.2.2.2.2.2.2.1 0
  have c_q_x1 := LK.cell HQ.out.2.2.2.2.2.2.2.2.2.1 1
  have c_q_y0 := LK.cell HQ.out.2.2.2.2.2.2.2.2.2.2.2.1 0
  have c_q_y1 := LK.cell HQ.out.2.2.2.2.2.2.2.2.2.2.2.1 1
  have c_q_v0 := LK.cell HQ.out.2.2.2.2.2.2.2.2.2.2.2.2.2.1 0
  have c_q_v1 := LK.cell HQ.out.2.2.2.2.2.2.2.2.2.2.2.2.2.1 1
  have c_q_v2 := LK.cell HQ.out.2.2.2.2.2.2.2.2.2.2.2.2.2.1 2
  have c_q_v3 := LK.cell HQ.out.2.2.2.2.2.2.2.2.2.2.2.2.2.1 3
  simp at c_q_s0 c_q_s1 c_q_s2 c_q_s3 c_q_n0 c_q_n1 c_q_t0 c_q_t1 c_q_t2 c_q_t3 c_q_u0 c_q_u1 c_q_u2 c_q_u3 c_q_x0 c_q_x1 c_q_y0 c_q_y1 c_q_v0 c_q_v1 c_q_v2 c_q_v3
  clear c_q_s0 c_q_s1 c_q_s2 c_q_s3 c_q_n0 c_q_n1 c_q_t0 c_q_t1 c_q_t2 c_q_t3 c_q_u0 c_q_u1 c_q_u2 c_q_u3 c_q_x0 c_q_x1 c_q_y0 c_q_y1 c_q_v0 c_q_v1 c_q_v2 c_q_v3
  have c_q_s0 := LK.cell HQ.out.1 0
  have c_q_s1 := LK.cell HQ.out.1 1
  have c_q_s2 := LK.cell HQ.out.1 2
  have c_q_s3 := LK.cell HQ.out.1 3
  have c_q_n0 := LK.cell HQ.out.2.1 0
  have c_q_n1 := LK.cell HQ.out.2.1 1
  have c_q_t0 := LK.cell HQ.out.2.2.2.2.2.1 0
  have c_q_t1 := LK.cell HQ.out.2.2.2.2.2.1 1
  have c_q_t2 := LK.cell HQ.out.2.2.2.2.2.1 2
  have c_q_t3 := LK.cell HQ.out.2.2.2.2.2.1 3
  have c_q_u0 := LK.cell HQ.out.2.2.2.2.2.2.2.1 0
  have c_q_u1 := LK.cell HQ.out.2.2.2.2.2.2.2.1 1
  have c_q_u2 := LK.cell HQ.out.2.2.2.2.2.2.2.1 2
  have c_q_u3 := LK.cell HQ.out.2.2.2.2.2.2.2.1 3
  have c_q_x0 := LK.cell HQ.out.2.2.2.2.2.2.2.2.2.1 0
  have c_q_x1 := LK.cell HQ.out.2.2.2.2.2.2.2.2.2.1 1
  have c_q_y0 := LK.cell HQ.out.2.2.2.2.2.2.2.2.2.2.2.1 0
  have c_q_y1 := LK.cell HQ.out.2.2.2.2.2.2.2.2.2.2.2.1 1
  have c_q_v0 := LK.cell HQ.out.2.2.2.2.2.2.2.2.2.2.2.2.2.1 0
  have c_q_v1 := LK.cell HQ.out.2.2.2.2.2.2.2.2.2.2.2.2.2.1 1
  have c_q_v2 := LK.cell HQ.out.2.2.2.2.2.2.2.2.2.2.2.2.2.1 2
  have c_q_v3 := LK.cell HQ.out.2.2.2.2.2.2.2.2.2.2.2.2.2.1 3
  have z_q_v0 := LK.frozen HQ.out.2.2.2.2.2.2.2.2.2.2.2.2.2.1 0
  have z_q_v1 := LK.frozen HQ.out.2.2.2.2.2.2.2.2.2.2.2.2.2.1 1
  have z_q_v2 := LK.frozen HQ.out.2.2.2.2.2.2.2.2.2.2.2.2.2.1 2
  have z_q_v3 := LK.frozen HQ.out.2.2.2.2.2.2.2.2.2.2.2.2.2.1 3
  simp at c_q_s0 c_q_s1 c_q_s2 c_q_s3 c_q_n0 c_q_n1 c_q_t0 c_q_t1 c_q_t2 c_q_t3 c_q_u0 c_q_u1 c_q_u2 c_q_u3 c_q_x0 c_q_x1 c_q_y0 c_q_y1 c_q_v0 c_q_v1 c_q_v2 c_q_v3
  go_upto_region 20 with (fail)
  clear z_q_v0 z_q_v1 z_q_v2 z_q_v3 c_q_s0 c_q_s1 c_q_s2 c_q_s3 c_q_n0 c_q_n1 c_q_t0 c_q_t1 c_q_t2 c_q_t3 c_q_u0 c_q_u1 c_q_u2 c_q_u3 c_q_x0 c_q_x1 c_q_y0 c_q_y1 c_q_v0 c_q_v1 c_q_v2 c_q_v3
  obtain ⟨q_s, q_n, O_s, S_n, P_t, q_t, P_u, q_u, S_x, q_x, S_y, q_y, P_v1, q_v, P_v2, hB⟩ := HQ.out
  clear HQ
  have hcb := LK.blk q_v
  have hF : LK (w12.heap.size) (.cells #[.slice ab_v2 V2.disk.blocks.length cb_v2, .slice au_v2 V2.disk.waits.length cu_v2, .slice ax_v2 V2.now.length cx_v2, .slice ay_v2 V2.last.length cy_v2] 28) ((((w14.setCell ⟨w12.heap.size, 0, none⟩ (.slice ab_v2 V2.disk.blocks.length cb_v2)).setCell ⟨w12.heap.size, 1, none⟩ (.slice au_v2 V2.disk.waits.length cu_v2)).setCell ⟨w12.heap.size, 2, none⟩ (.slice ax_v2 V2.now.length cx_v2)).setCell ⟨w12.heap.size, 3, none⟩ (.slice ay_v2 V2.last.length cy_v2)) := LK.of (set_block (set_block (set_block (set_block hcb 0 _) 1 _) 2 _) 3 _)
  have hbel : Below (w12.heap.size) w14 ((((w14.setCell ⟨w12.heap.size, 0, none⟩ (.slice ab_v2 V2.disk.blocks.length cb_v2)).setCell ⟨w12.heap.size, 1, none⟩ (.slice au_v2 V2.disk.waits.length cu_v2)).setCell ⟨w12.heap.size, 2, none⟩ (.slice ax_v2 V2.now.length cx_v2)).setCell ⟨w12.heap.size, 3, none⟩ (.slice ay_v2 V2.last.length cy_v2)) := ((((Below.refl _ w14).setCell (p := ⟨w12.heap.size, 0, none⟩) (Nat.le_refl _) _).setCell (p := ⟨w12.heap.size, 1, none⟩) (Nat.le_refl _) _).setCell (p := ⟨w12.heap.size, 2, none⟩) (Nat.le_refl _) _).setCell (p := ⟨w12.heap.size, 3, none⟩) (Nat.le_refl _) _
  have hfr : ∀ x, x < w14.heap.size → (x < w12.heap.size ∨ w12.heap.size + 1 ≤ x) → ((((w14.setCell ⟨w12.heap.size, 0, none⟩ (.slice ab_v2 V2.disk.blocks.length cb_v2)).setCell ⟨w12.heap.size, 1, none⟩ (.slice au_v2 V2.disk.waits.length cu_v2)).setCell ⟨w12.heap.size, 2, none⟩ (.slice ax_v2 V2.now.length cx_v2)).setCell ⟨w12.heap.size, 3, none⟩ (.slice ay_v2 V2.last.length cy_v2)).heap[x]? = w14.heap[x]? := fun x _ h => (set_other _ _ _ _ _ (by omega)).trans ((set_other _ _ _ _ _ (by omega)).trans ((set_other _ _ _ _ _ (by omega)).trans ((set_other _ _ _ _ _ (by omega)))))
  have hs4 : ((((w14.setCell ⟨w12.heap.size, 0, none⟩ (.slice ab_v2 V2.disk.blocks.length cb_v2)).setCell ⟨w12.heap.size, 1, none⟩ (.slice au_v2 V2.disk.waits.length cu_v2)).setCell ⟨w12.heap.size, 2, none⟩ (.slice ax_v2 V2.now.length cx_v2)).setCell ⟨w12.heap.size, 3, none⟩ (.slice ay_v2 V2.last.length cy_v2)).heap.size = w14.heap.size := by simp only [World.size_setCell]
  replace q_s := q_s.out (Nat.le_of_eq hs4.symm) hfr (by omega)
  replace q_n := q_n.out (Nat.le_of_eq hs4.symm) hfr (by omega)
  replace O_s := O_s.out (Nat.le_of_eq hs4.symm) hfr (by omega)
  replace S_n := S_n.out (Nat.le_of_eq hs4.symm) hfr (by omega)
  replace P_t := P_t.out (Nat.le_of_eq hs4.symm) hfr (by omega)
  replace q_t := q_t.out (Nat.le_of_eq hs4.symm) hfr (by omega)
  replace P_u := P_u.out (Nat.le_of_eq hs4.symm) hfr (by omega)
  replace q_u := q_u.out (Nat.le_of_eq hs4.symm) hfr (by omega)
  replace S_x := S_x.out (Nat.le_of_eq hs4.symm) hfr (by omega)
  replace q_x := q_x.out (Nat.le_of_eq hs4.symm) hfr (by omega)
  replace S_y := S_y.out (Nat.le_of_eq hs4.symm) hfr (by omega)
  replace q_y := q_y.out (Nat.le_of_eq hs4.symm) hfr (by omega)
  replace P_v1 := P_v1.out (Nat.le_of_eq hs4.symm) hfr (by omega)
  replace P_v2 := P_v2.out (Nat.le_of_eq hs4.symm) hfr (by omega)
  replace hB := hB.outB hbel (by omega)
  replace q_v := hF
  obtain ⟨w15, hw⟩ : ∃ v, ((((w14.setCell ⟨w12.heap.size, 0, none⟩ (.slice ab_v2 V2.disk.blocks.length cb_v2)).setCell ⟨w12.heap.size, 1, none⟩ (.slice au_v2 V2.disk.waits.length cu_v2)).setCell ⟨w12.heap.size, 2, none⟩ (.slice ax_v2 V2.now.length cx_v2)).setCell ⟨w12.heap.size, 3, none⟩ (.slice ay_v2 V2.last.length cy_v2)) = v := ⟨_, rfl⟩
  rw [hw] at hs4 q_s q_n O_s S_n P_t q_t P_u q_u S_x q_x S_y q_y P_v1 q_v P_v2 hB ⊢
  have sz_w15 := Nat.le_of_eq hs4
  have sy_w15 := Nat.le_of_eq hs4.symm
  clear hw hF hbel hfr hcb hs4
  have HQ := Lib.hid (And.intro q_s (And.intro q_n (And.intro O_s (And.intro S_n (And.intro P_t (And.intro q_t (And.intro P_u (And.intro q_u (And.intro S_x (And.intro q_x (And.intro S_y (And.intro q_y (And.intro P_v1 (And.intro q_v (And.intro P_v2 hB)))))))))))))))
  clear q_s q_n O_s S_n P_t q_t P_u q_u S_x q_x S_y q_y P_v1 q_v P_v2 hB
  have c_q_s0 := LK.cell HQ.out.1 0
  have c_q_s1 := LK.cell HQ.out.1 1
  have c_q_s2 := LK.cell HQ.out.1 2
  have c_q_s3 := LK.cell HQ.out.1 3
  have c_q_n0 := LK.cell HQ.out.2.1 0
  have c_q_n1 := LK.cell HQ.out.2.1 1
  have c_q_t0 := LK.cell HQ.out.2.2.2.2.2.1 0
  have c_q_t1 := LK.cell HQ.out.2.2.2.2.2.1 1
  have c_q_t2 := LK.cell HQ.out.2.2.2.2.2.1 2
  have c_q_t3 := LK.cell HQ.out.2.2.2.2.2.1 3
  have c_q_u0 := LK.cell HQ.out.2.2.2.2.2.2.2.1 0
  have c_q_u1 := LK.cell HQ.out.2.2.2.2.2.2.2.1 1
  have c_q_u2 := LK.cell HQ.out.2.2.2.2.2.2.2.1 2
  have c_q_u3 := LK.cell HQ.out.2.2.2.2.2.2.2.1 3
  have c_q_x0 := LK.cell HQ.out.2.2.2.2.2.2.2.2.2.1 0
  have c_q_x1 := LK.cell HQ.out.2.2.2.2.2.2.2.2.2.1 1
  have c_q_y0 := LK.cell HQ.out.2.2.2.2.2.2.2.2.2.2.2.1 0
  have c_q_y1 := LK.cell HQ.out.2.2.2.2.2.2.2.2.2.2.2.1 1
  have c_q_v0 := LK.cell HQ.out.2.2.2.2.2.2.2.2.2.2.2.2.2.1 0
  have c_q_v1 := LK.cell HQ.out.2.2.2.2.2.2.2.2.2.2.2.2.2.1 1
  have c_q_v2 := LK.cell HQ.out.2.2.2.2.2.2.2.2.2.2.2.2.2.1 2
  have c_q_v3 := LK.cell HQ.out.2.2.2.2.2.2.2.2.2.2.2.2.2.1 3
  simp at c_q_s0 c_q_s1 c_q_s2 c_q_s3 c_q_n0 c_q_n1 c_q_t0 c_q_t1 c_q_t2 c_q_t3 c_q_u0 c_q_u1 c_q_u2 c_q_u3 c_q_x0 c_q_x1 c_q_y0 c_q_y1 c_q_v0 c_q_v1 c_q_v2 c_q_v3
  go_wp2_with fail
  refine (K.out.2.2.2.2.1 _ _ _ _ _ HQ.out.2.2.2.2.2.2.1.v).mono ?_
  rintro e w16 ⟨b_w1, u_w1, x_w1, y_w1, rfl, hm⟩
  clear c_q_s0 c_q_s1 c_q_s2 c_q_s3 c_q_n0 c_q_n1 c_q_t0 c_q_t1 c_q_t2 c_q_t3 c_q_u0 c_q_u1 c_q_u2 c_q_u3 c_q_x0 c_q_x1 c_q_y0 c_q_y1 c_q_v0 c_q_v1 c_q_v2 c_q_v3
  obtain ⟨q_s, q_n, O_s, S_n, P_t, q_t, P_u, q_u, S_x, q_x, S_y, q_y, P_v1, q_v, P_v2, hB⟩ := HQ.out
  clear HQ
  have P_w1 := LP.of hm
  have hst := hm.below
  obtain ⟨ab_w1, cb_w1, rfl, -, -, -, -⟩ := hm.store.v.1.1
  obtain ⟨au_w1, cu_w1, rfl, -, -, -, -⟩ := hm.store.v.1.2
  obtain ⟨ax_w1, cx_w1, rfl, -, -⟩ := hm.store.v.2.1.form rfl
  obtain ⟨ay_w1, cy_w1, rfl, -, -⟩ := hm.store.v.2.2.form rfl
  clear hm
  have sz_w16 : w15.heap.size ≤ w16.heap.size := hst.size
  replace q_s := q_s.step hst
  replace q_n := q_n.step hst
  replace O_s := O_s.step hst
  replace S_n := S_n.step hst
  replace P_t := P_t.step hst
  replace q_t := q_t.step hst
  replace P_u := P_u.step hst
  replace q_u := q_u.step hst
  replace S_x := S_x.step hst
  replace q_x := q_x.step hst
  replace S_y := S_y.step hst
  replace q_y := q_y.step hst
  replace P_v1 := P_v1.step hst
  replace q_v := q_v.step hst
  replace P_v2 := P_v2.step hst
  replace hB := hB.step hst
  clear hst
  have HQ := Lib.hid (And.intro q_s (And.intro q_n (And.intro O_s (And.intro S_n (And.intro P_t (And.intro q_t (And.intro P_u (And.intro q_u (And.intro S_x (And.intro q_x (And.intro S_y (And.intro q_y (And.intro P_v1 (And.intro q_v (And.intro P_v2 (And.intro P_w1 hB))))))))))))))))
  clear q_s q_n O_s S_n P_t q_t P_u q_u S_x q_x S_y q_y P_v1 q_v P_v2 P_w1 hB
  have c_q_s0 := LK.cell HQ.out.1 0
  have c_q_s1 := LK.cell HQ.out.1 1
  have c_q_s2 := LK.cell HQ.out.1 2
  have c_q_s3 := LK.cell HQ.out.1 3
  have c_q_n0 := LK.cell HQ.out.2.1 0
  have c_q_n1 := LK.cell HQ.out.2.1 1
  have c_q_t0 := LK.cell HQ.out.2.2.2.2.2.1 0
  have c_q_t1 := LK.cell HQ.out.2.2.2.2.2.1 1
  have c_q_t2 := LK.cell HQ.out.2.2.2.2.2.1 2
  have c_q_t3 := LK.cell HQ.out.2.2.2.2.2.1 3
  have c_q_u0 := LK.cell HQ.out.2.2.2.2.2.2.2.1 0
  have c_q_u1 := LK.cell HQ.out.2.2.2.2.2.2.2.1 1
  have c_q_u2 := LK.cell HQ.out.2.2.2.2.2.2.2.1 2
  have c_q_u3 := LK.cell HQ.out.2.2.2.2.2.2.2.1 3
  have c_q_x0 := LK.cell HQ.out.2.2.2.2.2.2.2.2.2.1 0
  have c_q_x1 := LK.cell HQ.out.2.2.2.2.2.2.2.2.2.1 1
  have c_q_y0 := LK.cell HQ.out.2.2.2.2.2.2.2.2.2.2.2.1 0
  have c_q_y1 := LK.cell HQ.out.2.2.2.2.2.2.2.2.2.2.2.1 1
  have c_q_v0 := LK.cell HQ.out.2.2.2.2.2.2.2.2.2.2.2.2.2.1 0
  have c_q_v1 := LK.cell HQ.out.2.2.2.2.2.2.2.2.2.2.2.2.2.1 1
  have c_q_v2 := LK.cell HQ.out.2.2.2.2.2.2.2.2.2.2.2.2.2.1 2
  have c_q_v3 := LK.cell HQ.out.2.2.2.2.2.2.2.2.2.2.2.2.2.1 3
  simp at c_q_s0 c_q_s1 c_q_s2 c_q_s3 c_q_n0 c_q_n1 c_q_t0 c_q_t1 c_q_t2 c_q_t3 c_q_u0 c_q_u1 c_q_u2 c_q_u3 c_q_x0 c_q_x1 c_q_y0 c_q_y1 c_q_v0 c_q_v1 c_q_v2 c_q_v3
  go_upto_region 21 with (fail)
  clear c_q_s0 c_q_s1 c_q_s2 c_q_s3 c_q_n0 c_q_n1 c_q_t0 c_q_t1 c_q_t2 c_q_t3 c_q_u0 c_q_u1 c_q_u2 c_q_u3 c_q_x0 c_q_x1 c_q_y0 c_q_y1 c_q_v0 c_q_v1 c_q_v2 c_q_v3
  obtain ⟨q_s, q_n, O_s, S_n, P_t, q_t, P_u, q_u, S_x, q_x, S_y, q_y, P_v1, q_v, P_v2, P_w1, hB⟩ := HQ.out
  clear HQ
  have hst := (Below.refl w16.heap.size w16).alloc (Nat.le_refl _) (.cells #[.slice ab_w1 W1.disk.blocks.length cb_w1, .slice au_w1 W1.disk.waits.length cu_w1, .slice ax_w1 W1.now.length cx_w1, .slice ay_w1 W1.last.length cy_w1] 28)
  have hlt : w16.heap.size < (w16.alloc (.cells #[.slice ab_w1 W1.disk.blocks.length cb_w1, .slice au_w1 W1.disk.waits.length cu_w1, .slice ax_w1 W1.now.length cx_w1, .slice ay_w1 W1.last.length cy_w1] 28)).heap.size := by simp
  have q_w := LK.new w16 (.cells #[.slice ab_w1 W1.disk.blocks.length cb_w1, .slice au_w1 W1.disk.waits.length cu_w1, .slice ax_w1 W1.now.length cx_w1, .slice ay_w1 W1.last.length cy_w1] 28)
  replace q_s := q_s.step hst
  replace q_n := q_n.step hst
  replace O_s := O_s.step hst
  replace S_n := S_n.step hst
  replace P_t := P_t.step hst
  replace q_t := q_t.step hst
  replace P_u := P_u.step hst
  replace q_u := q_u.step hst
  replace S_x := S_x.step hst
  replace q_x := q_x.step hst
  replace S_y := S_y.step hst
  replace q_y := q_y.step hst
  replace P_v1 := P_v1.step hst
  replace q_v := q_v.step hst
  replace P_v2 := P_v2.step hst
  replace P_w1 := P_w1.step hst
  replace hB := hB.step hst
  obtain ⟨w17, hw⟩ : ∃ v, w16.alloc (.cells #[.slice ab_w1 W1.disk.blocks.length cb_w1, .slice au_w1 W1.disk.waits.length cu_w1, .slice ax_w1 W1.now.length cx_w1, .slice ay_w1 W1.last.length cy_w1] 28) = v := ⟨_, rfl⟩
  rw [hw] at hlt q_w q_s q_n O_s S_n P_t q_t P_u q_u S_x q_x S_y q_y P_v1 q_v P_v2 P_w1 hB ⊢
  clear hw hst
  have sz_w17 := hlt
  clear hlt
  have HQ := Lib.hid (And.intro q_s (And.intro q_n (And.intro O_s (And.intro S_n (And.intro P_t (And.intro q_t (And.intro P_u (And.intro q_u (And.intro S_x (And.intro q_x (And.intro S_y (And.intro q_y (And.intro P_v1 (And.intro q_v (And.intro P_v2 (And.intro P_w1 (And.intro q_w hB)))))))))))))))))
  clear q_s q_n O_s S_n P_t q_t P_u q_u S_x q_x S_y q_y P_v1 q_v P_v2 P_w1 q_w hB
  have c_q_s0 := LK.cell HQ.out.1 0
  have c_q_s1 := LK.cell HQ.out.1 1
  have c_q_s2 := LK.cell HQ.out.1 2
  have c_q_s3 := LK.cell HQ.out.1 3
  have c_q_n0 := LK.cell HQ.out.2.1 0
  have c_q_n1 := LK.cell HQ.out.2.1 1
  have c_q_t0 := LK.cell HQ.out.2.2.2.2.2.1 0
  have c_q_t1 := LK.cell HQ.out.2.2.2.2.2.1 1
  have c_q_t2 := LK.cell HQ.out.2.2.2.2.2.1 2
  have c_q_t3 := LK.cell HQ.out.2.2.2.2.2.1 3
  have c_q_u0 := LK.cell HQ.out.2.2.2.2.2.2.2.1 0
  have c_q_u1 := LK.cell HQ.out.2.2.2.2.2.2.2.1 1
  have c_q_u2 := LK.cell HQ.out.2.2.2.2.2.2.2.1 2
  have c_q_u3 := LK.cell HQ.out.2.2.2.2.2.2.2.1 3
  have c_q_x0 := LK.cell HQ.out.2.2.2.2.2.2.2.2.2.1 0
  have c_q_x1 := LK.cell HQ.out.2.2.2.2.2.2.2.2.2.1 1
  have c_q_y0 := LK.cell HQ.out.2.2.2.2.2.2.2.2.2.2.2.1 0
  have c_q_y1 := LK.cell HQ.out.2.2.2.2.2.2.2.2.2.2.2.1 1
  have c_q_v0 := LK.cell HQ.out.2.2.2.2.2.2.2.2.2.2.2.2.2.1 0
  have c_q_v1 := LK.cell HQ.out.2.2.2.2.2.2.2.2.2.2.2.2.2.1 1
  have c_q_v2 := LK.cell HQ.out.2.2.2.2.2.2.2.2.2.2.2.2.2.1 2
  have c_q_v3 := LK.cell HQ.out.2.2.2.2.2.2.2.2.2.2.2.2.2.1 3
  have c_q_w0 := LK.cell HQ.out.2.2.2.2.2.2.2.2.2.2.2.2.2.2.2.2.1 0
  have c_q_w1 := LK.cell HQ.out.2.2.2.2.2.2.2.2.2.2.2.2.2.2.2.2.1 1
  have c_q_w2 := LK.cell HQ.out.2.2.2.2.2.2.2.2.2.2.2.2.2.2.2.2.1 2
  have c_q_w3 := LK.cell HQ.out.2.2.2.2.2.2.2.2.2.2.2.2.2.2.2.2.1 3
  simp at c_q_s0 c_q_s1 c_q_s2 c_q_s3 c_q_n0 c_q_n1 c_q_t0 c_q_t1 c_q_t2 c_q_t3 c_q_u0 c_q_u1 c_q_u2 c_q_u3 c_q_x0 c_q_x1 c_q_y0 c_q_y1 c_q_v0 c_q_v1 c_q_v2 c_q_v3 c_q_w0 c_q_w1 c_q_w2 c_q_w3
  go_wp2_with fail
  refine (K.out.2.2.2.2.2 _ _ _ _ _ HQ.out.2.2.2.2.2.2.2.2.2.2.2.2.2.2.2.1.v).mono ?_
  rintro e w18 ⟨b_w2, u_w2, x_w2, y_w2, rfl, hm⟩
  clear c_q_s0 c_q_s1 c_q_s2 c_q_s3 c_q_n0 c_q_n1 c_q_t0 c_q_t1 c_q_t2 c_q_t3 c_q_u0 c_q_u1 c_q_u2 c_q_u3 c_q_x0 c_q_x1 c_q_y0 c_q_y1 c_q_v0 c_q_v1 c_q_v2 c_q_v3 c_q_w0 c_q_w1 c_q_w2 c_q_w3
  obtain ⟨q_s, q_n, O_s, S_n, P_t, q_t, P_u, q_u, S_x, q_x, S_y, q_y, P_v1, q_v, P_v2, P_w1, q_w, hB⟩ := HQ.out
  clear HQ
  have P_w2 := LP.of hm
  have hst := hm.below
  obtain ⟨ab_w2, cb_w2, rfl, -, -, -, -⟩ := hm.store.v.1.1
  obtain ⟨au_w2, cu_w2, rfl, -, -, -, -⟩ := hm.store.v.1.2
  obtain ⟨ax_w2, cx_w2, rfl, -, -⟩ := hm.store.v.2.1.form rfl
  obtain ⟨ay_w2, cy_w2, rfl, -, -⟩ := hm.store.v.2.2.form rfl
  clear hm
  have sz_w18 : w17.heap.size ≤ w18.heap.size := hst.size
  replace q_s := q_s.step hst
  replace q_n := q_n.step hst
  replace O_s := O_s.step hst
  replace S_n := S_n.step hst
  replace P_t := P_t.step hst
  replace q_t := q_t.step hst
  replace P_u := P_u.step hst
  replace q_u := q_u.step hst
  replace S_x := S_x.step hst
  replace q_x := q_x.step hst
  replace S_y := S_y.step hst
  replace q_y := q_y.step hst
  replace P_v1 := P_v1.step hst
  replace q_v := q_v.step hst
  replace P_v2 := P_v2.step hst
  replace P_w1 := P_w1.step hst
  replace q_w := q_w.step hst
  replace hB := hB.step hst
  clear hst
  have HQ := Lib.hid (And.intro q_s (And.intro q_n (And.intro O_s (And.intro S_n (And.intro P_t (And.intro q_t (And.intro P_u (And.intro q_u (And.intro S_x (And.intro q_x (And.intro S_y (And.intro q_y (And.intro P_v1 (And.intro q_v (And.intro P_v2 (And.intro P_w1 (And.intro q_w (And.intro P_w2 hB))))))))))))))))))
  clear q_s q_n O_s S_n P_t q_t P_u q_u S_x q_x S_y q_y P_v1 q_v P_v2 P_w1 q_w P_w2 hB
  have c_q_s0 := LK.cell HQ.out.1 0
  have c_q_s1 := LK.cell HQ.out.1 1
  have c_q_s2 := LK.cell HQ.out.1 2
  have c_q_s3 := LK.cell HQ.out.1 3
  have c_q_n0 := LK.cell HQ.out.2.1 0
  have c_q_n1 := LK.cell HQ.out.2.1 1
  have c_q_t0 := LK.cell HQ.out.2.2.2.2.2.1 0
  have c_q_t1 := LK.cell HQ.out.2.2.2.2.2.1 1
  have c_q_t2 := LK.cell HQ.out.2.2.2.2.2.1 2
  have c_q_t3 := LK.cell HQ.out.2.2.2.2.2.1 3
  have c_q_u0 := LK.cell HQ.out.2.2.2.2.2.2.2.1 0
  have c_q_u1 := LK.cell HQ.out.2.2.2.2.2.2.2.1 1
  have c_q_u2 := LK.cell HQ.out.2.2.2.2.2.2.2.1 2
  have c_q_u3 := LK.cell HQ.out.2.2.2.2.2.2.2.1 3
  have c_q_x0 := LK.cell HQ.out.2.2.2.2.2.2.2.2.2.1 0
  have c_q_x1 := LK.cell HQ.out.2.2.2.2.2.2.2.2.2.1 1
  have c_q_y0 := LK.cell HQ.out.2.2.2.2.2.2.2.2.2.2.2.1 0
  have c_q_y1 := LK.cell HQ.out.2.2.2.2.2.2.2.2.2.2.2.1 1
  have c_q_v0 := LK.cell HQ.out.2.2.2.2.2.2.2.2.2.2.2.2.2.1 0
  have c_q_v1 := LK.cell HQ.out.2.2.2.2.2.2.2.2.2.2.2.2.2.1 1
  have c_q_v2 := LK.cell HQ.out.2.2.2.2.2.2.2.2.2.2.2.2.2.1 2
  have c_q_v3 := LK.cell HQ.out.2.2.2.2.2.2.2.2.2.2.2.2.2.1 3
  have c_q_w0 := LK.cell HQ.out.2.2.2.2.2.2.2.2.2.2.2.2.2.2.2.2.1 0
  have c_q_w1 := LK.cell HQ.out.2.2.2.2.2.2.2.2.2.2.2.2.2.2.2.2.1 1
  have c_q_w2 := LK.cell HQ.out.2.2.2.2.2.2.2.2.2.2.2.2.2.2.2.2.1 2
  have c_q_w3 := LK.cell HQ.out.2.2.2.2.2.2.2.2.2.2.2.2.2.2.2.2.1 3
  simp at c_q_s0 c_q_s1 c_q_s2 c_q_s3 c_q_n0 c_q_n1 c_q_t0 c_q_t1 c_q_t2 c_q_t3 c_q_u0 c_q_u1 c_q_u2 c_q_u3 c_q_x0 c_q_x1 c_q_y0 c_q_y1 c_q_v0 c_q_v1 c_q_v2 c_q_v3 c_q_w0 c_q_w1 c_q_w2 c_q_w3
  clear c_q_s0 c_q_s1 c_q_s2 c_q_s3 c_q_n0 c_q_n1 c_q_t0 c_q_t1 c_q_t2 c_q_t3 c_q_u0 c_q_u1 c_q_u2 c_q_u3 c_q_x0 c_q_x1 c_q_y0 c_q_y1 c_q_v0 c_q_v1 c_q_v2 c_q_v3 c_q_w0 c_q_w1 c_q_w2 c_q_w3
  have c_q_s0 := LK.cell HQ.out.1 0
  have c_q_s1 := LK.cell HQ.out.1 1
  have c_q_s2 := LK.cell HQ.out.1 2
  have c_q_s3 := LK.cell HQ.out.1 3
  have c_q_n0 := LK.cell HQ.out.2.1 0
  have c_q_n1 := LK.cell HQ.out.2.1 1
  have c_q_t0 := LK.cell HQ.out.2.2.2.2.2.1 0
  have c_q_t1 := LK.cell HQ.out.2.2.2.2.2.1 1
  have c_q_t2 := LK.cell HQ.out.2.2.2.2.2.1 2
  have c_q_t3 := LK.cell HQ.out.2.2.2.2.2.1 3
  have c_q_u0 := LK.cell HQ.out.2.2.2.2.2.2.2.1 0
  have c_q_u1 := LK.cell HQ.out.2.2.2.2.2.2.2.1 1
  have c_q_u2 := LK.cell HQ.out.2.2.2.2.2.2.2.1 2
  have c_q_u3 := LK.cell HQ.out.2.2.2.2.2.2.2.1 3
  have c_q_x0 := LK.cell HQ.out.2.2.2.2.2.2.2.2.2.1 0
  have c_q_x1 := LK.cell HQ.out.2.2.2.2.2.2.2.2.2.1 1
  have c_q_y0 := LK.cell HQ.out.2.2.2.2.2.2.2.2.2.2.2.1 0
  have c_q_y1 := LK.cell HQ.out.2.2.2.2.2.2.2.2.2.2.2.1 1
  have c_q_v0 := LK.cell HQ.out.2.2.2.2.2.2.2.2.2.2.2.2.2.1 0
  have c_q_v1 := LK.cell HQ.out.2.2.2.2.2.2.2.2.2.2.2.2.2.1 1
  have c_q_v2 := LK.cell HQ.out.2.2.2.2.2.2.2.2.2.2.2.2.2.1 2
  have c_q_v3 := LK.cell HQ.out.2.2.2.2.2.2.2.2.2.2.2.2.2.1 3
  have c_q_w0 := LK.cell HQ.out.2.2.2.2.2.2.2.2.2.2.2.2.2.2.2.2.1 0
  have c_q_w1 := LK.cell HQ.out.2.2.2.2.2.2.2.2.2.2.2.2.2.2.2.2.1 1
  have c_q_w2 := LK.cell HQ.out.2.2.2.2.2.2.2.2.2.2.2.2.2.2.2.2.1 2
  have c_q_w3 := LK.cell HQ.out.2.2.2.2.2.2.2.2.2.2.2.2.2.2.2.2.1 3
  have z_q_w0 := LK.frozen HQ.out.2.2.2.2.2.2.2.2.2.2.2.2.2.2.2.2.1 0
  have z_q_w1 := LK.frozen HQ.out.2.2.2.2.2.2.2.2.2.2.2.2.2.2.2.2.1 1
  have z_q_w2 := LK.frozen HQ.out.2.2.2.2.2.2.2.2.2.2.2.2.2.2.2.2.1 2
  have z_q_w3 := LK.frozen HQ.out.2.2.2.2.2.2.2.2.2.2.2.2.2.2.2.2.1 3
  simp at c_q_s0 c_q_s1 c_q_s2 c_q_s3 c_q_n0 c_q_n1 c_q_t0 c_q_t1 c_q_t2 c_q_t3 c_q_u0 c_q_u1 c_q_u2 c_q_u3 c_q_x0 c_q_x1 c_q_y0 c_q_y1 c_q_v0 c_q_v1 c_q_v2 c_q_v3 c_q_w0 c_q_w1 c_q_w2 c_q_w3
  go_upto_region 22 with (fail)
  clear z_q_w0 z_q_w1 z_q_w2 z_q_w3 c_q_s0 c_q_s1 c_q_s2 c_q_s3 c_q_n0 c_q_n1 c_q_t0 c_q_t1 c_q_t2 c_q_t3 c_q_u0 c_q_u1 c_q_u2 c_q_u3 c_q_x0 c_q_x1 c_q_y0 c_q_y1 c_q_v0 c_q_v1 c_q_v2 c_q_v3 c_q_w0 c_q_w1 c_q_w2 c_q_w3
  obtain ⟨q_s, q_n, O_s, S_n, P_t, q_t, P_u, q_u, S_x, q_x, S_y, q_y, P_v1, q_v, P_v2, P_w1, q_w, P_w2, hB⟩ := HQ.out
  clear HQ
  have hcb := LK.blk q_w
  have hF : LK (w16.heap.size) (.cells #[.slice ab_w2 W2.disk.blocks.length cb_w2, .slice au_w2 W2.disk.waits.length cu_w2, .slice ax_w2 W2.now.length cx_w2, .slice ay_w2 W2.last.length cy_w2] 28) ((((w18.setCell ⟨w16.heap.size, 0, none⟩ (.slice ab_w2 W2.disk.blocks.length cb_w2)).setCell ⟨w16.heap.size, 1, none⟩ (.slice au_w2 W2.disk.waits.length cu_w2)).setCell ⟨w16.heap.size, 2, none⟩ (.slice ax_w2 W2.now.length cx_w2)).setCell ⟨w16.heap.size, 3, none⟩ (.slice ay_w2 W2.last.length cy_w2)) := LK.of (set_block (set_block (set_block (set_block hcb 0 _) 1 _) 2 _) 3 _)
  have hbel : Below (w16.heap.size) w18 ((((w18.setCell ⟨w16.heap.size, 0, none⟩ (.slice ab_w2 W2.disk.blocks.length cb_w2)).setCell ⟨w16.heap.size, 1, none⟩ (.slice au_w2 W2.disk.waits.length cu_w2)).setCell ⟨w16.heap.size, 2, none⟩ (.slice ax_w2 W2.now.length cx_w2)).setCell ⟨w16.heap.size, 3, none⟩ (.slice ay_w2 W2.last.length cy_w2)) := ((((Below.refl _ w18).setCell (p := ⟨w16.heap.size, 0, none⟩) (Nat.le_refl _) _).setCell (p := ⟨w16.heap.size, 1, none⟩) (Nat.le_refl _) _).setCell (p := ⟨w16.heap.size, 2, none⟩) (Nat.le_refl _) _).setCell (p := ⟨w16.heap.size, 3, none⟩) (Nat.le_refl _) _
  have hfr : ∀ x, x < w18.heap.size → (x < w16.heap.size ∨ w16.heap.size + 1 ≤ x) → ((((w18.setCell ⟨w16.heap.size, 0, none⟩ (.slice ab_w2 W2.disk.blocks.length cb_w2)).setCell ⟨w16.heap.size, 1, none⟩ (.slice au_w2 W2.disk.waits.length cu_w2)).setCell ⟨w16.heap.size, 2, none⟩ (.slice ax_w2 W2.now.length cx_w2)).setCell ⟨w16.heap.size, 3, none⟩ (.slice ay_w2 W2.last.length cy_w2)).heap[x]? = w18.heap[x]? := fun x _ h => (set_other _ _ _ _ _ (by omega)).trans ((set_other _ _ _ _ _ (by omega)).trans ((set_other _ _ _ _ _ (by omega)).trans ((set_other _ _ _ _ _ (by omega)))))
  have hs4 : ((((w18.setCell ⟨w16.heap.size, 0, none⟩ (.slice ab_w2 W2.disk.blocks.length cb_w2)).setCell ⟨w16.heap.size, 1, none⟩ (.slice au_w2 W2.disk.waits.length cu_w2)).setCell ⟨w16.heap.size, 2, none⟩ (.slice ax_w2 W2.now.length cx_w2)).setCell ⟨w16.heap.size, 3, none⟩ (.slice ay_w2 W2.last.length cy_w2)).heap.size = w18.heap.size := by simp only [World.size_setCell]
  replace q_s := q_s.out (Nat.le_of_eq hs4.symm) hfr (by omega)
  replace q_n := q_n.out (Nat.le_of_eq hs4.symm) hfr (by omega)
  replace O_s := O_s.out (Nat.le_of_eq hs4.symm) hfr (by omega)
  replace S_n := S_n.out (Nat.le_of_eq hs4.symm) hfr (by omega)
  replace P_t := P_t.out (Nat.le_of_eq hs4.symm) hfr (by omega)
  replace q_t := q_t.out (Nat.le_of_eq hs4.symm) hfr (by omega)
  replace P_u := P_u.out (Nat.le_of_eq hs4.symm) hfr (by omega)
  replace q_u := q_u.out (Nat.le_of_eq hs4.symm) hfr (by omega)
  replace S_x := S_x.out (Nat.le_of_eq hs4.symm) hfr (by omega)
  replace q_x := q_x.out (Nat.le_of_eq hs4.symm) hfr (by omega)
  replace S_y := S_y.out (Nat.le_of_eq hs4.symm) hfr (by omega)
  replace q_y := q_y.out (Nat.le_of_eq hs4.symm) hfr (by omega)
  replace P_v1 := P_v1.out (Nat.le_of_eq hs4.symm) hfr (by omega)
  replace q_v := q_v.out (Nat.le_of_eq hs4.symm) hfr (by omega)
  replace P_v2 := P_v2.out (Nat.le_of_eq hs4.symm) hfr (by omega)
  replace P_w1 := P_w1.out (Nat.le_of_eq hs4.symm) hfr (by omega)
  replace P_w2 := P_w2.out (Nat.le_of_eq hs4.symm) hfr (by omega)
  replace hB := hB.outB hbel (by omega)
  replace q_w := hF
  obtain ⟨w19, hw⟩ : ∃ v, ((((w18.setCell ⟨w16.heap.size, 0, none⟩ (.slice ab_w2 W2.disk.blocks.length cb_w2)).setCell ⟨w16.heap.size, 1, none⟩ (.slice au_w2 W2.disk.waits.length cu_w2)).setCell ⟨w16.heap.size, 2, none⟩ (.slice ax_w2 W2.now.length cx_w2)).setCell ⟨w16.heap.size, 3, none⟩ (.slice ay_w2 W2.last.length cy_w2)) = v := ⟨_, rfl⟩
  rw [hw] at hs4 q_s q_n O_s S_n P_t q_t P_u q_u S_x q_x S_y q_y P_v1 q_v P_v2 P_w1 q_w P_w2 hB ⊢
  have sz_w19 := Nat.le_of_eq hs4
  have sy_w19 := Nat.le_of_eq hs4.symm
  clear hw hF hbel hfr hcb hs4
  have HQ := Lib.hid (And.intro q_s (And.intro q_n (And.intro O_s (And.intro S_n (And.intro P_t (And.intro q_t (And.intro P_u (And.intro q_u (And.intro S_x (And.intro q_x (And.intro S_y (And.intro q_y (And.intro P_v1 (And.intro q_v (And.intro P_v2 (And.intro P_w1 (And.intro q_w (And.intro P_w2 hB))))))))))))))))))
  clear q_s q_n O_s S_n P_t q_t P_u q_u S_x q_x S_y q_y P_v1 q_v P_v2 P_w1 q_w P_w2 hB
  have c_q_s0 := LK.cell HQ.out.1 0
  have c_q_s1 := LK.cell HQ.out.1 1
  have c_q_s2 := LK.cell HQ.out.1 2
  have c_q_s3 := LK.cell HQ.out.1 3
  have c_q_n0 := LK.cell HQ.out.2.1 0
  have c_q_n1 := LK.cell HQ.out.2.1 1
  have c_q_t0 := LK.cell HQ.out.2.2.2.2.2.1 0
  have c_q_t1 := LK.cell HQ.out.2.2.2.2.2.1 1
  have c_q_t2 := LK.cell HQ.out.2.2.2.2.2.1 2
  have c_q_t3 := LK.cell HQ.out.2.2.2.2.2.1 3
  have c_q_u0 := LK.cell HQ.out.2.2.2.2.2.2.2.1 0
  have c_q_u1 := LK.cell HQ.out.2.2.2.2.2.2.2.1 1
  have c_q_u2 := LK.cell HQ.out.2.2.2.2.2.2.2.1 2
  have c_q_u3 := LK.cell HQ.out.2.2.2.2.2.2.2.1 3
  have c_q_x0 := LK.cell HQ.out.2.2.2.2.2.2.2.2.2.1 0
  have c_q_x1 := LK.cell HQ.out.2.2.2.2.2.2.2.2.2.1 1
  have c_q_y0 := LK.cell HQ.out.2.2.2.2.2.2.2.2.2.2.2.1 0
  have c_q_y1 := LK.cell HQ.out.2.2.2.2.2.2.2.2.2.2.2.1 1
  have c_q_v0 := LK.cell HQ.out.2.2.2.2.2.2.2.2.2.2.2.2.2.1 0
  have c_q_v1 := LK.cell HQ.out.2.2.2.2.2.2.2.2.2.2.2.2.2.1 1
  have c_q_v2 := LK.cell HQ.out.2.2.2.2.2.2.2.2.2.2.2.2.2.1 2
  have c_q_v3 := LK.cell HQ.out.2.2.2.2.2.2.2.2.2.2.2.2.2.1 3
  have c_q_w0 := LK.cell HQ.out.2.2.2.2.2.2.2.2.2.2.2.2.2.2.2.2.1 0
  have c_q_w1 := LK.cell HQ.out.2.2.2.2.2.2.2.2.2.2.2.2.2.2.2.2.1 1
  have c_q_w2 := LK.cell HQ.out.2.2.2.2.2.2.2.2.2.2.2.2.2.2.2.2.1 2
  have c_q_w3 := LK.cell HQ.out.2.2.2.2.2.2.2.2.2.2.2.2.2.2.2.2.1 3
  simp at c_q_s0 c_q_s1 c_q_s2 c_q_s3 c_q_n0 c_q_n1 c_q_t0 c_q_t1 c_q_t2 c_q_t3 c_q_u0 c_q_u1 c_q_u2 c_q_u3 c_q_x0 c_q_x1 c_q_y0 c_q_y1 c_q_v0 c_q_v1 c_q_v2 c_q_v3 c_q_w0 c_q_w1 c_q_w2 c_q_w3
  have y1 := cv_of HQ.out.2.2.2.2.2.2.2.2.2.2.2.2.2.2.1.n
  have y2 := cv_of HQ.out.2.2.2.2.2.2.2.2.2.2.2.2.2.2.2.2.2.1.n
  have y4 := cv_of HQ.out.2.2.1.n
  have h1 := HT.out.2.2.2.2.1
  have h2 := HT.out.2.2.2.2.2
  simp only [h1] at y1 c_q_v2
  simp only [h2] at y2 c_q_w2
  clear h1 h2
  go_wp2
  go_ret
  exact ⟨rfl, HQ.out.2.2.2.2.2.2.2.2.2.2.2.2.2.2.2.2.2.2⟩

end Go.Proofs.Ytbddbadmfhplmaa

