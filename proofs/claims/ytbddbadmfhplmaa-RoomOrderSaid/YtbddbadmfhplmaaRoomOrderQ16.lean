/- RoomOrder: the words and contracts, part 16. -/
import Derived.Test.YtbddbadmfhplmaaRoomOrderQ1
import Derived.Test.YtbddbadmfhplmaaRoomOrderQ2
import Derived.Test.YtbddbadmfhplmaaRoomOrderQ3
import Derived.Test.YtbddbadmfhplmaaRoomOrderQ4
import Derived.Test.YtbddbadmfhplmaaRoomOrderQ5
import Derived.Test.YtbddbadmfhplmaaRoomOrderQ6
import Derived.Test.YtbddbadmfhplmaaRoomOrderQ7
import Derived.Test.YtbddbadmfhplmaaRoomOrderQ8
import Derived.Test.YtbddbadmfhplmaaRoomOrderQ9
import Derived.Test.YtbddbadmfhplmaaRoomOrderQ10
import Derived.Test.YtbddbadmfhplmaaRoomOrderQ11
import Derived.Test.YtbddbadmfhplmaaRoomOrderQ12
import Derived.Test.YtbddbadmfhplmaaRoomOrderQ13
import Derived.Test.YtbddbadmfhplmaaRoomOrderQ14
import Derived.Test.YtbddbadmfhplmaaRoomOrderQ15
import Derived.WalkKit
import Derived.WalkLawsBesides
import Derived.WalkSpells
import Derived.Lib.Hide
import Derived.Laws.Rows
import Derived.Laws.AppendOwnNone
import Derived.Maps.AppendAt
import Derived.ProofKit
import Derived.Deep.Slices
import Derived.WideShapes
import Derived.RangeFuncNested
import Derived.RangeFuncBound
import Derived.RangeFuncCalls
import Derived.RangeFuncLeaves
import Derived.RangeFuncBox
import Derived.Shelf.Abstract
import Derived.Shelf.RegionOpen
import Derived.OwnWalkIn
import Derived.TacticsInMore
import Derived.LoopNIn
import Derived.LoopIn
import Derived.Lib.AppendZerosOnto
import Derived.Lib.SliceRun
import Derived.Lib.Walk
import Derived.Deep.LoopGhost
import Derived.Laws.CopyOwn
import Derived.Laws.CopyRow
import Derived.OrdersHeld
import Derived.Deep.QuietTactic
import Derived.BigQuiet
import Derived.StillTailTactics
import Derived.OpenShut
import Derived.Deep.DeepCutAuto
import Derived.Laws.MakeOwn
import Derived.Deep.RegionHeld
import Derived.KernelRfl
import Derived.BigFrameIn
import Derived.OrdersIn
namespace Go.Proofs.Ytbddbadmfhplmaa
open Go.RowKit

theorem seen_free {s : StoreL} {a : List UInt8} (h : errTk s a = 0) : mayD s.disk = true ∧ mayD (takeS s a).disk = true ∧ ∀ q, readB (takeS s a).disk q = if (headS s : Int) = q then a else readB s.disk q := by
  obtain ⟨e1, e2, -, -⟩ := take_is h
  obtain ⟨hm, hl, ⟨r, hr⟩, hw⟩ := errTk_zero h
  refine ⟨(mayS_iff.1 hm).1, (mayS_iff.1 e2).1, fun q => ?_⟩
  have hD : (takeS s a).disk = writeD s.disk (headS s) a := by rw [e1, (write_may hw).1]
  rw [hD]
  split
  · rename_i he
    subst he
    exact read_write_self hw
  · rename_i he
    exact read_write_other hw (fun e => he e.symm)
/-- Two that are taken. -/
theorem take_two {s : StoreL} {a b : List UInt8} (h1 : errTk s a = 0) (h2 : errTk (takeS s a) b = 0) : ∃ n m : Nat, atTk s a = n ∧ atTk (takeS s a) b = m ∧ n ≠ m ∧
    errA (takeS (takeS s a) b).disk n = 0 ∧ errA (takeS (takeS s a) b).disk m = 0 ∧ readB (takeS (takeS s a) b).disk n = a ∧ readB (takeS (takeS s a) b).disk m = b ∧ s.now.length = 256 ∧ s.last.length = 256 ∧
    ∀ q : Nat, 8 ≤ q → q < 256 → (s.now.getD q 0 ≠ 0 ∨ s.last.getD q 0 ≠ 0) → errA s.disk q = 0 ∧ errA (takeS (takeS s a) b).disk q = 0 ∧ readB (takeS (takeS s a) b).disk q = readB s.disk q := by
  obtain ⟨m1, m2, s1⟩ := seen_free h1
  obtain ⟨-, m3, s2⟩ := seen_free h2
  obtain ⟨i1, -, i3, i4⟩ := take_is h1
  obtain ⟨-, -, j3, j4⟩ := take_is h2
  obtain ⟨hm, -, ⟨r, hr⟩, -⟩ := errTk_zero h1
  obtain ⟨-, -, ⟨r2, hr2⟩, -⟩ := errTk_zero h2
  obtain ⟨p1, p2, p3, p4⟩ := head_free hr
  obtain ⟨q1, q2, q3, q4⟩ := head_free hr2
  have h256 := mayT_len (mayS_iff.1 hm).2.1
  have h257 := mayT_len (mayS_iff.1 hm).2.2
  have hne : headS s ≠ headS (takeS s a) := by
    intro e
    rw [← e, i1] at q3
    change (s.now.set (headS s) 1).getD (headS s) 0 = 0 at q3
    rw [cgetD_set_self _ _ _ (by omega)] at q3
    cases q3
  have hA : ∀ q : Nat, q < 256 → errA (takeS (takeS s a) b).disk q = 0 := fun q hq => by rw [errA_may _ m3, if_neg (by omega)]
  refine ⟨headS s, headS (takeS s a), i3, j3, hne, hA _ p2, hA _ q2, ?_, ?_, h256, h257, fun q h8 h9 hq => ⟨by rw [errA_may _ m1, if_neg (by omega)], hA q h9, ?_⟩⟩
  · rw [s2, if_neg (by omega), s1, if_pos rfl]
  · rw [s2, if_pos rfl]
  · have g1 : headS s ≠ q := by
      rintro rfl
      rcases hq with hq | hq
      · exact hq p3
      · exact hq p4
    have g2 : headS (takeS s a) ≠ q := by
      intro e
      rw [e, i1] at q3 q4
      rcases hq with hq | hq
      · apply hq
        change (s.now.set (headS s) 1).getD q 0 = 0 at q3
        rwa [bget_set_ne _ _ _ _ g1] at q3
      · exact hq q4
    rw [s2, if_neg (by omega), s1, if_neg (by omega)]
theorem take_none {s : StoreL} {a b : List UInt8} (h : errTk s a ≠ 0) : errTk (takeS s a) b ≠ 0 := by
  have : takeS s a = noS := by unfold takeS; rw [if_neg h]
  rw [this]
  intro e
  have := (errTk_zero e).1
  cases this
/-- Shares may be told in either order. -/
theorem share_two {s : StoreL} {p q : Int} (h1 : errSh s p = 0) (h2 : errSh s q = 0) : errSh (shareS s p) q = errSh (shareS s q) p ∧ (errSh (shareS s p) q = 0 → shareS (shareS s p) q = shareS (shareS s q) p) := by
  by_cases hpq : p = q
  · subst hpq
    exact ⟨rfl, fun _ => rfl⟩
  obtain ⟨a1, a2, a3, a4, a5, -, -⟩ := share_is h1
  obtain ⟨b1, b2, b3, b4, b5, -, -⟩ := share_is h2
  have hm := (errAs_zero (errSh_zero h1).1).1
  have hp9 := (errSh_zero h1).2
  have hq9 := (errSh_zero h2).2
  have hne : p.toNat ≠ q.toNat := by omega
  have ea : (shareS s p).now.getD q.toNat 0 = s.now.getD q.toNat 0 := by rw [a1]; exact bget_set_ne _ _ _ _ hne
  have eb : (shareS s q).now.getD p.toNat 0 = s.now.getD p.toNat 0 := by rw [b1]; exact bget_set_ne _ _ _ _ (Ne.symm hne)
  have za : errSh (shareS s p) q = 0 := by
    have : errAs (shareS s p) q = 0 := by unfold errAs; rw [if_pos a2, if_neg (by omega), ea, if_neg b5]
    unfold errSh
    rw [this, if_neg (by simp), ea, if_neg hq9]
  have zb : errSh (shareS s q) p = 0 := by
    have : errAs (shareS s q) p = 0 := by unfold errAs; rw [if_pos b2, if_neg (by omega), eb, if_neg a5]
    unfold errSh
    rw [this, if_neg (by simp), eb, if_neg hp9]
  refine ⟨by rw [za, zb], fun _ => ?_⟩
  rw [(share_is za).1, (share_is zb).1, ea, eb, a1, b1]
  simp only
  rw [List.set_comm _ _ hne]

set_option maxRecDepth 100000 in
set_option maxHeartbeats 8000000 in
theorem roomOrder_walk (b_s u_s x_s y_s : Value) (s : StoreL) (v_a : Value) (a : List UInt8) (v_b : Value) (b : List UInt8) (p : Int) (q : Int) (w : World) (h_s : StoreV w 0 w.heap.size b_s u_s x_s y_s s) (h_a : Bytes w 0 w.heap.size v_a a) (h_b : Bytes w 0 w.heap.size v_b b) (_wp : (Lit.int .i64 p).wf = true) (_wq : (Lit.int .i64 q).wf = true) :
    Calls Try.prog 6 #[.agg #[b_s, u_s, x_s, y_s], v_a, v_b, .int .i64 p, .int .i64 q] w fun e w' => e = .returned (.bool true) ∧ Below w.heap.size w w' := by
  obtain ⟨ab_s, cb_s, rfl, gb_s, gc_s, -, -⟩ := h_s.1.1
  obtain ⟨au_s, cu_s, rfl, gu_s, gv_s, -, -⟩ := h_s.1.2
  obtain ⟨ax_s, cx_s, rfl, gx_s, gz_s⟩ := h_s.2.1.form rfl
  obtain ⟨ay_s, cy_s, rfl, gy_s, gw_s⟩ := h_s.2.2.form rfl
  unfold maxLen at gc_s gv_s gz_s gw_s
  obtain ⟨a_a, c_a, rfl, g_a, gm_a⟩ := h_a.form rfl
  unfold maxLen at gm_a
  obtain ⟨a_b, c_b, rfl, g_b, gm_b⟩ := h_b.form rfl
  unfold maxLen at gm_b
  have hst := ((Below.refl w.heap.size w).alloc (Nat.le_refl _) (.cells #[.slice ab_s s.disk.blocks.length cb_s, .slice au_s s.disk.waits.length cu_s, .slice ax_s s.now.length cx_s, .slice ay_s s.last.length cy_s] 28))
  have q_s := LK.new w (.cells #[.slice ab_s s.disk.blocks.length cb_s, .slice au_s s.disk.waits.length cu_s, .slice ax_s s.now.length cx_s, .slice ay_s s.last.length cy_s] 28)
  have hB : LW w _ := hst
  have O_s := (LO.of h_s (Nat.le_refl _)).step hst
  have B_a := (LB.of h_a (Nat.le_refl _)).step hst
  have B_b := (LB.of h_b (Nat.le_refl _)).step hst
  have sz_V : w.heap.size + 0 < (w.alloc (.cells #[.slice ab_s s.disk.blocks.length cb_s, .slice au_s s.disk.waits.length cu_s, .slice ax_s s.now.length cx_s, .slice ay_s s.last.length cy_s] 28)).heap.size := by simp
  obtain ⟨V, hV⟩ : ∃ V, (w.alloc (.cells #[.slice ab_s s.disk.blocks.length cb_s, .slice au_s s.disk.waits.length cu_s, .slice ax_s s.now.length cx_s, .slice ay_s s.last.length cy_s] 28)) = V := ⟨_, rfl⟩
  rw [hV] at sz_V q_s O_s B_a B_b hB
  clear hst h_s h_a h_b
  have HQ := Lib.hid (And.intro q_s (And.intro O_s (And.intro B_a (And.intro B_b hB))))
  clear q_s O_s B_a B_b hB
  have c_q_s0 := LK.cell HQ.out.1 0
  have c_q_s1 := LK.cell HQ.out.1 1
  have c_q_s2 := LK.cell HQ.out.1 2
  have c_q_s3 := LK.cell HQ.out.1 3
  simp at c_q_s0 c_q_s1 c_q_s2 c_q_s3
  have htwo := take_two (s := s) (a := a) (b := b)
  have hnone := take_none (s := s) (a := a) (b := b)
  have hsh := share_two (s := s) (p := p) (q := q)
  have hes : (mayS s = false ∧ errS s = 8) ∨ (mayS s = true ∧ errS s = 0) := by
    unfold errS
    cases mayS s
    · exact .inl ⟨rfl, rfl⟩
    · exact .inr ⟨rfl, rfl⟩
  have k_g := fun V b u x y hh => great8_any b u x y s V hh
  have k_c := fun V b u x y hh => scheck_any b u x y s V hh
  have k_t := fun V b1 u x y v hh hv => stake_any b1 u x y s v a V hh hv
  have k_u := fun V b1 u x y v hh hv => stake_any b1 u x y (takeS s a) v b V hh hv
  have k_p := fun V b1 u x y hh => sshare_any b1 u x y s p V hh
  have k_p2 := fun V b1 u x y hh => sshare_any b1 u x y (shareS s p) q V hh
  have k_q := fun V b1 u x y hh => sshare_any b1 u x y s q V hh
  have k_q2 := fun V b1 u x y hh => sshare_any b1 u x y (shareS s q) p V hh
  obtain ⟨es, hse⟩ : ∃ e, errS s = e := ⟨_, rfl⟩
  obtain ⟨T, hT⟩ : ∃ T, takeS s a = T := ⟨_, rfl⟩
  rw [hT] at htwo hnone k_t k_u
  obtain ⟨U, hU⟩ : ∃ U, takeS T b = U := ⟨_, rfl⟩
  obtain ⟨et, het⟩ : ∃ e, errTk s a = e := ⟨_, rfl⟩
  obtain ⟨eu, heu⟩ : ∃ e, errTk T b = e := ⟨_, rfl⟩
  obtain ⟨n1, hn1⟩ : ∃ e, atTk s a = e := ⟨_, rfl⟩
  obtain ⟨m1, hm1⟩ : ∃ e, atTk T b = e := ⟨_, rfl⟩
  rw [hse] at k_c hes
  rw [het, hn1] at k_t htwo
  rw [het, heu] at hnone
  rw [hU, heu, hm1] at k_u htwo
  obtain ⟨P1, hP1⟩ : ∃ X, shareS s p = X := ⟨_, rfl⟩
  obtain ⟨Q1, hQ1⟩ : ∃ X, shareS s q = X := ⟨_, rfl⟩
  rw [hP1] at k_p k_p2 hsh
  rw [hQ1] at k_q k_q2 hsh
  obtain ⟨P2, hP2⟩ : ∃ X, shareS P1 q = X := ⟨_, rfl⟩
  obtain ⟨Q2, hQ2⟩ : ∃ X, shareS Q1 p = X := ⟨_, rfl⟩
  obtain ⟨e1, he1⟩ : ∃ e, errSh s p = e := ⟨_, rfl⟩
  obtain ⟨e2, he2⟩ : ∃ e, errSh P1 q = e := ⟨_, rfl⟩
  obtain ⟨e3, he3⟩ : ∃ e, errSh s q = e := ⟨_, rfl⟩
  obtain ⟨e4, he4⟩ : ∃ e, errSh Q1 p = e := ⟨_, rfl⟩
  rw [he1] at k_p hsh
  rw [hP2, he2] at k_p2 hsh
  rw [he3] at k_q hsh
  rw [hQ2, he4] at k_q2 hsh
  have k_d := fun V b1 u1 x1 y1 b2 u2 x2 y2 h1 h2 => ssame_any b1 u1 x1 y1 P2 b2 u2 x2 y2 Q2 V h1 h2
  have k_r := fun (d : DiskL) V b u p hh => dread_any b u d p V hh
  have HN := Lib.hid (And.intro htwo (And.intro hnone hsh))
  clear htwo hnone hsh hse hT hU het heu hn1 hm1 hP1 hQ1 hP2 hQ2 he1 he2 he3 he4
  have HC := Lib.hid (And.intro k_g (And.intro k_c (And.intro k_t (And.intro k_u (And.intro k_p (And.intro k_p2 (And.intro k_q (And.intro k_q2 (And.intro k_d k_r)))))))))
  clear k_g k_c k_t k_u k_p k_p2 k_q k_q2 k_d k_r
  go_enter Try.func6, Try.ntmps6
  go_upto_region 1 with (fail)
  clear hV
  go_wp2_with fail
  refine (alive8 V).mono ?_
  rintro e w1 ⟨rfl, hst⟩
  clear c_q_s0 c_q_s1 c_q_s2 c_q_s3
  obtain ⟨q_s, O_s, B_a, B_b, hB⟩ := HQ.out
  clear HQ
  have sz_w1 : V.heap.size ≤ w1.heap.size := hst.size
  replace q_s := q_s.step hst
  replace O_s := O_s.step hst
  replace B_a := B_a.step hst
  replace B_b := B_b.step hst
  replace hB := hB.step hst
  clear hst
  have HQ := Lib.hid (And.intro q_s (And.intro O_s (And.intro B_a (And.intro B_b hB))))
  clear q_s O_s B_a B_b hB
  have c_q_s0 := LK.cell HQ.out.1 0
  have c_q_s1 := LK.cell HQ.out.1 1
  have c_q_s2 := LK.cell HQ.out.1 2
  have c_q_s3 := LK.cell HQ.out.1 3
  simp at c_q_s0 c_q_s1 c_q_s2 c_q_s3
  go_wp2_with fail
  refine (HC.out.1 _ _ _ _ _ HQ.out.2.1.v).mono ?_
  rintro e w2 ⟨g, rfl, hst, -⟩
  clear c_q_s0 c_q_s1 c_q_s2 c_q_s3
  obtain ⟨q_s, O_s, B_a, B_b, hB⟩ := HQ.out
  clear HQ
  have sz_w2 : w1.heap.size ≤ w2.heap.size := hst.size
  replace q_s := q_s.step hst
  replace O_s := O_s.step hst
  replace B_a := B_a.step hst
  replace B_b := B_b.step hst
  replace hB := hB.step hst
  clear hst
  have HQ := Lib.hid (And.intro q_s (And.intro O_s (And.intro B_a (And.intro B_b hB))))
  clear q_s O_s B_a B_b hB
  have c_q_s0 := LK.cell HQ.out.1 0
  have c_q_s1 := LK.cell HQ.out.1 1
  have c_q_s2 := LK.cell HQ.out.1 2
  have c_q_s3 := LK.cell HQ.out.1 3
  simp at c_q_s0 c_q_s1 c_q_s2 c_q_s3
  cases g
  case true =>
    go_wp2
    go_ret
    exact ⟨rfl, HQ.out.2.2.2.2⟩
  by_cases hl : 10000 < a.length
  · have i1 : (10000 : Int) < a.length := by omega
    go_wp2
    go_ret
    exact ⟨rfl, HQ.out.2.2.2.2⟩
  have i1 : decide ((10000 : Int) < a.length) = false := by simp; omega
  by_cases hl2 : 10000 < b.length
  · have i2 : (10000 : Int) < b.length := by omega
    go_wp2
    go_ret
    exact ⟨rfl, HQ.out.2.2.2.2⟩
  have i2 : decide ((10000 : Int) < b.length) = false := by simp; omega
  go_wp2_with fail
  refine (HC.out.2.1 _ _ _ _ _ HQ.out.2.1.v).mono ?_
  rintro e w3 ⟨rfl, hst⟩
  clear c_q_s0 c_q_s1 c_q_s2 c_q_s3
  obtain ⟨q_s, O_s, B_a, B_b, hB⟩ := HQ.out
  clear HQ
  have sz_w3 : w2.heap.size ≤ w3.heap.size := hst.size
  replace q_s := q_s.step hst
  replace O_s := O_s.step hst
  replace B_a := B_a.step hst
  replace B_b := B_b.step hst
  replace hB := hB.step hst
  clear hst
  have HQ := Lib.hid (And.intro q_s (And.intro O_s (And.intro B_a (And.intro B_b hB))))
  clear q_s O_s B_a B_b hB
  have c_q_s0 := LK.cell HQ.out.1 0
  have c_q_s1 := LK.cell HQ.out.1 1
  have c_q_s2 := LK.cell HQ.out.1 2
  have c_q_s3 := LK.cell HQ.out.1 3
  simp at c_q_s0 c_q_s1 c_q_s2 c_q_s3
  rcases hes with ⟨-, rfl⟩ | ⟨hmy, rfl⟩
  · skip
    go_wp2
    go_ret
    exact ⟨rfl, HQ.out.2.2.2.2⟩
  go_wp2_with fail
  clear i1 i2 hl hl2
  refine (HC.out.2.2.1 _ _ _ _ _ _ HQ.out.2.1.v HQ.out.2.2.1.v).mono ?_
  rintro e w4 ⟨b1, u1, x1, y1, rfl, hm⟩
  clear c_q_s0 c_q_s1 c_q_s2 c_q_s3
  obtain ⟨q_s, O_s, B_a, B_b, hB⟩ := HQ.out
  clear HQ
  have P_t := LP.of hm
  have hst := hm.below
  obtain ⟨ab_t, cb_t, rfl, -, -, -, -⟩ := hm.store.v.1.1
  obtain ⟨au_t, cu_t, rfl, -, -, -, -⟩ := hm.store.v.1.2
  obtain ⟨ax_t, cx_t, rfl, -, -⟩ := hm.store.v.2.1.form rfl
  obtain ⟨ay_t, cy_t, rfl, -, -⟩ := hm.store.v.2.2.form rfl
  clear hm
  have sz_w4 : w3.heap.size ≤ w4.heap.size := hst.size
  replace q_s := q_s.step hst
  replace O_s := O_s.step hst
  replace B_a := B_a.step hst
  replace B_b := B_b.step hst
  replace hB := hB.step hst
  clear hst
  have HQ := Lib.hid (And.intro q_s (And.intro O_s (And.intro B_a (And.intro B_b (And.intro P_t hB)))))
  clear q_s O_s B_a B_b P_t hB
  have c_q_s0 := LK.cell HQ.out.1 0
  have c_q_s1 := LK.cell HQ.out.1 1
  have c_q_s2 := LK.cell HQ.out.1 2
  have c_q_s3 := LK.cell HQ.out.1 3
  simp at c_q_s0 c_q_s1 c_q_s2 c_q_s3
  go_upto_region 5 with (fail)
  clear c_q_s0 c_q_s1 c_q_s2 c_q_s3
  obtain ⟨q_s, O_s, B_a, B_b, P_t, hB⟩ := HQ.out
  clear HQ
  have hst := (Below.refl w4.heap.size w4).alloc (Nat.le_refl _) (.cells #[.slice ab_t T.disk.blocks.length cb_t, .slice au_t T.disk.waits.length cu_t, .slice ax_t T.now.length cx_t, .slice ay_t T.last.length cy_t] 28)
  have hlt : w4.heap.size < (w4.alloc (.cells #[.slice ab_t T.disk.blocks.length cb_t, .slice au_t T.disk.waits.length cu_t, .slice ax_t T.now.length cx_t, .slice ay_t T.last.length cy_t] 28)).heap.size := by simp
  have q_t := LK.new w4 (.cells #[.slice ab_t T.disk.blocks.length cb_t, .slice au_t T.disk.waits.length cu_t, .slice ax_t T.now.length cx_t, .slice ay_t T.last.length cy_t] 28)
  replace q_s := q_s.step hst
  replace O_s := O_s.step hst
  replace B_a := B_a.step hst
  replace B_b := B_b.step hst
  replace P_t := P_t.step hst
  replace hB := hB.step hst
  obtain ⟨w5, hw⟩ : ∃ v, w4.alloc (.cells #[.slice ab_t T.disk.blocks.length cb_t, .slice au_t T.disk.waits.length cu_t, .slice ax_t T.now.length cx_t, .slice ay_t T.last.length cy_t] 28) = v := ⟨_, rfl⟩
  rw [hw] at hlt q_t q_s O_s B_a B_b P_t hB ⊢
  clear hw hst
  have sz_w5 := hlt
  clear hlt
  have HQ := Lib.hid (And.intro q_s (And.intro O_s (And.intro B_a (And.intro B_b (And.intro P_t (And.intro q_t hB))))))
  clear q_s O_s B_a B_b P_t q_t hB
  have c_q_s0 := LK.cell HQ.out.1 0
  have c_q_s1 := LK.cell HQ.out.1 1
  have c_q_s2 := LK.cell HQ.out.1 2
  have c_q_s3 := LK.cell HQ.out.1 3
  have c_q_t0 := LK.cell HQ.out.2.2.2.2.2.1 0
  have c_q_t1 := LK.cell HQ.out.2.2.2.2.2.1 1
  have c_q_t2 := LK.cell HQ.out.2.2.2.2.2.1 2
  have c_q_t3 := LK.cell HQ.out.2.2.2.2.2.1 3
  simp at c_q_s0 c_q_s1 c_q_s2 c_q_s3 c_q_t0 c_q_t1 c_q_t2 c_q_t3
  go_wp2_with fail
  refine (HC.out.2.2.2.1 _ _ _ _ _ _ HQ.out.2.2.2.2.1.v HQ.out.2.2.2.1.v).mono ?_
  rintro e w6 ⟨b2, u2, x2, y2, rfl, hm⟩
  clear c_q_s0 c_q_s1 c_q_s2 c_q_s3 c_q_t0 c_q_t1 c_q_t2 c_q_t3
  obtain ⟨q_s, O_s, B_a, B_b, P_t, q_t, hB⟩ := HQ.out
  clear HQ
  have P_u := LP.of hm
  have hst := hm.below
  obtain ⟨ab_u, cb_u, rfl, -, -, -, -⟩ := hm.store.v.1.1
  obtain ⟨au_u, cu_u, rfl, -, -, -, -⟩ := hm.store.v.1.2
  obtain ⟨ax_u, cx_u, rfl, -, -⟩ := hm.store.v.2.1.form rfl
  obtain ⟨ay_u, cy_u, rfl, -, -⟩ := hm.store.v.2.2.form rfl
  clear hm
  have sz_w6 : w5.heap.size ≤ w6.heap.size := hst.size
  replace q_s := q_s.step hst
  replace O_s := O_s.step hst
  replace B_a := B_a.step hst
  replace B_b := B_b.step hst
  replace P_t := P_t.step hst
  replace q_t := q_t.step hst
  replace hB := hB.step hst
  clear hst
  have HQ := Lib.hid (And.intro q_s (And.intro O_s (And.intro B_a (And.intro B_b (And.intro P_t (And.intro q_t (And.intro P_u hB)))))))
  clear q_s O_s B_a B_b P_t q_t P_u hB
  have c_q_s0 := LK.cell HQ.out.1 0
  have c_q_s1 := LK.cell HQ.out.1 1
  have c_q_s2 := LK.cell HQ.out.1 2
  have c_q_s3 := LK.cell HQ.out.1 3
  have c_q_t0 := LK.cell HQ.out.2.2.2.2.2.1 0
  have c_q_t1 := LK.cell HQ.out.2.2.2.2.2.1 1
  have c_q_t2 := LK.cell HQ.out.2.2.2.2.2.1 2
  have c_q_t3 := LK.cell HQ.out.2.2.2.2.2.1 3
  simp at c_q_s0 c_q_s1 c_q_s2 c_q_s3 c_q_t0 c_q_t1 c_q_t2 c_q_t3
  go_upto_region 6 with (fail)
  clear c_q_s0 c_q_s1 c_q_s2 c_q_s3 c_q_t0 c_q_t1 c_q_t2 c_q_t3
  obtain ⟨q_s, O_s, B_a, B_b, P_t, q_t, P_u, hB⟩ := HQ.out
  clear HQ
  have hst := (Below.refl w6.heap.size w6).alloc (Nat.le_refl _) (.cells #[.slice ab_u U.disk.blocks.length cb_u, .slice au_u U.disk.waits.length cu_u, .slice ax_u U.now.length cx_u, .slice ay_u U.last.length cy_u] 28)
  have hlt : w6.heap.size < (w6.alloc (.cells #[.slice ab_u U.disk.blocks.length cb_u, .slice au_u U.disk.waits.length cu_u, .slice ax_u U.now.length cx_u, .slice ay_u U.last.length cy_u] 28)).heap.size := by simp
  have q_u := LK.new w6 (.cells #[.slice ab_u U.disk.blocks.length cb_u, .slice au_u U.disk.waits.length cu_u, .slice ax_u U.now.length cx_u, .slice ay_u U.last.length cy_u] 28)
  replace q_s := q_s.step hst
  replace O_s := O_s.step hst
  replace B_a := B_a.step hst
  replace B_b := B_b.step hst
  replace P_t := P_t.step hst
  replace q_t := q_t.step hst
  replace P_u := P_u.step hst
  replace hB := hB.step hst
  obtain ⟨w7, hw⟩ : ∃ v, w6.alloc (.cells #[.slice ab_u U.disk.blocks.length cb_u, .slice au_u U.disk.waits.length cu_u, .slice ax_u U.now.length cx_u, .slice ay_u U.last.length cy_u] 28) = v := ⟨_, rfl⟩
  rw [hw] at hlt q_u q_s O_s B_a B_b P_t q_t P_u hB ⊢
  clear hw hst
  have sz_w7 := hlt
  clear hlt
  have HQ := Lib.hid (And.intro q_s (And.intro O_s (And.intro B_a (And.intro B_b (And.intro P_t (And.intro q_t (And.intro P_u (And.intro q_u hB))))))))
  clear q_s O_s B_a B_b P_t q_t P_u q_u hB
  have c_q_s0 := LK.cell HQ.out.1 0
  have c_q_s1 := LK.cell HQ.out.1 1
  have c_q_s2 := LK.cell HQ.out.1 2
  have c_q_s3 := LK.cell HQ.out.1 3
  have c_q_t0 := LK.cell HQ.out.2.2.2.2.2.1 0
  have c_q_t1 := LK.cell HQ.out.2.2.2.2.2.1 1
  have c_q_t2 := LK.cell HQ.out.2.2.2.2.2.1 2
  have c_q_t3 := LK.cell HQ.out.2.2.2.2.2.1 3
  have c_q_u0 := LK.cell HQ.out.2.2.2.2.2.2.2.1 0
  have c_q_u1 := LK.cell HQ.out.2.2.2.2.2.2.2.1 1
  have c_q_u2 := LK.cell HQ.out.2.2.2.2.2.2.2.1 2
  have c_q_u3 := LK.cell HQ.out.2.2.2.2.2.2.2.1 3
  simp at c_q_s0 c_q_s1 c_q_s2 c_q_s3 c_q_t0 c_q_t1 c_q_t2 c_q_t3 c_q_u0 c_q_u1 c_q_u2 c_q_u3
  go_upto_region 6 with (fail)
  go_cut [74] (fun t wx => t = .bool (decide (et = 0 ∧ eu = 0)) ∧ wx = w7)
  case first =>
    by_cases h1 : et = 0
    · have i1 : (et == 0) = true := by simp [h1]
      by_cases h2 : eu = 0
      · have i2 : (eu == 0) = true := by simp [h2]
        go_wp2
        go_meet
        exact ⟨by simp [h1, h2], rfl⟩
      · have i2 : (eu == 0) = false := by simp [h2]
        go_wp2
        go_meet
        exact ⟨by simp [h1, h2], rfl⟩
    · have i1 : (et == 0) = false := by simp [h1]
      go_wp2
      go_meet
      exact ⟨by simp [h1], rfl⟩
  case rest =>
  obtain ⟨rfl, hwx⟩ := hcut; replace hwx := hwx.symm; subst hwx
  go_upto_if 74 with (fail)
  go_cut [11] (fun t wx => t = .bool true ∧ Below w7.heap.size w7 wx)
  case first =>
    by_cases h1 : et = 0
    case neg =>
      have i1 : decide (et = 0 ∧ eu = 0) = false := by simp [h1]
      go_wp2
      go_meet
      exact ⟨rfl, Below.refl _ _⟩
    subst h1
    by_cases h2 : eu = 0
    case neg =>
      have i1 : (eu == 0) = false := by simp [h2]
      go_wp2
      go_meet
      exact ⟨rfl, Below.refl _ _⟩
    subst h2
    obtain ⟨n, m, rfl, rfl, hnm, ra1, rb1, ra2, rb2, hsl, hll, hoth⟩ := HN.out.1 rfl rfl
    have k_1 := HC.out.2.2.2.2.2.2.2.2.2 U.disk
    have k_1a := fun V b1 u1 hh => k_1 V b1 u1 n hh
    have k_1b := fun V b1 u1 hh => k_1 V b1 u1 m hh
    rw [ra1, ra2] at k_1a
    rw [rb1, rb2] at k_1b
    have HK := Lib.hid (And.intro k_1a k_1b)
    have HO := Lib.hid (And.intro hoth (And.intro hsl hll))
    clear k_1 k_1a k_1b ra1 rb1 ra2 rb2 hoth hsl hll
    have hWW : LW w7 w7 := Below.refl _ _
    obtain ⟨q_s, O_s, B_a, B_b, P_t, q_t, P_u, q_u, hB⟩ := HQ.out
    clear HQ
    have HQ := Lib.hid (And.intro q_s (And.intro O_s (And.intro B_a (And.intro B_b (And.intro P_t (And.intro q_t (And.intro P_u (And.intro q_u (And.intro hWW hB)))))))))
    clear q_s O_s B_a B_b P_t q_t P_u q_u hWW hB
    go_wp2_with fail
    refine (HK.out.1 _ _ _ HQ.out.2.2.2.2.2.2.1.d).mono ?_
    rintro e w8 ⟨v_1, rfl, hm⟩
    clear c_q_s0 c_q_s1 c_q_s2 c_q_s3 c_q_t0 c_q_t1 c_q_t2 c_q_t3 c_q_u0 c_q_u1 c_q_u2 c_q_u3
    obtain ⟨q_s, O_s, B_a, B_b, P_t, q_t, P_u, q_u, hWW, hB⟩ := HQ.out
    clear HQ
    have B_1 := LM.of hm
    have hst := hm.below
    obtain ⟨a_1, c_1, rfl, -, -⟩ := hm.bytes.form rfl
    clear hm
    have sz_w8 : w7.heap.size ≤ w8.heap.size := hst.size
    replace q_s := q_s.step hst
    replace O_s := O_s.step hst
    replace B_a := B_a.step hst
    replace B_b := B_b.step hst
    replace P_t := P_t.step hst
    replace q_t := q_t.step hst
    replace P_u := P_u.step hst
    replace q_u := q_u.step hst
    replace hWW := hWW.step hst
    replace hB := hB.step hst
    clear hst
    have HQ := Lib.hid (And.intro q_s (And.intro O_s (And.intro B_a (And.intro B_b (And.intro P_t (And.intro q_t (And.intro P_u (And.intro q_u (And.intro hWW (And.intro B_1 hB))))))))))
    clear q_s O_s B_a B_b P_t q_t P_u q_u hWW B_1 hB
    have c_q_s0 := LK.cell HQ.out.1 0
    have c_q_s1 := LK.cell HQ.out.1 1
    have c_q_s2 := LK.cell HQ.out.1 2
    have c_q_s3 := LK.cell HQ.out.1 3
    have c_q_t0 := LK.cell HQ.out.2.2.2.2.2.1 0
    have c_q_t1 := LK.cell HQ.out.2.2.2.2.2.1 1
    have c_q_t2 := LK.cell HQ.out.2.2.2.2.2.1 2
    have c_q_t3 := LK.cell HQ.out.2.2.2.2.2.1 3
    have c_q_u0 := LK.cell HQ.out.2.2.2.2.2.2.2.1 0
    have c_q_u1 := LK.cell HQ.out.2.2.2.2.2.2.2.1 1
    have c_q_u2 := LK.cell HQ.out.2.2.2.2.2.2.2.1 2
    have c_q_u3 := LK.cell HQ.out.2.2.2.2.2.2.2.1 3
    simp at c_q_s0 c_q_s1 c_q_s2 c_q_s3 c_q_t0 c_q_t1 c_q_t2 c_q_t3 c_q_u0 c_q_u1 c_q_u2 c_q_u3
    go_wp2_with fail
    refine (HK.out.2 _ _ _ HQ.out.2.2.2.2.2.2.1.d).mono ?_
    rintro e w9 ⟨v_2, rfl, hm⟩
    clear c_q_s0 c_q_s1 c_q_s2 c_q_s3 c_q_t0 c_q_t1 c_q_t2 c_q_t3 c_q_u0 c_q_u1 c_q_u2 c_q_u3
    obtain ⟨q_s, O_s, B_a, B_b, P_t, q_t, P_u, q_u, hWW, B_1, hB⟩ := HQ.out
    clear HQ
    have B_2 := LM.of hm
    have hst := hm.below
    obtain ⟨a_2, c_2, rfl, -, -⟩ := hm.bytes.form rfl
    clear hm
    have sz_w9 : w8.heap.size ≤ w9.heap.size := hst.size
    replace q_s := q_s.step hst
    replace O_s := O_s.step hst
    replace B_a := B_a.step hst
    replace B_b := B_b.step hst
    replace P_t := P_t.step hst
    replace q_t := q_t.step hst
    replace P_u := P_u.step hst
    replace q_u := q_u.step hst
    replace hWW := hWW.step hst
    replace B_1 := B_1.step hst
    replace hB := hB.step hst
    clear hst
    have HQ := Lib.hid (And.intro q_s (And.intro O_s (And.intro B_a (And.intro B_b (And.intro P_t (And.intro q_t (And.intro P_u (And.intro q_u (And.intro hWW (And.intro B_1 (And.intro B_2 hB)))))))))))
    clear q_s O_s B_a B_b P_t q_t P_u q_u hWW B_1 B_2 hB
    have c_q_s0 := LK.cell HQ.out.1 0
    have c_q_s1 := LK.cell HQ.out.1 1
    have c_q_s2 := LK.cell HQ.out.1 2
    have c_q_s3 := LK.cell HQ.out.1 3
    have c_q_t0 := LK.cell HQ.out.2.2.2.2.2.1 0
    have c_q_t1 := LK.cell HQ.out.2.2.2.2.2.1 1
    have c_q_t2 := LK.cell HQ.out.2.2.2.2.2.1 2
    have c_q_t3 := LK.cell HQ.out.2.2.2.2.2.1 3
    have c_q_u0 := LK.cell HQ.out.2.2.2.2.2.2.2.1 0
    have c_q_u1 := LK.cell HQ.out.2.2.2.2.2.2.2.1 1
    have c_q_u2 := LK.cell HQ.out.2.2.2.2.2.2.2.1 2
    have c_q_u3 := LK.cell HQ.out.2.2.2.2.2.2.2.1 3
    simp at c_q_s0 c_q_s1 c_q_s2 c_q_s3 c_q_t0 c_q_t1 c_q_t2 c_q_t3 c_q_u0 c_q_u1 c_q_u2 c_q_u3
    have t1 := cv_of HQ.out.2.2.2.2.2.2.2.2.2.1.v
    have t2 := cv_of HQ.out.2.2.2.2.2.2.2.2.2.2.1.v
    have t3 := cv_of HQ.out.2.2.1.v
    have t4 := cv_of HQ.out.2.2.2.1.v
    have i1 : ¬ (n : Int) = m := by omega
    by_cases h8 : p < 8
    case pos =>
      have i3 : ¬ (8 : Int) ≤ p := by omega
      go_wp2
      go_meet
      exact ⟨rfl, HQ.out.2.2.2.2.2.2.2.2.1⟩
    by_cases h9 : 256 ≤ p
    case pos =>
      have i3 : ¬ p < 8 := by omega
      have i4 : ¬ p < 256 := by omega
      go_wp2
      go_meet
      exact ⟨rfl, HQ.out.2.2.2.2.2.2.2.2.1⟩
    obtain ⟨pn, rfl⟩ : ∃ pn : Nat, p = pn := ⟨p.toNat, by omega⟩
    have i3 : ¬ (pn : Int) < 8 := by omega
    have i4 : ¬ (256 : Int) ≤ pn := by omega
    obtain ⟨hoth, hsl, hll⟩ := HO.out
    obtain ⟨nb, no, nc, e1x, -, zb, z1, zc, hcs⟩ := HQ.out.2.1.n.at_n hsl (by omega)
    injection e1x with e1x el e2x
    subst e1x e2x
    clear el
    obtain ⟨lb, lf, lc, e1x, -, zd, z2, ze, hcl⟩ := HQ.out.2.1.l.at_n hll (by omega)
    injection e1x with e1x el e2x
    subst e1x e2x
    clear el
    unfold maxLen at zc ze
    clear c_q_s0 c_q_s1 c_q_s2 c_q_s3 c_q_t0 c_q_t1 c_q_t2 c_q_t3 c_q_u0 c_q_u1 c_q_u2 c_q_u3
    have c_q_s0 := LK.cell HQ.out.1 0
    have c_q_s1 := LK.cell HQ.out.1 1
    have c_q_s2 := LK.cell HQ.out.1 2
    have c_q_s3 := LK.cell HQ.out.1 3
    have c_q_t0 := LK.cell HQ.out.2.2.2.2.2.1 0
    have c_q_t1 := LK.cell HQ.out.2.2.2.2.2.1 1
    have c_q_t2 := LK.cell HQ.out.2.2.2.2.2.1 2
    have c_q_t3 := LK.cell HQ.out.2.2.2.2.2.1 3
    have c_q_u0 := LK.cell HQ.out.2.2.2.2.2.2.2.1 0
    have c_q_u1 := LK.cell HQ.out.2.2.2.2.2.2.2.1 1
    have c_q_u2 := LK.cell HQ.out.2.2.2.2.2.2.2.1 2
    have c_q_u3 := LK.cell HQ.out.2.2.2.2.2.2.2.1 3
    simp at c_q_s0 c_q_s1 c_q_s2 c_q_s3 c_q_t0 c_q_t1 c_q_t2 c_q_t3 c_q_u0 c_q_u1 c_q_u2 c_q_u3
    rw [hsl] at c_q_s2
    rw [hll] at c_q_s3
    have f1 := hcs pn (s.now.getD pn 0) (get_l _ _ _ (by omega))
    have f2 := hcl pn (s.last.getD pn 0) (get_l _ _ _ (by omega))
    have hoth := hoth pn (by omega) (by omega)
    obtain ⟨y1v, hy1⟩ : ∃ y, s.now.getD pn 0 = y := ⟨_, rfl⟩
    obtain ⟨y2v, hy2⟩ : ∃ y, s.last.getD pn 0 = y := ⟨_, rfl⟩
    rw [hy1] at f1 hoth
    rw [hy2] at f2 hoth
    simp only [bV] at f1 f2
    have HO2 := Lib.hid hoth
    clear hcs hcl hsl hll hy1 hy2 hoth HO
    by_cases hy : y1v = 0 ∧ y2v = 0
    case pos =>
      obtain ⟨rfl, rfl⟩ := hy
      have e0 : ((0 : UInt8).toNat : Int) = 0 := rfl
      rw [e0] at f1 f2
      go_wp2
      go_meet
      exact ⟨rfl, HQ.out.2.2.2.2.2.2.2.2.1⟩
    obtain ⟨ra, rb, rc⟩ := HO2.out (by by_cases h : y1v = 0; exact .inr (fun e => hy ⟨h, e⟩); exact .inl h)
    have k_3 := fun V b1 u1 hh => dread_any b1 u1 s.disk pn V hh
    have k_4 := fun V b1 u1 hh => dread_any b1 u1 U.disk pn V hh
    rw [ra] at k_3
    rw [rb, rc] at k_4
    obtain ⟨r3, hr3⟩ : ∃ r, readB s.disk pn = r := ⟨_, rfl⟩
    rw [hr3] at k_3 k_4
    have HK2 := Lib.hid (And.intro k_3 k_4)
    clear k_3 k_4 ra rb rc hr3 HO2
    have hyy : ∀ y : UInt8, y ≠ 0 → (0 : Int) < (y.toNat : Int) := fun y h => by have : y.toNat ≠ 0 := fun e => h (u8_inj e); omega
    have hcond : ((0 : Int) < (y1v.toNat : Int)) ∨ (¬ (0 : Int) < (y1v.toNat : Int) ∧ (0 : Int) < (y2v.toNat : Int)) := by
      by_cases h : y1v = 0
      · exact .inr ⟨by rw [h]; decide, hyy _ (fun e => hy ⟨h, e⟩)⟩
      · exact .inl (hyy _ h)
    clear hyy hy
    generalize (y1v.toNat : Int) = yy1 at *
    generalize (y2v.toNat : Int) = yy2 at *
    rcases hcond with hc1 | ⟨hc1, hc2⟩
    · as_aux_lemma =>
      go_wp2_with fail
      clear t1 t2 t3 t4 f1 f2
      refine (HK2.out.1 _ _ _ HQ.out.2.1.d).mono ?_
      rintro e w10 ⟨v_3, rfl, hm⟩
      clear c_q_s0 c_q_s1 c_q_s2 c_q_s3 c_q_t0 c_q_t1 c_q_t2 c_q_t3 c_q_u0 c_q_u1 c_q_u2 c_q_u3
      obtain ⟨q_s, O_s, B_a, B_b, P_t, q_t, P_u, q_u, hWW, B_1, B_2, hB⟩ := HQ.out
      clear HQ
      have B_3 := LM.of hm
      have hst := hm.below
      obtain ⟨a_3, c_3, rfl, -, -⟩ := hm.bytes.form rfl
      clear hm
      have sz_w10 : w9.heap.size ≤ w10.heap.size := hst.size
      replace q_s := q_s.step hst
      replace O_s := O_s.step hst
      replace B_a := B_a.step hst
      replace B_b := B_b.step hst
      replace P_t := P_t.step hst
      replace q_t := q_t.step hst
      replace P_u := P_u.step hst
      replace q_u := q_u.step hst
      replace hWW := hWW.step hst
      replace B_1 := B_1.step hst
      replace B_2 := B_2.step hst
      replace hB := hB.step hst
      clear hst
      have HQ := Lib.hid (And.intro q_s (And.intro O_s (And.intro B_a (And.intro B_b (And.intro P_t (And.intro q_t (And.intro P_u (And.intro q_u (And.intro hWW (And.intro B_1 (And.intro B_2 (And.intro B_3 hB))))))))))))
      clear q_s O_s B_a B_b P_t q_t P_u q_u hWW B_1 B_2 B_3 hB
      have c_q_s0 := LK.cell HQ.out.1 0
      have c_q_s1 := LK.cell HQ.out.1 1
      have c_q_s2 := LK.cell HQ.out.1 2
      have c_q_s3 := LK.cell HQ.out.1 3
      have c_q_t0 := LK.cell HQ.out.2.2.2.2.2.1 0
      have c_q_t1 := LK.cell HQ.out.2.2.2.2.2.1 1
      have c_q_t2 := LK.cell HQ.out.2.2.2.2.2.1 2
      have c_q_t3 := LK.cell HQ.out.2.2.2.2.2.1 3
      have c_q_u0 := LK.cell HQ.out.2.2.2.2.2.2.2.1 0
      have c_q_u1 := LK.cell HQ.out.2.2.2.2.2.2.2.1 1
      have c_q_u2 := LK.cell HQ.out.2.2.2.2.2.2.2.1 2
      have c_q_u3 := LK.cell HQ.out.2.2.2.2.2.2.2.1 3
      simp at c_q_s0 c_q_s1 c_q_s2 c_q_s3 c_q_t0 c_q_t1 c_q_t2 c_q_t3 c_q_u0 c_q_u1 c_q_u2 c_q_u3
      go_wp2_with fail
      refine (HK2.out.2 _ _ _ HQ.out.2.2.2.2.2.2.1.d).mono ?_
      rintro e w11 ⟨v_4, rfl, hm⟩
      clear c_q_s0 c_q_s1 c_q_s2 c_q_s3 c_q_t0 c_q_t1 c_q_t2 c_q_t3 c_q_u0 c_q_u1 c_q_u2 c_q_u3
      obtain ⟨q_s, O_s, B_a, B_b, P_t, q_t, P_u, q_u, hWW, B_1, B_2, B_3, hB⟩ := HQ.out
      clear HQ
      have B_4 := LM.of hm
      have hst := hm.below
      obtain ⟨a_4, c_4, rfl, -, -⟩ := hm.bytes.form rfl
      clear hm
      have sz_w11 : w10.heap.size ≤ w11.heap.size := hst.size
      replace q_s := q_s.step hst
      replace O_s := O_s.step hst
      replace B_a := B_a.step hst
      replace B_b := B_b.step hst
      replace P_t := P_t.step hst
      replace q_t := q_t.step hst
      replace P_u := P_u.step hst
      replace q_u := q_u.step hst
      replace hWW := hWW.step hst
      replace B_1 := B_1.step hst
      replace B_2 := B_2.step hst
      replace B_3 := B_3.step hst
      replace hB := hB.step hst
      clear hst
      have HQ := Lib.hid (And.intro q_s (And.intro O_s (And.intro B_a (And.intro B_b (And.intro P_t (And.intro q_t (And.intro P_u (And.intro q_u (And.intro hWW (And.intro B_1 (And.intro B_2 (And.intro B_3 (And.intro B_4 hB)))))))))))))
      clear q_s O_s B_a B_b P_t q_t P_u q_u hWW B_1 B_2 B_3 B_4 hB
      have c_q_s0 := LK.cell HQ.out.1 0
      have c_q_s1 := LK.cell HQ.out.1 1
      have c_q_s2 := LK.cell HQ.out.1 2
      have c_q_s3 := LK.cell HQ.out.1 3
      have c_q_t0 := LK.cell HQ.out.2.2.2.2.2.1 0
      have c_q_t1 := LK.cell HQ.out.2.2.2.2.2.1 1
      have c_q_t2 := LK.cell HQ.out.2.2.2.2.2.1 2
      have c_q_t3 := LK.cell HQ.out.2.2.2.2.2.1 3
      have c_q_u0 := LK.cell HQ.out.2.2.2.2.2.2.2.1 0
      have c_q_u1 := LK.cell HQ.out.2.2.2.2.2.2.2.1 1
      have c_q_u2 := LK.cell HQ.out.2.2.2.2.2.2.2.1 2
      have c_q_u3 := LK.cell HQ.out.2.2.2.2.2.2.2.1 3
      simp at c_q_s0 c_q_s1 c_q_s2 c_q_s3 c_q_t0 c_q_t1 c_q_t2 c_q_t3 c_q_u0 c_q_u1 c_q_u2 c_q_u3
      have t5 := cv_of HQ.out.2.2.2.2.2.2.2.2.2.2.2.1.v
      have t6 := cv_of HQ.out.2.2.2.2.2.2.2.2.2.2.2.2.1.v
      go_wp2
      go_meet
      exact ⟨rfl, HQ.out.2.2.2.2.2.2.2.2.1⟩
    · as_aux_lemma =>
      go_wp2_with fail
      clear t1 t2 t3 t4 f1 f2
      refine (HK2.out.1 _ _ _ HQ.out.2.1.d).mono ?_
      rintro e w10 ⟨v_3, rfl, hm⟩
      clear c_q_s0 c_q_s1 c_q_s2 c_q_s3 c_q_t0 c_q_t1 c_q_t2 c_q_t3 c_q_u0 c_q_u1 c_q_u2 c_q_u3
      obtain ⟨q_s, O_s, B_a, B_b, P_t, q_t, P_u, q_u, hWW, B_1, B_2, hB⟩ := HQ.out
      clear HQ
      have B_3 := LM.of hm
      have hst := hm.below
      obtain ⟨a_3, c_3, rfl, -, -⟩ := hm.bytes.form rfl
      clear hm
      have sz_w10 : w9.heap.size ≤ w10.heap.size := hst.size
      replace q_s := q_s.step hst
      replace O_s := O_s.step hst
      replace B_a := B_a.step hst
      replace B_b := B_b.step hst
      replace P_t := P_t.step hst
      replace q_t := q_t.step hst
      replace P_u := P_u.step hst
      replace q_u := q_u.step hst
      replace hWW := hWW.step hst
      replace B_1 := B_1.step hst
      replace B_2 := B_2.step hst
      replace hB := hB.step hst
      clear hst
      have HQ := Lib.hid (And.intro q_s (And.intro O_s (And.intro B_a (And.intro B_b (And.intro P_t (And.intro q_t (And.intro P_u (And.intro q_u (And.intro hWW (And.intro B_1 (And.intro B_2 (And.intro B_3 hB))))))))))))
      clear q_s O_s B_a B_b P_t q_t P_u q_u hWW B_1 B_2 B_3 hB
      have c_q_s0 := LK.cell HQ.out.1 0
      have c_q_s1 := LK.cell HQ.out.1 1
      have c_q_s2 := LK.cell HQ.out.1 2
      have c_q_s3 := LK.cell HQ.out.1 3
      have c_q_t0 := LK.cell HQ.out.2.2.2.2.2.1 0
      have c_q_t1 := LK.cell HQ.out.2.2.2.2.2.1 1
      have c_q_t2 := LK.cell HQ.out.2.2.2.2.2.1 2
      have c_q_t3 := LK.cell HQ.out.2.2.2.2.2.1 3
      have c_q_u0 := LK.cell HQ.out.2.2.2.2.2.2.2.1 0
      have c_q_u1 := LK.cell HQ.out.2.2.2.2.2.2.2.1 1
      have c_q_u2 := LK.cell HQ.out.2.2.2.2.2.2.2.1 2
      have c_q_u3 := LK.cell HQ.out.2.2.2.2.2.2.2.1 3
      simp at c_q_s0 c_q_s1 c_q_s2 c_q_s3 c_q_t0 c_q_t1 c_q_t2 c_q_t3 c_q_u0 c_q_u1 c_q_u2 c_q_u3
      go_wp2_with fail
      refine (HK2.out.2 _ _ _ HQ.out.2.2.2.2.2.2.1.d).mono ?_
      rintro e w11 ⟨v_4, rfl, hm⟩
      clear c_q_s0 c_q_s1 c_q_s2 c_q_s3 c_q_t0 c_q_t1 c_q_t2 c_q_t3 c_q_u0 c_q_u1 c_q_u2 c_q_u3
      obtain ⟨q_s, O_s, B_a, B_b, P_t, q_t, P_u, q_u, hWW, B_1, B_2, B_3, hB⟩ := HQ.out
      clear HQ
      have B_4 := LM.of hm
      have hst := hm.below
      obtain ⟨a_4, c_4, rfl, -, -⟩ := hm.bytes.form rfl
      clear hm
      have sz_w11 : w10.heap.size ≤ w11.heap.size := hst.size
      replace q_s := q_s.step hst
      replace O_s := O_s.step hst
      replace B_a := B_a.step hst
      replace B_b := B_b.step hst
      replace P_t := P_t.step hst
      replace q_t := q_t.step hst
      replace P_u := P_u.step hst
      replace q_u := q_u.step hst
      replace hWW := hWW.step hst
      replace B_1 := B_1.step hst
      replace B_2 := B_2.step hst
      replace B_3 := B_3.step hst
      replace hB := hB.step hst
      clear hst
      have HQ := Lib.hid (And.intro q_s (And.intro O_s (And.intro B_a (And.intro B_b (And.intro P_t (And.intro q_t (And.intro P_u (And.intro q_u (And.intro hWW (And.intro B_1 (And.intro B_2 (And.intro B_3 (And.intro B_4 hB)))))))))))))
      clear q_s O_s B_a B_b P_t q_t P_u q_u hWW B_1 B_2 B_3 B_4 hB
      have c_q_s0 := LK.cell HQ.out.1 0
      have c_q_s1 := LK.cell HQ.out.1 1
      have c_q_s2 := LK.cell HQ.out.1 2
      have c_q_s3 := LK.cell HQ.out.1 3
      have c_q_t0 := LK.cell HQ.out.2.2.2.2.2.1 0
      have c_q_t1 := LK.cell HQ.out.2.2.2.2.2.1 1
      have c_q_t2 := LK.cell HQ.out.2.2.2.2.2.1 2
      have c_q_t3 := LK.cell HQ.out.2.2.2.2.2.1 3
      have c_q_u0 := LK.cell HQ.out.2.2.2.2.2.2.2.1 0
      have c_q_u1 := LK.cell HQ.out.2.2.2.2.2.2.2.1 1
      have c_q_u2 := LK.cell HQ.out.2.2.2.2.2.2.2.1 2
      have c_q_u3 := LK.cell HQ.out.2.2.2.2.2.2.2.1 3
      simp at c_q_s0 c_q_s1 c_q_s2 c_q_s3 c_q_t0 c_q_t1 c_q_t2 c_q_t3 c_q_u0 c_q_u1 c_q_u2 c_q_u3
      have t5 := cv_of HQ.out.2.2.2.2.2.2.2.2.2.2.2.1.v
      have t6 := cv_of HQ.out.2.2.2.2.2.2.2.2.2.2.2.2.1.v
      go_wp2
      go_meet
      exact ⟨rfl, HQ.out.2.2.2.2.2.2.2.2.1⟩
  case rest =>
  obtain ⟨rfl, hst⟩ := hcut
  obtain ⟨wc, hwc⟩ := named_w hst
  subst hwc
  clear c_q_s0 c_q_s1 c_q_s2 c_q_s3 c_q_t0 c_q_t1 c_q_t2 c_q_t3 c_q_u0 c_q_u1 c_q_u2 c_q_u3
  obtain ⟨q_s, O_s, B_a, B_b, P_t, q_t, P_u, q_u, hB⟩ := HQ.out
  clear HQ
  have sz_wc : w7.heap.size ≤ wc.heap.size := hst.size
  replace q_s := q_s.step hst
  replace O_s := O_s.step hst
  replace B_a := B_a.step hst
  replace B_b := B_b.step hst
  replace P_t := P_t.step hst
  replace q_t := q_t.step hst
  replace P_u := P_u.step hst
  replace q_u := q_u.step hst
  replace hB := hB.step hst
  clear hst
  have HQ := Lib.hid (And.intro q_s (And.intro O_s (And.intro B_a (And.intro B_b (And.intro P_t (And.intro q_t (And.intro P_u (And.intro q_u hB))))))))
  clear q_s O_s B_a B_b P_t q_t P_u q_u hB
  have c_q_s0 := LK.cell HQ.out.1 0
  have c_q_s1 := LK.cell HQ.out.1 1
  have c_q_s2 := LK.cell HQ.out.1 2
  have c_q_s3 := LK.cell HQ.out.1 3
  have c_q_t0 := LK.cell HQ.out.2.2.2.2.2.1 0
  have c_q_t1 := LK.cell HQ.out.2.2.2.2.2.1 1
  have c_q_t2 := LK.cell HQ.out.2.2.2.2.2.1 2
  have c_q_t3 := LK.cell HQ.out.2.2.2.2.2.1 3
  have c_q_u0 := LK.cell HQ.out.2.2.2.2.2.2.2.1 0
  have c_q_u1 := LK.cell HQ.out.2.2.2.2.2.2.2.1 1
  have c_q_u2 := LK.cell HQ.out.2.2.2.2.2.2.2.1 2
  have c_q_u3 := LK.cell HQ.out.2.2.2.2.2.2.2.1 3
  simp at c_q_s0 c_q_s1 c_q_s2 c_q_s3 c_q_t0 c_q_t1 c_q_t2 c_q_t3 c_q_u0 c_q_u1 c_q_u2 c_q_u3
  go_wp2_with fail
  refine (HC.out.2.2.2.2.1 _ _ _ _ _ HQ.out.2.1.v).mono ?_
  rintro e w8 ⟨b3, u3, x3, y3, rfl, hm⟩
  clear c_q_s0 c_q_s1 c_q_s2 c_q_s3 c_q_t0 c_q_t1 c_q_t2 c_q_t3 c_q_u0 c_q_u1 c_q_u2 c_q_u3
  obtain ⟨q_s, O_s, B_a, B_b, P_t, q_t, P_u, q_u, hB⟩ := HQ.out
  clear HQ
  have P_p := LP.of hm
  have hst := hm.below
  obtain ⟨ab_p, cb_p, rfl, -, -, -, -⟩ := hm.store.v.1.1
  obtain ⟨au_p, cu_p, rfl, -, -, -, -⟩ := hm.store.v.1.2
  obtain ⟨ax_p, cx_p, rfl, -, -⟩ := hm.store.v.2.1.form rfl
  obtain ⟨ay_p, cy_p, rfl, -, -⟩ := hm.store.v.2.2.form rfl
  clear hm
  have sz_w8 : wc.heap.size ≤ w8.heap.size := hst.size
  replace q_s := q_s.step hst
  replace O_s := O_s.step hst
  replace B_a := B_a.step hst
  replace B_b := B_b.step hst
  replace P_t := P_t.step hst
  replace q_t := q_t.step hst
  replace P_u := P_u.step hst
  replace q_u := q_u.step hst
  replace hB := hB.step hst
  clear hst
  have HQ := Lib.hid (And.intro q_s (And.intro O_s (And.intro B_a (And.intro B_b (And.intro P_t (And.intro q_t (And.intro P_u (And.intro q_u (And.intro P_p hB)))))))))
  clear q_s O_s B_a B_b P_t q_t P_u q_u P_p hB
  have c_q_s0 := LK.cell HQ.out.1 0
  have c_q_s1 := LK.cell HQ.out.1 1
  have c_q_s2 := LK.cell HQ.out.1 2
  have c_q_s3 := LK.cell HQ.out.1 3
  have c_q_t0 := LK.cell HQ.out.2.2.2.2.2.1 0
  have c_q_t1 := LK.cell HQ.out.2.2.2.2.2.1 1
  have c_q_t2 := LK.cell HQ.out.2.2.2.2.2.1 2
  have c_q_t3 := LK.cell HQ.out.2.2.2.2.2.1 3
  have c_q_u0 := LK.cell HQ.out.2.2.2.2.2.2.2.1 0
  have c_q_u1 := LK.cell HQ.out.2.2.2.2.2.2.2.1 1
  have c_q_u2 := LK.cell HQ.out.2.2.2.2.2.2.2.1 2
  have c_q_u3 := LK.cell HQ.out.2.2.2.2.2.2.2.1 3
  simp at c_q_s0 c_q_s1 c_q_s2 c_q_s3 c_q_t0 c_q_t1 c_q_t2 c_q_t3 c_q_u0 c_q_u1 c_q_u2 c_q_u3
  go_upto_region 17 with (fail)
  clear c_q_s0 c_q_s1 c_q_s2 c_q_s3 c_q_t0 c_q_t1 c_q_t2 c_q_t3 c_q_u0 c_q_u1 c_q_u2 c_q_u3
  obtain ⟨q_s, O_s, B_a, B_b, P_t, q_t, P_u, q_u, P_p, hB⟩ := HQ.out
  clear HQ
  have hst := (Below.refl w8.heap.size w8).alloc (Nat.le_refl _) (.cells #[.slice ab_p P1.disk.blocks.length cb_p, .slice au_p P1.disk.waits.length cu_p, .slice ax_p P1.now.length cx_p, .slice ay_p P1.last.length cy_p] 28)
  have hlt : w8.heap.size < (w8.alloc (.cells #[.slice ab_p P1.disk.blocks.length cb_p, .slice au_p P1.disk.waits.length cu_p, .slice ax_p P1.now.length cx_p, .slice ay_p P1.last.length cy_p] 28)).heap.size := by simp
  have q_p := LK.new w8 (.cells #[.slice ab_p P1.disk.blocks.length cb_p, .slice au_p P1.disk.waits.length cu_p, .slice ax_p P1.now.length cx_p, .slice ay_p P1.last.length cy_p] 28)
  replace q_s := q_s.step hst
  replace O_s := O_s.step hst
  replace B_a := B_a.step hst
  replace B_b := B_b.step hst
  replace P_t := P_t.step hst
  replace q_t := q_t.step hst
  replace P_u := P_u.step hst
  replace q_u := q_u.step hst
  replace P_p := P_p.step hst
  replace hB := hB.step hst
  obtain ⟨w9, hw⟩ : ∃ v, w8.alloc (.cells #[.slice ab_p P1.disk.blocks.length cb_p, .slice au_p P1.disk.waits.length cu_p, .slice ax_p P1.now.length cx_p, .slice ay_p P1.last.length cy_p] 28) = v := ⟨_, rfl⟩
  rw [hw] at hlt q_p q_s O_s B_a B_b P_t q_t P_u q_u P_p hB ⊢
  clear hw hst
  have sz_w9 := hlt
  clear hlt
  have HQ := Lib.hid (And.intro q_s (And.intro O_s (And.intro B_a (And.intro B_b (And.intro P_t (And.intro q_t (And.intro P_u (And.intro q_u (And.intro P_p (And.intro q_p hB))))))))))
  clear q_s O_s B_a B_b P_t q_t P_u q_u P_p q_p hB
  have c_q_s0 := LK.cell HQ.out.1 0
  have c_q_s1 := LK.cell HQ.out.1 1
  have c_q_s2 := LK.cell HQ.out.1 2
  have c_q_s3 := LK.cell HQ.out.1 3
  have c_q_t0 := LK.cell HQ.out.2.2.2.2.2.1 0
  have c_q_t1 := LK.cell HQ.out.2.2.2.2.2.1 1
  have c_q_t2 := LK.cell HQ.out.2.2.2.2.2.1 2
  have c_q_t3 := LK.cell HQ.out.2.2.2.2.2.1 3
  have c_q_u0 := LK.cell HQ.out.2.2.2.2.2.2.2.1 0
  have c_q_u1 := LK.cell HQ.out.2.2.2.2.2.2.2.1 1
  have c_q_u2 := LK.cell HQ.out.2.2.2.2.2.2.2.1 2
  have c_q_u3 := LK.cell HQ.out.2.2.2.2.2.2.2.1 3
  have c_q_p0 := LK.cell HQ.out.2.2.2.2.2.2.2.2.2.1 0
  have c_q_p1 := LK.cell HQ.out.2.2.2.2.2.2.2.2.2.1 1
  have c_q_p2 := LK.cell HQ.out.2.2.2.2.2.2.2.2.2.1 2
  have c_q_p3 := LK.cell HQ.out.2.2.2.2.2.2.2.2.2.1 3
  simp at c_q_s0 c_q_s1 c_q_s2 c_q_s3 c_q_t0 c_q_t1 c_q_t2 c_q_t3 c_q_u0 c_q_u1 c_q_u2 c_q_u3 c_q_p0 c_q_p1 c_q_p2 c_q_p3
  go_wp2_with fail
  refine (HC.out.2.2.2.2.2.1 _ _ _ _ _ HQ.out.2.2.2.2.2.2.2.2.1.v).mono ?_
  rintro e w10 ⟨b4, u4, x4, y4, rfl, hm⟩
  clear c_q_s0 c_q_s1 c_q_s2 c_q_s3 c_q_t0 c_q_t1 c_q_t2 c_q_t3 c_q_u0 c_q_u1 c_q_u2 c_q_u3 c_q_p0 c_q_p1 c_q_p2 c_q_p3
  obtain ⟨q_s, O_s, B_a, B_b, P_t, q_t, P_u, q_u, P_p, q_p, hB⟩ := HQ.out
  clear HQ
  have P_p2 := LP.of hm
  have hst := hm.below
  obtain ⟨ab_p2, cb_p2, rfl, -, -, -, -⟩ := hm.store.v.1.1
  obtain ⟨au_p2, cu_p2, rfl, -, -, -, -⟩ := hm.store.v.1.2
  obtain ⟨ax_p2, cx_p2, rfl, -, -⟩ := hm.store.v.2.1.form rfl
  obtain ⟨ay_p2, cy_p2, rfl, -, -⟩ := hm.store.v.2.2.form rfl
  clear hm
  have sz_w10 : w9.heap.size ≤ w10.heap.size := hst.size
  replace q_s := q_s.step hst
  replace O_s := O_s.step hst
  replace B_a := B_a.step hst
  replace B_b := B_b.step hst
  replace P_t := P_t.step hst
  replace q_t := q_t.step hst
  replace P_u := P_u.step hst
  replace q_u := q_u.step hst
  replace P_p := P_p.step hst
  replace q_p := q_p.step hst
  replace hB := hB.step hst
  clear hst
  have HQ := Lib.hid (And.intro q_s (And.intro O_s (And.intro B_a (And.intro B_b (And.intro P_t (And.intro q_t (And.intro P_u (And.intro q_u (And.intro P_p (And.intro q_p (And.intro P_p2 hB)))))))))))
  clear q_s O_s B_a B_b P_t q_t P_u q_u P_p q_p P_p2 hB
  have c_q_s0 := LK.cell HQ.out.1 0
  have c_q_s1 := LK.cell HQ.out.1 1
  have c_q_s2 := LK.cell HQ.out.1 2
  have c_q_s3 := LK.cell HQ.out.1 3
  have c_q_t0 := LK.cell HQ.out.2.2.2.2.2.1 0
  have c_q_t1 := LK.cell HQ.out.2.2.2.2.2.1 1
  have c_q_t2 := LK.cell HQ.out.2.2.2.2.2.1 2
  have c_q_t3 := LK.cell HQ.out.2.2.2.2.2.1 3
  have c_q_u0 := LK.cell HQ.out.2.2.2.2.2.2.2.1 0
  have c_q_u1 := LK.cell HQ.out.2.2.2.2.2.2.2.1 1
  have c_q_u2 := LK.cell HQ.out.2.2.2.2.2.2.2.1 2
  have c_q_u3 := LK.cell HQ.out.2.2.2.2.2.2.2.1 3
  have c_q_p0 := LK.cell HQ.out.2.2.2.2.2.2.2.2.2.1 0
  have c_q_p1 := LK.cell HQ.out.2.2.2.2.2.2.2.2.2.1 1
  have c_q_p2 := LK.cell HQ.out.2.2.2.2.2.2.2.2.2.1 2
  have c_q_p3 := LK.cell HQ.out.2.2.2.2.2.2.2.2.2.1 3
  have z_q_p0 := LK.frozen HQ.out.2.2.2.2.2.2.2.2.2.1 0
  have z_q_p1 := LK.frozen HQ.out.2.2.2.2.2.2.2.2.2.1 1
  have z_q_p2 := LK.frozen HQ.out.2.2.2.2.2.2.2.2.2.1 2
  have z_q_p3 := LK.frozen HQ.out.2.2.2.2.2.2.2.2.2.1 3
  simp at c_q_s0 c_q_s1 c_q_s2 c_q_s3 c_q_t0 c_q_t1 c_q_t2 c_q_t3 c_q_u0 c_q_u1 c_q_u2 c_q_u3 c_q_p0 c_q_p1 c_q_p2 c_q_p3
  go_upto_region 18 with (fail)
  clear z_q_p0 z_q_p1 z_q_p2 z_q_p3 c_q_s0 c_q_s1 c_q_s2 c_q_s3 c_q_t0 c_q_t1 c_q_t2 c_q_t3 c_q_u0 c_q_u1 c_q_u2 c_q_u3 c_q_p0 c_q_p1 c_q_p2 c_q_p3
  obtain ⟨q_s, O_s, B_a, B_b, P_t, q_t, P_u, q_u, P_p, q_p, P_p2, hB⟩ := HQ.out
  clear HQ
  have hcb := LK.blk q_p
  have hF : LK (w8.heap.size) (.cells #[.slice ab_p2 P2.disk.blocks.length cb_p2, .slice au_p2 P2.disk.waits.length cu_p2, .slice ax_p2 P2.now.length cx_p2, .slice ay_p2 P2.last.length cy_p2] 28) ((((w10.setCell ⟨w8.heap.size, 0, none⟩ (.slice ab_p2 P2.disk.blocks.length cb_p2)).setCell ⟨w8.heap.size, 1, none⟩ (.slice au_p2 P2.disk.waits.length cu_p2)).setCell ⟨w8.heap.size, 2, none⟩ (.slice ax_p2 P2.now.length cx_p2)).setCell ⟨w8.heap.size, 3, none⟩ (.slice ay_p2 P2.last.length cy_p2)) := LK.of (set_block (set_block (set_block (set_block hcb 0 _) 1 _) 2 _) 3 _)
  have hbel := below_four (n := w8.heap.size) w10 (.slice ab_p2 P2.disk.blocks.length cb_p2) (.slice au_p2 P2.disk.waits.length cu_p2) (.slice ax_p2 P2.now.length cx_p2) (.slice ay_p2 P2.last.length cy_p2) (Nat.le_refl _)
  have hfr : ∀ x, x < w10.heap.size → (x < w8.heap.size ∨ w8.heap.size + 1 ≤ x) → ((((w10.setCell ⟨w8.heap.size, 0, none⟩ (.slice ab_p2 P2.disk.blocks.length cb_p2)).setCell ⟨w8.heap.size, 1, none⟩ (.slice au_p2 P2.disk.waits.length cu_p2)).setCell ⟨w8.heap.size, 2, none⟩ (.slice ax_p2 P2.now.length cx_p2)).setCell ⟨w8.heap.size, 3, none⟩ (.slice ay_p2 P2.last.length cy_p2)).heap[x]? = w10.heap[x]? := fun x _ h => (set_other _ _ _ _ _ (by omega)).trans ((set_other _ _ _ _ _ (by omega)).trans ((set_other _ _ _ _ _ (by omega)).trans (set_other _ _ _ _ _ (by omega))))
  have hs4 : ((((w10.setCell ⟨w8.heap.size, 0, none⟩ (.slice ab_p2 P2.disk.blocks.length cb_p2)).setCell ⟨w8.heap.size, 1, none⟩ (.slice au_p2 P2.disk.waits.length cu_p2)).setCell ⟨w8.heap.size, 2, none⟩ (.slice ax_p2 P2.now.length cx_p2)).setCell ⟨w8.heap.size, 3, none⟩ (.slice ay_p2 P2.last.length cy_p2)).heap.size = w10.heap.size := by simp only [World.size_setCell]
  replace q_s := q_s.out (Nat.le_of_eq hs4.symm) hfr (by omega)
  replace O_s := O_s.out (Nat.le_of_eq hs4.symm) hfr (by omega)
  replace B_a := B_a.out (Nat.le_of_eq hs4.symm) hfr (by omega)
  replace B_b := B_b.out (Nat.le_of_eq hs4.symm) hfr (by omega)
  replace P_t := P_t.out (Nat.le_of_eq hs4.symm) hfr (by omega)
  replace q_t := q_t.out (Nat.le_of_eq hs4.symm) hfr (by omega)
  replace P_u := P_u.out (Nat.le_of_eq hs4.symm) hfr (by omega)
  replace q_u := q_u.out (Nat.le_of_eq hs4.symm) hfr (by omega)
  replace P_p := P_p.out (Nat.le_of_eq hs4.symm) hfr (by omega)
  replace P_p2 := P_p2.out (Nat.le_of_eq hs4.symm) hfr (by omega)
  replace hB := hB.outB hbel (by omega)
  replace q_p := hF
  obtain ⟨w11, hw⟩ : ∃ v, ((((w10.setCell ⟨w8.heap.size, 0, none⟩ (.slice ab_p2 P2.disk.blocks.length cb_p2)).setCell ⟨w8.heap.size, 1, none⟩ (.slice au_p2 P2.disk.waits.length cu_p2)).setCell ⟨w8.heap.size, 2, none⟩ (.slice ax_p2 P2.now.length cx_p2)).setCell ⟨w8.heap.size, 3, none⟩ (.slice ay_p2 P2.last.length cy_p2)) = v := ⟨_, rfl⟩
  rw [hw] at hs4 q_s O_s B_a B_b P_t q_t P_u q_u P_p q_p P_p2 hB ⊢
  have sz_w11 := hs4
  clear hw hF hbel hfr hcb hs4
  have HQ := Lib.hid (And.intro q_s (And.intro O_s (And.intro B_a (And.intro B_b (And.intro P_t (And.intro q_t (And.intro P_u (And.intro q_u (And.intro P_p (And.intro q_p (And.intro P_p2 hB)))))))))))
  clear q_s O_s B_a B_b P_t q_t P_u q_u P_p q_p P_p2 hB
  have c_q_s0 := LK.cell HQ.out.1 0
  have c_q_s1 := LK.cell HQ.out.1 1
  have c_q_s2 := LK.cell HQ.out.1 2
  have c_q_s3 := LK.cell HQ.out.1 3
  have c_q_t0 := LK.cell HQ.out.2.2.2.2.2.1 0
  have c_q_t1 := LK.cell HQ.out.2.2.2.2.2.1 1
  have c_q_t2 := LK.cell HQ.out.2.2.2.2.2.1 2
  have c_q_t3 := LK.cell HQ.out.2.2.2.2.2.1 3
  have c_q_u0 := LK.cell HQ.out.2.2.2.2.2.2.2.1 0
  have c_q_u1 := LK.cell HQ.out.2.2.2.2.2.2.2.1 1
  have c_q_u2 := LK.cell HQ.out.2.2.2.2.2.2.2.1 2
  have c_q_u3 := LK.cell HQ.out.2.2.2.2.2.2.2.1 3
  have c_q_p0 := LK.cell HQ.out.2.2.2.2.2.2.2.2.2.1 0
  have c_q_p1 := LK.cell HQ.out.2.2.2.2.2.2.2.2.2.1 1
  have c_q_p2 := LK.cell HQ.out.2.2.2.2.2.2.2.2.2.1 2
  have c_q_p3 := LK.cell HQ.out.2.2.2.2.2.2.2.2.2.1 3
  simp at c_q_s0 c_q_s1 c_q_s2 c_q_s3 c_q_t0 c_q_t1 c_q_t2 c_q_t3 c_q_u0 c_q_u1 c_q_u2 c_q_u3 c_q_p0 c_q_p1 c_q_p2 c_q_p3
  go_wp2_with fail
  refine (HC.out.2.2.2.2.2.2.1 _ _ _ _ _ HQ.out.2.1.v).mono ?_
  rintro e w12 ⟨b5, u5, x5, y5, rfl, hm⟩
  clear c_q_s0 c_q_s1 c_q_s2 c_q_s3 c_q_t0 c_q_t1 c_q_t2 c_q_t3 c_q_u0 c_q_u1 c_q_u2 c_q_u3 c_q_p0 c_q_p1 c_q_p2 c_q_p3
  obtain ⟨q_s, O_s, B_a, B_b, P_t, q_t, P_u, q_u, P_p, q_p, P_p2, hB⟩ := HQ.out
  clear HQ
  have P_q := LP.of hm
  have hst := hm.below
  obtain ⟨ab_q, cb_q, rfl, -, -, -, -⟩ := hm.store.v.1.1
  obtain ⟨au_q, cu_q, rfl, -, -, -, -⟩ := hm.store.v.1.2
  obtain ⟨ax_q, cx_q, rfl, -, -⟩ := hm.store.v.2.1.form rfl
  obtain ⟨ay_q, cy_q, rfl, -, -⟩ := hm.store.v.2.2.form rfl
  clear hm
  have sz_w12 : w11.heap.size ≤ w12.heap.size := hst.size
  replace q_s := q_s.step hst
  replace O_s := O_s.step hst
  replace B_a := B_a.step hst
  replace B_b := B_b.step hst
  replace P_t := P_t.step hst
  replace q_t := q_t.step hst
  replace P_u := P_u.step hst
  replace q_u := q_u.step hst
  replace P_p := P_p.step hst
  replace q_p := q_p.step hst
  replace P_p2 := P_p2.step hst
  replace hB := hB.step hst
  clear hst
  have HQ := Lib.hid (And.intro q_s (And.intro O_s (And.intro B_a (And.intro B_b (And.intro P_t (And.intro q_t (And.intro P_u (And.intro q_u (And.intro P_p (And.intro q_p (And.intro P_p2 (And.intro P_q hB))))))))))))
  clear q_s O_s B_a B_b P_t q_t P_u q_u P_p q_p P_p2 P_q hB
  have c_q_s0 := LK.cell HQ.out.1 0
  have c_q_s1 := LK.cell HQ.out.1 1
  have c_q_s2 := LK.cell HQ.out.1 2
  have c_q_s3 := LK.cell HQ.out.1 3
  have c_q_t0 := LK.cell HQ.out.2.2.2.2.2.1 0
  have c_q_t1 := LK.cell HQ.out.2.2.2.2.2.1 1
  have c_q_t2 := LK.cell HQ.out.2.2.2.2.2.1 2
  have c_q_t3 := LK.cell HQ.out.2.2.2.2.2.1 3
  have c_q_u0 := LK.cell HQ.out.2.2.2.2.2.2.2.1 0
  have c_q_u1 := LK.cell HQ.out.2.2.2.2.2.2.2.1 1
  have c_q_u2 := LK.cell HQ.out.2.2.2.2.2.2.2.1 2
  have c_q_u3 := LK.cell HQ.out.2.2.2.2.2.2.2.1 3
  have c_q_p0 := LK.cell HQ.out.2.2.2.2.2.2.2.2.2.1 0
  have c_q_p1 := LK.cell HQ.out.2.2.2.2.2.2.2.2.2.1 1
  have c_q_p2 := LK.cell HQ.out.2.2.2.2.2.2.2.2.2.1 2
  have c_q_p3 := LK.cell HQ.out.2.2.2.2.2.2.2.2.2.1 3
  simp at c_q_s0 c_q_s1 c_q_s2 c_q_s3 c_q_t0 c_q_t1 c_q_t2 c_q_t3 c_q_u0 c_q_u1 c_q_u2 c_q_u3 c_q_p0 c_q_p1 c_q_p2 c_q_p3
  go_upto_region 19 with (fail)
  clear c_q_s0 c_q_s1 c_q_s2 c_q_s3 c_q_t0 c_q_t1 c_q_t2 c_q_t3 c_q_u0 c_q_u1 c_q_u2 c_q_u3 c_q_p0 c_q_p1 c_q_p2 c_q_p3
  obtain ⟨q_s, O_s, B_a, B_b, P_t, q_t, P_u, q_u, P_p, q_p, P_p2, P_q, hB⟩ := HQ.out
  clear HQ
  have hst := (Below.refl w12.heap.size w12).alloc (Nat.le_refl _) (.cells #[.slice ab_q Q1.disk.blocks.length cb_q, .slice au_q Q1.disk.waits.length cu_q, .slice ax_q Q1.now.length cx_q, .slice ay_q Q1.last.length cy_q] 28)
  have hlt : w12.heap.size < (w12.alloc (.cells #[.slice ab_q Q1.disk.blocks.length cb_q, .slice au_q Q1.disk.waits.length cu_q, .slice ax_q Q1.now.length cx_q, .slice ay_q Q1.last.length cy_q] 28)).heap.size := by simp
  have q_q := LK.new w12 (.cells #[.slice ab_q Q1.disk.blocks.length cb_q, .slice au_q Q1.disk.waits.length cu_q, .slice ax_q Q1.now.length cx_q, .slice ay_q Q1.last.length cy_q] 28)
  replace q_s := q_s.step hst
  replace O_s := O_s.step hst
  replace B_a := B_a.step hst
  replace B_b := B_b.step hst
  replace P_t := P_t.step hst
  replace q_t := q_t.step hst
  replace P_u := P_u.step hst
  replace q_u := q_u.step hst
  replace P_p := P_p.step hst
  replace q_p := q_p.step hst
  replace P_p2 := P_p2.step hst
  replace P_q := P_q.step hst
  replace hB := hB.step hst
  obtain ⟨w13, hw⟩ : ∃ v, w12.alloc (.cells #[.slice ab_q Q1.disk.blocks.length cb_q, .slice au_q Q1.disk.waits.length cu_q, .slice ax_q Q1.now.length cx_q, .slice ay_q Q1.last.length cy_q] 28) = v := ⟨_, rfl⟩
  rw [hw] at hlt q_q q_s O_s B_a B_b P_t q_t P_u q_u P_p q_p P_p2 P_q hB ⊢
  clear hw hst
  have sz_w13 := hlt
  clear hlt
  have HQ := Lib.hid (And.intro q_s (And.intro O_s (And.intro B_a (And.intro B_b (And.intro P_t (And.intro q_t (And.intro P_u (And.intro q_u (And.intro P_p (And.intro q_p (And.intro P_p2 (And.intro P_q (And.intro q_q hB)))))))))))))
  clear q_s O_s B_a B_b P_t q_t P_u q_u P_p q_p P_p2 P_q q_q hB
  have c_q_s0 := LK.cell HQ.out.1 0
  have c_q_s1 := LK.cell HQ.out.1 1
  have c_q_s2 := LK.cell HQ.out.1 2
  have c_q_s3 := LK.cell HQ.out.1 3
  have c_q_t0 := LK.cell HQ.out.2.2.2.2.2.1 0
  have c_q_t1 := LK.cell HQ.out.2.2.2.2.2.1 1
  have c_q_t2 := LK.cell HQ.out.2.2.2.2.2.1 2
  have c_q_t3 := LK.cell HQ.out.2.2.2.2.2.1 3
  have c_q_u0 := LK.cell HQ.out.2.2.2.2.2.2.2.1 0
  have c_q_u1 := LK.cell HQ.out.2.2.2.2.2.2.2.1 1
  have c_q_u2 := LK.cell HQ.out.2.2.2.2.2.2.2.1 2
  have c_q_u3 := LK.cell HQ.out.2.2.2.2.2.2.2.1 3
  have c_q_p0 := LK.cell HQ.out.2.2.2.2.2.2.2.2.2.1 0
  have c_q_p1 := LK.cell HQ.out.2.2.2.2.2.2.2.2.2.1 1
  have c_q_p2 := LK.cell HQ.out.2.2.2.2.2.2.2.2.2.1 2
  have c_q_p3 := LK.cell HQ.out.2.2.2.2.2.2.2.2.2.1 3
  have c_q_q0 := LK.cell HQ.out.2.2.2.2.2.2.2.2.2.2.2.2.1 0
  have c_q_q1 := LK.cell HQ.out.2.2.2.2.2.2.2.2.2.2.2.2.1 1
  have c_q_q2 := LK.cell HQ.out.2.2.2.2.2.2.2.2.2.2.2.2.1 2
  have c_q_q3 := LK.cell HQ.out.2.2.2.2.2.2.2.2.2.2.2.2.1 3
  simp at c_q_s0 c_q_s1 c_q_s2 c_q_s3 c_q_t0 c_q_t1 c_q_t2 c_q_t3 c_q_u0 c_q_u1 c_q_u2 c_q_u3 c_q_p0 c_q_p1 c_q_p2 c_q_p3 c_q_q0 c_q_q1 c_q_q2 c_q_q3
  go_wp2_with fail
  refine (HC.out.2.2.2.2.2.2.2.1 _ _ _ _ _ HQ.out.2.2.2.2.2.2.2.2.2.2.2.1.v).mono ?_
  rintro e w14 ⟨b6, u6, x6, y6, rfl, hm⟩
  clear c_q_s0 c_q_s1 c_q_s2 c_q_s3 c_q_t0 c_q_t1 c_q_t2 c_q_t3 c_q_u0 c_q_u1 c_q_u2 c_q_u3 c_q_p0 c_q_p1 c_q_p2 c_q_p3 c_q_q0 c_q_q1 c_q_q2 c_q_q3
  obtain ⟨q_s, O_s, B_a, B_b, P_t, q_t, P_u, q_u, P_p, q_p, P_p2, P_q, q_q, hB⟩ := HQ.out
  clear HQ
  have P_q2 := LP.of hm
  have hst := hm.below
  obtain ⟨ab_q2, cb_q2, rfl, -, -, -, -⟩ := hm.store.v.1.1
  obtain ⟨au_q2, cu_q2, rfl, -, -, -, -⟩ := hm.store.v.1.2
  obtain ⟨ax_q2, cx_q2, rfl, -, -⟩ := hm.store.v.2.1.form rfl
  obtain ⟨ay_q2, cy_q2, rfl, -, -⟩ := hm.store.v.2.2.form rfl
  clear hm
  have sz_w14 : w13.heap.size ≤ w14.heap.size := hst.size
  replace q_s := q_s.step hst
  replace O_s := O_s.step hst
  replace B_a := B_a.step hst
  replace B_b := B_b.step hst
  replace P_t := P_t.step hst
  replace q_t := q_t.step hst
  replace P_u := P_u.step hst
  replace q_u := q_u.step hst
  replace P_p := P_p.step hst
  replace q_p := q_p.step hst
  replace P_p2 := P_p2.step hst
  replace P_q := P_q.step hst
  replace q_q := q_q.step hst
  replace hB := hB.step hst
  clear hst
  have HQ := Lib.hid (And.intro q_s (And.intro O_s (And.intro B_a (And.intro B_b (And.intro P_t (And.intro q_t (And.intro P_u (And.intro q_u (And.intro P_p (And.intro q_p (And.intro P_p2 (And.intro P_q (And.intro q_q (And.intro P_q2 hB))))))))))))))
  clear q_s O_s B_a B_b P_t q_t P_u q_u P_p q_p P_p2 P_q q_q P_q2 hB
  have c_q_s0 := LK.cell HQ.out.1 0
  have c_q_s1 := LK.cell HQ.out.1 1
  have c_q_s2 := LK.cell HQ.out.1 2
  have c_q_s3 := LK.cell HQ.out.1 3
  have c_q_t0 := LK.cell HQ.out.2.2.2.2.2.1 0
  have c_q_t1 := LK.cell HQ.out.2.2.2.2.2.1 1
  have c_q_t2 := LK.cell HQ.out.2.2.2.2.2.1 2
  have c_q_t3 := LK.cell HQ.out.2.2.2.2.2.1 3
  have c_q_u0 := LK.cell HQ.out.2.2.2.2.2.2.2.1 0
  have c_q_u1 := LK.cell HQ.out.2.2.2.2.2.2.2.1 1
  have c_q_u2 := LK.cell HQ.out.2.2.2.2.2.2.2.1 2
  have c_q_u3 := LK.cell HQ.out.2.2.2.2.2.2.2.1 3
  have c_q_p0 := LK.cell HQ.out.2.2.2.2.2.2.2.2.2.1 0
  have c_q_p1 := LK.cell HQ.out.2.2.2.2.2.2.2.2.2.1 1
  have c_q_p2 := LK.cell HQ.out.2.2.2.2.2.2.2.2.2.1 2
  have c_q_p3 := LK.cell HQ.out.2.2.2.2.2.2.2.2.2.1 3
  have c_q_q0 := LK.cell HQ.out.2.2.2.2.2.2.2.2.2.2.2.2.1 0
  have c_q_q1 := LK.cell HQ.out.2.2.2.2.2.2.2.2.2.2.2.2.1 1
  have c_q_q2 := LK.cell HQ.out.2.2.2.2.2.2.2.2.2.2.2.2.1 2
  have c_q_q3 := LK.cell HQ.out.2.2.2.2.2.2.2.2.2.2.2.2.1 3
  have z_q_q0 := LK.frozen HQ.out.2.2.2.2.2.2.2.2.2.2.2.2.1 0
  have z_q_q1 := LK.frozen HQ.out.2.2.2.2.2.2.2.2.2.2.2.2.1 1
  have z_q_q2 := LK.frozen HQ.out.2.2.2.2.2.2.2.2.2.2.2.2.1 2
  have z_q_q3 := LK.frozen HQ.out.2.2.2.2.2.2.2.2.2.2.2.2.1 3
  simp at c_q_s0 c_q_s1 c_q_s2 c_q_s3 c_q_t0 c_q_t1 c_q_t2 c_q_t3 c_q_u0 c_q_u1 c_q_u2 c_q_u3 c_q_p0 c_q_p1 c_q_p2 c_q_p3 c_q_q0 c_q_q1 c_q_q2 c_q_q3
  go_upto_region 20 with (fail)
  clear z_q_q0 z_q_q1 z_q_q2 z_q_q3 c_q_s0 c_q_s1 c_q_s2 c_q_s3 c_q_t0 c_q_t1 c_q_t2 c_q_t3 c_q_u0 c_q_u1 c_q_u2 c_q_u3 c_q_p0 c_q_p1 c_q_p2 c_q_p3 c_q_q0 c_q_q1 c_q_q2 c_q_q3
  obtain ⟨q_s, O_s, B_a, B_b, P_t, q_t, P_u, q_u, P_p, q_p, P_p2, P_q, q_q, P_q2, hB⟩ := HQ.out
  clear HQ
  have hcb := LK.blk q_q
  have hF : LK (w12.heap.size) (.cells #[.slice ab_q2 Q2.disk.blocks.length cb_q2, .slice au_q2 Q2.disk.waits.length cu_q2, .slice ax_q2 Q2.now.length cx_q2, .slice ay_q2 Q2.last.length cy_q2] 28) ((((w14.setCell ⟨w12.heap.size, 0, none⟩ (.slice ab_q2 Q2.disk.blocks.length cb_q2)).setCell ⟨w12.heap.size, 1, none⟩ (.slice au_q2 Q2.disk.waits.length cu_q2)).setCell ⟨w12.heap.size, 2, none⟩ (.slice ax_q2 Q2.now.length cx_q2)).setCell ⟨w12.heap.size, 3, none⟩ (.slice ay_q2 Q2.last.length cy_q2)) := LK.of (set_block (set_block (set_block (set_block hcb 0 _) 1 _) 2 _) 3 _)
  have hbel := below_four (n := w12.heap.size) w14 (.slice ab_q2 Q2.disk.blocks.length cb_q2) (.slice au_q2 Q2.disk.waits.length cu_q2) (.slice ax_q2 Q2.now.length cx_q2) (.slice ay_q2 Q2.last.length cy_q2) (Nat.le_refl _)
  have hfr : ∀ x, x < w14.heap.size → (x < w12.heap.size ∨ w12.heap.size + 1 ≤ x) → ((((w14.setCell ⟨w12.heap.size, 0, none⟩ (.slice ab_q2 Q2.disk.blocks.length cb_q2)).setCell ⟨w12.heap.size, 1, none⟩ (.slice au_q2 Q2.disk.waits.length cu_q2)).setCell ⟨w12.heap.size, 2, none⟩ (.slice ax_q2 Q2.now.length cx_q2)).setCell ⟨w12.heap.size, 3, none⟩ (.slice ay_q2 Q2.last.length cy_q2)).heap[x]? = w14.heap[x]? := fun x _ h => (set_other _ _ _ _ _ (by omega)).trans ((set_other _ _ _ _ _ (by omega)).trans ((set_other _ _ _ _ _ (by omega)).trans (set_other _ _ _ _ _ (by omega))))
  have hs4 : ((((w14.setCell ⟨w12.heap.size, 0, none⟩ (.slice ab_q2 Q2.disk.blocks.length cb_q2)).setCell ⟨w12.heap.size, 1, none⟩ (.slice au_q2 Q2.disk.waits.length cu_q2)).setCell ⟨w12.heap.size, 2, none⟩ (.slice ax_q2 Q2.now.length cx_q2)).setCell ⟨w12.heap.size, 3, none⟩ (.slice ay_q2 Q2.last.length cy_q2)).heap.size = w14.heap.size := by simp only [World.size_setCell]
  replace q_s := q_s.out (Nat.le_of_eq hs4.symm) hfr (by omega)
  replace O_s := O_s.out (Nat.le_of_eq hs4.symm) hfr (by omega)
  replace B_a := B_a.out (Nat.le_of_eq hs4.symm) hfr (by omega)
  replace B_b := B_b.out (Nat.le_of_eq hs4.symm) hfr (by omega)
  replace P_t := P_t.out (Nat.le_of_eq hs4.symm) hfr (by omega)
  replace q_t := q_t.out (Nat.le_of_eq hs4.symm) hfr (by omega)
  replace P_u := P_u.out (Nat.le_of_eq hs4.symm) hfr (by omega)
  replace q_u := q_u.out (Nat.le_of_eq hs4.symm) hfr (by omega)
  replace P_p := P_p.out (Nat.le_of_eq hs4.symm) hfr (by omega)
  replace q_p := q_p.out (Nat.le_of_eq hs4.symm) hfr (by omega)
  replace P_p2 := P_p2.out (Nat.le_of_eq hs4.symm) hfr (by omega)
  replace P_q := P_q.out (Nat.le_of_eq hs4.symm) hfr (by omega)
  replace P_q2 := P_q2.out (Nat.le_of_eq hs4.symm) hfr (by omega)
  replace hB := hB.outB hbel (by omega)
  replace q_q := hF
  obtain ⟨w15, hw⟩ : ∃ v, ((((w14.setCell ⟨w12.heap.size, 0, none⟩ (.slice ab_q2 Q2.disk.blocks.length cb_q2)).setCell ⟨w12.heap.size, 1, none⟩ (.slice au_q2 Q2.disk.waits.length cu_q2)).setCell ⟨w12.heap.size, 2, none⟩ (.slice ax_q2 Q2.now.length cx_q2)).setCell ⟨w12.heap.size, 3, none⟩ (.slice ay_q2 Q2.last.length cy_q2)) = v := ⟨_, rfl⟩
  rw [hw] at hs4 q_s O_s B_a B_b P_t q_t P_u q_u P_p q_p P_p2 P_q q_q P_q2 hB ⊢
  have sz_w15 := hs4
  clear hw hF hbel hfr hcb hs4
  have HQ := Lib.hid (And.intro q_s (And.intro O_s (And.intro B_a (And.intro B_b (And.intro P_t (And.intro q_t (And.intro P_u (And.intro q_u (And.intro P_p (And.intro q_p (And.intro P_p2 (And.intro P_q (And.intro q_q (And.intro P_q2 hB))))))))))))))
  clear q_s O_s B_a B_b P_t q_t P_u q_u P_p q_p P_p2 P_q q_q P_q2 hB
  have c_q_s0 := LK.cell HQ.out.1 0
  have c_q_s1 := LK.cell HQ.out.1 1
  have c_q_s2 := LK.cell HQ.out.1 2
  have c_q_s3 := LK.cell HQ.out.1 3
  have c_q_t0 := LK.cell HQ.out.2.2.2.2.2.1 0
  have c_q_t1 := LK.cell HQ.out.2.2.2.2.2.1 1
  have c_q_t2 := LK.cell HQ.out.2.2.2.2.2.1 2
  have c_q_t3 := LK.cell HQ.out.2.2.2.2.2.1 3
  have c_q_u0 := LK.cell HQ.out.2.2.2.2.2.2.2.1 0
  have c_q_u1 := LK.cell HQ.out.2.2.2.2.2.2.2.1 1
  have c_q_u2 := LK.cell HQ.out.2.2.2.2.2.2.2.1 2
  have c_q_u3 := LK.cell HQ.out.2.2.2.2.2.2.2.1 3
  have c_q_p0 := LK.cell HQ.out.2.2.2.2.2.2.2.2.2.1 0
  have c_q_p1 := LK.cell HQ.out.2.2.2.2.2.2.2.2.2.1 1
  have c_q_p2 := LK.cell HQ.out.2.2.2.2.2.2.2.2.2.1 2
  have c_q_p3 := LK.cell HQ.out.2.2.2.2.2.2.2.2.2.1 3
  have c_q_q0 := LK.cell HQ.out.2.2.2.2.2.2.2.2.2.2.2.2.1 0
  have c_q_q1 := LK.cell HQ.out.2.2.2.2.2.2.2.2.2.2.2.2.1 1
  have c_q_q2 := LK.cell HQ.out.2.2.2.2.2.2.2.2.2.2.2.2.1 2
  have c_q_q3 := LK.cell HQ.out.2.2.2.2.2.2.2.2.2.2.2.2.1 3
  simp at c_q_s0 c_q_s1 c_q_s2 c_q_s3 c_q_t0 c_q_t1 c_q_t2 c_q_t3 c_q_u0 c_q_u1 c_q_u2 c_q_u3 c_q_p0 c_q_p1 c_q_p2 c_q_p3 c_q_q0 c_q_q1 c_q_q2 c_q_q3
  by_cases h1 : e1 = 0
  case neg =>
    have i1 : (e1 != 0) = true := by simp [h1]
    go_wp2
    go_ret
    exact ⟨rfl, HQ.out.2.2.2.2.2.2.2.2.2.2.2.2.2.2⟩
  subst h1
  by_cases h3 : e3 = 0
  case neg =>
    have i1 : (e3 != 0) = true := by simp [h3]
    go_wp2
    go_ret
    exact ⟨rfl, HQ.out.2.2.2.2.2.2.2.2.2.2.2.2.2.2⟩
  subst h3
  obtain ⟨rfl, hpq⟩ := HN.out.2.2 rfl rfl
  by_cases h2 : e2 = 0
  case neg =>
    have i1 : (e2 != 0) = true := by simp [h2]
    have i2 : (e2 == e2) = true := by simp
    go_wp2
    go_ret
    exact ⟨rfl, HQ.out.2.2.2.2.2.2.2.2.2.2.2.2.2.2⟩
  subst h2
  replace hpq := hpq rfl
  have k_d := HC.out.2.2.2.2.2.2.2.2.1
  have hdd : decide (P2 = Q2) = true := by simp [hpq]
  rw [hdd] at k_d
  have KD := Lib.hid k_d
  clear k_d hdd hpq
  go_wp2_with fail
  refine (KD.out _ _ _ _ _ _ _ _ _ HQ.out.2.2.2.2.2.2.2.2.2.2.1.v HQ.out.2.2.2.2.2.2.2.2.2.2.2.2.2.1.v).mono ?_
  rintro e w16 ⟨rfl, hst⟩
  clear c_q_s0 c_q_s1 c_q_s2 c_q_s3 c_q_t0 c_q_t1 c_q_t2 c_q_t3 c_q_u0 c_q_u1 c_q_u2 c_q_u3 c_q_p0 c_q_p1 c_q_p2 c_q_p3 c_q_q0 c_q_q1 c_q_q2 c_q_q3
  obtain ⟨q_s, O_s, B_a, B_b, P_t, q_t, P_u, q_u, P_p, q_p, P_p2, P_q, q_q, P_q2, hB⟩ := HQ.out
  clear HQ
  have sz_w16 : w15.heap.size ≤ w16.heap.size := hst.size
  replace q_s := q_s.step hst
  replace O_s := O_s.step hst
  replace B_a := B_a.step hst
  replace B_b := B_b.step hst
  replace P_t := P_t.step hst
  replace q_t := q_t.step hst
  replace P_u := P_u.step hst
  replace q_u := q_u.step hst
  replace P_p := P_p.step hst
  replace q_p := q_p.step hst
  replace P_p2 := P_p2.step hst
  replace P_q := P_q.step hst
  replace q_q := q_q.step hst
  replace P_q2 := P_q2.step hst
  replace hB := hB.step hst
  clear hst
  have HQ := Lib.hid (And.intro q_s (And.intro O_s (And.intro B_a (And.intro B_b (And.intro P_t (And.intro q_t (And.intro P_u (And.intro q_u (And.intro P_p (And.intro q_p (And.intro P_p2 (And.intro P_q (And.intro q_q (And.intro P_q2 hB))))))))))))))
  clear q_s O_s B_a B_b P_t q_t P_u q_u P_p q_p P_p2 P_q q_q P_q2 hB
  have c_q_s0 := LK.cell HQ.out.1 0
  have c_q_s1 := LK.cell HQ.out.1 1
  have c_q_s2 := LK.cell HQ.out.1 2
  have c_q_s3 := LK.cell HQ.out.1 3
  have c_q_t0 := LK.cell HQ.out.2.2.2.2.2.1 0
  have c_q_t1 := LK.cell HQ.out.2.2.2.2.2.1 1
  have c_q_t2 := LK.cell HQ.out.2.2.2.2.2.1 2
  have c_q_t3 := LK.cell HQ.out.2.2.2.2.2.1 3
  have c_q_u0 := LK.cell HQ.out.2.2.2.2.2.2.2.1 0
  have c_q_u1 := LK.cell HQ.out.2.2.2.2.2.2.2.1 1
  have c_q_u2 := LK.cell HQ.out.2.2.2.2.2.2.2.1 2
  have c_q_u3 := LK.cell HQ.out.2.2.2.2.2.2.2.1 3
  have c_q_p0 := LK.cell HQ.out.2.2.2.2.2.2.2.2.2.1 0
  have c_q_p1 := LK.cell HQ.out.2.2.2.2.2.2.2.2.2.1 1
  have c_q_p2 := LK.cell HQ.out.2.2.2.2.2.2.2.2.2.1 2
  have c_q_p3 := LK.cell HQ.out.2.2.2.2.2.2.2.2.2.1 3
  have c_q_q0 := LK.cell HQ.out.2.2.2.2.2.2.2.2.2.2.2.2.1 0
  have c_q_q1 := LK.cell HQ.out.2.2.2.2.2.2.2.2.2.2.2.2.1 1
  have c_q_q2 := LK.cell HQ.out.2.2.2.2.2.2.2.2.2.2.2.2.1 2
  have c_q_q3 := LK.cell HQ.out.2.2.2.2.2.2.2.2.2.2.2.2.1 3
  simp at c_q_s0 c_q_s1 c_q_s2 c_q_s3 c_q_t0 c_q_t1 c_q_t2 c_q_t3 c_q_u0 c_q_u1 c_q_u2 c_q_u3 c_q_p0 c_q_p1 c_q_p2 c_q_p3 c_q_q0 c_q_q1 c_q_q2 c_q_q3
  go_wp2
  go_ret
  exact ⟨rfl, HQ.out.2.2.2.2.2.2.2.2.2.2.2.2.2.2⟩

end Go.Proofs.Ytbddbadmfhplmaa

