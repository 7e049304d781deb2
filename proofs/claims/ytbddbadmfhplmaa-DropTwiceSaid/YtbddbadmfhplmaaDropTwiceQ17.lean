/- DropTwice: the words and contracts, part 17. -/
import Derived.Test.YtbddbadmfhplmaaDropTwiceQ1
import Derived.Test.YtbddbadmfhplmaaDropTwiceQ2
import Derived.Test.YtbddbadmfhplmaaDropTwiceQ3
import Derived.Test.YtbddbadmfhplmaaDropTwiceQ4
import Derived.Test.YtbddbadmfhplmaaDropTwiceQ5
import Derived.Test.YtbddbadmfhplmaaDropTwiceQ6
import Derived.Test.YtbddbadmfhplmaaDropTwiceQ7
import Derived.Test.YtbddbadmfhplmaaDropTwiceQ8
import Derived.Test.YtbddbadmfhplmaaDropTwiceQ9
import Derived.Test.YtbddbadmfhplmaaDropTwiceQ10
import Derived.Test.YtbddbadmfhplmaaDropTwiceQ11
import Derived.Test.YtbddbadmfhplmaaDropTwiceQ12
import Derived.Test.YtbddbadmfhplmaaDropTwiceQ13
import Derived.Test.YtbddbadmfhplmaaDropTwiceQ14
import Derived.Test.YtbddbadmfhplmaaDropTwiceQ15
import Derived.Test.YtbddbadmfhplmaaDropTwiceQ16
import Derived.WalkKit
import Derived.WalkLawsBesides
import Derived.WalkSpells
import Derived.Lib.Hide
import Derived.Laws.Rows
import Derived.Laws.AppendOwnNone
import Derived.Maps.AppendAt
import Derived.ProofKit
import Derived.Deep.Slices
import Derived.WideShapes
import Derived.RangeFuncNested
import Derived.RangeFuncBound
import Derived.RangeFuncCalls
import Derived.RangeFuncLeaves
import Derived.RangeFuncBox
import Derived.Shelf.Abstract
import Derived.Shelf.RegionOpen
import Derived.OwnWalkIn
import Derived.TacticsInMore
import Derived.LoopNIn
import Derived.LoopIn
import Derived.Lib.AppendZerosOnto
import Derived.Lib.SliceRun
import Derived.Lib.Walk
import Derived.Deep.LoopGhost
import Derived.Laws.CopyOwn
import Derived.Laws.CopyRow
import Derived.OrdersHeld
import Derived.Deep.QuietTactic
import Derived.BigQuiet
import Derived.StillTailTactics
import Derived.OpenShut
import Derived.Deep.DeepCutAuto
import Derived.Laws.MakeOwn
import Derived.Deep.RegionHeld
import Derived.KernelRfl
import Derived.BigFrameIn
import Derived.OrdersIn
import Derived.Sort.CutIn
import Derived.ArgAppend
namespace Go.Proofs.Ytbddbadmfhplmaa
open Go.RowKit

set_option maxRecDepth 100000 in
set_option maxHeartbeats 2000000 in
theorem ddone_left (b_s u_s x_s y_s : Value) (s : StoreL) (bp p : Nat) (w : World) (h_s : StoreV w 0 w.heap.size b_s u_s x_s y_s s) (hm : mayS s = true) (h8 : 8 ≤ p) (hp : p < 256) (hb : w.heap[bp]? = some (.cells #[.int .i64 (p : Int)] 3 (0, 0))) :
    Calls Try.prog 85 #[.agg #[b_s, u_s, x_s, y_s], .func (.func 86) #[] #[.pointer (some ⟨bp, 0, none⟩)]] w fun e w' => ∃ b' u' x' y', e = .returned (.tuple #[.agg #[b', u', x', y'], .int .i64 (if lvS s p = none then 8 else 0)]) ∧ MadeS w w' b' u' x' y' (if lvS s p = none then noS else ⟨s.disk, (lvS s p).getD [], s.last⟩) := by
  obtain ⟨ab_s, cb_s, rfl, gb_s, gc_s, -, -⟩ := h_s.1.1
  obtain ⟨au_s, cu_s, rfl, gu_s, gv_s, -, -⟩ := h_s.1.2
  obtain ⟨ax_s, cx_s, rfl, gx_s, gz_s⟩ := h_s.2.1.form rfl
  obtain ⟨ay_s, cy_s, rfl, gy_s, gw_s⟩ := h_s.2.2.form rfl
  unfold maxLen at gc_s gv_s gz_s gw_s
  have hst := (((Below.refl w.heap.size w).alloc (Nat.le_refl _) (.cells #[.slice ab_s s.disk.blocks.length cb_s, .slice au_s s.disk.waits.length cu_s, .slice ax_s s.now.length cx_s, .slice ay_s s.last.length cy_s] 28)).alloc (by simp) (.cells #[.slice none 0 0, .slice none 0 0, .slice none 0 0, .slice none 0 0] 28))
  have hq := two_new w (.cells #[.slice ab_s s.disk.blocks.length cb_s, .slice au_s s.disk.waits.length cu_s, .slice ax_s s.now.length cx_s, .slice ay_s s.last.length cy_s] 28) (.cells #[.slice none 0 0, .slice none 0 0, .slice none 0 0, .slice none 0 0] 28)
  have q_s := LK.of hq.1
  have q_r := LK.of hq.2
  have hB : LW w _ := hst
  have O_s := (LO.of h_s (Nat.le_refl _)).step hst
  have sz_V : w.heap.size + 1 < ((w.alloc (.cells #[.slice ab_s s.disk.blocks.length cb_s, .slice au_s s.disk.waits.length cu_s, .slice ax_s s.now.length cx_s, .slice ay_s s.last.length cy_s] 28)).alloc (.cells #[.slice none 0 0, .slice none 0 0, .slice none 0 0, .slice none 0 0] 28)).heap.size := by simp
  have q_b := (LK.of hb).step hst
  obtain ⟨V, hV⟩ : ∃ V, ((w.alloc (.cells #[.slice ab_s s.disk.blocks.length cb_s, .slice au_s s.disk.waits.length cu_s, .slice ax_s s.now.length cx_s, .slice ay_s s.last.length cy_s] 28)).alloc (.cells #[.slice none 0 0, .slice none 0 0, .slice none 0 0, .slice none 0 0] 28)) = V := ⟨_, rfl⟩
  rw [hV] at q_b sz_V q_s q_r O_s hB
  clear hst h_s hq
  have h256 := mayT_len (mayS_iff.1 hm).2.1
  have hmd := (mayS_iff.1 hm).1
  have k_o := fun V b u x y hh => on_any b u x y s V hh h256
  have hlf : ∀ now2, lvS s p = some now2 → FewS ⟨s.disk, now2, s.last⟩ := fun now2 h => FewS.of_may (mayS_now hm ((lvS_less h8 h).may (mayS_iff.1 hm).2.1))
  have k_l := fun lo g nb no nc b u y V hh (hb : V.heap[bp]? = _) => left1_any lo g nb no nc bp b u y s p V hh hmd hp hb
  obtain ⟨R, hR⟩ : ∃ R, lvS s p = R := ⟨_, rfl⟩
  simp only [hR] at k_l hlf ⊢
  have hE : (R = none → (if R = none then (8 : Int) else 0) = 8 ∧ (if R = none then noS else ⟨s.disk, R.getD [], s.last⟩) = noS) ∧ ∀ now2, R = some now2 → (if R = none then (8 : Int) else 0) = 0 ∧ (if R = none then noS else ⟨s.disk, R.getD [], s.last⟩) = ⟨s.disk, now2, s.last⟩ := by
    constructor
    · rintro rfl; exact ⟨rfl, rfl⟩
    · rintro now2 rfl; exact ⟨rfl, rfl⟩
  obtain ⟨er, her⟩ : ∃ e, (if R = none then (8 : Int) else 0) = e := ⟨_, rfl⟩
  obtain ⟨ts, hts⟩ : ∃ e, (if R = none then noS else ⟨s.disk, R.getD [], s.last⟩) = e := ⟨_, rfl⟩
  simp only [her, hts] at hE ⊢
  have HE := Lib.hid hE
  clear hE her hts
  have hbpl := (Array.getElem?_eq_some_iff.1 hb).1
  have HLF := Lib.hid hlf
  clear hlf hm hmd h256 hb hR
  have HC := Lib.hid (And.intro k_o k_l)
  clear k_o k_l
  have HQ := Lib.hid (And.intro q_s (And.intro q_r (And.intro O_s (And.intro q_b hB))))
  clear q_s q_r O_s q_b hB
  have c_q_s0 := LK.cell HQ.out.1 0
  have c_q_s1 := LK.cell HQ.out.1 1
  have c_q_s2 := LK.cell HQ.out.1 2
  have c_q_s3 := LK.cell HQ.out.1 3
  have c_q_r0 := LK.cell HQ.out.2.1 0
  have c_q_r1 := LK.cell HQ.out.2.1 1
  have c_q_r2 := LK.cell HQ.out.2.1 2
  have c_q_r3 := LK.cell HQ.out.2.1 3
  simp at c_q_s0 c_q_s1 c_q_s2 c_q_s3 c_q_r0 c_q_r1 c_q_r2 c_q_r3
  go_enter Try.func85, Try.ntmps85
  go_upto_region 1 with (fail)
  clear hV
  go_wp2_with fail
  refine (HC.out.1 _ _ _ _ _ HQ.out.2.2.1.v).mono ?_
  rintro e w1 ⟨g, nb, no, nc, au, rfl, hben, hst⟩
  clear c_q_s0 c_q_s1 c_q_s2 c_q_s3 c_q_r0 c_q_r1 c_q_r2 c_q_r3
  obtain ⟨q_s, q_r, O_s, q_b, hB⟩ := HQ.out
  clear HQ
  have l7 := hben.lo_
  have sz_w1 : V.heap.size ≤ w1.heap.size := hst.size
  replace q_s := q_s.step hst
  replace q_r := q_r.step hst
  replace O_s := O_s.step hst
  replace q_b := q_b.step hst
  replace hB := hB.step hst
  clear hst
  have HQ := Lib.hid (And.intro q_s (And.intro q_r (And.intro O_s (And.intro q_b hB))))
  clear q_s q_r O_s q_b hB
  have c_q_s0 := LK.cell HQ.out.1 0
  have c_q_s1 := LK.cell HQ.out.1 1
  have c_q_s2 := LK.cell HQ.out.1 2
  have c_q_s3 := LK.cell HQ.out.1 3
  have c_q_r0 := LK.cell HQ.out.2.1 0
  have c_q_r1 := LK.cell HQ.out.2.1 1
  have c_q_r2 := LK.cell HQ.out.2.1 2
  have c_q_r3 := LK.cell HQ.out.2.1 3
  simp at c_q_s0 c_q_s1 c_q_s2 c_q_s3 c_q_r0 c_q_r1 c_q_r2 c_q_r3
  have HBN := Lib.hid hben
  clear hben
  go_wp2_with fail
  refine (HC.out.2 V.heap.size g nb no nc _ _ _ w1 HBN.out (LK.blk HQ.out.2.2.2.1)).mono ?_
  rintro e w2 ⟨hst, h2, h3⟩
  clear c_q_s0 c_q_s1 c_q_s2 c_q_s3 c_q_r0 c_q_r1 c_q_r2 c_q_r3
  obtain ⟨q_s, q_r, O_s, q_b, hB⟩ := HQ.out
  clear HQ
  have H23 := Lib.hid (And.intro h2 h3)
  clear h2 h3
  have sz_w2 : w1.heap.size ≤ w2.heap.size := hst.size
  replace q_s := q_s.out (n0 := V.heap.size) (h0 := w1.heap.size) hst.size (fun x hx hd => hst.block x (by omega)) (by omega)
  replace q_r := q_r.out (n0 := V.heap.size) (h0 := w1.heap.size) hst.size (fun x hx hd => hst.block x (by omega)) (by omega)
  replace O_s := O_s.out (n0 := V.heap.size) (h0 := w1.heap.size) hst.size (fun x hx hd => hst.block x (by omega)) (by omega)
  replace q_b := q_b.out (n0 := V.heap.size) (h0 := w1.heap.size) hst.size (fun x hx hd => hst.block x (by omega)) (by omega)
  replace hB := hB.outB hst (by omega)
  clear hst
  have HQ := Lib.hid (And.intro q_s (And.intro q_r (And.intro O_s (And.intro q_b hB))))
  clear q_s q_r O_s q_b hB
  have c_q_s0 := LK.cell HQ.out.1 0
  have c_q_s1 := LK.cell HQ.out.1 1
  have c_q_s2 := LK.cell HQ.out.1 2
  have c_q_s3 := LK.cell HQ.out.1 3
  have c_q_r0 := LK.cell HQ.out.2.1 0
  have c_q_r1 := LK.cell HQ.out.2.1 1
  have c_q_r2 := LK.cell HQ.out.2.1 2
  have c_q_r3 := LK.cell HQ.out.2.1 3
  simp at c_q_s0 c_q_s1 c_q_s2 c_q_s3 c_q_r0 c_q_r1 c_q_r2 c_q_r3
  cases R with
  | none =>
    obtain rfl := H23.out.1 rfl
    obtain ⟨rfl, rfl⟩ := HE.out.1 rfl
    clear c_q_s0 c_q_s1 c_q_s2 c_q_s3 c_q_r0 c_q_r1 c_q_r2 c_q_r3
    have c_q_s0 := LK.cell HQ.out.1 0
    have c_q_s1 := LK.cell HQ.out.1 1
    have c_q_s2 := LK.cell HQ.out.1 2
    have c_q_s3 := LK.cell HQ.out.1 3
    have z_q_s0 := LK.frozen HQ.out.1 0
    have z_q_s1 := LK.frozen HQ.out.1 1
    have z_q_s2 := LK.frozen HQ.out.1 2
    have z_q_s3 := LK.frozen HQ.out.1 3
    have c_q_r0 := LK.cell HQ.out.2.1 0
    have c_q_r1 := LK.cell HQ.out.2.1 1
    have c_q_r2 := LK.cell HQ.out.2.1 2
    have c_q_r3 := LK.cell HQ.out.2.1 3
    have z_q_r0 := LK.frozen HQ.out.2.1 0
    have z_q_r1 := LK.frozen HQ.out.2.1 1
    have z_q_r2 := LK.frozen HQ.out.2.1 2
    have z_q_r3 := LK.frozen HQ.out.2.1 3
    simp at c_q_s0 c_q_s1 c_q_s2 c_q_s3 c_q_r0 c_q_r1 c_q_r2 c_q_r3
    go_wp2
    refine bodyPost_ret (v := .tuple #[.agg #[.slice none 0 0, .slice none 0 0, .slice none 0 0, .slice none 0 0], .int .i64 8]) (by simp [results, Try.results85, go_sem, c_q_r0, c_q_r1, c_q_r2, c_q_r3]) rfl ⟨_, _, _, _, rfl, ?_⟩
    exact ((MadeL.nil_ (w.heap.size + 2) HQ.out.2.2.2.2).four (w.heap.size + 1) _ _ _ _ (by omega) (by omega)).made (by omega)
  | some now2 =>
    obtain ⟨rfl, hben⟩ := H23.out.2 now2 rfl
    have HBN2 := Lib.hid hben
    clear hben
    obtain ⟨rfl, rfl⟩ := HE.out.2 now2 rfl
    go_wp2_with fail
    refine (bstore_any V.heap.size g nb no nc _ _ _ ⟨s.disk, now2, s.last⟩ w2 HBN2.out (HLF.out now2 rfl)).mono ?_
    rintro e w3 ⟨b1, u1, x1, y1, rfl, hm⟩
    clear c_q_s0 c_q_s1 c_q_s2 c_q_s3 c_q_r0 c_q_r1 c_q_r2 c_q_r3
    obtain ⟨q_s, q_r, O_s, q_b, hB⟩ := HQ.out
    clear HQ
    have P_t := LP.of hm
    have hst := hm.below
    have hv := hm.v0
    clear hm
    have sz_w3 : w2.heap.size ≤ w3.heap.size := hst.size
    replace q_s := q_s.step hst
    replace q_r := q_r.step hst
    replace O_s := O_s.step hst
    replace q_b := q_b.step hst
    replace hB := hB.step hst
    clear hst
    have HQ := Lib.hid (And.intro q_s (And.intro q_r (And.intro O_s (And.intro q_b (And.intro P_t hB)))))
    clear q_s q_r O_s q_b P_t hB
    have c_q_s0 := LK.cell HQ.out.1 0
    have c_q_s1 := LK.cell HQ.out.1 1
    have c_q_s2 := LK.cell HQ.out.1 2
    have c_q_s3 := LK.cell HQ.out.1 3
    have z_q_s0 := LK.frozen HQ.out.1 0
    have z_q_s1 := LK.frozen HQ.out.1 1
    have z_q_s2 := LK.frozen HQ.out.1 2
    have z_q_s3 := LK.frozen HQ.out.1 3
    have c_q_r0 := LK.cell HQ.out.2.1 0
    have c_q_r1 := LK.cell HQ.out.2.1 1
    have c_q_r2 := LK.cell HQ.out.2.1 2
    have c_q_r3 := LK.cell HQ.out.2.1 3
    have z_q_r0 := LK.frozen HQ.out.2.1 0
    have z_q_r1 := LK.frozen HQ.out.2.1 1
    have z_q_r2 := LK.frozen HQ.out.2.1 2
    have z_q_r3 := LK.frozen HQ.out.2.1 3
    simp at c_q_s0 c_q_s1 c_q_s2 c_q_s3 c_q_r0 c_q_r1 c_q_r2 c_q_r3
    obtain ⟨a1, c1, rfl, -, -, -, -⟩ := hv.1.1
    obtain ⟨a2, c2, rfl, -, -, -, -⟩ := hv.1.2
    obtain ⟨a3, c3, rfl, -, -⟩ := hv.2.1.form rfl
    obtain ⟨a4, c4, rfl, -, -⟩ := hv.2.2.form rfl
    clear hv
    go_wp2
    refine bodyPost_ret (v := .tuple #[.agg #[.slice a1 s.disk.blocks.length c1, .slice a2 s.disk.waits.length c2, .slice a3 now2.length c3, .slice a4 s.last.length c4], .int .i64 0]) (by simp [results, Try.results85, go_sem, c_q_r0, c_q_r1, c_q_r2, c_q_r3]) rfl ⟨_, _, _, _, rfl, ?_⟩
    exact (((MadeL.mk ((HQ.out.2.2.2.2.1.t).more (by omega) (Lv.hi_le HQ.out.2.2.2.2.1)) HQ.out.2.2.2.2.2 : MadeL w _ (w.heap.size + 2) _ _ _ _ _)).four (w.heap.size + 1) _ _ _ _ (by omega) (by omega)).made (by omega)

set_option maxRecDepth 100000 in
set_option maxHeartbeats 2000000 in
theorem dleave_any (b_s u_s x_s y_s : Value) (s : StoreL) (p : Int) (w : World) (h_s : StoreV w 0 w.heap.size b_s u_s x_s y_s s) :
    Calls Try.prog 41 #[.agg #[b_s, u_s, x_s, y_s], .int .i64 p] w fun e w' => ∃ b' u' x' y', e = .returned (.tuple #[.agg #[b', u', x', y'], .int .i64 (errLv s p)]) ∧ MadeS w w' b' u' x' y' (leftS s p) := by
  obtain ⟨ab_s, cb_s, rfl, gb_s, gc_s, -, -⟩ := h_s.1.1
  obtain ⟨au_s, cu_s, rfl, gu_s, gv_s, -, -⟩ := h_s.1.2
  obtain ⟨ax_s, cx_s, rfl, gx_s, gz_s⟩ := h_s.2.1.form rfl
  obtain ⟨ay_s, cy_s, rfl, gy_s, gw_s⟩ := h_s.2.2.form rfl
  unfold maxLen at gc_s gv_s gz_s gw_s
  have hst := ((((Below.refl w.heap.size w).alloc (Nat.le_refl _) (.cells #[.slice ab_s s.disk.blocks.length cb_s, .slice au_s s.disk.waits.length cu_s, .slice ax_s s.now.length cx_s, .slice ay_s s.last.length cy_s] 28)).alloc (by simp) (.cells #[.int .i64 p] 3)).alloc (by simp; omega) (.cells #[.slice none 0 0, .slice none 0 0, .slice none 0 0, .slice none 0 0] 28))
  have hq := three_new w (.cells #[.slice ab_s s.disk.blocks.length cb_s, .slice au_s s.disk.waits.length cu_s, .slice ax_s s.now.length cx_s, .slice ay_s s.last.length cy_s] 28) (.cells #[.int .i64 p] 3) (.cells #[.slice none 0 0, .slice none 0 0, .slice none 0 0, .slice none 0 0] 28)
  have q_s := LK.of hq.1
  have q_p := LK.of hq.2.1
  have q_r := LK.of hq.2.2
  have hB : LW w _ := hst
  have O_s := (LO.of h_s (Nat.le_refl _)).step hst
  have sz_V : w.heap.size + 2 < (((w.alloc (.cells #[.slice ab_s s.disk.blocks.length cb_s, .slice au_s s.disk.waits.length cu_s, .slice ax_s s.now.length cx_s, .slice ay_s s.last.length cy_s] 28)).alloc (.cells #[.int .i64 p] 3)).alloc (.cells #[.slice none 0 0, .slice none 0 0, .slice none 0 0, .slice none 0 0] 28)).heap.size := by simp
  obtain ⟨V, hV⟩ : ∃ V, (((w.alloc (.cells #[.slice ab_s s.disk.blocks.length cb_s, .slice au_s s.disk.waits.length cu_s, .slice ax_s s.now.length cx_s, .slice ay_s s.last.length cy_s] 28)).alloc (.cells #[.int .i64 p] 3)).alloc (.cells #[.slice none 0 0, .slice none 0 0, .slice none 0 0, .slice none 0 0] 28)) = V := ⟨_, rfl⟩
  rw [hV] at sz_V q_s q_p q_r O_s hB
  clear hst h_s hq
  have HQ := Lib.hid (And.intro q_s (And.intro q_p (And.intro q_r (And.intro O_s hB))))
  clear q_s q_p q_r O_s hB
  have c_q_s0 := LK.cell HQ.out.1 0
  have c_q_s1 := LK.cell HQ.out.1 1
  have c_q_s2 := LK.cell HQ.out.1 2
  have c_q_s3 := LK.cell HQ.out.1 3
  have c_q_p0 := LK.cell HQ.out.2.1 0
  have c_q_r0 := LK.cell HQ.out.2.2.1 0
  have c_q_r1 := LK.cell HQ.out.2.2.1 1
  have c_q_r2 := LK.cell HQ.out.2.2.1 2
  have c_q_r3 := LK.cell HQ.out.2.2.1 3
  simp at c_q_s0 c_q_s1 c_q_s2 c_q_s3 c_q_p0 c_q_r0 c_q_r1 c_q_r2 c_q_r3
  have k_a := fun V b u x y hh => drasked_any b u x y s p V hh
  have hE : (errAs s p ≠ 0 ∧ errLv s p = errAs s p ∧ leftS s p = noS) ∨ (errAs s p = 0 ∧ mayS s = true ∧ ∃ pn : Nat, p = pn ∧ 8 ≤ pn ∧ pn < 256 ∧ errLv s p = (if lvS s pn = none then 8 else 0) ∧ leftS s p = (if lvS s pn = none then noS else ⟨s.disk, (lvS s pn).getD [], s.last⟩)) := by
    by_cases h : errAs s p = 0
    · obtain ⟨m, h8, h9, -⟩ := errAs_zero h
      obtain ⟨pn, rfl⟩ : ∃ pn : Nat, p = pn := ⟨p.toNat, by omega⟩
      have e1 : errLv s (pn : Int) = (if lvS s pn = none then 8 else 0) := by unfold errLv; rw [h, if_neg (by decide), Int.toNat_natCast]
      refine .inr ⟨h, m, pn, rfl, by omega, by omega, e1, ?_⟩
      unfold leftS
      rw [e1, Int.toNat_natCast]
      cases lvS s pn <;> simp
    · have e : errLv s p = errAs s p := by unfold errLv; rw [if_pos h]
      exact .inl ⟨h, e, by unfold leftS; rw [e, if_neg h]⟩
  have k_d := fun (hm : mayS s = true) (pn : Nat) bp V b u x y hh h8 hp hb => ddone_left b u x y s bp pn V hh hm h8 hp hb
  obtain ⟨el, hel⟩ : ∃ e, errLv s p = e := ⟨_, rfl⟩
  obtain ⟨ts, hts⟩ : ∃ e, leftS s p = e := ⟨_, rfl⟩
  obtain ⟨ea, hea⟩ : ∃ e, errAs s p = e := ⟨_, rfl⟩
  simp only [hel, hts, hea] at hE k_a ⊢
  clear hel hts hea
  have HC := Lib.hid (And.intro k_a k_d)
  clear k_a k_d
  go_enter Try.func41, Try.ntmps41
  go_upto_region 1 with (fail)
  clear hV
  go_wp2_with fail
  refine (HC.out.1 _ _ _ _ _ HQ.out.2.2.2.1.v).mono ?_
  rintro e w1 ⟨rfl, hst⟩
  clear c_q_s0 c_q_s1 c_q_s2 c_q_s3 c_q_p0 c_q_r0 c_q_r1 c_q_r2 c_q_r3
  obtain ⟨q_s, q_p, q_r, O_s, hB⟩ := HQ.out
  clear HQ
  have sz_w1 : V.heap.size ≤ w1.heap.size := hst.size
  replace q_s := q_s.step hst
  replace q_p := q_p.step hst
  replace q_r := q_r.step hst
  replace O_s := O_s.step hst
  replace hB := hB.step hst
  clear hst
  have HQ := Lib.hid (And.intro q_s (And.intro q_p (And.intro q_r (And.intro O_s hB))))
  clear q_s q_p q_r O_s hB
  have c_q_s0 := LK.cell HQ.out.1 0
  have c_q_s1 := LK.cell HQ.out.1 1
  have c_q_s2 := LK.cell HQ.out.1 2
  have c_q_s3 := LK.cell HQ.out.1 3
  have c_q_p0 := LK.cell HQ.out.2.1 0
  have c_q_r0 := LK.cell HQ.out.2.2.1 0
  have c_q_r1 := LK.cell HQ.out.2.2.1 1
  have c_q_r2 := LK.cell HQ.out.2.2.1 2
  have c_q_r3 := LK.cell HQ.out.2.2.1 3
  have z_q_r0 := LK.frozen HQ.out.2.2.1 0
  have z_q_r1 := LK.frozen HQ.out.2.2.1 1
  have z_q_r2 := LK.frozen HQ.out.2.2.1 2
  have z_q_r3 := LK.frozen HQ.out.2.2.1 3
  simp at c_q_s0 c_q_s1 c_q_s2 c_q_s3 c_q_p0 c_q_r0 c_q_r1 c_q_r2 c_q_r3
  rcases hE with ⟨hn, rfl, rfl⟩ | ⟨rfl, hm, pn, rfl, h8, h9, he, ht⟩
  · have i1 : (el == 0) = false := by simp [hn]
    have i2 : (el != 0) = true := by simp [hn]
    go_wp2
    refine bodyPost_ret (v := .tuple #[.agg #[.slice none 0 0, .slice none 0 0, .slice none 0 0, .slice none 0 0], .int .i64 el]) (by simp [results, Try.results41, go_sem, c_q_r0, c_q_r1, c_q_r2, c_q_r3]) rfl ⟨_, _, _, _, rfl, ?_⟩
    exact ((MadeL.nil_ (w.heap.size + 3) HQ.out.2.2.2.2).four (w.heap.size + 1 + 1) _ _ _ _ (by omega) (by omega)).made (by omega)
  have HT := Lib.hid (And.intro hm ht)
  clear hm ht
  have HE := Lib.hid he
  clear he
  go_wp2_with fail
  refine (HC.out.2 HT.out.1 pn (w.heap.size + 1) _ _ _ _ _ HQ.out.2.2.2.1.v h8 h9 (LK.blk HQ.out.2.1)).mono ?_
  rintro e w2 ⟨b1, u1, x1, y1, rfl, hm⟩
  clear z_q_r0 z_q_r1 z_q_r2 z_q_r3 c_q_s0 c_q_s1 c_q_s2 c_q_s3 c_q_p0 c_q_r0 c_q_r1 c_q_r2 c_q_r3
  obtain ⟨q_s, q_p, q_r, O_s, hB⟩ := HQ.out
  clear HQ
  rw [← HT.out.2] at hm
  rw [← HE.out]
  have P_t := LP.of hm
  have hst := hm.below
  have hv := hm.v0
  clear hm
  obtain ⟨a1, c1, rfl, -, -, -, -⟩ := hv.1.1
  obtain ⟨a2, c2, rfl, -, -, -, -⟩ := hv.1.2
  obtain ⟨a3, c3, rfl, -, -⟩ := hv.2.1.form rfl
  obtain ⟨a4, c4, rfl, -, -⟩ := hv.2.2.form rfl
  clear hv
  have sz_w2 : w1.heap.size ≤ w2.heap.size := hst.size
  replace q_s := q_s.step hst
  replace q_p := q_p.step hst
  replace q_r := q_r.step hst
  replace O_s := O_s.step hst
  replace hB := hB.step hst
  clear hst
  have HQ := Lib.hid (And.intro q_s (And.intro q_p (And.intro q_r (And.intro O_s (And.intro P_t hB)))))
  clear q_s q_p q_r O_s P_t hB
  have c_q_s0 := LK.cell HQ.out.1 0
  have c_q_s1 := LK.cell HQ.out.1 1
  have c_q_s2 := LK.cell HQ.out.1 2
  have c_q_s3 := LK.cell HQ.out.1 3
  have c_q_p0 := LK.cell HQ.out.2.1 0
  have c_q_r0 := LK.cell HQ.out.2.2.1 0
  have c_q_r1 := LK.cell HQ.out.2.2.1 1
  have c_q_r2 := LK.cell HQ.out.2.2.1 2
  have c_q_r3 := LK.cell HQ.out.2.2.1 3
  have z_q_r0 := LK.frozen HQ.out.2.2.1 0
  have z_q_r1 := LK.frozen HQ.out.2.2.1 1
  have z_q_r2 := LK.frozen HQ.out.2.2.1 2
  have z_q_r3 := LK.frozen HQ.out.2.2.1 3
  simp at c_q_s0 c_q_s1 c_q_s2 c_q_s3 c_q_p0 c_q_r0 c_q_r1 c_q_r2 c_q_r3
  go_wp2
  refine bodyPost_ret (v := .tuple #[.agg #[.slice a1 ts.disk.blocks.length c1, .slice a2 ts.disk.waits.length c2, .slice a3 ts.now.length c3, .slice a4 ts.last.length c4], .int .i64 el]) (by simp [results, Try.results41, go_sem, c_q_r0, c_q_r1, c_q_r2, c_q_r3]) rfl ⟨_, _, _, _, rfl, ?_⟩
  exact (((MadeL.mk ((HQ.out.2.2.2.2.1.t).more (by omega) (Lv.hi_le HQ.out.2.2.2.2.1)) HQ.out.2.2.2.2.2 : MadeL w _ (w.heap.size + 3) _ _ _ _ ts)).four (w.heap.size + 1 + 1) _ _ _ _ (by omega) (by omega)).made (by omega)

set_option maxRecDepth 100000 in
set_option maxHeartbeats 2000000 in
theorem dmake_any (b_s u_s x_s y_s : Value) (s : StoreL) (n : NodeL) (u_n : Value) (w : World) (h_s : StoreV w 0 w.heap.size b_s u_s x_s y_s s) (h_n : (Lit.int .i64 n.level).wf = true ∧ Sl rItem w 0 w.heap.size u_n n.items) :
    Calls Try.prog 39 #[.agg #[b_s, u_s, x_s, y_s], .agg #[.int .i64 n.level, u_n]] w fun e w' => ∃ b' u' x' y', e = .returned (.tuple #[.agg #[b', u', x', y'], .int .i64 (atD s n), .int .i64 (errDm s n)]) ∧ MadeS w w' b' u' x' y' (madS s n) := by
  obtain ⟨ab_s, cb_s, rfl, gb_s, gc_s, -, -⟩ := h_s.1.1
  obtain ⟨au_s, cu_s, rfl, gu_s, gv_s, -, -⟩ := h_s.1.2
  obtain ⟨ax_s, cx_s, rfl, gx_s, gz_s⟩ := h_s.2.1.form rfl
  obtain ⟨ay_s, cy_s, rfl, gy_s, gw_s⟩ := h_s.2.2.form rfl
  unfold maxLen at gc_s gv_s gz_s gw_s
  obtain ⟨hw_n, h_n⟩ := h_n
  obtain ⟨a_n, c_n, rfl, g_n, gm_n, -, -⟩ := id h_n
  unfold maxLen at gm_n
  have hst := ((((Below.refl w.heap.size w).alloc (Nat.le_refl _) (.cells #[.slice ab_s s.disk.blocks.length cb_s, .slice au_s s.disk.waits.length cu_s, .slice ax_s s.now.length cx_s, .slice ay_s s.last.length cy_s] 28)).alloc (by simp) (.cells #[.int .i64 n.level, .slice a_n n.items.length c_n] 50)).alloc (by simp; omega) (.cells #[.slice none 0 0, .slice none 0 0, .slice none 0 0, .slice none 0 0] 28))
  have hq := three_new w (.cells #[.slice ab_s s.disk.blocks.length cb_s, .slice au_s s.disk.waits.length cu_s, .slice ax_s s.now.length cx_s, .slice ay_s s.last.length cy_s] 28) (.cells #[.int .i64 n.level, .slice a_n n.items.length c_n] 50) (.cells #[.slice none 0 0, .slice none 0 0, .slice none 0 0, .slice none 0 0] 28)
  have q_s := LK.of hq.1
  have q_n := LK.of hq.2.1
  have q_r := LK.of hq.2.2
  have hB : LW w _ := hst
  have O_s := (LO.of h_s (Nat.le_refl _)).step hst
  have S_n := (LS.of h_n (Nat.le_refl _)).step hst
  have sz_V : w.heap.size + 2 < (((w.alloc (.cells #[.slice ab_s s.disk.blocks.length cb_s, .slice au_s s.disk.waits.length cu_s, .slice ax_s s.now.length cx_s, .slice ay_s s.last.length cy_s] 28)).alloc (.cells #[.int .i64 n.level, .slice a_n n.items.length c_n] 50)).alloc (.cells #[.slice none 0 0, .slice none 0 0, .slice none 0 0, .slice none 0 0] 28)).heap.size := by simp
  obtain ⟨V, hV⟩ : ∃ V, (((w.alloc (.cells #[.slice ab_s s.disk.blocks.length cb_s, .slice au_s s.disk.waits.length cu_s, .slice ax_s s.now.length cx_s, .slice ay_s s.last.length cy_s] 28)).alloc (.cells #[.int .i64 n.level, .slice a_n n.items.length c_n] 50)).alloc (.cells #[.slice none 0 0, .slice none 0 0, .slice none 0 0, .slice none 0 0] 28)) = V := ⟨_, rfl⟩
  rw [hV] at sz_V q_s q_n q_r O_s S_n hB
  clear hst h_s h_n hq
  have HQ := Lib.hid (And.intro q_s (And.intro q_n (And.intro q_r (And.intro O_s (And.intro S_n hB)))))
  clear q_s q_n q_r O_s S_n hB
  have c_q_s0 := LK.cell HQ.out.1 0
  have c_q_s1 := LK.cell HQ.out.1 1
  have c_q_s2 := LK.cell HQ.out.1 2
  have c_q_s3 := LK.cell HQ.out.1 3
  have c_q_n0 := LK.cell HQ.out.2.1 0
  have c_q_n1 := LK.cell HQ.out.2.1 1
  have c_q_r0 := LK.cell HQ.out.2.2.1 0
  have c_q_r1 := LK.cell HQ.out.2.2.1 1
  have c_q_r2 := LK.cell HQ.out.2.2.1 2
  have c_q_r3 := LK.cell HQ.out.2.2.1 3
  simp at c_q_s0 c_q_s1 c_q_s2 c_q_s3 c_q_n0 c_q_n1 c_q_r0 c_q_r1 c_q_r2 c_q_r3
  have k_c := fun V b u x y hh => scheck_any b u x y s V hh
  have k_n := fun V v hh => ncheck_any n v V hh
  have k_o := fun (h : s.now.length = 256) V b u x y hh => on_any b u x y s V hh h
  have k_m := fun lo g nb no nc b y au v V hb hm hi => bmake_any lo g nb no nc b y au s n v V hb hm hi
  have hE : (mayS s = false ∧ errS s = 8 ∧ errDm s n = 8 ∧ atD s n = 0 ∧ madS s n = noS) ∨ (mayS s = true ∧ errS s = 0 ∧ ((mayE (mayN n) = 8 ∧ errDm s n = 8 ∧ atD s n = 0 ∧ madS s n = noS) ∨ (mayE (mayN n) = 0 ∧ ((errMk s n ≠ 0 ∧ errDm s n = errMk s n ∧ atD s n = 0 ∧ madS s n = noS) ∨ (errMk s n = 0 ∧ errDm s n = 0 ∧ atD s n = atMk s n ∧ madS s n = mkS s n ∧ FewS (mkS s n)))))) := by
    have hz : ∀ e : Int, e ≠ 0 → errDm s n = e → atD s n = 0 ∧ madS s n = noS := fun e h1 h2 => by unfold atD madS; rw [h2, if_neg h1, if_neg h1]; exact ⟨rfl, rfl⟩
    cases hm : mayS s with
    | false =>
      have h : errDm s n = 8 := by unfold errDm; rw [hm]; rfl
      exact .inl ⟨rfl, by unfold errS; rw [hm]; rfl, h, hz 8 (by decide) h⟩
    | true =>
      have hd : errDm s n = errMk s n := by unfold errDm; rw [hm]; rfl
      refine .inr ⟨rfl, by unfold errS; rw [hm]; rfl, ?_⟩
      cases hn : mayN n with
      | false =>
        have h : errDm s n = 8 := by rw [hd]; unfold errMk; rw [hn]; rfl
        exact .inl ⟨rfl, h, hz 8 (by decide) h⟩
      | true =>
        refine .inr ⟨rfl, ?_⟩
        by_cases h : errMk s n = 0
        · have h2 := hd.trans h
          obtain ⟨-, -, -, -, e1, e2, -⟩ := errDm_zero h2
          refine .inr ⟨h, h2, by unfold atD; rw [if_pos h2], e1, ?_⟩
          rw [← e1]
          exact FewS.of_may e2
        · exact .inl ⟨h, hd, hz _ (by rw [hd]; exact h) rfl⟩
  have h256 : mayS s = true → s.now.length = 256 := fun h => mayT_len (mayS_iff.1 h).2.1
  have HL := Lib.hid h256
  clear h256
  obtain ⟨es, hes⟩ : ∃ e, errS s = e := ⟨_, rfl⟩
  obtain ⟨en, hen⟩ : ∃ e, mayE (mayN n) = e := ⟨_, rfl⟩
  obtain ⟨ed, hed⟩ : ∃ e, errDm s n = e := ⟨_, rfl⟩
  obtain ⟨ad, had⟩ : ∃ e, atD s n = e := ⟨_, rfl⟩
  obtain ⟨ms, hms⟩ : ∃ e, madS s n = e := ⟨_, rfl⟩
  obtain ⟨em, hem⟩ : ∃ e, errMk s n = e := ⟨_, rfl⟩
  obtain ⟨am, ham⟩ : ∃ e, atMk s n = e := ⟨_, rfl⟩
  obtain ⟨mk, hmk⟩ : ∃ e, mkS s n = e := ⟨_, rfl⟩
  simp only [hes, hen, hed, had, hms, hem, ham, hmk] at hE k_c k_n k_m ⊢
  clear hes hen hed had hms hem ham hmk
  have HC := Lib.hid (And.intro k_c (And.intro k_n (And.intro k_o k_m)))
  clear k_c k_n k_o k_m
  go_enter Try.func39, Try.ntmps39
  go_upto_region 1 with (fail)
  clear hV
  go_wp2_with fail
  refine (HC.out.1 _ _ _ _ _ HQ.out.2.2.2.1.v).mono ?_
  rintro e w1 ⟨rfl, hst⟩
  clear c_q_s0 c_q_s1 c_q_s2 c_q_s3 c_q_n0 c_q_n1 c_q_r0 c_q_r1 c_q_r2 c_q_r3
  obtain ⟨q_s, q_n, q_r, O_s, S_n, hB⟩ := HQ.out
  clear HQ
  have sz_w1 : V.heap.size ≤ w1.heap.size := hst.size
  replace q_s := q_s.step hst
  replace q_n := q_n.step hst
  replace q_r := q_r.step hst
  replace O_s := O_s.step hst
  replace S_n := S_n.step hst
  replace hB := hB.step hst
  clear hst
  have HQ := Lib.hid (And.intro q_s (And.intro q_n (And.intro q_r (And.intro O_s (And.intro S_n hB)))))
  clear q_s q_n q_r O_s S_n hB
  have c_q_s0 := LK.cell HQ.out.1 0
  have c_q_s1 := LK.cell HQ.out.1 1
  have c_q_s2 := LK.cell HQ.out.1 2
  have c_q_s3 := LK.cell HQ.out.1 3
  have c_q_n0 := LK.cell HQ.out.2.1 0
  have c_q_n1 := LK.cell HQ.out.2.1 1
  have c_q_r0 := LK.cell HQ.out.2.2.1 0
  have c_q_r1 := LK.cell HQ.out.2.2.1 1
  have c_q_r2 := LK.cell HQ.out.2.2.1 2
  have c_q_r3 := LK.cell HQ.out.2.2.1 3
  have z_q_r0 := LK.frozen HQ.out.2.2.1 0
  have z_q_r1 := LK.frozen HQ.out.2.2.1 1
  have z_q_r2 := LK.frozen HQ.out.2.2.1 2
  have z_q_r3 := LK.frozen HQ.out.2.2.1 3
  simp at c_q_s0 c_q_s1 c_q_s2 c_q_s3 c_q_n0 c_q_n1 c_q_r0 c_q_r1 c_q_r2 c_q_r3
  rcases hE with ⟨hm, rfl, rfl, rfl, rfl⟩ | ⟨hm, rfl, hE⟩
  · skip
    go_wp2
    refine bodyPost_ret (v := .tuple #[.agg #[.slice none 0 0, .slice none 0 0, .slice none 0 0, .slice none 0 0], .int .i64 0, .int .i64 8]) (by simp [results, Try.results39, go_sem, c_q_r0, c_q_r1, c_q_r2, c_q_r3]) rfl ⟨_, _, _, _, rfl, ?_⟩
    exact ((MadeL.nil_ (w.heap.size + 3) HQ.out.2.2.2.2.2).four (w.heap.size + 1 + 1) _ _ _ _ (by omega) (by omega)).made (by omega)
  have HM := Lib.hid hm
  clear hm
  go_wp2_with fail
  refine (HC.out.2.1 _ _ HQ.out.2.2.2.2.1.v).mono ?_
  rintro e w2 ⟨rfl, hst⟩
  clear z_q_r0 z_q_r1 z_q_r2 z_q_r3 c_q_s0 c_q_s1 c_q_s2 c_q_s3 c_q_n0 c_q_n1 c_q_r0 c_q_r1 c_q_r2 c_q_r3
  obtain ⟨q_s, q_n, q_r, O_s, S_n, hB⟩ := HQ.out
  clear HQ
  have sz_w2 : w1.heap.size ≤ w2.heap.size := hst.size
  replace q_s := q_s.step hst
  replace q_n := q_n.step hst
  replace q_r := q_r.step hst
  replace O_s := O_s.step hst
  replace S_n := S_n.step hst
  replace hB := hB.step hst
  clear hst
  have HQ := Lib.hid (And.intro q_s (And.intro q_n (And.intro q_r (And.intro O_s (And.intro S_n hB)))))
  clear q_s q_n q_r O_s S_n hB
  have c_q_s0 := LK.cell HQ.out.1 0
  have c_q_s1 := LK.cell HQ.out.1 1
  have c_q_s2 := LK.cell HQ.out.1 2
  have c_q_s3 := LK.cell HQ.out.1 3
  have c_q_n0 := LK.cell HQ.out.2.1 0
  have c_q_n1 := LK.cell HQ.out.2.1 1
  have c_q_r0 := LK.cell HQ.out.2.2.1 0
  have c_q_r1 := LK.cell HQ.out.2.2.1 1
  have c_q_r2 := LK.cell HQ.out.2.2.1 2
  have c_q_r3 := LK.cell HQ.out.2.2.1 3
  have z_q_r0 := LK.frozen HQ.out.2.2.1 0
  have z_q_r1 := LK.frozen HQ.out.2.2.1 1
  have z_q_r2 := LK.frozen HQ.out.2.2.1 2
  have z_q_r3 := LK.frozen HQ.out.2.2.1 3
  simp at c_q_s0 c_q_s1 c_q_s2 c_q_s3 c_q_n0 c_q_n1 c_q_r0 c_q_r1 c_q_r2 c_q_r3
  rcases hE with ⟨rfl, rfl, rfl, rfl⟩ | ⟨rfl, hE⟩
  · skip
    go_wp2
    refine bodyPost_ret (v := .tuple #[.agg #[.slice none 0 0, .slice none 0 0, .slice none 0 0, .slice none 0 0], .int .i64 0, .int .i64 8]) (by simp [results, Try.results39, go_sem, c_q_r0, c_q_r1, c_q_r2, c_q_r3]) rfl ⟨_, _, _, _, rfl, ?_⟩
    exact ((MadeL.nil_ (w.heap.size + 3) HQ.out.2.2.2.2.2).four (w.heap.size + 1 + 1) _ _ _ _ (by omega) (by omega)).made (by omega)
  go_wp2_with fail
  refine (HC.out.2.2.1 (HL.out HM.out) _ _ _ _ _ HQ.out.2.2.2.1.v).mono ?_
  rintro e w3 ⟨g, nb, no, nc, au, rfl, hben, hst⟩
  clear z_q_r0 z_q_r1 z_q_r2 z_q_r3 c_q_s0 c_q_s1 c_q_s2 c_q_s3 c_q_n0 c_q_n1 c_q_r0 c_q_r1 c_q_r2 c_q_r3
  obtain ⟨q_s, q_n, q_r, O_s, S_n, hB⟩ := HQ.out
  clear HQ
  have l7 := hben.lo_
  have HBN := Lib.hid hben
  clear hben
  have sz_w3 : w2.heap.size ≤ w3.heap.size := hst.size
  replace q_s := q_s.step hst
  replace q_n := q_n.step hst
  replace q_r := q_r.step hst
  replace O_s := O_s.step hst
  replace S_n := S_n.step hst
  replace hB := hB.step hst
  clear hst
  have HQ := Lib.hid (And.intro q_s (And.intro q_n (And.intro q_r (And.intro O_s (And.intro S_n hB)))))
  clear q_s q_n q_r O_s S_n hB
  have c_q_s0 := LK.cell HQ.out.1 0
  have c_q_s1 := LK.cell HQ.out.1 1
  have c_q_s2 := LK.cell HQ.out.1 2
  have c_q_s3 := LK.cell HQ.out.1 3
  have c_q_n0 := LK.cell HQ.out.2.1 0
  have c_q_n1 := LK.cell HQ.out.2.1 1
  have c_q_r0 := LK.cell HQ.out.2.2.1 0
  have c_q_r1 := LK.cell HQ.out.2.2.1 1
  have c_q_r2 := LK.cell HQ.out.2.2.1 2
  have c_q_r3 := LK.cell HQ.out.2.2.1 3
  simp at c_q_s0 c_q_s1 c_q_s2 c_q_s3 c_q_n0 c_q_n1 c_q_r0 c_q_r1 c_q_r2 c_q_r3
  have HSN := Lib.hid ((Lv.get HQ.out.2.2.2.2.1).more (Nat.le_refl _) (by omega : w.heap.size ≤ w2.heap.size) : Sl rItem _ 0 w2.heap.size _ _)
  go_wp2_with fail
  refine (HC.out.2.2.2 w2.heap.size g nb no nc _ _ au _ w3 HBN.out HM.out HSN.out).mono ?_
  rintro e w4 ⟨rfl, hst, hmk⟩
  clear c_q_s0 c_q_s1 c_q_s2 c_q_s3 c_q_n0 c_q_n1 c_q_r0 c_q_r1 c_q_r2 c_q_r3
  obtain ⟨q_s, q_n, q_r, O_s, S_n, hB⟩ := HQ.out
  clear HQ
  have HMK := Lib.hid hmk
  clear hmk
  clear S_n
  have sz_w4 : w3.heap.size ≤ w4.heap.size := hst.size
  replace q_s := q_s.out (n0 := w2.heap.size) (h0 := w3.heap.size) hst.size (fun x hx hd => hst.block x (by omega)) (by omega)
  replace q_n := q_n.out (n0 := w2.heap.size) (h0 := w3.heap.size) hst.size (fun x hx hd => hst.block x (by omega)) (by omega)
  replace q_r := q_r.out (n0 := w2.heap.size) (h0 := w3.heap.size) hst.size (fun x hx hd => hst.block x (by omega)) (by omega)
  replace O_s := O_s.out (n0 := w2.heap.size) (h0 := w3.heap.size) hst.size (fun x hx hd => hst.block x (by omega)) (by omega)
  replace hB := hB.outB hst (by omega)
  clear hst
  have HQ := Lib.hid (And.intro q_s (And.intro q_n (And.intro q_r (And.intro O_s hB))))
  clear q_s q_n q_r O_s hB
  have c_q_s0 := LK.cell HQ.out.1 0
  have c_q_s1 := LK.cell HQ.out.1 1
  have c_q_s2 := LK.cell HQ.out.1 2
  have c_q_s3 := LK.cell HQ.out.1 3
  have c_q_n0 := LK.cell HQ.out.2.1 0
  have c_q_n1 := LK.cell HQ.out.2.1 1
  have c_q_r0 := LK.cell HQ.out.2.2.1 0
  have c_q_r1 := LK.cell HQ.out.2.2.1 1
  have c_q_r2 := LK.cell HQ.out.2.2.1 2
  have c_q_r3 := LK.cell HQ.out.2.2.1 3
  simp at c_q_s0 c_q_s1 c_q_s2 c_q_s3 c_q_n0 c_q_n1 c_q_r0 c_q_r1 c_q_r2 c_q_r3
  rcases hE with ⟨hn, rfl, rfl, rfl⟩ | ⟨rfl, rfl, rfl, rfl, hf⟩
  · have i1 : (ed == 0) = false := by simp [hn]
    have i2 : (ed != 0) = true := by simp [hn]
    clear c_q_s0 c_q_s1 c_q_s2 c_q_s3 c_q_n0 c_q_n1 c_q_r0 c_q_r1 c_q_r2 c_q_r3
    have c_q_s0 := LK.cell HQ.out.1 0
    have c_q_s1 := LK.cell HQ.out.1 1
    have c_q_s2 := LK.cell HQ.out.1 2
    have c_q_s3 := LK.cell HQ.out.1 3
    have c_q_n0 := LK.cell HQ.out.2.1 0
    have c_q_n1 := LK.cell HQ.out.2.1 1
    have c_q_r0 := LK.cell HQ.out.2.2.1 0
    have c_q_r1 := LK.cell HQ.out.2.2.1 1
    have c_q_r2 := LK.cell HQ.out.2.2.1 2
    have c_q_r3 := LK.cell HQ.out.2.2.1 3
    have z_q_r0 := LK.frozen HQ.out.2.2.1 0
    have z_q_r1 := LK.frozen HQ.out.2.2.1 1
    have z_q_r2 := LK.frozen HQ.out.2.2.1 2
    have z_q_r3 := LK.frozen HQ.out.2.2.1 3
    simp at c_q_s0 c_q_s1 c_q_s2 c_q_s3 c_q_n0 c_q_n1 c_q_r0 c_q_r1 c_q_r2 c_q_r3
    go_wp2
    refine bodyPost_ret (v := .tuple #[.agg #[.slice none 0 0, .slice none 0 0, .slice none 0 0, .slice none 0 0], .int .i64 0, .int .i64 ed]) (by simp [results, Try.results39, go_sem, c_q_r0, c_q_r1, c_q_r2, c_q_r3]) rfl ⟨_, _, _, _, rfl, ?_⟩
    exact ((MadeL.nil_ (w.heap.size + 3) HQ.out.2.2.2.2).four (w.heap.size + 1 + 1) _ _ _ _ (by omega) (by omega)).made (by omega)
  obtain ⟨u2, hb2⟩ := HMK.out rfl
  have HB2 := Lib.hid hb2
  have HF := Lib.hid hf
  clear hb2 hf
  go_wp2_with fail
  refine (bstore_any w2.heap.size g nb no nc _ _ _ ms w4 HB2.out HF.out).mono ?_
  rintro e w5 ⟨b1, u1, x1, y1, rfl, hm⟩
  clear c_q_s0 c_q_s1 c_q_s2 c_q_s3 c_q_n0 c_q_n1 c_q_r0 c_q_r1 c_q_r2 c_q_r3
  obtain ⟨q_s, q_n, q_r, O_s, hB⟩ := HQ.out
  clear HQ
  have P_t := LP.of hm
  have hst := hm.below
  have hv := hm.v0
  clear hm
  obtain ⟨a1, c1, rfl, -, -, -, -⟩ := hv.1.1
  obtain ⟨a2, c2, rfl, -, -, -, -⟩ := hv.1.2
  obtain ⟨a3, c3, rfl, -, -⟩ := hv.2.1.form rfl
  obtain ⟨a4, c4, rfl, -, -⟩ := hv.2.2.form rfl
  clear hv
  have sz_w5 : w4.heap.size ≤ w5.heap.size := hst.size
  replace q_s := q_s.step hst
  replace q_n := q_n.step hst
  replace q_r := q_r.step hst
  replace O_s := O_s.step hst
  replace hB := hB.step hst
  clear hst
  have HQ := Lib.hid (And.intro q_s (And.intro q_n (And.intro q_r (And.intro O_s (And.intro P_t hB)))))
  clear q_s q_n q_r O_s P_t hB
  have c_q_s0 := LK.cell HQ.out.1 0
  have c_q_s1 := LK.cell HQ.out.1 1
  have c_q_s2 := LK.cell HQ.out.1 2
  have c_q_s3 := LK.cell HQ.out.1 3
  have c_q_n0 := LK.cell HQ.out.2.1 0
  have c_q_n1 := LK.cell HQ.out.2.1 1
  have c_q_r0 := LK.cell HQ.out.2.2.1 0
  have c_q_r1 := LK.cell HQ.out.2.2.1 1
  have c_q_r2 := LK.cell HQ.out.2.2.1 2
  have c_q_r3 := LK.cell HQ.out.2.2.1 3
  have z_q_r0 := LK.frozen HQ.out.2.2.1 0
  have z_q_r1 := LK.frozen HQ.out.2.2.1 1
  have z_q_r2 := LK.frozen HQ.out.2.2.1 2
  have z_q_r3 := LK.frozen HQ.out.2.2.1 3
  simp at c_q_s0 c_q_s1 c_q_s2 c_q_s3 c_q_n0 c_q_n1 c_q_r0 c_q_r1 c_q_r2 c_q_r3
  go_wp2
  refine bodyPost_ret (v := .tuple #[.agg #[.slice a1 ms.disk.blocks.length c1, .slice a2 ms.disk.waits.length c2, .slice a3 ms.now.length c3, .slice a4 ms.last.length c4], .int .i64 ad, .int .i64 0]) (by simp [results, Try.results39, go_sem, c_q_r0, c_q_r1, c_q_r2, c_q_r3]) rfl ⟨_, _, _, _, rfl, ?_⟩
  exact (((MadeL.mk ((HQ.out.2.2.2.2.1.t).more (by omega) (Lv.hi_le HQ.out.2.2.2.2.1)) HQ.out.2.2.2.2.2 : MadeL w _ (w.heap.size + 3) _ _ _ _ ms)).four (w.heap.size + 1 + 1) _ _ _ _ (by omega) (by omega)).made (by omega)

end Go.Proofs.Ytbddbadmfhplmaa

namespace Go.Proofs.Ytbddbadmfhplmaa
open Go.RowKit

def n09 : NodeL := ⟨0, []⟩
theorem alive9_words : errDm newS n09 = 0 ∧ atD newS n09 = 8 ∧ (madS newS n09).now.length = 256 ∧ (madS newS n09).now[8]? = some 1 ∧ errLv (madS newS n09) 8 = 0 ∧ (leftS (madS newS n09) 8).now.length = 256 ∧ (leftS (madS newS n09) 8).now[8]? = some 0 := by decide +kernel

set_option maxRecDepth 100000 in
set_option maxHeartbeats 2000000 in
theorem alive9  (w : World)  :
    Calls Try.prog 46 #[] w fun e w' => e = .returned (.bool true) ∧ Below w.heap.size w w' := by
  have hB : LW w w := Below.refl _ _
  have HQ := Lib.hid (hB)
  clear hB
  obtain ⟨t1, t2, t3, t4, t5, t6, t7⟩ := alive9_words
  obtain ⟨N, hN⟩ : ∃ N, newS = N := ⟨_, rfl⟩
  obtain ⟨T, hT⟩ : ∃ T, madS newS n09 = T := ⟨_, rfl⟩
  obtain ⟨U, hU⟩ : ∃ U, leftS (madS newS n09) 8 = U := ⟨_, rfl⟩
  have k_t := fun V b u x y h1 => dmake_any b u x y newS n09 (.slice none 0 0) V h1 ⟨by decide, Sl.nil_ _ _ _⟩
  rw [t1, t2, hT] at k_t
  rw [show (n09.level) = 0 from rfl] at k_t
  have k_l := fun V b u x y h1 => dleave_any b u x y (madS newS n09) 8 V h1
  rw [t5, hU, hT] at k_l
  rw [hU] at t6 t7
  rw [hT] at t3 t4
  rw [hN] at k_t
  have k_n := fun V => snew_any V
  rw [hN] at k_n
  have HT := Lib.hid (And.intro t3 (And.intro t4 (And.intro t6 t7)))
  clear hN hT hU t1 t2 t3 t4 t5 t6 t7
  have HC := Lib.hid (And.intro k_t (And.intro k_n k_l))
  clear k_t k_n k_l
  go_enter Try.func46, Try.ntmps46
  go_wp2_with fail
  refine (HC.out.2.1 _).mono ?_
  rintro e w1 ⟨b0, u0, x0, y0, rfl, hm⟩
  have hB := HQ.out
  clear HQ
  have O_n := LP.of hm
  have hst := hm.below
  clear hm
  have sz_w1 : w.heap.size ≤ w1.heap.size := hst.size
  replace hB := hB.step hst
  clear hst
  have HQ := Lib.hid (And.intro O_n hB)
  clear O_n hB
  go_wp2_with fail
  refine (HC.out.1 _ _ _ _ _ HQ.out.1.v).mono ?_
  rintro e w2 ⟨b1, u1, x1, y1, rfl, hm⟩
  obtain ⟨O_n, hB⟩ := HQ.out
  clear HQ
  have P_t := LP.of hm
  have hst := hm.below
  obtain ⟨ab_t, cb_t, rfl, -, -, -, -⟩ := hm.store.v.1.1
  obtain ⟨au_t, cu_t, rfl, -, -, -, -⟩ := hm.store.v.1.2
  obtain ⟨ax_t, cx_t, rfl, -, -⟩ := hm.store.v.2.1.form rfl
  obtain ⟨ay_t, cy_t, rfl, -, -⟩ := hm.store.v.2.2.form rfl
  clear hm
  have sz_w2 : w1.heap.size ≤ w2.heap.size := hst.size
  replace O_n := O_n.step hst
  replace hB := hB.step hst
  clear hst
  have HQ := Lib.hid (And.intro O_n (And.intro P_t hB))
  clear O_n P_t hB
  go_upto_region 2 with (fail)
  obtain ⟨O_n, P_t, hB⟩ := HQ.out
  clear HQ
  have hst := (Below.refl w2.heap.size w2).alloc (Nat.le_refl _) (.cells #[.slice ab_t T.disk.blocks.length cb_t, .slice au_t T.disk.waits.length cu_t, .slice ax_t T.now.length cx_t, .slice ay_t T.last.length cy_t] 28)
  have hlt : w2.heap.size < (w2.alloc (.cells #[.slice ab_t T.disk.blocks.length cb_t, .slice au_t T.disk.waits.length cu_t, .slice ax_t T.now.length cx_t, .slice ay_t T.last.length cy_t] 28)).heap.size := by simp
  have q_T := LK.new w2 (.cells #[.slice ab_t T.disk.blocks.length cb_t, .slice au_t T.disk.waits.length cu_t, .slice ax_t T.now.length cx_t, .slice ay_t T.last.length cy_t] 28)
  replace O_n := O_n.step hst
  replace P_t := P_t.step hst
  replace hB := hB.step hst
  obtain ⟨w3, hw⟩ : ∃ v, w2.alloc (.cells #[.slice ab_t T.disk.blocks.length cb_t, .slice au_t T.disk.waits.length cu_t, .slice ax_t T.now.length cx_t, .slice ay_t T.last.length cy_t] 28) = v := ⟨_, rfl⟩
  rw [hw] at hlt q_T O_n P_t hB ⊢
  clear hw hst
  have sz_w3 := hlt
  clear hlt
  have HQ := Lib.hid (And.intro O_n (And.intro P_t (And.intro q_T hB)))
  clear O_n P_t q_T hB
  have c_q_T0 := LK.cell HQ.out.2.2.1 0
  have c_q_T1 := LK.cell HQ.out.2.2.1 1
  have c_q_T2 := LK.cell HQ.out.2.2.1 2
  have c_q_T3 := LK.cell HQ.out.2.2.1 3
  simp at c_q_T0 c_q_T1 c_q_T2 c_q_T3
  go_wp2_with fail
  refine (HC.out.2.2 _ _ _ _ _ HQ.out.2.1.v).mono ?_
  rintro e w4 ⟨b1, u1, x1, y1, rfl, hm⟩
  clear c_q_T0 c_q_T1 c_q_T2 c_q_T3
  obtain ⟨O_n, P_t, q_T, hB⟩ := HQ.out
  clear HQ
  have P_u := LP.of hm
  have hst := hm.below
  obtain ⟨ab_u, cb_u, rfl, -, -, -, -⟩ := hm.store.v.1.1
  obtain ⟨au_u, cu_u, rfl, -, -, -, -⟩ := hm.store.v.1.2
  obtain ⟨ax_u, cx_u, rfl, -, -⟩ := hm.store.v.2.1.form rfl
  obtain ⟨ay_u, cy_u, rfl, -, -⟩ := hm.store.v.2.2.form rfl
  clear hm
  have sz_w4 : w3.heap.size ≤ w4.heap.size := hst.size
  replace O_n := O_n.step hst
  replace P_t := P_t.step hst
  replace q_T := q_T.step hst
  replace hB := hB.step hst
  clear hst
  have HQ := Lib.hid (And.intro O_n (And.intro P_t (And.intro q_T (And.intro P_u hB))))
  clear O_n P_t q_T P_u hB
  have c_q_T0 := LK.cell HQ.out.2.2.1 0
  have c_q_T1 := LK.cell HQ.out.2.2.1 1
  have c_q_T2 := LK.cell HQ.out.2.2.1 2
  have c_q_T3 := LK.cell HQ.out.2.2.1 3
  simp at c_q_T0 c_q_T1 c_q_T2 c_q_T3
  go_upto_region 3 with (fail)
  clear c_q_T0 c_q_T1 c_q_T2 c_q_T3
  obtain ⟨O_n, P_t, q_T, P_u, hB⟩ := HQ.out
  clear HQ
  have hst := (Below.refl w4.heap.size w4).alloc (Nat.le_refl _) (.cells #[.slice ab_u U.disk.blocks.length cb_u, .slice au_u U.disk.waits.length cu_u, .slice ax_u U.now.length cx_u, .slice ay_u U.last.length cy_u] 28)
  have hlt : w4.heap.size < (w4.alloc (.cells #[.slice ab_u U.disk.blocks.length cb_u, .slice au_u U.disk.waits.length cu_u, .slice ax_u U.now.length cx_u, .slice ay_u U.last.length cy_u] 28)).heap.size := by simp
  have q_u := LK.new w4 (.cells #[.slice ab_u U.disk.blocks.length cb_u, .slice au_u U.disk.waits.length cu_u, .slice ax_u U.now.length cx_u, .slice ay_u U.last.length cy_u] 28)
  replace O_n := O_n.step hst
  replace P_t := P_t.step hst
  replace q_T := q_T.step hst
  replace P_u := P_u.step hst
  replace hB := hB.step hst
  obtain ⟨w5, hw⟩ : ∃ v, w4.alloc (.cells #[.slice ab_u U.disk.blocks.length cb_u, .slice au_u U.disk.waits.length cu_u, .slice ax_u U.now.length cx_u, .slice ay_u U.last.length cy_u] 28) = v := ⟨_, rfl⟩
  rw [hw] at hlt q_u O_n P_t q_T P_u hB ⊢
  clear hw hst
  have sz_w5 := hlt
  clear hlt
  have HQ := Lib.hid (And.intro O_n (And.intro P_t (And.intro q_T (And.intro P_u (And.intro q_u hB)))))
  clear O_n P_t q_T P_u q_u hB
  have c_q_T0 := LK.cell HQ.out.2.2.1 0
  have c_q_T1 := LK.cell HQ.out.2.2.1 1
  have c_q_T2 := LK.cell HQ.out.2.2.1 2
  have c_q_T3 := LK.cell HQ.out.2.2.1 3
  have c_q_u0 := LK.cell HQ.out.2.2.2.2.1 0
  have c_q_u1 := LK.cell HQ.out.2.2.2.2.1 1
  have c_q_u2 := LK.cell HQ.out.2.2.2.2.1 2
  have c_q_u3 := LK.cell HQ.out.2.2.2.2.1 3
  simp at c_q_T0 c_q_T1 c_q_T2 c_q_T3 c_q_u0 c_q_u1 c_q_u2 c_q_u3
  obtain ⟨xb, xo, xc, e1, -, -, x1, x2, hx⟩ := HQ.out.2.1.n.at_n HT.out.1 (by omega)
  injection e1 with e1 el e2
  subst e1 e2
  clear el
  have h8 := hx 8 1 HT.out.2.1
  obtain ⟨yb, yo, yc, e1, -, -, y1, y2, hy⟩ := HQ.out.2.2.2.1.n.at_n HT.out.2.2.1 (by omega)
  injection e1 with e1 el e2
  subst e1 e2
  have h9 := hy 8 0 HT.out.2.2.2
  unfold maxLen at x2 y2
  have e1 : bV 1 = .int .u8 1 := rfl
  have e2 : bV 0 = .int .u8 0 := rfl
  rw [e1] at h8
  rw [e2] at h9
  rw [HT.out.2.2.1] at c_q_u2
  rw [HT.out.1] at c_q_T2
  clear hx hy e1 e2 el
  go_wp2
  go_ret
  exact ⟨rfl, HQ.out.2.2.2.2.2⟩

end Go.Proofs.Ytbddbadmfhplmaa

namespace Go.Proofs.Ytbddbadmfhplmaa
open Go.RowKit

set_option maxRecDepth 100000 in
set_option maxHeartbeats 1000000 in
theorem snode_no (b_s u_s x_s y_s : Value) (s : StoreL) (p : Int) (w : World) (h_s : StoreV w 0 w.heap.size b_s u_s x_s y_s s) (hne : errAs s p ≠ 0) :
    Calls Try.prog 25 #[.agg #[b_s, u_s, x_s, y_s], .int .i64 p] w fun e w' => e = .returned (.tuple #[.agg #[.int .i64 0, .slice none 0 0], .int .i64 (errAs s p)]) ∧ Below w.heap.size w w' := by
  obtain ⟨ab_s, cb_s, rfl, gb_s, gc_s, -, -⟩ := h_s.1.1
  obtain ⟨au_s, cu_s, rfl, gu_s, gv_s, -, -⟩ := h_s.1.2
  obtain ⟨ax_s, cx_s, rfl, gx_s, gz_s⟩ := h_s.2.1.form rfl
  obtain ⟨ay_s, cy_s, rfl, gy_s, gw_s⟩ := h_s.2.2.form rfl
  unfold maxLen at gc_s gv_s gz_s gw_s
  have hst := (((Below.refl w.heap.size w).alloc (Nat.le_refl _) (.cells #[.slice ab_s s.disk.blocks.length cb_s, .slice au_s s.disk.waits.length cu_s, .slice ax_s s.now.length cx_s, .slice ay_s s.last.length cy_s] 28)).alloc (by simp) (.cells #[.int .i64 0, .slice none 0 0] 50))
  have hq := two_new w (.cells #[.slice ab_s s.disk.blocks.length cb_s, .slice au_s s.disk.waits.length cu_s, .slice ax_s s.now.length cx_s, .slice ay_s s.last.length cy_s] 28) (.cells #[.int .i64 0, .slice none 0 0] 50)
  have q_s := LK.of hq.1
  have q_r := LK.of hq.2
  have hB : LW w _ := hst
  have O_s := (LO.of h_s (Nat.le_refl _)).step hst
  have sz_V : w.heap.size + 1 < ((w.alloc (.cells #[.slice ab_s s.disk.blocks.length cb_s, .slice au_s s.disk.waits.length cu_s, .slice ax_s s.now.length cx_s, .slice ay_s s.last.length cy_s] 28)).alloc (.cells #[.int .i64 0, .slice none 0 0] 50)).heap.size := by simp
  obtain ⟨V, hV⟩ : ∃ V, ((w.alloc (.cells #[.slice ab_s s.disk.blocks.length cb_s, .slice au_s s.disk.waits.length cu_s, .slice ax_s s.now.length cx_s, .slice ay_s s.last.length cy_s] 28)).alloc (.cells #[.int .i64 0, .slice none 0 0] 50)) = V := ⟨_, rfl⟩
  rw [hV] at sz_V q_s q_r O_s hB
  clear hst h_s hq
  have HQ := Lib.hid (And.intro q_s (And.intro q_r (And.intro O_s hB)))
  clear q_s q_r O_s hB
  have c_q_s0 := LK.cell HQ.out.1 0
  have c_q_s1 := LK.cell HQ.out.1 1
  have c_q_s2 := LK.cell HQ.out.1 2
  have c_q_s3 := LK.cell HQ.out.1 3
  have c_q_r0 := LK.cell HQ.out.2.1 0
  have c_q_r1 := LK.cell HQ.out.2.1 1
  simp at c_q_s0 c_q_s1 c_q_s2 c_q_s3 c_q_r0 c_q_r1
  obtain ⟨ea, hea⟩ : ∃ e, errAs s p = e := ⟨_, rfl⟩
  have k_a := fun V b u x y hh => sasked_any b u x y s p V hh
  rw [hea] at k_a hne ⊢
  clear hea
  have HC := Lib.hid (k_a)
  clear k_a
  go_enter Try.func25, Try.ntmps25
  go_upto_region 1 with (fail)
  clear hV
  go_wp2_with fail
  refine (HC.out _ _ _ _ _ HQ.out.2.2.1.v).mono ?_
  rintro e w1 ⟨rfl, hst⟩
  clear c_q_s0 c_q_s1 c_q_s2 c_q_s3 c_q_r0 c_q_r1
  obtain ⟨q_s, q_r, O_s, hB⟩ := HQ.out
  clear HQ
  have sz_w1 : V.heap.size ≤ w1.heap.size := hst.size
  replace q_s := q_s.step hst
  replace q_r := q_r.step hst
  replace O_s := O_s.step hst
  replace hB := hB.step hst
  clear hst
  have HQ := Lib.hid (And.intro q_s (And.intro q_r (And.intro O_s hB)))
  clear q_s q_r O_s hB
  have c_q_s0 := LK.cell HQ.out.1 0
  have c_q_s1 := LK.cell HQ.out.1 1
  have c_q_s2 := LK.cell HQ.out.1 2
  have c_q_s3 := LK.cell HQ.out.1 3
  have c_q_r0 := LK.cell HQ.out.2.1 0
  have c_q_r1 := LK.cell HQ.out.2.1 1
  have z_q_r0 := LK.frozen HQ.out.2.1 0
  have z_q_r1 := LK.frozen HQ.out.2.1 1
  simp at c_q_s0 c_q_s1 c_q_s2 c_q_s3 c_q_r0 c_q_r1
  have i1 : (ea != 0) = true := by simp [hne]
  clear hne
  go_wp2
  refine bodyPost_ret (v := .tuple #[.agg #[.int .i64 0, .slice none 0 0], .int .i64 ea]) (by simp [results, Try.results25, go_sem, c_q_r0, c_q_r1]) rfl ⟨rfl, ?_⟩
  exact (Below.setCell HQ.out.2.2.2 (p := ⟨w.heap.size + 1, 0, none⟩) (Nat.le_succ _) _).setCell (p := ⟨w.heap.size + 1, 1, none⟩) (Nat.le_succ _) _

end Go.Proofs.Ytbddbadmfhplmaa

