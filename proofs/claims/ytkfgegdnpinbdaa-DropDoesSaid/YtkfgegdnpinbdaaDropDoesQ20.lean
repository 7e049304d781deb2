/- DropDoes: the words and contracts, part 20. -/
import Derived.Test.YtkfgegdnpinbdaaDropDoesQ1
import Derived.Test.YtkfgegdnpinbdaaDropDoesQ2
import Derived.Test.YtkfgegdnpinbdaaDropDoesQ3
import Derived.Test.YtkfgegdnpinbdaaDropDoesQ4
import Derived.Test.YtkfgegdnpinbdaaDropDoesQ5
import Derived.Test.YtkfgegdnpinbdaaDropDoesQ6
import Derived.Test.YtkfgegdnpinbdaaDropDoesQ7
import Derived.Test.YtkfgegdnpinbdaaDropDoesQ8
import Derived.Test.YtkfgegdnpinbdaaDropDoesQ10
import Derived.Test.YtkfgegdnpinbdaaDropDoesQ11
import Derived.Test.YtkfgegdnpinbdaaDropDoesQ12
import Derived.Test.YtkfgegdnpinbdaaDropDoesQ13
import Derived.Test.YtkfgegdnpinbdaaDropDoesQ14
import Derived.Test.YtkfgegdnpinbdaaDropDoesQ16
import Derived.Test.YtkfgegdnpinbdaaDropDoesQ17
import Derived.Test.YtkfgegdnpinbdaaDropDoesQ18
import Derived.Test.YtkfgegdnpinbdaaDropDoesQ19
import Derived.WalkKit
import Derived.WalkLawsBesides
import Derived.WalkSpells
import Derived.Lib.Hide
import Derived.Laws.Rows
import Derived.Laws.AppendOwnNone
import Derived.Maps.AppendAt
import Derived.ProofKit
import Derived.Deep.Slices
import Derived.WideShapes
import Derived.RangeFuncNested
import Derived.RangeFuncBound
import Derived.RangeFuncCalls
import Derived.RangeFuncLeaves
import Derived.RangeFuncBox
import Derived.Shelf.Abstract
import Derived.Shelf.RegionOpen
import Derived.OwnWalkIn
import Derived.TacticsInMore
import Derived.LoopNIn
import Derived.LoopIn
import Derived.Lib.AppendZerosOnto
import Derived.Lib.SliceRun
import Derived.Lib.Walk
import Derived.Deep.LoopGhost
import Derived.Laws.CopyOwn
import Derived.Laws.CopyRow
import Derived.OrdersHeld
import Derived.Deep.QuietTactic
import Derived.BigQuiet
import Derived.StillTailTactics
import Derived.OpenShut
import Derived.Deep.DeepCutAuto
import Derived.Laws.MakeOwn
import Derived.Deep.RegionHeld
import Derived.KernelRfl
import Derived.BigFrameIn
import Derived.OrdersIn
import Derived.Sort.CutIn
import Derived.ArgAppend
namespace Go.Proofs.Ytkfgegdnpinbdaa
open Go.RowKit

set_option maxRecDepth 100000 in
set_option maxHeartbeats 2000000 in
theorem ddone_left (b_s u_s x_s y_s : Value) (s : StoreL) (bp p : Nat) (w : World) (h_s : StoreV w 0 w.heap.size b_s u_s x_s y_s s) (hm : mayS s = true) (h8 : 8 ≤ p) (hp : p < 256) (hb : w.heap[bp]? = some (.cells #[.int .i64 (p : Int)] 3 (0, 0))) :
    Calls Try.prog 67 #[.agg #[b_s, u_s, x_s, y_s], .func (.func 68) #[] #[.pointer (some ⟨bp, 0, none⟩)]] w fun e w' => ∃ b' u' x' y', e = .returned (.tuple #[.agg #[b', u', x', y'], .int .i64 (if lvS s p = none then 8 else 0)]) ∧ MadeS w w' b' u' x' y' (if lvS s p = none then noS else ⟨s.disk, (lvS s p).getD [], s.last⟩) := by
  obtain ⟨ab_s, cb_s, rfl, gb_s, gc_s, -, -⟩ := h_s.1.1
  obtain ⟨au_s, cu_s, rfl, gu_s, gv_s, -, -⟩ := h_s.1.2
  obtain ⟨ax_s, cx_s, rfl, gx_s, gz_s⟩ := h_s.2.1.form rfl
  obtain ⟨ay_s, cy_s, rfl, gy_s, gw_s⟩ := h_s.2.2.form rfl
  unfold maxLen at gc_s gv_s gz_s gw_s
  have hst := (((Below.refl w.heap.size w).alloc (Nat.le_refl _) (.cells #[.slice ab_s s.disk.blocks.length cb_s, .slice au_s s.disk.waits.length cu_s, .slice ax_s s.now.length cx_s, .slice ay_s s.last.length cy_s] 28)).alloc (by simp) (.cells #[.slice none 0 0, .slice none 0 0, .slice none 0 0, .slice none 0 0] 28))
  have hq := two_new w (.cells #[.slice ab_s s.disk.blocks.length cb_s, .slice au_s s.disk.waits.length cu_s, .slice ax_s s.now.length cx_s, .slice ay_s s.last.length cy_s] 28) (.cells #[.slice none 0 0, .slice none 0 0, .slice none 0 0, .slice none 0 0] 28)
  have q_s := LK.of hq.1
  have q_r := LK.of hq.2
  have hB : LW w _ := hst
  have O_s := (LO.of h_s (Nat.le_refl _)).step hst
  have sz_V : w.heap.size + 1 < ((w.alloc (.cells #[.slice ab_s s.disk.blocks.length cb_s, .slice au_s s.disk.waits.length cu_s, .slice ax_s s.now.length cx_s, .slice ay_s s.last.length cy_s] 28)).alloc (.cells #[.slice none 0 0, .slice none 0 0, .slice none 0 0, .slice none 0 0] 28)).heap.size := by simp
  have q_b := (LK.of hb).step hst
  obtain ⟨V, hV⟩ : ∃ V, ((w.alloc (.cells #[.slice ab_s s.disk.blocks.length cb_s, .slice au_s s.disk.waits.length cu_s, .slice ax_s s.now.length cx_s, .slice ay_s s.last.length cy_s] 28)).alloc (.cells #[.slice none 0 0, .slice none 0 0, .slice none 0 0, .slice none 0 0] 28)) = V := ⟨_, rfl⟩
  rw [hV] at q_b sz_V q_s q_r O_s hB
  clear hst h_s hq
  have h256 := mayT_len (mayS_iff.1 hm).2.1
  have hmd := (mayS_iff.1 hm).1
  have k_o := fun V b u x y hh => on_any b u x y s V hh h256
  have hlf : ∀ now2, lvS s p = some now2 → FewS ⟨s.disk, now2, s.last⟩ := fun now2 h => FewS.of_may (mayS_now hm ((lvS_less h8 h).may (mayS_iff.1 hm).2.1))
  have k_l := fun lo g nb no nc b u y V hh (hb : V.heap[bp]? = _) => left1_any lo g nb no nc bp b u y s p V hh hmd hp hb
  obtain ⟨R, hR⟩ : ∃ R, lvS s p = R := ⟨_, rfl⟩
  simp only [hR] at k_l hlf ⊢
  have hE : (R = none → (if R = none then (8 : Int) else 0) = 8 ∧ (if R = none then noS else ⟨s.disk, R.getD [], s.last⟩) = noS) ∧ ∀ now2, R = some now2 → (if R = none then (8 : Int) else 0) = 0 ∧ (if R = none then noS else ⟨s.disk, R.getD [], s.last⟩) = ⟨s.disk, now2, s.last⟩ := by
    constructor
    · rintro rfl; exact ⟨rfl, rfl⟩
    · rintro now2 rfl; exact ⟨rfl, rfl⟩
  obtain ⟨er, her⟩ : ∃ e, (if R = none then (8 : Int) else 0) = e := ⟨_, rfl⟩
  obtain ⟨ts, hts⟩ : ∃ e, (if R = none then noS else ⟨s.disk, R.getD [], s.last⟩) = e := ⟨_, rfl⟩
  simp only [her, hts] at hE ⊢
  have HE := Lib.hid hE
  clear hE her hts
  have hbpl := (Array.getElem?_eq_some_iff.1 hb).1
  have HLF := Lib.hid hlf
  clear hlf hm hmd h256 hb hR
  have HC := Lib.hid (And.intro k_o k_l)
  clear k_o k_l
  have HQ := Lib.hid (And.intro q_s (And.intro q_r (And.intro O_s (And.intro q_b hB))))
  clear q_s q_r O_s q_b hB
  have c_q_s0 := LK.cell HQ.out.1 0
  have c_q_s1 := LK.cell HQ.out.1 1
  have c_q_s2 := LK.cell HQ.out.1 2
  have c_q_s3 := LK.cell HQ.out.1 3
  have c_q_r0 := LK.cell HQ.out.2.1 0
  have c_q_r1 := LK.cell HQ.out.2.1 1
  have c_q_r2 := LK.cell HQ.out.2.1 2
  have c_q_r3 := LK.cell HQ.out.2.1 3
  simp at c_q_s0 c_q_s1 c_q_s2 c_q_s3 c_q_r0 c_q_r1 c_q_r2 c_q_r3
  go_enter Try.func67, Try.ntmps67
  go_upto_region 1 with (fail)
  clear hV
  go_wp2_with fail
  refine (HC.out.1 _ _ _ _ _ HQ.out.2.2.1.v).mono ?_
  rintro e w1 ⟨g, nb, no, nc, au, rfl, hben, hst⟩
  clear c_q_s0 c_q_s1 c_q_s2 c_q_s3 c_q_r0 c_q_r1 c_q_r2 c_q_r3
  obtain ⟨q_s, q_r, O_s, q_b, hB⟩ := HQ.out
  clear HQ
  have l7 := hben.lo_
  have sz_w1 : V.heap.size ≤ w1.heap.size := hst.size
  replace q_s := q_s.step hst
  replace q_r := q_r.step hst
  replace O_s := O_s.step hst
  replace q_b := q_b.step hst
  replace hB := hB.step hst
  clear hst
  have HQ := Lib.hid (And.intro q_s (And.intro q_r (And.intro O_s (And.intro q_b hB))))
  clear q_s q_r O_s q_b hB
  have c_q_s0 := LK.cell HQ.out.1 0
  have c_q_s1 := LK.cell HQ.out.1 1
  have c_q_s2 := LK.cell HQ.out.1 2
  have c_q_s3 := LK.cell HQ.out.1 3
  have c_q_r0 := LK.cell HQ.out.2.1 0
  have c_q_r1 := LK.cell HQ.out.2.1 1
  have c_q_r2 := LK.cell HQ.out.2.1 2
  have c_q_r3 := LK.cell HQ.out.2.1 3
  simp at c_q_s0 c_q_s1 c_q_s2 c_q_s3 c_q_r0 c_q_r1 c_q_r2 c_q_r3
  have HBN := Lib.hid hben
  clear hben
  go_wp2_with fail
  refine (HC.out.2 V.heap.size g nb no nc _ _ _ w1 HBN.out (LK.blk HQ.out.2.2.2.1)).mono ?_
  rintro e w2 ⟨hst, h2, h3⟩
  clear c_q_s0 c_q_s1 c_q_s2 c_q_s3 c_q_r0 c_q_r1 c_q_r2 c_q_r3
  obtain ⟨q_s, q_r, O_s, q_b, hB⟩ := HQ.out
  clear HQ
  have H23 := Lib.hid (And.intro h2 h3)
  clear h2 h3
  have sz_w2 : w1.heap.size ≤ w2.heap.size := hst.size
  replace q_s := q_s.out (n0 := V.heap.size) (h0 := w1.heap.size) hst.size (fun x hx hd => hst.block x (by omega)) (by omega)
  replace q_r := q_r.out (n0 := V.heap.size) (h0 := w1.heap.size) hst.size (fun x hx hd => hst.block x (by omega)) (by omega)
  replace O_s := O_s.out (n0 := V.heap.size) (h0 := w1.heap.size) hst.size (fun x hx hd => hst.block x (by omega)) (by omega)
  replace q_b := q_b.out (n0 := V.heap.size) (h0 := w1.heap.size) hst.size (fun x hx hd => hst.block x (by omega)) (by omega)
  replace hB := hB.outB hst (by omega)
  clear hst
  have HQ := Lib.hid (And.intro q_s (And.intro q_r (And.intro O_s (And.intro q_b hB))))
  clear q_s q_r O_s q_b hB
  have c_q_s0 := LK.cell HQ.out.1 0
  have c_q_s1 := LK.cell HQ.out.1 1
  have c_q_s2 := LK.cell HQ.out.1 2
  have c_q_s3 := LK.cell HQ.out.1 3
  have c_q_r0 := LK.cell HQ.out.2.1 0
  have c_q_r1 := LK.cell HQ.out.2.1 1
  have c_q_r2 := LK.cell HQ.out.2.1 2
  have c_q_r3 := LK.cell HQ.out.2.1 3
  simp at c_q_s0 c_q_s1 c_q_s2 c_q_s3 c_q_r0 c_q_r1 c_q_r2 c_q_r3
  cases R with
  | none =>
    obtain rfl := H23.out.1 rfl
    obtain ⟨rfl, rfl⟩ := HE.out.1 rfl
    clear c_q_s0 c_q_s1 c_q_s2 c_q_s3 c_q_r0 c_q_r1 c_q_r2 c_q_r3
    have c_q_s0 := LK.cell HQ.out.1 0
    have c_q_s1 := LK.cell HQ.out.1 1
    have c_q_s2 := LK.cell HQ.out.1 2
    have c_q_s3 := LK.cell HQ.out.1 3
    have z_q_s0 := LK.frozen HQ.out.1 0
    have z_q_s1 := LK.frozen HQ.out.1 1
    have z_q_s2 := LK.frozen HQ.out.1 2
    have z_q_s3 := LK.frozen HQ.out.1 3
    have c_q_r0 := LK.cell HQ.out.2.1 0
    have c_q_r1 := LK.cell HQ.out.2.1 1
    have c_q_r2 := LK.cell HQ.out.2.1 2
    have c_q_r3 := LK.cell HQ.out.2.1 3
    have z_q_r0 := LK.frozen HQ.out.2.1 0
    have z_q_r1 := LK.frozen HQ.out.2.1 1
    have z_q_r2 := LK.frozen HQ.out.2.1 2
    have z_q_r3 := LK.frozen HQ.out.2.1 3
    simp at c_q_s0 c_q_s1 c_q_s2 c_q_s3 c_q_r0 c_q_r1 c_q_r2 c_q_r3
    go_wp2
    refine bodyPost_ret (v := .tuple #[.agg #[.slice none 0 0, .slice none 0 0, .slice none 0 0, .slice none 0 0], .int .i64 8]) (by simp [results, Try.results67, go_sem, c_q_r0, c_q_r1, c_q_r2, c_q_r3]) rfl ⟨_, _, _, _, rfl, ?_⟩
    exact ((MadeL.nil_ (w.heap.size + 2) HQ.out.2.2.2.2).four (w.heap.size + 1) _ _ _ _ (by omega) (by omega)).made (by omega)
  | some now2 =>
    obtain ⟨rfl, hben⟩ := H23.out.2 now2 rfl
    have HBN2 := Lib.hid hben
    clear hben
    obtain ⟨rfl, rfl⟩ := HE.out.2 now2 rfl
    go_wp2_with fail
    refine (bstore_any V.heap.size g nb no nc _ _ _ ⟨s.disk, now2, s.last⟩ w2 HBN2.out (HLF.out now2 rfl)).mono ?_
    rintro e w3 ⟨b1, u1, x1, y1, rfl, hm⟩
    clear c_q_s0 c_q_s1 c_q_s2 c_q_s3 c_q_r0 c_q_r1 c_q_r2 c_q_r3
    obtain ⟨q_s, q_r, O_s, q_b, hB⟩ := HQ.out
    clear HQ
    have P_t := LP.of hm
    have hst := hm.below
    have hv := hm.v0
    clear hm
    have sz_w3 : w2.heap.size ≤ w3.heap.size := hst.size
    replace q_s := q_s.step hst
    replace q_r := q_r.step hst
    replace O_s := O_s.step hst
    replace q_b := q_b.step hst
    replace hB := hB.step hst
    clear hst
    have HQ := Lib.hid (And.intro q_s (And.intro q_r (And.intro O_s (And.intro q_b (And.intro P_t hB)))))
    clear q_s q_r O_s q_b P_t hB
    have c_q_s0 := LK.cell HQ.out.1 0
    have c_q_s1 := LK.cell HQ.out.1 1
    have c_q_s2 := LK.cell HQ.out.1 2
    have c_q_s3 := LK.cell HQ.out.1 3
    have z_q_s0 := LK.frozen HQ.out.1 0
    have z_q_s1 := LK.frozen HQ.out.1 1
    have z_q_s2 := LK.frozen HQ.out.1 2
    have z_q_s3 := LK.frozen HQ.out.1 3
    have c_q_r0 := LK.cell HQ.out.2.1 0
    have c_q_r1 := LK.cell HQ.out.2.1 1
    have c_q_r2 := LK.cell HQ.out.2.1 2
    have c_q_r3 := LK.cell HQ.out.2.1 3
    have z_q_r0 := LK.frozen HQ.out.2.1 0
    have z_q_r1 := LK.frozen HQ.out.2.1 1
    have z_q_r2 := LK.frozen HQ.out.2.1 2
    have z_q_r3 := LK.frozen HQ.out.2.1 3
    simp at c_q_s0 c_q_s1 c_q_s2 c_q_s3 c_q_r0 c_q_r1 c_q_r2 c_q_r3
    obtain ⟨a1, c1, rfl, -, -, -, -⟩ := hv.1.1
    obtain ⟨a2, c2, rfl, -, -, -, -⟩ := hv.1.2
    obtain ⟨a3, c3, rfl, -, -⟩ := hv.2.1.form rfl
    obtain ⟨a4, c4, rfl, -, -⟩ := hv.2.2.form rfl
    clear hv
    go_wp2
    refine bodyPost_ret (v := .tuple #[.agg #[.slice a1 s.disk.blocks.length c1, .slice a2 s.disk.waits.length c2, .slice a3 now2.length c3, .slice a4 s.last.length c4], .int .i64 0]) (by simp [results, Try.results67, go_sem, c_q_r0, c_q_r1, c_q_r2, c_q_r3]) rfl ⟨_, _, _, _, rfl, ?_⟩
    exact (((MadeL.mk ((HQ.out.2.2.2.2.1.t).more (by omega) (Lv.hi_le HQ.out.2.2.2.2.1)) HQ.out.2.2.2.2.2 : MadeL w _ (w.heap.size + 2) _ _ _ _ _)).four (w.heap.size + 1) _ _ _ _ (by omega) (by omega)).made (by omega)

set_option maxRecDepth 100000 in
set_option maxHeartbeats 2000000 in
theorem ddone_loos (b_s u_s x_s y_s : Value) (s : StoreL) (bp p : Nat) (w : World) (h_s : StoreV w 0 w.heap.size b_s u_s x_s y_s s) (hm : mayS s = true) (h8 : 8 ≤ p) (hp : p < 256) (hn : s.now.getD p 0 ≠ 0) (hb : w.heap[bp]? = some (.cells #[.int .i64 (p : Int)] 3 (0, 0))) :
    Calls Try.prog 67 #[.agg #[b_s, u_s, x_s, y_s], .func (.func 72) #[] #[.pointer (some ⟨bp, 0, none⟩)]] w fun e w' => ∃ b' u' x' y', e = .returned (.tuple #[.agg #[b', u', x', y'], .int .i64 0]) ∧ MadeS w w' b' u' x' y' ⟨s.disk, s.now.set p (s.now.getD p 0 + 255), s.last⟩ := by
  obtain ⟨ab_s, cb_s, rfl, gb_s, gc_s, -, -⟩ := h_s.1.1
  obtain ⟨au_s, cu_s, rfl, gu_s, gv_s, -, -⟩ := h_s.1.2
  obtain ⟨ax_s, cx_s, rfl, gx_s, gz_s⟩ := h_s.2.1.form rfl
  obtain ⟨ay_s, cy_s, rfl, gy_s, gw_s⟩ := h_s.2.2.form rfl
  unfold maxLen at gc_s gv_s gz_s gw_s
  have hst := (((Below.refl w.heap.size w).alloc (Nat.le_refl _) (.cells #[.slice ab_s s.disk.blocks.length cb_s, .slice au_s s.disk.waits.length cu_s, .slice ax_s s.now.length cx_s, .slice ay_s s.last.length cy_s] 28)).alloc (by simp) (.cells #[.slice none 0 0, .slice none 0 0, .slice none 0 0, .slice none 0 0] 28))
  have hq := two_new w (.cells #[.slice ab_s s.disk.blocks.length cb_s, .slice au_s s.disk.waits.length cu_s, .slice ax_s s.now.length cx_s, .slice ay_s s.last.length cy_s] 28) (.cells #[.slice none 0 0, .slice none 0 0, .slice none 0 0, .slice none 0 0] 28)
  have q_s := LK.of hq.1
  have q_r := LK.of hq.2
  have hB : LW w _ := hst
  have O_s := (LO.of h_s (Nat.le_refl _)).step hst
  have sz_V : w.heap.size + 1 < ((w.alloc (.cells #[.slice ab_s s.disk.blocks.length cb_s, .slice au_s s.disk.waits.length cu_s, .slice ax_s s.now.length cx_s, .slice ay_s s.last.length cy_s] 28)).alloc (.cells #[.slice none 0 0, .slice none 0 0, .slice none 0 0, .slice none 0 0] 28)).heap.size := by simp
  have q_b := (LK.of hb).step hst
  obtain ⟨V, hV⟩ : ∃ V, ((w.alloc (.cells #[.slice ab_s s.disk.blocks.length cb_s, .slice au_s s.disk.waits.length cu_s, .slice ax_s s.now.length cx_s, .slice ay_s s.last.length cy_s] 28)).alloc (.cells #[.slice none 0 0, .slice none 0 0, .slice none 0 0, .slice none 0 0] 28)) = V := ⟨_, rfl⟩
  rw [hV] at q_b sz_V q_s q_r O_s hB
  clear hst h_s hq
  have h256 := mayT_len (mayS_iff.1 hm).2.1
  have hmd := (mayS_iff.1 hm).1
  have k_o := fun V b u x y hh => on_any b u x y s V hh h256
  have hlf : FewS ⟨s.disk, s.now.set p (s.now.getD p 0 + 255), s.last⟩ := FewS.of_may (mayS_now hm (by rw [mayT_set _ _ _ h8]; exact (mayS_iff.1 hm).2.1))
  have hdn : errBl s p = 0 ∧ dnS s p = ⟨s.disk, s.now.set p (s.now.getD p 0 + 255), s.last⟩ := by
    rcases dn_cases s p with ⟨h, -⟩ | ⟨-, h1, h2⟩
    · exact absurd h hn
    · exact ⟨h1, h2⟩
  have k_l := fun lo g nb no nc b u y V hh (hb : V.heap[bp]? = _) => loos1_any lo g nb no nc bp b u y s p V hh hp hb
  rw [hdn.1, hdn.2] at k_l
  obtain ⟨TT, hTT⟩ : ∃ T : StoreL, ⟨s.disk, s.now.set p (s.now.getD p 0 + 255), s.last⟩ = T := ⟨_, rfl⟩
  rw [hTT] at k_l hlf ⊢
  clear hdn
  have hbpl := (Array.getElem?_eq_some_iff.1 hb).1
  have HLF := Lib.hid hlf
  clear hlf hm hmd h256 hb hn
  have HC := Lib.hid (And.intro k_o k_l)
  clear k_o k_l
  have HQ := Lib.hid (And.intro q_s (And.intro q_r (And.intro O_s (And.intro q_b hB))))
  clear q_s q_r O_s q_b hB
  have c_q_s0 := LK.cell HQ.out.1 0
  have c_q_s1 := LK.cell HQ.out.1 1
  have c_q_s2 := LK.cell HQ.out.1 2
  have c_q_s3 := LK.cell HQ.out.1 3
  have c_q_r0 := LK.cell HQ.out.2.1 0
  have c_q_r1 := LK.cell HQ.out.2.1 1
  have c_q_r2 := LK.cell HQ.out.2.1 2
  have c_q_r3 := LK.cell HQ.out.2.1 3
  simp at c_q_s0 c_q_s1 c_q_s2 c_q_s3 c_q_r0 c_q_r1 c_q_r2 c_q_r3
  go_enter Try.func67, Try.ntmps67
  go_upto_region 1 with (fail)
  clear hV
  go_wp2_with fail
  refine (HC.out.1 _ _ _ _ _ HQ.out.2.2.1.v).mono ?_
  rintro e w1 ⟨g, nb, no, nc, au, rfl, hben, hst⟩
  clear c_q_s0 c_q_s1 c_q_s2 c_q_s3 c_q_r0 c_q_r1 c_q_r2 c_q_r3
  obtain ⟨q_s, q_r, O_s, q_b, hB⟩ := HQ.out
  clear HQ
  have l7 := hben.lo_
  have sz_w1 : V.heap.size ≤ w1.heap.size := hst.size
  replace q_s := q_s.step hst
  replace q_r := q_r.step hst
  replace O_s := O_s.step hst
  replace q_b := q_b.step hst
  replace hB := hB.step hst
  clear hst
  have HQ := Lib.hid (And.intro q_s (And.intro q_r (And.intro O_s (And.intro q_b hB))))
  clear q_s q_r O_s q_b hB
  have c_q_s0 := LK.cell HQ.out.1 0
  have c_q_s1 := LK.cell HQ.out.1 1
  have c_q_s2 := LK.cell HQ.out.1 2
  have c_q_s3 := LK.cell HQ.out.1 3
  have c_q_r0 := LK.cell HQ.out.2.1 0
  have c_q_r1 := LK.cell HQ.out.2.1 1
  have c_q_r2 := LK.cell HQ.out.2.1 2
  have c_q_r3 := LK.cell HQ.out.2.1 3
  simp at c_q_s0 c_q_s1 c_q_s2 c_q_s3 c_q_r0 c_q_r1 c_q_r2 c_q_r3
  have HBN := Lib.hid hben
  clear hben
  go_wp2_with fail
  refine (HC.out.2 V.heap.size g nb no nc _ _ _ w1 HBN.out (LK.blk HQ.out.2.2.2.1)).mono ?_
  rintro e w2 ⟨rfl, hben, hst, -, -⟩
  clear c_q_s0 c_q_s1 c_q_s2 c_q_s3 c_q_r0 c_q_r1 c_q_r2 c_q_r3
  obtain ⟨q_s, q_r, O_s, q_b, hB⟩ := HQ.out
  clear HQ
  have HBN2 := Lib.hid hben
  clear hben
  have sz_w2 : w1.heap.size ≤ w2.heap.size := hst.size
  replace q_s := q_s.out (n0 := V.heap.size) (h0 := w1.heap.size) hst.size (fun x hx hd => hst.block x (by omega)) (by omega)
  replace q_r := q_r.out (n0 := V.heap.size) (h0 := w1.heap.size) hst.size (fun x hx hd => hst.block x (by omega)) (by omega)
  replace O_s := O_s.out (n0 := V.heap.size) (h0 := w1.heap.size) hst.size (fun x hx hd => hst.block x (by omega)) (by omega)
  replace q_b := q_b.out (n0 := V.heap.size) (h0 := w1.heap.size) hst.size (fun x hx hd => hst.block x (by omega)) (by omega)
  replace hB := hB.outB hst (by omega)
  clear hst
  have HQ := Lib.hid (And.intro q_s (And.intro q_r (And.intro O_s (And.intro q_b hB))))
  clear q_s q_r O_s q_b hB
  have c_q_s0 := LK.cell HQ.out.1 0
  have c_q_s1 := LK.cell HQ.out.1 1
  have c_q_s2 := LK.cell HQ.out.1 2
  have c_q_s3 := LK.cell HQ.out.1 3
  have c_q_r0 := LK.cell HQ.out.2.1 0
  have c_q_r1 := LK.cell HQ.out.2.1 1
  have c_q_r2 := LK.cell HQ.out.2.1 2
  have c_q_r3 := LK.cell HQ.out.2.1 3
  simp at c_q_s0 c_q_s1 c_q_s2 c_q_s3 c_q_r0 c_q_r1 c_q_r2 c_q_r3
  go_wp2_with fail
  refine (bstore_any V.heap.size g nb no nc _ _ _ TT w2 HBN2.out HLF.out).mono ?_
  rintro e w3 ⟨b1, u1, x1, y1, rfl, hm⟩
  clear c_q_s0 c_q_s1 c_q_s2 c_q_s3 c_q_r0 c_q_r1 c_q_r2 c_q_r3
  obtain ⟨q_s, q_r, O_s, q_b, hB⟩ := HQ.out
  clear HQ
  have P_t := LP.of hm
  have hst := hm.below
  have hv := hm.v0
  clear hm
  have sz_w3 : w2.heap.size ≤ w3.heap.size := hst.size
  replace q_s := q_s.step hst
  replace q_r := q_r.step hst
  replace O_s := O_s.step hst
  replace q_b := q_b.step hst
  replace hB := hB.step hst
  clear hst
  have HQ := Lib.hid (And.intro q_s (And.intro q_r (And.intro O_s (And.intro q_b (And.intro P_t hB)))))
  clear q_s q_r O_s q_b P_t hB
  have c_q_s0 := LK.cell HQ.out.1 0
  have c_q_s1 := LK.cell HQ.out.1 1
  have c_q_s2 := LK.cell HQ.out.1 2
  have c_q_s3 := LK.cell HQ.out.1 3
  have z_q_s0 := LK.frozen HQ.out.1 0
  have z_q_s1 := LK.frozen HQ.out.1 1
  have z_q_s2 := LK.frozen HQ.out.1 2
  have z_q_s3 := LK.frozen HQ.out.1 3
  have c_q_r0 := LK.cell HQ.out.2.1 0
  have c_q_r1 := LK.cell HQ.out.2.1 1
  have c_q_r2 := LK.cell HQ.out.2.1 2
  have c_q_r3 := LK.cell HQ.out.2.1 3
  have z_q_r0 := LK.frozen HQ.out.2.1 0
  have z_q_r1 := LK.frozen HQ.out.2.1 1
  have z_q_r2 := LK.frozen HQ.out.2.1 2
  have z_q_r3 := LK.frozen HQ.out.2.1 3
  simp at c_q_s0 c_q_s1 c_q_s2 c_q_s3 c_q_r0 c_q_r1 c_q_r2 c_q_r3
  obtain ⟨a1, c1, rfl, -, -, -, -⟩ := hv.1.1
  obtain ⟨a2, c2, rfl, -, -, -, -⟩ := hv.1.2
  obtain ⟨a3, c3, rfl, -, -⟩ := hv.2.1.form rfl
  obtain ⟨a4, c4, rfl, -, -⟩ := hv.2.2.form rfl
  clear hv
  go_wp2
  refine bodyPost_ret (v := .tuple #[.agg #[.slice a1 TT.disk.blocks.length c1, .slice a2 TT.disk.waits.length c2, .slice a3 TT.now.length c3, .slice a4 TT.last.length c4], .int .i64 0]) (by simp [results, Try.results67, go_sem, c_q_r0, c_q_r1, c_q_r2, c_q_r3]) rfl ⟨_, _, _, _, rfl, ?_⟩
  exact (((MadeL.mk ((HQ.out.2.2.2.2.1.t).more (by omega) (Lv.hi_le HQ.out.2.2.2.2.1)) HQ.out.2.2.2.2.2 : MadeL w _ (w.heap.size + 2) _ _ _ _ _)).four (w.heap.size + 1) _ _ _ _ (by omega) (by omega)).made (by omega)

set_option maxRecDepth 100000 in
set_option maxHeartbeats 2000000 in
theorem dleave_any (b_s u_s x_s y_s : Value) (s : StoreL) (p : Int) (w : World) (h_s : StoreV w 0 w.heap.size b_s u_s x_s y_s s) :
    Calls Try.prog 28 #[.agg #[b_s, u_s, x_s, y_s], .int .i64 p] w fun e w' => ∃ b' u' x' y', e = .returned (.tuple #[.agg #[b', u', x', y'], .int .i64 (errLv s p)]) ∧ MadeS w w' b' u' x' y' (leftS s p) := by
  obtain ⟨ab_s, cb_s, rfl, gb_s, gc_s, -, -⟩ := h_s.1.1
  obtain ⟨au_s, cu_s, rfl, gu_s, gv_s, -, -⟩ := h_s.1.2
  obtain ⟨ax_s, cx_s, rfl, gx_s, gz_s⟩ := h_s.2.1.form rfl
  obtain ⟨ay_s, cy_s, rfl, gy_s, gw_s⟩ := h_s.2.2.form rfl
  unfold maxLen at gc_s gv_s gz_s gw_s
  have hst := ((((Below.refl w.heap.size w).alloc (Nat.le_refl _) (.cells #[.slice ab_s s.disk.blocks.length cb_s, .slice au_s s.disk.waits.length cu_s, .slice ax_s s.now.length cx_s, .slice ay_s s.last.length cy_s] 28)).alloc (by simp) (.cells #[.int .i64 p] 3)).alloc (by simp; omega) (.cells #[.slice none 0 0, .slice none 0 0, .slice none 0 0, .slice none 0 0] 28))
  have hq := three_new w (.cells #[.slice ab_s s.disk.blocks.length cb_s, .slice au_s s.disk.waits.length cu_s, .slice ax_s s.now.length cx_s, .slice ay_s s.last.length cy_s] 28) (.cells #[.int .i64 p] 3) (.cells #[.slice none 0 0, .slice none 0 0, .slice none 0 0, .slice none 0 0] 28)
  have q_s := LK.of hq.1
  have q_p := LK.of hq.2.1
  have q_r := LK.of hq.2.2
  have hB : LW w _ := hst
  have O_s := (LO.of h_s (Nat.le_refl _)).step hst
  have sz_V : w.heap.size + 2 < (((w.alloc (.cells #[.slice ab_s s.disk.blocks.length cb_s, .slice au_s s.disk.waits.length cu_s, .slice ax_s s.now.length cx_s, .slice ay_s s.last.length cy_s] 28)).alloc (.cells #[.int .i64 p] 3)).alloc (.cells #[.slice none 0 0, .slice none 0 0, .slice none 0 0, .slice none 0 0] 28)).heap.size := by simp
  obtain ⟨V, hV⟩ : ∃ V, (((w.alloc (.cells #[.slice ab_s s.disk.blocks.length cb_s, .slice au_s s.disk.waits.length cu_s, .slice ax_s s.now.length cx_s, .slice ay_s s.last.length cy_s] 28)).alloc (.cells #[.int .i64 p] 3)).alloc (.cells #[.slice none 0 0, .slice none 0 0, .slice none 0 0, .slice none 0 0] 28)) = V := ⟨_, rfl⟩
  rw [hV] at sz_V q_s q_p q_r O_s hB
  clear hst h_s hq
  have HQ := Lib.hid (And.intro q_s (And.intro q_p (And.intro q_r (And.intro O_s hB))))
  clear q_s q_p q_r O_s hB
  have c_q_s0 := LK.cell HQ.out.1 0
  have c_q_s1 := LK.cell HQ.out.1 1
  have c_q_s2 := LK.cell HQ.out.1 2
  have c_q_s3 := LK.cell HQ.out.1 3
  have c_q_p0 := LK.cell HQ.out.2.1 0
  have c_q_r0 := LK.cell HQ.out.2.2.1 0
  have c_q_r1 := LK.cell HQ.out.2.2.1 1
  have c_q_r2 := LK.cell HQ.out.2.2.1 2
  have c_q_r3 := LK.cell HQ.out.2.2.1 3
  simp at c_q_s0 c_q_s1 c_q_s2 c_q_s3 c_q_p0 c_q_r0 c_q_r1 c_q_r2 c_q_r3
  have k_a := fun V b u x y hh => drasked_any b u x y s p V hh
  have hE : (errAs s p ≠ 0 ∧ errLv s p = errAs s p ∧ leftS s p = noS) ∨ (errAs s p = 0 ∧ mayS s = true ∧ ∃ pn : Nat, p = pn ∧ 8 ≤ pn ∧ pn < 256 ∧ errLv s p = (if lvS s pn = none then 8 else 0) ∧ leftS s p = (if lvS s pn = none then noS else ⟨s.disk, (lvS s pn).getD [], s.last⟩)) := by
    by_cases h : errAs s p = 0
    · obtain ⟨m, h8, h9, -⟩ := errAs_zero h
      obtain ⟨pn, rfl⟩ : ∃ pn : Nat, p = pn := ⟨p.toNat, by omega⟩
      have e1 : errLv s (pn : Int) = (if lvS s pn = none then 8 else 0) := by unfold errLv; rw [h, if_neg (by decide), Int.toNat_natCast]
      refine .inr ⟨h, m, pn, rfl, by omega, by omega, e1, ?_⟩
      unfold leftS
      rw [e1, Int.toNat_natCast]
      cases lvS s pn <;> simp
    · have e : errLv s p = errAs s p := by unfold errLv; rw [if_pos h]
      exact .inl ⟨h, e, by unfold leftS; rw [e, if_neg h]⟩
  have k_d := fun (hm : mayS s = true) (pn : Nat) bp V b u x y hh h8 hp hb => ddone_left b u x y s bp pn V hh hm h8 hp hb
  obtain ⟨el, hel⟩ : ∃ e, errLv s p = e := ⟨_, rfl⟩
  obtain ⟨ts, hts⟩ : ∃ e, leftS s p = e := ⟨_, rfl⟩
  obtain ⟨ea, hea⟩ : ∃ e, errAs s p = e := ⟨_, rfl⟩
  simp only [hel, hts, hea] at hE k_a ⊢
  clear hel hts hea
  have HC := Lib.hid (And.intro k_a k_d)
  clear k_a k_d
  go_enter Try.func28, Try.ntmps28
  go_upto_region 1 with (fail)
  clear hV
  go_wp2_with fail
  refine (HC.out.1 _ _ _ _ _ HQ.out.2.2.2.1.v).mono ?_
  rintro e w1 ⟨rfl, hst⟩
  clear c_q_s0 c_q_s1 c_q_s2 c_q_s3 c_q_p0 c_q_r0 c_q_r1 c_q_r2 c_q_r3
  obtain ⟨q_s, q_p, q_r, O_s, hB⟩ := HQ.out
  clear HQ
  have sz_w1 : V.heap.size ≤ w1.heap.size := hst.size
  replace q_s := q_s.step hst
  replace q_p := q_p.step hst
  replace q_r := q_r.step hst
  replace O_s := O_s.step hst
  replace hB := hB.step hst
  clear hst
  have HQ := Lib.hid (And.intro q_s (And.intro q_p (And.intro q_r (And.intro O_s hB))))
  clear q_s q_p q_r O_s hB
  have c_q_s0 := LK.cell HQ.out.1 0
  have c_q_s1 := LK.cell HQ.out.1 1
  have c_q_s2 := LK.cell HQ.out.1 2
  have c_q_s3 := LK.cell HQ.out.1 3
  have c_q_p0 := LK.cell HQ.out.2.1 0
  have c_q_r0 := LK.cell HQ.out.2.2.1 0
  have c_q_r1 := LK.cell HQ.out.2.2.1 1
  have c_q_r2 := LK.cell HQ.out.2.2.1 2
  have c_q_r3 := LK.cell HQ.out.2.2.1 3
  have z_q_r0 := LK.frozen HQ.out.2.2.1 0
  have z_q_r1 := LK.frozen HQ.out.2.2.1 1
  have z_q_r2 := LK.frozen HQ.out.2.2.1 2
  have z_q_r3 := LK.frozen HQ.out.2.2.1 3
  simp at c_q_s0 c_q_s1 c_q_s2 c_q_s3 c_q_p0 c_q_r0 c_q_r1 c_q_r2 c_q_r3
  rcases hE with ⟨hn, rfl, rfl⟩ | ⟨rfl, hm, pn, rfl, h8, h9, he, ht⟩
  · have i1 : (el == 0) = false := by simp [hn]
    have i2 : (el != 0) = true := by simp [hn]
    go_wp2
    refine bodyPost_ret (v := .tuple #[.agg #[.slice none 0 0, .slice none 0 0, .slice none 0 0, .slice none 0 0], .int .i64 el]) (by simp [results, Try.results28, go_sem, c_q_r0, c_q_r1, c_q_r2, c_q_r3]) rfl ⟨_, _, _, _, rfl, ?_⟩
    exact ((MadeL.nil_ (w.heap.size + 3) HQ.out.2.2.2.2).four (w.heap.size + 1 + 1) _ _ _ _ (by omega) (by omega)).made (by omega)
  have HT := Lib.hid (And.intro hm ht)
  clear hm ht
  have HE := Lib.hid he
  clear he
  go_wp2_with fail
  refine (HC.out.2 HT.out.1 pn (w.heap.size + 1) _ _ _ _ _ HQ.out.2.2.2.1.v h8 h9 (LK.blk HQ.out.2.1)).mono ?_
  rintro e w2 ⟨b1, u1, x1, y1, rfl, hm⟩
  clear z_q_r0 z_q_r1 z_q_r2 z_q_r3 c_q_s0 c_q_s1 c_q_s2 c_q_s3 c_q_p0 c_q_r0 c_q_r1 c_q_r2 c_q_r3
  obtain ⟨q_s, q_p, q_r, O_s, hB⟩ := HQ.out
  clear HQ
  rw [← HT.out.2] at hm
  rw [← HE.out]
  have P_t := LP.of hm
  have hst := hm.below
  have hv := hm.v0
  clear hm
  obtain ⟨a1, c1, rfl, -, -, -, -⟩ := hv.1.1
  obtain ⟨a2, c2, rfl, -, -, -, -⟩ := hv.1.2
  obtain ⟨a3, c3, rfl, -, -⟩ := hv.2.1.form rfl
  obtain ⟨a4, c4, rfl, -, -⟩ := hv.2.2.form rfl
  clear hv
  have sz_w2 : w1.heap.size ≤ w2.heap.size := hst.size
  replace q_s := q_s.step hst
  replace q_p := q_p.step hst
  replace q_r := q_r.step hst
  replace O_s := O_s.step hst
  replace hB := hB.step hst
  clear hst
  have HQ := Lib.hid (And.intro q_s (And.intro q_p (And.intro q_r (And.intro O_s (And.intro P_t hB)))))
  clear q_s q_p q_r O_s P_t hB
  have c_q_s0 := LK.cell HQ.out.1 0
  have c_q_s1 := LK.cell HQ.out.1 1
  have c_q_s2 := LK.cell HQ.out.1 2
  have c_q_s3 := LK.cell HQ.out.1 3
  have c_q_p0 := LK.cell HQ.out.2.1 0
  have c_q_r0 := LK.cell HQ.out.2.2.1 0
  have c_q_r1 := LK.cell HQ.out.2.2.1 1
  have c_q_r2 := LK.cell HQ.out.2.2.1 2
  have c_q_r3 := LK.cell HQ.out.2.2.1 3
  have z_q_r0 := LK.frozen HQ.out.2.2.1 0
  have z_q_r1 := LK.frozen HQ.out.2.2.1 1
  have z_q_r2 := LK.frozen HQ.out.2.2.1 2
  have z_q_r3 := LK.frozen HQ.out.2.2.1 3
  simp at c_q_s0 c_q_s1 c_q_s2 c_q_s3 c_q_p0 c_q_r0 c_q_r1 c_q_r2 c_q_r3
  go_wp2
  refine bodyPost_ret (v := .tuple #[.agg #[.slice a1 ts.disk.blocks.length c1, .slice a2 ts.disk.waits.length c2, .slice a3 ts.now.length c3, .slice a4 ts.last.length c4], .int .i64 el]) (by simp [results, Try.results28, go_sem, c_q_r0, c_q_r1, c_q_r2, c_q_r3]) rfl ⟨_, _, _, _, rfl, ?_⟩
  exact (((MadeL.mk ((HQ.out.2.2.2.2.1.t).more (by omega) (Lv.hi_le HQ.out.2.2.2.2.1)) HQ.out.2.2.2.2.2 : MadeL w _ (w.heap.size + 3) _ _ _ _ ts)).four (w.heap.size + 1 + 1) _ _ _ _ (by omega) (by omega)).made (by omega)

set_option maxRecDepth 100000 in
set_option maxHeartbeats 2000000 in
theorem dloose_any (b_s u_s x_s y_s : Value) (s : StoreL) (p : Int) (w : World) (h_s : StoreV w 0 w.heap.size b_s u_s x_s y_s s) :
    Calls Try.prog 30 #[.agg #[b_s, u_s, x_s, y_s], .int .i64 p] w fun e w' => ∃ b' u' x' y', e = .returned (.tuple #[.agg #[b', u', x', y'], .int .i64 (errAs s p)]) ∧ MadeS w w' b' u' x' y' (loosS s p) := by
  obtain ⟨ab_s, cb_s, rfl, gb_s, gc_s, -, -⟩ := h_s.1.1
  obtain ⟨au_s, cu_s, rfl, gu_s, gv_s, -, -⟩ := h_s.1.2
  obtain ⟨ax_s, cx_s, rfl, gx_s, gz_s⟩ := h_s.2.1.form rfl
  obtain ⟨ay_s, cy_s, rfl, gy_s, gw_s⟩ := h_s.2.2.form rfl
  unfold maxLen at gc_s gv_s gz_s gw_s
  have hst := ((((Below.refl w.heap.size w).alloc (Nat.le_refl _) (.cells #[.slice ab_s s.disk.blocks.length cb_s, .slice au_s s.disk.waits.length cu_s, .slice ax_s s.now.length cx_s, .slice ay_s s.last.length cy_s] 28)).alloc (by simp) (.cells #[.int .i64 p] 3)).alloc (by simp; omega) (.cells #[.slice none 0 0, .slice none 0 0, .slice none 0 0, .slice none 0 0] 28))
  have hq := three_new w (.cells #[.slice ab_s s.disk.blocks.length cb_s, .slice au_s s.disk.waits.length cu_s, .slice ax_s s.now.length cx_s, .slice ay_s s.last.length cy_s] 28) (.cells #[.int .i64 p] 3) (.cells #[.slice none 0 0, .slice none 0 0, .slice none 0 0, .slice none 0 0] 28)
  have q_s := LK.of hq.1
  have q_p := LK.of hq.2.1
  have q_r := LK.of hq.2.2
  have hB : LW w _ := hst
  have O_s := (LO.of h_s (Nat.le_refl _)).step hst
  have sz_V : w.heap.size + 2 < (((w.alloc (.cells #[.slice ab_s s.disk.blocks.length cb_s, .slice au_s s.disk.waits.length cu_s, .slice ax_s s.now.length cx_s, .slice ay_s s.last.length cy_s] 28)).alloc (.cells #[.int .i64 p] 3)).alloc (.cells #[.slice none 0 0, .slice none 0 0, .slice none 0 0, .slice none 0 0] 28)).heap.size := by simp
  obtain ⟨V, hV⟩ : ∃ V, (((w.alloc (.cells #[.slice ab_s s.disk.blocks.length cb_s, .slice au_s s.disk.waits.length cu_s, .slice ax_s s.now.length cx_s, .slice ay_s s.last.length cy_s] 28)).alloc (.cells #[.int .i64 p] 3)).alloc (.cells #[.slice none 0 0, .slice none 0 0, .slice none 0 0, .slice none 0 0] 28)) = V := ⟨_, rfl⟩
  rw [hV] at sz_V q_s q_p q_r O_s hB
  clear hst h_s hq
  have HQ := Lib.hid (And.intro q_s (And.intro q_p (And.intro q_r (And.intro O_s hB))))
  clear q_s q_p q_r O_s hB
  have c_q_s0 := LK.cell HQ.out.1 0
  have c_q_s1 := LK.cell HQ.out.1 1
  have c_q_s2 := LK.cell HQ.out.1 2
  have c_q_s3 := LK.cell HQ.out.1 3
  have c_q_p0 := LK.cell HQ.out.2.1 0
  have c_q_r0 := LK.cell HQ.out.2.2.1 0
  have c_q_r1 := LK.cell HQ.out.2.2.1 1
  have c_q_r2 := LK.cell HQ.out.2.2.1 2
  have c_q_r3 := LK.cell HQ.out.2.2.1 3
  simp at c_q_s0 c_q_s1 c_q_s2 c_q_s3 c_q_p0 c_q_r0 c_q_r1 c_q_r2 c_q_r3
  have k_a := fun V b u x y hh => drasked_any b u x y s p V hh
  have hE : (errAs s p ≠ 0 ∧ loosS s p = noS) ∨ (errAs s p = 0 ∧ mayS s = true ∧ ∃ pn : Nat, p = pn ∧ 8 ≤ pn ∧ pn < 256 ∧ s.now.getD pn 0 ≠ 0 ∧ loosS s p = ⟨s.disk, s.now.set pn (s.now.getD pn 0 + 255), s.last⟩) := by
    by_cases h : errAs s p = 0
    · obtain ⟨m, h8, h9, hn⟩ := errAs_zero h
      obtain ⟨pn, rfl⟩ : ∃ pn : Nat, p = pn := ⟨p.toNat, by omega⟩
      rw [Int.toNat_natCast] at hn
      exact .inr ⟨h, m, pn, rfl, by omega, by omega, hn, by unfold loosS; rw [if_pos h, Int.toNat_natCast]⟩
    · exact .inl ⟨h, by unfold loosS; rw [if_neg h]⟩
  have k_d := fun (hm : mayS s = true) (pn : Nat) hn bp V b u x y hh h8 hp hb => ddone_loos b u x y s bp pn V hh hm h8 hp hn hb
  obtain ⟨ts, hts⟩ : ∃ e, loosS s p = e := ⟨_, rfl⟩
  obtain ⟨ea, hea⟩ : ∃ e, errAs s p = e := ⟨_, rfl⟩
  simp only [hts, hea] at hE k_a ⊢
  clear hts hea
  have HC := Lib.hid (And.intro k_a k_d)
  clear k_a k_d
  go_enter Try.func30, Try.ntmps30
  go_upto_region 1 with (fail)
  clear hV
  go_wp2_with fail
  refine (HC.out.1 _ _ _ _ _ HQ.out.2.2.2.1.v).mono ?_
  rintro e w1 ⟨rfl, hst⟩
  clear c_q_s0 c_q_s1 c_q_s2 c_q_s3 c_q_p0 c_q_r0 c_q_r1 c_q_r2 c_q_r3
  obtain ⟨q_s, q_p, q_r, O_s, hB⟩ := HQ.out
  clear HQ
  have sz_w1 : V.heap.size ≤ w1.heap.size := hst.size
  replace q_s := q_s.step hst
  replace q_p := q_p.step hst
  replace q_r := q_r.step hst
  replace O_s := O_s.step hst
  replace hB := hB.step hst
  clear hst
  have HQ := Lib.hid (And.intro q_s (And.intro q_p (And.intro q_r (And.intro O_s hB))))
  clear q_s q_p q_r O_s hB
  have c_q_s0 := LK.cell HQ.out.1 0
  have c_q_s1 := LK.cell HQ.out.1 1
  have c_q_s2 := LK.cell HQ.out.1 2
  have c_q_s3 := LK.cell HQ.out.1 3
  have c_q_p0 := LK.cell HQ.out.2.1 0
  have c_q_r0 := LK.cell HQ.out.2.2.1 0
  have c_q_r1 := LK.cell HQ.out.2.2.1 1
  have c_q_r2 := LK.cell HQ.out.2.2.1 2
  have c_q_r3 := LK.cell HQ.out.2.2.1 3
  have z_q_r0 := LK.frozen HQ.out.2.2.1 0
  have z_q_r1 := LK.frozen HQ.out.2.2.1 1
  have z_q_r2 := LK.frozen HQ.out.2.2.1 2
  have z_q_r3 := LK.frozen HQ.out.2.2.1 3
  simp at c_q_s0 c_q_s1 c_q_s2 c_q_s3 c_q_p0 c_q_r0 c_q_r1 c_q_r2 c_q_r3
  rcases hE with ⟨hn, rfl⟩ | ⟨rfl, hm, pn, rfl, h8, h9, hx, ht⟩
  · have i1 : (ea == 0) = false := by simp [hn]
    have i2 : (ea != 0) = true := by simp [hn]
    go_wp2
    refine bodyPost_ret (v := .tuple #[.agg #[.slice none 0 0, .slice none 0 0, .slice none 0 0, .slice none 0 0], .int .i64 ea]) (by simp [results, Try.results30, go_sem, c_q_r0, c_q_r1, c_q_r2, c_q_r3]) rfl ⟨_, _, _, _, rfl, ?_⟩
    exact ((MadeL.nil_ (w.heap.size + 3) HQ.out.2.2.2.2).four (w.heap.size + 1 + 1) _ _ _ _ (by omega) (by omega)).made (by omega)
  have HT := Lib.hid (And.intro hm ht)
  clear hm ht
  go_wp2_with fail
  refine (HC.out.2 HT.out.1 pn hx (w.heap.size + 1) _ _ _ _ _ HQ.out.2.2.2.1.v h8 h9 (LK.blk HQ.out.2.1)).mono ?_
  rintro e w2 ⟨b1, u1, x1, y1, rfl, hm⟩
  clear z_q_r0 z_q_r1 z_q_r2 z_q_r3 c_q_s0 c_q_s1 c_q_s2 c_q_s3 c_q_p0 c_q_r0 c_q_r1 c_q_r2 c_q_r3
  obtain ⟨q_s, q_p, q_r, O_s, hB⟩ := HQ.out
  clear HQ
  rw [← HT.out.2] at hm
  have P_t := LP.of hm
  have hst := hm.below
  have hv := hm.v0
  clear hm
  obtain ⟨a1, c1, rfl, -, -, -, -⟩ := hv.1.1
  obtain ⟨a2, c2, rfl, -, -, -, -⟩ := hv.1.2
  obtain ⟨a3, c3, rfl, -, -⟩ := hv.2.1.form rfl
  obtain ⟨a4, c4, rfl, -, -⟩ := hv.2.2.form rfl
  clear hv
  have sz_w2 : w1.heap.size ≤ w2.heap.size := hst.size
  replace q_s := q_s.step hst
  replace q_p := q_p.step hst
  replace q_r := q_r.step hst
  replace O_s := O_s.step hst
  replace hB := hB.step hst
  clear hst
  have HQ := Lib.hid (And.intro q_s (And.intro q_p (And.intro q_r (And.intro O_s (And.intro P_t hB)))))
  clear q_s q_p q_r O_s P_t hB
  have c_q_s0 := LK.cell HQ.out.1 0
  have c_q_s1 := LK.cell HQ.out.1 1
  have c_q_s2 := LK.cell HQ.out.1 2
  have c_q_s3 := LK.cell HQ.out.1 3
  have c_q_p0 := LK.cell HQ.out.2.1 0
  have c_q_r0 := LK.cell HQ.out.2.2.1 0
  have c_q_r1 := LK.cell HQ.out.2.2.1 1
  have c_q_r2 := LK.cell HQ.out.2.2.1 2
  have c_q_r3 := LK.cell HQ.out.2.2.1 3
  have z_q_r0 := LK.frozen HQ.out.2.2.1 0
  have z_q_r1 := LK.frozen HQ.out.2.2.1 1
  have z_q_r2 := LK.frozen HQ.out.2.2.1 2
  have z_q_r3 := LK.frozen HQ.out.2.2.1 3
  simp at c_q_s0 c_q_s1 c_q_s2 c_q_s3 c_q_p0 c_q_r0 c_q_r1 c_q_r2 c_q_r3
  go_wp2
  refine bodyPost_ret (v := .tuple #[.agg #[.slice a1 ts.disk.blocks.length c1, .slice a2 ts.disk.waits.length c2, .slice a3 ts.now.length c3, .slice a4 ts.last.length c4], .int .i64 0]) (by simp [results, Try.results30, go_sem, c_q_r0, c_q_r1, c_q_r2, c_q_r3]) rfl ⟨_, _, _, _, rfl, ?_⟩
  exact (((MadeL.mk ((HQ.out.2.2.2.2.1.t).more (by omega) (Lv.hi_le HQ.out.2.2.2.2.1)) HQ.out.2.2.2.2.2 : MadeL w _ (w.heap.size + 3) _ _ _ _ ts)).four (w.heap.size + 1 + 1) _ _ _ _ (by omega) (by omega)).made (by omega)

set_option maxRecDepth 100000 in
set_option maxHeartbeats 2000000 in
theorem dmake_any (b_s u_s x_s y_s : Value) (s : StoreL) (n : NodeL) (u_n : Value) (w : World) (h_s : StoreV w 0 w.heap.size b_s u_s x_s y_s s) (h_n : (Lit.int .i64 n.level).wf = true ∧ Sl rItem w 0 w.heap.size u_n n.items) :
    Calls Try.prog 26 #[.agg #[b_s, u_s, x_s, y_s], .agg #[.int .i64 n.level, u_n]] w fun e w' => ∃ b' u' x' y', e = .returned (.tuple #[.agg #[b', u', x', y'], .int .i64 (atD s n), .int .i64 (errDm s n)]) ∧ MadeS w w' b' u' x' y' (madS s n) := by
  obtain ⟨ab_s, cb_s, rfl, gb_s, gc_s, -, -⟩ := h_s.1.1
  obtain ⟨au_s, cu_s, rfl, gu_s, gv_s, -, -⟩ := h_s.1.2
  obtain ⟨ax_s, cx_s, rfl, gx_s, gz_s⟩ := h_s.2.1.form rfl
  obtain ⟨ay_s, cy_s, rfl, gy_s, gw_s⟩ := h_s.2.2.form rfl
  unfold maxLen at gc_s gv_s gz_s gw_s
  obtain ⟨hw_n, h_n⟩ := h_n
  obtain ⟨a_n, c_n, rfl, g_n, gm_n, -, -⟩ := id h_n
  unfold maxLen at gm_n
  have hst := ((((Below.refl w.heap.size w).alloc (Nat.le_refl _) (.cells #[.slice ab_s s.disk.blocks.length cb_s, .slice au_s s.disk.waits.length cu_s, .slice ax_s s.now.length cx_s, .slice ay_s s.last.length cy_s] 28)).alloc (by simp) (.cells #[.int .i64 n.level, .slice a_n n.items.length c_n] 47)).alloc (by simp; omega) (.cells #[.slice none 0 0, .slice none 0 0, .slice none 0 0, .slice none 0 0] 28))
  have hq := three_new w (.cells #[.slice ab_s s.disk.blocks.length cb_s, .slice au_s s.disk.waits.length cu_s, .slice ax_s s.now.length cx_s, .slice ay_s s.last.length cy_s] 28) (.cells #[.int .i64 n.level, .slice a_n n.items.length c_n] 47) (.cells #[.slice none 0 0, .slice none 0 0, .slice none 0 0, .slice none 0 0] 28)
  have q_s := LK.of hq.1
  have q_n := LK.of hq.2.1
  have q_r := LK.of hq.2.2
  have hB : LW w _ := hst
  have O_s := (LO.of h_s (Nat.le_refl _)).step hst
  have S_n := (LS.of h_n (Nat.le_refl _)).step hst
  have sz_V : w.heap.size + 2 < (((w.alloc (.cells #[.slice ab_s s.disk.blocks.length cb_s, .slice au_s s.disk.waits.length cu_s, .slice ax_s s.now.length cx_s, .slice ay_s s.last.length cy_s] 28)).alloc (.cells #[.int .i64 n.level, .slice a_n n.items.length c_n] 47)).alloc (.cells #[.slice none 0 0, .slice none 0 0, .slice none 0 0, .slice none 0 0] 28)).heap.size := by simp
  obtain ⟨V, hV⟩ : ∃ V, (((w.alloc (.cells #[.slice ab_s s.disk.blocks.length cb_s, .slice au_s s.disk.waits.length cu_s, .slice ax_s s.now.length cx_s, .slice ay_s s.last.length cy_s] 28)).alloc (.cells #[.int .i64 n.level, .slice a_n n.items.length c_n] 47)).alloc (.cells #[.slice none 0 0, .slice none 0 0, .slice none 0 0, .slice none 0 0] 28)) = V := ⟨_, rfl⟩
  rw [hV] at sz_V q_s q_n q_r O_s S_n hB
  clear hst h_s h_n hq
  have HQ := Lib.hid (And.intro q_s (And.intro q_n (And.intro q_r (And.intro O_s (And.intro S_n hB)))))
  clear q_s q_n q_r O_s S_n hB
  have c_q_s0 := LK.cell HQ.out.1 0
  have c_q_s1 := LK.cell HQ.out.1 1
  have c_q_s2 := LK.cell HQ.out.1 2
  have c_q_s3 := LK.cell HQ.out.1 3
  have c_q_n0 := LK.cell HQ.out.2.1 0
  have c_q_n1 := LK.cell HQ.out.2.1 1
  have c_q_r0 := LK.cell HQ.out.2.2.1 0
  have c_q_r1 := LK.cell HQ.out.2.2.1 1
  have c_q_r2 := LK.cell HQ.out.2.2.1 2
  have c_q_r3 := LK.cell HQ.out.2.2.1 3
  simp at c_q_s0 c_q_s1 c_q_s2 c_q_s3 c_q_n0 c_q_n1 c_q_r0 c_q_r1 c_q_r2 c_q_r3
  have k_c := fun V b u x y hh => scheck_any b u x y s V hh
  have k_n := fun V v hh => ncheck_any n v V hh
  have k_o := fun (h : s.now.length = 256) V b u x y hh => on_any b u x y s V hh h
  have k_m := fun lo g nb no nc b y au v V hb hm hi => bmake_any lo g nb no nc b y au s n v V hb hm hi
  have hE : (mayS s = false ∧ errS s = 8 ∧ errDm s n = 8 ∧ atD s n = 0 ∧ madS s n = noS) ∨ (mayS s = true ∧ errS s = 0 ∧ ((mayE (mayN n) = 8 ∧ errDm s n = 8 ∧ atD s n = 0 ∧ madS s n = noS) ∨ (mayE (mayN n) = 0 ∧ ((errMk s n ≠ 0 ∧ errDm s n = errMk s n ∧ atD s n = 0 ∧ madS s n = noS) ∨ (errMk s n = 0 ∧ errDm s n = 0 ∧ atD s n = atMk s n ∧ madS s n = mkS s n ∧ FewS (mkS s n)))))) := by
    have hz : ∀ e : Int, e ≠ 0 → errDm s n = e → atD s n = 0 ∧ madS s n = noS := fun e h1 h2 => by unfold atD madS; rw [h2, if_neg h1, if_neg h1]; exact ⟨rfl, rfl⟩
    cases hm : mayS s with
    | false =>
      have h : errDm s n = 8 := by unfold errDm; rw [hm]; rfl
      exact .inl ⟨rfl, by unfold errS; rw [hm]; rfl, h, hz 8 (by decide) h⟩
    | true =>
      have hd : errDm s n = errMk s n := by unfold errDm; rw [hm]; rfl
      refine .inr ⟨rfl, by unfold errS; rw [hm]; rfl, ?_⟩
      cases hn : mayN n with
      | false =>
        have h : errDm s n = 8 := by rw [hd]; unfold errMk; rw [hn]; rfl
        exact .inl ⟨rfl, h, hz 8 (by decide) h⟩
      | true =>
        refine .inr ⟨rfl, ?_⟩
        by_cases h : errMk s n = 0
        · have h2 := hd.trans h
          obtain ⟨-, -, -, -, e1, e2, -⟩ := errDm_zero h2
          refine .inr ⟨h, h2, by unfold atD; rw [if_pos h2], e1, ?_⟩
          rw [← e1]
          exact FewS.of_may e2
        · exact .inl ⟨h, hd, hz _ (by rw [hd]; exact h) rfl⟩
  have h256 : mayS s = true → s.now.length = 256 := fun h => mayT_len (mayS_iff.1 h).2.1
  have HL := Lib.hid h256
  clear h256
  obtain ⟨es, hes⟩ : ∃ e, errS s = e := ⟨_, rfl⟩
  obtain ⟨en, hen⟩ : ∃ e, mayE (mayN n) = e := ⟨_, rfl⟩
  obtain ⟨ed, hed⟩ : ∃ e, errDm s n = e := ⟨_, rfl⟩
  obtain ⟨ad, had⟩ : ∃ e, atD s n = e := ⟨_, rfl⟩
  obtain ⟨ms, hms⟩ : ∃ e, madS s n = e := ⟨_, rfl⟩
  obtain ⟨em, hem⟩ : ∃ e, errMk s n = e := ⟨_, rfl⟩
  obtain ⟨am, ham⟩ : ∃ e, atMk s n = e := ⟨_, rfl⟩
  obtain ⟨mk, hmk⟩ : ∃ e, mkS s n = e := ⟨_, rfl⟩
  simp only [hes, hen, hed, had, hms, hem, ham, hmk] at hE k_c k_n k_m ⊢
  clear hes hen hed had hms hem ham hmk
  have HC := Lib.hid (And.intro k_c (And.intro k_n (And.intro k_o k_m)))
  clear k_c k_n k_o k_m
  go_enter Try.func26, Try.ntmps26
  go_upto_region 1 with (fail)
  clear hV
  go_wp2_with fail
  refine (HC.out.1 _ _ _ _ _ HQ.out.2.2.2.1.v).mono ?_
  rintro e w1 ⟨rfl, hst⟩
  clear c_q_s0 c_q_s1 c_q_s2 c_q_s3 c_q_n0 c_q_n1 c_q_r0 c_q_r1 c_q_r2 c_q_r3
  obtain ⟨q_s, q_n, q_r, O_s, S_n, hB⟩ := HQ.out
  clear HQ
  have sz_w1 : V.heap.size ≤ w1.heap.size := hst.size
  replace q_s := q_s.step hst
  replace q_n := q_n.step hst
  replace q_r := q_r.step hst
  replace O_s := O_s.step hst
  replace S_n := S_n.step hst
  replace hB := hB.step hst
  clear hst
  have HQ := Lib.hid (And.intro q_s (And.intro q_n (And.intro q_r (And.intro O_s (And.intro S_n hB)))))
  clear q_s q_n q_r O_s S_n hB
  have c_q_s0 := LK.cell HQ.out.1 0
  have c_q_s1 := LK.cell HQ.out.1 1
  have c_q_s2 := LK.cell HQ.out.1 2
  have c_q_s3 := LK.cell HQ.out.1 3
  have c_q_n0 := LK.cell HQ.out.2.1 0
  have c_q_n1 := LK.cell HQ.out.2.1 1
  have c_q_r0 := LK.cell HQ.out.2.2.1 0
  have c_q_r1 := LK.cell HQ.out.2.2.1 1
  have c_q_r2 := LK.cell HQ.out.2.2.1 2
  have c_q_r3 := LK.cell HQ.out.2.2.1 3
  have z_q_r0 := LK.frozen HQ.out.2.2.1 0
  have z_q_r1 := LK.frozen HQ.out.2.2.1 1
  have z_q_r2 := LK.frozen HQ.out.2.2.1 2
  have z_q_r3 := LK.frozen HQ.out.2.2.1 3
  simp at c_q_s0 c_q_s1 c_q_s2 c_q_s3 c_q_n0 c_q_n1 c_q_r0 c_q_r1 c_q_r2 c_q_r3
  rcases hE with ⟨hm, rfl, rfl, rfl, rfl⟩ | ⟨hm, rfl, hE⟩
  · skip
    go_wp2
    refine bodyPost_ret (v := .tuple #[.agg #[.slice none 0 0, .slice none 0 0, .slice none 0 0, .slice none 0 0], .int .i64 0, .int .i64 8]) (by simp [results, Try.results26, go_sem, c_q_r0, c_q_r1, c_q_r2, c_q_r3]) rfl ⟨_, _, _, _, rfl, ?_⟩
    exact ((MadeL.nil_ (w.heap.size + 3) HQ.out.2.2.2.2.2).four (w.heap.size + 1 + 1) _ _ _ _ (by omega) (by omega)).made (by omega)
  have HM := Lib.hid hm
  clear hm
  go_wp2_with fail
  refine (HC.out.2.1 _ _ HQ.out.2.2.2.2.1.v).mono ?_
  rintro e w2 ⟨rfl, hst⟩
  clear z_q_r0 z_q_r1 z_q_r2 z_q_r3 c_q_s0 c_q_s1 c_q_s2 c_q_s3 c_q_n0 c_q_n1 c_q_r0 c_q_r1 c_q_r2 c_q_r3
  obtain ⟨q_s, q_n, q_r, O_s, S_n, hB⟩ := HQ.out
  clear HQ
  have sz_w2 : w1.heap.size ≤ w2.heap.size := hst.size
  replace q_s := q_s.step hst
  replace q_n := q_n.step hst
  replace q_r := q_r.step hst
  replace O_s := O_s.step hst
  replace S_n := S_n.step hst
  replace hB := hB.step hst
  clear hst
  have HQ := Lib.hid (And.intro q_s (And.intro q_n (And.intro q_r (And.intro O_s (And.intro S_n hB)))))
  clear q_s q_n q_r O_s S_n hB
  have c_q_s0 := LK.cell HQ.out.1 0
  have c_q_s1 := LK.cell HQ.out.1 1
  have c_q_s2 := LK.cell HQ.out.1 2
  have c_q_s3 := LK.cell HQ.out.1 3
  have c_q_n0 := LK.cell HQ.out.2.1 0
  have c_q_n1 := LK.cell HQ.out.2.1 1
  have c_q_r0 := LK.cell HQ.out.2.2.1 0
  have c_q_r1 := LK.cell HQ.out.2.2.1 1
  have c_q_r2 := LK.cell HQ.out.2.2.1 2
  have c_q_r3 := LK.cell HQ.out.2.2.1 3
  have z_q_r0 := LK.frozen HQ.out.2.2.1 0
  have z_q_r1 := LK.frozen HQ.out.2.2.1 1
  have z_q_r2 := LK.frozen HQ.out.2.2.1 2
  have z_q_r3 := LK.frozen HQ.out.2.2.1 3
  simp at c_q_s0 c_q_s1 c_q_s2 c_q_s3 c_q_n0 c_q_n1 c_q_r0 c_q_r1 c_q_r2 c_q_r3
  rcases hE with ⟨rfl, rfl, rfl, rfl⟩ | ⟨rfl, hE⟩
  · skip
    go_wp2
    refine bodyPost_ret (v := .tuple #[.agg #[.slice none 0 0, .slice none 0 0, .slice none 0 0, .slice none 0 0], .int .i64 0, .int .i64 8]) (by simp [results, Try.results26, go_sem, c_q_r0, c_q_r1, c_q_r2, c_q_r3]) rfl ⟨_, _, _, _, rfl, ?_⟩
    exact ((MadeL.nil_ (w.heap.size + 3) HQ.out.2.2.2.2.2).four (w.heap.size + 1 + 1) _ _ _ _ (by omega) (by omega)).made (by omega)
  go_wp2_with fail
  refine (HC.out.2.2.1 (HL.out HM.out) _ _ _ _ _ HQ.out.2.2.2.1.v).mono ?_
  rintro e w3 ⟨g, nb, no, nc, au, rfl, hben, hst⟩
  clear z_q_r0 z_q_r1 z_q_r2 z_q_r3 c_q_s0 c_q_s1 c_q_s2 c_q_s3 c_q_n0 c_q_n1 c_q_r0 c_q_r1 c_q_r2 c_q_r3
  obtain ⟨q_s, q_n, q_r, O_s, S_n, hB⟩ := HQ.out
  clear HQ
  have l7 := hben.lo_
  have HBN := Lib.hid hben
  clear hben
  have sz_w3 : w2.heap.size ≤ w3.heap.size := hst.size
  replace q_s := q_s.step hst
  replace q_n := q_n.step hst
  replace q_r := q_r.step hst
  replace O_s := O_s.step hst
  replace S_n := S_n.step hst
  replace hB := hB.step hst
  clear hst
  have HQ := Lib.hid (And.intro q_s (And.intro q_n (And.intro q_r (And.intro O_s (And.intro S_n hB)))))
  clear q_s q_n q_r O_s S_n hB
  have c_q_s0 := LK.cell HQ.out.1 0
  have c_q_s1 := LK.cell HQ.out.1 1
  have c_q_s2 := LK.cell HQ.out.1 2
  have c_q_s3 := LK.cell HQ.out.1 3
  have c_q_n0 := LK.cell HQ.out.2.1 0
  have c_q_n1 := LK.cell HQ.out.2.1 1
  have c_q_r0 := LK.cell HQ.out.2.2.1 0
  have c_q_r1 := LK.cell HQ.out.2.2.1 1
  have c_q_r2 := LK.cell HQ.out.2.2.1 2
  have c_q_r3 := LK.cell HQ.out.2.2.1 3
  simp at c_q_s0 c_q_s1 c_q_s2 c_q_s3 c_q_n0 c_q_n1 c_q_r0 c_q_r1 c_q_r2 c_q_r3
  have HSN := Lib.hid ((Lv.get HQ.out.2.2.2.2.1).more (Nat.le_refl _) (by omega : w.heap.size ≤ w2.heap.size) : Sl rItem _ 0 w2.heap.size _ _)
  go_wp2_with fail
  refine (HC.out.2.2.2 w2.heap.size g nb no nc _ _ au _ w3 HBN.out HM.out HSN.out).mono ?_
  rintro e w4 ⟨rfl, hst, hmk⟩
  clear c_q_s0 c_q_s1 c_q_s2 c_q_s3 c_q_n0 c_q_n1 c_q_r0 c_q_r1 c_q_r2 c_q_r3
  obtain ⟨q_s, q_n, q_r, O_s, S_n, hB⟩ := HQ.out
  clear HQ
  have HMK := Lib.hid hmk
  clear hmk
  clear S_n
  have sz_w4 : w3.heap.size ≤ w4.heap.size := hst.size
  replace q_s := q_s.out (n0 := w2.heap.size) (h0 := w3.heap.size) hst.size (fun x hx hd => hst.block x (by omega)) (by omega)
  replace q_n := q_n.out (n0 := w2.heap.size) (h0 := w3.heap.size) hst.size (fun x hx hd => hst.block x (by omega)) (by omega)
  replace q_r := q_r.out (n0 := w2.heap.size) (h0 := w3.heap.size) hst.size (fun x hx hd => hst.block x (by omega)) (by omega)
  replace O_s := O_s.out (n0 := w2.heap.size) (h0 := w3.heap.size) hst.size (fun x hx hd => hst.block x (by omega)) (by omega)
  replace hB := hB.outB hst (by omega)
  clear hst
  have HQ := Lib.hid (And.intro q_s (And.intro q_n (And.intro q_r (And.intro O_s hB))))
  clear q_s q_n q_r O_s hB
  have c_q_s0 := LK.cell HQ.out.1 0
  have c_q_s1 := LK.cell HQ.out.1 1
  have c_q_s2 := LK.cell HQ.out.1 2
  have c_q_s3 := LK.cell HQ.out.1 3
  have c_q_n0 := LK.cell HQ.out.2.1 0
  have c_q_n1 := LK.cell HQ.out.2.1 1
  have c_q_r0 := LK.cell HQ.out.2.2.1 0
  have c_q_r1 := LK.cell HQ.out.2.2.1 1
  have c_q_r2 := LK.cell HQ.out.2.2.1 2
  have c_q_r3 := LK.cell HQ.out.2.2.1 3
  simp at c_q_s0 c_q_s1 c_q_s2 c_q_s3 c_q_n0 c_q_n1 c_q_r0 c_q_r1 c_q_r2 c_q_r3
  rcases hE with ⟨hn, rfl, rfl, rfl⟩ | ⟨rfl, rfl, rfl, rfl, hf⟩
  · have i1 : (ed == 0) = false := by simp [hn]
    have i2 : (ed != 0) = true := by simp [hn]
    clear c_q_s0 c_q_s1 c_q_s2 c_q_s3 c_q_n0 c_q_n1 c_q_r0 c_q_r1 c_q_r2 c_q_r3
    have c_q_s0 := LK.cell HQ.out.1 0
    have c_q_s1 := LK.cell HQ.out.1 1
    have c_q_s2 := LK.cell HQ.out.1 2
    have c_q_s3 := LK.cell HQ.out.1 3
    have c_q_n0 := LK.cell HQ.out.2.1 0
    have c_q_n1 := LK.cell HQ.out.2.1 1
    have c_q_r0 := LK.cell HQ.out.2.2.1 0
    have c_q_r1 := LK.cell HQ.out.2.2.1 1
    have c_q_r2 := LK.cell HQ.out.2.2.1 2
    have c_q_r3 := LK.cell HQ.out.2.2.1 3
    have z_q_r0 := LK.frozen HQ.out.2.2.1 0
    have z_q_r1 := LK.frozen HQ.out.2.2.1 1
    have z_q_r2 := LK.frozen HQ.out.2.2.1 2
    have z_q_r3 := LK.frozen HQ.out.2.2.1 3
    simp at c_q_s0 c_q_s1 c_q_s2 c_q_s3 c_q_n0 c_q_n1 c_q_r0 c_q_r1 c_q_r2 c_q_r3
    go_wp2
    refine bodyPost_ret (v := .tuple #[.agg #[.slice none 0 0, .slice none 0 0, .slice none 0 0, .slice none 0 0], .int .i64 0, .int .i64 ed]) (by simp [results, Try.results26, go_sem, c_q_r0, c_q_r1, c_q_r2, c_q_r3]) rfl ⟨_, _, _, _, rfl, ?_⟩
    exact ((MadeL.nil_ (w.heap.size + 3) HQ.out.2.2.2.2).four (w.heap.size + 1 + 1) _ _ _ _ (by omega) (by omega)).made (by omega)
  obtain ⟨u2, hb2⟩ := HMK.out rfl
  have HB2 := Lib.hid hb2
  have HF := Lib.hid hf
  clear hb2 hf
  go_wp2_with fail
  refine (bstore_any w2.heap.size g nb no nc _ _ _ ms w4 HB2.out HF.out).mono ?_
  rintro e w5 ⟨b1, u1, x1, y1, rfl, hm⟩
  clear c_q_s0 c_q_s1 c_q_s2 c_q_s3 c_q_n0 c_q_n1 c_q_r0 c_q_r1 c_q_r2 c_q_r3
  obtain ⟨q_s, q_n, q_r, O_s, hB⟩ := HQ.out
  clear HQ
  have P_t := LP.of hm
  have hst := hm.below
  have hv := hm.v0
  clear hm
  obtain ⟨a1, c1, rfl, -, -, -, -⟩ := hv.1.1
  obtain ⟨a2, c2, rfl, -, -, -, -⟩ := hv.1.2
  obtain ⟨a3, c3, rfl, -, -⟩ := hv.2.1.form rfl
  obtain ⟨a4, c4, rfl, -, -⟩ := hv.2.2.form rfl
  clear hv
  have sz_w5 : w4.heap.size ≤ w5.heap.size := hst.size
  replace q_s := q_s.step hst
  replace q_n := q_n.step hst
  replace q_r := q_r.step hst
  replace O_s := O_s.step hst
  replace hB := hB.step hst
  clear hst
  have HQ := Lib.hid (And.intro q_s (And.intro q_n (And.intro q_r (And.intro O_s (And.intro P_t hB)))))
  clear q_s q_n q_r O_s P_t hB
  have c_q_s0 := LK.cell HQ.out.1 0
  have c_q_s1 := LK.cell HQ.out.1 1
  have c_q_s2 := LK.cell HQ.out.1 2
  have c_q_s3 := LK.cell HQ.out.1 3
  have c_q_n0 := LK.cell HQ.out.2.1 0
  have c_q_n1 := LK.cell HQ.out.2.1 1
  have c_q_r0 := LK.cell HQ.out.2.2.1 0
  have c_q_r1 := LK.cell HQ.out.2.2.1 1
  have c_q_r2 := LK.cell HQ.out.2.2.1 2
  have c_q_r3 := LK.cell HQ.out.2.2.1 3
  have z_q_r0 := LK.frozen HQ.out.2.2.1 0
  have z_q_r1 := LK.frozen HQ.out.2.2.1 1
  have z_q_r2 := LK.frozen HQ.out.2.2.1 2
  have z_q_r3 := LK.frozen HQ.out.2.2.1 3
  simp at c_q_s0 c_q_s1 c_q_s2 c_q_s3 c_q_n0 c_q_n1 c_q_r0 c_q_r1 c_q_r2 c_q_r3
  go_wp2
  refine bodyPost_ret (v := .tuple #[.agg #[.slice a1 ms.disk.blocks.length c1, .slice a2 ms.disk.waits.length c2, .slice a3 ms.now.length c3, .slice a4 ms.last.length c4], .int .i64 ad, .int .i64 0]) (by simp [results, Try.results26, go_sem, c_q_r0, c_q_r1, c_q_r2, c_q_r3]) rfl ⟨_, _, _, _, rfl, ?_⟩
  exact (((MadeL.mk ((HQ.out.2.2.2.2.1.t).more (by omega) (Lv.hi_le HQ.out.2.2.2.2.1)) HQ.out.2.2.2.2.2 : MadeL w _ (w.heap.size + 3) _ _ _ _ ms)).four (w.heap.size + 1 + 1) _ _ _ _ (by omega) (by omega)).made (by omega)

end Go.Proofs.Ytkfgegdnpinbdaa

