/- DropDoes: the words and contracts, part 22. -/
import Derived.Test.YtkfgegdnpinbdaaDropDoesQ1
import Derived.Test.YtkfgegdnpinbdaaDropDoesQ2
import Derived.Test.YtkfgegdnpinbdaaDropDoesQ3
import Derived.Test.YtkfgegdnpinbdaaDropDoesQ4
import Derived.Test.YtkfgegdnpinbdaaDropDoesQ5
import Derived.Test.YtkfgegdnpinbdaaDropDoesQ6
import Derived.Test.YtkfgegdnpinbdaaDropDoesQ7
import Derived.Test.YtkfgegdnpinbdaaDropDoesQ8
import Derived.Test.YtkfgegdnpinbdaaDropDoesQ9
import Derived.Test.YtkfgegdnpinbdaaDropDoesQ10
import Derived.Test.YtkfgegdnpinbdaaDropDoesQ11
import Derived.Test.YtkfgegdnpinbdaaDropDoesQ12
import Derived.Test.YtkfgegdnpinbdaaDropDoesQ13
import Derived.Test.YtkfgegdnpinbdaaDropDoesQ14
import Derived.Test.YtkfgegdnpinbdaaDropDoesQ15
import Derived.Test.YtkfgegdnpinbdaaDropDoesQ16
import Derived.Test.YtkfgegdnpinbdaaDropDoesQ17
import Derived.Test.YtkfgegdnpinbdaaDropDoesQ18
import Derived.Test.YtkfgegdnpinbdaaDropDoesQ19
import Derived.Test.YtkfgegdnpinbdaaDropDoesQ20
import Derived.Test.YtkfgegdnpinbdaaDropDoesQ21
import Derived.WalkKit
import Derived.WalkLawsBesides
import Derived.WalkSpells
import Derived.Lib.Hide
import Derived.Laws.Rows
import Derived.Laws.AppendOwnNone
import Derived.Maps.AppendAt
import Derived.RangeFuncNested
import Derived.RangeFuncBound
import Derived.RangeFuncCalls
import Derived.RangeFuncLeaves
import Derived.RangeFuncBox
import Derived.Shelf.Abstract
import Derived.Shelf.RegionOpen
import Derived.OwnWalkIn
import Derived.TacticsInMore
import Derived.LoopNIn
import Derived.LoopIn
import Derived.ProofKit
import Derived.Deep.Slices
import Derived.WideShapes
import Derived.OrdersHeld
import Derived.Deep.QuietTactic
import Derived.BigQuiet
import Derived.StillTailTactics
import Derived.OpenShut
import Derived.Lib.SliceRun
import Derived.Lib.AppendZerosOnto
import Derived.Lib.Walk
import Derived.Deep.LoopGhost
import Derived.Laws.CopyOwn
import Derived.Deep.DeepCutAuto
import Derived.Laws.CopyRow
import Derived.Laws.MakeOwn
import Derived.Deep.RegionHeld
import Derived.KernelRfl
import Derived.BigFrameIn
import Derived.OrdersIn
import Derived.Sort.CutIn
import Derived.ArgAppend
namespace Go.Proofs.Ytkfgegdnpinbdaa
open Go.RowKit

set_option linter.unusedSimpArgs false
def lftS (s : StoreL) (p : Nat) : StoreL := match lvS s p with
  | none => noS
  | some l => ⟨s.disk, l, s.last⟩
set_option maxRecDepth 100000 in
set_option maxHeartbeats 2000000 in
theorem rLeft_any (b_s u_s x_s y_s : Value) (s : StoreL) (p : Int) (w T : World) (hck : CKc T w) (hsT : T.heap.size ≤ w.heap.size) (hT_s : StoreV T 0 T.heap.size b_s u_s x_s y_s s) (hm : mayS s = true) (h8 : 8 ≤ p) (h9 : p < 256) :
    Calls Try.prog 71 #[.agg #[b_s, u_s, x_s, y_s], .int .i64 p] w fun e w' => ∃ b' u' x' y', e = .returned (.tuple #[.agg #[b', u', x', y'], .bool (lvS s p.toNat).isSome]) ∧ GotS T w w' b' u' x' y' (lftS s p.toNat) := by
  have h_s := storeT_at hck hsT hT_s
  have HT := Lib.hid (And.intro hck (And.intro hsT hT_s))
  clear hck hsT hT_s
  obtain ⟨ab_s, cb_s, rfl, gb_s, gc_s, -, -⟩ := h_s.1.1
  obtain ⟨au_s, cu_s, rfl, gu_s, gv_s, -, -⟩ := h_s.1.2
  obtain ⟨ax_s, cx_s, rfl, gx_s, gz_s⟩ := h_s.2.1.form rfl
  obtain ⟨ay_s, cy_s, rfl, gy_s, gw_s⟩ := h_s.2.2.form rfl
  unfold maxLen at gc_s gv_s gz_s gw_s
  have hst := (((Below.refl w.heap.size w).alloc (Nat.le_refl _) (.cells #[.slice ab_s s.disk.blocks.length cb_s, .slice au_s s.disk.waits.length cu_s, .slice ax_s s.now.length cx_s, .slice ay_s s.last.length cy_s] 28)).alloc (by simp) (.cells #[.slice none 0 0, .slice none 0 0, .slice none 0 0, .slice none 0 0] 28))
  have hq := two_new w (.cells #[.slice ab_s s.disk.blocks.length cb_s, .slice au_s s.disk.waits.length cu_s, .slice ax_s s.now.length cx_s, .slice ay_s s.last.length cy_s] 28) (.cells #[.slice none 0 0, .slice none 0 0, .slice none 0 0, .slice none 0 0] 28)
  have q_s := LK.of hq.1
  have q_r := LK.of hq.2
  have hB : LW w _ := hst
  have O_s := (LO.of h_s (Nat.le_refl _)).step hst
  have sz_V : w.heap.size + 1 < ((w.alloc (.cells #[.slice ab_s s.disk.blocks.length cb_s, .slice au_s s.disk.waits.length cu_s, .slice ax_s s.now.length cx_s, .slice ay_s s.last.length cy_s] 28)).alloc (.cells #[.slice none 0 0, .slice none 0 0, .slice none 0 0, .slice none 0 0] 28)).heap.size := by simp
  obtain ⟨V, hV⟩ : ∃ V, ((w.alloc (.cells #[.slice ab_s s.disk.blocks.length cb_s, .slice au_s s.disk.waits.length cu_s, .slice ax_s s.now.length cx_s, .slice ay_s s.last.length cy_s] 28)).alloc (.cells #[.slice none 0 0, .slice none 0 0, .slice none 0 0, .slice none 0 0] 28)) = V := ⟨_, rfl⟩
  rw [hV] at sz_V q_s q_r O_s hB
  clear hst h_s hq
  have HQ := Lib.hid (And.intro q_s (And.intro q_r (And.intro O_s hB)))
  clear q_s q_r O_s hB
  have c_q_s0 := LK.cell HQ.out.1 0
  have c_q_s1 := LK.cell HQ.out.1 1
  have c_q_s2 := LK.cell HQ.out.1 2
  have c_q_s3 := LK.cell HQ.out.1 3
  have c_q_r0 := LK.cell HQ.out.2.1 0
  have c_q_r1 := LK.cell HQ.out.2.1 1
  have c_q_r2 := LK.cell HQ.out.2.1 2
  have c_q_r3 := LK.cell HQ.out.2.1 3
  simp at c_q_s0 c_q_s1 c_q_s2 c_q_s3 c_q_r0 c_q_r1 c_q_r2 c_q_r3
  obtain ⟨q, rfl⟩ : ∃ q : Nat, p = q := ⟨p.toNat, by omega⟩
  have q8 : 8 ≤ q := by omega
  have q9 : q < 256 := by omega
  clear h8 h9
  rw [Int.toNat_natCast]
  have h256 := mayT_len (mayS_iff.1 hm).2.1
  have hl : lftS s q = match lvS s q with | none => noS | some l => ⟨s.disk, l, s.last⟩ := rfl
  have hlen := fun (m : List UInt8) (h : lvS s q = some m) => (lvS_less (s := s) q8 h).len
  have k_l := fun V b u x y v hh hv => rleft_any s hm 7 (-1) (.inr ⟨by decide, by decide⟩) b u x y v s.now q V hh hv h256 q8 q9
  rw [← lvS_left q8 q9] at k_l
  generalize lvS s q = R at *
  generalize lftS s q = N at *
  have HN := Lib.hid (And.intro hl hlen)
  clear hl hlen hm h256
  have HC := Lib.hid (k_l)
  clear k_l
  go_enter Try.func71, Try.ntmps71
  go_upto_region 1 with (fail)
  clear hV
  go_wp2_with fail
  refine (HC.out _ _ _ _ _ _ HQ.out.2.2.1.v HQ.out.2.2.1.n).mono ?_
  rintro e w1 ⟨u1, rfl, hm⟩
  clear c_q_s0 c_q_s1 c_q_s2 c_q_s3 c_q_r0 c_q_r1 c_q_r2 c_q_r3
  obtain ⟨q_s, q_r, O_s, hB⟩ := HQ.out
  clear HQ
  have hst := hm.below
  have B_u := LM.of hm
  obtain ⟨au, cu, rfl, -, -⟩ := hm.bytes.form rfl
  clear hm
  have sz_w1 : V.heap.size ≤ w1.heap.size := hst.size
  replace q_s := q_s.step hst
  replace q_r := q_r.step hst
  replace O_s := O_s.step hst
  replace hB := hB.step hst
  clear hst
  have HQ := Lib.hid (And.intro q_s (And.intro q_r (And.intro O_s (And.intro B_u hB))))
  clear q_s q_r O_s B_u hB
  have c_q_s0 := LK.cell HQ.out.1 0
  have c_q_s1 := LK.cell HQ.out.1 1
  have c_q_s2 := LK.cell HQ.out.1 2
  have c_q_s3 := LK.cell HQ.out.1 3
  have c_q_r0 := LK.cell HQ.out.2.1 0
  have c_q_r1 := LK.cell HQ.out.2.1 1
  have c_q_r2 := LK.cell HQ.out.2.1 2
  have c_q_r3 := LK.cell HQ.out.2.1 3
  simp at c_q_s0 c_q_s1 c_q_s2 c_q_s3 c_q_r0 c_q_r1 c_q_r2 c_q_r3
  rcases R with _ | m
  case none =>
    clear c_q_s0 c_q_s1 c_q_s2 c_q_s3 c_q_r0 c_q_r1 c_q_r2 c_q_r3
    have c_q_s0 := LK.cell HQ.out.1 0
    have c_q_s1 := LK.cell HQ.out.1 1
    have c_q_s2 := LK.cell HQ.out.1 2
    have c_q_s3 := LK.cell HQ.out.1 3
    have c_q_r0 := LK.cell HQ.out.2.1 0
    have c_q_r1 := LK.cell HQ.out.2.1 1
    have c_q_r2 := LK.cell HQ.out.2.1 2
    have c_q_r3 := LK.cell HQ.out.2.1 3
    have z_q_r0 := LK.frozen HQ.out.2.1 0
    have z_q_r1 := LK.frozen HQ.out.2.1 1
    have z_q_r2 := LK.frozen HQ.out.2.1 2
    have z_q_r3 := LK.frozen HQ.out.2.1 3
    simp at c_q_s0 c_q_s1 c_q_s2 c_q_s3 c_q_r0 c_q_r1 c_q_r2 c_q_r3
    have hN := HN.out.1
    dsimp only at hN
    subst hN
    have hBf := HQ.out.2.2.2.2
    go_wp2
    refine bodyPost_ret (v := .tuple #[.agg #[.slice none 0 0, .slice none 0 0, .slice none 0 0, .slice none 0 0], .bool false]) (by simp [results, Try.results71, go_sem, c_q_r0, c_q_r1, c_q_r2, c_q_r3]) rfl ⟨_, _, _, _, rfl, ⟨fun X _ _ _ => storeV_nil X, (nil_four hBf (Nat.le_succ _) _ _ _ _).2⟩⟩
  case some =>
  have hN := HN.out.1
  dsimp only at hN
  have hml := HN.out.2 m rfl
  have HNN := Lib.hid hN
  clear hN HN
  obtain ⟨q_s, q_r, O_s, B_u, hB⟩ := HQ.out
  clear HQ
  simp only [Option.getD_some] at B_u
  rw [hml] at B_u
  have HQ := Lib.hid (And.intro q_s (And.intro q_r (And.intro O_s (And.intro B_u hB))))
  clear q_s q_r O_s B_u hB
  clear c_q_s0 c_q_s1 c_q_s2 c_q_s3 c_q_r0 c_q_r1 c_q_r2 c_q_r3
  have c_q_s0 := LK.cell HQ.out.1 0
  have c_q_s1 := LK.cell HQ.out.1 1
  have c_q_s2 := LK.cell HQ.out.1 2
  have c_q_s3 := LK.cell HQ.out.1 3
  have z_q_s0 := LK.frozen HQ.out.1 0
  have z_q_s1 := LK.frozen HQ.out.1 1
  have z_q_s2 := LK.frozen HQ.out.1 2
  have z_q_s3 := LK.frozen HQ.out.1 3
  have c_q_r0 := LK.cell HQ.out.2.1 0
  have c_q_r1 := LK.cell HQ.out.2.1 1
  have c_q_r2 := LK.cell HQ.out.2.1 2
  have c_q_r3 := LK.cell HQ.out.2.1 3
  simp at c_q_s0 c_q_s1 c_q_s2 c_q_s3 c_q_r0 c_q_r1 c_q_r2 c_q_r3
  go_upto_region 5 with (fail)
  clear z_q_s0 z_q_s1 z_q_s2 z_q_s3 c_q_s0 c_q_s1 c_q_s2 c_q_s3 c_q_r0 c_q_r1 c_q_r2 c_q_r3
  obtain ⟨q_s, q_r, O_s, B_u, hB⟩ := HQ.out
  clear HQ
  have hcb := LK.blk q_s
  have hF : LK (w.heap.size) (.cells #[.slice ab_s s.disk.blocks.length cb_s, .slice au_s s.disk.waits.length cu_s, .slice au s.now.length cu, .slice ay_s s.last.length cy_s] 28) (w1.setCell ⟨w.heap.size, 2, none⟩ (.slice au s.now.length cu)) := LK.of (set_block hcb 2 _)
  have hbel : Below (w.heap.size) w1 (w1.setCell ⟨w.heap.size, 2, none⟩ (.slice au s.now.length cu)) := (Below.refl _ w1).setCell (p := ⟨w.heap.size, 2, none⟩) (Nat.le_refl _) _
  have hfr : ∀ x, x < w1.heap.size → (x < w.heap.size ∨ w.heap.size + 1 ≤ x) → (w1.setCell ⟨w.heap.size, 2, none⟩ (.slice au s.now.length cu)).heap[x]? = w1.heap[x]? := fun x _ h => (set_other _ _ _ _ _ (by omega))
  have hs4 : (w1.setCell ⟨w.heap.size, 2, none⟩ (.slice au s.now.length cu)).heap.size = w1.heap.size := by simp only [World.size_setCell]
  replace q_r := q_r.out (Nat.le_of_eq hs4.symm) hfr (by omega)
  replace O_s := O_s.out (Nat.le_of_eq hs4.symm) hfr (by omega)
  replace B_u := B_u.out (Nat.le_of_eq hs4.symm) hfr (by omega)
  replace hB := hB.outB hbel (by omega)
  replace q_s := hF
  obtain ⟨w2, hw⟩ : ∃ v, (w1.setCell ⟨w.heap.size, 2, none⟩ (.slice au s.now.length cu)) = v := ⟨_, rfl⟩
  rw [hw] at hs4 q_s q_r O_s B_u hB ⊢
  have sz_w2 := Nat.le_of_eq hs4
  have sy_w2 := Nat.le_of_eq hs4.symm
  clear hw hF hbel hfr hcb hs4
  have HQ := Lib.hid (And.intro q_s (And.intro q_r (And.intro O_s (And.intro B_u hB))))
  clear q_s q_r O_s B_u hB
  have c_q_s0 := LK.cell HQ.out.1 0
  have c_q_s1 := LK.cell HQ.out.1 1
  have c_q_s2 := LK.cell HQ.out.1 2
  have c_q_s3 := LK.cell HQ.out.1 3
  have c_q_r0 := LK.cell HQ.out.2.1 0
  have c_q_r1 := LK.cell HQ.out.2.1 1
  have c_q_r2 := LK.cell HQ.out.2.1 2
  have c_q_r3 := LK.cell HQ.out.2.1 3
  simp at c_q_s0 c_q_s1 c_q_s2 c_q_s3 c_q_r0 c_q_r1 c_q_r2 c_q_r3
  clear c_q_s0 c_q_s1 c_q_s2 c_q_s3 c_q_r0 c_q_r1 c_q_r2 c_q_r3
  have c_q_s0 := LK.cell HQ.out.1 0
  have c_q_s1 := LK.cell HQ.out.1 1
  have c_q_s2 := LK.cell HQ.out.1 2
  have c_q_s3 := LK.cell HQ.out.1 3
  have c_q_r0 := LK.cell HQ.out.2.1 0
  have c_q_r1 := LK.cell HQ.out.2.1 1
  have c_q_r2 := LK.cell HQ.out.2.1 2
  have c_q_r3 := LK.cell HQ.out.2.1 3
  have z_q_r0 := LK.frozen HQ.out.2.1 0
  have z_q_r1 := LK.frozen HQ.out.2.1 1
  have z_q_r2 := LK.frozen HQ.out.2.1 2
  have z_q_r3 := LK.frozen HQ.out.2.1 3
  simp at c_q_s0 c_q_s1 c_q_s2 c_q_s3 c_q_r0 c_q_r1 c_q_r2 c_q_r3
  have szr := LK.lt HQ.out.2.1
  have hO := HQ.out.2.2.1
  have hBn := HQ.out.2.2.2.1
  have hBf := HQ.out.2.2.2.2
  have HF := Lib.hid (And.intro hO (And.intro hBn hBf))
  clear hO hBn hBf hml
  go_wp2
  refine bodyPost_ret (v := .tuple #[.agg #[.slice ab_s s.disk.blocks.length cb_s, .slice au_s s.disk.waits.length cu_s, .slice au s.now.length cu, .slice ay_s s.last.length cy_s], .bool true]) (by simp [results, Try.results71, go_sem, c_q_r0, c_q_r1, c_q_r2, c_q_r3]) rfl ⟨_, _, _, _, rfl, ?_⟩
  rw [HNN.out]
  obtain ⟨hO, hBn, hBf⟩ := HF.out
  obtain ⟨hs, hf⟩ := four_frame w2 (w.heap.size + 1) (.slice ab_s s.disk.blocks.length cb_s) (.slice au_s s.disk.waits.length cu_s) (.slice au s.now.length cu) (.slice ay_s s.last.length cy_s)
  have hB2 := hBn.out (Nat.le_of_eq hs.symm) hf (.inr (by omega))
  have hq2 := Lv.hi_le hBn
  refine ⟨fun X hsX hc hk => ?_, Below.trans hBf (below_four w2 _ _ _ _ (Nat.le_succ _))⟩
  have hTX : T.heap.size ≤ X.heap.size := Nat.le_trans HT.out.2.1 (Nat.le_trans (by omega : w.heap.size ≤ w2.heap.size) (Nat.le_trans (Nat.le_of_eq hs.symm) hsX))
  have hn := (hB2.2 X (fun k h1 h2 => hk k (by omega) (Nat.lt_of_lt_of_le h2 (Nat.le_trans hq2 (Nat.le_of_eq hs.symm))))).1
  have hv := storeT_at hc hTX HT.out.2.2
  exact ⟨hv.1, hn.more (Nat.zero_le _) (Nat.le_trans hq2 (Nat.le_trans (Nat.le_of_eq hs.symm) hsX)), hv.2.2⟩

set_option maxRecDepth 100000 in
set_option maxHeartbeats 2000000 in
theorem rleave_any (b_s u_s x_s y_s : Value) (s : StoreL) (p : Int) (w : World) (h_s : StoreV w 0 w.heap.size b_s u_s x_s y_s s) :
    Calls Try.prog 29 #[.agg #[b_s, u_s, x_s, y_s], .int .i64 p] w fun e w' => ∃ b' u' x' y', e = .returned (.tuple #[.agg #[b', u', x', y'], .int .i64 (errLv s p)]) ∧ StoreV w' 0 w'.heap.size b' u' x' y' (leftS s p) ∧ Below w.heap.size w w' := by
  have HT := Lib.hid h_s
  obtain ⟨ab_s, cb_s, rfl, gb_s, gc_s, -, -⟩ := h_s.1.1
  obtain ⟨au_s, cu_s, rfl, gu_s, gv_s, -, -⟩ := h_s.1.2
  obtain ⟨ax_s, cx_s, rfl, gx_s, gz_s⟩ := h_s.2.1.form rfl
  obtain ⟨ay_s, cy_s, rfl, gy_s, gw_s⟩ := h_s.2.2.form rfl
  unfold maxLen at gc_s gv_s gz_s gw_s
  have hst := (((Below.refl w.heap.size w).alloc (Nat.le_refl _) (.cells #[.slice ab_s s.disk.blocks.length cb_s, .slice au_s s.disk.waits.length cu_s, .slice ax_s s.now.length cx_s, .slice ay_s s.last.length cy_s] 28)).alloc (by simp) (.cells #[.slice none 0 0, .slice none 0 0, .slice none 0 0, .slice none 0 0] 28))
  have hq := two_new w (.cells #[.slice ab_s s.disk.blocks.length cb_s, .slice au_s s.disk.waits.length cu_s, .slice ax_s s.now.length cx_s, .slice ay_s s.last.length cy_s] 28) (.cells #[.slice none 0 0, .slice none 0 0, .slice none 0 0, .slice none 0 0] 28)
  have q_s := LK.of hq.1
  have q_r := LK.of hq.2
  have hB : LW w _ := hst
  have O_s := (LO.of h_s (Nat.le_refl _)).step hst
  have sz_V : w.heap.size + 1 < ((w.alloc (.cells #[.slice ab_s s.disk.blocks.length cb_s, .slice au_s s.disk.waits.length cu_s, .slice ax_s s.now.length cx_s, .slice ay_s s.last.length cy_s] 28)).alloc (.cells #[.slice none 0 0, .slice none 0 0, .slice none 0 0, .slice none 0 0] 28)).heap.size := by simp
  obtain ⟨V, hV⟩ : ∃ V, ((w.alloc (.cells #[.slice ab_s s.disk.blocks.length cb_s, .slice au_s s.disk.waits.length cu_s, .slice ax_s s.now.length cx_s, .slice ay_s s.last.length cy_s] 28)).alloc (.cells #[.slice none 0 0, .slice none 0 0, .slice none 0 0, .slice none 0 0] 28)) = V := ⟨_, rfl⟩
  rw [hV] at sz_V q_s q_r O_s hB
  clear hst h_s hq
  have HQ := Lib.hid (And.intro q_s (And.intro q_r (And.intro O_s hB)))
  clear q_s q_r O_s hB
  have c_q_s0 := LK.cell HQ.out.1 0
  have c_q_s1 := LK.cell HQ.out.1 1
  have c_q_s2 := LK.cell HQ.out.1 2
  have c_q_s3 := LK.cell HQ.out.1 3
  have c_q_r0 := LK.cell HQ.out.2.1 0
  have c_q_r1 := LK.cell HQ.out.2.1 1
  have c_q_r2 := LK.cell HQ.out.2.1 2
  have c_q_r3 := LK.cell HQ.out.2.1 3
  simp at c_q_s0 c_q_s1 c_q_s2 c_q_s3 c_q_r0 c_q_r1 c_q_r2 c_q_r3
  have he : errLv s p = if errAs s p ≠ 0 then errAs s p else if lvS s p.toNat = none then 8 else 0 := rfl
  have hsh : leftS s p = if errLv s p = 0 then ⟨s.disk, (lvS s p.toNat).getD [], s.last⟩ else noS := rfl
  have hz := fun h => errAs_zero (s := s) (p := p) h
  have hl : lftS s p.toNat = match lvS s p.toNat with | none => noS | some l => ⟨s.disk, l, s.last⟩ := rfl
  have k_a := fun V b u x y hh => rdasked9_any b u x y s p V hh
  have k_l := fun V hc hs h1 h2 h3 => rLeft_any _ _ _ _ s p V w hc hs HT.out h1 h2 h3
  generalize lftS s p.toNat = ls at *
  generalize lvS s p.toNat = R at *
  generalize leftS s p = ss at *
  generalize errLv s p = es at *
  generalize errAs s p = ea at *
  have HE := Lib.hid (And.intro he (And.intro hsh (And.intro hz hl)))
  clear he hsh hz hl
  have HC := Lib.hid (And.intro k_a k_l)
  clear k_a k_l
  go_enter Try.func29, Try.ntmps29
  go_upto_region 1 with (fail)
  clear hV
  go_wp2_with fail
  refine (HC.out.1 _ _ _ _ _ HQ.out.2.2.1.v).mono ?_
  rintro e w1 ⟨rfl, hst⟩
  clear c_q_s0 c_q_s1 c_q_s2 c_q_s3 c_q_r0 c_q_r1 c_q_r2 c_q_r3
  obtain ⟨q_s, q_r, O_s, hB⟩ := HQ.out
  clear HQ
  have sz_w1 : V.heap.size ≤ w1.heap.size := hst.size
  replace q_s := q_s.step hst
  replace q_r := q_r.step hst
  replace O_s := O_s.step hst
  replace hB := hB.step hst
  clear hst
  have HQ := Lib.hid (And.intro q_s (And.intro q_r (And.intro O_s hB)))
  clear q_s q_r O_s hB
  have c_q_s0 := LK.cell HQ.out.1 0
  have c_q_s1 := LK.cell HQ.out.1 1
  have c_q_s2 := LK.cell HQ.out.1 2
  have c_q_s3 := LK.cell HQ.out.1 3
  have c_q_r0 := LK.cell HQ.out.2.1 0
  have c_q_r1 := LK.cell HQ.out.2.1 1
  have c_q_r2 := LK.cell HQ.out.2.1 2
  have c_q_r3 := LK.cell HQ.out.2.1 3
  simp at c_q_s0 c_q_s1 c_q_s2 c_q_s3 c_q_r0 c_q_r1 c_q_r2 c_q_r3
  by_cases he : ea = 0
  case neg =>
    obtain ⟨h1, h2, -⟩ := HE.out
    rw [if_pos he] at h1
    subst h1
    rw [if_neg he] at h2
    subst h2
    have i1 : (es != 0) = true := by simp [he]
    clear c_q_s0 c_q_s1 c_q_s2 c_q_s3 c_q_r0 c_q_r1 c_q_r2 c_q_r3
    have c_q_s0 := LK.cell HQ.out.1 0
    have c_q_s1 := LK.cell HQ.out.1 1
    have c_q_s2 := LK.cell HQ.out.1 2
    have c_q_s3 := LK.cell HQ.out.1 3
    have c_q_r0 := LK.cell HQ.out.2.1 0
    have c_q_r1 := LK.cell HQ.out.2.1 1
    have c_q_r2 := LK.cell HQ.out.2.1 2
    have c_q_r3 := LK.cell HQ.out.2.1 3
    have z_q_r0 := LK.frozen HQ.out.2.1 0
    have z_q_r1 := LK.frozen HQ.out.2.1 1
    have z_q_r2 := LK.frozen HQ.out.2.1 2
    have z_q_r3 := LK.frozen HQ.out.2.1 3
    simp at c_q_s0 c_q_s1 c_q_s2 c_q_s3 c_q_r0 c_q_r1 c_q_r2 c_q_r3
    have hBf := HQ.out.2.2.2
    go_wp2
    refine bodyPost_ret (v := .tuple #[.agg #[.slice none 0 0, .slice none 0 0, .slice none 0 0, .slice none 0 0], .int .i64 es]) (by simp [results, Try.results29, go_sem, c_q_r0, c_q_r1, c_q_r2, c_q_r3]) rfl ⟨_, _, _, _, rfl, nil_four hBf (Nat.le_succ _) _ _ _ _⟩
  subst he
  obtain ⟨h1, h2, h3, h4⟩ := HE.out
  obtain ⟨hm, p8, p9, -⟩ := h3 rfl
  rw [if_neg (by simp)] at h1
  clear HE h3
  have HN := Lib.hid (And.intro h1 (And.intro h2 h4))
  clear h1 h2 h4
  go_wp2_with fail
  refine (HC.out.2 _ (CKc.below HQ.out.2.2.2) (Below.size HQ.out.2.2.2) hm p8 p9).mono ?_
  rintro e w2 ⟨b1, u1, x1, y1, rfl, hg⟩
  clear c_q_s0 c_q_s1 c_q_s2 c_q_s3 c_q_r0 c_q_r1 c_q_r2 c_q_r3
  obtain ⟨q_s, q_r, O_s, hB⟩ := HQ.out
  clear HQ
  have hv := hg.got (CKc.below hB)
  obtain ⟨ab_t, cb_t, rfl, -, -, -, -⟩ := hv.1.1
  obtain ⟨au_t, cu_t, rfl, -, -, -, -⟩ := hv.1.2
  obtain ⟨ax_t, cx_t, rfl, -, -⟩ := hv.2.1.form rfl
  obtain ⟨ay_t, cy_t, rfl, -, -⟩ := hv.2.2.form rfl
  have hst := hg.below
  have G_t := LGS.of hg
  clear hg hv
  have sz_w2 : w1.heap.size ≤ w2.heap.size := hst.size
  replace q_s := q_s.step hst
  replace q_r := q_r.step hst
  replace O_s := O_s.step hst
  replace hB := hB.step hst
  clear hst
  have HQ := Lib.hid (And.intro q_s (And.intro q_r (And.intro O_s (And.intro G_t hB))))
  clear q_s q_r O_s G_t hB
  have c_q_s0 := LK.cell HQ.out.1 0
  have c_q_s1 := LK.cell HQ.out.1 1
  have c_q_s2 := LK.cell HQ.out.1 2
  have c_q_s3 := LK.cell HQ.out.1 3
  have c_q_r0 := LK.cell HQ.out.2.1 0
  have c_q_r1 := LK.cell HQ.out.2.1 1
  have c_q_r2 := LK.cell HQ.out.2.1 2
  have c_q_r3 := LK.cell HQ.out.2.1 3
  simp at c_q_s0 c_q_s1 c_q_s2 c_q_s3 c_q_r0 c_q_r1 c_q_r2 c_q_r3
  go_upto_region 5 with (fail)
  clear c_q_s0 c_q_s1 c_q_s2 c_q_s3 c_q_r0 c_q_r1 c_q_r2 c_q_r3
  obtain ⟨q_s, q_r, O_s, G_t, hB⟩ := HQ.out
  clear HQ
  have hst := (Below.refl w2.heap.size w2).alloc (Nat.le_refl _) (.cells #[.slice ab_t ls.disk.blocks.length cb_t, .slice au_t ls.disk.waits.length cu_t, .slice ax_t ls.now.length cx_t, .slice ay_t ls.last.length cy_t] 28)
  have hlt : w2.heap.size < (w2.alloc (.cells #[.slice ab_t ls.disk.blocks.length cb_t, .slice au_t ls.disk.waits.length cu_t, .slice ax_t ls.now.length cx_t, .slice ay_t ls.last.length cy_t] 28)).heap.size := by simp
  have q_t := LK.new w2 (.cells #[.slice ab_t ls.disk.blocks.length cb_t, .slice au_t ls.disk.waits.length cu_t, .slice ax_t ls.now.length cx_t, .slice ay_t ls.last.length cy_t] 28)
  replace q_s := q_s.step hst
  replace q_r := q_r.step hst
  replace O_s := O_s.step hst
  replace G_t := G_t.step hst
  replace hB := hB.step hst
  obtain ⟨w3, hw⟩ : ∃ v, w2.alloc (.cells #[.slice ab_t ls.disk.blocks.length cb_t, .slice au_t ls.disk.waits.length cu_t, .slice ax_t ls.now.length cx_t, .slice ay_t ls.last.length cy_t] 28) = v := ⟨_, rfl⟩
  rw [hw] at hlt q_t q_s q_r O_s G_t hB ⊢
  clear hw hst
  have sz_w3 := hlt
  clear hlt
  have HQ := Lib.hid (And.intro q_s (And.intro q_r (And.intro O_s (And.intro G_t (And.intro q_t hB)))))
  clear q_s q_r O_s G_t q_t hB
  have c_q_s0 := LK.cell HQ.out.1 0
  have c_q_s1 := LK.cell HQ.out.1 1
  have c_q_s2 := LK.cell HQ.out.1 2
  have c_q_s3 := LK.cell HQ.out.1 3
  have c_q_r0 := LK.cell HQ.out.2.1 0
  have c_q_r1 := LK.cell HQ.out.2.1 1
  have c_q_r2 := LK.cell HQ.out.2.1 2
  have c_q_r3 := LK.cell HQ.out.2.1 3
  have c_q_t0 := LK.cell HQ.out.2.2.2.2.1 0
  have c_q_t1 := LK.cell HQ.out.2.2.2.2.1 1
  have c_q_t2 := LK.cell HQ.out.2.2.2.2.1 2
  have c_q_t3 := LK.cell HQ.out.2.2.2.2.1 3
  simp at c_q_s0 c_q_s1 c_q_s2 c_q_s3 c_q_r0 c_q_r1 c_q_r2 c_q_r3 c_q_t0 c_q_t1 c_q_t2 c_q_t3
  rcases R with _ | m
  case none =>
    obtain ⟨h1, h2, h3⟩ := HN.out
    rw [if_pos rfl] at h1
    subst h1
    rw [if_neg (by decide)] at h2
    subst h2
    clear c_q_s0 c_q_s1 c_q_s2 c_q_s3 c_q_r0 c_q_r1 c_q_r2 c_q_r3 c_q_t0 c_q_t1 c_q_t2 c_q_t3
    have c_q_r0 := LK.cell HQ.out.2.1 0
    have c_q_r1 := LK.cell HQ.out.2.1 1
    have c_q_r2 := LK.cell HQ.out.2.1 2
    have c_q_r3 := LK.cell HQ.out.2.1 3
    have z_q_r0 := LK.frozen HQ.out.2.1 0
    have z_q_r1 := LK.frozen HQ.out.2.1 1
    have z_q_r2 := LK.frozen HQ.out.2.1 2
    have z_q_r3 := LK.frozen HQ.out.2.1 3
    have c_q_t0 := LK.cell HQ.out.2.2.2.2.1 0
    have c_q_t1 := LK.cell HQ.out.2.2.2.2.1 1
    have c_q_t2 := LK.cell HQ.out.2.2.2.2.1 2
    have c_q_t3 := LK.cell HQ.out.2.2.2.2.1 3
    simp at c_q_r0 c_q_r1 c_q_r2 c_q_r3 c_q_t0 c_q_t1 c_q_t2 c_q_t3
    have hBf := HQ.out.2.2.2.2.2
    go_wp2
    refine bodyPost_ret (v := .tuple #[.agg #[.slice none 0 0, .slice none 0 0, .slice none 0 0, .slice none 0 0], .int .i64 8]) (by simp [results, Try.results29, go_sem, c_q_r0, c_q_r1, c_q_r2, c_q_r3]) rfl ⟨_, _, _, _, rfl, nil_four hBf (Nat.le_succ _) _ _ _ _⟩
  case some =>
  obtain ⟨h1, h2, h3⟩ := HN.out
  rw [if_neg (by simp)] at h1
  subst h1
  rw [if_pos rfl] at h2
  dsimp only [Option.getD_some] at h2 h3
  have h4 : ls = ss := h3.trans h2.symm
  clear h2 h3 HN
  subst h4
  clear c_q_s0 c_q_s1 c_q_s2 c_q_s3 c_q_r0 c_q_r1 c_q_r2 c_q_r3 c_q_t0 c_q_t1 c_q_t2 c_q_t3
  have c_q_r0 := LK.cell HQ.out.2.1 0
  have c_q_r1 := LK.cell HQ.out.2.1 1
  have c_q_r2 := LK.cell HQ.out.2.1 2
  have c_q_r3 := LK.cell HQ.out.2.1 3
  have z_q_r0 := LK.frozen HQ.out.2.1 0
  have z_q_r1 := LK.frozen HQ.out.2.1 1
  have z_q_r2 := LK.frozen HQ.out.2.1 2
  have z_q_r3 := LK.frozen HQ.out.2.1 3
  have c_q_t0 := LK.cell HQ.out.2.2.2.2.1 0
  have c_q_t1 := LK.cell HQ.out.2.2.2.2.1 1
  have c_q_t2 := LK.cell HQ.out.2.2.2.2.1 2
  have c_q_t3 := LK.cell HQ.out.2.2.2.2.1 3
  simp at c_q_r0 c_q_r1 c_q_r2 c_q_r3 c_q_t0 c_q_t1 c_q_t2 c_q_t3
  have hBf := HQ.out.2.2.2.2.2
  have hG := HQ.out.2.2.2.1
  go_wp2
  refine bodyPost_ret (v := .tuple #[.agg #[.slice ab_t ls.disk.blocks.length cb_t, .slice au_t ls.disk.waits.length cu_t, .slice ax_t ls.now.length cx_t, .slice ay_t ls.last.length cy_t], .int .i64 0]) (by simp [results, Try.results29, go_sem, c_q_r0, c_q_r1, c_q_r2, c_q_r3]) rfl ⟨_, _, _, _, rfl, got_four hG hBf (Nat.le_succ _) (by omega) _ _ _ _⟩

end Go.Proofs.Ytkfgegdnpinbdaa

namespace Go.Proofs.Ytkfgegdnpinbdaa
open Go.RowKit

set_option linter.unusedSimpArgs false
theorem shS_len (s : StoreL) : ∀ (l : List ItemL), shE s l = 0 → (shS s l).now.length = s.now.length := fun l h => (shS_cnt s l h).1
set_option maxRecDepth 100000 in
set_option maxHeartbeats 4000000 in
theorem rcounted_any (b_s u_s x_s y_s : Value) (s : StoreL) (n : NodeL) (u_n : Value) (w : World) (h_s : StoreV w 0 w.heap.size b_s u_s x_s y_s s) (h_n : (Lit.int .i64 n.level).wf = true ∧ Sl rItem w 0 w.heap.size u_n n.items) (h256 : s.now.length = 256) (hr : ∀ x ∈ n.items, x.ref = 0 ∨ (8 ≤ x.ref ∧ x.ref < 256)) :
    Calls Try.prog 99 #[.agg #[b_s, u_s, x_s, y_s], .agg #[.int .i64 n.level, u_n]] w fun e w' => ∃ b' u' x' y', e = .returned (.tuple #[.agg #[b', u', x', y'], .int .i64 (shE s n.items)]) ∧ Below w.heap.size w w' ∧ (shE s n.items = 0 → b' = b_s ∧ u' = u_s ∧ y' = y_s ∧ Bytes w' w.heap.size w'.heap.size x' (shS s n.items).now) ∧ (shE s n.items ≠ 0 → b' = .slice none 0 0 ∧ u' = .slice none 0 0 ∧ x' = .slice none 0 0 ∧ y' = .slice none 0 0) := by
  obtain ⟨ab_s, cb_s, rfl, gb_s, gc_s, -, -⟩ := h_s.1.1
  obtain ⟨au_s, cu_s, rfl, gu_s, gv_s, -, -⟩ := h_s.1.2
  obtain ⟨ax_s, cx_s, rfl, gx_s, gz_s⟩ := h_s.2.1.form rfl
  obtain ⟨ay_s, cy_s, rfl, gy_s, gw_s⟩ := h_s.2.2.form rfl
  unfold maxLen at gc_s gv_s gz_s gw_s
  obtain ⟨hw_n, h_n⟩ := h_n
  obtain ⟨a_n, c_n, rfl, g_n, gm_n, -, -⟩ := id h_n
  unfold maxLen at gm_n
  have hst := ((((Below.refl w.heap.size w).alloc (Nat.le_refl _) (.cells #[.slice ab_s s.disk.blocks.length cb_s, .slice au_s s.disk.waits.length cu_s, .slice ax_s s.now.length cx_s, .slice ay_s s.last.length cy_s] 28)).alloc (by simp) (.cells #[.int .i64 n.level, .slice a_n n.items.length c_n] 47)).alloc (by simp; omega) (.cells #[.slice none 0 0, .slice none 0 0, .slice none 0 0, .slice none 0 0] 28))
  have hq := three_new w (.cells #[.slice ab_s s.disk.blocks.length cb_s, .slice au_s s.disk.waits.length cu_s, .slice ax_s s.now.length cx_s, .slice ay_s s.last.length cy_s] 28) (.cells #[.int .i64 n.level, .slice a_n n.items.length c_n] 47) (.cells #[.slice none 0 0, .slice none 0 0, .slice none 0 0, .slice none 0 0] 28)
  have q_s := LK.of hq.1
  have q_n := LK.of hq.2.1
  have q_r := LK.of hq.2.2
  have hB : LW w _ := hst
  have O_s := (LO.of h_s (Nat.le_refl _)).step hst
  have S_n := (LS.of h_n (Nat.le_refl _)).step hst
  have sz_V : w.heap.size + 2 < (((w.alloc (.cells #[.slice ab_s s.disk.blocks.length cb_s, .slice au_s s.disk.waits.length cu_s, .slice ax_s s.now.length cx_s, .slice ay_s s.last.length cy_s] 28)).alloc (.cells #[.int .i64 n.level, .slice a_n n.items.length c_n] 47)).alloc (.cells #[.slice none 0 0, .slice none 0 0, .slice none 0 0, .slice none 0 0] 28)).heap.size := by simp
  obtain ⟨V, hV⟩ : ∃ V, (((w.alloc (.cells #[.slice ab_s s.disk.blocks.length cb_s, .slice au_s s.disk.waits.length cu_s, .slice ax_s s.now.length cx_s, .slice ay_s s.last.length cy_s] 28)).alloc (.cells #[.int .i64 n.level, .slice a_n n.items.length c_n] 47)).alloc (.cells #[.slice none 0 0, .slice none 0 0, .slice none 0 0, .slice none 0 0] 28)) = V := ⟨_, rfl⟩
  rw [hV] at sz_V q_s q_n q_r O_s S_n hB
  clear hst h_s h_n hq
  have HQ := Lib.hid (And.intro q_s (And.intro q_n (And.intro q_r (And.intro O_s (And.intro S_n hB)))))
  clear q_s q_n q_r O_s S_n hB
  have c_q_s0 := LK.cell HQ.out.1 0
  have c_q_s1 := LK.cell HQ.out.1 1
  have c_q_s2 := LK.cell HQ.out.1 2
  have c_q_s3 := LK.cell HQ.out.1 3
  have c_q_n0 := LK.cell HQ.out.2.1 0
  have c_q_n1 := LK.cell HQ.out.2.1 1
  have c_q_r0 := LK.cell HQ.out.2.2.1 0
  have c_q_r1 := LK.cell HQ.out.2.2.1 1
  have c_q_r2 := LK.cell HQ.out.2.2.1 2
  have c_q_r3 := LK.cell HQ.out.2.2.1 3
  simp at c_q_s0 c_q_s1 c_q_s2 c_q_s3 c_q_n0 c_q_n1 c_q_r0 c_q_r1 c_q_r2 c_q_r3
  have hnext := fun j hj h => shE_next s n.items j hj h
  have hrr : ∀ j, j < n.items.length → (n.items.getD j nokI).ref = 0 ∨ (8 ≤ (n.items.getD j nokI).ref ∧ (n.items.getD j nokI).ref < 256) := fun j hj => hr _ (by rw [List.getD_eq_getElem?_getD, List.getElem?_eq_getElem hj]; exact List.getElem_mem hj)
  have hlen := fun j h => (shS_len s (n.items.take j) h).trans h256
  have htk : n.items.take n.items.length = n.items := List.take_length
  have h0 : shE s (n.items.take 0) = 0 ∧ shS s (n.items.take 0) = s := ⟨rfl, rfl⟩
  have HN := Lib.hid (And.intro hnext (And.intro hrr (And.intro hlen (And.intro htk (And.intro h0 h256)))))
  clear hnext hrr hlen htk h0 h256 hr hw_n
  go_enter Try.func99, Try.ntmps99
  go_upto_region 1 with (fail)
  clear hV
  go_upto_region 2 with (at_builtin; refine wpList_appB rfl (.const (.slice none 0 0)) (.tmp 10) 26 rfl V.heap.size 5 Try.underlying26 info_u8 (.slice none 0 0) [] rfl (OwnB.nil_ _ _ _) 0 V.heap.size _ s.now rfl HQ.out.2.2.2.1.n (by show 0 + s.now.length ≤ _; have := HN.out.2.2.2.2.2; omega) (Nat.le_refl _) ?_; intro ov wo hown hst; rw [List.nil_append] at hown; have hm := OwnB.made hown hst; clear hown)
  clear c_q_s0 c_q_s1 c_q_s2 c_q_s3 c_q_n0 c_q_n1 c_q_r0 c_q_r1 c_q_r2 c_q_r3
  obtain ⟨q_s, q_n, q_r, O_s, S_n, hB⟩ := HQ.out
  clear HQ
  obtain ⟨a_v, c_v, rfl, -, -⟩ := hm.bytes.form rfl
  have hm0 := LM.of hm
  have sz_wo : V.heap.size ≤ wo.heap.size := hst.size
  replace q_s := q_s.step hst
  replace q_n := q_n.step hst
  replace q_r := q_r.step hst
  replace O_s := O_s.step hst
  replace S_n := S_n.step hst
  replace hB := hB.step hst
  clear hst hm
  have HW := Lib.hid (And.intro q_s (And.intro q_n (And.intro q_r (And.intro O_s (And.intro S_n (And.intro hB hm0))))))
  clear q_s q_n q_r O_s S_n hB hm0
  go_wp2_with fail
  go_loopw [7] (fun i wr => ∃ (j : Nat), j ≤ n.items.length ∧ i = .int .i64 j ∧ shE s (n.items.take j) = 0 ∧ LM V.heap.size wo.heap.size (.slice a_v s.now.length c_v) (shS s (n.items.take j)).now wr ∧ (Below V.heap.size wo wr ∧ ∀ x, x < wo.heap.size → (x < V.heap.size ∨ wo.heap.size ≤ x) → wr.heap[x]? = wo.heap[x]?)) (fun i _ => n.items.length - (intOf i).toNat)
  case atStart => exact ⟨0, Nat.zero_le _, rfl, HN.out.2.2.2.2.1.1, HN.out.2.2.2.2.1.2.symm ▸ HW.out.2.2.2.2.2.2, Below.refl _ _, fun _ _ _ => rfl⟩
  case round =>
  obtain ⟨j, hj, rfl, he0, hm, hF⟩ := hrel
  have qn := LK.out HW.out.2.1 hF.1.size hF.2 (by omega)
  have n0 := LK.cell qn 0
  have n1 := LK.cell qn 1
  have qs := LK.out HW.out.1 hF.1.size hF.2 (by omega)
  have s0 := LK.cell qs 0
  have s1 := LK.cell qs 1
  have s2 := LK.cell qs 2
  have s3 := LK.cell qs 3
  have qr := LK.out HW.out.2.2.1 hF.1.size hF.2 (by omega)
  have r0 := LK.cell qr 0
  have r1 := LK.cell qr 1
  have r2 := LK.cell qr 2
  have r3 := LK.cell qr 3
  have z0 := LK.frozen qr 0
  have z1 := LK.frozen qr 1
  have z2 := LK.frozen qr 2
  have z3 := LK.frozen qr 3
  have y0 := LK.frozen qs 0
  have y1 := LK.frozen qs 1
  have y2 := LK.frozen qs 2
  have y3 := LK.frozen qs 3
  simp at n0 n1 s0 s1 s2 s3 r0 r1 r2 r3
  have hBf : LW w wr := LW.outB HW.out.2.2.2.2.2.1 hF.1 (by omega)
  by_cases hlt : j < n.items.length
  case pos =>
    have hS := (LS.out HW.out.2.2.2.2.1 hF.1.size hF.2 (by omega)).v
    obtain ⟨bi, oi, ci, e1, -, zi, yi, xi, hci⟩ := hS.at_ (by omega)
    injection e1 with e1 el e2
    subst e1 e2
    clear el
    obtain ⟨-, -, -, g3, -⟩ := hci j (n.items.getD j nokI) (by rw [List.getD_eq_getElem?_getD, List.getElem?_eq_getElem hlt]; rfl)
    unfold maxLen at xi
    have g3b : wr.cell? ⟨bi, oi + j * 5 + 3, none⟩ = some (.int .i64 (n.items.getD j nokI).ref) := g3
    clear hci g3 hS
    obtain ⟨x1, x2, x3⟩ := HN.out.1 j hlt he0
    have hrr := HN.out.2.1 j hlt
    have hl := HN.out.2.2.1 j he0
    generalize (n.items.getD j nokI).ref = r at *
    generalize hT : shS s (n.items.take j) = T at *
    have HX := Lib.hid (And.intro x1 (And.intro x2 x3))
    clear x1 x2 x3
    by_cases rz : r = 0
    case pos =>
      subst rz
      have HP := Lib.hid (And.intro hm hF)
      clear hm hF hBf qn qs qr
      go_wp2
      go_roundw
      case rel =>
        obtain ⟨a1, a2⟩ := HX.out.1 rfl
        exact ⟨j + 1, by omega, by go_num, a1, a2 ▸ HP.out.1, HP.out.2⟩
      case measure => simp [intOf]; omega
    obtain ⟨z, rfl⟩ : ∃ z : Nat, r = z := ⟨r.toNat, by omega⟩
    rw [Int.toNat_natCast] at HX
    have z8 : 8 ≤ z := by omega
    have z9 : z < 256 := by omega
    have i1 : ((z : Int) == 0) = false := by simp; omega
    obtain ⟨xb, xo, xc, e1, y5, y6, y7, y8, y9⟩ := hm.m.1.at_n hl (by omega)
    injection e1 with e1 el e2
    subst e1 e2
    have hcz := y9 z (T.now.getD z 0) (get_l _ _ _ (by omega))
    have hfz := hm.m.2 _ _ _ _ rfl z (by omega)
    have hl0 := HN.out.2.2.2.2.2
    have iq : ¬ (s.now.length : Int) ≤ (z : Int) := by omega
    have iq2 : (z : Int) < s.now.length := by omega
    unfold maxLen at y8
    clear y9 el hrr
    obtain ⟨x, hx⟩ : ∃ x, T.now.getD z 0 = x := ⟨_, rfl⟩
    rw [hx] at hcz
    simp only [bV] at hcz
    have HP := Lib.hid (And.intro hm (And.intro hF hl))
    have HL0 := Lib.hid hl0
    clear hm hF qn qs qr hl hl0
    by_cases h0 : x = 0
    case pos =>
      subst h0
      have hE : shE s n.items = 6 := by
        have hb : errBs T z = 6 := by unfold errBs; rw [if_pos hx]
        rw [HX.out.2.2 (by omega) (by rw [hb]; decide), hb]
      have HE := Lib.hid hE
      clear hE hx
      skip
      have HBF := Lib.hid hBf
      clear hBf
      go_wp2
      have hE := HE.out
      refine bodyPost_ret (v := .tuple #[.agg #[.slice none 0 0, .slice none 0 0, .slice none 0 0, .slice none 0 0], .int .i64 6]) (by simp [results, Try.results99, go_sem, r0, r1, r2, r3]) rfl ⟨_, _, _, _, by rw [hE], (nil_four (r := w.heap.size + 2) HBF.out (by omega) _ _ _ _).2, fun h => absurd (hE.symm.trans h) (by decide), fun _ => ⟨rfl, rfl, rfl, rfl⟩⟩
    have ix : ((x.toNat : Int) == 0) = false := by
      rw [beq_eq_false_iff_ne]
      exact u8_nz h0
    by_cases h1 : x = 255
    case pos =>
      subst h1
      have hE : shE s n.items = 70 := by
        have hb : errBs T z = 70 := by unfold errBs; rw [hx, if_neg (by decide), if_pos rfl]
        rw [HX.out.2.2 (by omega) (by rw [hb]; decide), hb]
      have HE := Lib.hid hE
      clear hE hx
      have HBF := Lib.hid hBf
      clear hBf
      go_wp2
      have hE := HE.out
      refine bodyPost_ret (v := .tuple #[.agg #[.slice none 0 0, .slice none 0 0, .slice none 0 0, .slice none 0 0], .int .i64 70]) (by simp [results, Try.results99, go_sem, r0, r1, r2, r3]) rfl ⟨_, _, _, _, by rw [hE], (nil_four (r := w.heap.size + 2) HBF.out (by omega) _ _ _ _).2, fun h => absurd (hE.symm.trans h) (by decide), fun _ => ⟨rfl, rfl, rfl, rfl⟩⟩
    have ix2 : ((x.toNat : Int) == 255) = false := by
      rw [beq_eq_false_iff_ne]
      intro e
      exact h1 (UInt8.toNat_inj.1 (by have : x.toNat = 255 := by omega
                                      rw [this]; rfl))
    have hb : errBs T z = 0 := by unfold errBs; rw [hx, if_neg h0, if_neg h1]
    have hup : upS T z = ⟨T.disk, T.now.set z (x + 1), T.last⟩ := by unfold upS; rw [if_pos hb, hx]
    have hx9 : x.toNat + 1 < 256 := by have := x.toNat_lt; have : x.toNat ≠ 255 := fun e => h1 (UInt8.toNat_inj.1 (by rw [e]; rfl)); omega
    have hxa : ((x + 1).toNat : Int) = (x.toNat : Int) + 1 := by rw [UInt8.toNat_add]; have : (1 : UInt8).toNat = 1 := rfl; rw [this]; omega
    have i6 : IntKind.u8.wrap ((x.toNat : Int) + 1) = (x.toNat : Int) + 1 := by rw [IntKind.wrap_u8]; omega
    have HY := Lib.hid (And.intro hb (And.intro hup hxa))
    clear hb hup hxa hx9 h0 h1 hx hBf
    go_wp2_with fail
    go_roundw
    case rel =>
      obtain ⟨hm, hF, hl⟩ := HP.out
      obtain ⟨hb, hup, hxa⟩ := HY.out
      obtain ⟨a1, a2⟩ := HX.out.2.1 (by omega) hb
      have hs := LM.set (V := wr) hm z (x + 1) (by omega)
      have hv : bV (x + 1) = .int .u8 ((x.toNat : Int) + 1) := by unfold bV; rw [hxa]
      rw [hv] at hs
      exact ⟨j + 1, by omega, by go_num, a1, by rw [a2, hup]; exact hs, hF.1.setCell (p := ⟨xb, xo + z, none⟩) y5 _, fun q h1 h2 => (set_other wr xb (xo + z) _ q (by omega)).trans (hF.2 q h1 h2)⟩
    case measure => simp [intOf]; omega
  obtain rfl : j = n.items.length := by omega
  rw [HN.out.2.2.2.1] at he0 hm
  have HP := Lib.hid (And.intro hm (And.intro hF (And.intro hBf he0)))
  have szr := hF.1.size
  clear hm hF hBf he0 qn qs qr hlt hj
  go_wp2
  have he0 := HP.out.2.2.2
  refine bodyPost_ret (v := .tuple #[.agg #[.slice ab_s s.disk.blocks.length cb_s, .slice au_s s.disk.waits.length cu_s, .slice a_v s.now.length c_v, .slice ay_s s.last.length cy_s], .int .i64 0]) (by simp [results, Try.results99, go_sem, r0, r1, r2, r3]) rfl ⟨_, _, _, _, by rw [he0], ?_, fun _ => ⟨rfl, rfl, rfl, ?_⟩, fun h => absurd he0 h⟩
  · exact Below.trans (HP.out.2.2.1.setCell (p := ⟨w.heap.size, 2, none⟩) (Nat.le_refl _) _) (below_four (wr.setCell ⟨w.heap.size, 2, none⟩ (.slice a_v s.now.length c_v)) _ _ _ _ (by omega))
  · obtain ⟨hm, hF, hBf, -⟩ := HP.out
    have hm1 := hm.out (V' := (wr.setCell ⟨w.heap.size, 2, none⟩ (.slice a_v s.now.length c_v))) (n0 := w.heap.size) (h0 := w.heap.size + 1) (Nat.le_of_eq (World.size_setCell _ _ _).symm) (fun q _ h => set_other _ _ _ _ _ (by omega)) (by omega)
    obtain ⟨hs, hf⟩ := four_frame (wr.setCell ⟨w.heap.size, 2, none⟩ (.slice a_v s.now.length c_v)) (w.heap.size + 2) (.slice ab_s s.disk.blocks.length cb_s) (.slice au_s s.disk.waits.length cu_s) (.slice a_v s.now.length c_v) (.slice ay_s s.last.length cy_s)
    have hm2 := hm1.out (Nat.le_of_eq hs.symm) hf (.inr (by omega))
    exact hm2.m.1.more (by omega) (Lv.hi_le hm2)
end Go.Proofs.Ytkfgegdnpinbdaa

namespace Go.Proofs.Ytkfgegdnpinbdaa
open Go.RowKit

set_option linter.unusedSimpArgs false
set_option maxRecDepth 100000 in
set_option maxHeartbeats 1000000 in
theorem rnblock_any (n : NodeL) (u_n : Value) (w : World) (h_n : Sl rItem w 0 w.heap.size u_n n.items) (hm : mayN n = true) :
    Calls Try.prog 100 #[.agg #[.int .i64 n.level, u_n]] w fun e w' => ∃ u, e = .returned u ∧ MadeB w w' u (blockN n) := by
  obtain ⟨a_n, c_n, rfl, g_n, gm_n, -, -⟩ := id h_n
  unfold maxLen at gm_n
  have hst := ((Below.refl w.heap.size w).alloc (Nat.le_refl _) (.cells #[.int .i64 n.level, .slice a_n n.items.length c_n] 47))
  have q_n := LK.new w (.cells #[.int .i64 n.level, .slice a_n n.items.length c_n] 47)
  have hB : LW w _ := hst
  have S_n := (LS.of h_n (Nat.le_refl _)).step hst
  have sz_V : w.heap.size + 0 < (w.alloc (.cells #[.int .i64 n.level, .slice a_n n.items.length c_n] 47)).heap.size := by simp
  obtain ⟨V, hV⟩ : ∃ V, (w.alloc (.cells #[.int .i64 n.level, .slice a_n n.items.length c_n] 47)) = V := ⟨_, rfl⟩
  rw [hV] at sz_V q_n S_n hB
  clear hst h_n
  have HQ := Lib.hid (And.intro q_n (And.intro S_n hB))
  clear q_n S_n hB
  have c_q_n0 := LK.cell HQ.out.1 0
  have c_q_n1 := LK.cell HQ.out.1 1
  simp at c_q_n0 c_q_n1
  have hbl : blockN n = sealL (bytesN n) := by unfold blockN; rw [hm]; rfl
  have hlen := bytesN_len hm
  rw [hbl]
  clear hbl
  have k_t := fun V v hh => rntold_any n v V hh hm
  have k_s := fun V v hh => rsealed_any v (bytesN n) V hh hlen
  clear hlen hm
  generalize bytesN n = B at *
  have HC := Lib.hid (And.intro k_t k_s)
  clear k_t k_s
  go_enter Try.func100, Try.ntmps100
  go_upto_region 1 with (fail)
  clear hV
  go_wp2_with fail
  refine (HC.out.1 _ _ HQ.out.2.1.v).mono ?_
  rintro e w1 ⟨v1, rfl, hm⟩
  clear c_q_n0 c_q_n1
  obtain ⟨q_n, S_n, hB⟩ := HQ.out
  clear HQ
  have B_t := (LM.of hm).b
  have hst := hm.below
  obtain ⟨a1, c1, rfl, -, -⟩ := hm.bytes.form rfl
  clear hm
  have sz_w1 : V.heap.size ≤ w1.heap.size := hst.size
  replace q_n := q_n.step hst
  replace S_n := S_n.step hst
  replace hB := hB.step hst
  clear hst
  have HQ := Lib.hid (And.intro q_n (And.intro S_n (And.intro B_t hB)))
  clear q_n S_n B_t hB
  have c_q_n0 := LK.cell HQ.out.1 0
  have c_q_n1 := LK.cell HQ.out.1 1
  simp at c_q_n0 c_q_n1
  go_wp2_with fail
  refine (HC.out.2 _ _ HQ.out.2.2.1.v).mono ?_
  rintro e w2 ⟨v2, rfl, hm⟩
  clear c_q_n0 c_q_n1
  obtain ⟨q_n, S_n, B_t, hB⟩ := HQ.out
  clear HQ
  have hB0 := hB
  have hmw := MadeB.mk (hm.bytes.more (Below.size hB0) (Nat.le_refl _)) hm.thawed (below_step hB0 (Below.size hB0) hm.below)
  have hst := hm.below
  have HMW := Lib.hid hmw
  clear hmw hm hB0
  have sz_w2 : w1.heap.size ≤ w2.heap.size := hst.size
  replace q_n := q_n.step hst
  replace S_n := S_n.step hst
  replace B_t := B_t.step hst
  replace hB := hB.step hst
  clear hst
  have HQ := Lib.hid (And.intro q_n (And.intro S_n (And.intro B_t hB)))
  clear q_n S_n B_t hB
  have c_q_n0 := LK.cell HQ.out.1 0
  have c_q_n1 := LK.cell HQ.out.1 1
  simp at c_q_n0 c_q_n1
  go_wp2
  go_ret
  exact ⟨_, rfl, HMW.out⟩

end Go.Proofs.Ytkfgegdnpinbdaa

