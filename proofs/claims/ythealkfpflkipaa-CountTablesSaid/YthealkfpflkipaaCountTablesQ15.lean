/- CountTables: the words and contracts, part 15. -/
import Derived.Test.YthealkfpflkipaaCountTablesQ1
import Derived.Test.YthealkfpflkipaaCountTablesQ2
import Derived.Test.YthealkfpflkipaaCountTablesQ3
import Derived.Test.YthealkfpflkipaaCountTablesQ4
import Derived.Test.YthealkfpflkipaaCountTablesQ5
import Derived.Test.YthealkfpflkipaaCountTablesQ6
import Derived.Test.YthealkfpflkipaaCountTablesQ7
import Derived.Test.YthealkfpflkipaaCountTablesQ8
import Derived.Test.YthealkfpflkipaaCountTablesQ9
import Derived.Test.YthealkfpflkipaaCountTablesQ10
import Derived.Test.YthealkfpflkipaaCountTablesQ11
import Derived.Test.YthealkfpflkipaaCountTablesQ12
import Derived.Test.YthealkfpflkipaaCountTablesQ13
import Derived.Test.YthealkfpflkipaaCountTablesQ14
import Derived.WalkKit
import Derived.WalkLawsBesides
import Derived.WalkSpells
import Derived.Lib.Hide
import Derived.Laws.Rows
import Derived.Laws.AppendOwnNone
import Derived.Maps.AppendAt
import Derived.ProofKit
import Derived.Deep.Slices
import Derived.WideShapes
import Derived.RangeFuncNested
import Derived.RangeFuncBound
import Derived.RangeFuncCalls
import Derived.RangeFuncLeaves
import Derived.RangeFuncBox
import Derived.Shelf.Abstract
import Derived.Shelf.RegionOpen
import Derived.OwnWalkIn
import Derived.TacticsInMore
import Derived.LoopNIn
import Derived.LoopIn
import Derived.Lib.AppendZerosOnto
import Derived.Lib.SliceRun
import Derived.Lib.Walk
import Derived.Deep.LoopGhost
import Derived.Laws.CopyOwn
import Derived.OrdersHeld
import Derived.Deep.QuietTactic
import Derived.BigQuiet
import Derived.StillTailTactics
import Derived.OpenShut
import Derived.Deep.DeepCutAuto
import Derived.Laws.CopyRow
import Derived.Laws.MakeOwn
import Derived.Deep.RegionHeld
import Derived.KernelRfl
import Derived.BigFrameIn
namespace Go.Proofs.Ythealkfpflkipaa
open Go.RowKit

set_option linter.unusedSimpArgs false
theorem hide_ckT {z z' : World} {S : Nat → Bool} (h : ∀ k, k < z.heap.size → S k = false → z'.heap[k]? = z.heap[k]?) : CKc (hideW z S) z' :=
  (hideW_ck (S' := fun _ => false) fun k h1 h2 => ⟨rfl, h k h1 h2⟩).trans (hideW_out z' _)
theorem hide_ckH {z z' : World} {S : Nat → Bool} (h : ∀ k, k < z.heap.size → S k = false → z'.heap[k]? = z.heap[k]?) : CKc (hideW z S) (hideW z' S) :=
  hideW_ck fun k h1 h2 => ⟨h2, h k h1 h2⟩
theorem hide_sizeT (w : World) (S : Nat → Bool) : (hideW w S).heap.size = w.heap.size := by simp [hideW]
theorem cls_allocT {w X : World} (_ : Cls w X) (o : Obj) : Below X.heap.size X (X.alloc o) := (Below.refl _ _).alloc (Nat.le_refl _) o
theorem cls_newT {w X : World} (_ : Cls w X) (o : Obj) : LK X.heap.size o (X.alloc o) := LK.new X o
def atS (r k : Nat) : Bool := decide (k = r)
theorem atS_no {r k : Nat} (h : k ≠ r) : atS r k = false := decide_eq_false h
theorem atS_ne {r k : Nat} (h : atS r k = false) : k ≠ r := of_decide_eq_false h
/-- What a call answered, behind a box of its own and without a cell. -/
theorem gotT_hide {W cur z wx : World} {r g : Nat} {b u : Value} {d : DiskL} (F : GotT (hideW W (atS r)) cur z b u d) (hr : r < W.heap.size) (hWc : Below W.heap.size W cur) (h : ∀ k, k < z.heap.size → k ≠ g → wx.heap[k]? = z.heap[k]?) (hg : g < cur.heap.size ∨ z.heap.size ≤ g) (hgW : W.heap.size ≤ g)
    (hs : z.heap.size ≤ wx.heap.size) : DiskV (hideW wx (atS r)) 0 wx.heap.size b u d := by
  have hz := F.below
  have h1 := F.disk (hideW wx (atS r)) (by rw [hide_sizeT]; exact hs) (hide_ckH fun k hk hS => ?_) (fun k h2 h3 => ?_)
  · rwa [hide_sizeT] at h1
  · have e1 : wx.heap[k]? = z.heap[k]? := h k (Nat.lt_of_lt_of_le hk (Nat.le_trans hWc.size hz.size)) (by omega)
    exact e1.trans ((hz.block k (Nat.lt_of_lt_of_le hk hWc.size)).trans (hWc.block k hk))
  · have hkr : k ≠ r := by have := hWc.size; omega
    rw [hideW_get _ _ _ (atS_no hkr)]
    exact h k h3 (by omega)
theorem run_preT (a : Option Addr) (len c n : Nat) (h : n ≤ c) (w : World) : (Instr.sliceAt 22 (.slice a len c) none (some (.int .i64 n)) none).run Try.prog w = .ok (.slice a n c) w := by
  cases a with
  | none => simp [go_sem, h]
  | some ad => simp [go_sem, h]
theorem run_cutT (b off n c i : Nat) (hin : i ≤ n) (hic : i < c) : ∀ w, (Instr.sliceAt 22 (.slice (some ⟨b, off, none⟩) n c) (some (.int .i64 (i : Int))) none none).run Try.prog w = .ok (.slice (some ⟨b, off + i, none⟩) (n - i) (c - i)) w := fun w => by
  simp [go_sem]
  rw [if_pos hin, if_neg (by omega)]
/-- A table is written by two writes. -/
theorem two_writes {d : DiskL} {s : Int} {t : List UInt8} (hd : mayD d = true) (hs : s = 0 ∨ s = 1) (ht : mayT t = true) :
    errX d s t = (if errW d (4 + 2 * s) (t.take 128) ≠ 0 then errW d (4 + 2 * s) (t.take 128) else errW (writeD d (4 + 2 * s) (t.take 128)) (5 + 2 * s) (t.drop 128)) ∧
    (errW d (4 + 2 * s) (t.take 128) = 0 → outX d s t = writeD (writeD d (4 + 2 * s) (t.take 128)) (5 + 2 * s) (t.drop 128)) := by
  have hl : t.length = 256 := by unfold mayT at ht; rw [Bool.and_eq_true, beq_iff_eq] at ht; exact ht.1
  have hp : errP d s = 0 := by rw [errP_may hd, if_pos hs]
  have hq : plcP d s = 4 + 2 * s := by unfold plcP; rw [if_pos hp]
  have h128 : (t.drop 128).take 128 = t.drop 128 := List.take_of_length_le (by simp; omega)
  have hst : stC t d (plcP d s) (chL 2) = stepC t (stepC t (d, 4 + 2 * s, 0) 0) 1 := by rw [hq]; rfl
  have h5 : (4 : Int) + 2 * s + 1 = 5 + 2 * s := by omega
  have hX : errX d s t = (stepC t (stepC t (d, 4 + 2 * s, 0) 0) 1).2.2 := by
    unfold errX
    rw [if_neg (by simp [hp]), ht, if_pos rfl, hst]
  have hO : outX d s t = if errX d s t = 0 then (stepC t (stepC t (d, 4 + 2 * s, 0) 0) 1).1 else ⟨[], []⟩ := by
    unfold outX
    rw [hst]
  have h0 : stepC t (d, 4 + 2 * s, 0) 0 = (writeD d (4 + 2 * s) (t.take 128), 5 + 2 * s, errW d (4 + 2 * s) (t.take 128)) := by
    unfold stepC
    simp [h5]
  rw [h0] at hX hO
  have h1 : stepC t (writeD d (4 + 2 * s) (t.take 128), 5 + 2 * s, errW d (4 + 2 * s) (t.take 128)) 1 = if errW d (4 + 2 * s) (t.take 128) ≠ 0 then (writeD d (4 + 2 * s) (t.take 128), 5 + 2 * s, errW d (4 + 2 * s) (t.take 128)) else (writeD (writeD d (4 + 2 * s) (t.take 128)) (5 + 2 * s) (t.drop 128), 5 + 2 * s + 1, errW (writeD d (4 + 2 * s) (t.take 128)) (5 + 2 * s) (t.drop 128)) := by
    unfold stepC
    simp [h128]
  refine ⟨?_, fun h => ?_⟩
  · rw [hX, h1]
    split <;> rfl
  · have h2 := h1.trans (if_neg (by simp [h]))
    rw [h2] at hX hO
    simp only at hX hO
    rw [hO]
    by_cases he : errX d s t = 0
    · rw [if_pos he]
    · rw [if_neg he]
      rw [hX] at he
      have wn : ∀ (D : DiskL) (p : Int) (l : List UInt8), errW D p l ≠ 0 → writeD D p l = ⟨[], []⟩ := fun D p l h => by unfold writeD; rw [if_neg h]
      exact (wn _ _ _ he).symm
set_option maxRecDepth 100000 in
set_option maxHeartbeats 4000000 in
theorem rcwrite_any (d : DiskL) (b_d u_d : Value) (s : Int) (v_t : Value) (t : List UInt8) (w : World) (h_d : DiskV w 0 w.heap.size b_d u_d d) (h_t : Bytes w 0 w.heap.size v_t t) :
    Calls Try.prog 14 #[.agg #[b_d, u_d], .int .i64 s, v_t] w fun e w' => ∃ b' u', e = .returned (.tuple #[.agg #[b', u'], .int .i64 (errX d s t)]) ∧ GotD w w' b' u' (outX d s t) := by
  obtain ⟨ab_d, cb_d, rfl, gb_d, gc_d, -, -⟩ := h_d.1
  obtain ⟨au_d, cu_d, rfl, gu_d, gv_d, -, -⟩ := h_d.2
  unfold maxLen at gc_d gv_d
  obtain ⟨a_t, c_t, rfl, g_t, gm_t⟩ := h_t.form rfl
  unfold maxLen at gm_t
  have hst := (((Below.refl w.heap.size w).alloc (Nat.le_refl _) (.cells #[.slice ab_d d.blocks.length cb_d, .slice au_d d.waits.length cu_d] 26)).alloc (by simp) (.cells #[.slice none 0 0, .slice none 0 0] 26))
  have hq := two_new w (.cells #[.slice ab_d d.blocks.length cb_d, .slice au_d d.waits.length cu_d] 26) (.cells #[.slice none 0 0, .slice none 0 0] 26)
  have q_d := LK.of hq.1
  have q_r := LK.of hq.2
  have hB : LW w _ := hst
  have D_d := (LD.of h_d (Nat.le_refl _)).step hst
  have B_t := (LB.of h_t (Nat.le_refl _)).step hst
  have sz_V : w.heap.size + 1 < ((w.alloc (.cells #[.slice ab_d d.blocks.length cb_d, .slice au_d d.waits.length cu_d] 26)).alloc (.cells #[.slice none 0 0, .slice none 0 0] 26)).heap.size := by simp
  obtain ⟨V, hV⟩ : ∃ V, ((w.alloc (.cells #[.slice ab_d d.blocks.length cb_d, .slice au_d d.waits.length cu_d] 26)).alloc (.cells #[.slice none 0 0, .slice none 0 0] 26)) = V := ⟨_, rfl⟩
  rw [hV] at sz_V q_d q_r D_d B_t hB
  clear hst h_d h_t hq
  have HQ := Lib.hid (And.intro q_d (And.intro q_r (And.intro D_d (And.intro B_t hB))))
  clear q_d q_r D_d B_t hB
  have c_q_d0 := LK.cell HQ.out.1 0
  have c_q_d1 := LK.cell HQ.out.1 1
  have c_q_r0 := LK.cell HQ.out.2.1 0
  have c_q_r1 := LK.cell HQ.out.2.1 1
  simp at c_q_d0 c_q_d1 c_q_r0 c_q_r1
  have hno := outX_no (d := d) (s := s) (t := t)
  have htw := two_writes (d := d) (s := s) (t := t)
  have he1 : mayD d = false → errX d s t = 8 := fun h => by
    have h1 : errP d s = 8 := by unfold errP; rw [h]; rfl
    unfold errX
    rw [h1, if_pos (by decide)]
  have he2 : mayD d = true → ¬ (s = 0 ∨ s = 1) → errX d s t = 2 := fun h h2 => by
    have h1 : errP d s = 2 := by rw [errP_may h, if_neg h2]
    unfold errX
    rw [h1, if_pos (by decide)]
  have he3 : mayD d = true → (s = 0 ∨ s = 1) → mayT t = false → errX d s t = 8 := fun h h2 h3 => by
    have h1 : errP d s = 0 := by rw [errP_may h, if_pos h2]
    unfold errX
    rw [h1, if_neg (by decide), h3]
    rfl
  have htl : mayT t = true → t.length = 256 := fun h => by unfold mayT at h; rw [Bool.and_eq_true, beq_iff_eq] at h; exact h.1
  have k_d := fun V b u hh => rmayd_any b u d V hh
  have k_t := fun V v hh => rmayt_any v t V hh
  have k_w := fun V T b u v l (p : Int) hc hs h1 h2 => rdwriteT b u d p v l V T hc hs h1 h2
  have k_x := fun (e : DiskL) V T b u v l (p : Int) hc hs h1 h2 => rdwriteT b u e p v l V T hc hs h1 h2
  generalize errX d s t = ex at *
  generalize outX d s t = ox at *
  generalize mayD d = md at *
  obtain ⟨mt, hmt⟩ : ∃ q, mayT t = q := ⟨_, rfl⟩
  rw [hmt] at k_t he3 htl htw
  have HN := Lib.hid (And.intro hno (And.intro htw (And.intro he1 (And.intro he2 (And.intro he3 htl)))))
  clear hno htw he1 he2 he3 htl hmt
  have HC := Lib.hid (And.intro k_d (And.intro k_t (And.intro k_w k_x)))
  clear k_d k_t k_w k_x
  go_enter Try.func14, Try.ntmps14
  go_upto_region 1 with (fail)
  clear hV
  go_wp2_with fail
  refine (HC.out.1 _ _ _ HQ.out.2.2.1.v).mono ?_
  rintro e w1 ⟨rfl, hst⟩
  clear c_q_d0 c_q_d1 c_q_r0 c_q_r1
  obtain ⟨q_d, q_r, D_d, B_t, hB⟩ := HQ.out
  clear HQ
  have sz_w1 : V.heap.size ≤ w1.heap.size := hst.size
  replace q_d := q_d.step hst
  replace q_r := q_r.step hst
  replace D_d := D_d.step hst
  replace B_t := B_t.step hst
  replace hB := hB.step hst
  clear hst
  have HQ := Lib.hid (And.intro q_d (And.intro q_r (And.intro D_d (And.intro B_t hB))))
  clear q_d q_r D_d B_t hB
  have c_q_d0 := LK.cell HQ.out.1 0
  have c_q_d1 := LK.cell HQ.out.1 1
  have c_q_r0 := LK.cell HQ.out.2.1 0
  have c_q_r1 := LK.cell HQ.out.2.1 1
  simp at c_q_d0 c_q_d1 c_q_r0 c_q_r1
  cases md
  case false =>
    clear c_q_d0 c_q_d1 c_q_r0 c_q_r1
    have c_q_d0 := LK.cell HQ.out.1 0
    have c_q_d1 := LK.cell HQ.out.1 1
    have c_q_r0 := LK.cell HQ.out.2.1 0
    have c_q_r1 := LK.cell HQ.out.2.1 1
    have z_q_r0 := LK.frozen HQ.out.2.1 0
    have z_q_r1 := LK.frozen HQ.out.2.1 1
    simp at c_q_d0 c_q_d1 c_q_r0 c_q_r1
    obtain rfl := HN.out.2.2.1 rfl
    have hox := HN.out.1 (by decide)
    subst hox
    have hBf := HQ.out.2.2.2.2
    go_wp2
    refine bodyPost_ret (v := .tuple #[.agg #[.slice none 0 0, .slice none 0 0], .int .i64 8]) (by simp [results, Try.results14, go_sem, c_q_r0, c_q_r1]) rfl ⟨_, _, rfl, GotD.nil_ ?_⟩
    exact (hBf.setCell (p := ⟨w.heap.size + 1, 0, none⟩) (Nat.le_succ _) _).setCell (p := ⟨w.heap.size + 1, 1, none⟩) (Nat.le_succ _) _
  by_cases hs : s = 0 ∨ s = 1
  case neg =>
    obtain rfl := HN.out.2.2.2.1 (by trivial) hs
    have n1 : ¬ s = 0 := fun e => hs (.inl e)
    have n2 : ¬ s = 1 := fun e => hs (.inr e)
    have n3 : (s != 0) = true := by simp [n1]
    have n4 : (s != 1) = true := by simp [n2]
    have n5 : (s == 0) = false := by simp [n1]
    have n6 : (s == 1) = false := by simp [n2]
    clear hs
    clear c_q_d0 c_q_d1 c_q_r0 c_q_r1
    have c_q_d0 := LK.cell HQ.out.1 0
    have c_q_d1 := LK.cell HQ.out.1 1
    have c_q_r0 := LK.cell HQ.out.2.1 0
    have c_q_r1 := LK.cell HQ.out.2.1 1
    have z_q_r0 := LK.frozen HQ.out.2.1 0
    have z_q_r1 := LK.frozen HQ.out.2.1 1
    simp at c_q_d0 c_q_d1 c_q_r0 c_q_r1
    have hox := HN.out.1 (by decide)
    subst hox
    have hBf := HQ.out.2.2.2.2
    go_wp2
    refine bodyPost_ret (v := .tuple #[.agg #[.slice none 0 0, .slice none 0 0], .int .i64 2]) (by simp [results, Try.results14, go_sem, c_q_r0, c_q_r1]) rfl ⟨_, _, rfl, GotD.nil_ ?_⟩
    exact (hBf.setCell (p := ⟨w.heap.size + 1, 0, none⟩) (Nat.le_succ _) _).setCell (p := ⟨w.heap.size + 1, 1, none⟩) (Nat.le_succ _) _
  obtain ⟨sn, rfl, hsn⟩ : ∃ sn : Nat, s = sn ∧ sn ≤ 1 := ⟨s.toNat, by omega, by omega⟩
  go_upto_region 3 with (fail)
  go_cut [19] (fun q wx => q = .bool false ∧ w1 = wx)
  case first =>
    rcases hs with h | h
    · obtain rfl : sn = 0 := by omega
      go_wp2
      go_meet
      exact ⟨rfl, rfl⟩
    · obtain rfl : sn = 1 := by omega
      go_wp2
      go_meet
      exact ⟨rfl, rfl⟩
  case rest =>
  obtain ⟨rfl, hwx⟩ := hcut
  subst hwx
  go_wp2_with fail
  refine (HC.out.2.1 _ _ HQ.out.2.2.2.1.v).mono ?_
  rintro e w0 ⟨rfl, hw0⟩
  rw [hw0]
  clear hw0 w0
  cases mt
  case false =>
    clear c_q_d0 c_q_d1 c_q_r0 c_q_r1
    have c_q_d0 := LK.cell HQ.out.1 0
    have c_q_d1 := LK.cell HQ.out.1 1
    have c_q_r0 := LK.cell HQ.out.2.1 0
    have c_q_r1 := LK.cell HQ.out.2.1 1
    have z_q_r0 := LK.frozen HQ.out.2.1 0
    have z_q_r1 := LK.frozen HQ.out.2.1 1
    simp at c_q_d0 c_q_d1 c_q_r0 c_q_r1
    obtain rfl := HN.out.2.2.2.2.1 (by trivial) hs (by trivial)
    have hox := HN.out.1 (by decide)
    subst hox
    have hBf := HQ.out.2.2.2.2
    go_wp2
    refine bodyPost_ret (v := .tuple #[.agg #[.slice none 0 0, .slice none 0 0], .int .i64 8]) (by simp [results, Try.results14, go_sem, c_q_r0, c_q_r1]) rfl ⟨_, _, rfl, GotD.nil_ ?_⟩
    exact (hBf.setCell (p := ⟨w.heap.size + 1, 0, none⟩) (Nat.le_succ _) _).setCell (p := ⟨w.heap.size + 1, 1, none⟩) (Nat.le_succ _) _
  have htl := HN.out.2.2.2.2.2 (by trivial)
  obtain ⟨hx1, hx2⟩ := HN.out.2.1 (by trivial) hs (by trivial)
  have HS := Lib.hid hs
  clear hs
  obtain ⟨bt, ot, ct, e1, -, zt, zt1, zt2, -⟩ := HQ.out.2.2.2.1.v.at_n htl (by omega)
  injection e1 with e1 e3 e2
  subst e1 e2
  have hcm := zt2
  unfold maxLen at zt2
  skip
  have s1 : ∀ V : World, (Instr.sliceAt 22 (.slice (some ⟨bt, ot, none⟩) t.length c_t) none (some (.int .i64 128)) none).run Try.prog V = .ok (.slice (some ⟨bt, ot, none⟩) 128 c_t) V := fun V => run_preT _ _ _ 128 (by omega) V
  have s2 : ∀ V : World, (Instr.sliceAt 22 (.slice (some ⟨bt, ot, none⟩) t.length c_t) (some (.int .i64 128)) none none).run Try.prog V = .ok (.slice (some ⟨bt, ot + 128, none⟩) 128 (c_t - 128)) V := fun V => by have := run_cutT bt ot t.length c_t 128 (by omega) (by omega) V; rwa [htl] at this ⊢
  have hpre : ∀ V lo hi, Bytes V lo hi (.slice (some ⟨bt, ot, none⟩) t.length c_t) t → Bytes V lo hi (.slice (some ⟨bt, ot, none⟩) 128 c_t) (t.take 128) := fun V lo hi hb => hb.pre 128 (by omega)
  have hsuf : ∀ V lo hi, Bytes V lo hi (.slice (some ⟨bt, ot, none⟩) t.length c_t) t → Bytes V lo hi (.slice (some ⟨bt, ot + 128, none⟩) 128 (c_t - 128)) (t.drop 128) := fun V lo hi hb => by
    have h1 := hb.cut 128 128 (c_t - 128) (by omega) (by omega) (by unfold maxLen; omega)
    rwa [List.take_of_length_le (by simp; omega)] at h1
  have HPS := Lib.hid (And.intro hpre hsuf)
  clear hpre hsuf hcm
  obtain ⟨e1, he1⟩ : ∃ q, errW d (4 + 2 * (sn : Int)) (t.take 128) = q := ⟨_, rfl⟩
  obtain ⟨wd, hwd⟩ : ∃ q, writeD d (4 + 2 * (sn : Int)) (t.take 128) = q := ⟨_, rfl⟩
  have k1 := fun V T b u v hc hs h1 h2 => HC.out.2.2.1 V T b u v (t.take 128) (4 + 2 * (sn : Int)) hc hs h1 h2
  rw [he1, hwd] at k1 hx1 hx2
  have K1 := Lib.hid k1
  have HX := Lib.hid (And.intro hx1 hx2)
  clear k1 hx1 hx2 he1 hwd
  have hTd : DiskV (hideW w1 (atS (w.heap.size + 1))) 0 (hideW w1 (atS (w.heap.size + 1))).heap.size (.slice ab_d d.blocks.length cb_d) (.slice au_d d.waits.length cu_d) d := (LD.out (n0 := w.heap.size + 1) (h0 := w.heap.size + 2) HQ.out.2.2.1 (Nat.le_of_eq (hide_sizeT _ _).symm) (fun x _ h => hideW_get _ _ _ (atS_no (by omega))) (by omega)).v
  have hTb : Bytes (hideW w1 (atS (w.heap.size + 1))) 0 (hideW w1 (atS (w.heap.size + 1))).heap.size (.slice (some ⟨bt, ot, none⟩) t.length c_t) t := (LB.out (n0 := w.heap.size + 1) (h0 := w.heap.size + 2) HQ.out.2.2.2.1 (Nat.le_of_eq (hide_sizeT _ _).symm) (fun x _ h => hideW_get _ _ _ (atS_no (by omega))) (by omega)).v
  have hrl := LK.lt HQ.out.2.1
  have HT := Lib.hid (And.intro hTd (And.intro (HPS.out.1 _ _ _ hTb) hrl))
  clear hTd hTb hrl
  have i4 : (4 : Int) + 2 * (sn : Int) < 7 := by omega
  have i5 : (5 : Int) + 2 * (sn : Int) < 8 := by omega
  go_upto_region 7 with (fail)
  go_cut [8, 9] (fun t1 t2 wx => ∃ (g : Nat) (a1 a2 : Option Addr) (c1 c2 : Nat), t1 = .pointer (some ⟨g, 0, none⟩) ∧ t2 = .int .i64 e1 ∧ LK g (.cells #[.slice a1 wd.blocks.length c1, .slice a2 wd.waits.length c2] 26) wx ∧ w1.heap.size ≤ g ∧ DiskV (hideW wx (atS (w.heap.size + 1))) 0 wx.heap.size (.slice a1 wd.blocks.length c1) (.slice a2 wd.waits.length c2) wd ∧ Below w1.heap.size w1 wx)
  case first =>
    clear c_q_d0 c_q_d1 c_q_r0 c_q_r1
    have x_d0 := fun X => LK.cell (HQ.out.1.step (aft_below w1 X)) 0
    have x_d1 := fun X => LK.cell (HQ.out.1.step (aft_below w1 X)) 1
    simp at x_d0 x_d1
    refine wp_region_held_drew (S := Cls w1) (by kernel_rfl) (Cls.drew w1) (fun hCl => ?_)
    refine wpAnyH_seg (fuel := 7) (by kernel_rfl) (fun _ d _ _ _ h => by cases d <;> exact h) hCl [0, 1, 2, 3, 4, 5] _ _ _ (by kernel_rfl) (by kernel_rfl) ?_
    simp only [opsOf_cons, opsOf_nil, consOp_some, List.getElem?_toArray, List.getElem?_cons_succ, List.getElem?_cons_zero]
    repeat (first | go_big_quiet_step (fail) | quiet_step (fail))
    refine wpQuiet_nil ?_
    refine wpAnyH_each (fuel := 6) [6, 10] (by kernel_rfl) (by simp) (by kernel_rfl) ?_
    refine Each.cons _ rfl (fun K' hK => ?_) ?_
    · go_simp
      have hck : CKc (hideW w1 (atS (w.heap.size + 1))) (w1.drew) := (hide_ckT fun _ _ _ => rfl).trans (CKc.below hCl.below)
      refine (K1.out _ _ _ _ _ hck (by rw [hide_sizeT]; exact hCl.below.size) HT.out.1 HT.out.2.1).mono ?_
      rintro e z1 ⟨b1, u1, rfl, hg⟩
      have hs := hg.below
      obtain ⟨a1, c1, rfl, -, -, -, -⟩ := id (hg.got hck).disk.1
      obtain ⟨a2, c2, rfl, -, -, -, -⟩ := id (hg.got hck).disk.2
      have HG := Lib.hid (And.intro hg hCl.below)
      clear hg hck
      have sz_z1 : (w1.drew).heap.size ≤ z1.heap.size := hs.size
      have hst := below_step hCl.below hCl.below.size hs
      clear hs
      have hCl := Cls.of hst
      refine hK.out (Cls w1) (fun _ h => h) hCl ?_
      clear hK K'
      refine wpAnyH_seg (fuel := 3) (by kernel_rfl) (fun _ d _ _ _ h => by cases d <;> exact h) hCl [7, 8, 9] _ _ _ (by kernel_rfl) (by kernel_rfl) ?_
      simp only [opsOf_cons, opsOf_nil, consOp_some, List.getElem?_toArray, List.getElem?_cons_succ, List.getElem?_cons_zero]
      repeat (first | go_big_quiet_step (fail) | quiet_step (fail))
      refine wpQuiet_nil ?_
      refine wpAnyH_each (fuel := 2) [10] (by kernel_rfl) (by simp) (by kernel_rfl) ?_
      refine Each.cons _ rfl (fun K' hK => ?_) Each.nil
      go_simp
      have hs := cls_allocT hCl (.cells #[.slice none 0 0, .slice none 0 0] 26)
      have F10 : LK z1.heap.size (.cells #[.slice none 0 0, .slice none 0 0] 26) _ := cls_newT hCl (.cells #[.slice none 0 0, .slice none 0 0] 26)
      have hlt : z1.heap.size < (z1.alloc (.cells #[.slice none 0 0, .slice none 0 0] 26)).heap.size := by simp
      have hst := below_step hCl.below hCl.below.size hs
      have lo_F10 := hCl.below.size
      have hal : ∀ k, k < z1.heap.size → (z1.alloc (.cells #[.slice none 0 0, .slice none 0 0] 26)).heap[k]? = z1.heap[k]? := fun k hk => Below.heap_alloc z1 _ k hk
      obtain ⟨z2, hz⟩ : ∃ v, z1.alloc (.cells #[.slice none 0 0, .slice none 0 0] 26) = v := ⟨_, rfl⟩
      have hz2 : z1.alloc (.cells #[.slice none 0 0, .slice none 0 0] 26) = z2 := hz
      rw [hz] at ⊢
      rw [hz2] at hst hlt F10 hal
      have sz_z2 := hlt
      clear hz hz2 hs hlt
      have HAL := Lib.hid hal
      clear hal
      have hCl := Cls.of hst
      refine hK.out (Cls w1) (fun _ h => h) hCl ?_
      clear hK K'
      refine wpAnyH_each (fuel := 1) [11] (by kernel_rfl) (by simp) (by kernel_rfl) ?_
      refine Each.cons _ rfl (fun K' hK => ?_) Each.nil
      have hcb := LK.blk F10
      have r0 := LK.cell F10 0
      have r1 := LK.cell F10 1
      simp at r0 r1
      have s0_ := LK.frozen F10 0
      have s1_ := LK.frozen F10 1
      go_simp
      have F11 : LK (z1.heap.size) (.cells #[.slice a1 wd.blocks.length c1, .slice a2 wd.waits.length c2] 26) ((z2.setCell ⟨z1.heap.size, 0, none⟩ (.slice a1 wd.blocks.length c1)).setCell ⟨z1.heap.size, 1, none⟩ (.slice a2 wd.waits.length c2)) := LK.of (set_block (set_block hcb 0 _) 1 _)
      have hso : ∀ k, k ≠ z1.heap.size → ((z2.setCell ⟨z1.heap.size, 0, none⟩ (.slice a1 wd.blocks.length c1)).setCell ⟨z1.heap.size, 1, none⟩ (.slice a2 wd.waits.length c2)).heap[k]? = z2.heap[k]? := fun k h => (set_other _ _ _ _ _ h).trans (set_other _ _ _ _ _ h)
      have hsx : ((z2.setCell ⟨z1.heap.size, 0, none⟩ (.slice a1 wd.blocks.length c1)).setCell ⟨z1.heap.size, 1, none⟩ (.slice a2 wd.waits.length c2)).heap.size = z2.heap.size := by simp only [World.size_setCell]
      have hgl : z1.heap.size < z2.heap.size := LK.lt F10
      have hst := Below.trans hCl.below (((Below.refl (z1.heap.size) z2).setCell (p := ⟨z1.heap.size, 0, none⟩) (Nat.le_refl _) (.slice a1 wd.blocks.length c1)).setCell (p := ⟨z1.heap.size, 1, none⟩) (Nat.le_refl _) (.slice a2 wd.waits.length c2) |>.mono lo_F10)
      have hDV := gotT_hide (g := z1.heap.size) HG.out.1 HT.out.2.2 HG.out.2 (wx := ((z2.setCell ⟨z1.heap.size, 0, none⟩ (.slice a1 wd.blocks.length c1)).setCell ⟨z1.heap.size, 1, none⟩ (.slice a2 wd.waits.length c2))) (fun k h1 h2 => (hso k h2).trans (HAL.out k h1)) (.inr (Nat.le_refl _)) lo_F10 (by omega)
      have hCl := Cls.of hst
      refine hK.out (Cls w1) (fun _ h => h) hCl ?_
      clear hK K'
      refine wpAnyH_seg (fuel := 0) (by kernel_rfl) (fun _ d _ _ _ h => by cases d <;> exact h) hCl [12] _ _ _ (by kernel_rfl) (by kernel_rfl) ?_
      simp only [opsOf_cons, opsOf_nil, consOp_some, List.getElem?_toArray, List.getElem?_cons_succ, List.getElem?_cons_zero]
      repeat (first | go_big_quiet_step (fail) | quiet_step (fail))
      refine wpQuiet_nil ?_
      refine wpAnyH_done (by kernel_rfl) ?_ _
      go_wp2
      go_meet
      exact ⟨_, _, _, _, _, rfl, rfl, F11, lo_F10, hDV, hst⟩
    refine Each.cons _ rfl (fun K' hK => ?_) ?_
    · go_simp
      have hs := cls_allocT hCl (.cells #[.slice none 0 0, .slice none 0 0] 26)
      have F10 : LK w1.heap.size (.cells #[.slice none 0 0, .slice none 0 0] 26) _ := cls_newT hCl (.cells #[.slice none 0 0, .slice none 0 0] 26)
      have hlt : w1.drew.heap.size < (w1.drew.alloc (.cells #[.slice none 0 0, .slice none 0 0] 26)).heap.size := by simp
      have hst := below_step hCl.below hCl.below.size hs
      have lo_F10 := hCl.below.size
      obtain ⟨z4, hz⟩ : ∃ v, (w1.alloc (.cells #[.slice none 0 0, .slice none 0 0] 26)).drew = v := ⟨_, rfl⟩
      have hz2 : w1.drew.alloc (.cells #[.slice none 0 0, .slice none 0 0] 26) = z4 := hz
      rw [hz] at ⊢
      rw [hz2] at hst hlt F10
      have sz_z4 := hlt
      clear hz hz2 hs hlt
      have hCl := Cls.of hst
      refine hK.out (Cls w1) (fun _ h => h) hCl ?_
      clear hK K'
      refine wpAnyH_each (fuel := 5) [6] (by kernel_rfl) (by simp) (by kernel_rfl) ?_
      refine Each.cons _ rfl (fun K' hK => ?_) Each.nil
      go_simp
      have hck : CKc (hideW w1 (atS (w.heap.size + 1))) (z4) := (hide_ckT fun _ _ _ => rfl).trans (CKc.below hCl.below)
      refine (K1.out _ _ _ _ _ hck (by rw [hide_sizeT]; exact hCl.below.size) HT.out.1 HT.out.2.1).mono ?_
      rintro e z5 ⟨b1, u1, rfl, hg⟩
      have hs := hg.below
      obtain ⟨a1, c1, rfl, -, -, -, -⟩ := id (hg.got hck).disk.1
      obtain ⟨a2, c2, rfl, -, -, -, -⟩ := id (hg.got hck).disk.2
      have HG := Lib.hid (And.intro hg hCl.below)
      clear hg hck
      replace F10 := F10.step hs
      have sz_z5 : (z4).heap.size ≤ z5.heap.size := hs.size
      have hst := below_step hCl.below hCl.below.size hs
      clear hs
      have hCl := Cls.of hst
      refine hK.out (Cls w1) (fun _ h => h) hCl ?_
      clear hK K'
      refine wpAnyH_seg (fuel := 2) (by kernel_rfl) (fun _ d _ _ _ h => by cases d <;> exact h) hCl [7, 8, 9] _ _ _ (by kernel_rfl) (by kernel_rfl) ?_
      simp only [opsOf_cons, opsOf_nil, consOp_some, List.getElem?_toArray, List.getElem?_cons_succ, List.getElem?_cons_zero]
      repeat (first | go_big_quiet_step (fail) | quiet_step (fail))
      refine wpQuiet_nil ?_
      refine wpAnyH_each (fuel := 1) [11] (by kernel_rfl) (by simp) (by kernel_rfl) ?_
      refine Each.cons _ rfl (fun K' hK => ?_) Each.nil
      have hcb := LK.blk F10
      have r0 := LK.cell F10 0
      have r1 := LK.cell F10 1
      simp at r0 r1
      have s0_ := LK.frozen F10 0
      have s1_ := LK.frozen F10 1
      go_simp
      have F11 : LK (w1.heap.size) (.cells #[.slice a1 wd.blocks.length c1, .slice a2 wd.waits.length c2] 26) ((z5.setCell ⟨w1.heap.size, 0, none⟩ (.slice a1 wd.blocks.length c1)).setCell ⟨w1.heap.size, 1, none⟩ (.slice a2 wd.waits.length c2)) := LK.of (set_block (set_block hcb 0 _) 1 _)
      have hso : ∀ k, k ≠ w1.heap.size → ((z5.setCell ⟨w1.heap.size, 0, none⟩ (.slice a1 wd.blocks.length c1)).setCell ⟨w1.heap.size, 1, none⟩ (.slice a2 wd.waits.length c2)).heap[k]? = z5.heap[k]? := fun k h => (set_other _ _ _ _ _ h).trans (set_other _ _ _ _ _ h)
      have hsx : ((z5.setCell ⟨w1.heap.size, 0, none⟩ (.slice a1 wd.blocks.length c1)).setCell ⟨w1.heap.size, 1, none⟩ (.slice a2 wd.waits.length c2)).heap.size = z5.heap.size := by simp only [World.size_setCell]
      have hgl : w1.heap.size < z5.heap.size := LK.lt F10
      have hst := Below.trans hCl.below (((Below.refl (w1.heap.size) z5).setCell (p := ⟨w1.heap.size, 0, none⟩) (Nat.le_refl _) (.slice a1 wd.blocks.length c1)).setCell (p := ⟨w1.heap.size, 1, none⟩) (Nat.le_refl _) (.slice a2 wd.waits.length c2) |>.mono lo_F10)
      have hDV := gotT_hide (g := w1.heap.size) HG.out.1 HT.out.2.2 HG.out.2 (wx := ((z5.setCell ⟨w1.heap.size, 0, none⟩ (.slice a1 wd.blocks.length c1)).setCell ⟨w1.heap.size, 1, none⟩ (.slice a2 wd.waits.length c2))) (fun k h1 h2 => hso k h2) (.inl (by omega)) lo_F10 (Nat.le_of_eq hsx.symm)
      have hCl := Cls.of hst
      refine hK.out (Cls w1) (fun _ h => h) hCl ?_
      clear hK K'
      refine wpAnyH_seg (fuel := 0) (by kernel_rfl) (fun _ d _ _ _ h => by cases d <;> exact h) hCl [12] _ _ _ (by kernel_rfl) (by kernel_rfl) ?_
      simp only [opsOf_cons, opsOf_nil, consOp_some, List.getElem?_toArray, List.getElem?_cons_succ, List.getElem?_cons_zero]
      repeat (first | go_big_quiet_step (fail) | quiet_step (fail))
      refine wpQuiet_nil ?_
      refine wpAnyH_done (by kernel_rfl) ?_ _
      go_wp2
      go_meet
      exact ⟨_, _, _, _, _, rfl, rfl, F11, lo_F10, hDV, hst⟩
    exact Each.nil
  case rest =>
  obtain ⟨g, a1, a2, c1, c2, rfl, rfl, q_o, hgW, hDV, hst⟩ := hcut
  obtain ⟨wn, hwn⟩ := named_w hst
  subst hwn
  obtain ⟨wq, hwn⟩ : ∃ v, v = wn := ⟨_, rfl⟩
  subst hwn
  clear c_q_d0 c_q_d1 c_q_r0 c_q_r1
  obtain ⟨q_d, q_r, D_d, B_t, hB⟩ := HQ.out
  clear HQ
  have sz_wq : w1.heap.size ≤ wq.heap.size := hst.size
  replace q_d := q_d.step hst
  replace q_r := q_r.step hst
  replace D_d := D_d.step hst
  replace B_t := B_t.step hst
  replace hB := hB.step hst
  clear hst
  have HDV := Lib.hid hDV
  clear hDV
  have HQ := Lib.hid (And.intro q_d (And.intro q_r (And.intro D_d (And.intro B_t (And.intro q_o hB)))))
  clear q_d q_r D_d B_t q_o hB
  have c_q_d0 := LK.cell HQ.out.1 0
  have c_q_d1 := LK.cell HQ.out.1 1
  have c_q_r0 := LK.cell HQ.out.2.1 0
  have c_q_r1 := LK.cell HQ.out.2.1 1
  simp at c_q_d0 c_q_d1 c_q_r0 c_q_r1
  by_cases he1 : e1 = 0
  case neg =>
    have hex := HX.out.1
    rw [if_pos he1] at hex
    subst hex
    have hox := HN.out.1 he1
    subst hox
    have n1 : (ex != 0) = true := by simp [he1]
    have n2 : (ex == 0) = false := by simp [he1]
    clear he1
    clear c_q_d0 c_q_d1 c_q_r0 c_q_r1
    have c_q_r0 := LK.cell HQ.out.2.1 0
    have c_q_r1 := LK.cell HQ.out.2.1 1
    have z_q_r0 := LK.frozen HQ.out.2.1 0
    have z_q_r1 := LK.frozen HQ.out.2.1 1
    simp at c_q_r0 c_q_r1
    have hBf := HQ.out.2.2.2.2.2
    go_wp2
    refine bodyPost_ret (v := .tuple #[.agg #[.slice none 0 0, .slice none 0 0], .int .i64 ex]) (by simp [results, Try.results14, go_sem, c_q_r0, c_q_r1]) rfl ⟨_, _, rfl, GotD.nil_ ?_⟩
    exact (hBf.setCell (p := ⟨w.heap.size + 1, 0, none⟩) (Nat.le_succ _) _).setCell (p := ⟨w.heap.size + 1, 1, none⟩) (Nat.le_succ _) _
  subst he1
  have hex := HX.out.1
  rw [if_neg (by decide)] at hex
  have hox := HX.out.2 rfl
  obtain ⟨e2, he2⟩ : ∃ q, errW wd (5 + 2 * (sn : Int)) (t.drop 128) = q := ⟨_, rfl⟩
  obtain ⟨wd2, hwd2⟩ : ∃ q, writeD wd (5 + 2 * (sn : Int)) (t.drop 128) = q := ⟨_, rfl⟩
  have k2 := fun V T b u v hc hs h1 h2 => HC.out.2.2.2 wd V T b u v (t.drop 128) (5 + 2 * (sn : Int)) hc hs h1 h2
  rw [he2, hwd2] at k2
  rw [he2] at hex
  rw [hwd2] at hox
  subst hex hox
  have K2 := Lib.hid k2
  clear k2 he2 hwd2 HX HN
  have hTb : Bytes (hideW wq (atS (w.heap.size + 1))) 0 (hideW wq (atS (w.heap.size + 1))).heap.size (.slice (some ⟨bt, ot, none⟩) t.length c_t) t := (LB.out (n0 := w.heap.size + 1) (h0 := w.heap.size + 2) HQ.out.2.2.2.1 (Nat.le_of_eq (hide_sizeT _ _).symm) (fun x _ h => hideW_get _ _ _ (atS_no (by omega))) (by omega)).v
  have hrl := LK.lt HQ.out.2.1
  have HT2 := Lib.hid (And.intro (HPS.out.2 _ _ _ hTb) hrl)
  clear hTb hrl s1
  clear c_q_d0 c_q_d1 c_q_r0 c_q_r1
  obtain ⟨Pr, hPr⟩ : ∃ Pr : World → Prop, ∀ X, Pr X ↔ LK g (.cells #[.slice a1 wd.blocks.length c1, .slice a2 wd.waits.length c2] 26) X := ⟨_, fun _ => Iff.rfl⟩
  have hdr := (Below.refl wq.heap.size wq).drew
  have hP : Pr wq.drew := (hPr _).2 (HQ.out.2.2.2.2.1.step hdr)
  have HW := Lib.hid (And.intro (LW.step HQ.out.2.2.2.2.2 hdr) (HQ.out.2.1.step hdr))
  clear hdr
  have hPs : ∀ X, Pr (selW Pr wq.drew X) := fun X => selW_pr hP X
  have e0 := fun X => LK.cell ((hPr _).1 (hPs X)) 0
  have e1 := fun X => LK.cell ((hPr _).1 (hPs X)) 1
  simp at e0 e1
  go_upto_region 10 with (fail)
  refine wp_region_L (S := Kl Pr wq.drew) 10 (by kernel_rfl) (Kl.of hP) (fun hCl => ?_)
  refine wpAnyL_seg (fuel := 5) (by kernel_rfl) (fun _ d _ _ _ h => by cases d <;> exact h) hCl [0, 1, 2, 3, 4, 5] _ _ _ (by kernel_rfl) (by kernel_rfl) (by kernel_rfl) (by kernel_rfl) ?_
  simp only [opsOf_cons, opsOf_nil, consOp_some, List.getElem?_toArray, List.getElem?_cons_succ, List.getElem?_cons_zero]
  repeat (first | go_big_quiet_step (fail) | quiet_step (fail))
  refine wpQuiet_nil ?_
  refine wpAnyL_each (fuel := 4) [6] (by kernel_rfl) (by simp) (by kernel_rfl) ?_
  refine EachL.cons _ rfl (fun K' hK => ?_) EachL.nil
  go_simp
  have hck : CKc (hideW wq (atS (w.heap.size + 1))) wq.drew := hide_ckT fun _ _ _ => rfl
  refine (K2.out _ _ _ _ _ hck (by rw [hide_sizeT]; exact Nat.le_refl _) (by rw [hide_sizeT]; exact HDV.out) HT2.out.1).mono ?_
  rintro e z3 ⟨b2, u2, rfl, hg⟩
  have hgd := (hg.got hck).disk
  obtain ⟨a3, c3, rfl, -, -, -, -⟩ := id hgd.1
  obtain ⟨a4, c4, rfl, -, -, -, -⟩ := id hgd.2
  have q3 := HW.out.2.step hg.below
  have r0 := LK.cell q3 0
  have r1 := LK.cell q3 1
  have z0 := LK.frozen q3 0
  have z1 := LK.frozen q3 1
  simp at r0 r1
  have hst : Pr z3 := (hPr _).2 (((hPr _).1 hP).step hg.below)
  have HM := Lib.hid (And.intro hg q3)
  clear hg q3 hgd hck
  have hCl : Kl Pr wq.drew _ := Kl.of hst
  refine hK.out (.inr hCl) ?_
  clear hK K'
  refine wpAnyL_seg (fuel := 2) (by kernel_rfl) (fun _ d _ _ _ h => by cases d <;> exact h) hCl [7, 8] _ _ _ (by kernel_rfl) (by kernel_rfl) (by kernel_rfl) (by kernel_rfl) ?_
  simp only [opsOf_cons, opsOf_nil, consOp_some, List.getElem?_toArray, List.getElem?_cons_succ, List.getElem?_cons_zero]
  repeat (first | go_big_quiet_step (fail) | quiet_step (fail))
  refine wpQuiet_nil ?_
  refine wpAnyL_each (fuel := 1) [9] (by kernel_rfl) (by simp) (by kernel_rfl) ?_
  refine EachL.cons _ rfl (fun K' hK => ?_) EachL.nil
  go_simp
  obtain ⟨z4, hz4⟩ : ∃ z, (z3.setCell ⟨w.heap.size + 1, 0, none⟩ (.slice a3 ox.blocks.length c3)).setCell ⟨w.heap.size + 1, 1, none⟩ (.slice a4 ox.waits.length c4) = z := ⟨_, rfl⟩
  rw [hz4]
  have hso : ∀ k, k ≠ w.heap.size + 1 → z4.heap[k]? = z3.heap[k]? := fun k hk => by rw [← hz4, set_other _ _ _ _ _ hk, set_other _ _ _ _ _ hk]
  have q4 : z4.heap[w.heap.size + 1]? = some (.cells #[.slice a3 ox.blocks.length c3, .slice a4 ox.waits.length c4] 26) := by rw [← hz4]; exact set_block (set_block HM.out.2.blk 0 _) 1 _
  have hsz : z4.heap.size = z3.heap.size := by rw [← hz4]; simp
  have hst : Pr z4 := (hPr _).2 (LK.of ((hso _ (by omega)).trans ((hPr _).1 hst).blk))
  have hBz : Below w.heap.size w z4 := by rw [← hz4]; exact ((LW.step HW.out.1 HM.out.1.below).setCell (p := ⟨w.heap.size + 1, 0, none⟩) (Nat.le_succ _) _).setCell (p := ⟨w.heap.size + 1, 1, none⟩) (Nat.le_succ _) _
  have HZ := Lib.hid (And.intro hso (And.intro q4 (And.intro hsz hBz)))
  clear hso q4 hsz hBz hz4 r0 r1 z0 z1
  have hCl : Kl Pr wq.drew _ := Kl.of hst
  refine hK.out (.inr hCl) ?_
  clear hK K'
  refine wpAnyL_each (fuel := 0) [10] (by kernel_rfl) (by simp) (by kernel_rfl) ?_
  refine EachL.cons _ rfl (fun K' hK => ?_) EachL.nil
  go_simp
  refine hK.out (.inl rfl) ?_
  clear hK K'
  refine wpAnyL_done (by kernel_rfl) ?_ _
  have c_q_r0 := blk_cell HZ.out.2.1 0
  have c_q_r1 := blk_cell HZ.out.2.1 1
  simp at c_q_r0 c_q_r1
  go_wp2
  refine bodyPost_ret (v := .tuple #[.agg #[.slice a3 ox.blocks.length c3, .slice a4 ox.waits.length c4], .int .i64 ex]) (by simp [results, Try.results14, go_sem, c_q_r0, c_q_r1]) rfl ⟨_, _, rfl, ⟨?_, HZ.out.2.2.2⟩⟩
  have hzs := HZ.out.2.2.1
  have hzb := HM.out.1.below.size
  have hrl := HT2.out.2
  exact HM.out.1.disk z4 (Nat.le_of_eq hzs.symm) (hide_ckT fun k h1 h2 => (HZ.out.1 k (atS_ne h2)).trans (HM.out.1.below.block k h1)) (fun k h1 h2 => HZ.out.1 k (by have : wq.heap.size ≤ k := h1; omega))

set_option maxRecDepth 100000 in
set_option maxHeartbeats 1000000 in
theorem rcseen_any (d : DiskL) (b_d u_d : Value) (s : Int) (w : World) (h_d : DiskV w 0 w.heap.size b_d u_d d) (hm : mayD d = true) (hs : s = 0 ∨ s = 1) :
    Calls Try.prog 48 #[.agg #[b_d, u_d], .int .i64 s] w fun e w' => ∃ v, e = .returned v ∧ MadeB w w' v (sideL d s) := by
  obtain ⟨ab_d, cb_d, rfl, gb_d, gc_d, -, -⟩ := h_d.1
  obtain ⟨au_d, cu_d, rfl, gu_d, gv_d, -, -⟩ := h_d.2
  unfold maxLen at gc_d gv_d
  have hst := ((Below.refl w.heap.size w).alloc (Nat.le_refl _) (.cells #[.slice ab_d d.blocks.length cb_d, .slice au_d d.waits.length cu_d] 26))
  have q_d := LK.new w (.cells #[.slice ab_d d.blocks.length cb_d, .slice au_d d.waits.length cu_d] 26)
  have hB : LW w _ := hst
  have D_d := (LD.of h_d (Nat.le_refl _)).step hst
  have sz_V : w.heap.size + 0 < (w.alloc (.cells #[.slice ab_d d.blocks.length cb_d, .slice au_d d.waits.length cu_d] 26)).heap.size := by simp
  obtain ⟨V, hV⟩ : ∃ V, (w.alloc (.cells #[.slice ab_d d.blocks.length cb_d, .slice au_d d.waits.length cu_d] 26)) = V := ⟨_, rfl⟩
  rw [hV] at sz_V q_d D_d hB
  clear hst h_d
  have HQ := Lib.hid (And.intro q_d (And.intro D_d hB))
  clear q_d D_d hB
  have c_q_d0 := LK.cell HQ.out.1 0
  have c_q_d1 := LK.cell HQ.out.1 1
  simp at c_q_d0 c_q_d1
  obtain ⟨sn, rfl, hsn⟩ : ∃ sn : Nat, s = sn ∧ sn ≤ 1 := ⟨s.toNat, by omega, by omega⟩
  have hbl := (may_len hm).1
  have hd128 : ∀ p : Int, 0 ≤ p → p < 256 → (seenD d p).length = 128 := fun p h1 h2 => seen_len hm p h1 h2
  have hfin : sideL d (sn : Int) = seenD d (4 + 2 * (sn : Int)) ++ seenD d (5 + 2 * (sn : Int)) := rfl
  rw [hfin]
  clear hfin hs
  have l1 := hd128 (4 + 2 * (sn : Int)) (by omega) (by omega)
  have l2 := hd128 (5 + 2 * (sn : Int)) (by omega) (by omega)
  have c4 : ((4 + 2 * sn : Nat) : Int) = 4 + 2 * (sn : Int) := by omega
  have c5 : ((5 + 2 * sn : Nat) : Int) = 5 + 2 * (sn : Int) := by omega
  have k_1 := fun V b u hh => rseen_any b u d (4 + 2 * sn) V hh (by omega)
  have k_2 := fun V b u hh => rseen_any b u d (5 + 2 * sn) V hh (by omega)
  rw [c4] at k_1
  rw [c5] at k_2
  generalize seenD d (4 + 2 * (sn : Int)) = A at *
  generalize seenD d (5 + 2 * (sn : Int)) = Bd at *
  have HL := Lib.hid (And.intro l1 l2)
  clear l1 l2 hd128 c4 c5 hbl hm
  have HC := Lib.hid (And.intro k_1 k_2)
  clear k_1 k_2
  go_enter Try.func48, Try.ntmps48
  go_upto_region 1 with (fail)
  clear hV
  have i4 : (4 : Int) + 2 * (sn : Int) < 7 := by omega
  have i5 : (5 : Int) + 2 * (sn : Int) < 8 := by omega
  have hB0 : LW V V := Below.refl _ _
  go_wp2_with fail
  refine (HC.out.1 _ _ _ HQ.out.2.1.v).mono ?_
  rintro e w1 ⟨v1, rfl, hb, hst⟩
  clear c_q_d0 c_q_d1
  obtain ⟨q_d, D_d, hB⟩ := HQ.out
  clear HQ
  have B_1 := LB.of hb (Nat.le_refl _)
  obtain ⟨x1, y1, rfl, -, -⟩ := hb.form rfl
  have hBV : LW V w1 := hst
  clear hb
  have sz_w1 : V.heap.size ≤ w1.heap.size := hst.size
  replace q_d := q_d.step hst
  replace D_d := D_d.step hst
  replace hB := hB.step hst
  clear hst
  have HQ := Lib.hid (And.intro q_d (And.intro D_d (And.intro B_1 hB)))
  clear q_d D_d B_1 hB
  have c_q_d0 := LK.cell HQ.out.1 0
  have c_q_d1 := LK.cell HQ.out.1 1
  simp at c_q_d0 c_q_d1
  have HBV := Lib.hid hBV
  clear hBV hB0
  go_upto_region 2 with (at_builtin; refine wpList_appB rfl _ _ 22 rfl w1.heap.size 5 Try.underlying22 info_u8 _ [] rfl (OwnB.nil_ _ _ _) 0 w1.heap.size _ A rfl HQ.out.2.2.1.v (by have := HL.out.1; show 0 + A.length ≤ _; omega) (Nat.le_refl _) ?_; intro ov wo hown hst; rw [List.nil_append] at hown; have HO := Lib.hid (And.intro hown (HBV.out.trans (hst.mono (Below.size HBV.out)))))
  clear c_q_d0 c_q_d1
  obtain ⟨q_d, D_d, B_1, hB⟩ := HQ.out
  clear HQ
  have sz_wo := hst.size
  replace q_d := q_d.step hst
  replace D_d := D_d.step hst
  replace B_1 := B_1.step hst
  replace hB := hB.step hst
  clear hst hown
  have HQ := Lib.hid (And.intro q_d (And.intro D_d (And.intro B_1 hB)))
  clear q_d D_d B_1 hB
  have c_q_d0 := LK.cell HQ.out.1 0
  have c_q_d1 := LK.cell HQ.out.1 1
  simp at c_q_d0 c_q_d1
  go_wp2_with fail
  refine (HC.out.2 _ _ _ HQ.out.2.1.v).mono ?_
  rintro e w2 ⟨v2, rfl, hb, hst⟩
  clear c_q_d0 c_q_d1
  obtain ⟨q_d, D_d, B_1, hB⟩ := HQ.out
  clear HQ
  have B_2 := LB.of hb (Nat.le_refl _)
  obtain ⟨x2, y2, rfl, -, -⟩ := hb.form rfl
  have HO2 := Lib.hid (And.intro (HO.out.1.step hst) (HO.out.2.trans (hst.mono (Below.size HO.out.2))))
  clear hb
  have sz_w2 : wo.heap.size ≤ w2.heap.size := hst.size
  replace q_d := q_d.step hst
  replace D_d := D_d.step hst
  replace B_1 := B_1.step hst
  replace hB := hB.step hst
  clear hst
  have HQ := Lib.hid (And.intro q_d (And.intro D_d (And.intro B_1 (And.intro B_2 hB))))
  clear q_d D_d B_1 B_2 hB
  have c_q_d0 := LK.cell HQ.out.1 0
  have c_q_d1 := LK.cell HQ.out.1 1
  simp at c_q_d0 c_q_d1
  skip
  go_wp2_with (at_builtin; refine wpList_appB rfl _ _ 22 rfl w1.heap.size 5 Try.underlying22 info_u8 _ A rfl HO2.out.1 0 w2.heap.size _ Bd rfl HQ.out.2.2.2.1.v (by have := HL.out; omega) (by omega) ?_; intro ox wz hown hst; have HF := Lib.hid (And.intro hown hst); clear hown hst)
  go_ret
  have hsz : w.heap.size ≤ w1.heap.size := by omega
  have hfin := LW.step HQ.out.2.2.2.2 (Below.refl _ _)
  have hBf := hfin.trans (HF.out.2.mono hsz)
  exact ⟨_, rfl, OwnB.made (HF.out.1.le hsz) hBf⟩

set_option maxRecDepth 100000 in
set_option maxHeartbeats 1000000 in
theorem rcread_any (d : DiskL) (b_d u_d : Value) (s : Int) (w : World) (h_d : DiskV w 0 w.heap.size b_d u_d d) :
    Calls Try.prog 16 #[.agg #[b_d, u_d], .int .i64 s] w fun e w' => ∃ v, e = .returned (.tuple #[v, .int .i64 (errR d s)]) ∧ MadeB w w' v (readT d s) := by
  obtain ⟨ab_d, cb_d, rfl, gb_d, gc_d, -, -⟩ := h_d.1
  obtain ⟨au_d, cu_d, rfl, gu_d, gv_d, -, -⟩ := h_d.2
  unfold maxLen at gc_d gv_d
  have hst := ((Below.refl w.heap.size w).alloc (Nat.le_refl _) (.cells #[.slice ab_d d.blocks.length cb_d, .slice au_d d.waits.length cu_d] 26))
  have q_d := LK.new w (.cells #[.slice ab_d d.blocks.length cb_d, .slice au_d d.waits.length cu_d] 26)
  have hB : LW w _ := hst
  have D_d := (LD.of h_d (Nat.le_refl _)).step hst
  have sz_V : w.heap.size + 0 < (w.alloc (.cells #[.slice ab_d d.blocks.length cb_d, .slice au_d d.waits.length cu_d] 26)).heap.size := by simp
  obtain ⟨V, hV⟩ : ∃ V, (w.alloc (.cells #[.slice ab_d d.blocks.length cb_d, .slice au_d d.waits.length cu_d] 26)) = V := ⟨_, rfl⟩
  rw [hV] at sz_V q_d D_d hB
  clear hst h_d
  have HQ := Lib.hid (And.intro q_d (And.intro D_d hB))
  clear q_d D_d hB
  have c_q_d0 := LK.cell HQ.out.1 0
  have c_q_d1 := LK.cell HQ.out.1 1
  simp at c_q_d0 c_q_d1
  have he1 : mayD d = false → errR d s = 8 ∧ readT d s = [] := fun h => by
    have h1 : errP d s = 8 := by unfold errP; rw [h]; rfl
    have h2 : errR d s = 8 := by unfold errR; rw [h1, if_pos (by decide)]
    exact ⟨h2, by unfold readT; rw [h2, if_neg (by decide)]⟩
  have he2 : mayD d = true → ¬ (s = 0 ∨ s = 1) → errR d s = 2 ∧ readT d s = [] := fun h h0 => by
    have h1 : errP d s = 2 := by rw [errP_may h, if_neg h0]
    have h2 : errR d s = 2 := by unfold errR; rw [h1, if_pos (by decide)]
    exact ⟨h2, by unfold readT; rw [h2, if_neg (by decide)]⟩
  have he3 := fun (h : mayD d = true) (h0 : s = 0 ∨ s = 1) => side_zero h h0
  have k_d := fun V b u hh => rmayd_any b u d V hh
  have k_s := fun V b u hh h1 h2 => rcseen_any d b u s V hh h1 h2
  have k_t := fun V v hh => rmayt_any v (sideL d s) V hh
  generalize errR d s = er at *
  generalize readT d s = rt at *
  generalize mayD d = md at *
  generalize mayT (sideL d s) = mt at *
  generalize sideL d s = L at *
  have HE := Lib.hid (And.intro he1 (And.intro he2 he3))
  clear he1 he2 he3
  have HC := Lib.hid (And.intro k_d (And.intro k_s k_t))
  clear k_d k_s k_t
  go_enter Try.func16, Try.ntmps16
  go_upto_region 1 with (fail)
  clear hV
  go_wp2_with fail
  refine (HC.out.1 _ _ _ HQ.out.2.1.v).mono ?_
  rintro e w1 ⟨rfl, hst⟩
  clear c_q_d0 c_q_d1
  obtain ⟨q_d, D_d, hB⟩ := HQ.out
  clear HQ
  have sz_w1 : V.heap.size ≤ w1.heap.size := hst.size
  replace q_d := q_d.step hst
  replace D_d := D_d.step hst
  replace hB := hB.step hst
  clear hst
  have HQ := Lib.hid (And.intro q_d (And.intro D_d hB))
  clear q_d D_d hB
  have c_q_d0 := LK.cell HQ.out.1 0
  have c_q_d1 := LK.cell HQ.out.1 1
  simp at c_q_d0 c_q_d1
  cases md
  case false =>
    obtain ⟨rfl, rfl⟩ := HE.out.1 rfl
    go_wp2
    go_ret2
    exact ⟨_, rfl, MadeB.nil_ HQ.out.2.2⟩
  by_cases hs : s = 0 ∨ s = 1
  case neg =>
    obtain ⟨rfl, rfl⟩ := HE.out.2.1 (by trivial) hs
    have n1 : ¬ s = 0 := fun e => hs (.inl e)
    have n2 : ¬ s = 1 := fun e => hs (.inr e)
    have n3 : (s != 0) = true := by simp [n1]
    have n4 : (s != 1) = true := by simp [n2]
    have n5 : (s == 0) = false := by simp [n1]
    have n6 : (s == 1) = false := by simp [n2]
    clear hs
    go_wp2
    go_ret2
    exact ⟨_, rfl, MadeB.nil_ HQ.out.2.2⟩
  obtain ⟨rfl, rfl⟩ := HE.out.2.2 (by trivial) hs
  have ks := fun V b u hh => HC.out.2.1 V b u hh (by trivial) hs
  have KS := Lib.hid ks
  clear ks
  obtain ⟨sn, rfl, hsn⟩ : ∃ sn : Nat, s = sn ∧ sn ≤ 1 := ⟨s.toNat, by omega, by omega⟩
  go_upto_region 3 with (fail)
  go_cut [15] (fun q wx => q = .bool false ∧ w1 = wx)
  case first =>
    rcases hs with h | h
    · obtain rfl : sn = 0 := by omega
      go_wp2
      go_meet
      exact ⟨rfl, rfl⟩
    · obtain rfl : sn = 1 := by omega
      go_wp2
      go_meet
      exact ⟨rfl, rfl⟩
  case rest =>
  obtain ⟨rfl, hwx⟩ := hcut
  subst hwx
  clear hs HE
  go_wp2_with fail
  refine (KS.out _ _ _ HQ.out.2.1.v).mono ?_
  rintro e w2 ⟨v1, rfl, hm⟩
  clear c_q_d0 c_q_d1
  obtain ⟨q_d, D_d, hB⟩ := HQ.out
  clear HQ
  have hB0 := hB
  have hmw : MadeB w w2 v1 L := ⟨hm.bytes.more (Below.size hB0) (Nat.le_refl _), hm.thawed, below_step hB0 (Below.size hB0) hm.below⟩
  have B_1 := LM.of hm
  have hst := hm.below
  have HMW := Lib.hid hmw
  clear hmw hm hB0
  have sz_w2 : w1.heap.size ≤ w2.heap.size := hst.size
  replace q_d := q_d.step hst
  replace D_d := D_d.step hst
  replace hB := hB.step hst
  clear hst
  have HQ := Lib.hid (And.intro q_d (And.intro D_d (And.intro B_1 hB)))
  clear q_d D_d B_1 hB
  have c_q_d0 := LK.cell HQ.out.1 0
  have c_q_d1 := LK.cell HQ.out.1 1
  simp at c_q_d0 c_q_d1
  obtain ⟨x1, y1, rfl, -, -⟩ := HMW.out.bytes.form rfl
  go_wp2_with fail
  refine (HC.out.2.2 _ _ HQ.out.2.2.1.v).mono ?_
  rintro e w0 ⟨rfl, hw0⟩
  rw [hw0]
  clear hw0 w0
  cases mt
  case false =>
    go_wp2
    go_ret2
    exact ⟨_, rfl, MadeB.nil_ HQ.out.2.2.2⟩
  go_wp2
  go_ret2
  exact ⟨_, rfl, HMW.out⟩

end Go.Proofs.Ythealkfpflkipaa

