/- CountTables: the words and contracts, part 8. -/
import Derived.Test.YthealkfpflkipaaCountTablesQ1
import Derived.Test.YthealkfpflkipaaCountTablesQ2
import Derived.Test.YthealkfpflkipaaCountTablesQ3
import Derived.Test.YthealkfpflkipaaCountTablesQ4
import Derived.Test.YthealkfpflkipaaCountTablesQ5
import Derived.Test.YthealkfpflkipaaCountTablesQ6
import Derived.Test.YthealkfpflkipaaCountTablesQ7
import Derived.WalkKit
import Derived.WalkLawsBesides
import Derived.WalkSpells
import Derived.Lib.Hide
import Derived.Laws.Rows
import Derived.Laws.AppendOwnNone
import Derived.Maps.AppendAt
import Derived.RangeFuncNested
import Derived.RangeFuncBound
import Derived.RangeFuncCalls
import Derived.RangeFuncLeaves
import Derived.RangeFuncBox
import Derived.Shelf.Abstract
import Derived.Shelf.RegionOpen
import Derived.OwnWalkIn
import Derived.TacticsInMore
import Derived.LoopNIn
import Derived.LoopIn
import Derived.ProofKit
import Derived.Deep.Slices
import Derived.WideShapes
import Derived.OrdersHeld
import Derived.Deep.QuietTactic
import Derived.BigQuiet
import Derived.StillTailTactics
import Derived.OpenShut
import Derived.Lib.SliceRun
import Derived.Lib.AppendZerosOnto
import Derived.Lib.Walk
import Derived.Deep.LoopGhost
import Derived.Laws.CopyOwn
import Derived.Deep.DeepCutAuto
import Derived.Laws.CopyRow
import Derived.Laws.MakeOwn
import Derived.Deep.RegionHeld
namespace Go.Proofs.Ythealkfpflkipaa
open Go.RowKit

theorem if_yes {c : Prop} [Decidable c] {p q : Prop} (hc : c) (hp : p) : if c then p else q := by rw [if_pos hc]; exact hp
def errW (d : DiskL) (p : Int) (l : List UInt8) : Int := if errA d p ≠ 0 then errA d p else if l.length ≠ 128 then 3 else if d.waits.length = 4096 then 9 else 0
def writeD (d : DiskL) (p : Int) (l : List UInt8) : DiskL := if errW d p l = 0 then ⟨d.blocks, d.waits ++ [⟨p, l⟩]⟩ else ⟨[], []⟩
theorem errA_zero {d : DiskL} {p : Int} (h : errA d p = 0) : mayD d = true ∧ 0 ≤ p ∧ p < 256 := by
  unfold errA at h
  split at h
  · rename_i hm
    split at h
    · cases h
    · exact ⟨hm, by omega, by omega⟩
  · cases h

theorem row_bytes {w : World} {g : Nat} {D : List (List UInt8)} (hr : RowB w g 5 D.flatten) (hT : D.flatten.length ≤ 100000000) (j o : Nat) (hj : j < D.length) (ho : 0 < (D.getD j []).length → o = posD D j) :
    Bytes w g (g + 1) (.slice (some ⟨g, o, none⟩) (D.getD j []).length (D.getD j []).length) (D.getD j []) ∧ Thawed w (.slice (some ⟨g, o, none⟩) (D.getD j []).length (D.getD j []).length) := by
  refine ⟨?_, fun b off m c he i _ => by cases he; exact hr.frozen _⟩
  have hle : (D.getD j []).length ≤ maxLen := by
    have := posD_succ D j hj
    have := posD_le D (j + 1)
    unfold maxLen
    omega
  refine ⟨_, _, rfl, Nat.le_refl _, hle, fun hp => ⟨g, o, rfl, Nat.le_refl _, Nat.lt_succ_self _, fun i x hx => ?_⟩, fun h => by cases h⟩
  rw [hr.cell, ho hp]
  have hc := cut_laid D j hj
  rw [← hc, List.getElem?_take] at hx
  split at hx
  · rw [List.getElem?_drop] at hx
    rw [hx]; rfl
  · cases hx
/-- What was made by Twin, in a later world in which the row of writes has grown by one. -/
theorem TwinAt.grown {B : Nat} {w zf : World} {gb gw g : Nat} {cur : Array Value} {d : DiskL} (h : TwinAt B w gb gw g cur d) (hT : (datD d).flatten.length ≤ 100000000) (hn : d.blocks.length ≤ 100000) (hn2 : d.waits.length ≤ 100000) (hs : w.heap.size ≤ zf.heap.size)
    (e1 : zf.heap[g]? = w.heap[g]?) (e2 : zf.heap[gb]? = w.heap[gb]?) (g' cap : Nat) (cur' : Array Value) (hg' : B ≤ g') (hh' : zf.heap[g']? = some (.cells cur' 50 (0, 0))) (hk1 : d.waits.length + 1 ≤ cap) (hk2 : cap ≤ maxLen)
    (p : Int) (hp : (Lit.int .i64 p).wf = true) (v : Value) (l : List UInt8) (hk4 : cur'.toList.take ((d.waits.length + 1) * 2) = cur.toList.take (d.waits.length * 2) ++ [.int .i64 p, v]) (hv : Bytes zf B zf.heap.size v l) (ht : Thawed zf v) :
    DiskT zf B zf.heap.size (.slice (some ⟨gb, 0, none⟩) d.blocks.length d.blocks.length) (.slice (some ⟨g', 0, none⟩) (d.waits.length + 1) cap) ⟨d.blocks, d.waits ++ [⟨p, l⟩]⟩ := by
  have hrow : RowB zf g 5 (datD d).flatten := e1.trans h.row
  refine ⟨⟨_, _, rfl, Nat.le_refl _, by unfold maxLen; omega, fun _ => ⟨gb, 0, rfl, h.lo.2.1, Nat.lt_of_lt_of_le h.hi.2.1 hs, fun i x hx => ?_⟩, fun h => by cases h⟩,
    ⟨_, _, by rw [List.length_append]; rfl, by rw [List.length_append]; exact hk1, hk2, fun _ => ⟨g', 0, rfl, hg', (Array.getElem?_eq_some_iff.1 hh').1, fun i x hx => ?_⟩, fun h => by cases h⟩⟩
  · have hi : i < d.blocks.length := (List.getElem?_eq_some_iff.1 hx).1
    simp only at hx
    rw [get_l d.blocks [] i hi] at hx
    cases hx
    obtain ⟨o, h1, h2⟩ := h.bl i hi
    have hb := row_bytes hrow hT i o (by rw [datD_length]; omega) (by rw [datD_b d i hi]; exact h2)
    rw [datD_b d i hi] at hb
    refine ⟨_, ?_, hb.1.more h.lo.1 (Nat.lt_of_lt_of_le h.hi.1 hs), hb.2⟩
    show zf.cell? ⟨gb, 0 + i * 1 + 0, none⟩ = _
    rw [heap_cell e2, Nat.zero_add, Nat.mul_one, Nat.add_zero]
    exact h1
  · have hcl : ∀ j u, (cur.toList.take (d.waits.length * 2) ++ [.int .i64 p, v])[j]? = some u → zf.cell? ⟨g', j, none⟩ = some u := by
      intro j u hj
      rw [blk_cell hh', ← hj, ← hk4, List.getElem?_take, if_pos]
      · simp
      · have := (List.getElem?_eq_some_iff.1 hj).1
        rw [← hk4, List.length_take] at this
        omega
    have hsz := h.wsz
    have hxl : (cur.toList.take (d.waits.length * 2)).length = d.waits.length * 2 := by
      rw [List.length_take, Array.length_toList]
      omega
    rcases Nat.lt_or_ge i d.waits.length with hi | hi
    · rw [List.getElem?_append_left hi, get_l d.waits ⟨0, []⟩ i hi] at hx
      cases hx
      obtain ⟨h0, o, h1, h2⟩ := h.wt i hi
      have hb := row_bytes hrow hT (d.blocks.length + i) o (by rw [datD_length]; omega) (by rw [datD_w d i hi]; exact h2)
      rw [datD_w d i hi] at hb
      refine ⟨?_, h.wf i hi, _, ?_, hb.1.more h.lo.1 (Nat.lt_of_lt_of_le h.hi.1 hs), hb.2⟩
      · show zf.cell? ⟨g', 0 + i * 2 + 0, none⟩ = _
        rw [Nat.zero_add, Nat.add_zero]
        refine hcl _ _ ?_
        rw [List.getElem?_append_left (by omega), List.getElem?_take, if_pos (by omega)]
        simpa using h0
      · show zf.cell? ⟨g', 0 + i * 2 + 1, none⟩ = _
        rw [Nat.zero_add]
        refine hcl _ _ ?_
        rw [List.getElem?_append_left (by omega), List.getElem?_take, if_pos (by omega)]
        simpa using h1
    · have hi2 : i = d.waits.length := by
        have := (List.getElem?_eq_some_iff.1 hx).1
        rw [List.length_append] at this
        simp at this
        omega
      subst hi2
      rw [List.getElem?_append_right (Nat.le_refl _), Nat.sub_self] at hx
      cases hx
      refine ⟨?_, hp, v, ?_, hv, ht⟩
      · show zf.cell? ⟨g', 0 + d.waits.length * 2 + 0, none⟩ = _
        rw [Nat.zero_add, Nat.add_zero]
        refine hcl _ _ ?_
        rw [List.getElem?_append_right (by omega), hxl, Nat.sub_self]
        rfl
      · show zf.cell? ⟨g', 0 + d.waits.length * 2 + 1, none⟩ = _
        rw [Nat.zero_add]
        refine hcl _ _ ?_
        rw [List.getElem?_append_right (by omega), hxl, show d.waits.length * 2 + 1 - d.waits.length * 2 = 1 by omega]
        rfl

set_option maxRecDepth 100000 in
set_option maxHeartbeats 1000000 in
/-- dev.Write. -/
theorem dwrite_any (b u : Value) (d : DiskL) (p : Int) (v : Value) (l : List UInt8) (w : World) (h : DiskV w 0 w.heap.size b u d) (hv : Bytes w 0 w.heap.size v l) :
    Calls Try.prog 43 #[.agg #[b, u], .int .i64 p, v] w fun e w' => ∃ b' u', e = .returned (.tuple #[.agg #[b', u'], .int .i64 (errW d p l)]) ∧ MadeD w w' b' u' (writeD d p l) := by
  have hB := ((Below.refl w.heap.size w).alloc (Nat.le_refl _) (.cells #[b, u] 26)).alloc (by simp) (.cells #[.slice none 0 0, .slice none 0 0] 26)
  have hD : DiskV _ 0 _ b u d := h.step hB
  have hq := two_new w (.cells #[b, u] 26) (.cells #[.slice none 0 0, .slice none 0 0] 26)
  have hck := fun V hh => dasked_any b u d p V hh
  have htw := fun V hh h1 h2 h3 => dtwin_any b u d V hh h1 h2 h3
  obtain ⟨ab, cb, rfl, g1, g2, -, -⟩ := h.1
  obtain ⟨au, cu, rfl, g1', g2', -, -⟩ := h.2
  obtain ⟨av, cv, rfl, y1, y2⟩ := hv.form rfl
  have HV := Lib.hid hv
  unfold maxLen at g2 g2' y2
  clear h hv
  obtain ⟨W, hW⟩ : ∃ W, (w.alloc (.cells #[.slice ab d.blocks.length cb, .slice au d.waits.length cu] 26)).alloc (.cells #[.slice none 0 0, .slice none 0 0] 26) = W := ⟨_, rfl⟩
  rw [hW] at hB hD hq
  have c0 := blk_cell hq.1 0
  have c1 := blk_cell hq.1 1
  simp at c0 c1
  have HQ := Lib.hid (And.intro hD (And.intro hB hq))
  obtain ⟨ea, hea⟩ : ∃ ea, errA d p = ea := ⟨_, rfl⟩
  rw [hea] at hck
  have HC := Lib.hid (And.intro hck htw)
  have HEA := Lib.hid hea
  obtain ⟨ew, hew⟩ : ∃ ew, errW d p l = ew := ⟨_, rfl⟩
  obtain ⟨wd, hwd⟩ : ∃ wd, writeD d p l = wd := ⟨_, rfl⟩
  rw [hew, hwd]
  have HE := Lib.hid (And.intro hew hwd)
  clear hB hD hq hck htw hea hew hwd
  go_enter Try.func43, Try.ntmps43
  go_wp2_with fail
  refine (HC.out.1 W HQ.out.1).mono ?_
  rintro e w1 ⟨rfl, hst⟩
  obtain ⟨hD, hB, q0, q1⟩ := HQ.out
  replace q0 := (hst.block _ (Array.getElem?_eq_some_iff.1 q0).1).trans q0
  replace q1 := (hst.block _ (Array.getElem?_eq_some_iff.1 q1).1).trans q1
  replace hD := hD.step hst
  replace hB := below_step hB hB.size hst
  clear c0 c1
  have c0 := blk_cell q0 0
  have c1 := blk_cell q0 1
  have r0 := blk_cell q1 0
  have r1 := blk_cell q1 1
  have f0 := blk_frozen q1 0
  have f1 := blk_frozen q1 1
  simp at c0 c1 r0 r1
  have HQ1 := Lib.hid (And.intro hD (And.intro hB (And.intro q0 q1)))
  clear hD hB q0 q1 hst HQ
  have hfail : ∀ W : World, Below w.heap.size w W → Below w.heap.size w ((W.setCell ⟨w.heap.size + 1, 0, none⟩ (.slice none 0 0)).setCell ⟨w.heap.size + 1, 1, none⟩ (.slice none 0 0)) := fun W h =>
    (h.setCell (p := ⟨w.heap.size + 1, 0, none⟩) (Nat.le_succ _) _).setCell (p := ⟨w.heap.size + 1, 1, none⟩) (Nat.le_succ _) _
  have HF := Lib.hid hfail
  clear hfail
  by_cases he : ea = 0
  case neg =>
    have hw : ew = ea ∧ wd = ⟨[], []⟩ := by
      obtain ⟨h1, h2⟩ := HE.out
      have h0 := HEA.out
      have e1 : ew = ea := by rw [← h1]; unfold errW; rw [h0, if_pos he]
      refine ⟨e1, ?_⟩
      rw [← h2]
      unfold writeD
      rw [h1, e1, if_neg he]
    obtain ⟨rfl, rfl⟩ := hw
    go_wp2
    refine bodyPost_ret (v := .tuple #[.agg #[.slice none 0 0, .slice none 0 0], .int .i64 ew]) (by simp [results, Try.results43, go_sem, r0, r1]) rfl ⟨_, _, rfl, MadeD.nil_ (HF.out _ HQ1.out.2.1)⟩
  subst he
  have HM' := Lib.hid (errA_zero HEA.out)
  by_cases hl : l.length = 128
  case neg =>
    have hw : ew = 3 ∧ wd = ⟨[], []⟩ := by
      obtain ⟨h1, h2⟩ := HE.out
      have h0 := HEA.out
      have e1 : ew = 3 := by rw [← h1]; unfold errW; rw [h0, if_neg (by simp), if_pos hl]
      refine ⟨e1, ?_⟩
      rw [← h2]
      unfold writeD
      rw [h1, e1, if_neg (by decide)]
    obtain ⟨rfl, rfl⟩ := hw
    have i1 : ¬ (l.length : Int) = 128 := by omega
    go_wp2
    refine bodyPost_ret (v := .tuple #[.agg #[.slice none 0 0, .slice none 0 0], .int .i64 3]) (by simp [results, Try.results43, go_sem, r0, r1]) rfl ⟨_, _, rfl, MadeD.nil_ (HF.out _ HQ1.out.2.1)⟩
  have dl : ((l.length : Int) != 128) = false := by simp; omega
  by_cases hm : d.waits.length = 4096
  case pos =>
    have hw : ew = 9 ∧ wd = ⟨[], []⟩ := by
      obtain ⟨h1, h2⟩ := HE.out
      have h0 := HEA.out
      have e1 : ew = 9 := by rw [← h1]; unfold errW; rw [h0, if_neg (by simp), if_neg (by simpa using hl), if_pos hm]
      refine ⟨e1, ?_⟩
      rw [← h2]
      unfold writeD
      rw [h1, e1, if_neg (by decide)]
    obtain ⟨rfl, rfl⟩ := hw
    have i2 : (d.waits.length : Int) = 4096 := by omega
    have hl' := Lib.hid hl
    have hm' := Lib.hid hm
    clear hl hm
    go_wp2
    refine bodyPost_ret (v := .tuple #[.agg #[.slice none 0 0, .slice none 0 0], .int .i64 9]) (by simp [results, Try.results43, go_sem, r0, r1]) rfl ⟨_, _, rfl, MadeD.nil_ (HF.out _ HQ1.out.2.1)⟩
  have hw : ew = 0 ∧ wd = ⟨d.blocks, d.waits ++ [⟨p, l⟩]⟩ := by
    obtain ⟨h1, h2⟩ := HE.out
    have h0 := HEA.out
    have e1 : ew = 0 := by rw [← h1]; unfold errW; rw [h0, if_neg (by simp), if_neg (by simpa using hl), if_neg hm]
    refine ⟨e1, ?_⟩
    rw [← h2]
    unfold writeD
    rw [h1, e1, if_pos rfl]
  obtain ⟨rfl, rfl⟩ := hw
  have dm : ((d.waits.length : Int) == 4096) = false := by simp; omega
  obtain ⟨hm1, hm2, hm3, hm4⟩ := may_len HM'.out.1
  have hT : (datD d).flatten.length ≤ 100000000 := dat_le (by omega) (by omega) (fun x hx => Nat.le_of_eq (hm3 x hx)) (fun x hx => Nat.le_of_eq (hm4 x hx).2.2)
  have hn2 : d.waits.length ≤ 5000 := by omega
  have HL := Lib.hid (And.intro hl (And.intro hm1 hT))
  clear hl hm hm1 hm2 hm3 hm4 hT
  go_wp2_with fail
  refine (HC.out.2 w1 HQ1.out.1 (by have := HL.out; omega) (by omega) HL.out.2.2).mono ?_
  rintro e z ⟨gb, gw, g, cur, rfl, htw, hst⟩
  go_upto_region 9 with (fail)
  have h9 := World.alloc_heap_new z (.cells #[.slice (some ⟨gb, 0, none⟩) d.blocks.length d.blocks.length, .slice (some ⟨gw, 0, none⟩) d.waits.length (d.waits.length + 1)] 26)
  have hz0 := (Below.refl z.heap.size z).alloc (Nat.le_refl _) (.cells #[.slice (some ⟨gb, 0, none⟩) d.blocks.length d.blocks.length, .slice (some ⟨gw, 0, none⟩) d.waits.length (d.waits.length + 1)] 26)
  obtain ⟨z0, hz0e⟩ : ∃ z0, z.alloc (.cells #[.slice (some ⟨gb, 0, none⟩) d.blocks.length d.blocks.length, .slice (some ⟨gw, 0, none⟩) d.waits.length (d.waits.length + 1)] 26) = z0 := ⟨_, rfl⟩
  rw [hz0e] at h9 hz0 ⊢
  obtain ⟨hD, hB, q0, q1⟩ := HQ1.out
  have hBz := below_step (below_step hB hB.size hst) (Nat.le_trans hB.size hst.size) hz0
  have p1 := (hz0.block _ (Nat.lt_of_lt_of_le (Array.getElem?_eq_some_iff.1 q1).1 hst.size)).trans ((hst.block _ (Array.getElem?_eq_some_iff.1 q1).1).trans q1)
  have hcw := (hz0.block _ htw.hi.2.2).trans htw.wcur
  have hlo := htw.lo
  have hhi := htw.hi
  have hne := htw.ne
  have hn1 := (Array.getElem?_eq_some_iff.1 q1).1
  have hBs := hB.size
  have HTW := Lib.hid htw
  have HZ := Lib.hid (And.intro h9 (And.intro p1 (And.intro hcw (And.intro (show z.heap.size ≠ gw ∧ z.heap.size ≠ g ∧ z.heap.size ≠ gb ∧ w.heap.size + 1 < g ∧ w.heap.size + 1 < gb ∧ w.heap.size + 1 < gw ∧ w.heap.size + 1 < z.heap.size by omega) (And.intro hBz (show g < z0.heap.size ∧ gb < z0.heap.size ∧ gw < z0.heap.size from ⟨Nat.lt_of_lt_of_le htw.hi.1 hz0.size, Nat.lt_of_lt_of_le htw.hi.2.1 hz0.size, Nat.lt_of_lt_of_le htw.hi.2.2 hz0.size⟩))))))
  have HZB := Lib.hid hz0
  have HW := Lib.hid (show ∀ W : World, W.heap[gw]? = some (.cells cur 50 (0, 0)) → W.ownsRow w.heap.size 50 2 (.slice (some ⟨gw, 0, none⟩) d.waits.length (d.waits.length + 1)) d.waits.length (cur.toList.take (d.waits.length * 2)) from fun W hW => by
    have hs := htw.wsz
    exact ⟨by rw [List.length_take, Array.length_toList]; omega, .inr ⟨gw, d.waits.length + 1, cur, rfl, by omega, hW, Nat.le_succ _, by unfold maxLen; omega, hs, rfl⟩⟩)
  generalize hg9 : z.heap.size = g9 at *
  have HG9 := Lib.hid hg9
  clear hg9
  obtain ⟨Pr, hPr⟩ : ∃ Pr : World → Prop, ∀ W, Pr W ↔ W.heap[g9]? = some (.cells #[.slice (some ⟨gb, 0, none⟩) d.blocks.length d.blocks.length, .slice (some ⟨gw, 0, none⟩) d.waits.length (d.waits.length + 1)] 26 (0, 0)) := ⟨_, fun _ => Iff.rfl⟩
  have hp0 : Pr z0.drew := (hPr _).2 h9
  have c9 := fun X => blk_cell ((hPr _).1 (selW_pr hp0 X)) 1
  simp at c9
  clear hz0e h9 hz0 hD hB q0 q1 hBz p1 hcw hlo hhi hne hn1 hBs htw hst c0 c1 r0 r1 f0 f1
  refine wp_region_L (S := Kl Pr z0.drew) 9 (by kernel_rfl) (Kl.of hp0) (fun hCl => ?_)
  refine wpAnyL_seg (fuel := 6) (by kernel_rfl) (fun _ d _ _ _ h => by cases d <;> exact h) hCl [0, 1, 2, 3] _ _ _ (by kernel_rfl) (by kernel_rfl) (by kernel_rfl) (by kernel_rfl) ?_
  simp only [opsOf_cons, opsOf_nil, consOp_some, List.getElem?_toArray, List.getElem?_cons_succ, List.getElem?_cons_zero]
  repeat (first | go_big_quiet_step (fail) | quiet_step (fail))
  refine wpQuiet_nil ?_
  refine wpAnyL_each (fuel := 5) [4] (by kernel_rfl) (by simp) (by kernel_rfl) ?_
  refine EachL.cons _ rfl (fun K' hK => ?_) EachL.nil
  go_simp
  refine (bclone_any _ l z0.drew ((HV.out.below HZ.out.2.2.2.2.1.drew (Nat.le_refl _)).more (Nat.le_refl _) HZ.out.2.2.2.2.1.size) (by have := HL.out.1; omega)).mono ?_
  rintro e z1 ⟨u1, rfl, hm⟩
  obtain ⟨ua, uc, rfl, -, -⟩ := hm.bytes.form rfl
  have hst : Pr z1 := (hPr _).2 ((hm.below.block g9 (by have := (Array.getElem?_eq_some_iff.1 HZ.out.1).1; exact this)).trans HZ.out.1)
  have HM := Lib.hid hm
  clear hm
  have hCl : Kl Pr z0.drew _ := Kl.of hst
  refine hK.out (.inr hCl) ?_
  clear hK K'
  refine wpAnyL_each (fuel := 4) [5] (by kernel_rfl) (by simp) (by kernel_rfl) ?_
  refine EachL.cons _ rfl (fun K' hK => ?_) EachL.nil
  go_simp
  have hCl : Kl Pr z0.drew _ := Kl.of hst
  refine hK.out (.inr hCl) ?_
  clear hK K'
  refine wpAnyL_each (fuel := 3) [6] (by kernel_rfl) (by simp) (by kernel_rfl) ?_
  refine EachL.cons _ rfl (fun K' hK => ?_) EachL.nil
  go_simp
  have hst : Pr (z1.alloc (.cells #[.int .i64 p, .slice ua l.length uc] 50)) := (hPr _).2 ((((Below.refl z1.heap.size z1).alloc (Nat.le_refl _) (.cells #[.int .i64 p, .slice ua l.length uc] 50)).block g9 (Array.getElem?_eq_some_iff.1 ((hPr _).1 hst)).1).trans ((hPr _).1 hst))
  have hCl : Kl Pr z0.drew _ := Kl.of hst
  refine hK.out (.inr hCl) ?_
  clear hK K'
  refine wpAnyL_each (fuel := 2) [7] (by kernel_rfl) (by simp) (by kernel_rfl) ?_
  refine EachL.cons _ rfl (fun K' hK => ?_) EachL.nil
  refine if_yes (by kernel_rfl) ?_
  obtain ⟨i0, hi0, hz0, hz1, hz2⟩ := info_parts (P := Try.prog) (e := 50) (z := .agg #[.int .i64 0, .slice none 0 0]) (size := 2) (bytes := 32) (by kernel_rfl)
  refine wp_append_own _ (.tmp 29) (.tmp 34) 24 rfl w.heap.size 50 i0 _ 2 32 Try.underlying24 hi0 hz0 hz1 hz2 rfl (by decide) (.slice (some ⟨gw, 0, none⟩) d.waits.length (d.waits.length + 1)) d.waits.length (cur.toList.take (d.waits.length * 2)) rfl ?hown ⟨z1.heap.size, 0, none⟩ 1 1 [.int .i64 p, .slice ua l.length uc] rfl rfl ?hcells ?hone (by unfold maxLen; omega) (by omega) ?hbase ?hK
  case hown =>
    refine HW.out _ ?_
    exact (((Below.refl z1.heap.size z1).alloc (Nat.le_refl _) (.cells #[.int .i64 p, .slice ua l.length uc] 50)).block gw (Nat.lt_of_lt_of_le HZ.out.2.2.2.2.2.2.2 HM.out.below.size)).trans ((HM.out.below.block gw HZ.out.2.2.2.2.2.2.2).trans HZ.out.2.2.1)
  case hcells =>
    intro j u hj
    have hn := World.alloc_heap_new z1 (.cells #[.int .i64 p, .slice ua l.length uc] 50)
    rcases j with _ | _ | j
    · cases hj; exact blk_cell hn 0
    · cases hj; exact blk_cell hn 1
    · simp at hj
  case hone =>
    intro u hu
    simp at hu
    rcases hu with rfl | rfl <;> rfl
  case hbase =>
    have := HM.out.below.size
    have := HZ.out.2.2.2.2.1.size
    simp only [World.size_alloc]
    exact Nat.le_succ_of_le (Nat.le_trans this HM.out.below.size)
  rintro v' z2 hown hg -
  obtain ⟨hl2, hrow⟩ := hown
  rcases hrow with ⟨-, h0⟩ | ⟨g', cap, cur', rfl, hg', hh', hk1, hk2, hk3, hk4⟩
  · omega
  have hne9 : g' ≠ g9 := by
    rintro rfl
    have := (hg.block g' (by have := (Array.getElem?_eq_some_iff.1 ((hPr _).1 hst)).1; exact this) (by simp [Value.ownBlock]; exact HZ.out.2.2.2.1.1)).trans ((hPr _).1 hst)
    rw [hh'] at this
    simp at this
  have hst2 := (hg.block g9 (by have := (Array.getElem?_eq_some_iff.1 ((hPr _).1 hst)).1; exact this) (by simp [Value.ownBlock]; exact HZ.out.2.2.2.1.1)).trans ((hPr _).1 hst)
  have hst : Pr z2 := (hPr _).2 hst2
  have c91 := blk_cell hst2 1
  have f91 := blk_frozen hst2 1
  simp at c91
  have HG := Lib.hid (And.intro hg (And.intro hl2 (And.intro hg' (And.intro hh' (And.intro hk1 (And.intro hk2 (And.intro hk3 (And.intro hk4 (And.intro hne9 hst2)))))))))
  clear hg hl2 hg' hh' hk1 hk2 hk3 hk4 hne9 hst2
  have hCl : Kl Pr z0.drew _ := Kl.of hst
  refine hK.out (.inr hCl) ?_
  clear hK K'
  refine wpAnyL_seg (fuel := 1) (by kernel_rfl) (fun _ d _ _ _ h => by cases d <;> exact h) hCl [8] _ _ _ (by kernel_rfl) (by kernel_rfl) (by kernel_rfl) (by kernel_rfl) ?_
  simp only [opsOf_cons, opsOf_nil, consOp_some, List.getElem?_toArray, List.getElem?_cons_succ, List.getElem?_cons_zero]
  repeat (first | go_big_quiet_step (fail) | quiet_step (fail))
  refine wpQuiet_nil ?_
  refine wpAnyL_each (fuel := 0) [9] (by kernel_rfl) (by simp) (by kernel_rfl) ?_
  refine EachL.cons _ rfl (fun K' hK => ?_) EachL.nil
  go_simp
  refine hK.out (.inl rfl) ?_
  clear hK K'
  refine wpAnyL_done (by kernel_rfl) ?_ _
  obtain ⟨hg, hl2, hg', hh', hk1, hk2, hk3, hk4, hne9, hst2⟩ := HG.out
  have hm := HM.out
  have hBa := (Below.refl z1.heap.size z1).alloc (Nat.le_refl _) (.cells #[.int .i64 p, .slice ua l.length uc] 50)
  have hch1 : ∀ k, k < z1.heap.size → k ≠ gw → z2.heap[k]? = z1.heap[k]? := fun k h1 h2 =>
    (hg.block k (Nat.lt_of_lt_of_le h1 hBa.size) (by simp [Value.ownBlock]; exact h2)).trans (hBa.block k h1)
  have hch0 : ∀ k, k < z0.heap.size → k ≠ gw → z2.heap[k]? = z0.heap[k]? := fun k h1 h2 =>
    (hch1 k (Nat.lt_of_lt_of_le h1 hm.below.size) h2).trans (hm.below.block k h1)
  have hp1 := (hch0 (w.heap.size + 1) (Array.getElem?_eq_some_iff.1 HZ.out.2.1).1 (by have := HZ.out.2.2.2.1; omega)).trans HZ.out.2.1
  have hsz2 : z1.heap.size < z2.heap.size := Nat.lt_of_lt_of_le (by simp) hg.size
  have c90 := blk_cell hst2 0
  have r0 := blk_cell hp1 0
  have r1 := blk_cell hp1 1
  have f0 := blk_frozen hp1 0
  have f1 := blk_frozen hp1 1
  have hne19 : w.heap.size + 1 ≠ g9 := by have := HZ.out.2.2.2.1; omega
  simp at c90 r0 r1
  have HH := Lib.hid (And.intro hch1 (And.intro hch0 (And.intro hsz2 hp1)))
  clear hg hl2 hg' hh' hk1 hk2 hk3 hk4 hne9 hst2 hm hBa hch1 hch0 hp1 hsz2 c9
  go_wp2
  refine bodyPost_ret (v := .tuple #[.agg #[.slice (some ⟨gb, 0, none⟩) d.blocks.length d.blocks.length, .slice (some ⟨g', 0, none⟩) (d.waits.length + 1) cap], .int .i64 0]) (by simp [results, Try.results43, go_sem, r0, r1]) rfl ?_
  obtain ⟨hg, hl2, hg', hh', hk1, hk2, hk3, hk4, hne9, hst2⟩ := HG.out
  obtain ⟨hch1, hch0, hsz2, hp1⟩ := HH.out
  obtain ⟨h9, hp0', hcw, hnn, hBz, hlt⟩ := HZ.out
  have hm := HM.out
  have hs : ∀ k, k ≠ g9 → k ≠ w.heap.size + 1 → (((z2.setCell ⟨g9, 1, none⟩ (.slice (some ⟨g', 0, none⟩) (d.waits.length + 1) cap)).setCell ⟨w.heap.size + 1, 0, none⟩ (.slice (some ⟨gb, 0, none⟩) d.blocks.length d.blocks.length)).setCell ⟨w.heap.size + 1, 1, none⟩ (.slice (some ⟨g', 0, none⟩) (d.waits.length + 1) cap)).heap[k]? = z2.heap[k]? :=
    fun k h1 h2 => (set_other _ _ _ _ k h2).trans ((set_other _ _ _ _ k h2).trans (set_other _ _ _ _ k h1))
  have hz : (((z2.setCell ⟨g9, 1, none⟩ (.slice (some ⟨g', 0, none⟩) (d.waits.length + 1) cap)).setCell ⟨w.heap.size + 1, 0, none⟩ (.slice (some ⟨gb, 0, none⟩) d.blocks.length d.blocks.length)).setCell ⟨w.heap.size + 1, 1, none⟩ (.slice (some ⟨g', 0, none⟩) (d.waits.length + 1) cap)).heap.size = z2.heap.size := by rw [World.size_setCell, World.size_setCell, World.size_setCell]
  have hB1 : Below w.heap.size w z1 := below_step hBz.drew hBz.size hm.below
  have hB2 : Below w.heap.size w z2 := (hB1.alloc hB1.size _).grown hg (Nat.le_trans hB1.size (by simp)) (fun k e => by simp [Value.ownBlock] at e; omega)
  have hBf := ((hB2.setCell (p := ⟨g9, 1, none⟩) (by show w.heap.size ≤ g9; omega) (.slice (some ⟨g', 0, none⟩) (d.waits.length + 1) cap)).setCell (p := ⟨w.heap.size + 1, 0, none⟩) (Nat.le_succ _) (.slice (some ⟨gb, 0, none⟩) d.blocks.length d.blocks.length)).setCell (p := ⟨w.heap.size + 1, 1, none⟩) (Nat.le_succ _) (.slice (some ⟨g', 0, none⟩) (d.waits.length + 1) cap)
  have hl9 : g9 < z0.heap.size := (Array.getElem?_eq_some_iff.1 h9).1
  have hle01 : z0.heap.size ≤ z1.heap.size := hm.below.size
  have hg1 : g' ≠ w.heap.size + 1 := by
    rintro rfl
    rw [hh'] at hp1
    simp at hp1
  have htz := HTW.out
  have hzz := HZB.out
  have h0z : ∀ k, k < z.heap.size → z0.heap[k]? = z.heap[k]? := fun k hk => hzz.block k (by
    rw [← HG9.out]
    exact hk)
  generalize (((z2.setCell ⟨g9, 1, none⟩ (.slice (some ⟨g', 0, none⟩) (d.waits.length + 1) cap)).setCell ⟨w.heap.size + 1, 0, none⟩ (.slice (some ⟨gb, 0, none⟩) d.blocks.length d.blocks.length)).setCell ⟨w.heap.size + 1, 1, none⟩ (.slice (some ⟨g', 0, none⟩) (d.waits.length + 1) cap)) = zf at *
  have hkp : Kp z0.heap.size z1.heap.size z1 zf := fun k o h1 h2 =>
    have e := (hs k (by omega) (by omega)).trans (hch1 k h2 (by omega))
    ⟨heap_cell e o, heap_frozen e o⟩
  have hbytes : Bytes z1 z0.heap.size z1.heap.size (.slice ua l.length uc) l := hm.bytes
  obtain ⟨r1, r2, r3, r4, r5, r6, r7, r8, r9⟩ := htz
  have hBs := HQ1.out.2.1.size
  refine ⟨_, _, rfl, TwinAt.grown (w := z) (B := w.heap.size) ⟨r1, r2, r3, r4, r5, r6, ⟨by omega, by omega, by omega⟩, r8, r9⟩ HL.out.2.2 (by have := HL.out.2.1; omega) (by omega) ?_ ?_ ?_ g' cap cur' hg' ((hs g' hne9 hg1).trans hh') hk1 hk2 p ?_ _ l hk4 ?_ ?_, hBf⟩
  · rw [hz]; have := hzz.size; omega
  · exact (hs g (by omega) (by omega)).trans ((hch0 g hlt.1 r9.2.1).trans (h0z g r8.1))
  · exact (hs gb (by omega) (by omega)).trans ((hch0 gb hlt.2.1 r9.2.2).trans (h0z gb r8.2.1))
  · have := HM'.out.2
    exact WalkArith.wf_i64 (by omega)
  · exact (hbytes.kept hkp).more hBz.size (by omega)
  · exact thawed_kept hbytes hm.thawed hkp
end Go.Proofs.Ythealkfpflkipaa

namespace Go.Proofs.Ythealkfpflkipaa
open Go.RowKit

def capB (x : List UInt8) : Nat := min x.length 1000000
def smB (D : List (List UInt8)) (k : Nat) : Nat := ((D.take k).map capB).sum
theorem smB_succ (D : List (List UInt8)) (k : Nat) (h : k < D.length) : smB D (k + 1) = smB D k + capB (D.getD k []) := by
  unfold smB
  rw [List.take_add_one, List.map_append, List.sum_append]
  simp [h]
theorem capB_le (x : List UInt8) : capB x ≤ 1000000 := Nat.min_le_right _ _
theorem smB_le' (D : List (List UInt8)) (c : Nat) (hc : ∀ x, capB x ≤ c) (k : Nat) : smB D k ≤ k * c := by
  induction k with
  | zero => simp [smB]
  | succ k ih =>
    rw [Nat.succ_mul]
    rcases Nat.lt_or_ge k D.length with h | h
    · rw [smB_succ D k h]
      have := hc (D.getD k [])
      omega
    · have e : smB D (k + 1) = smB D k := by
        unfold smB
        rw [List.take_of_length_le (by omega), List.take_of_length_le (by omega)]
      omega
theorem smB_le (D : List (List UInt8)) (k : Nat) : smB D k ≤ k * 1000000 := smB_le' D _ capB_le k
set_option maxRecDepth 100000 in
theorem sm_flat (D : List (List UInt8)) (h : (D.map capB).sum ≤ 800000) : D.flatten.length ≤ 800000 := by
  suffices hs : D.flatten.length = (D.map capB).sum by omega
  induction D with
  | nil => rfl
  | cons a l ih =>
    rw [List.map_cons, List.sum_cons] at h ⊢
    rw [List.flatten_cons, List.length_append, ih (by omega)]
    have : capB a = a.length := by
      unfold capB at *
      omega
    omega

set_option maxRecDepth 100000 in
set_option maxHeartbeats 1000000 in
theorem great_any (b u : Value) (d : DiskL) (w : World) (h : DiskV w 0 w.heap.size b u d) :
    Calls Try.prog 5 #[.agg #[b, u]] w fun e w' => ∃ g, e = .returned (.bool g) ∧ Below w.heap.size w w' ∧ (g = false → d.blocks.length ≤ 300 ∧ d.waits.length ≤ 5000 ∧ (datD d).flatten.length ≤ 800000) := by
  have hB := (Below.refl w.heap.size w).alloc (Nat.le_refl _) (.cells #[b, u] 26)
  have hD := h.step hB
  have hq := World.alloc_heap_new w (.cells #[b, u] 26)
  obtain ⟨ab, cb, rfl, g1, g2, -, -⟩ := h.1
  obtain ⟨au, cu, rfl, g1', g2', -, -⟩ := h.2
  unfold maxLen at g2 g2'
  clear h
  obtain ⟨W, hW⟩ : ∃ W, w.alloc (.cells #[.slice ab d.blocks.length cb, .slice au d.waits.length cu] 26) = W := ⟨_, rfl⟩
  rw [hW] at hB hD hq
  have c0 := blk_cell hq 0
  have c1 := blk_cell hq 1
  simp at c0 c1
  have HQ := Lib.hid (And.intro hD (And.intro hB hq))
  clear hD hB hq
  go_enter Try.func5, Try.ntmps5
  by_cases h1 : 300 < d.blocks.length
  · have i1 : (300 : Int) < d.blocks.length := by omega
    go_wp2
    go_ret
    exact ⟨true, rfl, HQ.out.2.1, fun h => by cases h⟩
  have d1 : decide ((300 : Int) < d.blocks.length) = false := by simp; omega
  by_cases h2 : 5000 < d.waits.length
  · have i2 : (5000 : Int) < d.waits.length := by omega
    go_wp2
    go_ret
    exact ⟨true, rfl, HQ.out.2.1, fun h => by cases h⟩
  have d2 : decide ((5000 : Int) < d.waits.length) = false := by simp; omega
  by_cases h3 : 600 < d.waits.length ∧ d.waits.length < 4096
  · have i3 : (600 : Int) < d.waits.length := by omega
    have i4 : (d.waits.length : Int) < 4096 := by omega
    go_wp2
    go_ret
    exact ⟨true, rfl, HQ.out.2.1, fun h => by cases h⟩
  obtain ⟨D, hDD⟩ : ∃ D, datD d = D := ⟨_, rfl⟩
  have HL := Lib.hid (show D.length = d.blocks.length + d.waits.length by rw [← hDD, datD_length])
  have HDB := Lib.hid (show ∀ k, k < d.blocks.length → D.getD k [] = d.blocks.getD k [] from fun k hk => by rw [← hDD]; exact datD_b d k hk)
  have HDW := Lib.hid (show ∀ k, k < d.waits.length → D.getD (d.blocks.length + k) [] = (d.waits.getD k ⟨0, []⟩).data from fun k hk => by rw [← hDD]; exact datD_w d k hk)
  have HDD := Lib.hid hDD
  clear hDD
  have h1' : d.blocks.length ≤ 300 := by omega
  have h2' : d.waits.length ≤ 5000 := by omega
  have hsplit : (decide ((600 : Int) < d.waits.length) = false) ∨ ((600 : Int) < d.waits.length ∧ decide ((d.waits.length : Int) < 4096) = false) := by
    by_cases h : 600 < d.waits.length
    · exact .inr ⟨by omega, by simp; omega⟩
    · exact .inl (by simp; omega)
  clear h3
  go_upto_region 1 with (fail)
  go_cut [27] (fun s wx => s = .bool false ∧ wx = W)
  case first =>
    rcases hsplit with d3 | ⟨i3, d4⟩
    · go_wp2
      go_meet
      exact ⟨rfl, rfl⟩
    · go_wp2
      go_meet
      exact ⟨rfl, rfl⟩
  case rest =>
  obtain ⟨rfl, rfl⟩ := hcut
  clear hsplit d1 d2
  have HS := Lib.hid (show ∀ k, k ≤ 6000 → smB D k ≤ 6000000000 from fun k hk => Nat.le_trans (smB_le D k) (by omega))
  clear h1 h2
  go_wp2_with fail
  go_loopw [3, 4] (fun v i wr => ∃ k : Nat, k ≤ d.blocks.length ∧ i = .int .i64 k ∧ v = .int .i64 (smB D k) ∧ wr = wc) (fun _ i _ => d.blocks.length - (intOf i).toNat)
  case atStart => exact ⟨0, Nat.zero_le _, rfl, rfl, rfl⟩
  case round =>
  obtain ⟨k, hk, rfl, rfl, rfl⟩ := hrel
  by_cases hlt : k < d.blocks.length
  · obtain ⟨bb, bo, cb', e', -, z1, z2, z3, hbe⟩ := HQ.out.1.1.at_ (by omega)
    injection e' with ea _ ec
    subst ea ec
    obtain ⟨v, hv, hvb⟩ := hbe k (d.blocks.getD k []) (get_l _ _ _ hlt)
    obtain ⟨av, cv, rfl, -, hcv⟩ := hvb.form rfl
    unfold maxLen at hcv z3
    have hv' : wr.cell? ⟨bb, bo + k, none⟩ = some (.slice av (d.blocks.getD k []).length cv) := by simpa [rBytes] using hv
    have hps : smB D (k + 1) = smB D k + capB (d.blocks.getD k []) := by rw [smB_succ D k (by have := HL.out; omega), HDB.out k hlt]
    have hpt := HS.out k (by omega)
    have hcl := capB_le (d.blocks.getD k [])
    have hmin : min ((d.blocks.getD k []).length : Int) 1000000 = (capB (d.blocks.getD k []) : Int) := by unfold capB; omega
    have HPS := Lib.hid hps
    clear hps hv hvb hbe
    generalize capB (d.blocks.getD k []) = cy at *
    generalize (d.blocks.getD k []).length = y at *
    generalize smB D k = pk at *
    go_wp2
    go_roundw
    case rel => exact ⟨k + 1, by omega, by go_num, by rw [HPS.out]; go_num, trivial⟩
    case measure => simp [intOf]; omega
  obtain rfl : k = d.blocks.length := by omega
  clear hk hlt
  obtain ⟨V, hV⟩ : ∃ V, V = wr := ⟨_, rfl⟩
  subst hV
  go_wp2_with fail
  go_loopw [3, 5] (fun v i wr => ∃ k : Nat, k ≤ d.waits.length ∧ i = .int .i64 k ∧ v = .int .i64 (smB D (d.blocks.length + k)) ∧ wr = V) (fun _ i _ => d.waits.length - (intOf i).toNat)
  case atStart => exact ⟨0, Nat.zero_le _, rfl, rfl, rfl⟩
  case round =>
  obtain ⟨k, hk, rfl, rfl, rfl⟩ := hrel
  by_cases hlt : k < d.waits.length
  · obtain ⟨bb, bo, cb', e', -, z1, z2, z3, hbe⟩ := HQ.out.1.2.at_ (by omega)
    injection e' with ea _ ec
    subst ea ec
    obtain ⟨f0, f1, v, f2, f3⟩ := hbe k (d.waits.getD k ⟨0, []⟩) (get_l _ _ _ hlt)
    obtain ⟨av, cv, rfl, -, hcv⟩ := f3.form rfl
    unfold maxLen at hcv z3
    have hps : smB D (d.blocks.length + (k + 1)) = smB D (d.blocks.length + k) + capB (d.waits.getD k ⟨0, []⟩).data := by
      rw [← Nat.add_assoc, smB_succ D (d.blocks.length + k) (by have := HL.out; omega), HDW.out k hlt]
    have hpt := HS.out (d.blocks.length + k) (by omega)
    have hcl := capB_le (d.waits.getD k ⟨0, []⟩).data
    have hmin : min ((d.waits.getD k ⟨0, []⟩).data.length : Int) 1000000 = (capB (d.waits.getD k ⟨0, []⟩).data : Int) := by unfold capB; omega
    obtain ⟨y, hy⟩ : ∃ y, d.waits.getD k ⟨0, []⟩ = y := ⟨_, rfl⟩
    rw [hy] at f2 hps hcl hmin
    clear hy f0 f1 f3 hbe
    have HPS := Lib.hid hps
    clear hps
    obtain ⟨at_, dt⟩ := y
    simp [rWrite] at f2
    simp only at hcl hmin HPS
    generalize capB dt = cy at *
    generalize smB D (d.blocks.length + k) = pk at *
    go_wp2
    go_roundw
    case rel => exact ⟨k + 1, by omega, by go_num, by rw [HPS.out]; go_num, trivial⟩
    case measure => simp [intOf]; omega
  obtain rfl : k = d.waits.length := by omega
  have hsum : smB D (d.blocks.length + d.waits.length) = (D.map capB).sum := by
    rw [← HL.out]
    unfold smB
    rw [List.take_length]
  have hpt := HS.out (d.blocks.length + d.waits.length) (by omega)
  rw [hsum] at hpt ⊢
  have HSM := Lib.hid (sm_flat D)
  clear hsum
  generalize (D.map capB).sum = sm at *
  by_cases h5 : 800000 < sm
  · have i5 : (800000 : Int) < sm := by omega
    go_wp2
    go_ret
    exact ⟨true, rfl, HQ.out.2.1, fun h => by cases h⟩
  · have d5 : decide ((800000 : Int) < sm) = false := by simp; omega
    have hle : sm ≤ 800000 := by omega
    have HLE := Lib.hid hle
    clear hle h5
    go_wp2
    go_ret
    exact ⟨_, rfl, HQ.out.2.1, fun _ => ⟨h1', h2', by rw [HDD.out]; exact HSM.out HLE.out⟩⟩
end Go.Proofs.Ythealkfpflkipaa

namespace Go.Proofs.Ythealkfpflkipaa
open Go.RowKit

theorem errA_may {d : DiskL} (p : Int) (h : mayD d = true) : errA d p = if p < 0 ∨ 256 ≤ p then 2 else 0 := by
  unfold errA
  rw [if_pos h]
end Go.Proofs.Ythealkfpflkipaa

namespace Go.Proofs.Ythealkfpflkipaa
open Go.RowKit

theorem kp_two {lo hi r : Nat} (z : World) (a b : Value) (i : Nat) (h : r < lo) : Kp lo hi z ((z.setCell ⟨r, 0, none⟩ a).setCell ⟨r, i, none⟩ b) := fun k o h1 _ =>
  have e := (set_other _ r i b k (by omega)).trans (set_other z r 0 a k (by omega))
  ⟨heap_cell e o, heap_frozen e o⟩
theorem DiskT.keep {w w' : World} {lo hi : Nat} {b u : Value} {d : DiskL} (h : DiskT w lo hi b u d) (hk : Kp lo hi w w') : DiskT w' lo hi b u d := ⟨Sl.keep h.1 hk, Sl.keep h.2 hk⟩

end Go.Proofs.Ythealkfpflkipaa

