/- RoomDoes: the words and contracts, part 5. -/
import Derived.Test.YtkfgegdnpinbdaaRoomDoesQ1
import Derived.Test.YtkfgegdnpinbdaaRoomDoesQ2
import Derived.Test.YtkfgegdnpinbdaaRoomDoesQ3
import Derived.Test.YtkfgegdnpinbdaaRoomDoesQ4
import Derived.WalkKit
import Derived.WalkLawsBesides
import Derived.WalkSpells
import Derived.Lib.Hide
import Derived.Laws.Rows
import Derived.Laws.AppendOwnNone
import Derived.Maps.AppendAt
import Derived.RangeFuncNested
import Derived.RangeFuncBound
import Derived.RangeFuncCalls
import Derived.RangeFuncLeaves
import Derived.RangeFuncBox
import Derived.Shelf.Abstract
import Derived.Shelf.RegionOpen
import Derived.OwnWalkIn
import Derived.TacticsInMore
import Derived.LoopNIn
import Derived.LoopIn
import Derived.ProofKit
import Derived.Deep.Slices
import Derived.WideShapes
import Derived.OrdersHeld
import Derived.Deep.QuietTactic
import Derived.BigQuiet
import Derived.StillTailTactics
import Derived.OpenShut
import Derived.Lib.SliceRun
import Derived.Lib.AppendZerosOnto
import Derived.Lib.Walk
import Derived.Deep.LoopGhost
import Derived.Laws.CopyOwn
import Derived.Deep.DeepCutAuto
import Derived.Laws.CopyRow
import Derived.Laws.MakeOwn
import Derived.Deep.RegionHeld
namespace Go.Proofs.Ytkfgegdnpinbdaa
open Go.RowKit

theorem if_yes {c : Prop} [Decidable c] {p q : Prop} (hc : c) (hp : p) : if c then p else q := by rw [if_pos hc]; exact hp
def errW (d : DiskL) (p : Int) (l : List UInt8) : Int := if errA d p ≠ 0 then errA d p else if l.length ≠ 128 then 3 else if d.waits.length = 4096 then 9 else 0
def writeD (d : DiskL) (p : Int) (l : List UInt8) : DiskL := if errW d p l = 0 then ⟨d.blocks, d.waits ++ [⟨p, l⟩]⟩ else ⟨[], []⟩
theorem errA_zero {d : DiskL} {p : Int} (h : errA d p = 0) : mayD d = true ∧ 0 ≤ p ∧ p < 256 := by
  unfold errA at h
  split at h
  · rename_i hm
    split at h
    · cases h
    · exact ⟨hm, by omega, by omega⟩
  · cases h

theorem row_bytes {w : World} {g : Nat} {D : List (List UInt8)} (hr : RowB w g 5 D.flatten) (hT : D.flatten.length ≤ 100000000) (j o : Nat) (hj : j < D.length) (ho : 0 < (D.getD j []).length → o = posD D j) :
    Bytes w g (g + 1) (.slice (some ⟨g, o, none⟩) (D.getD j []).length (D.getD j []).length) (D.getD j []) ∧ Thawed w (.slice (some ⟨g, o, none⟩) (D.getD j []).length (D.getD j []).length) := by
  refine ⟨?_, fun b off m c he i _ => by cases he; exact hr.frozen _⟩
  have hle : (D.getD j []).length ≤ maxLen := by
    have := posD_succ D j hj
    have := posD_le D (j + 1)
    unfold maxLen
    omega
  refine ⟨_, _, rfl, Nat.le_refl _, hle, fun hp => ⟨g, o, rfl, Nat.le_refl _, Nat.lt_succ_self _, fun i x hx => ?_⟩, fun h => by cases h⟩
  rw [hr.cell, ho hp]
  have hc := cut_laid D j hj
  rw [← hc, List.getElem?_take] at hx
  split at hx
  · rw [List.getElem?_drop] at hx
    rw [hx]; rfl
  · cases hx
/-- What was made by Twin, in a later world in which the row of writes has grown by one. -/
theorem TwinAt.grown {B : Nat} {w zf : World} {gb gw g : Nat} {cur : Array Value} {d : DiskL} (h : TwinAt B w gb gw g cur d) (hT : (datD d).flatten.length ≤ 100000000) (hn : d.blocks.length ≤ 100000) (hn2 : d.waits.length ≤ 100000) (hs : w.heap.size ≤ zf.heap.size)
    (e1 : zf.heap[g]? = w.heap[g]?) (e2 : zf.heap[gb]? = w.heap[gb]?) (g' cap : Nat) (cur' : Array Value) (hg' : B ≤ g') (hh' : zf.heap[g']? = some (.cells cur' 92 (0, 0))) (hk1 : d.waits.length + 1 ≤ cap) (hk2 : cap ≤ maxLen)
    (p : Int) (hp : (Lit.int .i64 p).wf = true) (v : Value) (l : List UInt8) (hk4 : cur'.toList.take ((d.waits.length + 1) * 2) = cur.toList.take (d.waits.length * 2) ++ [.int .i64 p, v]) (hv : Bytes zf B zf.heap.size v l) (ht : Thawed zf v) :
    DiskT zf B zf.heap.size (.slice (some ⟨gb, 0, none⟩) d.blocks.length d.blocks.length) (.slice (some ⟨g', 0, none⟩) (d.waits.length + 1) cap) ⟨d.blocks, d.waits ++ [⟨p, l⟩]⟩ := by
  have hrow : RowB zf g 5 (datD d).flatten := e1.trans h.row
  refine ⟨⟨_, _, rfl, Nat.le_refl _, by unfold maxLen; omega, fun _ => ⟨gb, 0, rfl, h.lo.2.1, Nat.lt_of_lt_of_le h.hi.2.1 hs, fun i x hx => ?_⟩, fun h => by cases h⟩,
    ⟨_, _, by rw [List.length_append]; rfl, by rw [List.length_append]; exact hk1, hk2, fun _ => ⟨g', 0, rfl, hg', (Array.getElem?_eq_some_iff.1 hh').1, fun i x hx => ?_⟩, fun h => by cases h⟩⟩
  · have hi : i < d.blocks.length := (List.getElem?_eq_some_iff.1 hx).1
    simp only at hx
    rw [get_l d.blocks [] i hi] at hx
    cases hx
    obtain ⟨o, h1, h2⟩ := h.bl i hi
    have hb := row_bytes hrow hT i o (by rw [datD_length]; omega) (by rw [datD_b d i hi]; exact h2)
    rw [datD_b d i hi] at hb
    refine ⟨_, ?_, hb.1.more h.lo.1 (Nat.lt_of_lt_of_le h.hi.1 hs), hb.2⟩
    show zf.cell? ⟨gb, 0 + i * 1 + 0, none⟩ = _
    rw [heap_cell e2, Nat.zero_add, Nat.mul_one, Nat.add_zero]
    exact h1
  · have hcl : ∀ j u, (cur.toList.take (d.waits.length * 2) ++ [.int .i64 p, v])[j]? = some u → zf.cell? ⟨g', j, none⟩ = some u := by
      intro j u hj
      rw [blk_cell hh', ← hj, ← hk4, List.getElem?_take, if_pos]
      · simp
      · have := (List.getElem?_eq_some_iff.1 hj).1
        rw [← hk4, List.length_take] at this
        omega
    have hsz := h.wsz
    have hxl : (cur.toList.take (d.waits.length * 2)).length = d.waits.length * 2 := by
      rw [List.length_take, Array.length_toList]
      omega
    rcases Nat.lt_or_ge i d.waits.length with hi | hi
    · rw [List.getElem?_append_left hi, get_l d.waits ⟨0, []⟩ i hi] at hx
      cases hx
      obtain ⟨h0, o, h1, h2⟩ := h.wt i hi
      have hb := row_bytes hrow hT (d.blocks.length + i) o (by rw [datD_length]; omega) (by rw [datD_w d i hi]; exact h2)
      rw [datD_w d i hi] at hb
      refine ⟨?_, h.wf i hi, _, ?_, hb.1.more h.lo.1 (Nat.lt_of_lt_of_le h.hi.1 hs), hb.2⟩
      · show zf.cell? ⟨g', 0 + i * 2 + 0, none⟩ = _
        rw [Nat.zero_add, Nat.add_zero]
        refine hcl _ _ ?_
        rw [List.getElem?_append_left (by omega), List.getElem?_take, if_pos (by omega)]
        simpa using h0
      · show zf.cell? ⟨g', 0 + i * 2 + 1, none⟩ = _
        rw [Nat.zero_add]
        refine hcl _ _ ?_
        rw [List.getElem?_append_left (by omega), List.getElem?_take, if_pos (by omega)]
        simpa using h1
    · have hi2 : i = d.waits.length := by
        have := (List.getElem?_eq_some_iff.1 hx).1
        rw [List.length_append] at this
        simp at this
        omega
      subst hi2
      rw [List.getElem?_append_right (Nat.le_refl _), Nat.sub_self] at hx
      cases hx
      refine ⟨?_, hp, v, ?_, hv, ht⟩
      · show zf.cell? ⟨g', 0 + d.waits.length * 2 + 0, none⟩ = _
        rw [Nat.zero_add, Nat.add_zero]
        refine hcl _ _ ?_
        rw [List.getElem?_append_right (by omega), hxl, Nat.sub_self]
        rfl
      · show zf.cell? ⟨g', 0 + d.waits.length * 2 + 1, none⟩ = _
        rw [Nat.zero_add]
        refine hcl _ _ ?_
        rw [List.getElem?_append_right (by omega), hxl, show d.waits.length * 2 + 1 - d.waits.length * 2 = 1 by omega]
        rfl

set_option maxRecDepth 100000 in
set_option maxHeartbeats 1000000 in
/-- dev.Write. -/
theorem dwrite_any (b u : Value) (d : DiskL) (p : Int) (v : Value) (l : List UInt8) (w : World) (h : DiskV w 0 w.heap.size b u d) (hv : Bytes w 0 w.heap.size v l) :
    Calls Try.prog 39 #[.agg #[b, u], .int .i64 p, v] w fun e w' => ∃ b' u', e = .returned (.tuple #[.agg #[b', u'], .int .i64 (errW d p l)]) ∧ MadeD w w' b' u' (writeD d p l) := by
  have hB := ((Below.refl w.heap.size w).alloc (Nat.le_refl _) (.cells #[b, u] 25)).alloc (by simp) (.cells #[.slice none 0 0, .slice none 0 0] 25)
  have hD : DiskV _ 0 _ b u d := h.step hB
  have hq := two_new w (.cells #[b, u] 25) (.cells #[.slice none 0 0, .slice none 0 0] 25)
  have hck := fun V hh => dasked_any b u d p V hh
  have htw := fun V hh h1 h2 h3 => dtwin_any b u d V hh h1 h2 h3
  obtain ⟨ab, cb, rfl, g1, g2, -, -⟩ := h.1
  obtain ⟨au, cu, rfl, g1', g2', -, -⟩ := h.2
  obtain ⟨av, cv, rfl, y1, y2⟩ := hv.form rfl
  have HV := Lib.hid hv
  unfold maxLen at g2 g2' y2
  clear h hv
  obtain ⟨W, hW⟩ : ∃ W, (w.alloc (.cells #[.slice ab d.blocks.length cb, .slice au d.waits.length cu] 25)).alloc (.cells #[.slice none 0 0, .slice none 0 0] 25) = W := ⟨_, rfl⟩
  rw [hW] at hB hD hq
  have c0 := blk_cell hq.1 0
  have c1 := blk_cell hq.1 1
  simp at c0 c1
  have HQ := Lib.hid (And.intro hD (And.intro hB hq))
  obtain ⟨ea, hea⟩ : ∃ ea, errA d p = ea := ⟨_, rfl⟩
  rw [hea] at hck
  have HC := Lib.hid (And.intro hck htw)
  have HEA := Lib.hid hea
  obtain ⟨ew, hew⟩ : ∃ ew, errW d p l = ew := ⟨_, rfl⟩
  obtain ⟨wd, hwd⟩ : ∃ wd, writeD d p l = wd := ⟨_, rfl⟩
  rw [hew, hwd]
  have HE := Lib.hid (And.intro hew hwd)
  clear hB hD hq hck htw hea hew hwd
  go_enter Try.func39, Try.ntmps39
  go_wp2_with fail
  refine (HC.out.1 W HQ.out.1).mono ?_
  rintro e w1 ⟨rfl, hst⟩
  obtain ⟨hD, hB, q0, q1⟩ := HQ.out
  replace q0 := (hst.block _ (Array.getElem?_eq_some_iff.1 q0).1).trans q0
  replace q1 := (hst.block _ (Array.getElem?_eq_some_iff.1 q1).1).trans q1
  replace hD := hD.step hst
  replace hB := below_step hB hB.size hst
  clear c0 c1
  have c0 := blk_cell q0 0
  have c1 := blk_cell q0 1
  have r0 := blk_cell q1 0
  have r1 := blk_cell q1 1
  have f0 := blk_frozen q1 0
  have f1 := blk_frozen q1 1
  simp at c0 c1 r0 r1
  have HQ1 := Lib.hid (And.intro hD (And.intro hB (And.intro q0 q1)))
  clear hD hB q0 q1 hst HQ
  have hfail : ∀ W : World, Below w.heap.size w W → Below w.heap.size w ((W.setCell ⟨w.heap.size + 1, 0, none⟩ (.slice none 0 0)).setCell ⟨w.heap.size + 1, 1, none⟩ (.slice none 0 0)) := fun W h =>
    (h.setCell (p := ⟨w.heap.size + 1, 0, none⟩) (Nat.le_succ _) _).setCell (p := ⟨w.heap.size + 1, 1, none⟩) (Nat.le_succ _) _
  have HF := Lib.hid hfail
  clear hfail
  by_cases he : ea = 0
  case neg =>
    have hw : ew = ea ∧ wd = ⟨[], []⟩ := by
      obtain ⟨h1, h2⟩ := HE.out
      have h0 := HEA.out
      have e1 : ew = ea := by rw [← h1]; unfold errW; rw [h0, if_pos he]
      refine ⟨e1, ?_⟩
      rw [← h2]
      unfold writeD
      rw [h1, e1, if_neg he]
    obtain ⟨rfl, rfl⟩ := hw
    go_wp2
    refine bodyPost_ret (v := .tuple #[.agg #[.slice none 0 0, .slice none 0 0], .int .i64 ew]) (by simp [results, Try.results39, go_sem, r0, r1]) rfl ⟨_, _, rfl, MadeD.nil_ (HF.out _ HQ1.out.2.1)⟩
  subst he
  have HM' := Lib.hid (errA_zero HEA.out)
  by_cases hl : l.length = 128
  case neg =>
    have hw : ew = 3 ∧ wd = ⟨[], []⟩ := by
      obtain ⟨h1, h2⟩ := HE.out
      have h0 := HEA.out
      have e1 : ew = 3 := by rw [← h1]; unfold errW; rw [h0, if_neg (by simp), if_pos hl]
      refine ⟨e1, ?_⟩
      rw [← h2]
      unfold writeD
      rw [h1, e1, if_neg (by decide)]
    obtain ⟨rfl, rfl⟩ := hw
    have i1 : ¬ (l.length : Int) = 128 := by omega
    go_wp2
    refine bodyPost_ret (v := .tuple #[.agg #[.slice none 0 0, .slice none 0 0], .int .i64 3]) (by simp [results, Try.results39, go_sem, r0, r1]) rfl ⟨_, _, rfl, MadeD.nil_ (HF.out _ HQ1.out.2.1)⟩
  have dl : ((l.length : Int) != 128) = false := by simp; omega
  by_cases hm : d.waits.length = 4096
  case pos =>
    have hw : ew = 9 ∧ wd = ⟨[], []⟩ := by
      obtain ⟨h1, h2⟩ := HE.out
      have h0 := HEA.out
      have e1 : ew = 9 := by rw [← h1]; unfold errW; rw [h0, if_neg (by simp), if_neg (by simpa using hl), if_pos hm]
      refine ⟨e1, ?_⟩
      rw [← h2]
      unfold writeD
      rw [h1, e1, if_neg (by decide)]
    obtain ⟨rfl, rfl⟩ := hw
    have i2 : (d.waits.length : Int) = 4096 := by omega
    have hl' := Lib.hid hl
    have hm' := Lib.hid hm
    clear hl hm
    go_wp2
    refine bodyPost_ret (v := .tuple #[.agg #[.slice none 0 0, .slice none 0 0], .int .i64 9]) (by simp [results, Try.results39, go_sem, r0, r1]) rfl ⟨_, _, rfl, MadeD.nil_ (HF.out _ HQ1.out.2.1)⟩
  have hw : ew = 0 ∧ wd = ⟨d.blocks, d.waits ++ [⟨p, l⟩]⟩ := by
    obtain ⟨h1, h2⟩ := HE.out
    have h0 := HEA.out
    have e1 : ew = 0 := by rw [← h1]; unfold errW; rw [h0, if_neg (by simp), if_neg (by simpa using hl), if_neg hm]
    refine ⟨e1, ?_⟩
    rw [← h2]
    unfold writeD
    rw [h1, e1, if_pos rfl]
  obtain ⟨rfl, rfl⟩ := hw
  have dm : ((d.waits.length : Int) == 4096) = false := by simp; omega
  obtain ⟨hm1, hm2, hm3, hm4⟩ := may_len HM'.out.1
  have hT : (datD d).flatten.length ≤ 100000000 := dat_le (by omega) (by omega) (fun x hx => Nat.le_of_eq (hm3 x hx)) (fun x hx => Nat.le_of_eq (hm4 x hx).2.2)
  have hn2 : d.waits.length ≤ 5000 := by omega
  have HL := Lib.hid (And.intro hl (And.intro hm1 hT))
  clear hl hm hm1 hm2 hm3 hm4 hT
  go_wp2_with fail
  refine (HC.out.2 w1 HQ1.out.1 (by have := HL.out; omega) (by omega) HL.out.2.2).mono ?_
  rintro e z ⟨gb, gw, g, cur, rfl, htw, hst⟩
  go_upto_region 9 with (fail)
  have h9 := World.alloc_heap_new z (.cells #[.slice (some ⟨gb, 0, none⟩) d.blocks.length d.blocks.length, .slice (some ⟨gw, 0, none⟩) d.waits.length (d.waits.length + 1)] 25)
  have hz0 := (Below.refl z.heap.size z).alloc (Nat.le_refl _) (.cells #[.slice (some ⟨gb, 0, none⟩) d.blocks.length d.blocks.length, .slice (some ⟨gw, 0, none⟩) d.waits.length (d.waits.length + 1)] 25)
  obtain ⟨z0, hz0e⟩ : ∃ z0, z.alloc (.cells #[.slice (some ⟨gb, 0, none⟩) d.blocks.length d.blocks.length, .slice (some ⟨gw, 0, none⟩) d.waits.length (d.waits.length + 1)] 25) = z0 := ⟨_, rfl⟩
  rw [hz0e] at h9 hz0 ⊢
  obtain ⟨hD, hB, q0, q1⟩ := HQ1.out
  have hBz := below_step (below_step hB hB.size hst) (Nat.le_trans hB.size hst.size) hz0
  have p1 := (hz0.block _ (Nat.lt_of_lt_of_le (Array.getElem?_eq_some_iff.1 q1).1 hst.size)).trans ((hst.block _ (Array.getElem?_eq_some_iff.1 q1).1).trans q1)
  have hcw := (hz0.block _ htw.hi.2.2).trans htw.wcur
  have hlo := htw.lo
  have hhi := htw.hi
  have hne := htw.ne
  have hn1 := (Array.getElem?_eq_some_iff.1 q1).1
  have hBs := hB.size
  have HTW := Lib.hid htw
  have HZ := Lib.hid (And.intro h9 (And.intro p1 (And.intro hcw (And.intro (show z.heap.size ≠ gw ∧ z.heap.size ≠ g ∧ z.heap.size ≠ gb ∧ w.heap.size + 1 < g ∧ w.heap.size + 1 < gb ∧ w.heap.size + 1 < gw ∧ w.heap.size + 1 < z.heap.size by omega) (And.intro hBz (show g < z0.heap.size ∧ gb < z0.heap.size ∧ gw < z0.heap.size from ⟨Nat.lt_of_lt_of_le htw.hi.1 hz0.size, Nat.lt_of_lt_of_le htw.hi.2.1 hz0.size, Nat.lt_of_lt_of_le htw.hi.2.2 hz0.size⟩))))))
  have HZB := Lib.hid hz0
  have HW := Lib.hid (show ∀ W : World, W.heap[gw]? = some (.cells cur 92 (0, 0)) → W.ownsRow w.heap.size 92 2 (.slice (some ⟨gw, 0, none⟩) d.waits.length (d.waits.length + 1)) d.waits.length (cur.toList.take (d.waits.length * 2)) from fun W hW => by
    have hs := htw.wsz
    exact ⟨by rw [List.length_take, Array.length_toList]; omega, .inr ⟨gw, d.waits.length + 1, cur, rfl, by omega, hW, Nat.le_succ _, by unfold maxLen; omega, hs, rfl⟩⟩)
  generalize hg9 : z.heap.size = g9 at *
  have HG9 := Lib.hid hg9
  clear hg9
  obtain ⟨Pr, hPr⟩ : ∃ Pr : World → Prop, ∀ W, Pr W ↔ W.heap[g9]? = some (.cells #[.slice (some ⟨gb, 0, none⟩) d.blocks.length d.blocks.length, .slice (some ⟨gw, 0, none⟩) d.waits.length (d.waits.length + 1)] 25 (0, 0)) := ⟨_, fun _ => Iff.rfl⟩
  have hp0 : Pr z0.drew := (hPr _).2 h9
  have c9 := fun X => blk_cell ((hPr _).1 (selW_pr hp0 X)) 1
  simp at c9
  clear hz0e h9 hz0 hD hB q0 q1 hBz p1 hcw hlo hhi hne hn1 hBs htw hst c0 c1 r0 r1 f0 f1
  refine wp_region_L (S := Kl Pr z0.drew) 9 (by kernel_rfl) (Kl.of hp0) (fun hCl => ?_)
  refine wpAnyL_seg (fuel := 6) (by kernel_rfl) (fun _ d _ _ _ h => by cases d <;> exact h) hCl [0, 1, 2, 3] _ _ _ (by kernel_rfl) (by kernel_rfl) (by kernel_rfl) (by kernel_rfl) ?_
  simp only [opsOf_cons, opsOf_nil, consOp_some, List.getElem?_toArray, List.getElem?_cons_succ, List.getElem?_cons_zero]
  repeat (first | go_big_quiet_step (fail) | quiet_step (fail))
  refine wpQuiet_nil ?_
  refine wpAnyL_each (fuel := 5) [4] (by kernel_rfl) (by simp) (by kernel_rfl) ?_
  refine EachL.cons _ rfl (fun K' hK => ?_) EachL.nil
  go_simp
  refine (bclone_any _ l z0.drew ((HV.out.below HZ.out.2.2.2.2.1.drew (Nat.le_refl _)).more (Nat.le_refl _) HZ.out.2.2.2.2.1.size) (by have := HL.out.1; omega)).mono ?_
  rintro e z1 ⟨u1, rfl, hm⟩
  obtain ⟨ua, uc, rfl, -, -⟩ := hm.bytes.form rfl
  have hst : Pr z1 := (hPr _).2 ((hm.below.block g9 (by have := (Array.getElem?_eq_some_iff.1 HZ.out.1).1; exact this)).trans HZ.out.1)
  have HM := Lib.hid hm
  clear hm
  have hCl : Kl Pr z0.drew _ := Kl.of hst
  refine hK.out (.inr hCl) ?_
  clear hK K'
  refine wpAnyL_each (fuel := 4) [5] (by kernel_rfl) (by simp) (by kernel_rfl) ?_
  refine EachL.cons _ rfl (fun K' hK => ?_) EachL.nil
  go_simp
  have hCl : Kl Pr z0.drew _ := Kl.of hst
  refine hK.out (.inr hCl) ?_
  clear hK K'
  refine wpAnyL_each (fuel := 3) [6] (by kernel_rfl) (by simp) (by kernel_rfl) ?_
  refine EachL.cons _ rfl (fun K' hK => ?_) EachL.nil
  go_simp
  have hst : Pr (z1.alloc (.cells #[.int .i64 p, .slice ua l.length uc] 92)) := (hPr _).2 ((((Below.refl z1.heap.size z1).alloc (Nat.le_refl _) (.cells #[.int .i64 p, .slice ua l.length uc] 92)).block g9 (Array.getElem?_eq_some_iff.1 ((hPr _).1 hst)).1).trans ((hPr _).1 hst))
  have hCl : Kl Pr z0.drew _ := Kl.of hst
  refine hK.out (.inr hCl) ?_
  clear hK K'
  refine wpAnyL_each (fuel := 2) [7] (by kernel_rfl) (by simp) (by kernel_rfl) ?_
  refine EachL.cons _ rfl (fun K' hK => ?_) EachL.nil
  refine if_yes (by kernel_rfl) ?_
  obtain ⟨i0, hi0, hz0, hz1, hz2⟩ := info_parts (P := Try.prog) (e := 92) (z := .agg #[.int .i64 0, .slice none 0 0]) (size := 2) (bytes := 32) (by kernel_rfl)
  refine wp_append_own _ (.tmp 29) (.tmp 34) 23 rfl w.heap.size 92 i0 _ 2 32 Try.underlying23 hi0 hz0 hz1 hz2 rfl (by decide) (.slice (some ⟨gw, 0, none⟩) d.waits.length (d.waits.length + 1)) d.waits.length (cur.toList.take (d.waits.length * 2)) rfl ?hown ⟨z1.heap.size, 0, none⟩ 1 1 [.int .i64 p, .slice ua l.length uc] rfl rfl ?hcells ?hone (by unfold maxLen; omega) (by omega) ?hbase ?hK
  case hown =>
    refine HW.out _ ?_
    exact (((Below.refl z1.heap.size z1).alloc (Nat.le_refl _) (.cells #[.int .i64 p, .slice ua l.length uc] 92)).block gw (Nat.lt_of_lt_of_le HZ.out.2.2.2.2.2.2.2 HM.out.below.size)).trans ((HM.out.below.block gw HZ.out.2.2.2.2.2.2.2).trans HZ.out.2.2.1)
  case hcells =>
    intro j u hj
    have hn := World.alloc_heap_new z1 (.cells #[.int .i64 p, .slice ua l.length uc] 92)
    rcases j with _ | _ | j
    · cases hj; exact blk_cell hn 0
    · cases hj; exact blk_cell hn 1
    · simp at hj
  case hone =>
    intro u hu
    simp at hu
    rcases hu with rfl | rfl <;> rfl
  case hbase =>
    have := HM.out.below.size
    have := HZ.out.2.2.2.2.1.size
    simp only [World.size_alloc]
    exact Nat.le_succ_of_le (Nat.le_trans this HM.out.below.size)
  rintro v' z2 hown hg -
  obtain ⟨hl2, hrow⟩ := hown
  rcases hrow with ⟨-, h0⟩ | ⟨g', cap, cur', rfl, hg', hh', hk1, hk2, hk3, hk4⟩
  · omega
  have hne9 : g' ≠ g9 := by
    rintro rfl
    have := (hg.block g' (by have := (Array.getElem?_eq_some_iff.1 ((hPr _).1 hst)).1; exact this) (by simp [Value.ownBlock]; exact HZ.out.2.2.2.1.1)).trans ((hPr _).1 hst)
    rw [hh'] at this
    simp at this
  have hst2 := (hg.block g9 (by have := (Array.getElem?_eq_some_iff.1 ((hPr _).1 hst)).1; exact this) (by simp [Value.ownBlock]; exact HZ.out.2.2.2.1.1)).trans ((hPr _).1 hst)
  have hst : Pr z2 := (hPr _).2 hst2
  have c91 := blk_cell hst2 1
  have f91 := blk_frozen hst2 1
  simp at c91
  have HG := Lib.hid (And.intro hg (And.intro hl2 (And.intro hg' (And.intro hh' (And.intro hk1 (And.intro hk2 (And.intro hk3 (And.intro hk4 (And.intro hne9 hst2)))))))))
  clear hg hl2 hg' hh' hk1 hk2 hk3 hk4 hne9 hst2
  have hCl : Kl Pr z0.drew _ := Kl.of hst
  refine hK.out (.inr hCl) ?_
  clear hK K'
  refine wpAnyL_seg (fuel := 1) (by kernel_rfl) (fun _ d _ _ _ h => by cases d <;> exact h) hCl [8] _ _ _ (by kernel_rfl) (by kernel_rfl) (by kernel_rfl) (by kernel_rfl) ?_
  simp only [opsOf_cons, opsOf_nil, consOp_some, List.getElem?_toArray, List.getElem?_cons_succ, List.getElem?_cons_zero]
  repeat (first | go_big_quiet_step (fail) | quiet_step (fail))
  refine wpQuiet_nil ?_
  refine wpAnyL_each (fuel := 0) [9] (by kernel_rfl) (by simp) (by kernel_rfl) ?_
  refine EachL.cons _ rfl (fun K' hK => ?_) EachL.nil
  go_simp
  refine hK.out (.inl rfl) ?_
  clear hK K'
  refine wpAnyL_done (by kernel_rfl) ?_ _
  obtain ⟨hg, hl2, hg', hh', hk1, hk2, hk3, hk4, hne9, hst2⟩ := HG.out
  have hm := HM.out
  have hBa := (Below.refl z1.heap.size z1).alloc (Nat.le_refl _) (.cells #[.int .i64 p, .slice ua l.length uc] 92)
  have hch1 : ∀ k, k < z1.heap.size → k ≠ gw → z2.heap[k]? = z1.heap[k]? := fun k h1 h2 =>
    (hg.block k (Nat.lt_of_lt_of_le h1 hBa.size) (by simp [Value.ownBlock]; exact h2)).trans (hBa.block k h1)
  have hch0 : ∀ k, k < z0.heap.size → k ≠ gw → z2.heap[k]? = z0.heap[k]? := fun k h1 h2 =>
    (hch1 k (Nat.lt_of_lt_of_le h1 hm.below.size) h2).trans (hm.below.block k h1)
  have hp1 := (hch0 (w.heap.size + 1) (Array.getElem?_eq_some_iff.1 HZ.out.2.1).1 (by have := HZ.out.2.2.2.1; omega)).trans HZ.out.2.1
  have hsz2 : z1.heap.size < z2.heap.size := Nat.lt_of_lt_of_le (by simp) hg.size
  have c90 := blk_cell hst2 0
  have r0 := blk_cell hp1 0
  have r1 := blk_cell hp1 1
  have f0 := blk_frozen hp1 0
  have f1 := blk_frozen hp1 1
  have hne19 : w.heap.size + 1 ≠ g9 := by have := HZ.out.2.2.2.1; omega
  simp at c90 r0 r1
  have HH := Lib.hid (And.intro hch1 (And.intro hch0 (And.intro hsz2 hp1)))
  clear hg hl2 hg' hh' hk1 hk2 hk3 hk4 hne9 hst2 hm hBa hch1 hch0 hp1 hsz2 c9
  go_wp2
  refine bodyPost_ret (v := .tuple #[.agg #[.slice (some ⟨gb, 0, none⟩) d.blocks.length d.blocks.length, .slice (some ⟨g', 0, none⟩) (d.waits.length + 1) cap], .int .i64 0]) (by simp [results, Try.results39, go_sem, r0, r1]) rfl ?_
  obtain ⟨hg, hl2, hg', hh', hk1, hk2, hk3, hk4, hne9, hst2⟩ := HG.out
  obtain ⟨hch1, hch0, hsz2, hp1⟩ := HH.out
  obtain ⟨h9, hp0', hcw, hnn, hBz, hlt⟩ := HZ.out
  have hm := HM.out
  have hs : ∀ k, k ≠ g9 → k ≠ w.heap.size + 1 → (((z2.setCell ⟨g9, 1, none⟩ (.slice (some ⟨g', 0, none⟩) (d.waits.length + 1) cap)).setCell ⟨w.heap.size + 1, 0, none⟩ (.slice (some ⟨gb, 0, none⟩) d.blocks.length d.blocks.length)).setCell ⟨w.heap.size + 1, 1, none⟩ (.slice (some ⟨g', 0, none⟩) (d.waits.length + 1) cap)).heap[k]? = z2.heap[k]? :=
    fun k h1 h2 => (set_other _ _ _ _ k h2).trans ((set_other _ _ _ _ k h2).trans (set_other _ _ _ _ k h1))
  have hz : (((z2.setCell ⟨g9, 1, none⟩ (.slice (some ⟨g', 0, none⟩) (d.waits.length + 1) cap)).setCell ⟨w.heap.size + 1, 0, none⟩ (.slice (some ⟨gb, 0, none⟩) d.blocks.length d.blocks.length)).setCell ⟨w.heap.size + 1, 1, none⟩ (.slice (some ⟨g', 0, none⟩) (d.waits.length + 1) cap)).heap.size = z2.heap.size := by rw [World.size_setCell, World.size_setCell, World.size_setCell]
  have hB1 : Below w.heap.size w z1 := below_step hBz.drew hBz.size hm.below
  have hB2 : Below w.heap.size w z2 := (hB1.alloc hB1.size _).grown hg (Nat.le_trans hB1.size (by simp)) (fun k e => by simp [Value.ownBlock] at e; omega)
  have hBf := ((hB2.setCell (p := ⟨g9, 1, none⟩) (by show w.heap.size ≤ g9; omega) (.slice (some ⟨g', 0, none⟩) (d.waits.length + 1) cap)).setCell (p := ⟨w.heap.size + 1, 0, none⟩) (Nat.le_succ _) (.slice (some ⟨gb, 0, none⟩) d.blocks.length d.blocks.length)).setCell (p := ⟨w.heap.size + 1, 1, none⟩) (Nat.le_succ _) (.slice (some ⟨g', 0, none⟩) (d.waits.length + 1) cap)
  have hl9 : g9 < z0.heap.size := (Array.getElem?_eq_some_iff.1 h9).1
  have hle01 : z0.heap.size ≤ z1.heap.size := hm.below.size
  have hg1 : g' ≠ w.heap.size + 1 := by
    rintro rfl
    rw [hh'] at hp1
    simp at hp1
  have htz := HTW.out
  have hzz := HZB.out
  have h0z : ∀ k, k < z.heap.size → z0.heap[k]? = z.heap[k]? := fun k hk => hzz.block k (by
    rw [← HG9.out]
    exact hk)
  generalize (((z2.setCell ⟨g9, 1, none⟩ (.slice (some ⟨g', 0, none⟩) (d.waits.length + 1) cap)).setCell ⟨w.heap.size + 1, 0, none⟩ (.slice (some ⟨gb, 0, none⟩) d.blocks.length d.blocks.length)).setCell ⟨w.heap.size + 1, 1, none⟩ (.slice (some ⟨g', 0, none⟩) (d.waits.length + 1) cap)) = zf at *
  have hkp : Kp z0.heap.size z1.heap.size z1 zf := fun k o h1 h2 =>
    have e := (hs k (by omega) (by omega)).trans (hch1 k h2 (by omega))
    ⟨heap_cell e o, heap_frozen e o⟩
  have hbytes : Bytes z1 z0.heap.size z1.heap.size (.slice ua l.length uc) l := hm.bytes
  obtain ⟨r1, r2, r3, r4, r5, r6, r7, r8, r9⟩ := htz
  have hBs := HQ1.out.2.1.size
  refine ⟨_, _, rfl, TwinAt.grown (w := z) (B := w.heap.size) ⟨r1, r2, r3, r4, r5, r6, ⟨by omega, by omega, by omega⟩, r8, r9⟩ HL.out.2.2 (by have := HL.out.2.1; omega) (by omega) ?_ ?_ ?_ g' cap cur' hg' ((hs g' hne9 hg1).trans hh') hk1 hk2 p ?_ _ l hk4 ?_ ?_, hBf⟩
  · rw [hz]; have := hzz.size; omega
  · exact (hs g (by omega) (by omega)).trans ((hch0 g hlt.1 r9.2.1).trans (h0z g r8.1))
  · exact (hs gb (by omega) (by omega)).trans ((hch0 gb hlt.2.1 r9.2.2).trans (h0z gb r8.2.1))
  · have := HM'.out.2
    exact WalkArith.wf_i64 (by omega)
  · exact (hbytes.kept hkp).more hBz.size (by omega)
  · exact thawed_kept hbytes hm.thawed hkp
end Go.Proofs.Ytkfgegdnpinbdaa

namespace Go.Proofs.Ytkfgegdnpinbdaa
open Go.RowKit

def capB (x : List UInt8) : Nat := min x.length 1000000
def smB (D : List (List UInt8)) (k : Nat) : Nat := ((D.take k).map capB).sum
theorem smB_succ (D : List (List UInt8)) (k : Nat) (h : k < D.length) : smB D (k + 1) = smB D k + capB (D.getD k []) := by
  unfold smB
  rw [List.take_add_one, List.map_append, List.sum_append]
  simp [h]
theorem capB_le (x : List UInt8) : capB x ≤ 1000000 := Nat.min_le_right _ _
theorem smB_le' (D : List (List UInt8)) (c : Nat) (hc : ∀ x, capB x ≤ c) (k : Nat) : smB D k ≤ k * c := by
  induction k with
  | zero => simp [smB]
  | succ k ih =>
    rw [Nat.succ_mul]
    rcases Nat.lt_or_ge k D.length with h | h
    · rw [smB_succ D k h]
      have := hc (D.getD k [])
      omega
    · have e : smB D (k + 1) = smB D k := by
        unfold smB
        rw [List.take_of_length_le (by omega), List.take_of_length_le (by omega)]
      omega
theorem smB_le (D : List (List UInt8)) (k : Nat) : smB D k ≤ k * 1000000 := smB_le' D _ capB_le k
set_option maxRecDepth 100000 in
theorem sm_flat (D : List (List UInt8)) (h : (D.map capB).sum ≤ 800000) : D.flatten.length ≤ 800000 := by
  suffices hs : D.flatten.length = (D.map capB).sum by omega
  induction D with
  | nil => rfl
  | cons a l ih =>
    rw [List.map_cons, List.sum_cons] at h ⊢
    rw [List.flatten_cons, List.length_append, ih (by omega)]
    have : capB a = a.length := by
      unfold capB at *
      omega
    omega

set_option maxRecDepth 100000 in
set_option maxHeartbeats 1000000 in
theorem great_any (b u : Value) (d : DiskL) (w : World) (h : DiskV w 0 w.heap.size b u d) :
    Calls Try.prog 33 #[.agg #[b, u]] w fun e w' => ∃ g, e = .returned (.bool g) ∧ Below w.heap.size w w' ∧ (g = false → d.blocks.length ≤ 300 ∧ d.waits.length ≤ 5000 ∧ (datD d).flatten.length ≤ 800000) := by
  have hB := (Below.refl w.heap.size w).alloc (Nat.le_refl _) (.cells #[b, u] 25)
  have hD := h.step hB
  have hq := World.alloc_heap_new w (.cells #[b, u] 25)
  obtain ⟨ab, cb, rfl, g1, g2, -, -⟩ := h.1
  obtain ⟨au, cu, rfl, g1', g2', -, -⟩ := h.2
  unfold maxLen at g2 g2'
  clear h
  obtain ⟨W, hW⟩ : ∃ W, w.alloc (.cells #[.slice ab d.blocks.length cb, .slice au d.waits.length cu] 25) = W := ⟨_, rfl⟩
  rw [hW] at hB hD hq
  have c0 := blk_cell hq 0
  have c1 := blk_cell hq 1
  simp at c0 c1
  have HQ := Lib.hid (And.intro hD (And.intro hB hq))
  clear hD hB hq
  go_enter Try.func33, Try.ntmps33
  by_cases h1 : 300 < d.blocks.length
  · have i1 : (300 : Int) < d.blocks.length := by omega
    go_wp2
    go_ret
    exact ⟨true, rfl, HQ.out.2.1, fun h => by cases h⟩
  have d1 : decide ((300 : Int) < d.blocks.length) = false := by simp; omega
  by_cases h2 : 5000 < d.waits.length
  · have i2 : (5000 : Int) < d.waits.length := by omega
    go_wp2
    go_ret
    exact ⟨true, rfl, HQ.out.2.1, fun h => by cases h⟩
  have d2 : decide ((5000 : Int) < d.waits.length) = false := by simp; omega
  by_cases h3 : 600 < d.waits.length ∧ d.waits.length < 4096
  · have i3 : (600 : Int) < d.waits.length := by omega
    have i4 : (d.waits.length : Int) < 4096 := by omega
    go_wp2
    go_ret
    exact ⟨true, rfl, HQ.out.2.1, fun h => by cases h⟩
  obtain ⟨D, hDD⟩ : ∃ D, datD d = D := ⟨_, rfl⟩
  have HL := Lib.hid (show D.length = d.blocks.length + d.waits.length by rw [← hDD, datD_length])
  have HDB := Lib.hid (show ∀ k, k < d.blocks.length → D.getD k [] = d.blocks.getD k [] from fun k hk => by rw [← hDD]; exact datD_b d k hk)
  have HDW := Lib.hid (show ∀ k, k < d.waits.length → D.getD (d.blocks.length + k) [] = (d.waits.getD k ⟨0, []⟩).data from fun k hk => by rw [← hDD]; exact datD_w d k hk)
  have HDD := Lib.hid hDD
  clear hDD
  have h1' : d.blocks.length ≤ 300 := by omega
  have h2' : d.waits.length ≤ 5000 := by omega
  have hsplit : (decide ((600 : Int) < d.waits.length) = false) ∨ ((600 : Int) < d.waits.length ∧ decide ((d.waits.length : Int) < 4096) = false) := by
    by_cases h : 600 < d.waits.length
    · exact .inr ⟨by omega, by simp; omega⟩
    · exact .inl (by simp; omega)
  clear h3
  go_upto_region 1 with (fail)
  go_cut [27] (fun s wx => s = .bool false ∧ wx = W)
  case first =>
    rcases hsplit with d3 | ⟨i3, d4⟩
    · go_wp2
      go_meet
      exact ⟨rfl, rfl⟩
    · go_wp2
      go_meet
      exact ⟨rfl, rfl⟩
  case rest =>
  obtain ⟨rfl, rfl⟩ := hcut
  clear hsplit d1 d2
  have HS := Lib.hid (show ∀ k, k ≤ 6000 → smB D k ≤ 6000000000 from fun k hk => Nat.le_trans (smB_le D k) (by omega))
  clear h1 h2
  go_wp2_with fail
  go_loopw [3, 4] (fun v i wr => ∃ k : Nat, k ≤ d.blocks.length ∧ i = .int .i64 k ∧ v = .int .i64 (smB D k) ∧ wr = wc) (fun _ i _ => d.blocks.length - (intOf i).toNat)
  case atStart => exact ⟨0, Nat.zero_le _, rfl, rfl, rfl⟩
  case round =>
  obtain ⟨k, hk, rfl, rfl, rfl⟩ := hrel
  by_cases hlt : k < d.blocks.length
  · obtain ⟨bb, bo, cb', e', -, z1, z2, z3, hbe⟩ := HQ.out.1.1.at_ (by omega)
    injection e' with ea _ ec
    subst ea ec
    obtain ⟨v, hv, hvb⟩ := hbe k (d.blocks.getD k []) (get_l _ _ _ hlt)
    obtain ⟨av, cv, rfl, -, hcv⟩ := hvb.form rfl
    unfold maxLen at hcv z3
    have hv' : wr.cell? ⟨bb, bo + k, none⟩ = some (.slice av (d.blocks.getD k []).length cv) := by simpa [rBytes] using hv
    have hps : smB D (k + 1) = smB D k + capB (d.blocks.getD k []) := by rw [smB_succ D k (by have := HL.out; omega), HDB.out k hlt]
    have hpt := HS.out k (by omega)
    have hcl := capB_le (d.blocks.getD k [])
    have hmin : min ((d.blocks.getD k []).length : Int) 1000000 = (capB (d.blocks.getD k []) : Int) := by unfold capB; omega
    have HPS := Lib.hid hps
    clear hps hv hvb hbe
    generalize capB (d.blocks.getD k []) = cy at *
    generalize (d.blocks.getD k []).length = y at *
    generalize smB D k = pk at *
    go_wp2
    go_roundw
    case rel => exact ⟨k + 1, by omega, by go_num, by rw [HPS.out]; go_num, trivial⟩
    case measure => simp [intOf]; omega
  obtain rfl : k = d.blocks.length := by omega
  clear hk hlt
  obtain ⟨V, hV⟩ : ∃ V, V = wr := ⟨_, rfl⟩
  subst hV
  go_wp2_with fail
  go_loopw [3, 5] (fun v i wr => ∃ k : Nat, k ≤ d.waits.length ∧ i = .int .i64 k ∧ v = .int .i64 (smB D (d.blocks.length + k)) ∧ wr = V) (fun _ i _ => d.waits.length - (intOf i).toNat)
  case atStart => exact ⟨0, Nat.zero_le _, rfl, rfl, rfl⟩
  case round =>
  obtain ⟨k, hk, rfl, rfl, rfl⟩ := hrel
  by_cases hlt : k < d.waits.length
  · obtain ⟨bb, bo, cb', e', -, z1, z2, z3, hbe⟩ := HQ.out.1.2.at_ (by omega)
    injection e' with ea _ ec
    subst ea ec
    obtain ⟨f0, f1, v, f2, f3⟩ := hbe k (d.waits.getD k ⟨0, []⟩) (get_l _ _ _ hlt)
    obtain ⟨av, cv, rfl, -, hcv⟩ := f3.form rfl
    unfold maxLen at hcv z3
    have hps : smB D (d.blocks.length + (k + 1)) = smB D (d.blocks.length + k) + capB (d.waits.getD k ⟨0, []⟩).data := by
      rw [← Nat.add_assoc, smB_succ D (d.blocks.length + k) (by have := HL.out; omega), HDW.out k hlt]
    have hpt := HS.out (d.blocks.length + k) (by omega)
    have hcl := capB_le (d.waits.getD k ⟨0, []⟩).data
    have hmin : min ((d.waits.getD k ⟨0, []⟩).data.length : Int) 1000000 = (capB (d.waits.getD k ⟨0, []⟩).data : Int) := by unfold capB; omega
    obtain ⟨y, hy⟩ : ∃ y, d.waits.getD k ⟨0, []⟩ = y := ⟨_, rfl⟩
    rw [hy] at f2 hps hcl hmin
    clear hy f0 f1 f3 hbe
    have HPS := Lib.hid hps
    clear hps
    obtain ⟨at_, dt⟩ := y
    simp [rWrite] at f2
    simp only at hcl hmin HPS
    generalize capB dt = cy at *
    generalize smB D (d.blocks.length + k) = pk at *
    go_wp2
    go_roundw
    case rel => exact ⟨k + 1, by omega, by go_num, by rw [HPS.out]; go_num, trivial⟩
    case measure => simp [intOf]; omega
  obtain rfl : k = d.waits.length := by omega
  have hsum : smB D (d.blocks.length + d.waits.length) = (D.map capB).sum := by
    rw [← HL.out]
    unfold smB
    rw [List.take_length]
  have hpt := HS.out (d.blocks.length + d.waits.length) (by omega)
  rw [hsum] at hpt ⊢
  have HSM := Lib.hid (sm_flat D)
  clear hsum
  generalize (D.map capB).sum = sm at *
  by_cases h5 : 800000 < sm
  · have i5 : (800000 : Int) < sm := by omega
    go_wp2
    go_ret
    exact ⟨true, rfl, HQ.out.2.1, fun h => by cases h⟩
  · have d5 : decide ((800000 : Int) < sm) = false := by simp; omega
    have hle : sm ≤ 800000 := by omega
    have HLE := Lib.hid hle
    clear hle h5
    go_wp2
    go_ret
    exact ⟨_, rfl, HQ.out.2.1, fun _ => ⟨h1', h2', by rw [HDD.out]; exact HSM.out HLE.out⟩⟩
end Go.Proofs.Ytkfgegdnpinbdaa

namespace Go.Proofs.Ytkfgegdnpinbdaa
open Go.RowKit

theorem errA_may {d : DiskL} (p : Int) (h : mayD d = true) : errA d p = if p < 0 ∨ 256 ≤ p then 2 else 0 := by
  unfold errA
  rw [if_pos h]
end Go.Proofs.Ytkfgegdnpinbdaa

namespace Go.Proofs.Ytkfgegdnpinbdaa
open Go.RowKit

theorem kp_two {lo hi r : Nat} (z : World) (a b : Value) (i : Nat) (h : r < lo) : Kp lo hi z ((z.setCell ⟨r, 0, none⟩ a).setCell ⟨r, i, none⟩ b) := fun k o h1 _ =>
  have e := (set_other _ r i b k (by omega)).trans (set_other z r 0 a k (by omega))
  ⟨heap_cell e o, heap_frozen e o⟩
theorem DiskT.keep {w w' : World} {lo hi : Nat} {b u : Value} {d : DiskL} (h : DiskT w lo hi b u d) (hk : Kp lo hi w w') : DiskT w' lo hi b u d := ⟨Sl.keep h.1 hk, Sl.keep h.2 hk⟩

end Go.Proofs.Ytkfgegdnpinbdaa

namespace Go.Proofs.Ytkfgegdnpinbdaa
open Go.RowKit

/-- A row of the call's own that holds writes. -/
def OwnW (base : Nat) (W w : World) (v : Value) (l : List WrL) : Prop := ∃ xs, w.ownsRow base 92 2 v l.length xs ∧ ∀ j x, l[j]? = some x → (xs[j * 2]? = some (.int .i64 x.at_) ∧ (Lit.int .i64 x.at_).wf = true) ∧ ∃ y, xs[j * 2 + 1]? = some y ∧ Bytes W 0 W.heap.size y x.data
theorem OwnW.nil_ (base : Nat) (W w : World) : OwnW base W w (.slice none 0 0) [] := ⟨[], World.ownsRow_nil _ _ _ _, fun j x h => by simp at h⟩
theorem OwnW.sl {base : Nat} {W w : World} {v : Value} {l : List WrL} (h : OwnW base W w v l) (hB : Below W.heap.size W w) : Sl rWrite w 0 w.heap.size v l := by
  obtain ⟨xs, ⟨hl, hrow⟩, hx⟩ := h
  rcases hrow with ⟨rfl, h0⟩ | ⟨g, cap, cur, rfl, hg, hh, h1, h2, h3, h4⟩
  · have : l = [] := List.eq_nil_of_length_eq_zero (by omega)
    subst this
    exact Sl.nil_ _ _ _
  · refine ⟨_, _, rfl, h1, h2, fun _ => ⟨g, 0, rfl, Nat.zero_le _, (Array.getElem?_eq_some_iff.1 hh).1, fun i x hxi => ?_⟩, fun h => by cases h⟩
    have hi : i < l.length := (List.getElem?_eq_some_iff.1 hxi).1
    obtain ⟨⟨e1, e2⟩, y, e3, e4⟩ := hx i x hxi
    have hc : ∀ j u, xs[j]? = some u → w.cell? ⟨g, j, none⟩ = some u := by
      intro j u hj
      rw [blk_cell hh, ← hj, ← h4, List.getElem?_take, if_pos]
      · simp
      · have := (List.getElem?_eq_some_iff.1 hj).1
        rw [hl] at this
        exact this
    refine ⟨?_, e2, y, ?_, (e4.below hB (Nat.le_refl _)).more (Nat.le_refl _) hB.size⟩
    · show w.cell? ⟨g, 0 + i * 2 + 0, none⟩ = _
      rw [Nat.zero_add, Nat.add_zero]
      exact hc _ _ e1
    · show w.cell? ⟨g, 0 + i * 2 + 1, none⟩ = _
      rw [Nat.zero_add]
      exact hc _ _ e3

theorem own_block {base : Nat} {e : TypeId} {size n : Nat} {v : Value} {xs : List Value} {w : World} (h : w.ownsRow base e size v n xs) : ∀ g, v.ownBlock = some g → base ≤ g := by
  intro g e
  rcases h.2 with ⟨rfl, h0⟩ | ⟨g, cap, cur, rfl, hgg, hh, h1, h2, h3, h4⟩
  · cases e
  · cases e; exact hgg
end Go.Proofs.Ytkfgegdnpinbdaa

namespace Go.Proofs.Ytkfgegdnpinbdaa
open Go.RowKit

theorem ext_getD {α : Type} (l m : List α) (d : α) (hl : l.length = m.length) (h : ∀ j, j < l.length → l.getD j d = m.getD j d) : l = m := by
  apply List.ext_getElem? 
  intro j
  rcases Nat.lt_or_ge j l.length with hj | hj
  · rw [get_l l d j hj, get_l m d j (by omega), h j hj]
  · rw [List.getElem?_eq_none hj, List.getElem?_eq_none (by omega)]

set_option maxRecDepth 100000 in
set_option maxHeartbeats 1000000 in
/-- slices.EqualFunc at slices of slices, by bytes.Equal. -/
theorem eqb_any (v u : Value) (l m : List (List UInt8)) (w : World) (hv : Sl rBytes w 0 w.heap.size v l) (hu : Sl rBytes w 0 w.heap.size u m) :
    Calls Try.prog 88 #[v, u, .func (.func 54) #[] #[]] w fun e w' => e = .returned (.bool (decide (l = m))) ∧ w' = w := by
  have HV := Lib.hid hv
  have HU := Lib.hid hu
  obtain ⟨av, cv, rfl, g1, g2, -, -⟩ := hv
  obtain ⟨au, cu, rfl, g1', g2', -, -⟩ := hu
  unfold maxLen at g2 g2'
  obtain ⟨r, hr⟩ : ∃ r, decide (l = m) = r := ⟨_, rfl⟩
  rw [hr]
  have HR := Lib.hid hr
  clear hr
  go_enter Try.func88, Try.ntmps88
  by_cases hl : l.length = m.length
  case neg =>
    obtain rfl : r = false := by
      rw [← HR.out]
      exact decide_eq_false (fun e => hl (by rw [e]))
    have i1 : ¬ (l.length : Int) = m.length := by omega
    go_wp2
    go_ret
    exact ⟨rfl, rfl⟩
  have i1 : ((l.length : Int) != m.length) = false := by simp; omega
  have HL := Lib.hid hl
  have hlm : l.length ≤ m.length := by omega
  clear hl
  go_wp2_with fail
  go_loopw [17] (fun i wr => ∃ k : Nat, k ≤ l.length ∧ i = .int .i64 k ∧ wr = w ∧ ∀ j, j < k → l.getD j [] = m.getD j []) (fun i _ => l.length - (intOf i).toNat)
  case atStart => exact ⟨0, Nat.zero_le _, rfl, rfl, fun j hj => absurd hj (Nat.not_lt_zero _)⟩
  case round =>
  obtain ⟨k, hk, rfl, rfl, hall⟩ := hrel
  by_cases hlt : k < l.length
  · obtain ⟨b1, o1, c1, e1, -, -, -, z3, hb1⟩ := HV.out.at_ (by omega)
    injection e1 with ea _ ec
    subst ea ec
    obtain ⟨b2, o2, c2, e2, -, -, -, z3', hb2⟩ := HU.out.at_ (by omega)
    injection e2 with ea _ ec
    subst ea ec
    obtain ⟨x, hx, hxb⟩ := hb1 k (l.getD k []) (get_l _ _ _ hlt)
    obtain ⟨y, hy, hyb⟩ := hb2 k (m.getD k []) (get_l _ _ _ (by omega))
    have hx' : wr.cell? ⟨b1, o1 + k, none⟩ = some x := by simpa [rBytes] using hx
    have hy' : wr.cell? ⟨b2, o2 + k, none⟩ = some y := by simpa [rBytes] using hy
    have heq := bequal_any x y _ _ wr _ _ _ _ hxb hyb
    have hkm : k < m.length := by omega
    unfold maxLen at z3 z3'
    have HP := Lib.hid (And.intro heq hall)
    clear heq hall hx hy hxb hyb hb1 hb2
    go_wp2_with fail
    refine HP.out.1.mono ?_
    rintro e w1 ⟨rfl, rfl⟩
    by_cases he : l.getD k [] = m.getD k []
    · rw [decide_eq_true he]
      have HE := Lib.hid he
      clear he
      go_wp2
      go_roundw
      case rel => exact ⟨k + 1, by omega, by go_num, trivial, fun j hj => by
        rcases Nat.lt_succ_iff_lt_or_eq.1 hj with hj | rfl
        · exact HP.out.2 j hj
        · exact HE.out⟩
      case measure => simp [intOf]; omega
    · rw [decide_eq_false he]
      obtain rfl : r = false := by
        rw [← HR.out]
        exact decide_eq_false (fun e => he (by rw [e]))
      clear he
      go_wp2
      go_ret
      exact ⟨rfl, rfl⟩
  obtain rfl : k = l.length := by omega
  obtain rfl : r = true := by
    rw [← HR.out]
    exact decide_eq_true (ext_getD l m [] HL.out hall)
  clear hall
  go_wp2
  go_ret
  exact ⟨rfl, rfl⟩

set_option maxRecDepth 100000 in
set_option maxHeartbeats 1000000 in
/-- The comparing of two writes. -/
theorem eqw1_any (p q : Int) (v u : Value) (l m : List UInt8) (w : World) (hv : Bytes w 0 w.heap.size v l) (hu : Bytes w 0 w.heap.size u m) :
    Calls Try.prog 90 #[.agg #[.int .i64 p, v], .agg #[.int .i64 q, u]] w fun e w' => e = .returned (.bool (decide ((⟨p, l⟩ : WrL) = ⟨q, m⟩))) ∧ Below w.heap.size w w' := by
  have hB := ((Below.refl w.heap.size w).alloc (Nat.le_refl _) (.cells #[.int .i64 p, v] 92)).alloc (by simp) (.cells #[.int .i64 q, u] 92)
  have hq := two_new w (.cells #[.int .i64 p, v] 92) (.cells #[.int .i64 q, u] 92)
  have hv0 := hv.step hB
  have hu0 := hu.step hB
  obtain ⟨av, cv, rfl, -, -⟩ := hv.form rfl
  obtain ⟨au, cu, rfl, -, -⟩ := hu.form rfl
  clear hv hu
  obtain ⟨W, hW⟩ : ∃ W, (w.alloc (.cells #[.int .i64 p, .slice av l.length cv] 92)).alloc (.cells #[.int .i64 q, .slice au m.length cu] 92) = W := ⟨_, rfl⟩
  rw [hW] at hB hq hv0 hu0
  have c0 := blk_cell hq.1 0
  have c1 := blk_cell hq.1 1
  have d0 := blk_cell hq.2 0
  have d1 := blk_cell hq.2 1
  simp at c0 c1 d0 d1
  obtain ⟨r, hr⟩ : ∃ r, decide ((⟨p, l⟩ : WrL) = ⟨q, m⟩) = r := ⟨_, rfl⟩
  rw [hr]
  have HR := Lib.hid hr
  have HP := Lib.hid (And.intro (bequal_any _ _ _ _ W _ _ _ _ hv0 hu0) hB)
  clear hr hq hv0 hu0 hB
  go_enter Try.func90, Try.ntmps90
  by_cases hpq : p = q
  case neg =>
    obtain rfl : r = false := by
      rw [← HR.out]
      exact decide_eq_false (fun e => hpq (congrArg WrL.at_ e))
    have i1 : (p == q) = false := by simp [hpq]
    clear hpq
    go_wp2
    go_ret
    exact ⟨rfl, HP.out.2⟩
  subst hpq
  have hr2 : r = decide (l = m) := by
    rw [← HR.out]
    by_cases e : l = m
    · subst e; rw [decide_eq_true rfl, decide_eq_true rfl]
    · rw [decide_eq_false e]
      exact decide_eq_false (fun h => e (congrArg WrL.data h))
  have HR2 := Lib.hid hr2
  clear hr2
  go_wp2_with fail
  refine HP.out.1.mono ?_
  rintro e w1 ⟨rfl, rfl⟩
  rw [← HR2.out]
  go_wp2
  go_ret
  exact ⟨rfl, HP.out.2⟩

set_option maxRecDepth 100000 in
set_option maxHeartbeats 1000000 in
/-- slices.EqualFunc at writes. -/
theorem eqw_any (v u : Value) (l m : List WrL) (w : World) (hv : Sl rWrite w 0 w.heap.size v l) (hu : Sl rWrite w 0 w.heap.size u m) :
    Calls Try.prog 89 #[v, u, .func (.func 90) #[] #[]] w fun e w' => e = .returned (.bool (decide (l = m))) ∧ Below w.heap.size w w' := by
  have HV := Lib.hid hv
  have HU := Lib.hid hu
  obtain ⟨av, cv, rfl, g1, g2, -, -⟩ := hv
  obtain ⟨au, cu, rfl, g1', g2', -, -⟩ := hu
  unfold maxLen at g2 g2'
  obtain ⟨r, hr⟩ : ∃ r, decide (l = m) = r := ⟨_, rfl⟩
  rw [hr]
  have HR := Lib.hid hr
  clear hr
  go_enter Try.func89, Try.ntmps89
  by_cases hl : l.length = m.length
  case neg =>
    obtain rfl : r = false := by
      rw [← HR.out]
      exact decide_eq_false (fun e => hl (by rw [e]))
    have i1 : ¬ (l.length : Int) = m.length := by omega
    go_wp2
    go_ret
    exact ⟨rfl, Below.refl _ _⟩
  have i1 : ((l.length : Int) != m.length) = false := by simp; omega
  have HL := Lib.hid hl
  have hlm : l.length ≤ m.length := by omega
  clear hl
  go_wp2_with fail
  go_loopw [17] (fun i wr => ∃ k : Nat, k ≤ l.length ∧ i = .int .i64 k ∧ Below w.heap.size w wr ∧ ∀ j, j < k → l.getD j ⟨0, []⟩ = m.getD j ⟨0, []⟩) (fun i _ => l.length - (intOf i).toNat)
  case atStart => exact ⟨0, Nat.zero_le _, rfl, Below.refl _ _, fun j hj => absurd hj (Nat.not_lt_zero _)⟩
  case round =>
  obtain ⟨k, hk, rfl, hB, hall⟩ := hrel
  by_cases hlt : k < l.length
  · obtain ⟨b1, o1, c1, e1, -, hz1, -, z3, hb1⟩ := HV.out.at_ (by omega)
    injection e1 with ea _ ec
    subst ea ec
    obtain ⟨b2, o2, c2, e2, -, hz2, -, z3', hb2⟩ := HU.out.at_ (by omega)
    injection e2 with ea _ ec
    subst ea ec
    obtain ⟨f0, -, x, f1, hxb⟩ := hb1 k (l.getD k ⟨0, []⟩) (get_l _ _ _ hlt)
    obtain ⟨h0, -, y, h1, hyb⟩ := hb2 k (m.getD k ⟨0, []⟩) (get_l _ _ _ (by omega))
    obtain ⟨X, hX⟩ : ∃ X, l.getD k ⟨0, []⟩ = X := ⟨_, rfl⟩
    obtain ⟨Y, hY⟩ : ∃ Y, m.getD k ⟨0, []⟩ = Y := ⟨_, rfl⟩
    rw [hX] at f0 hxb
    rw [hY] at h0 hyb
    obtain ⟨p, dp⟩ := X
    obtain ⟨q, dq⟩ := Y
    simp [rWrite] at f0 f1 h0 h1
    obtain ⟨a1, k1, rfl, -, -⟩ := hxb.form rfl
    obtain ⟨a2, k2, rfl, -, -⟩ := hyb.form rfl
    have hz1b := Nat.lt_of_lt_of_le hz1 hB.size
    have hz2b := Nat.lt_of_lt_of_le hz2 hB.size
    replace f0 := (hB.cell (p := ⟨b1, o1 + k * 2, none⟩) hz1).trans f0
    replace f1 := (hB.cell (p := ⟨b1, o1 + k * 2 + 1, none⟩) hz1).trans f1
    replace h0 := (hB.cell (p := ⟨b2, o2 + k * 2, none⟩) hz2).trans h0
    replace h1 := (hB.cell (p := ⟨b2, o2 + k * 2 + 1, none⟩) hz2).trans h1
    have hkm : k < m.length := by omega
    unfold maxLen at z3 z3'
    simp only at hxb hyb
    have hxb' := hxb.below hB (Nat.le_refl _)
    have hyb' := hyb.below hB (Nat.le_refl _)
    have HP := Lib.hid (And.intro hall (And.intro hB (And.intro hxb' (And.intro hyb' (And.intro hX hY)))))
    clear hall hB hxb hyb hxb' hyb' hX hY hb1 hb2
    go_upto_region 7 with (fail)
    have hq := two_new wr (.cells #[.int .i64 p, .slice a1 dp.length k1] 92) (.cells #[.int .i64 q, .slice a2 dq.length k2] 92)
    have hst := ((Below.refl wr.heap.size wr).alloc (Nat.le_refl _) (.cells #[.int .i64 p, .slice a1 dp.length k1] 92)).alloc (by simp) (.cells #[.int .i64 q, .slice a2 dq.length k2] 92)
    obtain ⟨w2, hw2⟩ : ∃ w2, (wr.alloc (.cells #[.int .i64 p, .slice a1 dp.length k1] 92)).alloc (.cells #[.int .i64 q, .slice a2 dq.length k2] 92) = w2 := ⟨_, rfl⟩
    rw [hw2] at hq hst ⊢
    clear hw2
    have hB2 := Lib.hid (below_step HP.out.2.1 HP.out.2.1.size hst)
    have hX2 := Lib.hid (((HP.out.2.2.1.below hst HP.out.2.1.size)).more (Nat.le_refl 0) (hB2.out.size))
    have hY2 := Lib.hid (((HP.out.2.2.2.1.below hst HP.out.2.1.size)).more (Nat.le_refl 0) (hB2.out.size))
    clear hst
    generalize wr.heap.size = gx at *
    have x0 := blk_cell hq.1 0
    have x1 := blk_cell hq.1 1
    have x2 := blk_cell hq.2 0
    have x3 := blk_cell hq.2 1
    simp at x0 x1 x2 x3
    go_wp2_with fail
    refine (eqw1_any p q _ _ dp dq w2 hX2.out hY2.out).mono ?_
    rintro e w3 ⟨rfl, hst3⟩
    have hfin := below_step hB2.out hB2.out.size hst3
    clear hst3 x0 x1 x2 x3
    by_cases he : (⟨p, dp⟩ : WrL) = ⟨q, dq⟩
    · rw [decide_eq_true he]
      have HE := Lib.hid (show l.getD k ⟨0, []⟩ = m.getD k ⟨0, []⟩ by rw [HP.out.2.2.2.2.1, HP.out.2.2.2.2.2, he])
      clear he
      go_wp2
      go_roundw
      case rel => exact ⟨k + 1, by omega, by go_num, hfin, fun j hj => by
        rcases Nat.lt_succ_iff_lt_or_eq.1 hj with hj | rfl
        · exact HP.out.1 j hj
        · exact HE.out⟩
      case measure => simp [intOf]; omega
    · rw [decide_eq_false he]
      obtain rfl : r = false := by
        rw [← HR.out]
        exact decide_eq_false (fun e => he (by rw [← HP.out.2.2.2.2.1, ← HP.out.2.2.2.2.2, e]))
      clear he
      go_wp2
      go_ret
      exact ⟨rfl, hfin⟩
  obtain rfl : k = l.length := by omega
  obtain rfl : r = true := by
    rw [← HR.out]
    exact decide_eq_true (ext_getD l m ⟨0, []⟩ HL.out hall)
  clear hall
  go_wp2
  go_ret
  exact ⟨rfl, hB⟩

set_option maxRecDepth 100000 in
set_option maxHeartbeats 1000000 in
/-- dev.Same. -/
theorem dsame_any (b u b' u' : Value) (d d' : DiskL) (w : World) (h : DiskV w 0 w.heap.size b u d) (h' : DiskV w 0 w.heap.size b' u' d') :
    Calls Try.prog 53 #[.agg #[b, u], .agg #[b', u']] w fun e w' => e = .returned (.bool (decide (d = d'))) ∧ Below w.heap.size w w' := by
  have hB := ((Below.refl w.heap.size w).alloc (Nat.le_refl _) (.cells #[b, u] 25)).alloc (by simp) (.cells #[b', u'] 25)
  have hq := two_new w (.cells #[b, u] 25) (.cells #[b', u'] 25)
  have hD : DiskV _ 0 _ b u d := h.step hB
  have hD' : DiskV _ 0 _ b' u' d' := h'.step hB
  obtain ⟨ab, cb, rfl, -, -, -, -⟩ := h.1
  obtain ⟨au, cu, rfl, -, -, -, -⟩ := h.2
  obtain ⟨ab', cb', rfl, -, -, -, -⟩ := h'.1
  obtain ⟨au', cu', rfl, -, -, -, -⟩ := h'.2
  clear h h'
  obtain ⟨W, hW⟩ : ∃ W, (w.alloc (.cells #[.slice ab d.blocks.length cb, .slice au d.waits.length cu] 25)).alloc (.cells #[.slice ab' d'.blocks.length cb', .slice au' d'.waits.length cu'] 25) = W := ⟨_, rfl⟩
  rw [hW] at hB hq hD hD'
  have c0 := blk_cell hq.1 0
  have c1 := blk_cell hq.1 1
  have d0 := blk_cell hq.2 0
  have d1 := blk_cell hq.2 1
  simp at c0 c1 d0 d1
  obtain ⟨r, hr⟩ : ∃ r, decide (d = d') = r := ⟨_, rfl⟩
  rw [hr]
  have HR := Lib.hid (show r = (decide (d.blocks = d'.blocks) && decide (d.waits = d'.waits)) by
    rw [← hr]
    obtain ⟨x, y⟩ := d
    obtain ⟨x', y'⟩ := d'
    by_cases h1 : x = x' <;> by_cases h2 : y = y' <;> simp [h1, h2])
  have HP := Lib.hid (And.intro (eqb_any _ _ _ _ W hD.1 hD'.1) (And.intro (eqw_any _ _ _ _ W hD.2 hD'.2) hB))
  clear hr hq hD hD' hB
  go_enter Try.func53, Try.ntmps53
  go_wp2_with fail
  refine HP.out.1.mono ?_
  rintro e w1 ⟨rfl, rfl⟩
  by_cases he : d.blocks = d'.blocks
  case neg =>
    rw [decide_eq_false he]
    obtain rfl : r = false := by rw [HR.out, decide_eq_false he]; rfl
    clear he
    go_wp2
    go_ret
    exact ⟨rfl, HP.out.2.2⟩
  rw [decide_eq_true he]
  have HR2 := Lib.hid (show r = decide (d.waits = d'.waits) by rw [HR.out, decide_eq_true he]; rfl)
  clear he
  go_wp2_with fail
  refine HP.out.2.1.mono ?_
  rintro e w2 ⟨rfl, hst⟩
  rw [← HR2.out]
  have hfin := below_step HP.out.2.2 HP.out.2.2.size hst
  go_wp2
  go_ret
  exact ⟨rfl, hfin⟩
end Go.Proofs.Ytkfgegdnpinbdaa

namespace Go.Proofs.Ytkfgegdnpinbdaa
open Go.RowKit

/-- A disk, and where it lies. -/
structure DR (V : World) (lo hi : Nat) (b u : Value) (d : DiskL) : Prop where
  v : DiskV V lo hi b u d
  hi : hi ≤ V.heap.size
theorem DR.step {V V' : World} {lo hi : Nat} {b u : Value} {d : DiskL} (h : DR V lo hi b u d) (hst : Below V.heap.size V V') : DR V' lo hi b u d := ⟨⟨h.v.1.below hst h.hi, h.v.2.below hst h.hi⟩, Nat.le_trans h.hi hst.size⟩
theorem DR.v0 {V : World} {lo hi : Nat} {b u : Value} {d : DiskL} (h : DR V lo hi b u d) : DiskV V 0 V.heap.size b u d := h.v.more (Nat.zero_le _) h.hi
theorem DR.of {V V' : World} {b u : Value} {d : DiskL} (h : MadeD V V' b u d) : DR V' V.heap.size V'.heap.size b u d := ⟨h.disk.v, Nat.le_refl _⟩
structure BR (V : World) (lo hi : Nat) (v : Value) (l : List UInt8) : Prop where
  v : Bytes V lo hi v l
  hi : hi ≤ V.heap.size
theorem BR.step {V V' : World} {lo hi : Nat} {v : Value} {l : List UInt8} (h : BR V lo hi v l) (hst : Below V.heap.size V V') : BR V' lo hi v l := ⟨h.v.below hst h.hi, Nat.le_trans h.hi hst.size⟩
theorem BR.v0 {V : World} {lo hi : Nat} {v : Value} {l : List UInt8} (h : BR V lo hi v l) : Bytes V 0 V.heap.size v l := h.v.more (Nat.zero_le _) h.hi

end Go.Proofs.Ytkfgegdnpinbdaa

namespace Go.Proofs.Ytkfgegdnpinbdaa
open Go.RowKit

set_option maxRecDepth 100000 in
set_option maxHeartbeats 1000000 in
/-- The reference's May. -/
theorem rmayd_any (b u : Value) (d : DiskL) (w : World) (h : DiskV w 0 w.heap.size b u d) :
    Calls Try.prog 76 #[.agg #[b, u]] w fun e w' => e = .returned (.bool (mayD d)) ∧ Below w.heap.size w w' := by
  have hB := (Below.refl w.heap.size w).alloc (Nat.le_refl _) (.cells #[b, u] 25)
  have hb := h.1.step hB
  have hu := h.2.step hB
  have hq := World.alloc_heap_new w (.cells #[b, u] 25)
  obtain ⟨ab, cb, rfl, g1, g2, -, -⟩ := h.1
  obtain ⟨au, cu, rfl, g1', g2', -, -⟩ := h.2
  unfold maxLen at g2 g2'
  obtain ⟨bl, wl⟩ := d
  clear h
  simp only at *
  obtain ⟨W, hW⟩ : ∃ W, w.alloc (.cells #[.slice ab bl.length cb, .slice au wl.length cu] 25) = W := ⟨_, rfl⟩
  rw [hW] at hB hb hu hq
  have HM := Lib.hid (show mayD ⟨bl, wl⟩ = (bl.length == 256 && decide (wl.length ≤ 4096) && bl.all (fun b => b.length == 128) && wl.all okW) from rfl)
  generalize mayD ⟨bl, wl⟩ = md at *
  have HQ := Lib.hid (And.intro hq (And.intro hb (And.intro hu (And.intro hW hB))))
  clear hq hb hu hW hB
  go_enter Try.func76, Try.ntmps76
  go_upto_region 1 with (fail)
  rw [HQ.out.2.2.2.1]
  have c0 := blk_cell HQ.out.1 0
  have c1 := blk_cell HQ.out.1 1
  simp at c0 c1
  by_cases h1 : ¬ bl.length = 256
  · have i1 : ¬ (bl.length : Int) = 256 := by omega
    have hm : md = false := by rw [HM.out]; simp [h1]
    subst hm
    go_wp2
    go_ret
    exact ⟨rfl, HQ.out.2.2.2.2⟩
  have hbl : bl.length = 256 := by omega
  clear h1
  by_cases h2 : 4096 < wl.length
  · have i1 : (4096 : Int) < wl.length := by omega
    have hm : md = false := by rw [HM.out]; simp [hbl]; omega
    subst hm
    go_wp2
    go_ret
    exact ⟨rfl, HQ.out.2.2.2.2⟩
  have i2 : decide ((4096 : Int) < wl.length) = false := by simp; omega
  have HM2 := Lib.hid (show md = (bl.all (fun b => b.length == 128) && wl.all okW) by rw [HM.out, hbl]; simp [show wl.length ≤ 4096 by omega])
  clear HM
  have hb := HQ.out.2.1
  obtain ⟨bb, bo, cb', e', -, z1, z2, z3, hbe⟩ := hb.at_ (by omega)
  injection e' with ea _ ec
  subst ea ec
  have HBE := Lib.hid hbe
  unfold maxLen at z3
  clear hbe hb
  rw [hbl] at HQ g1 z2 c0 ⊢
  go_wp2_with fail
  go_loopw [3] (fun i wr => ∃ k : Nat, k ≤ 256 ∧ i = .int .i64 k ∧ wr = W ∧ ∀ j, j < k → (bl.getD j []).length = 128) (fun i _ => 256 - (intOf i).toNat)
  case atStart => exact ⟨0, Nat.zero_le _, rfl, rfl, fun j hj => absurd hj (Nat.not_lt_zero _)⟩
  case round =>
  obtain ⟨k, hk, rfl, rfl, hall⟩ := hrel
  by_cases hlt : k < 256
  · obtain ⟨v, hv, hvb⟩ := HBE.out k (bl.getD k []) (get_l _ _ _ (by omega))
    obtain ⟨av, cv, rfl, -, hcv⟩ := hvb.form rfl
    unfold maxLen at hcv
    have hv' : wr.cell? ⟨bb, bo + k, none⟩ = some (.slice av (bl.getD k []).length cv) := by simpa [rBytes] using hv
    obtain ⟨y, hy⟩ : ∃ y, bl.getD k [] = y := ⟨_, rfl⟩
    rw [hy] at hv'
    have HY := Lib.hid (And.intro hy hall)
    clear hv hvb hy hall
    by_cases h5 : y.length = 128
    · rw [h5] at hv'
      go_wp2
      go_roundw
      case rel => exact ⟨k + 1, by omega, by go_num, trivial, fun j hj => by
        by_cases e : j = k
        · subst e; rw [HY.out.1]; exact h5
        · exact HY.out.2 j (by omega)⟩
      case measure => simp [intOf]; omega
    · have i5 : ¬ (y.length : Int) = 128 := by omega
      have hm : md = false := by
        rw [HM2.out]
        have : bl.all (fun b => b.length == 128) = false := by
          rw [List.all_eq_false]
          refine ⟨y, ?_, by simp [h5]⟩
          rw [← HY.out.1]
          exact List.mem_of_getElem? (get_l _ _ _ (by omega))
        rw [this]; rfl
      subst hm
      go_wp2
      go_ret
      exact ⟨rfl, HQ.out.2.2.2.2⟩
  obtain rfl : k = 256 := by omega
  have hall2 : bl.all (fun b => b.length == 128) = true := by
    rw [List.all_eq_true]
    intro x hx
    obtain ⟨j, hj⟩ := List.mem_iff_getElem?.1 hx
    have hjl : j < bl.length := (List.getElem?_eq_some_iff.1 hj).1
    rw [get_l bl [] j hjl] at hj
    cases hj
    exact beq_iff_eq.2 (hall j (by omega))
  obtain ⟨V, hV⟩ : ∃ V, V = wr := ⟨_, rfl⟩
  subst hV
  have HM3 := Lib.hid (show md = wl.all okW by rw [HM2.out, hall2]; rfl)
  clear HM2 hall hall2 hlt hk HBE i2
  go_wp2_with fail
  go_loopw [4] (fun i wx => ∃ k : Nat, k ≤ wl.length ∧ i = .int .i64 k ∧ wx = V ∧ ∀ j, j < k → okW (wl.getD j ⟨0, []⟩) = true) (fun i _ => wl.length - (intOf i).toNat)
  case atStart => exact ⟨0, Nat.zero_le _, rfl, rfl, fun j hj => absurd hj (Nat.not_lt_zero _)⟩
  case round =>
  obtain ⟨k, hk, rfl, rfl, hall⟩ := hrel
  by_cases hlt : k < wl.length
  · obtain ⟨wb, wo, wc, e', -, y1, y2, y3, hwe⟩ := HQ.out.2.2.1.at_ (by omega)
    injection e' with ea _ ec
    subst ea ec
    unfold maxLen at y3
    obtain ⟨f0, f1, v, f2, f3⟩ := hwe k (wl.getD k ⟨0, []⟩) (get_l _ _ _ hlt)
    obtain ⟨av, cv, rfl, -, hcv⟩ := f3.form rfl
    unfold maxLen at hcv
    obtain ⟨y, hy⟩ : ∃ y, wl.getD k ⟨0, []⟩ = y := ⟨_, rfl⟩
    rw [hy] at f0 f1 f2
    have HY := Lib.hid (And.intro hy hall)
    clear hwe f3 hy hall
    obtain ⟨at_, dt⟩ := y
    simp [rWrite] at f0 f2
    have hokw : okW ⟨at_, dt⟩ = (decide (0 ≤ at_) && decide (at_ < 256) && dt.length == 128) := rfl
    have hfin := Lib.hid HQ.out.2.2.2.2
    have hbad : okW ⟨at_, dt⟩ = false → md = false := fun h => by
      rw [HM3.out, List.all_eq_false]
      refine ⟨⟨at_, dt⟩, ?_, by rw [h]; decide⟩
      rw [← HY.out.1]
      exact List.mem_of_getElem? (get_l _ _ _ hlt)
    have HBD := Lib.hid hbad
    clear hbad
    by_cases a1 : at_ < 0
    · have hm := HBD.out (by rw [hokw]; simp; omega)
      subst hm
      clear hokw
      go_wp2
      go_ret
      exact ⟨rfl, hfin.out⟩
    have d1 : decide (at_ < 0) = false := by simp; omega
    by_cases a2 : 256 ≤ at_
    · have hm := HBD.out (by rw [hokw]; simp; omega)
      subst hm
      clear hokw
      go_wp2
      go_ret
      exact ⟨rfl, hfin.out⟩
    have d2 : decide (256 ≤ at_) = false := by simp; omega
    by_cases a3 : dt.length = 128
    · have HOK := Lib.hid (show okW ⟨at_, dt⟩ = true by rw [hokw]; simp [a3]; omega)
      clear hokw
      go_wp2
      go_roundw
      case rel => exact ⟨k + 1, by omega, by go_num, trivial, fun j hj => by
        by_cases e : j = k
        · subst e; rw [HY.out.1]; exact HOK.out
        · exact HY.out.2 j (by omega)⟩
      case measure => simp [intOf]; omega
    · have i5 : ¬ (dt.length : Int) = 128 := by omega
      have hm := HBD.out (by rw [hokw]; simp [a3])
      subst hm
      clear hokw
      go_wp2
      go_ret
      exact ⟨rfl, hfin.out⟩
  obtain rfl : k = wl.length := by omega
  have hm : md = true := by
    rw [HM3.out, List.all_eq_true]
    intro x hx
    obtain ⟨j, hj⟩ := List.mem_iff_getElem?.1 hx
    have hjl : j < wl.length := (List.getElem?_eq_some_iff.1 hj).1
    rw [get_l wl ⟨0, []⟩ j hjl] at hj
    cases hj
    exact hall j hjl
  subst hm
  have hfin := HQ.out.2.2.2.2
  clear hall
  go_wp2
  go_ret
  exact ⟨rfl, hfin⟩

end Go.Proofs.Ytkfgegdnpinbdaa

