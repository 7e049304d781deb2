/- DropDoes: the words and contracts, part 10. -/
import Derived.Test.YtkfgegdnpinbdaaDropDoesQ1
import Derived.Test.YtkfgegdnpinbdaaDropDoesQ2
import Derived.Test.YtkfgegdnpinbdaaDropDoesQ3
import Derived.WalkKit
import Derived.WalkLawsBesides
import Derived.WalkSpells
import Derived.Lib.Hide
import Derived.Laws.Rows
import Derived.Laws.AppendOwnNone
import Derived.Maps.AppendAt
import Derived.RangeFuncNested
import Derived.RangeFuncBound
import Derived.RangeFuncCalls
import Derived.RangeFuncLeaves
import Derived.RangeFuncBox
import Derived.Shelf.Abstract
import Derived.Shelf.RegionOpen
import Derived.OwnWalkIn
import Derived.TacticsInMore
import Derived.LoopNIn
import Derived.LoopIn
import Derived.ProofKit
import Derived.Deep.Slices
import Derived.WideShapes
import Derived.OrdersHeld
import Derived.Deep.QuietTactic
import Derived.BigQuiet
import Derived.StillTailTactics
import Derived.OpenShut
import Derived.Lib.SliceRun
import Derived.Lib.AppendZerosOnto
import Derived.Lib.Walk
import Derived.Deep.LoopGhost
import Derived.Laws.CopyOwn
import Derived.Deep.DeepCutAuto
namespace Go.Proofs.Ytkfgegdnpinbdaa
open Go.RowKit

/-- s[i:j:j] of a slice that is not nil. -/
theorem cut3_run (b off n c i j : Nat) (I J : Int) (hI : I = i) (hJ : J = j) (hij : i ≤ j) (hjc : j ≤ c) (hcm : c ≤ maxLen) : ∃ A : Addr,
    (∀ w, (Instr.sliceAt 26 (.slice (some ⟨b, off, none⟩) n c) (some (.int .i64 I)) (some (.int .i64 J)) (some (.int .i64 J))).run Try.prog w = .ok (.slice (some A) (j - i) (j - i)) w) ∧
    ∀ W lo hi l, Bytes W lo hi (.slice (some ⟨b, off, none⟩) n c) l → j ≤ l.length → Bytes W lo hi (.slice (some A) (j - i) (j - i)) ((l.drop i).take (j - i)) := by
  subst hI hJ
  by_cases h : j = i
  · refine ⟨⟨b, off, none⟩, fun w => ?_, fun W lo hi l hb hj => ?_⟩
    · simp [go_sem]
      rw [if_pos hjc, if_pos hij, if_pos h]
    · have e : j - i = 0 := by omega
      rw [e]
      obtain ⟨a, c', e1, h1, h2, h3, h4⟩ := hb
      cases e1
      exact ⟨some ⟨b, off, none⟩, 0, by simp, by simp, by omega, fun hp => by simp at hp, fun h => by cases h⟩
  · refine ⟨⟨b, off + i, none⟩, fun w => ?_, fun W lo hi l hb hj => ?_⟩
    · simp [go_sem]
      rw [if_pos hjc, if_pos hij, if_neg h]
    · exact hb.cut i (j - i) (j - i) (by omega) (by omega) (by omega)

set_option maxRecDepth 100000 in
set_option maxHeartbeats 1000000 in
theorem iread_no (v : Value) (l : List UInt8) (w : World) (hv : Bytes w 0 w.heap.size v l) (hn : lenOk l = false) :
    Calls Try.prog 82 #[v] w fun e w' => e = .returned (.tuple #[itemV zeroI (.slice none 0 0), .int .i64 0, .int .i64 8]) ∧ Below w.heap.size w w' := by
  have hB := (Below.refl w.heap.size w).alloc (Nat.le_refl _) (.cells #[.int .u8 0, .int .u32 0, .int .u32 0, .int .i64 0, .slice none 0 0] 97)
  have hz : (itemV zeroI (.slice none 0 0)) = .agg #[.int .u8 0, .int .u32 0, .int .u32 0, .int .i64 0, .slice none 0 0] := rfl
  rw [hz]
  by_cases h12 : l.length < 12
  · obtain ⟨a, c, rfl, g1, g2, -, -⟩ := hv
    clear hz
    go_enter Try.func82, Try.ntmps82
    go_wp2_with fail
    exact bodyPost_ret (v := .tuple #[.agg #[.int .u8 0, .int .u32 0, .int .u32 0, .int .i64 0, .slice none 0 0], .int .i64 0, .int .i64 8]) (by simp [results, Try.results82, go_sem]) rfl ⟨rfl, hB⟩
  · obtain ⟨b, off, c, rfl, g0, g1, g2, g3, g4⟩ := hv.at_ (by omega)
    have c11 := g4 11 (l.getD 11 0) (by rw [List.getElem?_eq_getElem (by omega)]; simp [List.getD, show 11 < l.length by omega])
    have hlt : (l.length : Int) < 12 + (l.getD 11 0).toNat := by
      unfold lenOk at hn
      simp only [decide_eq_false_iff_not] at hn
      omega
    have hx := (l.getD 11 0).toNat_lt
    generalize l.getD 11 0 = x at *
    simp only [bV] at c11
    clear hz hv g4
    go_enter Try.func82, Try.ntmps82
    go_wp2_with fail
    exact bodyPost_ret (v := .tuple #[.agg #[.int .u8 0, .int .u32 0, .int .u32 0, .int .i64 0, .slice none 0 0], .int .i64 0, .int .i64 8]) (by simp [results, Try.results82, go_sem]) rfl ⟨rfl, hB⟩

set_option maxRecDepth 100000 in
set_option maxHeartbeats 2000000 in
theorem iread_yes (v : Value) (l : List UInt8) (w : World) (hv : Bytes w 0 w.heap.size v l) (hn : lenOk l = true) :
    Calls Try.prog 82 #[v] w fun e w' => ∃ u, e = .returned (.tuple #[itemV (readI l) u, .int .i64 (readN l), .int .i64 (mayE (readOk l))]) ∧ MadeB w w' u (readI l).val := by
  unfold lenOk at hn
  simp only [decide_eq_true_eq] at hn
  have hB0 := (Below.refl w.heap.size w).alloc (Nat.le_refl _) (.cells #[.int .u8 ((l.getD 0 0).toNat : Int), .int .u32 0, .int .u32 0, .int .i64 0, .slice none 0 0] 97)
  have hv0 := hv.below hB0 (Nat.le_refl _)
  have q0 := alloc_cells w #[.int .u8 ((l.getD 0 0).toNat : Int), .int .u32 0, .int .u32 0, .int .i64 0, .slice none 0 0] 97
  obtain ⟨b, off, c, rfl, g0, g1, g2, g3, g4⟩ := hv.at_ (by omega)
  have c11 := g4 11 (l.getD 11 0) (by rw [List.getElem?_eq_getElem (by omega)]; simp [List.getD, show 11 < l.length by omega])
  have c0 := g4 0 (l.getD 0 0) (by rw [List.getElem?_eq_getElem (by omega)]; simp [List.getD, show 0 < l.length by omega])
  have hlt : 12 + ((l.getD 11 0).toNat : Int) ≤ (l.length : Int) := by omega
  have hl12 : (12 : Int) ≤ (l.length : Int) := by omega
  have hx := (l.getD 11 0).toNat_lt
  have hg1 := fun w h => getFour_any (.slice (some ⟨b, off, none⟩) l.length c) l 1 w h
  have hg5 := fun w h => getFour_any (.slice (some ⟨b, off, none⟩) l.length c) l 5 w h
  have hg9 := fun w h => getTwo_any (.slice (some ⟨b, off, none⟩) l.length c) l 9 w h
  have e1 := (get_yes' l 1 4 (by omega)).2
  have e5 := (get_yes' l 5 4 (by omega)).2
  have e9 := (get_yes' l 9 2 (by omega)).2
  have n1 := getN_lt l 1 4
  have n5 := getN_lt l 5 4
  simp only [Int.cast_ofNat_Int] at e1 e5 e9
  rw [e1] at hg1
  rw [e5] at hg5
  rw [e9] at hg9
  have hraw : rawI l = ⟨⟨l.getD 0 0, UInt32.ofNat (getN l 1 4), UInt32.ofNat (getN l 5 4)⟩, (getN l 9 2 : Nat), (l.drop 12).take (l.getD 11 0).toNat⟩ := rfl
  have hrI : readI l = if mayI (rawI l) then rawI l else zeroI := by unfold readI readOk lenOk; rw [decide_eq_true hn]; rfl
  have hrN : readN l = if mayI (rawI l) then 12 + (l.getD 11 0).toNat else 0 := by unfold readN readOk lenOk; rw [decide_eq_true hn]; rfl
  have hrO : readOk l = mayI (rawI l) := by unfold readOk lenOk; rw [decide_eq_true hn]; rfl
  have hvl : (List.take (l.getD 11 0).toNat (List.drop 12 l)).length = (l.getD 11 0).toNat := by rw [List.length_take, List.length_drop]; omega
  obtain ⟨A, hsl, hcut0⟩ := cut3_run b off l.length c 12 (12 + (l.getD 11 0).toNat) 12 (12 + ((l.getD 11 0).toNat : Int)) rfl (by omega) (by omega) (by omega) (by unfold maxLen at *; omega)
  simp only [Nat.add_sub_cancel_left] at hsl hcut0
  have hcut := fun W h => hcut0 W 0 w.heap.size l h (by omega)
  generalize getN l 1 4 = i1 at *
  generalize getN l 5 4 = i5 at *
  generalize getN l 9 2 = i9 at *
  generalize l.getD 11 0 = x at *
  generalize l.getD 0 0 = k at *
  generalize rawI l = R at *
  generalize readI l = RI at *
  generalize readN l = RN at *
  generalize readOk l = RO at *
  generalize List.take x.toNat (List.drop 12 l) = val at *
  have e1R : ∀ u, itemV R u = .agg #[.int .u8 (k.toNat : Int), .int .u32 (i1 : Int), .int .u32 (i5 : Int), .int .i64 (i9 : Int), u] := fun u => by
    rw [hraw, wV_of i1 n1, wV_of i5 n5]; rfl
  have hmay : ∀ w1 u, Bytes w1 0 w1.heap.size u val → Calls Try.prog 92 #[.agg #[.int .u8 (k.toNat : Int), .int .u32 (i1 : Int), .int .u32 (i5 : Int), .int .i64 (i9 : Int), u]] w1 fun e w' => e = .returned (.int .i64 (mayE (mayI R))) ∧ Below w1.heap.size w1 w' := fun w1 u hu => by
    rw [← e1R]
    exact icheck_any R u w1 (by rw [hraw]; exact hu)
  have htwin : ∀ w1 u, Bytes w1 0 w1.heap.size u val → Calls Try.prog 108 #[.agg #[.int .u8 (k.toNat : Int), .int .u32 (i1 : Int), .int .u32 (i5 : Int), .int .i64 (i9 : Int), u]] w1 fun e w' => ∃ u', e = .returned (.agg #[.int .u8 (k.toNat : Int), .int .u32 (i1 : Int), .int .u32 (i5 : Int), .int .i64 (i9 : Int), u']) ∧ MadeB w1 w' u' val := fun w1 u hu => by
    have h := itwin_any R u w1 (by rw [hraw]; exact hu) (by rw [hraw]; show val.length ≤ _; rw [hvl]; omega)
    rw [← e1R]
    refine h.mono fun e w' ⟨u', he, hm⟩ => ⟨u', ?_, ?_⟩
    · rw [he, e1R]
    · rw [hraw] at hm; exact hm
  unfold maxLen at g3
  have HG := Lib.hid (And.intro hg1 (And.intro hg5 hg9))
  have HF := Lib.hid (And.intro hrI (And.intro hrN (And.intro hrO (And.intro e1R hraw))))
  have HM := Lib.hid (And.intro hmay htwin)
  have HC := Lib.hid (And.intro hcut hvl)
  have HV := Lib.hid (And.intro hv0 (And.intro q0 hB0))
  simp only [bV, Nat.add_zero] at c11 c0
  clear hg1 hg5 hg9 hraw hrI hrN hrO n1 n5 e1 e5 e9 g4 hn hv e1R hmay htwin hcut0 hcut hvl hv0 q0 hB0
  go_enter Try.func82, Try.ntmps82
  go_wp2_with fail
  obtain ⟨hv, q, hB⟩ := HV.out
  clear HV
  generalize w.alloc (.cells #[.int .u8 (k.toNat : Int), .int .u32 0, .int .u32 0, .int .i64 0, .slice none 0 0] 97) = W at *
  have hlt0 := (Array.getElem?_eq_some_iff.1 q).1
  refine (HG.out.1 _ (hv.more (Nat.le_refl _) hB.size)).mono ?_
  rintro e x0 ⟨rfl, hb⟩
  replace q := (hb.block w.heap.size hlt0).trans q
  replace hv := hv.below hb hB.size
  replace hB := below_step hB hB.size hb
  clear hb hlt0
  have a0 := blk_cell q 0
  have f0 := blk_frozen q 0
  have a1 := blk_cell q 1
  have f1 := blk_frozen q 1
  have a2 := blk_cell q 2
  have f2 := blk_frozen q 2
  have a3 := blk_cell q 3
  have f3 := blk_frozen q 3
  have a4 := blk_cell q 4
  have f4 := blk_frozen q 4
  simp at a0 a1 a2 a3 a4
  have Hq := Lib.hid (And.intro q (And.intro hv hB))
  clear q hv hB
  go_upto_region 8 with (fail)
  obtain ⟨q, hv, hB⟩ := Hq.out
  replace q := set_block q 1 (.int .u32 (i1 : Int))
  simp only [List.setIfInBounds_toArray, List.set_cons_succ, List.set_cons_zero] at q
  replace hv := hv.setOff (g := w.heap.size) (i := 1) (u := .int .u32 (i1 : Int)) (.inr (Nat.le_refl _))
  replace hB := hB.setCell (p := ⟨w.heap.size, 1, none⟩) (Nat.le_refl _) (.int .u32 (i1 : Int))
  clear Hq
  clear a0 a1 a2 a3 a4 f0 f1 f2 f3 f4
  generalize x0.setCell ⟨w.heap.size, 1, none⟩ (.int .u32 (i1 : Int)) = y0 at *
  go_wp2_with fail
  have hlt0 := (Array.getElem?_eq_some_iff.1 q).1
  refine (HG.out.2.1 _ (hv.more (Nat.le_refl _) hB.size)).mono ?_
  rintro e x1 ⟨rfl, hb⟩
  replace q := (hb.block w.heap.size hlt0).trans q
  replace hv := hv.below hb hB.size
  replace hB := below_step hB hB.size hb
  clear hb hlt0
  have a0 := blk_cell q 0
  have f0 := blk_frozen q 0
  have a1 := blk_cell q 1
  have f1 := blk_frozen q 1
  have a2 := blk_cell q 2
  have f2 := blk_frozen q 2
  have a3 := blk_cell q 3
  have f3 := blk_frozen q 3
  have a4 := blk_cell q 4
  have f4 := blk_frozen q 4
  simp at a0 a1 a2 a3 a4
  have Hq := Lib.hid (And.intro q (And.intro hv hB))
  clear q hv hB
  go_upto_region 9 with (fail)
  obtain ⟨q, hv, hB⟩ := Hq.out
  replace q := set_block q 2 (.int .u32 (i5 : Int))
  simp only [List.setIfInBounds_toArray, List.set_cons_succ, List.set_cons_zero] at q
  replace hv := hv.setOff (g := w.heap.size) (i := 2) (u := .int .u32 (i5 : Int)) (.inr (Nat.le_refl _))
  replace hB := hB.setCell (p := ⟨w.heap.size, 2, none⟩) (Nat.le_refl _) (.int .u32 (i5 : Int))
  clear Hq
  clear a0 a1 a2 a3 a4 f0 f1 f2 f3 f4
  generalize x1.setCell ⟨w.heap.size, 2, none⟩ (.int .u32 (i5 : Int)) = y1 at *
  go_wp2_with fail
  have hlt0 := (Array.getElem?_eq_some_iff.1 q).1
  refine (HG.out.2.2 _ (hv.more (Nat.le_refl _) hB.size)).mono ?_
  rintro e x2 ⟨rfl, hb⟩
  replace q := (hb.block w.heap.size hlt0).trans q
  replace hv := hv.below hb hB.size
  replace hB := below_step hB hB.size hb
  clear hb hlt0
  have a0 := blk_cell q 0
  have f0 := blk_frozen q 0
  have a1 := blk_cell q 1
  have f1 := blk_frozen q 1
  have a2 := blk_cell q 2
  have f2 := blk_frozen q 2
  have a3 := blk_cell q 3
  have f3 := blk_frozen q 3
  have a4 := blk_cell q 4
  have f4 := blk_frozen q 4
  simp at a0 a1 a2 a3 a4
  have Hq := Lib.hid (And.intro q (And.intro hv hB))
  clear q hv hB
  go_upto_region 10 with (fail)
  obtain ⟨q, hv, hB⟩ := Hq.out
  replace q := set_block q 3 (.int .i64 (i9 : Int))
  simp only [List.setIfInBounds_toArray, List.set_cons_succ, List.set_cons_zero] at q
  replace hv := hv.setOff (g := w.heap.size) (i := 3) (u := .int .i64 (i9 : Int)) (.inr (Nat.le_refl _))
  replace hB := hB.setCell (p := ⟨w.heap.size, 3, none⟩) (Nat.le_refl _) (.int .i64 (i9 : Int))
  clear Hq
  clear a0 a1 a2 a3 a4 f0 f1 f2 f3 f4
  generalize x2.setCell ⟨w.heap.size, 3, none⟩ (.int .i64 (i9 : Int)) = y2 at *
  have a0 := blk_cell q 0
  have f0 := blk_frozen q 0
  have a1 := blk_cell q 1
  have f1 := blk_frozen q 1
  have a2 := blk_cell q 2
  have f2 := blk_frozen q 2
  have a3 := blk_cell q 3
  have f3 := blk_frozen q 3
  have a4 := blk_cell q 4
  have f4 := blk_frozen q 4
  simp at a0 a1 a2 a3 a4
  have Hq := Lib.hid (And.intro q (And.intro hv hB))
  clear q hv hB
  go_upto_region 11 with (fail)
  obtain ⟨q, hv, hB⟩ := Hq.out
  replace q := set_block q 4 (.slice (some A) x.toNat x.toNat)
  simp only [List.setIfInBounds_toArray, List.set_cons_succ, List.set_cons_zero] at q
  replace hv := hv.setOff (g := w.heap.size) (i := 4) (u := .slice (some A) x.toNat x.toNat) (.inr (Nat.le_refl _))
  replace hB := hB.setCell (p := ⟨w.heap.size, 4, none⟩) (Nat.le_refl _) (.slice (some A) x.toNat x.toNat)
  clear Hq hsl
  clear a0 a1 a2 a3 a4 f0 f1 f2 f3 f4
  generalize y2.setCell ⟨w.heap.size, 4, none⟩ (.slice (some A) x.toNat x.toNat) = V at *
  have a0 := blk_cell q 0
  have f0 := blk_frozen q 0
  have a1 := blk_cell q 1
  have f1 := blk_frozen q 1
  have a2 := blk_cell q 2
  have f2 := blk_frozen q 2
  have a3 := blk_cell q 3
  have f3 := blk_frozen q 3
  have a4 := blk_cell q 4
  have f4 := blk_frozen q 4
  simp at a0 a1 a2 a3 a4
  have hcv := HC.out.1 V hv
  have Hq := Lib.hid (And.intro q (And.intro hcv hB))
  clear q hv hB hcv
  go_wp2_with fail
  obtain ⟨q, hcv, hB⟩ := Hq.out
  have hlt0 := (Array.getElem?_eq_some_iff.1 q).1
  refine (HM.out.1 _ _ (hcv.more (Nat.le_refl _) hB.size)).mono ?_
  rintro e V1 ⟨rfl, hb⟩
  replace q := (hb.block w.heap.size hlt0).trans q
  replace hcv := hcv.below hb hB.size
  replace hB := below_step hB hB.size hb
  clear hb hlt0 Hq
  clear a0 a1 a2 a3 a4 f0 f1 f2 f3 f4
  have a0 := blk_cell q 0
  have f0 := blk_frozen q 0
  have a1 := blk_cell q 1
  have f1 := blk_frozen q 1
  have a2 := blk_cell q 2
  have f2 := blk_frozen q 2
  have a3 := blk_cell q 3
  have f3 := blk_frozen q 3
  have a4 := blk_cell q 4
  have f4 := blk_frozen q 4
  simp at a0 a1 a2 a3 a4
  have Hq := Lib.hid (And.intro q (And.intro hcv hB))
  clear q hcv hB
  obtain ⟨hRI, hRN, hRO, he1, hR⟩ := HF.out
  cases hmR : mayI R
  · rw [hmR] at hRI hRN hRO
    have e5 : itemV RI (.slice none 0 0) = .agg #[.int .u8 0, .int .u32 0, .int .u32 0, .int .i64 0, .slice none 0 0] := by rw [hRI]; rfl
    have e6 : (RN : Int) = 0 := by rw [hRN]; rfl
    have e7 : mayE RO = 8 := by rw [hRO]; rfl
    have e8 : RI.val = [] := by rw [hRI]; rfl
    have HE := Lib.hid (And.intro e5 (And.intro e6 (And.intro e7 e8)))
    have e9 : mayE false = 8 := rfl
    rw [e9]
    clear hR hRI hRN hRO e5 e6 e7 e8 hmR e9 he1
    go_wp2_with fail
    refine bodyPost_ret (v := .tuple #[.agg #[.int .u8 0, .int .u32 0, .int .u32 0, .int .i64 0, .slice none 0 0], .int .i64 0, .int .i64 8]) (by simp [results, Try.results82, go_sem, a0, a1, a2, a3, a4]) rfl ⟨.slice none 0 0, ?_, ?_⟩
    · rw [HE.out.1, HE.out.2.1, HE.out.2.2.1]
    · rw [HE.out.2.2.2]
      refine MadeB.nil_ ?_
      exact ((((Hq.out.2.2.setCell (p := ⟨w.heap.size, 0, none⟩) (Nat.le_refl _) _).setCell (p := ⟨w.heap.size, 1, none⟩) (Nat.le_refl _) _).setCell (p := ⟨w.heap.size, 2, none⟩) (Nat.le_refl _) _).setCell (p := ⟨w.heap.size, 3, none⟩) (Nat.le_refl _) _).setCell (p := ⟨w.heap.size, 4, none⟩) (Nat.le_refl _) _
  · rw [hmR] at hRI hRN hRO
    have e5 : ∀ u, itemV RI u = .agg #[.int .u8 (k.toNat : Int), .int .u32 (i1 : Int), .int .u32 (i5 : Int), .int .i64 (i9 : Int), u] := fun u => by
      rw [hRI, if_pos rfl, he1]
    have e6 : (RN : Int) = 12 + (x.toNat : Int) := by rw [hRN, if_pos rfl]; omega
    have e7 : mayE RO = 0 := by rw [hRO]; rfl
    have e8 : RI.val = val := by rw [hRI, if_pos rfl, hR]
    have HE := Lib.hid (And.intro e5 (And.intro e6 (And.intro e7 e8)))
    have e9 : mayE true = 0 := rfl
    rw [e9]
    clear hR hRI hRN hRO e5 e6 e7 e8 hmR e9 he1
    go_wp2_with fail
    obtain ⟨q, hcv, hB⟩ := Hq.out
    have hlt0 := (Array.getElem?_eq_some_iff.1 q).1
    refine (HM.out.2 _ _ (hcv.more (Nat.le_refl _) hB.size)).mono ?_
    rintro e V2 ⟨u, rfl, hm⟩
    obtain ⟨ua, uc, rfl, u1, u2⟩ := hm.bytes.form HC.out.2
    replace q := (hm.below.block w.heap.size hlt0).trans q
    have hB2 := below_step hB hB.size hm.below
    clear Hq
    clear a0 a1 a2 a3 a4 f0 f1 f2 f3 f4
    have a0 := blk_cell q 0
    have f0 := blk_frozen q 0
    have a1 := blk_cell q 1
    have f1 := blk_frozen q 1
    have a2 := blk_cell q 2
    have f2 := blk_frozen q 2
    have a3 := blk_cell q 3
    have f3 := blk_frozen q 3
    have a4 := blk_cell q 4
    have f4 := blk_frozen q 4
    simp at a0 a1 a2 a3 a4
    have HZ := Lib.hid (And.intro hm (And.intro hB2 hlt0))
    clear q hcv hB hB2 hm hlt0
    go_wp2_with fail
    refine bodyPost_ret (v := .tuple #[.agg #[.int .u8 (k.toNat : Int), .int .u32 (i1 : Int), .int .u32 (i5 : Int), .int .i64 (i9 : Int), .slice ua x.toNat uc], .int .i64 (12 + (x.toNat : Int)), .int .i64 0]) (by simp [results, Try.results82, go_sem, a0, a1, a2, a3, a4]) rfl ⟨.slice ua x.toNat uc, ?_, ?_⟩
    · rw [HE.out.1, HE.out.2.1, HE.out.2.2.1]
    · rw [HE.out.2.2.2]
      obtain ⟨hm, hB3, s1⟩ := HZ.out
      refine ⟨?_, ?_, ?_⟩
      · refine Bytes.more (lo := V1.heap.size) (hi := V2.heap.size) ?_ (Nat.le_of_lt s1) (by simp)
        exact ((((hm.bytes.setOff (.inl s1)).setOff (.inl s1)).setOff (.inl s1)).setOff (.inl s1)).setOff (.inl s1)
      · exact ((((hm.thawed.set _ _).set _ _).set _ _).set _ _).set _ _
      · exact ((((hB3.setCell (p := ⟨w.heap.size, 0, none⟩) (Nat.le_refl _) _).setCell (p := ⟨w.heap.size, 1, none⟩) (Nat.le_refl _) _).setCell (p := ⟨w.heap.size, 2, none⟩) (Nat.le_refl _) _).setCell (p := ⟨w.heap.size, 3, none⟩) (Nat.le_refl _) _).setCell (p := ⟨w.heap.size, 4, none⟩) (Nat.le_refl _) _

theorem iread_any (v : Value) (l : List UInt8) (w : World) (hv : Bytes w 0 w.heap.size v l) :
    Calls Try.prog 82 #[v] w fun e w' => ∃ u, e = .returned (.tuple #[itemV (readI l) u, .int .i64 (readN l), .int .i64 (mayE (readOk l))]) ∧ MadeB w w' u (readI l).val := by
  cases h : lenOk l
  · have h1 : readOk l = false := by unfold readOk; rw [h]; rfl
    have h2 : readI l = zeroI := by unfold readI; rw [h1]; rfl
    have h3 : readN l = 0 := by unfold readN; rw [h1]; rfl
    rw [h1, h2, h3]
    exact (iread_no v l w hv h).mono fun e w' ⟨he, hB⟩ => ⟨_, he, MadeB.nil_ hB⟩
  · exact iread_yes v l w hv h
end Go.Proofs.Ytkfgegdnpinbdaa

namespace Go.Proofs.Ytkfgegdnpinbdaa
open Go.RowKit

theorem u32_of_toNat (x : UInt32) : UInt32.ofNat x.toNat = x := by simp
theorem twelve (b : List UInt8) (h : 12 ≤ b.length) : ∃ x0 x1 x2 x3 x4 x5 x6 x7 x8 x9 x10 x11 r, b = x0 :: x1 :: x2 :: x3 :: x4 :: x5 :: x6 :: x7 :: x8 :: x9 :: x10 :: x11 :: r := by
  match b, h with
  | x0 :: x1 :: x2 :: x3 :: x4 :: x5 :: x6 :: x7 :: x8 :: x9 :: x10 :: x11 :: r, _ => exact ⟨x0, x1, x2, x3, x4, x5, x6, x7, x8, x9, x10, x11, r, rfl⟩
/-- The bytes of an item, whatever is behind, are read as that item. -/
theorem raw_item (x : ItemL) (h : mayI x = true) (bh : List UInt8) : lenOk (itemB x ++ bh) = true ∧ rawI (itemB x ++ bh) = x ∧ ((itemB x ++ bh).getD 11 0).toNat = x.val.length := by
  obtain ⟨h0, h1, h2⟩ := may_ref h
  obtain ⟨⟨k, i, o⟩, r, l⟩ := x
  obtain ⟨r, rfl⟩ := Int.eq_ofNat_of_zero_le h0
  simp only at h1 h2
  have hn : (UInt8.ofNat l.length).toNat = l.length := by rw [UInt8.toNat_ofNat']; omega
  have hb : itemB ⟨⟨k, i, o⟩, (r : Int), l⟩ ++ bh = k :: (fourL i.toNat ++ (fourL o.toNat ++ (twoL r ++ (UInt8.ofNat l.length :: (l ++ bh))))) := by
    simp [itemB]
  have h11 : (itemB ⟨⟨k, i, o⟩, (r : Int), l⟩ ++ bh).getD 11 0 = UInt8.ofNat l.length := by rw [hb]; simp [fourL, twoL]
  have hl : (itemB ⟨⟨k, i, o⟩, (r : Int), l⟩ ++ bh).length = 12 + l.length + bh.length := by rw [List.length_append, itemB_length]
  have g1 := (get_yes' (itemB ⟨⟨k, i, o⟩, (r : Int), l⟩ ++ bh) 1 4 (by omega)).1
  have g5 := (get_yes' (itemB ⟨⟨k, i, o⟩, (r : Int), l⟩ ++ bh) 5 4 (by omega)).1
  have g9 := (get_yes' (itemB ⟨⟨k, i, o⟩, (r : Int), l⟩ ++ bh) 9 2 (by omega)).1
  have e1 : ((itemB ⟨⟨k, i, o⟩, (r : Int), l⟩ ++ bh).drop 1).take 4 = fourL i.toNat := by rw [hb]; simp [fourL]
  have e5 : ((itemB ⟨⟨k, i, o⟩, (r : Int), l⟩ ++ bh).drop 5).take 4 = fourL o.toNat := by rw [hb]; simp [fourL]
  have e9 : ((itemB ⟨⟨k, i, o⟩, (r : Int), l⟩ ++ bh).drop 9).take 2 = twoL r := by rw [hb]; simp [fourL, twoL]
  have e12 : (itemB ⟨⟨k, i, o⟩, (r : Int), l⟩ ++ bh).drop 12 = l ++ bh := by rw [hb]; simp [fourL, twoL]
  have e0 : (itemB ⟨⟨k, i, o⟩, (r : Int), l⟩ ++ bh).getD 0 0 = k := by rw [hb]; simp
  have hi := i.toNat_lt
  have ho := o.toNat_lt
  rw [e1, numOf_fourL _ (by omega)] at g1
  rw [e5, numOf_fourL _ (by omega)] at g5
  rw [e9, numOf_twoL _ (by omega)] at g9
  refine ⟨?_, ?_, ?_⟩
  · unfold lenOk
    rw [h11, hn, hl]
    simp only [decide_eq_true_eq]
    omega
  · unfold rawI
    simp only [Int.cast_ofNat_Int] at g1 g5 g9
    rw [e0, g1, g5, g9, h11, hn, e12, u32_of_toNat, u32_of_toNat, List.take_left]
  · rw [h11, hn]
theorem read_item (x : ItemL) (h : mayI x = true) (bh : List UInt8) : readOk (itemB x ++ bh) = true ∧ readI (itemB x ++ bh) = x ∧ readN (itemB x ++ bh) = (itemB x).length := by
  obtain ⟨h1, h2, h3⟩ := raw_item x h bh
  have h4 : readOk (itemB x ++ bh) = true := by unfold readOk; rw [h1, h2, h]; rfl
  exact ⟨h4, by unfold readI; rw [if_pos h4, h2], by unfold readN; rw [if_pos h4, h3, itemB_length]⟩
/-- What is read has just these bytes. -/
theorem item_read (b : List UInt8) (h : readOk b = true) : mayI (readI b) = true ∧ itemB (readI b) = b.take (readN b) ∧ readN b ≤ b.length := by
  have h' := h
  unfold readOk at h'
  simp only [Bool.and_eq_true] at h'
  obtain ⟨h1, h2⟩ := h'
  have e1 : readI b = rawI b := by unfold readI; rw [if_pos h]
  have e2 : readN b = 12 + (b.getD 11 0).toNat := by unfold readN; rw [if_pos h]
  have h3 := h1
  unfold lenOk at h3
  simp only [decide_eq_true_eq] at h3
  obtain ⟨h4, h5⟩ := h3
  rw [e1, e2]
  refine ⟨h2, ?_, h5⟩
  have n1 := getN_lt b 1 4
  have n5 := getN_lt b 5 4
  have g1 := (get_yes' b 1 4 (by omega)).1
  have g5 := (get_yes' b 5 4 (by omega)).1
  have g9 := (get_yes' b 9 2 (by omega)).1
  have f1 := four_of b 1 (by omega)
  have f5 := four_of b 5 (by omega)
  have f9 := two_of b 9 (by omega)
  simp only [Int.cast_ofNat_Int] at g1 g5 g9
  rw [← g1] at f1
  rw [← g5] at f5
  rw [← g9] at f9
  have hv : ((b.drop 12).take (b.getD 11 0).toNat).length = (b.getD 11 0).toNat := by rw [List.length_take, List.length_drop]; omega
  have hi : (UInt32.ofNat (getN b 1 4)).toNat = getN b 1 4 := by rw [UInt32.toNat_ofNat']; omega
  have ho : (UInt32.ofNat (getN b 5 4)).toNat = getN b 5 4 := by rw [UInt32.toNat_ofNat']; omega
  unfold itemB rawI
  simp only
  rw [hi, ho, hv, Int.toNat_natCast, f1, f5, f9, List.take_add]
  congr 1
  obtain ⟨x0, x1, x2, x3, x4, x5, x6, x7, x8, x9, x10, x11, r, rfl⟩ := twelve b h4
  simp
end Go.Proofs.Ytkfgegdnpinbdaa

