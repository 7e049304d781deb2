/- RoomDoes: the words and contracts, part 3. -/
import Derived.Test.YtkfgegdnpinbdaaRoomDoesQ1
import Derived.Test.YtkfgegdnpinbdaaRoomDoesQ2
import Derived.WalkKit
import Derived.WalkLawsBesides
import Derived.WalkSpells
import Derived.Lib.Hide
import Derived.Laws.Rows
import Derived.Laws.AppendOwnNone
import Derived.Maps.AppendAt
import Derived.RangeFuncNested
import Derived.RangeFuncBound
import Derived.RangeFuncCalls
import Derived.RangeFuncLeaves
import Derived.RangeFuncBox
import Derived.Shelf.Abstract
import Derived.Shelf.RegionOpen
import Derived.OwnWalkIn
import Derived.TacticsInMore
import Derived.LoopNIn
import Derived.LoopIn
import Derived.ProofKit
import Derived.Deep.Slices
import Derived.WideShapes
import Derived.OrdersHeld
import Derived.Deep.QuietTactic
import Derived.BigQuiet
import Derived.StillTailTactics
import Derived.OpenShut
import Derived.Lib.SliceRun
import Derived.Lib.AppendZerosOnto
import Derived.Lib.Walk
import Derived.Deep.LoopGhost
import Derived.Laws.CopyOwn
import Derived.Deep.DeepCutAuto
import Derived.Laws.CopyRow
namespace Go.Proofs.Ytkfgegdnpinbdaa
open Go.RowKit

def zeroI : ItemL := ⟨⟨0, 0, 0⟩, 0, []⟩
def rawI (l : List UInt8) : ItemL := ⟨⟨l.getD 0 0, UInt32.ofNat (getN l 1 4), UInt32.ofNat (getN l 5 4)⟩, (getN l 9 2 : Nat), (l.drop 12).take (l.getD 11 0).toNat⟩
def lenOk (l : List UInt8) : Bool := decide (12 ≤ l.length ∧ 12 + (l.getD 11 0).toNat ≤ l.length)
/-- What is read of bytes: an item, how many bytes, an error. -/
def readOk (l : List UInt8) : Bool := lenOk l && mayI (rawI l)
def readI (l : List UInt8) : ItemL := if readOk l then rawI l else zeroI
def readN (l : List UInt8) : Nat := if readOk l then 12 + (l.getD 11 0).toNat else 0
theorem wV_of (n : Nat) (h : n < 4294967296) : Value.int .u32 (n : Int) = wV (UInt32.ofNat n) := by
  simp [wV]
  omega
theorem alloc_cells (w : World) (cs : Array Value) (t : TypeId) : (w.alloc (.cells cs t)).heap[w.heap.size]? = some (.cells cs t (0, 0)) := World.alloc_heap_new w _

theorem set_block {w : World} {g : Nat} {cs : Array Value} {t : TypeId} {f : Nat × Nat} (h : w.heap[g]? = some (.cells cs t f)) (i : Nat) (v : Value) : (w.setCell ⟨g, i, none⟩ v).heap[g]? = some (.cells (cs.setIfInBounds i v) t f) := by
  simp [World.setCell, Array.getElem?_modify, h]

set_option maxRecDepth 100000 in
set_option maxHeartbeats 1000000 in
theorem rread_no (v : Value) (l : List UInt8) (w : World) (hv : Bytes w 0 w.heap.size v l) (hn : lenOk l = false) :
    Calls Try.prog 111 #[v] w fun e w' => e = .returned (.tuple #[itemV zeroI (.slice none 0 0), .int .i64 0, .int .i64 8]) ∧ Below w.heap.size w w' := by
  have hB := (Below.refl w.heap.size w).alloc (Nat.le_refl _) (.cells #[.int .u8 0, .int .u32 0, .int .u32 0, .int .i64 0, .slice none 0 0] 97)
  have hv1 := hv.step hB
  have hq := alloc_cells w #[.int .u8 0, .int .u32 0, .int .u32 0, .int .i64 0, .slice none 0 0] 97
  have hz : (itemV zeroI (.slice none 0 0)) = .agg #[.int .u8 0, .int .u32 0, .int .u32 0, .int .i64 0, .slice none 0 0] := rfl
  rw [hz]
  by_cases h12 : l.length < 12
  · obtain ⟨a, c, rfl, g1, g2, -, -⟩ := hv
    clear hv1 hq hz
    go_enter Try.func111, Try.ntmps111
    go_wp2_with fail
    exact bodyPost_ret (v := .tuple #[.agg #[.int .u8 0, .int .u32 0, .int .u32 0, .int .i64 0, .slice none 0 0], .int .i64 0, .int .i64 8]) (by simp [results, Try.results111, go_sem]) rfl ⟨rfl, hB⟩
  · obtain ⟨b, off, c, rfl, g0, g1, g2, g3, g4⟩ := hv.at_ (by omega)
    have c11 := g4 11 (l.getD 11 0) (by rw [List.getElem?_eq_getElem (by omega)]; simp [List.getD, show 11 < l.length by omega])
    have hlt : (l.length : Int) - 12 < (l.getD 11 0).toNat := by
      unfold lenOk at hn
      simp only [decide_eq_false_iff_not] at hn
      omega
    have hx := (l.getD 11 0).toNat_lt
    generalize l.getD 11 0 = x at *
    simp only [bV] at c11
    clear hv1 hq hz hv g4
    go_enter Try.func111, Try.ntmps111
    go_wp2_with fail
    exact bodyPost_ret (v := .tuple #[.agg #[.int .u8 0, .int .u32 0, .int .u32 0, .int .i64 0, .slice none 0 0], .int .i64 0, .int .i64 8]) (by simp [results, Try.results111, go_sem]) rfl ⟨rfl, hB⟩

set_option maxRecDepth 100000 in
set_option maxHeartbeats 1000000 in
theorem rread_yes (v : Value) (l : List UInt8) (w : World) (hv : Bytes w 0 w.heap.size v l) (hn : lenOk l = true) :
    Calls Try.prog 111 #[v] w fun e w' => ∃ u, e = .returned (.tuple #[itemV (readI l) u, .int .i64 (readN l), .int .i64 (mayE (readOk l))]) ∧ MadeB w w' u (readI l).val := by
  unfold lenOk at hn
  simp only [decide_eq_true_eq] at hn
  have hvx := fun A B => (hv.step (((Below.refl w.heap.size w).alloc (Nat.le_refl _) A).alloc (by simp) B))
  obtain ⟨b, off, c, rfl, g0, g1, g2, g3, g4⟩ := hv.at_ (by omega)
  have c11 := g4 11 (l.getD 11 0) (by rw [List.getElem?_eq_getElem (by omega)]; simp [List.getD, show 11 < l.length by omega])
  have c0 := g4 0 (l.getD 0 0) (by rw [List.getElem?_eq_getElem (by omega)]; simp [List.getD, show 0 < l.length by omega])
  have hlt : ((l.getD 11 0).toNat : Int) ≤ (l.length : Int) - 12 := by omega
  have hl12 : (12 : Int) ≤ (l.length : Int) := by omega
  have hx := (l.getD 11 0).toNat_lt
  have hg1 := fun w h => rgetFour_any (.slice (some ⟨b, off, none⟩) l.length c) l 1 w h
  have hg5 := fun w h => rgetFour_any (.slice (some ⟨b, off, none⟩) l.length c) l 5 w h
  have hg9 := fun w h => rgetTwo_any (.slice (some ⟨b, off, none⟩) l.length c) l 9 w h
  have e1 := (get_yes' l 1 4 (by omega)).2
  have e5 := (get_yes' l 5 4 (by omega)).2
  have e9 := (get_yes' l 9 2 (by omega)).2
  have n1 := getN_lt l 1 4
  have n5 := getN_lt l 5 4
  have n9 := getN_lt l 9 2
  simp only [Int.cast_ofNat_Int] at e1 e5 e9
  rw [e1] at hg1
  rw [e5] at hg5
  rw [e9] at hg9
  have hraw : rawI l = ⟨⟨l.getD 0 0, UInt32.ofNat (getN l 1 4), UInt32.ofNat (getN l 5 4)⟩, (getN l 9 2 : Nat), (l.drop 12).take (l.getD 11 0).toNat⟩ := rfl
  have hrI : readI l = if mayI (rawI l) then rawI l else zeroI := by unfold readI readOk lenOk; rw [decide_eq_true hn]; rfl
  have hrN : readN l = if mayI (rawI l) then 12 + (l.getD 11 0).toNat else 0 := by unfold readN readOk lenOk; rw [decide_eq_true hn]; rfl
  have hrO : readOk l = mayI (rawI l) := by unfold readOk lenOk; rw [decide_eq_true hn]; rfl
  generalize getN l 1 4 = i1 at *
  generalize getN l 5 4 = i5 at *
  generalize getN l 9 2 = i9 at *
  generalize l.getD 11 0 = x at *
  generalize l.getD 0 0 = k at *
  generalize rawI l = R at *
  generalize readI l = RI at *
  generalize readN l = RN at *
  generalize readOk l = RO at *
  have d1 : decide ((l.length : Int) < 12) = false := by simp only [decide_eq_false_iff_not]; omega
  have d2 : decide ((l.length : Int) - 12 < (x.toNat : Int)) = false := by simp only [decide_eq_false_iff_not]; omega
  unfold maxLen at g3
  have HG := Lib.hid (And.intro hg1 (And.intro hg5 hg9))
  have HX := Lib.hid hvx
  have HF := Lib.hid (And.intro hraw (And.intro hrI (And.intro hrN hrO)))
  have HN := Lib.hid (And.intro n1 (And.intro n5 n9))
  simp only [bV, Nat.add_zero] at c11 c0
  clear hg1 hg5 hg9 hvx hraw hrI hrN hrO n1 n5 n9 e1 e5 e9 g4 hn hv
  go_enter Try.func111, Try.ntmps111
  go_wp2_with fail
  refine (HG.out.1 _ (HX.out _ _)).mono ?_
  rintro e w1 ⟨rfl, rfl⟩
  go_wp2_with fail
  refine (HG.out.2.1 _ (HX.out _ _)).mono ?_
  rintro e w1 ⟨rfl, rfl⟩
  go_wp2_with fail
  refine (HG.out.2.2 _ (HX.out _ _)).mono ?_
  rintro e w1 ⟨rfl, rfl⟩
  go_wp2_with fail
  have hBW := ((Below.refl w.heap.size w).alloc (Nat.le_refl _) (.cells #[.int .u8 0, .int .u32 0, .int .u32 0, .int .i64 0, .slice none 0 0] 97)).alloc (by simp) (.cells #[.int .u8 (k.toNat : Int), .int .u32 (i1 : Int), .int .u32 (i5 : Int), .int .i64 (i9 : Int), .slice none 0 0] 97)
  have hVW := HX.out (.cells #[.int .u8 0, .int .u32 0, .int .u32 0, .int .i64 0, .slice none 0 0] 97) (.cells #[.int .u8 (k.toNat : Int), .int .u32 (i1 : Int), .int .u32 (i5 : Int), .int .i64 (i9 : Int), .slice none 0 0] 97)
  have hq := two_new w (.cells #[.int .u8 0, .int .u32 0, .int .u32 0, .int .i64 0, .slice none 0 0] 97) (.cells #[.int .u8 (k.toNat : Int), .int .u32 (i1 : Int), .int .u32 (i5 : Int), .int .i64 (i9 : Int), .slice none 0 0] 97)
  obtain ⟨W, hW⟩ : ∃ W, (w.alloc (.cells #[.int .u8 0, .int .u32 0, .int .u32 0, .int .i64 0, .slice none 0 0] 97)).alloc (.cells #[.int .u8 (k.toNat : Int), .int .u32 (i1 : Int), .int .u32 (i5 : Int), .int .i64 (i9 : Int), .slice none 0 0] 97) = W := ⟨_, rfl⟩
  have hz : W.heap.size = w.heap.size + 2 := by rw [← hW]; simp
  rw [hW] at hBW hVW hq ⊢
  obtain ⟨q1, q2⟩ := hq
  have c5 := blk_cell q2 4
  simp at c5
  obtain ⟨A, hsl, hcut0⟩ := cut_run b off l.length c 12 (12 + x.toNat) 12 (12 + (x.toNat : Int)) rfl (by omega) (by omega) (by omega) (by unfold maxLen; omega)
  have hcut := hcut0 W _ _ l hVW (by omega)
  rw [Nat.add_sub_cancel_left] at hcut
  simp only [Nat.add_sub_cancel_left] at hsl
  clear hcut0
  have hmay : ∀ w1 u, Bytes w1 0 w1.heap.size u (List.take x.toNat (List.drop 12 l)) → Calls Try.prog 97 #[.agg #[.int .u8 (k.toNat : Int), .int .u32 (i1 : Int), .int .u32 (i5 : Int), .int .i64 (i9 : Int), u]] w1 fun e w' => e = .returned (.bool (mayI R)) ∧ Below w1.heap.size w1 w' := fun w1 u hu => by
    have h := rmay_any R u w1 (by rw [HF.out.1]; exact hu)
    have e1 : itemV R u = .agg #[.int .u8 (k.toNat : Int), .int .u32 (i1 : Int), .int .u32 (i5 : Int), .int .i64 (i9 : Int), u] := by
      rw [HF.out.1, wV_of i1 HN.out.1, wV_of i5 HN.out.2.1]
      rfl
    rw [← e1]
    exact h
  have hvl : (List.take x.toNat (List.drop 12 l)).length = x.toNat := by simp; omega
  generalize List.take x.toNat (List.drop 12 l) = val at *
  have Hmay := Lib.hid hmay
  have HQ := Lib.hid (And.intro (show W.drew.heap[w.heap.size]? = _ from q1) (And.intro (show W.drew.heap[w.heap.size + 1]? = _ from q2) (And.intro hBW.drew (And.intro (show W.drew.heap.size = _ from hz) hvl))))
  have Hcut := Lib.hid (hcut.step ((Below.refl W.heap.size W).drew))
  clear hmay q1 q2 hBW hz hW hVW hcut HX HG c0 c11 hvl d1 d2
  have i1' : (12 : Int) ≤ 12 + (x.toNat : Int) := by omega
  have i2' : 12 + (x.toNat : Int) ≤ (c : Int) := by omega
  refine wp_region_tail 5 (by kernel_rfl) (by kernel_rfl) ?_
  simp only [List.take_succ_cons, List.take_zero, List.drop_succ_cons, List.drop_zero]
  repeat still_step
  refine wpStill_nil ?_
  generalize W.drew = V at *
  go_wp2_with (
    at_builtin
    refine wpList_appB rfl _ _ 26 rfl V.heap.size 5 Try.underlying26 info_u8 _ [] rfl (OwnB.nil_ _ _ _) 0 V.heap.size _ val rfl Hcut.out (by have := HQ.out.2.2.2.2; simp; omega) (Nat.le_refl _) ?_
    intro u w1 hown1 hB1
    rw [List.nil_append] at hown1
    have hm := hown1.made hB1
    obtain ⟨q1, q2, hBW, hz, hvl⟩ := HQ.out
    have p1 := (hB1.block w.heap.size (by omega)).trans q1
    have p2 := (hB1.block (w.heap.size + 1) (by omega)).trans q2
    have hB2 := below_step hBW hBW.size hB1
    obtain ⟨ua, uc, rfl, u1, u2⟩ := hm.bytes.form hvl
    have a0 := blk_cell p2 0
    have a1 := blk_cell p2 1
    have a2 := blk_cell p2 2
    have a3 := blk_cell p2 3
    have a4 := blk_cell p2 4
    have f4 := blk_frozen p2 4
    simp at a0 a1 a2 a3 a4
    have HP := Lib.hid (And.intro p1 (And.intro p2 (And.intro hB2 (And.intro hm hz))))
    clear p1 p2 q1 q2 hBW hz hvl hB1 hB2 hown1 hm c5 hsl)
  obtain ⟨p1, p2, hB1, hm, hz⟩ := HP.out
  have p1' : (w1.setCell ⟨w.heap.size + 1, 4, none⟩ (.slice ua x.toNat uc)).heap[w.heap.size]? = _ := (Below.heap_setCell w1 ⟨w.heap.size + 1, 4, none⟩ (.slice ua x.toNat uc) w.heap.size (by simp)).trans p1
  have p2' := set_block p2 4 (.slice ua x.toNat uc)
  simp only [List.setIfInBounds_toArray, List.set_cons_succ, List.set_cons_zero] at p2'
  have hB2 := hB1.setCell (p := ⟨w.heap.size + 1, 4, none⟩) (Nat.le_succ _) (.slice ua x.toNat uc)
  have hb2 := hm.bytes.setOff (g := w.heap.size + 1) (i := 4) (u := .slice ua x.toNat uc) (.inl (by omega))
  have ht2 := hm.thawed.set ⟨w.heap.size + 1, 4, none⟩ (.slice ua x.toNat uc)
  have hs2 : (w1.setCell ⟨w.heap.size + 1, 4, none⟩ (.slice ua x.toNat uc)).heap.size = w1.heap.size := by simp
  clear p1 p2 hB1 hm a0 a1 a2 a3 a4 f4 HP
  generalize w1.setCell ⟨w.heap.size + 1, 4, none⟩ (.slice ua x.toNat uc) = w2 at *
  rw [← hs2] at hb2
  refine (Hmay.out _ _ hb2.all0).mono ?_
  rintro e w3 ⟨rfl, hb3⟩
  have q1 := (hb3.block w.heap.size (by have := (Array.getElem?_eq_some_iff.1 p1').1; omega)).trans p1'
  have q2 := (hb3.block (w.heap.size + 1) (by have := (Array.getElem?_eq_some_iff.1 p2').1; omega)).trans p2'
  have hB3 := below_step hB2 hB2.size hb3
  have hb := hb2.below hb3 (Nat.le_refl _)
  have ht := thawed_below hb2 ht2 hb3 (Nat.le_refl _)
  have hsz : w2.heap.size ≤ w3.heap.size := hb3.size
  clear p1' p2' hB2 hb2 ht2 hb3
  have d0 := blk_cell q1 0
  have d1 := blk_cell q1 1
  have d2 := blk_cell q1 2
  have d3 := blk_cell q1 3
  have d4 := blk_cell q1 4
  have e0 := blk_frozen q1 0
  have e1 := blk_frozen q1 1
  have e2 := blk_frozen q1 2
  have e3 := blk_frozen q1 3
  have e4 := blk_frozen q1 4
  have a0 := blk_cell q2 0
  have a1 := blk_cell q2 1
  have a2 := blk_cell q2 2
  have a3 := blk_cell q2 3
  have a4 := blk_cell q2 4
  simp at a0 a1 a2 a3 a4 d0 d1 d2 d3 d4
  have HW := Lib.hid (And.intro hB3 (And.intro hb (And.intro ht (And.intro hz hsz))))
  clear q1 q2 hB3 hb ht hz hsz hs2
  obtain ⟨hR, hRI, hRN, hRO⟩ := HF.out
  cases hmR : mayI R
  · rw [hmR] at hRI hRN hRO
    have e5 : itemV RI (.slice none 0 0) = .agg #[.int .u8 0, .int .u32 0, .int .u32 0, .int .i64 0, .slice none 0 0] := by rw [hRI]; rfl
    have e6 : (RN : Int) = 0 := by rw [hRN]; rfl
    have e7 : mayE RO = 8 := by rw [hRO]; rfl
    have e8 : RI.val = [] := by rw [hRI]; rfl
    have HE := Lib.hid (And.intro e5 (And.intro e6 (And.intro e7 e8)))
    clear hR hRI hRN hRO e5 e6 e7 e8 hmR
    go_wp2_with fail
    refine bodyPost_ret (v := .tuple #[.agg #[.int .u8 0, .int .u32 0, .int .u32 0, .int .i64 0, .slice none 0 0], .int .i64 0, .int .i64 8]) (by simp [results, Try.results111, go_sem, d0, d1, d2, d3, d4]) rfl ⟨.slice none 0 0, ?_, ?_⟩
    · rw [HE.out.1, HE.out.2.1, HE.out.2.2.1]
    · rw [HE.out.2.2.2]
      refine MadeB.nil_ ?_
      exact ((((HW.out.1.setCell (p := ⟨w.heap.size, 0, none⟩) (Nat.le_refl _) _).setCell (p := ⟨w.heap.size, 1, none⟩) (Nat.le_refl _) _).setCell (p := ⟨w.heap.size, 2, none⟩) (Nat.le_refl _) _).setCell (p := ⟨w.heap.size, 3, none⟩) (Nat.le_refl _) _).setCell (p := ⟨w.heap.size, 4, none⟩) (Nat.le_refl _) _
  · rw [hmR] at hRI hRN hRO
    have e5 : itemV RI (.slice ua x.toNat uc) = .agg #[.int .u8 (k.toNat : Int), .int .u32 (i1 : Int), .int .u32 (i5 : Int), .int .i64 (i9 : Int), .slice ua x.toNat uc] := by
      rw [hRI, if_pos rfl, hR, wV_of i1 HN.out.1, wV_of i5 HN.out.2.1]; rfl
    have e6 : (RN : Int) = 12 + (x.toNat : Int) := by rw [hRN, if_pos rfl]; omega
    have e7 : mayE RO = 0 := by rw [hRO]; rfl
    have e8 : RI.val = val := by rw [hRI, if_pos rfl, hR]
    have HE := Lib.hid (And.intro e5 (And.intro e6 (And.intro e7 e8)))
    clear hR hRI hRN hRO e5 e6 e7 e8 hmR
    go_wp2_with fail
    refine bodyPost_ret (v := .tuple #[.agg #[.int .u8 (k.toNat : Int), .int .u32 (i1 : Int), .int .u32 (i5 : Int), .int .i64 (i9 : Int), .slice ua x.toNat uc], .int .i64 (12 + (x.toNat : Int)), .int .i64 0]) (by simp [results, Try.results111, go_sem, d0, d1, d2, d3, d4]) rfl ⟨.slice ua x.toNat uc, ?_, ?_⟩
    · rw [HE.out.1, HE.out.2.1, HE.out.2.2.1]
    · rw [HE.out.2.2.2]
      obtain ⟨hB3, hb, ht, hz, hsz⟩ := HW.out
      have s1 : w.heap.size < V.heap.size := by omega
      refine ⟨?_, ?_, ?_⟩
      · refine Bytes.more (lo := V.heap.size) (hi := w2.heap.size) ?_ (by omega) (by simp; omega)
        exact ((((hb.setOff (.inl s1)).setOff (.inl s1)).setOff (.inl s1)).setOff (.inl s1)).setOff (.inl s1)
      · exact ((((ht.set _ _).set _ _).set _ _).set _ _).set _ _
      · exact ((((hB3.setCell (p := ⟨w.heap.size, 0, none⟩) (Nat.le_refl _) _).setCell (p := ⟨w.heap.size, 1, none⟩) (Nat.le_refl _) _).setCell (p := ⟨w.heap.size, 2, none⟩) (Nat.le_refl _) _).setCell (p := ⟨w.heap.size, 3, none⟩) (Nat.le_refl _) _).setCell (p := ⟨w.heap.size, 4, none⟩) (Nat.le_refl _) _

theorem rread_any (v : Value) (l : List UInt8) (w : World) (hv : Bytes w 0 w.heap.size v l) :
    Calls Try.prog 111 #[v] w fun e w' => ∃ u, e = .returned (.tuple #[itemV (readI l) u, .int .i64 (readN l), .int .i64 (mayE (readOk l))]) ∧ MadeB w w' u (readI l).val := by
  cases h : lenOk l
  · have h1 : readOk l = false := by unfold readOk; rw [h]; rfl
    have h2 : readI l = zeroI := by unfold readI; rw [h1]; rfl
    have h3 : readN l = 0 := by unfold readN; rw [h1]; rfl
    rw [h1, h2, h3]
    exact (rread_no v l w hv h).mono fun e w' ⟨he, hB⟩ => ⟨_, he, MadeB.nil_ hB⟩
  · exact rread_yes v l w hv h
end Go.Proofs.Ytkfgegdnpinbdaa

namespace Go.Proofs.Ytkfgegdnpinbdaa
open Go.RowKit

set_option maxRecDepth 100000 in
set_option maxHeartbeats 1000000 in
/-- (*dev.heap).clone. -/
theorem hclone_any (g gh o r : Nat) (L : List UInt8) (v : Value) (l : List UInt8) (lo hi : Nat) (w : World) (hrow : RowB w g 5 L) (hbox : w.heap[gh]? = some (.cells #[.slice (some ⟨g, o, none⟩) r r] 127 (0, 0)))
    (hne : g ≠ gh) (hv : Bytes w lo hi v l) (hl : l.length ≤ r) (hr : o + r ≤ L.length) :
    Calls Try.prog 91 #[.pointer (some ⟨gh, 0, none⟩), v] w fun e w' => e = .returned (.slice (some ⟨g, o, none⟩) l.length l.length) ∧ RowB w' g 5 (splice L o l) ∧
      (∃ o', (l.length < r → o' = o + l.length) ∧ o' ≤ L.length ∧ w'.heap[gh]? = some (.cells #[.slice (some ⟨g, o', none⟩) (r - l.length) (r - l.length)] 127 (0, 0))) ∧ Below (min g gh) w w' ∧ w'.heap.size = w.heap.size ∧ ∀ k, k ≠ g → k ≠ gh → w'.heap[k]? = w.heap[k]? := by
  have c0 := blk_cell hbox 0
  simp at c0
  go_enter Try.func91, Try.ntmps91
  go_upto_region 2 with (refine wpList_copyF rfl (.tmp 9) (.tmp 10) 127 26 rfl 5 Try.underlying127 info_u8 g o r r rfl L hrow lo hi v l rfl hv hl (by omega) ?_; intro w1 hrow1 hO)
  have hbox1 := (hO.2.2 gh (Ne.symm hne)).trans hbox
  have c1 := blk_cell hbox1 0
  have f1 := blk_frozen hbox1 0
  simp at c1
  have hw : ∀ x : Int, 0 ≤ x → x < 9223372036854775808 → IntKind.i64.wrap x = x := fun x h1 h2 => IntWalk.i64_in x (by omega)
  have HO := Lib.hid (And.intro hrow1 (And.intro hO hbox1))
  have e1 : (l.length : Int) ≤ r := by omega
  clear hw hrow1 hO hbox1 hrow hbox c0
  have hfin : ∀ u, RowB (w1.setCell ⟨gh, 0, none⟩ u) g 5 (splice L o l) ∧ (w1.setCell ⟨gh, 0, none⟩ u).heap[gh]? = some (.cells #[u] 127 (0, 0)) ∧ Below (min g gh) w (w1.setCell ⟨gh, 0, none⟩ u) ∧ (w1.setCell ⟨gh, 0, none⟩ u).heap.size = w.heap.size ∧ ∀ k, k ≠ g → k ≠ gh → (w1.setCell ⟨gh, 0, none⟩ u).heap[k]? = w.heap[k]? := by
    intro u
    obtain ⟨h1, ⟨h2, h3, h4⟩, h5⟩ := HO.out
    have hb : Below (min g gh) w (w1.setCell ⟨gh, 0, none⟩ u) := (h2.mono (Nat.min_le_left _ _)).setCell (p := ⟨gh, 0, none⟩) (Nat.min_le_right _ _) _
    have hoth : ∀ k, k ≠ gh → (w1.setCell ⟨gh, 0, none⟩ u).heap[k]? = w1.heap[k]? := fun k hk => by
      simp [World.setCell, Array.getElem?_modify, Ne.symm hk]
    refine ⟨(hoth g hne).trans h1, by rw [set_block h5]; rfl, hb, by rw [World.size_setCell]; exact h3, fun k k1 k2 => (hoth k k2).trans (h4 k k1)⟩
  have HF := Lib.hid hfin
  clear hfin HO
  rcases Nat.eq_or_lt_of_le hl with he | he
  · subst he
    go_wp2
    go_ret
    obtain ⟨q1, q2, q3, q4, q5⟩ := HF.out _
    exact ⟨rfl, q1, ⟨o, fun h => absurd h (Nat.lt_irrefl _), by omega, by simpa using q2⟩, q3, q4, q5⟩
  · have hne2 : ¬ r = l.length := by omega
    go_wp2
    go_ret
    obtain ⟨q1, q2, q3, q4, q5⟩ := HF.out _
    exact ⟨rfl, q1, ⟨o + l.length, fun _ => rfl, by omega, q2⟩, q3, q4, q5⟩

end Go.Proofs.Ytkfgegdnpinbdaa

namespace Go.Proofs.Ytkfgegdnpinbdaa
open Go.RowKit

theorem thawed_kept {w w' : World} {lo hi : Nat} {v : Value} {l : List UInt8} (h : Bytes w lo hi v l) (ht : Thawed w v) (hk : Kp lo hi w w') : Thawed w' v := by
  intro b off n c e i hi'
  obtain ⟨a, c', e', h1, h2, h3, h4⟩ := h
  subst e
  cases e'
  obtain ⟨b', off', ea, hlo, hhi, _⟩ := h3 (by omega)
  cases ea
  exact ((hk b (off + i) hlo hhi).2).trans (ht _ _ _ _ rfl i hi')
def rBytesT : Rd (List UInt8) where
  n := 1
  R w lo hi x f := ∃ v, f 0 = some v ∧ Bytes w lo hi v x ∧ Thawed w v
  keep hk h := by obtain ⟨v, h1, h2, h3⟩ := h; exact ⟨v, h1, h2.kept hk, thawed_kept h2 h3 hk⟩
  more h1 h2 h := by obtain ⟨v, g1, g2, g3⟩ := h; exact ⟨v, g1, g2.more h1 h2, g3⟩
  ext he h := by obtain ⟨v, g1, g2, g3⟩ := h; exact ⟨v, (he 0 (by decide)) ▸ g1, g2, g3⟩
def rWriteT : Rd WrL where
  n := 2
  R w lo hi x f := f 0 = some (.int .i64 x.at_) ∧ (Lit.int .i64 x.at_).wf = true ∧ ∃ v, f 1 = some v ∧ Bytes w lo hi v x.data ∧ Thawed w v
  keep hk h := by obtain ⟨g0, g1, v, h1, h2, h3⟩ := h; exact ⟨g0, g1, v, h1, h2.kept hk, thawed_kept h2 h3 hk⟩
  more h1 h2 h := by obtain ⟨g0, g1, v, k1, k2, k3⟩ := h; exact ⟨g0, g1, v, k1, k2.more h1 h2, k3⟩
  ext he h := by obtain ⟨g0, g1, v, k1, k2, k3⟩ := h; exact ⟨(he 0 (by decide)) ▸ g0, g1, v, (he 1 (by decide)) ▸ k1, k2, k3⟩
theorem Sl.imp {α : Type} {r r' : Rd α} {w : World} {lo hi : Nat} {v : Value} {l : List α} (h : Sl r w lo hi v l) (hn : r'.n = r.n) (hi' : ∀ x f, r.R w lo hi x f → r'.R w lo hi x f) : Sl r' w lo hi v l := by
  obtain ⟨a, c, e, h1, h2, h3, h4⟩ := h
  refine ⟨a, c, e, h1, h2, fun hp => ?_, h4⟩
  obtain ⟨b, off, ea, hlo, hhi, hc⟩ := h3 hp
  exact ⟨b, off, ea, hlo, hhi, fun i x hx => by rw [hn]; exact hi' _ _ (hc i x hx)⟩
/-- A disk whose bytes may be written. -/
def DiskT (w : World) (lo hi : Nat) (b u : Value) (d : DiskL) : Prop := Sl rBytesT w lo hi b d.blocks ∧ Sl rWriteT w lo hi u d.waits
theorem DiskT.v {w : World} {lo hi : Nat} {b u : Value} {d : DiskL} (h : DiskT w lo hi b u d) : DiskV w lo hi b u d :=
  ⟨h.1.imp rfl fun _ _ ⟨v, g1, g2, _⟩ => ⟨v, g1, g2⟩, h.2.imp rfl fun _ _ ⟨g0, g1, v, g2, g3, _⟩ => ⟨g0, g1, v, g2, g3⟩⟩
theorem DiskV.step {w w' : World} {lo : Nat} {b u : Value} {d : DiskL} (h : DiskV w lo w.heap.size b u d) (hb : Below w.heap.size w w') : DiskV w' lo w'.heap.size b u d := ⟨h.1.step hb, h.2.step hb⟩
theorem DiskT.below {w w' : World} {lo hi B : Nat} {b u : Value} {d : DiskL} (h : DiskT w lo hi b u d) (hb : Below B w w') (hB : hi ≤ B) : DiskT w' lo hi b u d := ⟨h.1.below hb hB, h.2.below hb hB⟩
theorem DiskT.more {w : World} {lo hi lo' hi' : Nat} {b u : Value} {d : DiskL} (h : DiskT w lo hi b u d) (h1 : lo' ≤ lo) (h2 : hi ≤ hi') : DiskT w lo' hi' b u d := ⟨h.1.more h1 h2, h.2.more h1 h2⟩
theorem DiskV.more {w : World} {lo hi lo' hi' : Nat} {b u : Value} {d : DiskL} (h : DiskV w lo hi b u d) (h1 : lo' ≤ lo) (h2 : hi ≤ hi') : DiskV w lo' hi' b u d := ⟨h.1.more h1 h2, h.2.more h1 h2⟩
theorem DiskV.nil_ (w : World) (lo hi : Nat) : DiskV w lo hi (.slice none 0 0) (.slice none 0 0) ⟨[], []⟩ := ⟨Sl.nil_ _ _ _, Sl.nil_ _ _ _⟩
theorem DiskT.nil_ (w : World) (lo hi : Nat) : DiskT w lo hi (.slice none 0 0) (.slice none 0 0) ⟨[], []⟩ := ⟨Sl.nil_ _ _ _, Sl.nil_ _ _ _⟩
/-- A disk that a call made. -/
structure MadeD (w w' : World) (b u : Value) (d : DiskL) : Prop where
  disk : DiskT w' w.heap.size w'.heap.size b u d
  below : Below w.heap.size w w'
theorem MadeD.nil_ {w w' : World} (h : Below w.heap.size w w') : MadeD w w' (.slice none 0 0) (.slice none 0 0) ⟨[], []⟩ := ⟨DiskT.nil_ _ _ _, h⟩
theorem MadeD.v0 {w w' : World} {b u : Value} {d : DiskL} (h : MadeD w w' b u d) : DiskV w' 0 w'.heap.size b u d := h.disk.v.more (Nat.zero_le _) (Nat.le_refl _)

theorem named_w {B : Nat} {a w : World} (_ : Below B a w) : ∃ v, v = w := ⟨_, rfl⟩

/-- Where the k-th list begins. -/
def posD (D : List (List UInt8)) (k : Nat) : Nat := (D.take k).flatten.length
/-- What is laid when k lists are laid. -/
def laid (D : List (List UInt8)) (k : Nat) : List UInt8 := (D.take k).flatten ++ List.replicate (D.flatten.length - posD D k) 0
theorem flat_split (D : List (List UInt8)) (k : Nat) : D.flatten = (D.take k).flatten ++ (D.drop k).flatten := by
  rw [← List.flatten_append, List.take_append_drop]
theorem flat_succ (D : List (List UInt8)) (k : Nat) (h : k < D.length) : (D.take (k + 1)).flatten = (D.take k).flatten ++ D.getD k [] := by
  rw [List.take_add_one, List.flatten_append]
  simp [h]
theorem posD_zero (D : List (List UInt8)) : posD D 0 = 0 := by simp [posD]
theorem posD_succ (D : List (List UInt8)) (k : Nat) (h : k < D.length) : posD D (k + 1) = posD D k + (D.getD k []).length := by
  unfold posD
  rw [flat_succ D k h, List.length_append]
theorem posD_le (D : List (List UInt8)) (k : Nat) : posD D k ≤ D.flatten.length := by
  have := congrArg List.length (flat_split D k)
  rw [List.length_append] at this
  unfold posD
  omega
theorem posD_all (D : List (List UInt8)) : posD D D.length = D.flatten.length := by simp [posD]
theorem laid_zero (D : List (List UInt8)) : laid D 0 = List.replicate D.flatten.length 0 := by simp [laid, posD]
theorem laid_length (D : List (List UInt8)) (k : Nat) : (laid D k).length = D.flatten.length := by
  have := posD_le D k
  unfold laid
  rw [List.length_append, List.length_replicate]
  unfold posD at *
  omega
theorem laid_all (D : List (List UInt8)) : laid D D.length = D.flatten := by simp [laid, posD_all]
theorem splice_laid (D : List (List UInt8)) (k o : Nat) (h : k < D.length) (ho : posD D k < D.flatten.length → o = posD D k) : splice (laid D k) o (D.getD k []) = laid D (k + 1) := by
  have h1 := posD_succ D k h
  have h2 := flat_succ D k h
  have h3 := posD_le D (k + 1)
  rcases Nat.eq_zero_or_pos (D.getD k []).length with h0 | h0
  · have e : D.getD k [] = [] := List.eq_nil_of_length_eq_zero h0
    rw [e] at h1 h2 ⊢
    simp only [List.length_nil, Nat.add_zero, List.append_nil] at h1 h2
    unfold laid
    rw [h1, h2]
    simp [splice]
  · obtain rfl := ho (by omega)
    unfold laid splice
    rw [h2, h1]
    have e1 : (D.take k).flatten.length = posD D k := rfl
    rw [List.take_left' e1, List.drop_append, e1, show posD D k + (D.getD k []).length - posD D k = (D.getD k []).length by omega, List.drop_eq_nil_of_le (by omega), List.nil_append, List.drop_replicate, List.append_assoc]
    congr 3
    omega
theorem cut_laid (D : List (List UInt8)) (j : Nat) (h : j < D.length) : (D.flatten.drop (posD D j)).take (D.getD j []).length = D.getD j [] := by
  rw [flat_split D j, show posD D j = (D.take j).flatten.length from rfl, List.drop_left]
  have e : D.getD j [] = D[j] := by simp [h]
  rw [List.drop_eq_getElem_cons h, List.flatten_cons, e, List.take_left]
/-- All the bytes of a disk. -/
def datD (d : DiskL) : List (List UInt8) := d.blocks ++ d.waits.map WrL.data
theorem datD_length (d : DiskL) : (datD d).length = d.blocks.length + d.waits.length := by simp [datD]
theorem datD_b (d : DiskL) (k : Nat) (h : k < d.blocks.length) : (datD d).getD k [] = d.blocks.getD k [] := by
  simp [datD, List.getElem?_append_left h]
theorem datD_w (d : DiskL) (k : Nat) (h : k < d.waits.length) : (datD d).getD (d.blocks.length + k) [] = (d.waits.getD k ⟨0, []⟩).data := by
  simp [datD, h]

/-- But for three blocks all that was there is as it was. -/
def Oth3 (a b c : Nat) (w w' : World) : Prop := w.heap.size ≤ w'.heap.size ∧ ∀ k, k < w.heap.size → k ≠ a → k ≠ b → k ≠ c → w'.heap[k]? = w.heap[k]?
theorem Oth3.refl (a b c : Nat) (w : World) : Oth3 a b c w w := ⟨Nat.le_refl _, fun _ _ _ _ _ => rfl⟩
theorem Oth3.trans {a b c : Nat} {w w1 w2 : World} (h : Oth3 a b c w w1) (k : Oth3 a b c w1 w2) : Oth3 a b c w w2 := ⟨Nat.le_trans h.1 k.1, fun x h0 h1 h2 h3 => (k.2 x (Nat.lt_of_lt_of_le h0 h.1) h1 h2 h3).trans (h.2 x h0 h1 h2 h3)⟩
theorem Oth3.of2 {a b c : Nat} {w w1 : World} (h : w1.heap.size = w.heap.size) (k : ∀ x, x ≠ a → x ≠ b → w1.heap[x]? = w.heap[x]?) : Oth3 a b c w w1 := ⟨Nat.le_of_eq h.symm, fun x _ h1 h2 _ => k x h1 h2⟩
theorem Oth3.ofB {a b c : Nat} {w w1 : World} (h : Below w.heap.size w w1) : Oth3 a b c w w1 := ⟨h.size, fun x h0 _ _ _ => h.block x h0⟩
theorem set_other (w : World) (c o : Nat) (u : Value) (k : Nat) (h : k ≠ c) : (w.setCell ⟨c, o, none⟩ u).heap[k]? = w.heap[k]? := by
  simp [World.setCell, Array.getElem?_modify, Ne.symm h]
theorem Oth3.set_ {a b c : Nat} (w : World) (o : Nat) (u : Value) : Oth3 a b c w (w.setCell ⟨c, o, none⟩ u) := ⟨Nat.le_of_eq (World.size_setCell _ _ _).symm, fun k _ _ _ h => set_other w c o u k h⟩
theorem heap_cell {w w' : World} {b : Nat} (h : w'.heap[b]? = w.heap[b]?) (o : Nat) : w'.cell? ⟨b, o, none⟩ = w.cell? ⟨b, o, none⟩ := by
  unfold World.cell?
  simp [h]
theorem heap_frozen {w w' : World} {b : Nat} (h : w'.heap[b]? = w.heap[b]?) (o : Nat) : w'.frozen? ⟨b, o, none⟩ = w.frozen? ⟨b, o, none⟩ := by
  unfold World.frozen?
  simp [h]
end Go.Proofs.Ytkfgegdnpinbdaa

namespace Go.Proofs.Ytkfgegdnpinbdaa
open Go.RowKit

/-- A world of which Pr holds: W itself, if it holds of that. -/
noncomputable def selW (Pr : World → Prop) (w0 W : World) : World := by
  classical exact if Pr W then W else w0
theorem selW_pr {Pr : World → Prop} {w0 : World} (h : Pr w0) (W : World) : Pr (selW Pr w0 W) := by
  unfold selW
  split
  · assumption
  · exact h
theorem selW_of {Pr : World → Prop} {w0 W : World} (h : Pr W) : selW Pr w0 W = W := by
  unfold selW
  rw [if_pos h]
def Kl (Pr : World → Prop) (w0 w' : World) : Prop := ∃ W, w' = selW Pr w0 W
attribute [go_sem] Kl
theorem Kl.of {Pr : World → Prop} {w0 w' : World} (h : Pr w') : Kl Pr w0 w' := ⟨w', (selW_of h).symm⟩

/-- Whatever comes up, in whatever order; but for number z, the world behind it is of the class. -/
def wpAnyL (P : Program) (md : Region.Mode) (ops : Array Oper) (Q : Exit → Act → World → Prop) (S : World → Prop) (z : Nat) : Nat → Array Bool → Act → World → Prop
  | 0, listed, a, w => Region.ready md ops listed = [] ∧ Q .normal a w
  | n + 1, listed, a, w => (Region.ready md ops listed = [] → Q .normal a w) ∧ ∀ i ∈ Region.ready md ops listed,
      wpOp P ops Q i (fun a' w' => (i = z ∨ S w') ∧ wpAnyL P md ops Q S z n (listed.setIfInBounds i true) a' w') a w

/-- Each operation but z is waited for by a later one; and where one is listed, so is what it waits for. -/
def lastOk (md : Region.Mode) (ops : Array Oper) (z : Nat) (listed : Array Bool) : Bool :=
  (decide (listed.size = ops.size) && (List.range ops.size).all fun j => j == z || (List.range ops.size).any fun k => decide (j < k) && ((ops[k]?).map fun o => o.after.any fun e => Region.binds md e && e.on == j).getD false) &&
  (List.range ops.size).all fun k => !(listed.getD k true) || ((ops[k]?).map fun o => o.after.all fun e => !Region.binds md e || listed.getD e.on false).getD false

section
variable {P : Program} {ops : Array Oper} {Q : Exit → Act → World → Prop} {md : Region.Mode} {S : World → Prop} {z : Nat}

theorem wpAny_ofL : ∀ (n : Nat) (listed : Array Bool) (a : Act) (w : World), wpAnyL P md ops Q S z n listed a w → wpAny P md ops Q n listed a w
  | 0, _, _, _, h => h
  | n + 1, _, _, _, h => ⟨h.1, fun i hi => wpOp_mono (fun a' w' h' => wpAny_ofL n _ a' w' h'.2) (h.2 i hi)⟩

structure Down (md : Region.Mode) (ops : Array Oper) (z : Nat) (listed : Array Bool) : Prop where
  size : listed.size = ops.size
  wait : ∀ j, j < ops.size → j ≠ z → ∃ k o e, j < k ∧ ops[k]? = some o ∧ e ∈ o.after ∧ Region.binds md e = true ∧ e.on = j
  down : ∀ k o e, ops[k]? = some o → listed.getD k true = true → e ∈ o.after → Region.binds md e = true → listed.getD e.on false = true
theorem Down.of {listed : Array Bool} (h : lastOk md ops z listed = true) : Down md ops z listed := by
  simp only [lastOk, Bool.and_eq_true, List.all_eq_true, List.mem_range, Bool.or_eq_true, beq_iff_eq, List.any_eq_true, decide_eq_true_eq] at h
  obtain ⟨⟨h0, h1⟩, h2⟩ := h
  refine ⟨h0, fun j hj hz => ?_, fun k o e hk hl he hb => ?_⟩
  · rcases h1 j hj with h | ⟨k, hk, hjk, hx⟩
    · exact absurd h hz
    · simp only [Array.getElem?_eq_getElem hk, Option.map_some, Option.getD_some, Array.any_eq_true', Bool.and_eq_true, beq_iff_eq] at hx
      obtain ⟨e, he, hb, ho⟩ := hx
      exact ⟨k, ops[k], e, hjk, by simp [hk], he, hb, ho⟩
  · have hk' := (Array.getElem?_eq_some_iff.1 hk).1
    have := h2 k hk'
    simp only [hl, Bool.not_true, Bool.false_eq_true, false_or, hk, Option.map_some, Option.getD_some, Array.all_eq_true'] at this
    have := this e he
    simpa [hb] using this
theorem Down.set_ {listed : Array Bool} (h : Down md ops z listed) {i : Nat} (hi : i ∈ Region.ready md ops listed) : Down md ops z (listed.setIfInBounds i true) := by
  refine ⟨by simp [h.size], h.wait, fun k o e hk hl he hb => ?_⟩
  rcases Decidable.em (i = k) with rfl | hik
  · obtain ⟨_, o', ho', hall⟩ := mem_ready.1 hi
    rw [hk] at ho'; cases ho'
    exact getD_set_true (hall e he hb)
  · rw [getD_set_ne true hik] at hl
    exact getD_set_true (h.down k o e hk hl he hb)
/-- Where z may come up, nothing else may. -/
theorem Down.last {listed : Array Bool} (h : Down md ops z listed) (hz : z ∈ Region.ready md ops listed) : ∀ j, listed.getD j true = false → j < ops.size → j = z := by
  obtain ⟨hzu, oz, hoz, hall⟩ := mem_ready.1 hz
  have key : ∀ n j, ops.size - j ≤ n → listed.getD j true = false → j < ops.size → j = z := by
    intro n
    induction n with
    | zero => intro j hn _ hlt; omega
    | succ n ih =>
      intro j hn hu hlt
      rcases Decidable.em (j = z) with rfl | hjz
      · rfl
      · exfalso
        obtain ⟨k, o, e, hjk, hk, he, hb, ho⟩ := h.wait j hlt hjz
        have hk' := (Array.getElem?_eq_some_iff.1 hk).1
        have hju : listed.getD j false = false := by rw [getD_any listed j false true (by rw [h.size]; exact hlt)]; exact hu
        cases hku : listed.getD k true with
        | true =>
          have := h.down k o e hk hku he hb
          rw [ho, hju] at this
          cases this
        | false =>
          have := ih k (by omega) hku hk'
          subst this
          rw [hk] at hoz; cases hoz
          have := hall e he hb
          rw [ho, hju] at this
          cases this
  exact fun j => key _ j (Nat.le_refl _)

theorem unlisted {listed : Array Bool} {i j : Nat} (hj : j ∈ Region.ready md ops listed) (hi : i ∈ Region.ready md ops listed) :
    ∀ oj, ops[j]? = some oj → ∀ e ∈ oj.after, Region.binds md e = true → e.on ≠ i := by
  intro oj hoj e he hb heq
  obtain ⟨_, o, ho, hall⟩ := mem_ready.1 hj
  rw [hoj] at ho
  cases ho
  have h1 := hall e he hb
  have h0 := (mem_ready.1 hi).1
  rw [heq] at h1
  rcases Nat.lt_or_ge i listed.size with h | h
  · rw [getD_any listed i true false h, h1] at h0; cases h0
  · simp [Array.getD, Nat.not_lt.2 h] at h1

theorem wpAnyL_first {i : Nat} {oi : Oper} {v : Value} (hi : ops[i]? = some oi) (hiz : i ≠ z) (hsel : ∀ (j : Nat) (o : Oper) cs b, ops[j]? = some o → o.op ≠ .select cs b)
    (hQ : ∀ c a w, Q (.panic c) (a.put oi.dst v) w → Q (.panic c) a w) (n : Nat) : ∀ (listed : Array Bool) (a : Act) (w : World), Down md ops z listed →
      (∀ j oj, ops[j]? = some oj → j ≠ i → listed.getD j true = false → (∀ e ∈ oj.after, Region.binds md e = true → e.on ≠ i) → oi.apart ops oj = true) →
      i ∈ Region.ready md ops listed → YieldsIf P ops S oi v a → S w →
      wpAnyL P md ops Q S z n (listed.setIfInBounds i true) (a.put oi.dst v) w → wpAnyL P md ops Q S z (n + 1) listed a w := by
  induction n with
  | zero =>
    intro listed a w _ _ hr hy hS H
    refine ⟨fun h => (by rw [h] at hr; cases hr), fun j hj => ?_⟩
    rcases Decidable.em (j = i) with rfl | hji
    · exact hy.wpOp hi hS ⟨.inr hS, H⟩
    · have := ready_mono hj hji
      rw [H.1] at this
      cases this
  | succ n ih =>
    intro listed a w hd hfree hr hy hS H
    refine ⟨fun h => (by rw [h] at hr; cases hr), fun j hj => ?_⟩
    rcases Decidable.em (j = i) with rfl | hji
    · exact hy.wpOp hi hS ⟨.inr hS, H⟩
    · obtain ⟨hjun, oj, hoj, -⟩ := mem_ready.1 hj
      have hjz : j ≠ z := by
        rintro rfl
        obtain ⟨h0, o, ho, _⟩ := mem_ready.1 hr
        exact hiz (hd.last hj i h0 (Array.getElem?_eq_some_iff.1 ho).1)
      refine wpOp_mono (fun a' w' h3 => ?_) (wpOp_putIf hoj (hfree j oj hoj hji hjun (unlisted hj hr oj hoj)) (fun cs b => hsel i oi cs b hi) (fun cs b => hsel j oj cs b hoj) hQ hy (H.2 j (ready_mono hj hji)))
      obtain ⟨hy', hS' | hS', H'⟩ := h3
      · exact absurd hS' hjz
      refine ⟨.inr hS', ih (listed.setIfInBounds j true) a' w' (hd.set_ hj) (fun k ok hk hki hun hno => ?_) (ready_mono hr (Ne.symm hji)) hy' hS' ?_⟩
      · refine hfree k ok hk hki ?_ hno
        rcases Decidable.em (j = k) with rfl | hjk
        · exact hjun
        · rwa [getD_set_ne true hjk] at hun
      · rw [Array.setIfInBounds_comm _ _ hji]
        exact H'

theorem wpAnyL_seg (hs : Region.noSelect ops = true) (hQ : ∀ c (d : Option Tmp) (v : Value) (a : Act) w, Q (.panic c) (a.put d v) w → Q (.panic c) a w) {fuel : Nat} {w : World} (hS : S w) :
    ∀ (q : List Nat) (n : Nat) (listed : Array Bool) (a : Act), lastOk md ops z listed = true → segOk md ops q listed = true → q.contains z = false → n = q.length + fuel →
      wpQuiet P ops S (fun a' => wpAnyL P md ops Q S z fuel (listAll q listed) a' w) (opsOf ops q) a → wpAnyL P md ops Q S z n listed a w := by
  suffices hD : ∀ (q : List Nat) (n : Nat) (listed : Array Bool) (a : Act), Down md ops z listed → segOk md ops q listed = true → q.contains z = false → n = q.length + fuel →
      wpQuiet P ops S (fun a' => wpAnyL P md ops Q S z fuel (listAll q listed) a' w) (opsOf ops q) a → wpAnyL P md ops Q S z n listed a w from fun q n listed a h => hD q n listed a (Down.of h)
  intro q
  induction q with
  | nil =>
    intro n listed a _ _ _ hn h
    subst hn
    simpa [opsOf, wpQuiet, listAll] using h
  | cons i q ih =>
    intro n listed a hd hok hz hn h
    simp only [segOk, Bool.and_eq_true] at hok
    simp only [List.contains_cons, Bool.or_eq_false_iff, beq_eq_false_iff_ne, ne_eq] at hz
    obtain ⟨⟨⟨hr, hf⟩, hc⟩, hok'⟩ := hok
    cases hoi : ops[i]? with
    | none => simp [hoi] at hc
    | some o =>
      simp only [hoi, Option.map_some, Option.getD_some] at hc
      have hl' : opsOf ops (i :: q) = o :: opsOf ops q := by rw [opsOf_cons, hoi, consOp_some]
      rw [hl'] at h
      obtain rfl : n = (q.length + fuel) + 1 := by simp at hn; omega
      have hri : i ∈ Region.ready md ops listed := by simpa using hr
      simp only [wpQuiet] at h
      split at h
      · rename_i hw
        obtain ⟨v, hv, hK⟩ := h
        exact wpAnyL_first hoi (Ne.symm hz.1) (Region.noSelect_spec hs) (fun c a w => hQ c _ _ a w) _ listed a w hd (Region.free_spec hoi hf) hri (.inl ⟨hw, fun w' hw' => calm_val hc (hv w' hw')⟩) hS (ih _ _ _ (hd.set_ hri) hok' hz.2 rfl hK)
      · rename_i hw
        exact wpAnyL_first hoi (Ne.symm hz.1) (Region.noSelect_spec hs) (fun c a w => hQ c _ _ a w) _ listed a w hd (Region.free_spec hoi hf) hri (.inr ⟨by simpa using hw, rfl⟩) hS (ih _ _ _ (hd.set_ hri) hok' hz.2 rfl h)

/-- What is still to come behind operation i. -/
def AfterL (P : Program) (md : Region.Mode) (ops : Array Oper) (Q : Exit → Act → World → Prop) (S : World → Prop) (z fuel : Nat) (listed : Array Bool) (i : Nat) (K : Act → World → Prop) : Prop :=
  ∀ a w, (i = z ∨ S w) → wpAnyL P md ops Q S z fuel (listed.setIfInBounds i true) a w → K a w
theorem AfterL.out {fuel : Nat} {listed : Array Bool} {i : Nat} {K : Act → World → Prop} (h : AfterL P md ops Q S z fuel listed i K) {a : Act} {w : World} (hS : i = z ∨ S w) (hW : wpAnyL P md ops Q S z fuel (listed.setIfInBounds i true) a w) : K a w := h a w hS hW
/-- Each of those that may come up now. -/
def EachL (P : Program) (md : Region.Mode) (ops : Array Oper) (Q : Exit → Act → World → Prop) (S : World → Prop) (z fuel : Nat) (listed : Array Bool) (a : Act) (w : World) (rs : List Nat) : Prop :=
  ∀ i ∈ rs, wpOp P ops Q i (fun a' w' => (i = z ∨ S w') ∧ wpAnyL P md ops Q S z fuel (listed.setIfInBounds i true) a' w') a w
theorem EachL.nil {fuel : Nat} {listed : Array Bool} {a : Act} {w : World} : EachL P md ops Q S z fuel listed a w [] := fun _ h => by cases h
theorem EachL.cons {fuel : Nat} {listed : Array Bool} {a : Act} {w : World} {i : Nat} {rs : List Nat} (o : Oper) (ho : ops[i]? = some o)
    (h : ∀ K' : Act → World → Prop, AfterL P md ops Q S z fuel listed i K' → if Region.wanted o (yielded ops a.tmps) = true then Oper.wp P o a w K' Q else K' (a.put o.dst undef) w)
    (hs : EachL P md ops Q S z fuel listed a w rs) : EachL P md ops Q S z fuel listed a w (i :: rs) := fun j hj => by
  rcases List.mem_cons.1 hj with rfl | hj
  · exact wpOp_step ho (fun K' hK => h K' (fun a w hS hW => hK a w ⟨hS, hW⟩))
  · exact hs j hj
theorem wpAnyL_each {n fuel : Nat} {listed : Array Bool} {a : Act} {w : World} (rs : List Nat) (hr : Region.ready md ops listed = rs) (hne : rs ≠ []) (hn : n = fuel + 1)
    (h : EachL P md ops Q S z fuel listed a w rs) : wpAnyL P md ops Q S z n listed a w := by
  subst hn
  exact ⟨fun h0 => absurd (hr ▸ h0) hne, hr ▸ h⟩
theorem wpAnyL_done {listed : Array Bool} {a : Act} {w : World} (hr : Region.ready md ops listed = []) (h : Q .normal a w) : ∀ n, wpAnyL P md ops Q S z n listed a w
  | 0 => ⟨hr, h⟩
  | _ + 1 => ⟨fun _ => h, by rw [hr]; simp⟩
theorem wp_region_L {id : Nat} {a : Act} {w : World} (z : Nat) (hm : P.follows .mixedOrders = true) (hS : S w.drew)
    (h : S w.drew → wpAnyL P .any ops Q S z ops.size (Array.replicate ops.size false) a w.drew) : (Code.region id ops true).wp P Q a w :=
  wp_region_any hm (wpAny_ofL _ _ _ _ (h hS))
end
end Go.Proofs.Ytkfgegdnpinbdaa

