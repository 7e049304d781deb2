/- NodeCodes: the words and contracts, part 6. -/
import Derived.Test.YthealkfpflkipaaNodeCodesQ1
import Derived.Test.YthealkfpflkipaaNodeCodesQ2
import Derived.Test.YthealkfpflkipaaNodeCodesQ3
import Derived.Test.YthealkfpflkipaaNodeCodesQ4
import Derived.Test.YthealkfpflkipaaNodeCodesQ5
import Derived.Test.YthealkfpflkipaaChecked
import Derived.WalkKit
import Derived.WalkLawsBesides
import Derived.WalkSpells
import Derived.Lib.Hide
import Derived.Laws.Rows
import Derived.Laws.AppendOwnNone
import Derived.Maps.AppendAt
import Derived.RangeFuncNested
import Derived.RangeFuncBound
import Derived.RangeFuncCalls
import Derived.RangeFuncLeaves
import Derived.RangeFuncBox
import Derived.Shelf.Abstract
import Derived.Shelf.RegionOpen
import Derived.OwnWalkIn
import Derived.TacticsInMore
import Derived.LoopNIn
import Derived.LoopIn
import Derived.ProofKit
import Derived.Deep.Slices
import Derived.WideShapes
import Derived.OrdersHeld
import Derived.Deep.QuietTactic
import Derived.BigQuiet
import Derived.StillTailTactics
import Derived.OpenShut
import Derived.Lib.SliceRun
import Derived.Lib.AppendZerosOnto
import Derived.Lib.Walk
import Derived.Deep.LoopGhost
import Derived.Laws.CopyOwn
import Derived.Deep.DeepCutAuto
namespace Go.Proofs.Ythealkfpflkipaa
open Go.RowKit

/-- What the walk knows of an item that was laid into a block. -/
theorem item_box (x : ItemL) (v : Value) (w : World) (hv : Bytes w 0 w.heap.size v x.val) : ∃ W, w.alloc (.cells #[bV x.key.kind, wV x.key.id, wV x.key.off, .int .i64 x.ref, v] 85) = W ∧ Below w.heap.size w W ∧ Bytes W 0 W.heap.size v x.val ∧ W.heap.size = w.heap.size + 1 ∧
    ∀ W', Below W.heap.size W W' → W'.heap[w.heap.size]? = some (.cells #[bV x.key.kind, wV x.key.id, wV x.key.off, .int .i64 x.ref, v] 85 (0, 0)) := by
  have hB := (Below.refl w.heap.size w).alloc (Nat.le_refl _) (.cells #[bV x.key.kind, wV x.key.id, wV x.key.off, .int .i64 x.ref, v] 85)
  exact ⟨_, rfl, hB, hv.step hB, by simp, one_block _ _⟩
def wrI (x : ItemL) : List UInt8 := if mayI x then itemB x else []
theorem may_ref {x : ItemL} (h : mayI x = true) : 0 ≤ x.ref ∧ x.ref < 256 ∧ x.val.length ≤ 12 := by
  unfold mayI at h
  simp only [decide_eq_true_eq] at h
  omega

set_option maxRecDepth 100000 in
set_option maxHeartbeats 400000 in
theorem rsame_any (x y : ItemL) (v u : Value) (w : World) (hv : Bytes w 0 w.heap.size v x.val) (hu : Bytes w 0 w.heap.size u y.val) :
    Calls Try.prog 92 #[itemV x v, itemV y u] w fun e w' => e = .returned (.bool (decide (x = y))) ∧ Below w.heap.size w w' := by
  have hb1 := (Below.refl w.heap.size w).alloc (Nat.le_refl _) (.cells #[bV x.key.kind, wV x.key.id, wV x.key.off, .int .i64 x.ref, v] 85)
  have hb2 := hb1.alloc (by simp) (.cells #[bV y.key.kind, wV y.key.id, wV y.key.off, .int .i64 y.ref, u] 85)
  have hv2 := hv.step hb2
  have hu2 := hu.step hb2
  have c1 := cv_of hv2
  have c2 := cv_of hu2
  have hk := fun w => eq_key x.key y.key w
  have hg : Try.prog.eqGuardType Try.prog.depth 56 = false := by kernel_rfl
  obtain ⟨a, c, rfl, g1, g2, _, _⟩ := hv
  obtain ⟨a', c', rfl, g1', g2', _, _⟩ := hu
  obtain ⟨kx, r, l⟩ := x
  obtain ⟨ky, s, m⟩ := y
  simp only at *
  clear hv2 hu2
  by_cases h1 : kx = ky
  · subst h1
    rw [decide_eq_true rfl] at hk
    by_cases h2 : r = s
    · subst h2
      have hfin : decide ((⟨kx, r, l⟩ : ItemL) = ⟨kx, r, m⟩) = decide (l = m) := by simp
      rw [hfin]
      clear hfin
      obtain ⟨k, i, o⟩ := kx
      simp only [itemV, keyV, bV, wV] at *
      go_enter Try.func92, Try.ntmps92
      go_wp2
      go_ret
      exact ⟨retB (by rw [Bool.eq_iff_iff]; simp), hb2⟩
    · have hfin : decide ((⟨kx, r, l⟩ : ItemL) = ⟨kx, s, m⟩) = false := by simp [h2]
      have h2' : (r == s) = false := by simp [h2]
      rw [hfin]
      clear hfin
      obtain ⟨k, i, o⟩ := kx
      simp only [itemV, keyV, bV, wV] at *
      go_enter Try.func92, Try.ntmps92
      go_wp2
      go_ret
      exact ⟨rfl, hb2⟩
  · have hfin : decide ((⟨kx, r, l⟩ : ItemL) = ⟨ky, s, m⟩) = false := by simp [h1]
    rw [decide_eq_false h1] at hk
    rw [hfin]
    clear hfin h1
    obtain ⟨k, i, o⟩ := kx
    obtain ⟨k', i', o'⟩ := ky
    simp only [itemV, keyV, bV, wV] at *
    go_enter Try.func92, Try.ntmps92
    go_wp2
    go_ret
    exact ⟨rfl, hb2⟩
set_option maxRecDepth 100000 in
set_option maxHeartbeats 400000 in
theorem rtwin_any (x : ItemL) (v : Value) (w : World) (hv : Bytes w 0 w.heap.size v x.val) (hl : x.val.length ≤ 10000000) :
    Calls Try.prog 67 #[itemV x v] w fun e w' => ∃ u, e = .returned (itemV x u) ∧ MadeB w w' u x.val := by
  have hb1 := (Below.refl w.heap.size w).alloc (Nat.le_refl _) (.cells #[bV x.key.kind, wV x.key.id, wV x.key.off, .int .i64 x.ref, v] 85)
  have hb2 := hb1.alloc (by simp) (.cells #[.int .u8 0, .int .u32 0, .int .u32 0, .int .i64 0, .slice none 0 0] 85)
  have hv2 := hv.step hb2
  obtain ⟨W, hW⟩ : ∃ W, (w.alloc (.cells #[bV x.key.kind, wV x.key.id, wV x.key.off, .int .i64 x.ref, v] 85)).alloc (.cells #[.int .u8 0, .int .u32 0, .int .u32 0, .int .i64 0, .slice none 0 0] 85) = W := ⟨_, rfl⟩
  have hz : W.heap.size = w.heap.size + 2 := by rw [← hW]; simp
  have q1 : W.heap[w.heap.size]? = some (.cells #[bV x.key.kind, wV x.key.id, wV x.key.off, .int .i64 x.ref, v] 85 (0, 0)) := by rw [← hW]; exact (two_new _ _ _).1
  have q2 : W.heap[w.heap.size + 1]? = some (.cells #[.int .u8 0, .int .u32 0, .int .u32 0, .int .i64 0, .slice none 0 0] 85 (0, 0)) := by rw [← hW]; exact (two_new _ _ _).2
  rw [hW] at hv2 hb2
  obtain ⟨a, c, rfl, g1, g2, _, _⟩ := hv
  obtain ⟨⟨k, i, o⟩, r, l⟩ := x
  have Hv := Lib.hid hv2
  have Hq := Lib.hid (And.intro q1 (And.intro q2 (And.intro hW hz)))
  clear hv2 hb1 q1 q2 hW hz
  simp only [itemV, bV, wV] at *
  go_enter Try.func67, Try.ntmps67
  go_upto_region 1 with (fail)
  rw [Hq.out.2.2.1]
  obtain ⟨q1, q2, _, hz⟩ := Hq.out
  have c3' := blk_cell q1 4
  simp at c3'
  go_wp2_with (
    at_builtin
    refine wpList_appB rfl _ _ 22 rfl W.heap.size 5 Try.underlying22 info_u8 _ [] rfl (OwnB.nil_ _ _ _) _ _ _ l rfl Hv.out (by simp; omega) (Nat.le_refl _) ?_
    intro u w1 hown1 hB1
    rw [List.nil_append] at hown1
    have hm := hown1.made hB1
    clear c3' hown1 hB1
    have p1 := (hm.below.block w.heap.size (by omega)).trans q1
    have p2 := (hm.below.block (w.heap.size + 1) (by omega)).trans q2
    have hB := below_step hb2 hb2.size hm.below
    obtain ⟨ua, uc, rfl, u1, u2⟩ := hm.bytes.form rfl
    have c0 := blk_cell p1 0
    have c1 := blk_cell p1 1
    have c2 := blk_cell p1 2
    have c3 := blk_cell p1 3
    have c4 := blk_cell p1 4
    have f4 := blk_frozen p1 4
    have d0 := blk_cell p2 0
    have d1 := blk_cell p2 1
    have d2 := blk_cell p2 2
    have d3 := blk_cell p2 3
    have d4 := blk_cell p2 4
    have e0 := blk_frozen p2 0
    have e1 := blk_frozen p2 1
    have e2 := blk_frozen p2 2
    have e3 := blk_frozen p2 3
    have e4 := blk_frozen p2 4
    simp at c0 c1 c2 c3 c4 d0 d1 d2 d3 d4
    have Hm := Lib.hid hm
    have HB := Lib.hid (And.intro hB hz)
    clear p1 p2 q1 q2 hm hB hz hb2)
  refine bodyPost_ret (v := .agg #[.int .u8 (k.toNat : Int), .int .u32 (i.toNat : Int), .int .u32 (o.toNat : Int), .int .i64 r, .slice ua l.length uc]) (by simp [results, Try.results67, go_sem, d0, d1, d2, d3, d4]) rfl ⟨_, rfl, ?_⟩
  obtain ⟨hB, hz⟩ := HB.out
  have hm := Hm.out
  have s1 : w.heap.size < W.heap.size := by omega
  have s2 : w.heap.size + 1 < W.heap.size := by omega
  refine ⟨?_, ?_, ?_⟩
  · refine Bytes.more (lo := W.heap.size) (hi := w1.heap.size) ?_ (by omega) (by simp)
    exact (((((hm.bytes.setOff (.inl s1)).setOff (.inl s2)).setOff (.inl s2)).setOff (.inl s2)).setOff (.inl s2)).setOff (.inl s2)
  · exact (((((hm.thawed.set _ _).set _ _).set _ _).set _ _).set _ _).set _ _
  · exact (((((hB.setCell (p := ⟨w.heap.size, 4, none⟩) (Nat.le_refl _) _).setCell (p := ⟨w.heap.size + 1, 0, none⟩) (Nat.le_succ _) _).setCell (p := ⟨w.heap.size + 1, 1, none⟩) (Nat.le_succ _) _).setCell (p := ⟨w.heap.size + 1, 2, none⟩) (Nat.le_succ _) _).setCell (p := ⟨w.heap.size + 1, 3, none⟩) (Nat.le_succ _) _).setCell (p := ⟨w.heap.size + 1, 4, none⟩) (Nat.le_succ _) _
end Go.Proofs.Ythealkfpflkipaa

namespace Go.Proofs.Ythealkfpflkipaa
open Go.RowKit

theorem cut_run (b off n c i j : Nat) (I J : Int) (hI : I = i) (hJ : J = j) (hij : i ≤ j) (hjc : j ≤ c) (hcm : c ≤ maxLen) : ∃ A : Addr,
    (∀ w, (Instr.sliceAt 22 (.slice (some ⟨b, off, none⟩) n c) (some (.int .i64 I)) (some (.int .i64 J)) none).run Try.prog w = .ok (.slice (some A) (j - i) (c - i)) w) ∧
    ∀ W lo hi l, Bytes W lo hi (.slice (some ⟨b, off, none⟩) n c) l → j ≤ l.length → Bytes W lo hi (.slice (some A) (j - i) (c - i)) ((l.drop i).take (j - i)) := by
  subst hI hJ
  by_cases h : c = i
  · refine ⟨⟨b, off, none⟩, fun w => ?_, fun W lo hi l hb hj => ?_⟩
    · simp [go_sem]
      rw [if_pos hjc, if_pos hij, if_pos h]
    · have e : j - i = 0 := by omega
      rw [e]
      obtain ⟨a, c', e1, h1, h2, h3, h4⟩ := hb
      cases e1
      exact ⟨some ⟨b, off, none⟩, c - i, by simp, by simp, by omega, fun hp => by simp at hp, fun h => by cases h⟩
  · refine ⟨⟨b, off + i, none⟩, fun w => ?_, fun W lo hi l hb hj => ?_⟩
    · simp [go_sem]
      rw [if_pos hjc, if_pos hij, if_neg h]
    · exact hb.cut i (j - i) (c - i) (by omega) (by omega) (by omega)
end Go.Proofs.Ythealkfpflkipaa

namespace Go.Proofs.Ythealkfpflkipaa
open Go.RowKit

def zeroI : ItemL := ⟨⟨0, 0, 0⟩, 0, []⟩
def rawI (l : List UInt8) : ItemL := ⟨⟨l.getD 0 0, UInt32.ofNat (getN l 1 4), UInt32.ofNat (getN l 5 4)⟩, (getN l 9 2 : Nat), (l.drop 12).take (l.getD 11 0).toNat⟩
def lenOk (l : List UInt8) : Bool := decide (12 ≤ l.length ∧ 12 + (l.getD 11 0).toNat ≤ l.length)
/-- What is read of bytes: an item, how many bytes, an error. -/
def readOk (l : List UInt8) : Bool := lenOk l && mayI (rawI l)
def readI (l : List UInt8) : ItemL := if readOk l then rawI l else zeroI
def readN (l : List UInt8) : Nat := if readOk l then 12 + (l.getD 11 0).toNat else 0
theorem wV_of (n : Nat) (h : n < 4294967296) : Value.int .u32 (n : Int) = wV (UInt32.ofNat n) := by
  simp [wV]
  omega
theorem alloc_cells (w : World) (cs : Array Value) (t : TypeId) : (w.alloc (.cells cs t)).heap[w.heap.size]? = some (.cells cs t (0, 0)) := World.alloc_heap_new w _

theorem set_block {w : World} {g : Nat} {cs : Array Value} {t : TypeId} {f : Nat × Nat} (h : w.heap[g]? = some (.cells cs t f)) (i : Nat) (v : Value) : (w.setCell ⟨g, i, none⟩ v).heap[g]? = some (.cells (cs.setIfInBounds i v) t f) := by
  simp [World.setCell, Array.getElem?_modify, h]

set_option maxRecDepth 100000 in
set_option maxHeartbeats 1000000 in
theorem rread_no (v : Value) (l : List UInt8) (w : World) (hv : Bytes w 0 w.heap.size v l) (hn : lenOk l = false) :
    Calls Try.prog 57 #[v] w fun e w' => e = .returned (.tuple #[itemV zeroI (.slice none 0 0), .int .i64 0, .int .i64 8]) ∧ Below w.heap.size w w' := by
  have hB := (Below.refl w.heap.size w).alloc (Nat.le_refl _) (.cells #[.int .u8 0, .int .u32 0, .int .u32 0, .int .i64 0, .slice none 0 0] 85)
  have hv1 := hv.step hB
  have hq := alloc_cells w #[.int .u8 0, .int .u32 0, .int .u32 0, .int .i64 0, .slice none 0 0] 85
  have hz : (itemV zeroI (.slice none 0 0)) = .agg #[.int .u8 0, .int .u32 0, .int .u32 0, .int .i64 0, .slice none 0 0] := rfl
  rw [hz]
  by_cases h12 : l.length < 12
  · obtain ⟨a, c, rfl, g1, g2, -, -⟩ := hv
    clear hv1 hq hz
    go_enter Try.func57, Try.ntmps57
    go_wp2_with fail
    exact bodyPost_ret (v := .tuple #[.agg #[.int .u8 0, .int .u32 0, .int .u32 0, .int .i64 0, .slice none 0 0], .int .i64 0, .int .i64 8]) (by simp [results, Try.results57, go_sem]) rfl ⟨rfl, hB⟩
  · obtain ⟨b, off, c, rfl, g0, g1, g2, g3, g4⟩ := hv.at_ (by omega)
    have c11 := g4 11 (l.getD 11 0) (by rw [List.getElem?_eq_getElem (by omega)]; simp [List.getD, show 11 < l.length by omega])
    have hlt : (l.length : Int) - 12 < (l.getD 11 0).toNat := by
      unfold lenOk at hn
      simp only [decide_eq_false_iff_not] at hn
      omega
    have hx := (l.getD 11 0).toNat_lt
    generalize l.getD 11 0 = x at *
    simp only [bV] at c11
    clear hv1 hq hz hv g4
    go_enter Try.func57, Try.ntmps57
    go_wp2_with fail
    exact bodyPost_ret (v := .tuple #[.agg #[.int .u8 0, .int .u32 0, .int .u32 0, .int .i64 0, .slice none 0 0], .int .i64 0, .int .i64 8]) (by simp [results, Try.results57, go_sem]) rfl ⟨rfl, hB⟩

set_option maxRecDepth 100000 in
set_option maxHeartbeats 1000000 in
theorem rread_yes (v : Value) (l : List UInt8) (w : World) (hv : Bytes w 0 w.heap.size v l) (hn : lenOk l = true) :
    Calls Try.prog 57 #[v] w fun e w' => ∃ u, e = .returned (.tuple #[itemV (readI l) u, .int .i64 (readN l), .int .i64 (mayE (readOk l))]) ∧ MadeB w w' u (readI l).val := by
  unfold lenOk at hn
  simp only [decide_eq_true_eq] at hn
  have hvx := fun A B => (hv.step (((Below.refl w.heap.size w).alloc (Nat.le_refl _) A).alloc (by simp) B))
  obtain ⟨b, off, c, rfl, g0, g1, g2, g3, g4⟩ := hv.at_ (by omega)
  have c11 := g4 11 (l.getD 11 0) (by rw [List.getElem?_eq_getElem (by omega)]; simp [List.getD, show 11 < l.length by omega])
  have c0 := g4 0 (l.getD 0 0) (by rw [List.getElem?_eq_getElem (by omega)]; simp [List.getD, show 0 < l.length by omega])
  have hlt : ((l.getD 11 0).toNat : Int) ≤ (l.length : Int) - 12 := by omega
  have hl12 : (12 : Int) ≤ (l.length : Int) := by omega
  have hx := (l.getD 11 0).toNat_lt
  have hg1 := fun w h => rgetFour_any (.slice (some ⟨b, off, none⟩) l.length c) l 1 w h
  have hg5 := fun w h => rgetFour_any (.slice (some ⟨b, off, none⟩) l.length c) l 5 w h
  have hg9 := fun w h => rgetTwo_any (.slice (some ⟨b, off, none⟩) l.length c) l 9 w h
  have e1 := (get_yes' l 1 4 (by omega)).2
  have e5 := (get_yes' l 5 4 (by omega)).2
  have e9 := (get_yes' l 9 2 (by omega)).2
  have n1 := getN_lt l 1 4
  have n5 := getN_lt l 5 4
  have n9 := getN_lt l 9 2
  simp only [Int.cast_ofNat_Int] at e1 e5 e9
  rw [e1] at hg1
  rw [e5] at hg5
  rw [e9] at hg9
  have hraw : rawI l = ⟨⟨l.getD 0 0, UInt32.ofNat (getN l 1 4), UInt32.ofNat (getN l 5 4)⟩, (getN l 9 2 : Nat), (l.drop 12).take (l.getD 11 0).toNat⟩ := rfl
  have hrI : readI l = if mayI (rawI l) then rawI l else zeroI := by unfold readI readOk lenOk; rw [decide_eq_true hn]; rfl
  have hrN : readN l = if mayI (rawI l) then 12 + (l.getD 11 0).toNat else 0 := by unfold readN readOk lenOk; rw [decide_eq_true hn]; rfl
  have hrO : readOk l = mayI (rawI l) := by unfold readOk lenOk; rw [decide_eq_true hn]; rfl
  generalize getN l 1 4 = i1 at *
  generalize getN l 5 4 = i5 at *
  generalize getN l 9 2 = i9 at *
  generalize l.getD 11 0 = x at *
  generalize l.getD 0 0 = k at *
  generalize rawI l = R at *
  generalize readI l = RI at *
  generalize readN l = RN at *
  generalize readOk l = RO at *
  have d1 : decide ((l.length : Int) < 12) = false := by simp only [decide_eq_false_iff_not]; omega
  have d2 : decide ((l.length : Int) - 12 < (x.toNat : Int)) = false := by simp only [decide_eq_false_iff_not]; omega
  unfold maxLen at g3
  have HG := Lib.hid (And.intro hg1 (And.intro hg5 hg9))
  have HX := Lib.hid hvx
  have HF := Lib.hid (And.intro hraw (And.intro hrI (And.intro hrN hrO)))
  have HN := Lib.hid (And.intro n1 (And.intro n5 n9))
  simp only [bV, Nat.add_zero] at c11 c0
  clear hg1 hg5 hg9 hvx hraw hrI hrN hrO n1 n5 n9 e1 e5 e9 g4 hn hv
  go_enter Try.func57, Try.ntmps57
  go_wp2_with fail
  refine (HG.out.1 _ (HX.out _ _)).mono ?_
  rintro e w1 ⟨rfl, rfl⟩
  go_wp2_with fail
  refine (HG.out.2.1 _ (HX.out _ _)).mono ?_
  rintro e w1 ⟨rfl, rfl⟩
  go_wp2_with fail
  refine (HG.out.2.2 _ (HX.out _ _)).mono ?_
  rintro e w1 ⟨rfl, rfl⟩
  go_wp2_with fail
  have hBW := ((Below.refl w.heap.size w).alloc (Nat.le_refl _) (.cells #[.int .u8 0, .int .u32 0, .int .u32 0, .int .i64 0, .slice none 0 0] 85)).alloc (by simp) (.cells #[.int .u8 (k.toNat : Int), .int .u32 (i1 : Int), .int .u32 (i5 : Int), .int .i64 (i9 : Int), .slice none 0 0] 85)
  have hVW := HX.out (.cells #[.int .u8 0, .int .u32 0, .int .u32 0, .int .i64 0, .slice none 0 0] 85) (.cells #[.int .u8 (k.toNat : Int), .int .u32 (i1 : Int), .int .u32 (i5 : Int), .int .i64 (i9 : Int), .slice none 0 0] 85)
  have hq := two_new w (.cells #[.int .u8 0, .int .u32 0, .int .u32 0, .int .i64 0, .slice none 0 0] 85) (.cells #[.int .u8 (k.toNat : Int), .int .u32 (i1 : Int), .int .u32 (i5 : Int), .int .i64 (i9 : Int), .slice none 0 0] 85)
  obtain ⟨W, hW⟩ : ∃ W, (w.alloc (.cells #[.int .u8 0, .int .u32 0, .int .u32 0, .int .i64 0, .slice none 0 0] 85)).alloc (.cells #[.int .u8 (k.toNat : Int), .int .u32 (i1 : Int), .int .u32 (i5 : Int), .int .i64 (i9 : Int), .slice none 0 0] 85) = W := ⟨_, rfl⟩
  have hz : W.heap.size = w.heap.size + 2 := by rw [← hW]; simp
  rw [hW] at hBW hVW hq ⊢
  obtain ⟨q1, q2⟩ := hq
  have c5 := blk_cell q2 4
  simp at c5
  obtain ⟨A, hsl, hcut0⟩ := cut_run b off l.length c 12 (12 + x.toNat) 12 (12 + (x.toNat : Int)) rfl (by omega) (by omega) (by omega) (by unfold maxLen; omega)
  have hcut := hcut0 W _ _ l hVW (by omega)
  rw [Nat.add_sub_cancel_left] at hcut
  simp only [Nat.add_sub_cancel_left] at hsl
  clear hcut0
  have hmay : ∀ w1 u, Bytes w1 0 w1.heap.size u (List.take x.toNat (List.drop 12 l)) → Calls Try.prog 82 #[.agg #[.int .u8 (k.toNat : Int), .int .u32 (i1 : Int), .int .u32 (i5 : Int), .int .i64 (i9 : Int), u]] w1 fun e w' => e = .returned (.bool (mayI R)) ∧ Below w1.heap.size w1 w' := fun w1 u hu => by
    have h := rmay_any R u w1 (by rw [HF.out.1]; exact hu)
    have e1 : itemV R u = .agg #[.int .u8 (k.toNat : Int), .int .u32 (i1 : Int), .int .u32 (i5 : Int), .int .i64 (i9 : Int), u] := by
      rw [HF.out.1, wV_of i1 HN.out.1, wV_of i5 HN.out.2.1]
      rfl
    rw [← e1]
    exact h
  have hvl : (List.take x.toNat (List.drop 12 l)).length = x.toNat := by simp; omega
  generalize List.take x.toNat (List.drop 12 l) = val at *
  have Hmay := Lib.hid hmay
  have HQ := Lib.hid (And.intro (show W.drew.heap[w.heap.size]? = _ from q1) (And.intro (show W.drew.heap[w.heap.size + 1]? = _ from q2) (And.intro hBW.drew (And.intro (show W.drew.heap.size = _ from hz) hvl))))
  have Hcut := Lib.hid (hcut.step ((Below.refl W.heap.size W).drew))
  clear hmay q1 q2 hBW hz hW hVW hcut HX HG c0 c11 hvl d1 d2
  have i1' : (12 : Int) ≤ 12 + (x.toNat : Int) := by omega
  have i2' : 12 + (x.toNat : Int) ≤ (c : Int) := by omega
  refine wp_region_tail 5 (by kernel_rfl) (by kernel_rfl) ?_
  simp only [List.take_succ_cons, List.take_zero, List.drop_succ_cons, List.drop_zero]
  repeat still_step
  refine wpStill_nil ?_
  generalize W.drew = V at *
  go_wp2_with (
    at_builtin
    refine wpList_appB rfl _ _ 22 rfl V.heap.size 5 Try.underlying22 info_u8 _ [] rfl (OwnB.nil_ _ _ _) 0 V.heap.size _ val rfl Hcut.out (by have := HQ.out.2.2.2.2; simp; omega) (Nat.le_refl _) ?_
    intro u w1 hown1 hB1
    rw [List.nil_append] at hown1
    have hm := hown1.made hB1
    obtain ⟨q1, q2, hBW, hz, hvl⟩ := HQ.out
    have p1 := (hB1.block w.heap.size (by omega)).trans q1
    have p2 := (hB1.block (w.heap.size + 1) (by omega)).trans q2
    have hB2 := below_step hBW hBW.size hB1
    obtain ⟨ua, uc, rfl, u1, u2⟩ := hm.bytes.form hvl
    have a0 := blk_cell p2 0
    have a1 := blk_cell p2 1
    have a2 := blk_cell p2 2
    have a3 := blk_cell p2 3
    have a4 := blk_cell p2 4
    have f4 := blk_frozen p2 4
    simp at a0 a1 a2 a3 a4
    have HP := Lib.hid (And.intro p1 (And.intro p2 (And.intro hB2 (And.intro hm hz))))
    clear p1 p2 q1 q2 hBW hz hvl hB1 hB2 hown1 hm c5 hsl)
  obtain ⟨p1, p2, hB1, hm, hz⟩ := HP.out
  have p1' : (w1.setCell ⟨w.heap.size + 1, 4, none⟩ (.slice ua x.toNat uc)).heap[w.heap.size]? = _ := (Below.heap_setCell w1 ⟨w.heap.size + 1, 4, none⟩ (.slice ua x.toNat uc) w.heap.size (by simp)).trans p1
  have p2' := set_block p2 4 (.slice ua x.toNat uc)
  simp only [List.setIfInBounds_toArray, List.set_cons_succ, List.set_cons_zero] at p2'
  have hB2 := hB1.setCell (p := ⟨w.heap.size + 1, 4, none⟩) (Nat.le_succ _) (.slice ua x.toNat uc)
  have hb2 := hm.bytes.setOff (g := w.heap.size + 1) (i := 4) (u := .slice ua x.toNat uc) (.inl (by omega))
  have ht2 := hm.thawed.set ⟨w.heap.size + 1, 4, none⟩ (.slice ua x.toNat uc)
  have hs2 : (w1.setCell ⟨w.heap.size + 1, 4, none⟩ (.slice ua x.toNat uc)).heap.size = w1.heap.size := by simp
  clear p1 p2 hB1 hm a0 a1 a2 a3 a4 f4 HP
  generalize w1.setCell ⟨w.heap.size + 1, 4, none⟩ (.slice ua x.toNat uc) = w2 at *
  rw [← hs2] at hb2
  refine (Hmay.out _ _ hb2.all0).mono ?_
  rintro e w3 ⟨rfl, hb3⟩
  have q1 := (hb3.block w.heap.size (by have := (Array.getElem?_eq_some_iff.1 p1').1; omega)).trans p1'
  have q2 := (hb3.block (w.heap.size + 1) (by have := (Array.getElem?_eq_some_iff.1 p2').1; omega)).trans p2'
  have hB3 := below_step hB2 hB2.size hb3
  have hb := hb2.below hb3 (Nat.le_refl _)
  have ht := thawed_below hb2 ht2 hb3 (Nat.le_refl _)
  have hsz : w2.heap.size ≤ w3.heap.size := hb3.size
  clear p1' p2' hB2 hb2 ht2 hb3
  have d0 := blk_cell q1 0
  have d1 := blk_cell q1 1
  have d2 := blk_cell q1 2
  have d3 := blk_cell q1 3
  have d4 := blk_cell q1 4
  have e0 := blk_frozen q1 0
  have e1 := blk_frozen q1 1
  have e2 := blk_frozen q1 2
  have e3 := blk_frozen q1 3
  have e4 := blk_frozen q1 4
  have a0 := blk_cell q2 0
  have a1 := blk_cell q2 1
  have a2 := blk_cell q2 2
  have a3 := blk_cell q2 3
  have a4 := blk_cell q2 4
  simp at a0 a1 a2 a3 a4 d0 d1 d2 d3 d4
  have HW := Lib.hid (And.intro hB3 (And.intro hb (And.intro ht (And.intro hz hsz))))
  clear q1 q2 hB3 hb ht hz hsz hs2
  obtain ⟨hR, hRI, hRN, hRO⟩ := HF.out
  cases hmR : mayI R
  · rw [hmR] at hRI hRN hRO
    have e5 : itemV RI (.slice none 0 0) = .agg #[.int .u8 0, .int .u32 0, .int .u32 0, .int .i64 0, .slice none 0 0] := by rw [hRI]; rfl
    have e6 : (RN : Int) = 0 := by rw [hRN]; rfl
    have e7 : mayE RO = 8 := by rw [hRO]; rfl
    have e8 : RI.val = [] := by rw [hRI]; rfl
    have HE := Lib.hid (And.intro e5 (And.intro e6 (And.intro e7 e8)))
    clear hR hRI hRN hRO e5 e6 e7 e8 hmR
    go_wp2_with fail
    refine bodyPost_ret (v := .tuple #[.agg #[.int .u8 0, .int .u32 0, .int .u32 0, .int .i64 0, .slice none 0 0], .int .i64 0, .int .i64 8]) (by simp [results, Try.results57, go_sem, d0, d1, d2, d3, d4]) rfl ⟨.slice none 0 0, ?_, ?_⟩
    · rw [HE.out.1, HE.out.2.1, HE.out.2.2.1]
    · rw [HE.out.2.2.2]
      refine MadeB.nil_ ?_
      exact ((((HW.out.1.setCell (p := ⟨w.heap.size, 0, none⟩) (Nat.le_refl _) _).setCell (p := ⟨w.heap.size, 1, none⟩) (Nat.le_refl _) _).setCell (p := ⟨w.heap.size, 2, none⟩) (Nat.le_refl _) _).setCell (p := ⟨w.heap.size, 3, none⟩) (Nat.le_refl _) _).setCell (p := ⟨w.heap.size, 4, none⟩) (Nat.le_refl _) _
  · rw [hmR] at hRI hRN hRO
    have e5 : itemV RI (.slice ua x.toNat uc) = .agg #[.int .u8 (k.toNat : Int), .int .u32 (i1 : Int), .int .u32 (i5 : Int), .int .i64 (i9 : Int), .slice ua x.toNat uc] := by
      rw [hRI, if_pos rfl, hR, wV_of i1 HN.out.1, wV_of i5 HN.out.2.1]; rfl
    have e6 : (RN : Int) = 12 + (x.toNat : Int) := by rw [hRN, if_pos rfl]; omega
    have e7 : mayE RO = 0 := by rw [hRO]; rfl
    have e8 : RI.val = val := by rw [hRI, if_pos rfl, hR]
    have HE := Lib.hid (And.intro e5 (And.intro e6 (And.intro e7 e8)))
    clear hR hRI hRN hRO e5 e6 e7 e8 hmR
    go_wp2_with fail
    refine bodyPost_ret (v := .tuple #[.agg #[.int .u8 (k.toNat : Int), .int .u32 (i1 : Int), .int .u32 (i5 : Int), .int .i64 (i9 : Int), .slice ua x.toNat uc], .int .i64 (12 + (x.toNat : Int)), .int .i64 0]) (by simp [results, Try.results57, go_sem, d0, d1, d2, d3, d4]) rfl ⟨.slice ua x.toNat uc, ?_, ?_⟩
    · rw [HE.out.1, HE.out.2.1, HE.out.2.2.1]
    · rw [HE.out.2.2.2]
      obtain ⟨hB3, hb, ht, hz, hsz⟩ := HW.out
      have s1 : w.heap.size < V.heap.size := by omega
      refine ⟨?_, ?_, ?_⟩
      · refine Bytes.more (lo := V.heap.size) (hi := w2.heap.size) ?_ (by omega) (by simp; omega)
        exact ((((hb.setOff (.inl s1)).setOff (.inl s1)).setOff (.inl s1)).setOff (.inl s1)).setOff (.inl s1)
      · exact ((((ht.set _ _).set _ _).set _ _).set _ _).set _ _
      · exact ((((hB3.setCell (p := ⟨w.heap.size, 0, none⟩) (Nat.le_refl _) _).setCell (p := ⟨w.heap.size, 1, none⟩) (Nat.le_refl _) _).setCell (p := ⟨w.heap.size, 2, none⟩) (Nat.le_refl _) _).setCell (p := ⟨w.heap.size, 3, none⟩) (Nat.le_refl _) _).setCell (p := ⟨w.heap.size, 4, none⟩) (Nat.le_refl _) _

theorem rread_any (v : Value) (l : List UInt8) (w : World) (hv : Bytes w 0 w.heap.size v l) :
    Calls Try.prog 57 #[v] w fun e w' => ∃ u, e = .returned (.tuple #[itemV (readI l) u, .int .i64 (readN l), .int .i64 (mayE (readOk l))]) ∧ MadeB w w' u (readI l).val := by
  cases h : lenOk l
  · have h1 : readOk l = false := by unfold readOk; rw [h]; rfl
    have h2 : readI l = zeroI := by unfold readI; rw [h1]; rfl
    have h3 : readN l = 0 := by unfold readN; rw [h1]; rfl
    rw [h1, h2, h3]
    exact (rread_no v l w hv h).mono fun e w' ⟨he, hB⟩ => ⟨_, he, MadeB.nil_ hB⟩
  · exact rread_yes v l w hv h
end Go.Proofs.Ythealkfpflkipaa

