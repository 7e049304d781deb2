/- The contracts of item.Twin, item.Read, item.Write. -/
import Derived.Test.YtldidclnfkmonaaItm
import Derived.Test.YtldidclnfkmonaaCon
namespace Go.Proofs.Ytldidclnfkmonaa
open Go.RowKit

theorem blk_cell {w : World} {g : Nat} {cs : Array Value} {t : TypeId} {f : Nat × Nat} (h : w.heap[g]? = some (.cells cs t f)) (i : Nat) : w.cell? ⟨g, i, none⟩ = cs[i]? := by simp [World.cell?, h]
theorem blk_frozen {w : World} {g : Nat} {cs : Array Value} {t : TypeId} (h : w.heap[g]? = some (.cells cs t (0, 0))) (i : Nat) : w.frozen? ⟨g, i, none⟩ = false := by simp [World.frozen?, h]

theorem two_new (w : World) (o1 o2 : Obj) : ((w.alloc o1).alloc o2).heap[w.heap.size]? = some o1 ∧ ((w.alloc o1).alloc o2).heap[w.heap.size + 1]? = some o2 := by
  refine ⟨?_, ?_⟩
  · rw [Below.heap_alloc (w.alloc o1) o2 w.heap.size (by simp), World.alloc_heap_new]
  · have := World.alloc_heap_new (w.alloc o1) o2
    simpa using this
theorem Bytes.setOff {w : World} {lo hi g i : Nat} {v u : Value} {l : List UInt8} (h : Bytes w lo hi v l) (hg : g < lo ∨ hi ≤ g) : Bytes (w.setCell ⟨g, i, none⟩ u) lo hi v l :=
  h.keep fun b o h1 h2 => World.cell?_setCell_other _ _ _ _ (by intro h; injection h; omega)

set_option maxRecDepth 100000 in
set_option maxHeartbeats 400000 in
theorem itwin_any (x : ItemL) (v : Value) (w : World) (hv : Bytes w 0 w.heap.size v x.val) (hl : x.val.length ≤ 1000000000) :
    Calls Try.prog 25 #[itemV x v] w fun e w' => ∃ u, e = .returned (itemV x u) ∧ MadeB w w' u x.val := by
  have hb1 := (Below.refl w.heap.size w).alloc (Nat.le_refl _) (.cells #[bV x.key.kind, wV x.key.id, wV x.key.off, .int .i64 x.ref, v] 30)
  have hb2 := hb1.alloc (by simp) (.cells #[.int .u8 0, .int .u32 0, .int .u32 0, .int .i64 0, .slice none 0 0] 30)
  have hv2 := hv.step hb2
  have hc := bclone_any _ _ _ hv2 hl
  obtain ⟨W, hW⟩ : ∃ W, (w.alloc (.cells #[bV x.key.kind, wV x.key.id, wV x.key.off, .int .i64 x.ref, v] 30)).alloc (.cells #[.int .u8 0, .int .u32 0, .int .u32 0, .int .i64 0, .slice none 0 0] 30) = W := ⟨_, rfl⟩
  have hz : W.heap.size = w.heap.size + 2 := by rw [← hW]; simp
  have q1 : W.heap[w.heap.size]? = some (.cells #[bV x.key.kind, wV x.key.id, wV x.key.off, .int .i64 x.ref, v] 30 (0, 0)) := by rw [← hW]; exact (two_new _ _ _).1
  have q2 : W.heap[w.heap.size + 1]? = some (.cells #[.int .u8 0, .int .u32 0, .int .u32 0, .int .i64 0, .slice none 0 0] 30 (0, 0)) := by rw [← hW]; exact (two_new _ _ _).2
  rw [hW] at hc hb2
  obtain ⟨a, c, rfl, g1, g2, _, _⟩ := hv
  obtain ⟨⟨k, i, o⟩, r, l⟩ := x
  have Hc := Lib.hid hc
  have Hq := Lib.hid (And.intro q1 (And.intro q2 (And.intro hW hz)))
  clear hv2 hb1 hc q1 q2 hW hz
  simp only [itemV, bV, wV] at *
  go_enter Try.func25, Try.ntmps25
  go_wp2_with fail
  rw [Hq.out.2.2.1]
  refine Hc.out.mono ?_
  rintro e w1 ⟨u, rfl, hm⟩
  obtain ⟨q1, q2, _, hz⟩ := Hq.out
  have p1 := (hm.below.block w.heap.size (by omega)).trans q1
  have p2 := (hm.below.block (w.heap.size + 1) (by omega)).trans q2
  have hB := below_step hb2 hb2.size hm.below
  obtain ⟨ua, uc, rfl, u1, u2⟩ := hm.bytes.form rfl
  have c0 := blk_cell p1 0
  have c1 := blk_cell p1 1
  have c2 := blk_cell p1 2
  have c3 := blk_cell p1 3
  have c4 := blk_cell p1 4
  have f4 := blk_frozen p1 4
  have d0 := blk_cell p2 0
  have d1 := blk_cell p2 1
  have d2 := blk_cell p2 2
  have d3 := blk_cell p2 3
  have d4 := blk_cell p2 4
  have e0 := blk_frozen p2 0
  have e1 := blk_frozen p2 1
  have e2 := blk_frozen p2 2
  have e3 := blk_frozen p2 3
  have e4 := blk_frozen p2 4
  simp at c0 c1 c2 c3 c4 d0 d1 d2 d3 d4
  have Hm := Lib.hid hm
  have HB := Lib.hid (And.intro hB hz)
  clear p1 p2 q1 q2 hm hB hz hb2
  go_wp2_with fail
  refine bodyPost_ret (v := .agg #[.int .u8 (k.toNat : Int), .int .u32 (i.toNat : Int), .int .u32 (o.toNat : Int), .int .i64 r, .slice ua l.length uc]) (by simp [results, Try.results25, go_sem, d0, d1, d2, d3, d4]) rfl ⟨_, rfl, ?_⟩
  obtain ⟨hB, hz⟩ := HB.out
  have hm := Hm.out
  have s1 : w.heap.size < W.heap.size := by omega
  have s2 : w.heap.size + 1 < W.heap.size := by omega
  refine ⟨?_, ?_, ?_⟩
  · refine Bytes.more (lo := W.heap.size) (hi := w1.heap.size) ?_ (by omega) (by simp)
    exact (((((hm.bytes.setOff (.inl s1)).setOff (.inl s2)).setOff (.inl s2)).setOff (.inl s2)).setOff (.inl s2)).setOff (.inl s2)
  · exact (((((hm.thawed.set _ _).set _ _).set _ _).set _ _).set _ _).set _ _
  · exact (((((hB.setCell (p := ⟨w.heap.size, 4, none⟩) (Nat.le_refl _) _).setCell (p := ⟨w.heap.size + 1, 0, none⟩) (Nat.le_succ _) _).setCell (p := ⟨w.heap.size + 1, 1, none⟩) (Nat.le_succ _) _).setCell (p := ⟨w.heap.size + 1, 2, none⟩) (Nat.le_succ _) _).setCell (p := ⟨w.heap.size + 1, 3, none⟩) (Nat.le_succ _) _).setCell (p := ⟨w.heap.size + 1, 4, none⟩) (Nat.le_succ _) _
end Go.Proofs.Ytldidclnfkmonaa
