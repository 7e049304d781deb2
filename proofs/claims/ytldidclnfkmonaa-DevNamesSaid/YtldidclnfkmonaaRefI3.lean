/- The contracts of Write, Check, Same, Twin of the reference of layer 5. -/
import Derived.Test.YtldidclnfkmonaaRefI2
namespace Go.Proofs.Ytldidclnfkmonaa
open Go.RowKit

/-- What the walk knows of an item that was laid into a block. -/
theorem item_box (x : ItemL) (v : Value) (w : World) (hv : Bytes w 0 w.heap.size v x.val) : ∃ W, w.alloc (.cells #[bV x.key.kind, wV x.key.id, wV x.key.off, .int .i64 x.ref, v] 30) = W ∧ Below w.heap.size w W ∧ Bytes W 0 W.heap.size v x.val ∧ W.heap.size = w.heap.size + 1 ∧
    ∀ W', Below W.heap.size W W' → W'.heap[w.heap.size]? = some (.cells #[bV x.key.kind, wV x.key.id, wV x.key.off, .int .i64 x.ref, v] 30 (0, 0)) := by
  have hB := (Below.refl w.heap.size w).alloc (Nat.le_refl _) (.cells #[bV x.key.kind, wV x.key.id, wV x.key.off, .int .i64 x.ref, v] 30)
  exact ⟨_, rfl, hB, hv.step hB, by simp, one_block _ _⟩
def wrI (x : ItemL) : List UInt8 := if mayI x then itemB x else []
theorem may_ref {x : ItemL} (h : mayI x = true) : 0 ≤ x.ref ∧ x.ref < 256 ∧ x.val.length ≤ 12 := by
  unfold mayI at h
  simp only [decide_eq_true_eq] at h
  omega

set_option maxRecDepth 100000 in
set_option maxHeartbeats 1000000 in
theorem rwrite_any (x : ItemL) (v : Value) (w : World) (hv : Bytes w 0 w.heap.size v x.val) :
    Calls Try.prog 32 #[itemV x v] w fun e w' => ∃ u, e = .returned (.tuple #[u, .int .i64 (mayE (mayI x))]) ∧ MadeB w w' u (wrI x) := by
  obtain ⟨W, hW, hB, hV, hz, hblk⟩ := item_box x v w hv
  have hm := rmay_any x v W hV
  have hb := fun w' h => rbytes_any x v w' h
  have hr := fun h => may_ref (x := x) h
  obtain ⟨a, c, rfl, g1, g2, -, -⟩ := hv
  have hfin : wrI x = if mayI x then itemB x else [] := rfl
  generalize wrI x = out at *
  generalize itemB x = ib at *
  generalize mayI x = m at *
  have Hm := Lib.hid hm
  have Hb := Lib.hid hb
  have HV := Lib.hid (And.intro hV (And.intro hr hfin))
  have HW := Lib.hid (And.intro hW (And.intro hB hz))
  have Hblk := Lib.hid hblk
  clear hm hb hV hW hB hblk hr hfin hz
  obtain ⟨⟨k, i, o⟩, r, l⟩ := x
  simp only [itemV, bV, wV] at *
  go_enter Try.func32, Try.ntmps32
  go_upto_region 1 with (fail)
  rw [HW.out.1]
  have q := Hblk.out W (Below.refl _ _)
  have c0 := blk_cell q 0
  have c1 := blk_cell q 1
  have c2 := blk_cell q 2
  have c3 := blk_cell q 3
  have c4 := blk_cell q 4
  simp at c0 c1 c2 c3 c4
  clear q
  go_wp2_with fail
  refine Hm.out.mono ?_
  rintro e w1 ⟨rfl, hb1⟩
  have q := Hblk.out w1 hb1
  have hV1 := HV.out.1.step hb1
  have hB1 := below_step HW.out.2.1 HW.out.2.1.size hb1
  clear c0 c1 c2 c3 c4
  have c0 := blk_cell q 0
  have c1 := blk_cell q 1
  have c2 := blk_cell q 2
  have c3 := blk_cell q 3
  have c4 := blk_cell q 4
  simp at c0 c1 c2 c3 c4
  have HV1 := Lib.hid hV1
  have HB1 := Lib.hid hB1
  clear q hV1 hb1 hB1
  cases m
  · go_wp2
    go_ret2
    exact ⟨_, rfl, by rw [HV.out.2.2]; exact MadeB.nil_ HB1.out⟩
  · obtain ⟨hr1, hr2, hr3⟩ := HV.out.2.1 rfl
    have hb2 := Hb.out w1 HV1.out hr1 hr2 (by show l.length ≤ 10000; have h3 : l.length ≤ 12 := hr3; omega)
    have Hb2 := Lib.hid hb2
    clear hb2 hr1 hr2 hr3
    go_wp2_with fail
    refine Hb2.out.mono ?_
    rintro e w2 ⟨u, rfl, hown, hb2⟩
    go_wp2
    go_ret2
    have hmade := hown.made hb2
    exact ⟨_, rfl, by rw [HV.out.2.2]; exact hmade.bytes.more HB1.out.size (Nat.le_refl _), hmade.thawed, below_step HB1.out HB1.out.size hb2⟩

set_option maxRecDepth 100000 in
set_option maxHeartbeats 1000000 in
theorem rcheck_any (x : ItemL) (v : Value) (w : World) (hv : Bytes w 0 w.heap.size v x.val) :
    Calls Try.prog 35 #[itemV x v] w fun e w' => e = .returned (.int .i64 (mayE (mayI x))) ∧ Below w.heap.size w w' := by
  obtain ⟨W, hW, hB, hV, hz, hblk⟩ := item_box x v w hv
  have hm := rmay_any x v W hV
  obtain ⟨a, c, rfl, g1, g2, -, -⟩ := hv
  generalize mayI x = m at *
  have Hm := Lib.hid hm
  have HW := Lib.hid (And.intro hW hB)
  have Hblk := Lib.hid hblk
  clear hm hV hW hB hblk hz
  obtain ⟨⟨k, i, o⟩, r, l⟩ := x
  simp only [itemV, bV, wV] at *
  go_enter Try.func35, Try.ntmps35
  go_upto_region 1 with (fail)
  rw [HW.out.1]
  have q := Hblk.out W (Below.refl _ _)
  have c0 := blk_cell q 0
  have c1 := blk_cell q 1
  have c2 := blk_cell q 2
  have c3 := blk_cell q 3
  have c4 := blk_cell q 4
  simp at c0 c1 c2 c3 c4
  clear q
  go_wp2_with fail
  refine Hm.out.mono ?_
  rintro e w1 ⟨rfl, hb1⟩
  have hB1 := below_step HW.out.2 HW.out.2.size hb1
  clear c0 c1 c2 c3 c4
  cases m
  all_goals
    go_wp2
    go_ret
    exact ⟨rfl, hB1⟩
set_option maxRecDepth 100000 in
set_option maxHeartbeats 400000 in
theorem rsame_any (x y : ItemL) (v u : Value) (w : World) (hv : Bytes w 0 w.heap.size v x.val) (hu : Bytes w 0 w.heap.size u y.val) :
    Calls Try.prog 34 #[itemV x v, itemV y u] w fun e w' => e = .returned (.bool (decide (x = y))) ∧ Below w.heap.size w w' := by
  have hb1 := (Below.refl w.heap.size w).alloc (Nat.le_refl _) (.cells #[bV x.key.kind, wV x.key.id, wV x.key.off, .int .i64 x.ref, v] 30)
  have hb2 := hb1.alloc (by simp) (.cells #[bV y.key.kind, wV y.key.id, wV y.key.off, .int .i64 y.ref, u] 30)
  have hv2 := hv.step hb2
  have hu2 := hu.step hb2
  have c1 := cv_of hv2
  have c2 := cv_of hu2
  have hk := fun w => eq_key x.key y.key w
  have hg : Try.prog.eqGuardType Try.prog.depth 24 = false := by kernel_rfl
  obtain ⟨a, c, rfl, g1, g2, _, _⟩ := hv
  obtain ⟨a', c', rfl, g1', g2', _, _⟩ := hu
  obtain ⟨kx, r, l⟩ := x
  obtain ⟨ky, s, m⟩ := y
  simp only at *
  clear hv2 hu2
  by_cases h1 : kx = ky
  · subst h1
    rw [decide_eq_true rfl] at hk
    by_cases h2 : r = s
    · subst h2
      have hfin : decide ((⟨kx, r, l⟩ : ItemL) = ⟨kx, r, m⟩) = decide (l = m) := by simp
      rw [hfin]
      clear hfin
      obtain ⟨k, i, o⟩ := kx
      simp only [itemV, keyV, bV, wV] at *
      go_enter Try.func34, Try.ntmps34
      go_wp2
      go_ret
      exact ⟨retB (by rw [Bool.eq_iff_iff]; simp), hb2⟩
    · have hfin : decide ((⟨kx, r, l⟩ : ItemL) = ⟨kx, s, m⟩) = false := by simp [h2]
      have h2' : (r == s) = false := by simp [h2]
      rw [hfin]
      clear hfin
      obtain ⟨k, i, o⟩ := kx
      simp only [itemV, keyV, bV, wV] at *
      go_enter Try.func34, Try.ntmps34
      go_wp2
      go_ret
      exact ⟨rfl, hb2⟩
  · have hfin : decide ((⟨kx, r, l⟩ : ItemL) = ⟨ky, s, m⟩) = false := by simp [h1]
    rw [decide_eq_false h1] at hk
    rw [hfin]
    clear hfin h1
    obtain ⟨k, i, o⟩ := kx
    obtain ⟨k', i', o'⟩ := ky
    simp only [itemV, keyV, bV, wV] at *
    go_enter Try.func34, Try.ntmps34
    go_wp2
    go_ret
    exact ⟨rfl, hb2⟩
set_option maxRecDepth 100000 in
set_option maxHeartbeats 400000 in
theorem rtwin_any (x : ItemL) (v : Value) (w : World) (hv : Bytes w 0 w.heap.size v x.val) (hl : x.val.length ≤ 10000000) :
    Calls Try.prog 37 #[itemV x v] w fun e w' => ∃ u, e = .returned (itemV x u) ∧ MadeB w w' u x.val := by
  have hb1 := (Below.refl w.heap.size w).alloc (Nat.le_refl _) (.cells #[bV x.key.kind, wV x.key.id, wV x.key.off, .int .i64 x.ref, v] 30)
  have hb2 := hb1.alloc (by simp) (.cells #[.int .u8 0, .int .u32 0, .int .u32 0, .int .i64 0, .slice none 0 0] 30)
  have hv2 := hv.step hb2
  obtain ⟨W, hW⟩ : ∃ W, (w.alloc (.cells #[bV x.key.kind, wV x.key.id, wV x.key.off, .int .i64 x.ref, v] 30)).alloc (.cells #[.int .u8 0, .int .u32 0, .int .u32 0, .int .i64 0, .slice none 0 0] 30) = W := ⟨_, rfl⟩
  have hz : W.heap.size = w.heap.size + 2 := by rw [← hW]; simp
  have q1 : W.heap[w.heap.size]? = some (.cells #[bV x.key.kind, wV x.key.id, wV x.key.off, .int .i64 x.ref, v] 30 (0, 0)) := by rw [← hW]; exact (two_new _ _ _).1
  have q2 : W.heap[w.heap.size + 1]? = some (.cells #[.int .u8 0, .int .u32 0, .int .u32 0, .int .i64 0, .slice none 0 0] 30 (0, 0)) := by rw [← hW]; exact (two_new _ _ _).2
  rw [hW] at hv2 hb2
  obtain ⟨a, c, rfl, g1, g2, _, _⟩ := hv
  obtain ⟨⟨k, i, o⟩, r, l⟩ := x
  have Hv := Lib.hid hv2
  have Hq := Lib.hid (And.intro q1 (And.intro q2 (And.intro hW hz)))
  clear hv2 hb1 q1 q2 hW hz
  simp only [itemV, bV, wV] at *
  go_enter Try.func37, Try.ntmps37
  go_upto_region 1 with (fail)
  rw [Hq.out.2.2.1]
  obtain ⟨q1, q2, _, hz⟩ := Hq.out
  have c3' := blk_cell q1 4
  simp at c3'
  go_wp2_with (
    at_builtin
    refine wpList_appB rfl _ _ 28 rfl W.heap.size 5 Try.underlying28 info_u8 _ [] rfl (OwnB.nil_ _ _ _) _ _ _ l rfl Hv.out (by simp; omega) (Nat.le_refl _) ?_
    intro u w1 hown1 hB1
    rw [List.nil_append] at hown1
    have hm := hown1.made hB1
    clear c3' hown1 hB1
    have p1 := (hm.below.block w.heap.size (by omega)).trans q1
    have p2 := (hm.below.block (w.heap.size + 1) (by omega)).trans q2
    have hB := below_step hb2 hb2.size hm.below
    obtain ⟨ua, uc, rfl, u1, u2⟩ := hm.bytes.form rfl
    have c0 := blk_cell p1 0
    have c1 := blk_cell p1 1
    have c2 := blk_cell p1 2
    have c3 := blk_cell p1 3
    have c4 := blk_cell p1 4
    have f4 := blk_frozen p1 4
    have d0 := blk_cell p2 0
    have d1 := blk_cell p2 1
    have d2 := blk_cell p2 2
    have d3 := blk_cell p2 3
    have d4 := blk_cell p2 4
    have e0 := blk_frozen p2 0
    have e1 := blk_frozen p2 1
    have e2 := blk_frozen p2 2
    have e3 := blk_frozen p2 3
    have e4 := blk_frozen p2 4
    simp at c0 c1 c2 c3 c4 d0 d1 d2 d3 d4
    have Hm := Lib.hid hm
    have HB := Lib.hid (And.intro hB hz)
    clear p1 p2 q1 q2 hm hB hz hb2)
  refine bodyPost_ret (v := .agg #[.int .u8 (k.toNat : Int), .int .u32 (i.toNat : Int), .int .u32 (o.toNat : Int), .int .i64 r, .slice ua l.length uc]) (by simp [results, Try.results37, go_sem, d0, d1, d2, d3, d4]) rfl ⟨_, rfl, ?_⟩
  obtain ⟨hB, hz⟩ := HB.out
  have hm := Hm.out
  have s1 : w.heap.size < W.heap.size := by omega
  have s2 : w.heap.size + 1 < W.heap.size := by omega
  refine ⟨?_, ?_, ?_⟩
  · refine Bytes.more (lo := W.heap.size) (hi := w1.heap.size) ?_ (by omega) (by simp)
    exact (((((hm.bytes.setOff (.inl s1)).setOff (.inl s2)).setOff (.inl s2)).setOff (.inl s2)).setOff (.inl s2)).setOff (.inl s2)
  · exact (((((hm.thawed.set _ _).set _ _).set _ _).set _ _).set _ _).set _ _
  · exact (((((hB.setCell (p := ⟨w.heap.size, 4, none⟩) (Nat.le_refl _) _).setCell (p := ⟨w.heap.size + 1, 0, none⟩) (Nat.le_succ _) _).setCell (p := ⟨w.heap.size + 1, 1, none⟩) (Nat.le_succ _) _).setCell (p := ⟨w.heap.size + 1, 2, none⟩) (Nat.le_succ _) _).setCell (p := ⟨w.heap.size + 1, 3, none⟩) (Nat.le_succ _) _).setCell (p := ⟨w.heap.size + 1, 4, none⟩) (Nat.le_succ _) _
end Go.Proofs.Ytldidclnfkmonaa
