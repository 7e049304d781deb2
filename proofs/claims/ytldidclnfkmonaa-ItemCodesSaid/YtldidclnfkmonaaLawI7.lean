/- The walk of the statement ItemCodes. -/
import Derived.Test.YtldidclnfkmonaaLawI6
namespace Go.Proofs.Ytldidclnfkmonaa
open Go.RowKit

theorem kp_set {lo hi : Nat} {w w' : World} (h : Kp lo hi w w') (p : Addr) (u : Value) (hp : p.block < lo ∨ hi ≤ p.block) : Kp lo hi w (w'.setCell p u) := fun b o h1 h2 =>
  ⟨by
    rw [World.cell?_setCell_other _ _ _ _ (by intro e; have := congrArg Addr.block e; simp at this; omega)]
    exact (h b o h1 h2).1, by rw [World.frozen?_setCell]; exact (h b o h1 h2).2⟩
theorem kp_bytes {lo hi lo' hi' : Nat} {w w' : World} {v : Value} {l : List UInt8} (h : Bytes w lo' hi' v l) (hk : Kp lo hi w w') (h1 : lo ≤ lo') (h2 : hi' ≤ hi) : Bytes w' lo' hi' v l :=
  h.keep (fun b o g1 g2 => (hk b o (by omega) (by omega)).1)
theorem add1_u8 (x : UInt8) : ((x.toNat : Int) + 1) % 256 = ((x + 1).toNat : Int) := by
  rw [UInt8.toNat_add]
  simp

set_option maxRecDepth 100000 in
set_option maxHeartbeats 1000000 in
theorem itemCodes_walk (x : ItemL) (v : Value) (y : ItemL) (u : Value) (vb : Value) (lb : List UInt8) (w : World) (hv : Bytes w 0 w.heap.size v x.val) (hu : Bytes w 0 w.heap.size u y.val) (hb : Bytes w 0 w.heap.size vb lb) :
    Calls Try.prog 10 #[itemV x v, itemV y u, vb] w fun e w' => e = .returned (.bool true) ∧ Below w.heap.size w w' := by
  have hB := ((Below.refl w.heap.size w).alloc (Nat.le_refl _) (.cells #[bV x.key.kind, wV x.key.id, wV x.key.off, .int .i64 x.ref, v] 30)).alloc (by simp) (.cells #[bV y.key.kind, wV y.key.id, wV y.key.off, .int .i64 y.ref, u] 30)
  have hq := two_new w (.cells #[bV x.key.kind, wV x.key.id, wV x.key.off, .int .i64 x.ref, v] 30) (.cells #[bV y.key.kind, wV y.key.id, wV y.key.off, .int .i64 y.ref, u] 30)
  have hv0 := hv.step hB
  have hu0 := hu.step hB
  have hb0 := hb.step hB
  obtain ⟨W, hW⟩ : ∃ W, (w.alloc (.cells #[bV x.key.kind, wV x.key.id, wV x.key.off, .int .i64 x.ref, v] 30)).alloc (.cells #[bV y.key.kind, wV y.key.id, wV y.key.off, .int .i64 y.ref, u] 30) = W := ⟨_, rfl⟩
  rw [hW] at hB hq hv0 hu0 hb0
  obtain ⟨q1, q2⟩ := hq
  obtain ⟨a, c, rfl, g1, g2, -, -⟩ := hv
  obtain ⟨a', c', rfl, g1', g2', -, -⟩ := hu
  obtain ⟨ab, cb, rfl, gb1, gb2, -, -⟩ := hb
  unfold maxLen at g2 g2' gb2
  have s1 := fun V h => iwrite_any x (.slice a x.val.length c) V h
  have s2 := fun V h => rwrite_any x (.slice a x.val.length c) V h
  have s3 := fun U V h => iread_any U lb V h
  have s4 := fun U V h => rread_any U lb V h
  have s5 := fun U U' V h h' => rsame_any (readI lb) (readI lb) U U' V h h'
  have s6 := fun V h => icheck_any x (.slice a x.val.length c) V h
  have s7 := fun V h => rcheck_any x (.slice a x.val.length c) V h
  have s8 := fun V h h' => isame_any x y (.slice a x.val.length c) (.slice a' y.val.length c') V h h'
  have s9 := fun V h h' => rsame_any x y (.slice a x.val.length c) (.slice a' y.val.length c') V h h'
  have s10 := fun V => less_any x.key y.key V
  have s11 := fun V => rless_any x.key y.key V
  have s12 := fun V h h2 => itwin_any x (.slice a x.val.length c) V h h2
  have s13 := fun V h h2 => rtwin_any x (.slice a x.val.length c) V h h2
  have s14 := fun U V h h' => rsame_any x x U (.slice a x.val.length c) V h h'
  rw [decide_eq_true rfl] at s5 s14
  generalize wrI x = wl at *
  generalize mayE (mayI x) = ew at *
  generalize mayE (readOk lb) = er at *
  generalize readN lb = nr at *
  generalize readI lb = R at *
  generalize decide (x = y) = sxy at *
  generalize lessK x.key y.key = lxy at *
  have H1 := Lib.hid (And.intro s1 (And.intro s2 (And.intro s3 s4)))
  have H2 := Lib.hid (And.intro s5 (And.intro s6 (And.intro s7 (And.intro s8 (And.intro s9 (And.intro s10 s11))))))
  have H3 := Lib.hid (And.intro s12 (And.intro s13 s14))
  clear s1 s2 s3 s4 s5 s6 s7 s8 s9 s10 s11 s12 s13 s14
  have HQ := Lib.hid (And.intro q1 (And.intro q2 (And.intro hv0 (And.intro hu0 (And.intro hb0 hB)))))
  clear q1 q2 hv0 hu0 hb0 hB
  have HW := Lib.hid hW
  clear hW
  obtain ⟨⟨k1, i1, o1⟩, r1, l1⟩ := x
  obtain ⟨⟨k2, i2, o2⟩, r2, l2⟩ := y
  obtain ⟨⟨k3, i3, o3⟩, r3, l3⟩ := R
  simp only [itemV, keyV, bV, wV] at *
  go_enter Try.func10, Try.ntmps10
  go_upto_region 1 with (fail)
  rw [HW.out]
  clear HW
  have d10 := blk_cell HQ.out.1 0
  have d11 := blk_cell HQ.out.1 1
  have d12 := blk_cell HQ.out.1 2
  have d13 := blk_cell HQ.out.1 3
  have d14 := blk_cell HQ.out.1 4
  have d20 := blk_cell HQ.out.2.1 0
  have d21 := blk_cell HQ.out.2.1 1
  have d22 := blk_cell HQ.out.2.1 2
  have d23 := blk_cell HQ.out.2.1 3
  have d24 := blk_cell HQ.out.2.1 4
  simp at d10 d11 d12 d13 d14 d20 d21 d22 d23 d24
  by_cases hb1 : 10000 < lb.length
  · have j1 : (10000 : Int) < lb.length := by omega
    go_wp2
    go_ret
    exact ⟨rfl, HQ.out.2.2.2.2.2⟩
  by_cases hb2 : 10000 < l1.length
  · have j0 : decide ((10000 : Int) < lb.length) = false := by simp; omega
    have j1 : decide ((10000 : Int) < l1.length) = true := by simp; omega
    go_wp2
    go_ret
    exact ⟨rfl, HQ.out.2.2.2.2.2⟩
  by_cases hb3 : 10000 < l2.length
  · have j0 : decide ((10000 : Int) < lb.length) = false := by simp; omega
    have j1 : decide ((10000 : Int) < l1.length) = false := by simp; omega
    have j2 : decide ((10000 : Int) < l2.length) = true := by simp; omega
    go_wp2
    go_ret
    exact ⟨rfl, HQ.out.2.2.2.2.2⟩
  have j0 : decide ((10000 : Int) < lb.length) = false := by simp; omega
  have j1 : decide ((10000 : Int) < l1.length) = false := by simp; omega
  have j2 : decide ((10000 : Int) < l2.length) = false := by simp; omega
  go_upto_region 3 with (fail)
  clear j0 j1 j2 d10 d11 d12 d13 d14 d20 d21 d22 d23 d24
  obtain ⟨q1, q2, hv0, hu0, hb0, hB⟩ := HQ.out
  clear HQ
  go_upto_region 4 with (at_builtin; refine wpList_appB rfl _ _ 28 rfl W.heap.size 5 Try.underlying28 info_u8 _ [] rfl (OwnB.nil_ _ _ _) _ _ _ lb rfl hb0 (by simp; omega) (Nat.le_refl _) ?_; intro ov w1 hown hst)
  replace q1 := (hst.block w.heap.size (Array.getElem?_eq_some_iff.1 q1).1).trans q1
  replace q2 := (hst.block (w.heap.size + 1) (Array.getElem?_eq_some_iff.1 q2).1).trans q2
  replace hv0 := hv0.step hst
  replace hu0 := hu0.step hst
  replace hb0 := hb0.step hst
  replace hB := below_step hB hB.size hst
  have ho : Bytes w1 0 w1.heap.size ov lb := hown.bytes.all0
  clear hown hst
  have HQ := Lib.hid (And.intro q1 (And.intro q2 (And.intro hv0 (And.intro hu0 (And.intro hb0 (And.intro ho hB))))))
  clear q1 q2 hv0 hu0 hb0 ho hB
  have d10 := blk_cell HQ.out.1 0
  have d11 := blk_cell HQ.out.1 1
  have d12 := blk_cell HQ.out.1 2
  have d13 := blk_cell HQ.out.1 3
  have d14 := blk_cell HQ.out.1 4
  simp at d10 d11 d12 d13 d14
  go_wp2_with fail
  refine (H1.out.1 _ HQ.out.2.2.1).mono ?_
  rintro e w2 ⟨u1, rfl, hm⟩
  clear d10 d11 d12 d13 d14
  obtain ⟨q1, q2, hv0, hu0, hb0, ho, hB⟩ := HQ.out
  clear HQ
  have hst := hm.below
  replace q1 := (hst.block w.heap.size (Array.getElem?_eq_some_iff.1 q1).1).trans q1
  replace q2 := (hst.block (w.heap.size + 1) (Array.getElem?_eq_some_iff.1 q2).1).trans q2
  replace hv0 := hv0.step hst
  replace hu0 := hu0.step hst
  replace hb0 := hb0.step hst
  replace ho := ho.step hst
  replace hB := below_step hB hB.size hst
  have hw1 := hm.bytes.all0
  clear hm hst
  have HQ := Lib.hid (And.intro q1 (And.intro q2 (And.intro hv0 (And.intro hu0 (And.intro hb0 (And.intro ho (And.intro hw1 hB)))))))
  clear q1 q2 hv0 hu0 hb0 ho hw1 hB
  have d10 := blk_cell HQ.out.1 0
  have d11 := blk_cell HQ.out.1 1
  have d12 := blk_cell HQ.out.1 2
  have d13 := blk_cell HQ.out.1 3
  have d14 := blk_cell HQ.out.1 4
  simp at d10 d11 d12 d13 d14
  go_wp2_with fail
  refine (H1.out.2.1 _ HQ.out.2.2.1).mono ?_
  rintro e w3 ⟨u2, rfl, hm⟩
  clear d10 d11 d12 d13 d14
  obtain ⟨q1, q2, hv0, hu0, hb0, ho, hw1, hB⟩ := HQ.out
  clear HQ
  have hst := hm.below
  replace q1 := (hst.block w.heap.size (Array.getElem?_eq_some_iff.1 q1).1).trans q1
  replace q2 := (hst.block (w.heap.size + 1) (Array.getElem?_eq_some_iff.1 q2).1).trans q2
  replace hv0 := hv0.step hst
  replace hu0 := hu0.step hst
  replace hb0 := hb0.step hst
  replace ho := ho.step hst
  replace hw1 := hw1.step hst
  replace hB := below_step hB hB.size hst
  have hw2 := hm.bytes.all0
  clear hm hst
  have HQ := Lib.hid (And.intro q1 (And.intro q2 (And.intro hv0 (And.intro hu0 (And.intro hb0 (And.intro ho (And.intro hw1 (And.intro hw2 hB))))))))
  clear q1 q2 hv0 hu0 hb0 ho hw1 hw2 hB
  have HK3 := HQ
  have d10 := blk_cell HQ.out.1 0
  have d11 := blk_cell HQ.out.1 1
  have d12 := blk_cell HQ.out.1 2
  have d13 := blk_cell HQ.out.1 3
  have d14 := blk_cell HQ.out.1 4
  simp at d10 d11 d12 d13 d14
  go_wp2_with fail
  refine (H1.out.2.2.1 _ _ HQ.out.2.2.2.2.2.1).mono ?_
  rintro e w4 ⟨ur, rfl, hm⟩
  clear d10 d11 d12 d13 d14
  obtain ⟨q1, q2, hv0, hu0, hb0, ho, hw1, hw2, hB⟩ := HQ.out
  clear HQ
  have hst := hm.below
  replace q1 := (hst.block w.heap.size (Array.getElem?_eq_some_iff.1 q1).1).trans q1
  replace q2 := (hst.block (w.heap.size + 1) (Array.getElem?_eq_some_iff.1 q2).1).trans q2
  replace hv0 := hv0.step hst
  replace hu0 := hu0.step hst
  replace hb0 := hb0.step hst
  replace ho := ho.step hst
  replace hw1 := hw1.step hst
  replace hw2 := hw2.step hst
  replace hB := below_step hB hB.size hst
  obtain ⟨ra, rc, rfl, -, -⟩ := hm.bytes.form rfl
  have HMR := Lib.hid hm
  have hB3 := hst
  clear hm hst
  have HQ := Lib.hid (And.intro q1 (And.intro q2 (And.intro hv0 (And.intro hu0 (And.intro hb0 (And.intro ho (And.intro hw1 (And.intro hw2 (And.intro hB3 hB)))))))))
  clear q1 q2 hv0 hu0 hb0 ho hw1 hw2 hB3 hB
  go_upto_region 7 with (fail)
  obtain ⟨q1, q2, hv0, hu0, hb0, ho, hw1, hw2, hB3, hB⟩ := HQ.out
  clear HQ
  have q3 := World.alloc_heap_new w4 (.cells #[.int .u8 (k3.toNat : Int), .int .u32 (i3.toNat : Int), .int .u32 (o3.toNat : Int), .int .i64 r3, .slice ra l3.length rc] 30)
  have hst := (Below.refl w4.heap.size w4).alloc (Nat.le_refl _) (.cells #[.int .u8 (k3.toNat : Int), .int .u32 (i3.toNat : Int), .int .u32 (o3.toNat : Int), .int .i64 r3, .slice ra l3.length rc] 30)
  replace q1 := (hst.block w.heap.size (Array.getElem?_eq_some_iff.1 q1).1).trans q1
  replace q2 := (hst.block (w.heap.size + 1) (Array.getElem?_eq_some_iff.1 q2).1).trans q2
  replace hv0 := hv0.step hst
  replace hu0 := hu0.step hst
  replace hb0 := hb0.step hst
  replace ho := ho.step hst
  replace hw1 := hw1.step hst
  replace hw2 := hw2.step hst
  replace hB3 := below_step hB3 hB3.size hst
  replace hB := below_step hB hB.size hst
  obtain ⟨gr, hg⟩ : ∃ g, w4.heap.size = g := ⟨_, rfl⟩
  have HGgr := Lib.hid hg
  generalize w4.alloc (.cells #[.int .u8 (k3.toNat : Int), .int .u32 (i3.toNat : Int), .int .u32 (o3.toNat : Int), .int .i64 r3, .slice ra l3.length rc] 30) = w5 at *
  rw [hg] at q3 ⊢
  have hr := HMR.out.bytes.all0.step hst
  have hB4 := hst
  clear hst hg
  have HQ := Lib.hid (And.intro q1 (And.intro q2 (And.intro hv0 (And.intro hu0 (And.intro hb0 (And.intro ho (And.intro hw1 (And.intro hw2 (And.intro hB3 (And.intro q3 (And.intro hr (And.intro hB4 hB))))))))))))
  clear q1 q2 hv0 hu0 hb0 ho hw1 hw2 hB3 q3 hr hB4 hB
  go_wp2_with fail
  refine (H1.out.2.2.2 _ _ HQ.out.2.2.2.2.1).mono ?_
  rintro e w6 ⟨us, rfl, hm⟩
  obtain ⟨q1, q2, hv0, hu0, hb0, ho, hw1, hw2, hB3, q3, hr, hB4, hB⟩ := HQ.out
  clear HQ
  have hst := hm.below
  replace q1 := (hst.block w.heap.size (Array.getElem?_eq_some_iff.1 q1).1).trans q1
  replace q2 := (hst.block (w.heap.size + 1) (Array.getElem?_eq_some_iff.1 q2).1).trans q2
  replace hv0 := hv0.step hst
  replace hu0 := hu0.step hst
  replace hb0 := hb0.step hst
  replace ho := ho.step hst
  replace hw1 := hw1.step hst
  replace hw2 := hw2.step hst
  replace hB3 := below_step hB3 hB3.size hst
  replace q3 := (hst.block gr (Array.getElem?_eq_some_iff.1 q3).1).trans q3
  replace hr := hr.step hst
  replace hB4 := below_step hB4 hB4.size hst
  replace hB := below_step hB hB.size hst
  obtain ⟨sa, sc, rfl, -, -⟩ := hm.bytes.form rfl
  have hs := hm.bytes.all0
  clear hm hst
  have HQ := Lib.hid (And.intro q1 (And.intro q2 (And.intro hv0 (And.intro hu0 (And.intro hb0 (And.intro ho (And.intro hw1 (And.intro hw2 (And.intro hB3 (And.intro q3 (And.intro hr (And.intro hB4 (And.intro hs hB)))))))))))))
  clear q1 q2 hv0 hu0 hb0 ho hw1 hw2 hB3 q3 hr hB4 hs hB
  go_upto_region 8 with (fail)
  obtain ⟨q1, q2, hv0, hu0, hb0, ho, hw1, hw2, hB3, q3, hr, hB4, hs, hB⟩ := HQ.out
  clear HQ
  have q4 := World.alloc_heap_new w6 (.cells #[.int .u8 (k3.toNat : Int), .int .u32 (i3.toNat : Int), .int .u32 (o3.toNat : Int), .int .i64 r3, .slice sa l3.length sc] 30)
  have hst := (Below.refl w6.heap.size w6).alloc (Nat.le_refl _) (.cells #[.int .u8 (k3.toNat : Int), .int .u32 (i3.toNat : Int), .int .u32 (o3.toNat : Int), .int .i64 r3, .slice sa l3.length sc] 30)
  replace q1 := (hst.block w.heap.size (Array.getElem?_eq_some_iff.1 q1).1).trans q1
  replace q2 := (hst.block (w.heap.size + 1) (Array.getElem?_eq_some_iff.1 q2).1).trans q2
  replace hv0 := hv0.step hst
  replace hu0 := hu0.step hst
  replace hb0 := hb0.step hst
  replace ho := ho.step hst
  replace hw1 := hw1.step hst
  replace hw2 := hw2.step hst
  replace hB3 := below_step hB3 hB3.size hst
  replace q3 := (hst.block gr (Array.getElem?_eq_some_iff.1 q3).1).trans q3
  replace hr := hr.step hst
  replace hB4 := below_step hB4 hB4.size hst
  replace hs := hs.step hst
  replace hB := below_step hB hB.size hst
  obtain ⟨gs, hg⟩ : ∃ g, w6.heap.size = g := ⟨_, rfl⟩
  have HGgs := Lib.hid hg
  generalize w6.alloc (.cells #[.int .u8 (k3.toNat : Int), .int .u32 (i3.toNat : Int), .int .u32 (o3.toNat : Int), .int .i64 r3, .slice sa l3.length sc] 30) = w7 at *
  rw [hg] at q4 ⊢
  clear hst hg
  have HQ := Lib.hid (And.intro q1 (And.intro q2 (And.intro hv0 (And.intro hu0 (And.intro hb0 (And.intro ho (And.intro hw1 (And.intro hw2 (And.intro hB3 (And.intro q3 (And.intro hr (And.intro hB4 (And.intro hs (And.intro q4 hB))))))))))))))
  clear q1 q2 hv0 hu0 hb0 ho hw1 hw2 hB3 q3 hr hB4 hs q4 hB
  have hlt1 := (Array.getElem?_eq_some_iff.1 HQ.out.1).1
  have hlt2 := (Array.getElem?_eq_some_iff.1 HQ.out.2.1).1
  have hlt3 := (Array.getElem?_eq_some_iff.1 HQ.out.2.2.2.2.2.2.2.2.2.1).1
  have hlt4 := (Array.getElem?_eq_some_iff.1 HQ.out.2.2.2.2.2.2.2.2.2.2.2.2.2.1).1
  go_cut [115] (fun t wx => t = .bool false ∧ Below w7.heap.size w7 wx)
  case first =>
    have d10 := fun X => ((aft_below w7 X).cell (p := ⟨w.heap.size, 0, none⟩) hlt1).trans (blk_cell HQ.out.1 0)
    have d11 := fun X => ((aft_below w7 X).cell (p := ⟨w.heap.size, 1, none⟩) hlt1).trans (blk_cell HQ.out.1 1)
    have d12 := fun X => ((aft_below w7 X).cell (p := ⟨w.heap.size, 2, none⟩) hlt1).trans (blk_cell HQ.out.1 2)
    have d13 := fun X => ((aft_below w7 X).cell (p := ⟨w.heap.size, 3, none⟩) hlt1).trans (blk_cell HQ.out.1 3)
    have d14 := fun X => ((aft_below w7 X).cell (p := ⟨w.heap.size, 4, none⟩) hlt1).trans (blk_cell HQ.out.1 4)
    have d20 := fun X => ((aft_below w7 X).cell (p := ⟨w.heap.size + 1, 0, none⟩) hlt2).trans (blk_cell HQ.out.2.1 0)
    have d21 := fun X => ((aft_below w7 X).cell (p := ⟨w.heap.size + 1, 1, none⟩) hlt2).trans (blk_cell HQ.out.2.1 1)
    have d22 := fun X => ((aft_below w7 X).cell (p := ⟨w.heap.size + 1, 2, none⟩) hlt2).trans (blk_cell HQ.out.2.1 2)
    have d23 := fun X => ((aft_below w7 X).cell (p := ⟨w.heap.size + 1, 3, none⟩) hlt2).trans (blk_cell HQ.out.2.1 3)
    have d24 := fun X => ((aft_below w7 X).cell (p := ⟨w.heap.size + 1, 4, none⟩) hlt2).trans (blk_cell HQ.out.2.1 4)
    have d30 := fun X => ((aft_below w7 X).cell (p := ⟨gr, 0, none⟩) hlt3).trans (blk_cell HQ.out.2.2.2.2.2.2.2.2.2.1 0)
    have d31 := fun X => ((aft_below w7 X).cell (p := ⟨gr, 1, none⟩) hlt3).trans (blk_cell HQ.out.2.2.2.2.2.2.2.2.2.1 1)
    have d32 := fun X => ((aft_below w7 X).cell (p := ⟨gr, 2, none⟩) hlt3).trans (blk_cell HQ.out.2.2.2.2.2.2.2.2.2.1 2)
    have d33 := fun X => ((aft_below w7 X).cell (p := ⟨gr, 3, none⟩) hlt3).trans (blk_cell HQ.out.2.2.2.2.2.2.2.2.2.1 3)
    have d34 := fun X => ((aft_below w7 X).cell (p := ⟨gr, 4, none⟩) hlt3).trans (blk_cell HQ.out.2.2.2.2.2.2.2.2.2.1 4)
    have d40 := fun X => ((aft_below w7 X).cell (p := ⟨gs, 0, none⟩) hlt4).trans (blk_cell HQ.out.2.2.2.2.2.2.2.2.2.2.2.2.2.1 0)
    have d41 := fun X => ((aft_below w7 X).cell (p := ⟨gs, 1, none⟩) hlt4).trans (blk_cell HQ.out.2.2.2.2.2.2.2.2.2.2.2.2.2.1 1)
    have d42 := fun X => ((aft_below w7 X).cell (p := ⟨gs, 2, none⟩) hlt4).trans (blk_cell HQ.out.2.2.2.2.2.2.2.2.2.2.2.2.2.1 2)
    have d43 := fun X => ((aft_below w7 X).cell (p := ⟨gs, 3, none⟩) hlt4).trans (blk_cell HQ.out.2.2.2.2.2.2.2.2.2.2.2.2.2.1 3)
    have d44 := fun X => ((aft_below w7 X).cell (p := ⟨gs, 4, none⟩) hlt4).trans (blk_cell HQ.out.2.2.2.2.2.2.2.2.2.2.2.2.2.1 4)
    simp at d10 d11 d12 d13 d14 d20 d21 d22 d23 d24 d30 d31 d32 d33 d34 d40 d41 d42 d43 d44
    have c1 := fun X => cv_of (HQ.out.2.2.2.2.2.2.1.step (aft_below w7 X))
    have c2 := fun X => cv_of (HQ.out.2.2.2.2.2.2.2.1.step (aft_below w7 X))
    have n1 : (sxy != sxy) = false := by simp
    have n2 : (lxy != lxy) = false := by simp
    have n3 : (ew != ew) = false := by simp
    have n4 : (er != er) = false := by simp
    refine wp_region_held_drew (S := Cls w7) (by kernel_rfl) (Cls.drew w7) (fun hCl => ?_)
    refine wpAnyH_seg (fuel := 42) (by kernel_rfl) (fun _ d _ _ _ h => by cases d <;> exact h) hCl [0, 1, 2, 3, 4, 5, 6, 7, 8, 9, 10, 11, 12] _ _ _ (by kernel_rfl) (by kernel_rfl) ?_
    simp only [opsOf_cons, opsOf_nil, consOp_some, List.getElem?_toArray, List.getElem?_cons_succ, List.getElem?_cons_zero]
    repeat (first | go_big_quiet_step (fail) | quiet_step (fail))
    refine wpQuiet_nil ?_
    refine wpAnyH_each (fuel := 41) [13] (by kernel_rfl) (by simp) (by kernel_rfl) ?_
    refine Each.cons _ rfl (fun K' hK => ?_) Each.nil
    go_simp
    refine (H2.out.1 _ _ _ (HQ.out.2.2.2.2.2.2.2.2.2.2.1.step hCl.below) (HQ.out.2.2.2.2.2.2.2.2.2.2.2.2.1.step hCl.below)).mono ?_
    rintro e z1 ⟨rfl, hb⟩
    have hst := below_step hCl.below hCl.below.size hb
    clear hb
    have hCl := Cls.of hst
    refine hK.out (Cls w7) (fun _ h => h) hCl ?_
    clear hK K'
    refine wpAnyH_seg (fuel := 26) (by kernel_rfl) (fun _ d _ _ _ h => by cases d <;> exact h) hCl [14, 15, 16, 17, 18, 19, 20, 21, 22, 23, 24, 25, 26, 27, 29] _ _ _ (by kernel_rfl) (by kernel_rfl) ?_
    simp only [opsOf_cons, opsOf_nil, consOp_some, List.getElem?_toArray, List.getElem?_cons_succ, List.getElem?_cons_zero]
    repeat (first | go_big_quiet_step (fail) | quiet_step (fail))
    refine wpQuiet_nil ?_
    refine wpAnyH_each (fuel := 25) [28] (by kernel_rfl) (by simp) (by kernel_rfl) ?_
    refine Each.cons _ rfl (fun K' hK => ?_) Each.nil
    go_simp
    refine (H2.out.2.1 _ (HQ.out.2.2.1.step hCl.below)).mono ?_
    rintro e z2 ⟨rfl, hb⟩
    have hst := below_step hCl.below hCl.below.size hb
    clear hb
    have hCl := Cls.of hst
    refine hK.out (Cls w7) (fun _ h => h) hCl ?_
    clear hK K'
    refine wpAnyH_each (fuel := 24) [30] (by kernel_rfl) (by simp) (by kernel_rfl) ?_
    refine Each.cons _ rfl (fun K' hK => ?_) Each.nil
    go_simp
    refine (H2.out.2.2.1 _ (HQ.out.2.2.1.step hCl.below)).mono ?_
    rintro e z3 ⟨rfl, hb⟩
    have hst := below_step hCl.below hCl.below.size hb
    clear hb
    have hCl := Cls.of hst
    refine hK.out (Cls w7) (fun _ h => h) hCl ?_
    clear hK K'
    refine wpAnyH_seg (fuel := 17) (by kernel_rfl) (fun _ d _ _ _ h => by cases d <;> exact h) hCl [31, 32, 33, 34, 35, 37, 38] _ _ _ (by kernel_rfl) (by kernel_rfl) ?_
    simp only [opsOf_cons, opsOf_nil, consOp_some, List.getElem?_toArray, List.getElem?_cons_succ, List.getElem?_cons_zero]
    repeat (first | go_big_quiet_step (fail) | quiet_step (fail))
    refine wpQuiet_nil ?_
    refine wpAnyH_each (fuel := 16) [36] (by kernel_rfl) (by simp) (by kernel_rfl) ?_
    refine Each.cons _ rfl (fun K' hK => ?_) Each.nil
    go_simp
    refine (H2.out.2.2.2.1 _ (HQ.out.2.2.1.step hCl.below) (HQ.out.2.2.2.1.step hCl.below)).mono ?_
    rintro e z4 ⟨rfl, hb⟩
    have hst := below_step hCl.below hCl.below.size hb
    clear hb
    have hCl := Cls.of hst
    refine hK.out (Cls w7) (fun _ h => h) hCl ?_
    clear hK K'
    refine wpAnyH_each (fuel := 15) [39] (by kernel_rfl) (by simp) (by kernel_rfl) ?_
    refine Each.cons _ rfl (fun K' hK => ?_) Each.nil
    go_simp
    refine (H2.out.2.2.2.2.1 _ (HQ.out.2.2.1.step hCl.below) (HQ.out.2.2.2.1.step hCl.below)).mono ?_
    rintro e z5 ⟨rfl, hb⟩
    have hst := below_step hCl.below hCl.below.size hb
    clear hb
    have hCl := Cls.of hst
    refine hK.out (Cls w7) (fun _ h => h) hCl ?_
    clear hK K'
    refine wpAnyH_seg (fuel := 4) (by kernel_rfl) (fun _ d _ _ _ h => by cases d <;> exact h) hCl [40, 41, 42, 43, 44, 45, 46, 48, 49, 50, 51] _ _ _ (by kernel_rfl) (by kernel_rfl) ?_
    simp only [opsOf_cons, opsOf_nil, consOp_some, List.getElem?_toArray, List.getElem?_cons_succ, List.getElem?_cons_zero]
    repeat (first | go_big_quiet_step (fail) | quiet_step (fail))
    refine wpQuiet_nil ?_
    refine wpAnyH_each (fuel := 3) [47] (by kernel_rfl) (by simp) (by kernel_rfl) ?_
    refine Each.cons _ rfl (fun K' hK => ?_) Each.nil
    go_simp
    refine (H2.out.2.2.2.2.2.1 _).mono ?_
    rintro e z6 ⟨rfl, hb⟩
    have hst := below_step hCl.below hCl.below.size hb
    clear hb
    have hCl := Cls.of hst
    refine hK.out (Cls w7) (fun _ h => h) hCl ?_
    clear hK K'
    refine wpAnyH_each (fuel := 2) [52] (by kernel_rfl) (by simp) (by kernel_rfl) ?_
    refine Each.cons _ rfl (fun K' hK => ?_) Each.nil
    go_simp
    refine (H2.out.2.2.2.2.2.2 _).mono ?_
    rintro e z7 ⟨rfl, hb⟩
    have hst := below_step hCl.below hCl.below.size hb
    clear hb
    have hCl := Cls.of hst
    refine hK.out (Cls w7) (fun _ h => h) hCl ?_
    clear hK K'
    refine wpAnyH_seg (fuel := 0) (by kernel_rfl) (fun _ d _ _ _ h => by cases d <;> exact h) hCl [53, 54] _ _ _ (by kernel_rfl) (by kernel_rfl) ?_
    simp only [opsOf_cons, opsOf_nil, consOp_some, List.getElem?_toArray, List.getElem?_cons_succ, List.getElem?_cons_zero]
    repeat (first | go_big_quiet_step (fail) | quiet_step (fail))
    refine wpQuiet_nil ?_
    refine wpAnyH_done (by kernel_rfl) ?_ _
    go_wp2
    go_meet
    exact ⟨rfl, hst⟩
  case rest =>
  obtain ⟨rfl, hst⟩ := hcut
  obtain ⟨w8, hw8⟩ := named hst
  subst hw8
  clear hlt1 hlt2 hlt3 hlt4
  obtain ⟨q1, q2, hv0, hu0, hb0, ho, hw1, hw2, hB3, q3, hr, hB4, hs, q4, hB⟩ := HQ.out
  clear HQ
  replace q1 := (hst.block w.heap.size (Array.getElem?_eq_some_iff.1 q1).1).trans q1
  replace q2 := (hst.block (w.heap.size + 1) (Array.getElem?_eq_some_iff.1 q2).1).trans q2
  replace hv0 := hv0.step hst
  replace hu0 := hu0.step hst
  replace hb0 := hb0.step hst
  replace ho := ho.step hst
  replace hw1 := hw1.step hst
  replace hw2 := hw2.step hst
  replace hB3 := below_step hB3 hB3.size hst
  replace q3 := (hst.block gr (Array.getElem?_eq_some_iff.1 q3).1).trans q3
  replace hr := hr.step hst
  replace hB4 := below_step hB4 hB4.size hst
  replace hs := hs.step hst
  replace q4 := (hst.block gs (Array.getElem?_eq_some_iff.1 q4).1).trans q4
  replace hB := below_step hB hB.size hst
  have HZ8 := Lib.hid (And.intro hB3.size (And.intro hB4.size (Array.getElem?_eq_some_iff.1 q3).1))
  clear hst
  have HQ := Lib.hid (And.intro q1 (And.intro q2 (And.intro hv0 (And.intro hu0 (And.intro hb0 (And.intro ho (And.intro hw1 (And.intro hw2 (And.intro hB3 (And.intro q3 (And.intro hr (And.intro hB4 (And.intro hs (And.intro q4 hB))))))))))))))
  clear q1 q2 hv0 hu0 hb0 ho hw1 hw2 hB3 q3 hr hB4 hs q4 hB
  have d10 := blk_cell HQ.out.1 0
  have d11 := blk_cell HQ.out.1 1
  have d12 := blk_cell HQ.out.1 2
  have d13 := blk_cell HQ.out.1 3
  have d14 := blk_cell HQ.out.1 4
  simp at d10 d11 d12 d13 d14
  go_wp2_with fail
  refine (H3.out.1 _ HQ.out.2.2.1 (by show l1.length ≤ 1000000000; omega)).mono ?_
  rintro e w9 ⟨ut, rfl, hm⟩
  clear d10 d11 d12 d13 d14
  obtain ⟨q1, q2, hv0, hu0, hb0, ho, hw1, hw2, hB3, q3, hr, hB4, hs, q4, hB⟩ := HQ.out
  clear HQ
  have hst := hm.below
  replace q1 := (hst.block w.heap.size (Array.getElem?_eq_some_iff.1 q1).1).trans q1
  replace q2 := (hst.block (w.heap.size + 1) (Array.getElem?_eq_some_iff.1 q2).1).trans q2
  replace hv0 := hv0.step hst
  replace hu0 := hu0.step hst
  replace hb0 := hb0.step hst
  replace ho := ho.step hst
  replace hw1 := hw1.step hst
  replace hw2 := hw2.step hst
  replace hB3 := below_step hB3 hB3.size hst
  replace q3 := (hst.block gr (Array.getElem?_eq_some_iff.1 q3).1).trans q3
  replace hr := hr.step hst
  replace hB4 := below_step hB4 hB4.size hst
  replace hs := hs.step hst
  replace q4 := (hst.block gs (Array.getElem?_eq_some_iff.1 q4).1).trans q4
  replace hB := below_step hB hB.size hst
  obtain ⟨ta, tc, rfl, -, htc⟩ := hm.bytes.form rfl
  unfold maxLen at htc
  have HMT := Lib.hid hm
  clear hm hst
  have HQ := Lib.hid (And.intro q1 (And.intro q2 (And.intro hv0 (And.intro hu0 (And.intro hb0 (And.intro ho (And.intro hw1 (And.intro hw2 (And.intro hB3 (And.intro q3 (And.intro hr (And.intro hB4 (And.intro hs (And.intro q4 hB))))))))))))))
  clear q1 q2 hv0 hu0 hb0 ho hw1 hw2 hB3 q3 hr hB4 hs q4 hB
  go_upto_region 11 with (fail)
  obtain ⟨q1, q2, hv0, hu0, hb0, ho, hw1, hw2, hB3, q3, hr, hB4, hs, q4, hB⟩ := HQ.out
  clear HQ
  have q5 := World.alloc_heap_new w9 (.cells #[.int .u8 (k1.toNat : Int), .int .u32 (i1.toNat : Int), .int .u32 (o1.toNat : Int), .int .i64 r1, .slice ta l1.length tc] 30)
  have hst := (Below.refl w9.heap.size w9).alloc (Nat.le_refl _) (.cells #[.int .u8 (k1.toNat : Int), .int .u32 (i1.toNat : Int), .int .u32 (o1.toNat : Int), .int .i64 r1, .slice ta l1.length tc] 30)
  replace q1 := (hst.block w.heap.size (Array.getElem?_eq_some_iff.1 q1).1).trans q1
  replace q2 := (hst.block (w.heap.size + 1) (Array.getElem?_eq_some_iff.1 q2).1).trans q2
  replace hv0 := hv0.step hst
  replace hu0 := hu0.step hst
  replace hb0 := hb0.step hst
  replace ho := ho.step hst
  replace hw1 := hw1.step hst
  replace hw2 := hw2.step hst
  replace hB3 := below_step hB3 hB3.size hst
  replace q3 := (hst.block gr (Array.getElem?_eq_some_iff.1 q3).1).trans q3
  replace hr := hr.step hst
  replace hB4 := below_step hB4 hB4.size hst
  replace hs := hs.step hst
  replace q4 := (hst.block gs (Array.getElem?_eq_some_iff.1 q4).1).trans q4
  replace hB := below_step hB hB.size hst
  obtain ⟨gt, hg⟩ : ∃ g, w9.heap.size = g := ⟨_, rfl⟩
  have HGgt := Lib.hid hg
  generalize w9.alloc (.cells #[.int .u8 (k1.toNat : Int), .int .u32 (i1.toNat : Int), .int .u32 (o1.toNat : Int), .int .i64 r1, .slice ta l1.length tc] 30) = w10 at *
  rw [hg] at q5 ⊢
  have ht := HMT.out.bytes.all0.step hst
  have hB9 := hst
  clear hst hg
  have HQ := Lib.hid (And.intro q1 (And.intro q2 (And.intro hv0 (And.intro hu0 (And.intro hb0 (And.intro ho (And.intro hw1 (And.intro hw2 (And.intro hB3 (And.intro q3 (And.intro hr (And.intro hB4 (And.intro hs (And.intro q4 (And.intro q5 (And.intro ht (And.intro hB9 hB)))))))))))))))))
  clear q1 q2 hv0 hu0 hb0 ho hw1 hw2 hB3 q3 hr hB4 hs q4 q5 ht hB9 hB
  have d10 := blk_cell HQ.out.1 0
  have d11 := blk_cell HQ.out.1 1
  have d12 := blk_cell HQ.out.1 2
  have d13 := blk_cell HQ.out.1 3
  have d14 := blk_cell HQ.out.1 4
  have d50 := blk_cell HQ.out.2.2.2.2.2.2.2.2.2.2.2.2.2.2.1 0
  have d51 := blk_cell HQ.out.2.2.2.2.2.2.2.2.2.2.2.2.2.2.1 1
  have d52 := blk_cell HQ.out.2.2.2.2.2.2.2.2.2.2.2.2.2.2.1 2
  have d53 := blk_cell HQ.out.2.2.2.2.2.2.2.2.2.2.2.2.2.2.1 3
  have d54 := blk_cell HQ.out.2.2.2.2.2.2.2.2.2.2.2.2.2.2.1 4
  simp at d10 d11 d12 d13 d14 d50 d51 d52 d53 d54
  go_wp2_with fail
  refine (H3.out.2.2 _ _ HQ.out.2.2.2.2.2.2.2.2.2.2.2.2.2.2.2.1 HQ.out.2.2.1).mono ?_
  rintro e w11 ⟨rfl, hst⟩
  clear d10 d11 d12 d13 d14 d50 d51 d52 d53 d54
  obtain ⟨q1, q2, hv0, hu0, hb0, ho, hw1, hw2, hB3, q3, hr, hB4, hs, q4, q5, ht, hB9, hB⟩ := HQ.out
  clear HQ
  replace q1 := (hst.block w.heap.size (Array.getElem?_eq_some_iff.1 q1).1).trans q1
  replace q2 := (hst.block (w.heap.size + 1) (Array.getElem?_eq_some_iff.1 q2).1).trans q2
  replace hv0 := hv0.step hst
  replace hu0 := hu0.step hst
  replace hb0 := hb0.step hst
  replace ho := ho.step hst
  replace hw1 := hw1.step hst
  replace hw2 := hw2.step hst
  replace hB3 := below_step hB3 hB3.size hst
  replace q3 := (hst.block gr (Array.getElem?_eq_some_iff.1 q3).1).trans q3
  replace hr := hr.step hst
  replace hB4 := below_step hB4 hB4.size hst
  replace hs := hs.step hst
  replace q4 := (hst.block gs (Array.getElem?_eq_some_iff.1 q4).1).trans q4
  replace q5 := (hst.block gt (Array.getElem?_eq_some_iff.1 q5).1).trans q5
  replace ht := ht.step hst
  replace hB9 := below_step hB9 hB9.size hst
  replace hB := below_step hB hB.size hst
  have HZ11 := Lib.hid hB9.size
  clear hst
  have HQ := Lib.hid (And.intro q1 (And.intro q2 (And.intro hv0 (And.intro hu0 (And.intro hb0 (And.intro ho (And.intro hw1 (And.intro hw2 (And.intro hB3 (And.intro q3 (And.intro hr (And.intro hB4 (And.intro hs (And.intro q4 (And.intro q5 (And.intro ht (And.intro hB9 hB)))))))))))))))))
  clear q1 q2 hv0 hu0 hb0 ho hw1 hw2 hB3 q3 hr hB4 hs q4 q5 ht hB9 hB
  have d10 := blk_cell HQ.out.1 0
  have d11 := blk_cell HQ.out.1 1
  have d12 := blk_cell HQ.out.1 2
  have d13 := blk_cell HQ.out.1 3
  have d14 := blk_cell HQ.out.1 4
  simp at d10 d11 d12 d13 d14
  go_wp2_with fail
  refine (H3.out.2.1 _ HQ.out.2.2.1 (by show l1.length ≤ 10000000; omega)).mono ?_
  rintro e w12 ⟨uw, rfl, hm⟩
  clear d10 d11 d12 d13 d14
  obtain ⟨q1, q2, hv0, hu0, hb0, ho, hw1, hw2, hB3, q3, hr, hB4, hs, q4, q5, ht, hB9, hB⟩ := HQ.out
  clear HQ
  have hst := hm.below
  replace q1 := (hst.block w.heap.size (Array.getElem?_eq_some_iff.1 q1).1).trans q1
  replace q2 := (hst.block (w.heap.size + 1) (Array.getElem?_eq_some_iff.1 q2).1).trans q2
  replace hv0 := hv0.step hst
  replace hu0 := hu0.step hst
  replace hb0 := hb0.step hst
  replace ho := ho.step hst
  replace hw1 := hw1.step hst
  replace hw2 := hw2.step hst
  replace hB3 := below_step hB3 hB3.size hst
  replace q3 := (hst.block gr (Array.getElem?_eq_some_iff.1 q3).1).trans q3
  replace hr := hr.step hst
  replace hB4 := below_step hB4 hB4.size hst
  replace hs := hs.step hst
  replace q4 := (hst.block gs (Array.getElem?_eq_some_iff.1 q4).1).trans q4
  replace q5 := (hst.block gt (Array.getElem?_eq_some_iff.1 q5).1).trans q5
  replace ht := ht.step hst
  replace hB9 := below_step hB9 hB9.size hst
  replace hB := below_step hB hB.size hst
  obtain ⟨wa, wc, rfl, -, -⟩ := hm.bytes.form rfl
  have HMW := Lib.hid hm
  clear hm hst
  have HQ := Lib.hid (And.intro q1 (And.intro q2 (And.intro hv0 (And.intro hu0 (And.intro hb0 (And.intro ho (And.intro hw1 (And.intro hw2 (And.intro hB3 (And.intro q3 (And.intro hr (And.intro hB4 (And.intro hs (And.intro q4 (And.intro q5 (And.intro ht (And.intro hB9 hB)))))))))))))))))
  clear q1 q2 hv0 hu0 hb0 ho hw1 hw2 hB3 q3 hr hB4 hs q4 q5 ht hB9 hB
  go_upto_region 14 with (fail)
  obtain ⟨q1, q2, hv0, hu0, hb0, ho, hw1, hw2, hB3, q3, hr, hB4, hs, q4, q5, ht, hB9, hB⟩ := HQ.out
  clear HQ
  have q6 := World.alloc_heap_new w12 (.cells #[.int .u8 (k1.toNat : Int), .int .u32 (i1.toNat : Int), .int .u32 (o1.toNat : Int), .int .i64 r1, .slice wa l1.length wc] 30)
  have hst := (Below.refl w12.heap.size w12).alloc (Nat.le_refl _) (.cells #[.int .u8 (k1.toNat : Int), .int .u32 (i1.toNat : Int), .int .u32 (o1.toNat : Int), .int .i64 r1, .slice wa l1.length wc] 30)
  replace q1 := (hst.block w.heap.size (Array.getElem?_eq_some_iff.1 q1).1).trans q1
  replace q2 := (hst.block (w.heap.size + 1) (Array.getElem?_eq_some_iff.1 q2).1).trans q2
  replace hv0 := hv0.step hst
  replace hu0 := hu0.step hst
  replace hb0 := hb0.step hst
  replace ho := ho.step hst
  replace hw1 := hw1.step hst
  replace hw2 := hw2.step hst
  replace hB3 := below_step hB3 hB3.size hst
  replace q3 := (hst.block gr (Array.getElem?_eq_some_iff.1 q3).1).trans q3
  replace hr := hr.step hst
  replace hB4 := below_step hB4 hB4.size hst
  replace hs := hs.step hst
  replace q4 := (hst.block gs (Array.getElem?_eq_some_iff.1 q4).1).trans q4
  replace q5 := (hst.block gt (Array.getElem?_eq_some_iff.1 q5).1).trans q5
  replace ht := ht.step hst
  replace hB9 := below_step hB9 hB9.size hst
  replace hB := below_step hB hB.size hst
  obtain ⟨gw, hg⟩ : ∃ g, w12.heap.size = g := ⟨_, rfl⟩
  have HGgw := Lib.hid hg
  generalize w12.alloc (.cells #[.int .u8 (k1.toNat : Int), .int .u32 (i1.toNat : Int), .int .u32 (o1.toNat : Int), .int .i64 r1, .slice wa l1.length wc] 30) = w13 at *
  rw [hg] at q6 ⊢
  have hB12 := hst
  clear hst hg
  have HQ := Lib.hid (And.intro q1 (And.intro q2 (And.intro hv0 (And.intro hu0 (And.intro hb0 (And.intro ho (And.intro hw1 (And.intro hw2 (And.intro hB3 (And.intro q3 (And.intro hr (And.intro hB4 (And.intro hs (And.intro q4 (And.intro q5 (And.intro ht (And.intro hB9 (And.intro hB12 (And.intro q6 hB)))))))))))))))))))
  clear q1 q2 hv0 hu0 hb0 ho hw1 hw2 hB3 q3 hr hB4 hs q4 q5 ht hB9 hB12 q6 hB
  have hlater := HMT.out.later HQ.out.2.2.2.2.2.2.2.2.2.2.2.2.2.2.2.2.1
  have wlater := (HMW.out.later HQ.out.2.2.2.2.2.2.2.2.2.2.2.2.2.2.2.2.2.1).1
  have HV1 := Lib.hid hlater
  have HVW := Lib.hid wlater
  have box5 := blk_cell HQ.out.2.2.2.2.2.2.2.2.2.2.2.2.2.2.1 4
  simp at box5
  have g5 := (Array.getElem?_eq_some_iff.1 HQ.out.2.2.2.2.2.2.2.2.2.2.2.2.2.2.1).1
  have HG6 := Lib.hid (Array.getElem?_eq_some_iff.1 HQ.out.2.2.2.2.2.2.2.2.2.2.2.2.2.2.2.2.2.2.1).1
  clear hlater wlater
  go_wp2_with fail
  go_loopw [20] (fun i wr => ∃ (k : Nat) (L : List UInt8), k ≤ l1.length ∧ i = .int .i64 k ∧ L.length = l1.length ∧ Bytes wr w8.heap.size w9.heap.size (.slice ta l1.length tc) L ∧ Thawed wr (.slice ta l1.length tc) ∧ Below w8.heap.size w13 wr ∧ Kp w9.heap.size w13.heap.size w13 wr) (fun i _ => l1.length - (intOf i).toNat)
  case atStart => exact ⟨0, l1, Nat.zero_le _, rfl, rfl, HV1.out.1, HV1.out.2, Below.refl _ _, Kp.refl _ _ _⟩
  case round =>
  obtain ⟨k, L, hk, rfl, hL, hb, ht, hB, hK⟩ := hrel
  have hbox := (hK gt 4 (by rw [← HGgt.out]; exact Nat.le_refl _) g5).1.trans box5
  by_cases hlt : k < l1.length
  · obtain ⟨xb, xo, xc2, he, y1, y2, y3, y4, y5⟩ := hb.at_n hL (by omega)
    cases he
    obtain ⟨z, hz⟩ : ∃ z, L[k]? = some z := ⟨L[k]'(by omega), by simp⟩
    have hcell := y5 k z hz
    have hfz := ht _ _ _ _ rfl k hlt
    have hset := hb.set k (z + 1) (by omega)
    have htset := ht.set ⟨xb, xo + k, none⟩ (bV (z + 1))
    have hadd := add1_u8 z
    simp only [bV] at hcell
    have HP := Lib.hid (And.intro hset (And.intro htset (And.intro hB (And.intro hL (And.intro hadd hK)))))
    have hz1 : (z.toNat : Int) < 256 := by have := z.toNat_lt; omega
    unfold maxLen at y4
    clear hset htset hB hL y5 hz hb ht hadd hK
    go_wp2_with fail
    go_still_tail 10, (by kernel_rfl)
    go_wp2
    go_roundw
    case rel =>
      obtain ⟨hset, htset, hB, hL, hadd, hK⟩ := HP.out
      rw [hadd]
      exact ⟨k + 1, _, by omega, by go_num, by rw [List.length_set]; exact hL, hset, htset, (hB.drew).setCell (p := ⟨xb, xo + k, none⟩) y1 _, kp_set hK _ _ (.inl y2)⟩
    case measure => simp [intOf]; omega
  obtain rfl : k = l1.length := by omega
  obtain ⟨w14, hw14⟩ := named hB
  subst hw14
  obtain ⟨z1, z2, z3⟩ := HZ8.out
  have z4 := HMR.out.below.size
  have z5 := HMT.out.below.size
  have z6 := HZ11.out
  have z7 := HMW.out.below.size
  have z8 := HG6.out
  rw [← HGgw.out] at z8
  have z9 := hB.size
  have z10 := HQ.out.2.2.2.2.2.2.2.2.2.2.2.1.size
  have m3 := HQ.out.2.2.2.2.2.2.2.2.1.trans (hB.mono z1)
  have m4 := HMR.out.later (HQ.out.2.2.2.2.2.2.2.2.2.2.2.1.trans (hB.mono z2))
  have m5 := (hB.block gr z3).trans HQ.out.2.2.2.2.2.2.2.2.2.1
  have m6 := kp_bytes HVW.out hK z6 (by omega)
  have m7 := HQ.out.2.2.2.2.2.2.2.2.2.2.2.2.2.2.2.2.2.2.2.trans (hB.mono (by have := HQ.out.2.2.2.2.2.2.2.2.1.size; have := (HK3.out.2.2.2.2.2.2.2.2).size; omega))
  have v0 := (hK gw 0 (by rw [← HGgw.out]; omega) HG6.out).1.trans (blk_cell HQ.out.2.2.2.2.2.2.2.2.2.2.2.2.2.2.2.2.2.2.1 0)
  have v1 := (hK gw 1 (by rw [← HGgw.out]; omega) HG6.out).1.trans (blk_cell HQ.out.2.2.2.2.2.2.2.2.2.2.2.2.2.2.2.2.2.2.1 1)
  have v2 := (hK gw 2 (by rw [← HGgw.out]; omega) HG6.out).1.trans (blk_cell HQ.out.2.2.2.2.2.2.2.2.2.2.2.2.2.2.2.2.2.2.1 2)
  have v3 := (hK gw 3 (by rw [← HGgw.out]; omega) HG6.out).1.trans (blk_cell HQ.out.2.2.2.2.2.2.2.2.2.2.2.2.2.2.2.2.2.2.1 3)
  have v4 := (hK gw 4 (by rw [← HGgw.out]; omega) HG6.out).1.trans (blk_cell HQ.out.2.2.2.2.2.2.2.2.2.2.2.2.2.2.2.2.2.2.1 4)
  simp at v0 v1 v2 v3 v4
  have gwl : gw < w14.heap.size := by have := HG6.out; omega
  have gw4 : w4.heap.size ≤ gw := by have := HGgw.out; omega
  have HV2 := Lib.hid m4
  have box3 := blk_cell m5 4
  have g3 := (Array.getElem?_eq_some_iff.1 m5).1
  simp at box3
  have HE := Lib.hid (And.intro m3 (And.intro m6 (And.intro (And.intro v0 (And.intro v1 (And.intro v2 (And.intro v3 v4)))) (And.intro m7 (And.intro gwl gw4)))))
  have HN := Lib.hid (And.intro z1 (And.intro z2 (And.intro z4 (And.intro z5 (And.intro z6 (And.intro z7 (And.intro z8 z9)))))))
  clear m3 m4 m5 m6 m7 v0 v1 v2 v3 v4 gwl gw4 hL hb ht hB hK hlt hk z1 z2 z3 z4 z5 z6 z7 z8 z9 z10 box5 g5
  go_wp2_with fail
  go_loopw [21] (fun i wr => ∃ (k : Nat) (L : List UInt8), k ≤ l3.length ∧ i = .int .i64 k ∧ L.length = l3.length ∧ Bytes wr w3.heap.size w4.heap.size (.slice ra l3.length rc) L ∧ Thawed wr (.slice ra l3.length rc) ∧ Below w3.heap.size w14 wr ∧ Kp w4.heap.size w14.heap.size w14 wr) (fun i _ => l3.length - (intOf i).toNat)
  case atStart => exact ⟨0, l3, Nat.zero_le _, rfl, rfl, HV2.out.1, HV2.out.2, Below.refl _ _, Kp.refl _ _ _⟩
  case round =>
  obtain ⟨k, L, hk, rfl, hL, hb, ht, hB, hK⟩ := hrel
  have hbox := (hK gr 4 (by rw [← HGgr.out]; exact Nat.le_refl _) g3).1.trans box3
  by_cases hlt : k < l3.length
  · obtain ⟨xb, xo, xc2, he, y1, y2, y3, y4, y5⟩ := hb.at_n hL (by omega)
    cases he
    obtain ⟨z, hz⟩ : ∃ z, L[k]? = some z := ⟨L[k]'(by omega), by simp⟩
    have hcell := y5 k z hz
    have hfz := ht _ _ _ _ rfl k hlt
    have hset := hb.set k (z + 1) (by omega)
    have htset := ht.set ⟨xb, xo + k, none⟩ (bV (z + 1))
    have hadd := add1_u8 z
    simp only [bV] at hcell
    have HP := Lib.hid (And.intro hset (And.intro htset (And.intro hB (And.intro hL (And.intro hadd hK)))))
    have hz1 : (z.toNat : Int) < 256 := by have := z.toNat_lt; omega
    unfold maxLen at y4
    clear hset htset hB hL y5 hz hb ht hadd hK
    go_wp2_with fail
    go_still_tail 10, (by kernel_rfl)
    go_wp2
    go_roundw
    case rel =>
      obtain ⟨hset, htset, hB, hL, hadd, hK⟩ := HP.out
      rw [hadd]
      exact ⟨k + 1, _, by omega, by go_num, by rw [List.length_set]; exact hL, hset, htset, (hB.drew).setCell (p := ⟨xb, xo + k, none⟩) y1 _, kp_set hK _ _ (.inl y2)⟩
    case measure => simp [intOf]; omega
  obtain rfl : k = l3.length := by omega
  obtain ⟨w15, hw15⟩ := named hB
  subst hw15
  obtain ⟨m3, m6, ⟨v0, v1, v2, v3, v4⟩, m7, gwl, gw4⟩ := HE.out
  obtain ⟨z1, z2, z4, z5, z6, z7, z8, z9⟩ := HN.out
  have hE := m3.trans hB
  have p1 := (hE.block w.heap.size (Array.getElem?_eq_some_iff.1 HK3.out.1).1).trans HK3.out.1
  have p2 := (HK3.out.2.2.1.below hE (Nat.le_refl _)).more (Nat.le_refl _) hE.size
  have e1 := cv_of (HK3.out.2.2.2.2.2.1.below hE (Nat.le_refl _))
  have e2 := cv_of (HK3.out.2.2.2.2.1.below hE (Nat.le_refl _))
  have p5 : Bytes w15 0 w15.heap.size (.slice wa l1.length wc) l1 := (kp_bytes m6 hK (by omega) (by omega)).more (Nat.zero_le _) (by have := hB.size; omega)
  have hfin := m7.trans (hB.mono (by have := (HK3.out.2.2.2.2.2.2.2.2).size; omega))
  replace v0 := (hK gw 0 gw4 gwl).1.trans v0
  replace v1 := (hK gw 1 gw4 gwl).1.trans v1
  replace v2 := (hK gw 2 gw4 gwl).1.trans v2
  replace v3 := (hK gw 3 gw4 gwl).1.trans v3
  replace v4 := (hK gw 4 gw4 gwl).1.trans v4
  have d10 := blk_cell p1 0
  have d11 := blk_cell p1 1
  have d12 := blk_cell p1 2
  have d13 := blk_cell p1 3
  have d14 := blk_cell p1 4
  simp at d10 d11 d12 d13 d14
  have HF := Lib.hid (And.intro p2 (And.intro p5 hfin))
  clear p1 p2 p5 hfin m3 m6 m7 gwl gw4 z1 z2 z4 z5 z6 z7 z8 z9 hE hL hb ht hB hK hk box3 g3 HE HN
  go_wp2_with fail
  refine (H3.out.2.2 _ _ HF.out.2.1 HF.out.1).mono ?_
  rintro e w16 ⟨rfl, hst⟩
  go_wp2
  go_ret
  exact ⟨rfl, below_step HF.out.2.2 HF.out.2.2.size hst⟩

end Go.Proofs.Ytldidclnfkmonaa
