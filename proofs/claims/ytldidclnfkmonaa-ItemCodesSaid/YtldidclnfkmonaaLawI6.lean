/- The walk of the statement ItemTwins. -/
import Derived.Test.YtldidclnfkmonaaLawI4
namespace Go.Proofs.Ytldidclnfkmonaa
open Go.RowKit
set_option linter.unusedSimpArgs false

theorem lessK_or (a b : KeyL) : lessK a b = (decide (a.kind.toNat < b.kind.toNat) || (a.kind.toNat == b.kind.toNat && (decide (a.id.toNat < b.id.toNat) || (a.id.toNat == b.id.toNat && decide (a.off.toNat < b.off.toNat))))) := by
  unfold lessK
  simp only [← UInt8.toNat_inj, ← UInt32.toNat_inj]
  split
  · rename_i h
    rw [h]
    split
    · rename_i h2
      rw [h2]
      simp
    · rename_i h2
      simp [h2]
  · rename_i h
    simp [h]

theorem named {B : Nat} {a w : World} (_ : Below B a w) : ∃ v, v = w := ⟨_, rfl⟩

set_option maxRecDepth 100000 in
set_option maxHeartbeats 2000000 in
theorem itemTwins_walk (x : ItemL) (v : Value) (y : ItemL) (u : Value) (w : World) (hv : Bytes w 0 w.heap.size v x.val) (hu : Bytes w 0 w.heap.size u y.val) :
    Calls Try.prog 6 #[itemV x v, itemV y u] w fun e w' => e = .returned (.bool true) ∧ Below w.heap.size w w' := by
  have hB := ((Below.refl w.heap.size w).alloc (Nat.le_refl _) (.cells #[bV x.key.kind, wV x.key.id, wV x.key.off, .int .i64 x.ref, v] 30)).alloc (by simp) (.cells #[bV y.key.kind, wV y.key.id, wV y.key.off, .int .i64 y.ref, u] 30)
  have hq := two_new w (.cells #[bV x.key.kind, wV x.key.id, wV x.key.off, .int .i64 x.ref, v] 30) (.cells #[bV y.key.kind, wV y.key.id, wV y.key.off, .int .i64 y.ref, u] 30)
  have hv0 := hv.step hB
  have hu0 := hu.step hB
  obtain ⟨W, hW⟩ : ∃ W, (w.alloc (.cells #[bV x.key.kind, wV x.key.id, wV x.key.off, .int .i64 x.ref, v] 30)).alloc (.cells #[bV y.key.kind, wV y.key.id, wV y.key.off, .int .i64 y.ref, u] 30) = W := ⟨_, rfl⟩
  have hz : W.heap.size = w.heap.size + 2 := by rw [← hW]; simp
  rw [hW] at hB hq hv0 hu0
  obtain ⟨a, c, rfl, g1, g2, -, -⟩ := hv
  obtain ⟨a', c', rfl, g1', g2', -, -⟩ := hu
  unfold maxLen at g2 g2'
  have htw := fun V h h2 => itwin_any x (.slice a x.val.length c) V h h2
  have hsx : ∀ V t, Bytes V 0 V.heap.size t x.val → Bytes V 0 V.heap.size (.slice a x.val.length c) x.val → Calls Try.prog 19 #[itemV x t, itemV x (.slice a x.val.length c)] V fun e w' => e = .returned (.bool true) ∧ Below V.heap.size V w' := fun V t h h' => by
    have h2 := isame_any x x t _ V h h'
    rw [decide_eq_true rfl] at h2
    exact h2
  have hsm := fun V h h' => isame_any x y (.slice a x.val.length c) (.slice a' y.val.length c') V h h'
  have hsn := fun V h h' => isame_any y x (.slice a' y.val.length c') (.slice a x.val.length c) V h h'
  have hl1 := fun V => less_any x.key y.key V
  have hl2 := fun V => less_any y.key x.key V
  have has : lessK x.key y.key = true → lessK y.key x.key = false := lessK_asymm
  have hk := fun V => eq_key x.key y.key V
  have hyx : decide (y = x) = decide (x = y) := by
    by_cases h : x = y
    · rw [decide_eq_true h, decide_eq_true h.symm]
    · rw [decide_eq_false h, decide_eq_false (fun h2 => h h2.symm)]
  rw [hyx] at hsn
  have hdx : decide (x = y) = (decide (x.key = y.key) && (x.ref == y.ref) && (x.val == y.val)) := by
    obtain ⟨kx, r, l⟩ := x
    obtain ⟨ky, s, m⟩ := y
    rw [Bool.eq_iff_iff]
    simp [and_assoc]
  have hdl : lessK x.key y.key = (decide (x.key.kind.toNat < y.key.kind.toNat) || (x.key.kind.toNat == y.key.kind.toNat && (decide (x.key.id.toNat < y.key.id.toNat) || (x.key.id.toNat == y.key.id.toNat && decide (x.key.off.toNat < y.key.off.toNat))))) := by
    exact lessK_or x.key y.key
  generalize decide (x = y) = sxy at *
  generalize decide (x.key = y.key) = skk at *
  generalize lessK x.key y.key = lxy at *
  generalize lessK y.key x.key = lyx at *
  have HS := Lib.hid (And.intro htw (And.intro hsx (And.intro hsm (And.intro hsn (And.intro hl1 hl2)))))
  have HD := Lib.hid (And.intro hdx (And.intro hdl has))
  have HQ := Lib.hid (And.intro hq (And.intro hB (And.intro hz (And.intro hW (And.intro hv0 hu0)))))
  have HK := Lib.hid hk
  clear htw hsx hsm hsn hl1 hl2 hdx hdl has hq hB hz hW hv0 hu0 hk hyx
  have hg : Try.prog.eqGuardType Try.prog.depth 24 = false := by kernel_rfl
  obtain ⟨⟨k1, i1, o1⟩, r1, l1⟩ := x
  obtain ⟨⟨k2, i2, o2⟩, r2, l2⟩ := y
  simp only [itemV, keyV, bV, wV] at *
  go_enter Try.func6, Try.ntmps6
  go_upto_region 1 with (fail)
  rw [HQ.out.2.2.2.1]
  go_wp2_with fail
  refine (alive5 _).mono ?_
  rintro e w1 ⟨rfl, hst⟩
  obtain ⟨⟨q1, q2⟩, hB, hz, _, hv0, hu0⟩ := HQ.out
  replace q1 := (hst.block w.heap.size (Array.getElem?_eq_some_iff.1 q1).1).trans q1
  replace q2 := (hst.block (w.heap.size + 1) (Array.getElem?_eq_some_iff.1 q2).1).trans q2
  replace hv0 := hv0.step hst
  replace hu0 := hu0.step hst
  replace hB := below_step hB hB.size hst
  clear hst HQ
  have HQ := Lib.hid (And.intro q1 (And.intro q2 (And.intro hv0 (And.intro hu0 hB))))
  clear hz
  have d10 := blk_cell q1 0
  have d11 := blk_cell q1 1
  have d12 := blk_cell q1 2
  have d13 := blk_cell q1 3
  have d14 := blk_cell q1 4
  have d20 := blk_cell q2 0
  have d21 := blk_cell q2 1
  have d22 := blk_cell q2 2
  have d23 := blk_cell q2 3
  have d24 := blk_cell q2 4
  simp at d10 d11 d12 d13 d14 d20 d21 d22 d23 d24
  clear q1 q2 hv0 hu0 hB
  by_cases hb1 : 10000 < l1.length
  · go_wp2
    go_ret
    exact ⟨rfl, HQ.out.2.2.2.2⟩
  by_cases hb2 : 10000 < l2.length
  · go_wp2
    go_ret
    exact ⟨rfl, HQ.out.2.2.2.2⟩
  have e1 : (l1.length : Int) ≤ 10000 := by omega
  have e2 : (l2.length : Int) ≤ 10000 := by omega
  clear hb1 hb2
  go_wp2_with fail
  refine (HS.out.1 _ HQ.out.2.2.1 (by show l1.length ≤ 1000000000; omega)).mono ?_
  rintro e w2 ⟨t, rfl, hm⟩
  obtain ⟨q1, q2, hv0, hu0, hB⟩ := HQ.out
  have hst := hm.below
  have htb := hm.bytes.all0
  obtain ⟨ta, tc, rfl, -, -⟩ := htb.form rfl
  replace q1 := (hst.block w.heap.size (Array.getElem?_eq_some_iff.1 q1).1).trans q1
  replace q2 := (hst.block (w.heap.size + 1) (Array.getElem?_eq_some_iff.1 q2).1).trans q2
  replace hv0 := hv0.step hst
  replace hu0 := hu0.step hst
  replace hB := below_step hB hB.size hst
  clear hst HQ
  have HQ := Lib.hid (And.intro q1 (And.intro q2 (And.intro hv0 (And.intro hu0 hB))))
  clear hm q1 q2 hv0 hu0 hB d10 d11 d12 d13 d14 d20 d21 d22 d23 d24
  simp only
  go_upto_region 5 with (fail)
  obtain ⟨q1, q2, hv0, hu0, hB⟩ := HQ.out
  have hst := (Below.refl w2.heap.size w2).alloc (Nat.le_refl _) (.cells #[.int .u8 (k1.toNat : Int), .int .u32 (i1.toNat : Int), .int .u32 (o1.toNat : Int), .int .i64 r1, .slice ta l1.length tc] 30)
  have q3 := alloc_cells w2 #[.int .u8 (k1.toNat : Int), .int .u32 (i1.toNat : Int), .int .u32 (o1.toNat : Int), .int .i64 r1, .slice ta l1.length tc] 30
  replace htb := htb.step hst
  replace q1 := (hst.block w.heap.size (Array.getElem?_eq_some_iff.1 q1).1).trans q1
  replace q2 := (hst.block (w.heap.size + 1) (Array.getElem?_eq_some_iff.1 q2).1).trans q2
  replace hv0 := hv0.step hst
  replace hu0 := hu0.step hst
  replace hB := below_step hB hB.size hst
  clear hst HQ
  have HQ := Lib.hid (And.intro q1 (And.intro q2 (And.intro hv0 (And.intro hu0 hB))))
  have HT := Lib.hid (And.intro q3 htb)
  have z2 := w2.heap.size
  obtain ⟨g, hg2⟩ : ∃ g, w2.heap.size = g := ⟨_, rfl⟩
  clear q1 q2 q3 hv0 hu0 hB htb z2
  generalize w2.alloc (.cells #[.int .u8 (k1.toNat : Int), .int .u32 (i1.toNat : Int), .int .u32 (o1.toNat : Int), .int .i64 r1, .slice ta l1.length tc] 30) = w3 at *
  rw [hg2] at HT ⊢
  clear hg2
  have d10 := blk_cell HQ.out.1 0
  have d11 := blk_cell HQ.out.1 1
  have d12 := blk_cell HQ.out.1 2
  have d13 := blk_cell HQ.out.1 3
  have d14 := blk_cell HQ.out.1 4
  have d20 := blk_cell HQ.out.2.1 0
  have d21 := blk_cell HQ.out.2.1 1
  have d22 := blk_cell HQ.out.2.1 2
  have d23 := blk_cell HQ.out.2.1 3
  have d24 := blk_cell HQ.out.2.1 4
  simp at d10 d11 d12 d13 d14 d20 d21 d22 d23 d24
  have k1' := cv_of HQ.out.2.2.1
  have k2' := cv_of HQ.out.2.2.2.1
  go_cut [7] (fun s wx => s = .bool sxy ∧ wx = w3)
  case first =>
    have hd := HD.out.1
    have hk := HK.out
    cases skk
    · rw [Bool.false_and, Bool.false_and] at hd
      subst hd
      go_wp2
      go_meet
      exact ⟨rfl, rfl⟩
    · cases hr : (r1 == r2)
      · have : sxy = false := by rw [hd]; simp only [hr]; rfl
        subst this
        clear hd
        go_wp2
        go_meet
        exact ⟨rfl, rfl⟩
      · cases hl : (l1 == l2)
        · have hd2 : sxy = false := by rw [hd]; simp only [hr, hl]; rfl
          subst hd2
          clear hd
          go_wp2
          go_meet
          exact ⟨rfl, rfl⟩
        · have hd2 : sxy = true := by rw [hd]; simp only [hr, hl]; rfl
          subst hd2
          clear hd
          go_wp2
          go_meet
          exact ⟨rfl, rfl⟩
  case rest =>
  obtain ⟨rfl, rfl⟩ := hcut
  clear k1' k2'
  have q3 := HT.out.1
  have d30 := blk_cell q3 0
  have d31 := blk_cell q3 1
  have d32 := blk_cell q3 2
  have d33 := blk_cell q3 3
  have d34 := blk_cell q3 4
  simp at d30 d31 d32 d33 d34
  clear q3
  go_wp2_with fail
  refine (HS.out.2.1 _ _ HT.out.2 HQ.out.2.2.1).mono ?_
  rintro e w4 ⟨rfl, hst⟩
  clear HT d10 d11 d12 d13 d14 d20 d21 d22 d23 d24 d30 d31 d32 d33 d34
  obtain ⟨q1, q2, hv0, hu0, hB⟩ := HQ.out
  replace q1 := (hst.block w.heap.size (Array.getElem?_eq_some_iff.1 q1).1).trans q1
  replace q2 := (hst.block (w.heap.size + 1) (Array.getElem?_eq_some_iff.1 q2).1).trans q2
  replace hv0 := hv0.step hst
  replace hu0 := hu0.step hst
  replace hB := below_step hB hB.size hst
  clear hst HQ
  have HQ := Lib.hid (And.intro q1 (And.intro q2 (And.intro hv0 (And.intro hu0 hB))))
  clear q1 q2 hv0 hu0 hB
  have d10 := blk_cell HQ.out.1 0
  have d11 := blk_cell HQ.out.1 1
  have d12 := blk_cell HQ.out.1 2
  have d13 := blk_cell HQ.out.1 3
  have d14 := blk_cell HQ.out.1 4
  have d20 := blk_cell HQ.out.2.1 0
  have d21 := blk_cell HQ.out.2.1 1
  have d22 := blk_cell HQ.out.2.1 2
  have d23 := blk_cell HQ.out.2.1 3
  have d24 := blk_cell HQ.out.2.1 4
  simp at d10 d11 d12 d13 d14 d20 d21 d22 d23 d24
  go_wp2_with fail
  refine (HS.out.2.2.1 _ HQ.out.2.2.1 HQ.out.2.2.2.1).mono ?_
  rintro e w5 ⟨rfl, hst⟩
  clear d10 d11 d12 d13 d14 d20 d21 d22 d23 d24
  obtain ⟨q1, q2, hv0, hu0, hB⟩ := HQ.out
  replace q1 := (hst.block w.heap.size (Array.getElem?_eq_some_iff.1 q1).1).trans q1
  replace q2 := (hst.block (w.heap.size + 1) (Array.getElem?_eq_some_iff.1 q2).1).trans q2
  replace hv0 := hv0.step hst
  replace hu0 := hu0.step hst
  replace hB := below_step hB hB.size hst
  clear hst HQ
  have HQ := Lib.hid (And.intro q1 (And.intro q2 (And.intro hv0 (And.intro hu0 hB))))
  clear q1 q2 hv0 hu0 hB
  have d10 := blk_cell HQ.out.1 0
  have d11 := blk_cell HQ.out.1 1
  have d12 := blk_cell HQ.out.1 2
  have d13 := blk_cell HQ.out.1 3
  have d14 := blk_cell HQ.out.1 4
  have d20 := blk_cell HQ.out.2.1 0
  have d21 := blk_cell HQ.out.2.1 1
  have d22 := blk_cell HQ.out.2.1 2
  have d23 := blk_cell HQ.out.2.1 3
  have d24 := blk_cell HQ.out.2.1 4
  simp at d10 d11 d12 d13 d14 d20 d21 d22 d23 d24
  have hne : (sxy != sxy) = false := by simp
  go_wp2_with fail
  refine (HS.out.2.2.2.1 _ HQ.out.2.2.2.1 HQ.out.2.2.1).mono ?_
  rintro e w6 ⟨rfl, hst⟩
  clear d10 d11 d12 d13 d14 d20 d21 d22 d23 d24
  obtain ⟨q1, q2, hv0, hu0, hB⟩ := HQ.out
  replace q1 := (hst.block w.heap.size (Array.getElem?_eq_some_iff.1 q1).1).trans q1
  replace q2 := (hst.block (w.heap.size + 1) (Array.getElem?_eq_some_iff.1 q2).1).trans q2
  replace hv0 := hv0.step hst
  replace hu0 := hu0.step hst
  replace hB := below_step hB hB.size hst
  clear hst HQ
  have HQ := Lib.hid (And.intro q1 (And.intro q2 (And.intro hv0 (And.intro hu0 hB))))
  clear q1 q2 hv0 hu0 hB
  have d10 := blk_cell HQ.out.1 0
  have d11 := blk_cell HQ.out.1 1
  have d12 := blk_cell HQ.out.1 2
  have d13 := blk_cell HQ.out.1 3
  have d14 := blk_cell HQ.out.1 4
  have d20 := blk_cell HQ.out.2.1 0
  have d21 := blk_cell HQ.out.2.1 1
  have d22 := blk_cell HQ.out.2.1 2
  have d23 := blk_cell HQ.out.2.1 3
  have d24 := blk_cell HQ.out.2.1 4
  simp at d10 d11 d12 d13 d14 d20 d21 d22 d23 d24
  go_upto_region 8 with (fail)
  have m1 : w.heap.size < w6.heap.size := (Array.getElem?_eq_some_iff.1 HQ.out.1).1
  have m2 : w.heap.size + 1 < w6.heap.size := (Array.getElem?_eq_some_iff.1 HQ.out.2.1).1
  generalize w.heap.size + 1 = gy at *
  go_cut [8, 9] (fun s8 s9 wx => ∃ ga gb : Nat, s8 = .pointer (some ⟨ga, 0, none⟩) ∧ s9 = .pointer (some ⟨gb, 0, none⟩) ∧ wx.heap[ga]? = some (.cells #[.int .u8 (k1.toNat : Int), .int .u32 (i1.toNat : Int), .int .u32 (o1.toNat : Int)] 24 (0, 0)) ∧ wx.heap[gb]? = some (.cells #[.int .u8 (k2.toNat : Int), .int .u32 (i2.toNat : Int), .int .u32 (o2.toNat : Int)] 24 (0, 0)) ∧ Below w6.heap.size w6 wx)
  case first =>
    go_region
    all_goals
      go_wp2
      go_meet
      first
        | exact ⟨_, _, rfl, rfl, (two_new _ _ _).1, (two_new _ _ _).2, (((Below.refl _ w6).alloc (Nat.le_refl _) _).alloc (by simp) _).drew⟩
        | exact ⟨_, _, rfl, rfl, (two_new _ _ _).2, (two_new _ _ _).1, (((Below.refl _ w6).alloc (Nat.le_refl _) _).alloc (by simp) _).drew⟩
  case rest =>
  obtain ⟨ga, gb, rfl, rfl, h1, h2, hst⟩ := hcut
  obtain ⟨wx, hwx⟩ := named hst
  subst hwx
  clear d10 d11 d12 d13 d14 d20 d21 d22 d23 d24 m1 m2
  obtain ⟨q1, q2, hv0, hu0, hB⟩ := HQ.out
  replace hB := below_step hB hB.size hst
  clear q1 q2 hv0 hu0 HQ hst e1 e2 hne HK
  have HA := Lib.hid HS.out.2.2.2.2
  clear HS
  have a0 := blk_cell h1 0
  have a1 := blk_cell h1 1
  have a2 := blk_cell h1 2
  have b0 := blk_cell h2 0
  have b1 := blk_cell h2 1
  have b2 := blk_cell h2 2
  simp at a0 a1 a2 b0 b1 b2
  have HB := Lib.hid hB
  have H1 := Lib.hid h1
  have H2 := Lib.hid h2
  clear hB h1 h2
  go_upto_region 9 with (fail)
  go_cut [10] (fun s wy => s = .bool lxy ∧ wy = wx)
  case first =>
    have hd := HD.out.2.1
    clear HB H1 H2
    by_cases c1 : k1.toNat < k2.toNat
    · have p1 : (k1.toNat : Int) < k2.toNat := by omega
      have c0 : lxy = true := by rw [hd]; simp [c1]
      clear hd c1
      subst c0
      go_wp2
      go_meet
      exact ⟨rfl, rfl⟩
    · have p1 : ¬ (k1.toNat : Int) < k2.toNat := by omega
      by_cases e1 : k1.toNat = k2.toNat
      · have x1 : ((k1.toNat : Int) == k2.toNat) = true := by simp; omega
        by_cases c2 : i1.toNat < i2.toNat
        · have p2 : (i1.toNat : Int) < i2.toNat := by omega
          have c0 : lxy = true := by rw [hd]; simp [c1, e1, c2]
          clear hd c1 e1 c2
          subst c0
          go_wp2
          go_meet
          exact ⟨rfl, rfl⟩
        · have p2 : ¬ (i1.toNat : Int) < i2.toNat := by omega
          by_cases e2 : i1.toNat = i2.toNat
          · have x2 : ((i1.toNat : Int) == i2.toNat) = true := by simp; omega
            by_cases c3 : o1.toNat < o2.toNat
            · have p3 : (o1.toNat : Int) < o2.toNat := by omega
              have c0 : lxy = true := by rw [hd]; simp [c1, e1, c2, e2, c3]
              clear hd c1 e1 c2 e2 c3
              subst c0
              go_wp2
              go_meet
              exact ⟨rfl, rfl⟩
            · have p3 : ¬ (o1.toNat : Int) < o2.toNat := by omega
              have c0 : lxy = false := by rw [hd]; simp [c1, e1, c2, e2, c3]
              clear hd c1 e1 c2 e2 c3
              subst c0
              go_wp2
              go_meet
              exact ⟨rfl, rfl⟩
          · have x2 : ((i1.toNat : Int) == i2.toNat) = false := by simp; omega
            have c0 : lxy = false := by rw [hd]; simp [c1, e1, c2, e2]
            clear hd c1 e1 c2 e2
            subst c0
            go_wp2
            go_meet
            exact ⟨rfl, rfl⟩
      · have x1 : ((k1.toNat : Int) == k2.toNat) = false := by simp; omega
        have c0 : lxy = false := by rw [hd]; simp [c1, e1]
        clear hd c1 e1
        subst c0
        go_wp2
        go_meet
        exact ⟨rfl, rfl⟩
  case rest =>
  obtain ⟨rfl, rfl⟩ := hcut
  have hxy := HD.out.2.2
  go_wp2_with fail
  refine (HA.out.1 _).mono ?_
  rintro e w8 ⟨rfl, hst⟩
  clear a0 a1 a2 b0 b1 b2
  have h1 := (hst.block ga (Array.getElem?_eq_some_iff.1 H1.out).1).trans H1.out
  have h2 := (hst.block gb (Array.getElem?_eq_some_iff.1 H2.out).1).trans H2.out
  have hB := HB.out
  replace hB := below_step hB hB.size hst
  clear HB H1 H2 hst
  have a0 := blk_cell h1 0
  have a1 := blk_cell h1 1
  have a2 := blk_cell h1 2
  have b0 := blk_cell h2 0
  have b1 := blk_cell h2 1
  have b2 := blk_cell h2 2
  simp at a0 a1 a2 b0 b1 b2
  have HB := Lib.hid hB
  clear hB h1 h2
  cases lxy
  · go_wp2_with fail
    go_ret
    exact ⟨rfl, HB.out⟩
  · have hlyx := hxy rfl
    subst hlyx
    go_wp2_with fail
    refine (HA.out.2 _).mono ?_
    rintro e w9 ⟨rfl, hst⟩
    go_wp2_with fail
    go_ret
    exact ⟨rfl, below_step HB.out HB.out.size hst⟩
end Go.Proofs.Ytldidclnfkmonaa
