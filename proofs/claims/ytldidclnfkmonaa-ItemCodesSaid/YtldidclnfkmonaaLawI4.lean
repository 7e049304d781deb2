/- The walk of the statement ItemUnlike. -/
import Derived.Test.YtldidclnfkmonaaLawI1
import Derived.Test.YtldidclnfkmonaaItmP
namespace Go.Proofs.Ytldidclnfkmonaa
open Go.RowKit

theorem run_preB (a : Option Addr) (len c n : Nat) (h : n ≤ c) (w : World) : (Instr.sliceAt 28 (.slice a len c) none (some (.int .i64 n)) none).run Try.prog w = .ok (.slice a n c) w := by
  cases a with
  | none => simp [go_sem, h]
  | some ad => simp [go_sem, h]

set_option maxRecDepth 100000 in
set_option maxHeartbeats 2000000 in
theorem itemUnlike_walk (x : ItemL) (v : Value) (y : ItemL) (u : Value) (w : World) (hv : Bytes w 0 w.heap.size v x.val) (hu : Bytes w 0 w.heap.size u y.val) :
    Calls Try.prog 4 #[itemV x v, itemV y u] w fun e w' => e = .returned (.bool true) ∧ Below w.heap.size w w' := by
  have hB := ((Below.refl w.heap.size w).alloc (Nat.le_refl _) (.cells #[bV x.key.kind, wV x.key.id, wV x.key.off, .int .i64 x.ref, v] 30)).alloc (by simp) (.cells #[bV y.key.kind, wV y.key.id, wV y.key.off, .int .i64 y.ref, u] 30)
  have hq := two_new w (.cells #[bV x.key.kind, wV x.key.id, wV x.key.off, .int .i64 x.ref, v] 30) (.cells #[bV y.key.kind, wV y.key.id, wV y.key.off, .int .i64 y.ref, u] 30)
  have hv0 := hv.step hB
  have hu0 := hu.step hB
  obtain ⟨W, hW⟩ : ∃ W, (w.alloc (.cells #[bV x.key.kind, wV x.key.id, wV x.key.off, .int .i64 x.ref, v] 30)).alloc (.cells #[bV y.key.kind, wV y.key.id, wV y.key.off, .int .i64 y.ref, u] 30) = W := ⟨_, rfl⟩
  have hz : W.heap.size = w.heap.size + 2 := by rw [← hW]; simp
  rw [hW] at hB hq hv0 hu0
  obtain ⟨a, c, rfl, g1, g2, -, -⟩ := hv
  obtain ⟨a', c', rfl, g1', g2', -, -⟩ := hu
  unfold maxLen at g2 g2'
  have hwx := fun V h => iwrite_any x (.slice a x.val.length c) V h
  have hwy := fun V h => iwrite_any y (.slice a' y.val.length c') V h
  have hck := fun V h => icheck_any x (.slice a x.val.length c) V h
  have hsm := fun V h h' => isame_any x y (.slice a x.val.length c) (.slice a' y.val.length c') V h h'
  have hlx : wrI x = if mayI x then itemB x else [] := rfl
  have hly : wrI y = if mayI y then itemB y else [] := rfl
  have HS := Lib.hid (And.intro hwx (And.intro hwy (And.intro hck hsm)))
  have HL := Lib.hid (And.intro hlx hly)
  have HQ := Lib.hid (And.intro hq (And.intro hB (And.intro hz (And.intro hW (And.intro hv0 hu0)))))
  have Hpl := Lib.hid (And.intro (itemB_length x) (And.intro (itemB_length y) (And.intro (itemB_beq x y) (itemB_pre x y))))
  have hmx : mayI x = true ↔ ((x.ref = 0 ∨ (8 ≤ x.ref ∧ x.ref < 256)) ∧ x.val.length ≤ 12) := by unfold mayI; simp only [decide_eq_true_eq]
  have Hmx := Lib.hid hmx
  clear hwx hwy hck hsm hlx hly hq hB hz hW hv0 hu0 hmx
  generalize wrI x = px at *
  generalize wrI y = py at *
  generalize itemB x = bx at *
  generalize itemB y = b_y at *
  generalize mayI x = mx at *
  generalize mayI y = my at *
  generalize hxy : decide (x = y) = sxy at *
  clear hxy
  obtain ⟨⟨k1, i1, o1⟩, r1, l1⟩ := x
  obtain ⟨⟨k2, i2, o2⟩, r2, l2⟩ := y
  simp only [itemV, bV, wV] at *
  go_enter Try.func4, Try.ntmps4
  go_upto_region 1 with (fail)
  rw [HQ.out.2.2.2.1]
  go_wp2_with fail
  refine (alive5 _).mono ?_
  rintro e w1 ⟨rfl, hb1⟩
  obtain ⟨⟨q1, q2⟩, hB, hz, _, hv0, hu0⟩ := HQ.out
  replace q1 := (hb1.block w.heap.size (by omega)).trans q1
  replace q2 := (hb1.block (w.heap.size + 1) (by omega)).trans q2
  replace hv0 := hv0.step hb1
  replace hu0 := hu0.step hb1
  replace hB := below_step hB hB.size hb1
  clear hb1 hz HQ
  have HQ := Lib.hid (And.intro q1 (And.intro q2 (And.intro hv0 (And.intro hu0 hB))))
  have d10 := blk_cell q1 0
  have d11 := blk_cell q1 1
  have d12 := blk_cell q1 2
  have d13 := blk_cell q1 3
  have d14 := blk_cell q1 4
  have d20 := blk_cell q2 0
  have d21 := blk_cell q2 1
  have d22 := blk_cell q2 2
  have d23 := blk_cell q2 3
  have d24 := blk_cell q2 4
  simp at d10 d11 d12 d13 d14 d20 d21 d22 d23 d24
  clear q1 q2 hv0 hu0 hB
  by_cases hb1 : 10000 < l1.length
  · go_wp2
    go_ret
    exact ⟨rfl, HQ.out.2.2.2.2⟩
  by_cases hb2 : 10000 < l2.length
  · go_wp2
    go_ret
    exact ⟨rfl, HQ.out.2.2.2.2⟩
  have e1 : (l1.length : Int) ≤ 10000 := by omega
  have e2 : (l2.length : Int) ≤ 10000 := by omega
  clear hb1 hb2
  go_wp2_with fail
  refine (HS.out.1 _ HQ.out.2.2.1).mono ?_
  rintro e w2 ⟨p, rfl, hp⟩
  obtain ⟨q1, q2, hv0, hu0, hB⟩ := HQ.out
  replace q1 := (hp.below.block w.heap.size (Array.getElem?_eq_some_iff.1 q1).1).trans q1
  replace q2 := (hp.below.block (w.heap.size + 1) (Array.getElem?_eq_some_iff.1 q2).1).trans q2
  replace hv0 := hv0.step hp.below
  replace hu0 := hu0.step hp.below
  replace hB := below_step hB hB.size hp.below
  clear HQ d10 d11 d12 d13 d14 d20 d21 d22 d23 d24
  have HQ := Lib.hid (And.intro q1 (And.intro q2 (And.intro hv0 (And.intro hu0 hB))))
  have d10 := blk_cell q1 0
  have d11 := blk_cell q1 1
  have d12 := blk_cell q1 2
  have d13 := blk_cell q1 3
  have d14 := blk_cell q1 4
  have d20 := blk_cell q2 0
  have d21 := blk_cell q2 1
  have d22 := blk_cell q2 2
  have d23 := blk_cell q2 3
  have d24 := blk_cell q2 4
  simp at d10 d11 d12 d13 d14 d20 d21 d22 d23 d24
  clear q1 q2 hv0 hu0 hB
  have hpb := hp.bytes
  clear hp
  go_wp2_with fail
  refine (HS.out.2.1 _ HQ.out.2.2.2.1).mono ?_
  rintro e w3 ⟨q, rfl, hp⟩
  have hpc := hpb.all0.step hp.below
  obtain ⟨q1, q2, hv0, hu0, hB⟩ := HQ.out
  replace q1 := (hp.below.block w.heap.size (Array.getElem?_eq_some_iff.1 q1).1).trans q1
  replace q2 := (hp.below.block (w.heap.size + 1) (Array.getElem?_eq_some_iff.1 q2).1).trans q2
  replace hv0 := hv0.step hp.below
  replace hu0 := hu0.step hp.below
  replace hB := below_step hB hB.size hp.below
  clear HQ d10 d11 d12 d13 d14 d20 d21 d22 d23 d24
  have HQ := Lib.hid (And.intro q1 (And.intro q2 (And.intro hv0 (And.intro hu0 hB))))
  have d10 := blk_cell q1 0
  have d11 := blk_cell q1 1
  have d12 := blk_cell q1 2
  have d13 := blk_cell q1 3
  have d14 := blk_cell q1 4
  have d20 := blk_cell q2 0
  have d21 := blk_cell q2 1
  have d22 := blk_cell q2 2
  have d23 := blk_cell q2 3
  have d24 := blk_cell q2 4
  simp at d10 d11 d12 d13 d14 d20 d21 d22 d23 d24
  clear q1 q2 hv0 hu0 hB
  have hqb := hp.bytes.all0
  clear hp hpb
  go_upto_region 6 with (fail)
  go_cut [62] (fun s wx => s = .bool false ∧ Below w3.heap.size w3 wx)
  case first =>
    have hck := HS.out.2.2.1 _ HQ.out.2.2.1
    have Hck := Lib.hid hck
    clear hck
    cases mx
    · have e9 : mayE false = 8 := rfl
      rw [e9] at Hck ⊢
      have hno := Hmx.out
      simp only [Bool.false_eq_true, false_iff] at hno
      have f1 : ¬ (r1 = 0 ∧ l1.length ≤ 12) := fun h => hno ⟨.inl h.1, h.2⟩
      have f2 : ¬ (8 ≤ r1 ∧ r1 < 256 ∧ l1.length ≤ 12) := fun h => hno ⟨.inr ⟨h.1, h.2.1⟩, h.2.2⟩
      clear hno
      by_cases h0 : r1 = 0
      · have h12 : ¬ ((l1.length : Int) ≤ 12) := by omega
        subst h0
        go_wp2_with fail
        refine Hck.out.mono ?_
        rintro e w4 ⟨rfl, hb4⟩
        have hlt1 : w.heap.size < w3.heap.size := (Array.getElem?_eq_some_iff.1 HQ.out.1).1
        have q1 := (hb4.block w.heap.size hlt1).trans HQ.out.1
        clear d10 d11 d12 d13 d14 d20 d21 d22 d23 d24
        have d10 := blk_cell q1 0
        have d11 := blk_cell q1 1
        have d12 := blk_cell q1 2
        have d13 := blk_cell q1 3
        have d14 := blk_cell q1 4
        simp at d10 d11 d12 d13 d14
        clear q1
        have HB4 := Lib.hid hb4
        clear hb4
        go_wp2
        go_meet
        exact ⟨by first | rfl | rw [decide_eq_false (by omega : ¬ (l1.length : Int) ≤ 12)], HB4.out⟩
      · have h0' : (r1 == 0) = false := by simp [h0]
        by_cases h8 : 8 ≤ r1
        · by_cases h9 : r1 ≤ 255
          · have h12 : ¬ ((l1.length : Int) ≤ 12) := by omega
            clear f1 f2
            go_wp2_with fail
            refine Hck.out.mono ?_
            rintro e w4 ⟨rfl, hb4⟩
            have hlt1 : w.heap.size < w3.heap.size := (Array.getElem?_eq_some_iff.1 HQ.out.1).1
            have q1 := (hb4.block w.heap.size hlt1).trans HQ.out.1
            clear d10 d11 d12 d13 d14 d20 d21 d22 d23 d24
            have d10 := blk_cell q1 0
            have d11 := blk_cell q1 1
            have d12 := blk_cell q1 2
            have d13 := blk_cell q1 3
            have d14 := blk_cell q1 4
            simp at d10 d11 d12 d13 d14
            clear q1
            have HB4 := Lib.hid hb4
            clear hb4
            go_wp2
            go_meet
            exact ⟨by first | rfl | rw [decide_eq_false (by omega : ¬ (l1.length : Int) ≤ 12)], HB4.out⟩
          · clear f1 f2
            go_wp2_with fail
            refine Hck.out.mono ?_
            rintro e w4 ⟨rfl, hb4⟩
            have hlt1 : w.heap.size < w3.heap.size := (Array.getElem?_eq_some_iff.1 HQ.out.1).1
            have q1 := (hb4.block w.heap.size hlt1).trans HQ.out.1
            clear d10 d11 d12 d13 d14 d20 d21 d22 d23 d24
            have d10 := blk_cell q1 0
            have d11 := blk_cell q1 1
            have d12 := blk_cell q1 2
            have d13 := blk_cell q1 3
            have d14 := blk_cell q1 4
            simp at d10 d11 d12 d13 d14
            clear q1
            have HB4 := Lib.hid hb4
            clear hb4
            go_wp2
            go_meet
            exact ⟨by first | rfl | rw [decide_eq_false (by omega : ¬ (l1.length : Int) ≤ 12)], HB4.out⟩
        · clear f1 f2
          go_wp2_with fail
          refine Hck.out.mono ?_
          rintro e w4 ⟨rfl, hb4⟩
          have hlt1 : w.heap.size < w3.heap.size := (Array.getElem?_eq_some_iff.1 HQ.out.1).1
          have q1 := (hb4.block w.heap.size hlt1).trans HQ.out.1
          clear d10 d11 d12 d13 d14 d20 d21 d22 d23 d24
          have d10 := blk_cell q1 0
          have d11 := blk_cell q1 1
          have d12 := blk_cell q1 2
          have d13 := blk_cell q1 3
          have d14 := blk_cell q1 4
          simp at d10 d11 d12 d13 d14
          clear q1
          have HB4 := Lib.hid hb4
          clear hb4
          go_wp2
          go_meet
          exact ⟨by first | rfl | rw [decide_eq_false (by omega : ¬ (l1.length : Int) ≤ 12)], HB4.out⟩
    · have e9 : mayE true = 0 := rfl
      rw [e9] at Hck ⊢
      obtain ⟨hr, hl12⟩ := Hmx.out.1 rfl
      have h12 : (l1.length : Int) ≤ 12 := by omega
      by_cases h0 : r1 = 0
      · subst h0
        clear hr
        go_wp2_with fail
        refine Hck.out.mono ?_
        rintro e w4 ⟨rfl, hb4⟩
        have hlt1 : w.heap.size < w3.heap.size := (Array.getElem?_eq_some_iff.1 HQ.out.1).1
        have q1 := (hb4.block w.heap.size hlt1).trans HQ.out.1
        clear d10 d11 d12 d13 d14 d20 d21 d22 d23 d24
        have d10 := blk_cell q1 0
        have d11 := blk_cell q1 1
        have d12 := blk_cell q1 2
        have d13 := blk_cell q1 3
        have d14 := blk_cell q1 4
        simp at d10 d11 d12 d13 d14
        clear q1
        have HB4 := Lib.hid hb4
        clear hb4
        go_wp2
        go_meet
        exact ⟨by first | rfl | rw [decide_eq_false (by omega : ¬ (l1.length : Int) ≤ 12)], HB4.out⟩
      · have h0' : (r1 == 0) = false := by simp [h0]
        have h8 : 8 ≤ r1 := by omega
        have h9 : r1 ≤ 255 := by omega
        clear hr
        go_wp2_with fail
        refine Hck.out.mono ?_
        rintro e w4 ⟨rfl, hb4⟩
        have hlt1 : w.heap.size < w3.heap.size := (Array.getElem?_eq_some_iff.1 HQ.out.1).1
        have q1 := (hb4.block w.heap.size hlt1).trans HQ.out.1
        clear d10 d11 d12 d13 d14 d20 d21 d22 d23 d24
        have d10 := blk_cell q1 0
        have d11 := blk_cell q1 1
        have d12 := blk_cell q1 2
        have d13 := blk_cell q1 3
        have d14 := blk_cell q1 4
        simp at d10 d11 d12 d13 d14
        clear q1
        have HB4 := Lib.hid hb4
        clear hb4
        go_wp2
        go_meet
        exact ⟨by first | rfl | rw [decide_eq_false (by omega : ¬ (l1.length : Int) ≤ 12)], HB4.out⟩
  case rest =>
  obtain ⟨rfl, hbx⟩ := hcut
  replace hpc := hpc.step hbx
  replace hqb := hqb.step hbx
  obtain ⟨q1, q2, hv0, hu0, hB⟩ := HQ.out
  replace q1 := (hbx.block w.heap.size (Array.getElem?_eq_some_iff.1 q1).1).trans q1
  replace q2 := (hbx.block (w.heap.size + 1) (Array.getElem?_eq_some_iff.1 q2).1).trans q2
  replace hv0 := hv0.step hbx
  replace hu0 := hu0.step hbx
  replace hB := below_step hB hB.size hbx
  clear hbx HQ d10 d11 d12 d13 d14 d20 d21 d22 d23 d24
  have HQ := Lib.hid (And.intro q1 (And.intro q2 (And.intro hv0 (And.intro hu0 hB))))
  have d10 := blk_cell q1 0
  have d11 := blk_cell q1 1
  have d12 := blk_cell q1 2
  have d13 := blk_cell q1 3
  have d14 := blk_cell q1 4
  have d20 := blk_cell q2 0
  have d21 := blk_cell q2 1
  have d22 := blk_cell q2 2
  have d23 := blk_cell q2 3
  have d24 := blk_cell q2 4
  simp at d10 d11 d12 d13 d14 d20 d21 d22 d23 d24
  clear q1 q2 hv0 hu0 hB
  cases mx
  · have e9 : mayE false = 8 := rfl
    rw [e9]
    go_wp2
    go_ret
    exact ⟨rfl, HQ.out.2.2.2.2⟩
  cases my
  · have e9 : mayE true = 0 := rfl
    have e10 : mayE false = 8 := rfl
    rw [e9, e10]
    go_wp2
    go_ret
    exact ⟨rfl, HQ.out.2.2.2.2⟩
  have e9 : mayE true = 0 := rfl
  rw [e9]
  clear e9
  obtain ⟨hlx, hly⟩ := HL.out
  rw [if_pos rfl] at hlx hly
  subst hlx hly
  obtain ⟨lx, ly, hbeq, hpre⟩ := Hpl.out
  have hbeq2 := hbeq rfl rfl
  have hpre2 := hpre rfl rfl
  have HP := Lib.hid (And.intro lx (And.intro ly (And.intro hbeq2 (And.intro hpre2 (And.intro hpc hqb)))))
  obtain ⟨pa, pc, rfl, p1, p2⟩ := hpc.form rfl
  obtain ⟨qa, qc, rfl, q1, q2⟩ := hqb.form rfl
  have e3 : (px.length : Int) = 12 + (l1.length : Int) := by rw [lx]; simp
  have e4 : (px.length : Int) ≤ 20000 := by omega
  have e5 : (py.length : Int) ≤ 20000 := by rw [ly]; simp; omega
  have HE3 := Lib.hid e3
  unfold maxLen at p2 q2
  clear lx ly hbeq hpre hbeq2 hpre2 hpc hqb e3 Hpl HL Hmx
  go_wp2_with fail
  have hbne : ((px.length : Int) != 12 + (l1.length : Int)) = false := by rw [HE3.out]; simp
  have hs1 : (px == py) = sxy := HP.out.2.2.1
  have hlt1 : w.heap.size < wc.heap.size := (Array.getElem?_eq_some_iff.1 HQ.out.1).1
  have hlt2 : w.heap.size + 1 < wc.heap.size := (Array.getElem?_eq_some_iff.1 HQ.out.2.1).1
  clear d10 d11 d12 d13 d14 d20 d21 d22 d23 d24
  have d10 := fun X => ((aft_below wc X).cell (p := ⟨w.heap.size, 0, none⟩) hlt1).trans (blk_cell HQ.out.1 0)
  have d11 := fun X => ((aft_below wc X).cell (p := ⟨w.heap.size, 1, none⟩) hlt1).trans (blk_cell HQ.out.1 1)
  have d12 := fun X => ((aft_below wc X).cell (p := ⟨w.heap.size, 2, none⟩) hlt1).trans (blk_cell HQ.out.1 2)
  have d13 := fun X => ((aft_below wc X).cell (p := ⟨w.heap.size, 3, none⟩) hlt1).trans (blk_cell HQ.out.1 3)
  have d14 := fun X => ((aft_below wc X).cell (p := ⟨w.heap.size, 4, none⟩) hlt1).trans (blk_cell HQ.out.1 4)
  have d20 := fun X => ((aft_below wc X).cell (p := ⟨w.heap.size + 1, 0, none⟩) hlt2).trans (blk_cell HQ.out.2.1 0)
  have d21 := fun X => ((aft_below wc X).cell (p := ⟨w.heap.size + 1, 1, none⟩) hlt2).trans (blk_cell HQ.out.2.1 1)
  have d22 := fun X => ((aft_below wc X).cell (p := ⟨w.heap.size + 1, 2, none⟩) hlt2).trans (blk_cell HQ.out.2.1 2)
  have d23 := fun X => ((aft_below wc X).cell (p := ⟨w.heap.size + 1, 3, none⟩) hlt2).trans (blk_cell HQ.out.2.1 3)
  have d24 := fun X => ((aft_below wc X).cell (p := ⟨w.heap.size + 1, 4, none⟩) hlt2).trans (blk_cell HQ.out.2.1 4)
  simp at d10 d11 d12 d13 d14 d20 d21 d22 d23 d24
  have k1 := fun X => cv_of (HP.out.2.2.2.2.1.step (aft_below wc X))
  have k2 := fun X => cv_of (HP.out.2.2.2.2.2.step (aft_below wc X))
  refine wp_region_held_drew (S := Cls wc) (by kernel_rfl) (Cls.of (Below.refl _ _).drew) (fun hCl => ?_)
  refine wpAnyH_seg (fuel := 3) (by kernel_rfl) (fun _ d _ _ _ h => by cases d <;> exact h) hCl [0, 1, 2, 3, 4, 5, 6, 7, 8, 9, 10, 11, 12, 13, 14] _ _ _ (by kernel_rfl) (by kernel_rfl) ?_
  simp only [opsOf_cons, opsOf_nil, consOp_some, List.getElem?_toArray, List.getElem?_cons_succ, List.getElem?_cons_zero]
  repeat (first | go_big_quiet_step (fail) | quiet_step (fail))
  refine wpQuiet_nil ?_
  clear k1 k2 hbne hs1 d10 d11 d12 d13 d14 d20 d21 d22 d23 d24
  refine wpAnyH_inv0 [15, 16, 17] (fun | 16 => [15] | 17 => [16] | _ => []) (gPure (fun | 15 => some (.bool sxy) | 16 => some (.bool false) | 17 => some (.bool false) | _ => none)) hCl (cls_step _) (gPure_keep _) (by kernel_rfl) (by kernel_rfl) (by kernel_rfl) (by decide) ?_ ?_
  · refine OpsI.cons _ (by simp only [List.getElem?_toArray, List.getElem?_cons_succ, List.getElem?_cons_zero]; rfl) (fun vs V hV hd K hK => ?_) ?_
    · simp only [putAll, dstOf, List.getElem?_toArray, List.getElem?_cons_succ, List.getElem?_cons_zero, Option.bind_some, Act.put, List.setIfInBounds_toArray, List.set_cons_succ, List.set_cons_zero] at hK ⊢
      go_simp
      refine (HS.out.2.2.2 V (HQ.out.2.2.1.step hV.below) (HQ.out.2.2.2.1.step hV.below)).mono ?_
      rintro e W' ⟨rfl, hb⟩
      exact hK _ _ (fun u hu => by cases hu; rfl) hb
    refine OpsI.cons _ (by simp only [List.getElem?_toArray, List.getElem?_cons_succ, List.getElem?_cons_zero]; rfl) (fun vs V hV hd K hK => ?_) ?_
    · simp only [putAll, dstOf, List.getElem?_toArray, List.getElem?_cons_succ, List.getElem?_cons_zero, Option.bind_some, Act.put, List.setIfInBounds_toArray, List.set_cons_succ, List.set_cons_zero] at hK ⊢
      have h15 : vs 15 = .bool sxy := hd 15 (by simp) _ rfl
      clear hd
      generalize vs 15 = v9 at *
      subst h15
      go_simp
      exact hK _ _ (fun u hu => by cases hu; simp) (Below.refl _ _)
    refine OpsI.cons _ (by simp only [List.getElem?_toArray, List.getElem?_cons_succ, List.getElem?_cons_zero]; rfl) (fun vs V hV hd K hK => ?_) ?_
    · simp only [putAll, dstOf, List.getElem?_toArray, List.getElem?_cons_succ, List.getElem?_cons_zero, Option.bind_some, Act.put, List.setIfInBounds_toArray, List.set_cons_succ, List.set_cons_zero] at hK ⊢
      have h16 : vs 16 = .bool false := hd 16 (by simp) _ rfl
      clear hd
      generalize vs 16 = v9 at *
      subst h16
      go_simp
      exact hK _ _ (fun u hu => by cases hu; rfl) (Below.refl _ _)
    exact OpsI.nil
  · intro vs V hV hall
    have h17 : vs 17 = .bool false := hall 17 (by simp) _ rfl
    simp only [putAll, dstOf, List.getElem?_toArray, List.getElem?_cons_succ, List.getElem?_cons_zero, Option.bind_some, Act.put, List.setIfInBounds_toArray, List.set_cons_succ, List.set_cons_zero]
    clear hall hCl hlt1 hlt2
    rw [h17]
    clear h17
    have hV2 := hV.below
    have hfb := below_step HQ.out.2.2.2.2 HQ.out.2.2.2.2.size hV2
    have hpv := HP.out.2.2.2.2.1.step hV2
    have hqv := HP.out.2.2.2.2.2.step hV2
    have Hfb := Lib.hid hfb
    have hpre := HP.out.2.2.2.1
    have lx : 12 ≤ px.length := by have := HP.out.1; omega
    have ly : 12 ≤ py.length := by have := HP.out.2.1; omega
    clear hV hV2 hfb
    go_upto_region 12 with (fail)
    go_cut [10] (fun s wx => ∃ n : Nat, s = .int .i64 n ∧ n ≤ px.length ∧ n ≤ py.length ∧ 12 ≤ n ∧ (px.length = py.length ∨ px.length ≠ py.length) ∧ wx = V)
    case first =>
      by_cases hm : (py.length : Int) < (px.length : Int)
      · go_wp2
        go_meet
        exact ⟨py.length, by congr 1; omega, by omega, by omega, by omega, by omega, rfl⟩
      · go_wp2
        go_meet
        exact ⟨px.length, by congr 1; omega, by omega, by omega, by omega, by omega, rfl⟩
    case rest =>
    obtain ⟨n, rfl, hn1, hn2, hn3, hor, rfl⟩ := hcut
    have m1 := hpv.pre n hn1
    have m2 := hqv.pre n hn2
    have k1 := fun nq => cv_of (w := wc.drewN nq) m1
    have k2 := fun nq => cv_of (w := wc.drewN nq) m2
    have s1 := fun W => run_preB pa px.length pc n (by omega) W
    have s2 := fun W => run_preB qa py.length qc n (by omega) W
    have hbb : (List.take n px != List.take n py) = true ∨ ((List.take n px != List.take n py) = false ∧ ((px.length : Int) == (py.length : Int)) = true) := by
      rcases hor with h | h
      · cases hx : (List.take n px != List.take n py)
        · exact .inr ⟨rfl, by rw [h]; simp⟩
        · exact .inl rfl
      · exact .inl (by rw [bne_iff_ne]; exact hpre h n hn3)
    clear hpre hor m1 m2 hpv hqv
    generalize List.take n px = tp at *
    generalize List.take n py = tq at *
    go_wp2_with fail
    rcases hbb with hbb | ⟨hbb, hbc⟩
    all_goals
      have hbd := hbb
      simp only [bne, Bool.not_eq_true', Bool.not_eq_false'] at hbd
      go_quiet (fail)
      go_wp2
      go_ret
      exact ⟨rfl, Hfb.out.trans (below_dn _ _ _)⟩
end Go.Proofs.Ytldidclnfkmonaa
