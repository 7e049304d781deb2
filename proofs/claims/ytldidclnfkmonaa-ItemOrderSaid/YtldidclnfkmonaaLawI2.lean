/- The walk of the statement ItemOrder. -/
import Derived.Test.YtldidclnfkmonaaLawI1
import Derived.Test.YtldidclnfkmonaaKeyP
namespace Go.Proofs.Ytldidclnfkmonaa
open Go.RowKit

theorem three_new (w : World) (o1 o2 o3 : Obj) : (((w.alloc o1).alloc o2).alloc o3).heap[w.heap.size]? = some o1 ∧ (((w.alloc o1).alloc o2).alloc o3).heap[w.heap.size + 1]? = some o2 ∧ (((w.alloc o1).alloc o2).alloc o3).heap[w.heap.size + 2]? = some o3 := by
  obtain ⟨h1, h2⟩ := two_new w o1 o2
  have h3 := World.alloc_heap_new ((w.alloc o1).alloc o2) o3
  have hs : ((w.alloc o1).alloc o2).heap.size = w.heap.size + 2 := by simp
  rw [hs] at h3
  refine ⟨?_, ?_, h3⟩
  · rw [Below.heap_alloc _ o3 w.heap.size (by rw [hs]; omega), h1]
  · rw [Below.heap_alloc _ o3 (w.heap.size + 1) (by rw [hs]; omega), h2]
theorem beq_key (a b : KeyL) : (a = b) ∨ a ≠ b := by by_cases h : a = b; exact .inl h; exact .inr h

set_option maxRecDepth 100000 in
set_option maxHeartbeats 2000000 in
theorem itemOrder_walk (a b c : KeyL) (w : World) :
    Calls Try.prog 3 #[keyV a, keyV b, keyV c] w fun e w' => e = .returned (.bool true) ∧ Below w.heap.size w w' := by
  have hB := (((Below.refl w.heap.size w).alloc (Nat.le_refl _) (.cells #[bV a.kind, wV a.id, wV a.off] 24)).alloc (by simp) (.cells #[bV b.kind, wV b.id, wV b.off] 24)).alloc (by simp; omega) (.cells #[bV c.kind, wV c.id, wV c.off] 24)
  have hq := three_new w (.cells #[bV a.kind, wV a.id, wV a.off] 24) (.cells #[bV b.kind, wV b.id, wV b.off] 24) (.cells #[bV c.kind, wV c.id, wV c.off] 24)
  obtain ⟨W, hW⟩ : ∃ W, ((w.alloc (.cells #[bV a.kind, wV a.id, wV a.off] 24)).alloc (.cells #[bV b.kind, wV b.id, wV b.off] 24)).alloc (.cells #[bV c.kind, wV c.id, wV c.off] 24) = W := ⟨_, rfl⟩
  have hz : W.heap.size = w.heap.size + 3 := by rw [← hW]; simp
  rw [hW] at hB hq
  have hl := fun V => less_any a b V
  have hl2 := fun V => less_any b a V
  have hl3 := fun V => less_any b c V
  have hl4 := fun V => less_any a c V
  have hk := fun V => eq_key a b V
  have hfacts : (a = b ∧ lessK a b = false ∧ lessK b a = false) ∨ (decide (a = b) = false ∧ lessK a b = true ∧ lessK b a = false ∧ (lessK b c = true → lessK a c = true)) ∨ (decide (a = b) = false ∧ lessK a b = false ∧ lessK b a = true) := by
    by_cases h : a = b
    · subst h; exact .inl ⟨rfl, lessK_self _, lessK_self _⟩
    · rcases lessK_ne h with ⟨h1, h2⟩ | ⟨h1, h2⟩
      · exact .inr (.inl ⟨decide_eq_false h, h1, h2, fun h3 => lessK_trans h1 h3⟩)
      · exact .inr (.inr ⟨decide_eq_false h, h1, h2⟩)
  have hd1 : (a = b) → decide (a = b) = true := fun h => decide_eq_true h
  have HF := Lib.hid (And.intro hfacts hd1)
  generalize lessK a b = ab at *
  generalize lessK b a = ba at *
  generalize lessK b c = bc at *
  generalize lessK a c = ac at *
  generalize decide (a = b) = dab at *
  have HL := Lib.hid (And.intro hl (And.intro hl2 (And.intro hl3 hl4)))
  have HQ := Lib.hid (And.intro hq (And.intro hB (And.intro hz hW)))
  have HK := Lib.hid hk
  clear hl hl2 hl3 hl4 hk hq hB hz hW hfacts hd1
  have hg : Try.prog.eqGuardType Try.prog.depth 24 = false := by kernel_rfl
  obtain ⟨k1, i1, o1⟩ := a
  obtain ⟨k2, i2, o2⟩ := b
  obtain ⟨k3, i3, o3⟩ := c
  simp only [keyV, bV, wV] at *
  go_enter Try.func3, Try.ntmps3
  go_upto_region 1 with (fail)
  rw [HQ.out.2.2.2]
  go_wp2_with fail
  refine (alive5 _).mono ?_
  rintro e w1 ⟨rfl, hb1⟩
  obtain ⟨⟨q1, q2, q3⟩, hB, hz, _⟩ := HQ.out
  have p1 := (hb1.block w.heap.size (by omega)).trans q1
  have p2 := (hb1.block (w.heap.size + 1) (by omega)).trans q2
  have p3 := (hb1.block (w.heap.size + 2) (by omega)).trans q3
  have hB1 := below_step hB hB.size hb1
  have hs1 := hb1.size
  have HP := Lib.hid (And.intro p1 (And.intro p2 (And.intro p3 hB1)))
  have hl1 : w.heap.size < w1.heap.size := by omega
  have hl2 : w.heap.size + 1 < w1.heap.size := by omega
  have hl3 : w.heap.size + 2 < w1.heap.size := by omega
  clear p1 p2 p3 q1 q2 q3 hB hz hB1 hs1 hb1
  have c10 := fun X => ((aft_below w1 X).cell (p := ⟨w.heap.size, 0, none⟩) hl1).trans (blk_cell HP.out.1 0)
  have c11 := fun X => ((aft_below w1 X).cell (p := ⟨w.heap.size, 1, none⟩) hl1).trans (blk_cell HP.out.1 1)
  have c12 := fun X => ((aft_below w1 X).cell (p := ⟨w.heap.size, 2, none⟩) hl1).trans (blk_cell HP.out.1 2)
  have c20 := fun X => ((aft_below w1 X).cell (p := ⟨w.heap.size + 1, 0, none⟩) hl2).trans (blk_cell HP.out.2.1 0)
  have c21 := fun X => ((aft_below w1 X).cell (p := ⟨w.heap.size + 1, 1, none⟩) hl2).trans (blk_cell HP.out.2.1 1)
  have c22 := fun X => ((aft_below w1 X).cell (p := ⟨w.heap.size + 1, 2, none⟩) hl2).trans (blk_cell HP.out.2.1 2)
  have c30 := fun X => ((aft_below w1 X).cell (p := ⟨w.heap.size + 2, 0, none⟩) hl3).trans (blk_cell HP.out.2.2.1 0)
  have c31 := fun X => ((aft_below w1 X).cell (p := ⟨w.heap.size + 2, 1, none⟩) hl3).trans (blk_cell HP.out.2.2.1 1)
  have c32 := fun X => ((aft_below w1 X).cell (p := ⟨w.heap.size + 2, 2, none⟩) hl3).trans (blk_cell HP.out.2.2.1 2)
  simp at c10 c11 c12 c20 c21 c22 c30 c31 c32
  go_wp2_with fail
  refine wp_region_held_drew (S := Cls w1) (by kernel_rfl) (Cls.of (Below.refl _ _).drew) (fun hCl => ?_)
  refine wpAnyH_seg (fuel := 4) (by kernel_rfl) (fun _ d _ _ _ h => by cases d <;> exact h) hCl [0, 1, 3, 4] _ _ _ (by kernel_rfl) (by kernel_rfl) ?_
  simp only [opsOf_cons, opsOf_nil, consOp_some, List.getElem?_toArray, List.getElem?_cons_succ, List.getElem?_cons_zero]
  repeat (first | go_big_quiet_step (fail) | quiet_step (fail))
  refine wpQuiet_nil ?_
  refine wpAnyH_inv0 [2, 5, 6, 7] (fun | 6 => [2] | 7 => [5] | _ => []) (gPure (fun | 2 => some (.bool ab) | 5 => some (.bool ba) | 6 => some (.bool ab) | 7 => some (.bool ba) | _ => none)) hCl (cls_step _) (gPure_keep _) (by kernel_rfl) (by kernel_rfl) (by kernel_rfl) (by decide) ?_ ?_
  · refine OpsI.cons _ (by simp only [List.getElem?_toArray, List.getElem?_cons_succ, List.getElem?_cons_zero]; rfl) (fun vs V hV hd K hK => ?_) ?_
    · simp only [putAll, dstOf, List.getElem?_toArray, List.getElem?_cons_succ, List.getElem?_cons_zero, Option.bind_some, Act.put, List.setIfInBounds_toArray, List.set_cons_succ, List.set_cons_zero] at hK ⊢
      go_simp
      refine (HL.out.1 _).mono ?_
      rintro e W' ⟨rfl, hb⟩
      exact hK _ _ (fun u hu => by cases hu; rfl) hb
    refine OpsI.cons _ (by simp only [List.getElem?_toArray, List.getElem?_cons_succ, List.getElem?_cons_zero]; rfl) (fun vs V hV hd K hK => ?_) ?_
    · simp only [putAll, dstOf, List.getElem?_toArray, List.getElem?_cons_succ, List.getElem?_cons_zero, Option.bind_some, Act.put, List.setIfInBounds_toArray, List.set_cons_succ, List.set_cons_zero] at hK ⊢
      go_simp
      refine (HL.out.2.1 _).mono ?_
      rintro e W' ⟨rfl, hb⟩
      exact hK _ _ (fun u hu => by cases hu; rfl) hb
    refine OpsI.cons _ (by simp only [List.getElem?_toArray, List.getElem?_cons_succ, List.getElem?_cons_zero]; rfl) (fun vs V hV hd K hK => ?_) ?_
    · simp only [putAll, dstOf, List.getElem?_toArray, List.getElem?_cons_succ, List.getElem?_cons_zero, Option.bind_some, Act.put, List.setIfInBounds_toArray, List.set_cons_succ, List.set_cons_zero] at hK ⊢
      have h2 : vs 2 = .bool ab := hd 2 (by simp) _ rfl
      clear hd
      generalize vs 2 = v9 at *
      subst h2
      go_simp
      exact hK _ _ (fun u hu => by cases hu; rfl) (Below.refl _ _)
    refine OpsI.cons _ (by simp only [List.getElem?_toArray, List.getElem?_cons_succ, List.getElem?_cons_zero]; rfl) (fun vs V hV hd K hK => ?_) ?_
    · simp only [putAll, dstOf, List.getElem?_toArray, List.getElem?_cons_succ, List.getElem?_cons_zero, Option.bind_some, Act.put, List.setIfInBounds_toArray, List.set_cons_succ, List.set_cons_zero] at hK ⊢
      have h5 : vs 5 = .bool ba := hd 5 (by simp) _ rfl
      clear hd
      generalize vs 5 = v9 at *
      subst h5
      go_simp
      exact hK _ _ (fun u hu => by cases hu; rfl) (Below.refl _ _)
    exact OpsI.nil
  · intro vs V hV hall
    have h6 : vs 6 = .bool ab := hall 6 (by simp) _ rfl
    have h7 : vs 7 = .bool ba := hall 7 (by simp) _ rfl
    simp only [putAll, dstOf, List.getElem?_toArray, List.getElem?_cons_succ, List.getElem?_cons_zero, Option.bind_some, Act.put, List.setIfInBounds_toArray, List.set_cons_succ, List.set_cons_zero]
    clear hall hCl c10 c11 c12 c20 c21 c22 c30 c31 c32
    rw [h6, h7]
    clear h6 h7
    have hV2 := hV.below
    clear hV
    have HP2 := Lib.hid (And.intro ((hV2.block w.heap.size hl1).trans HP.out.1) (And.intro ((hV2.block (w.heap.size + 1) hl2).trans HP.out.2.1) (And.intro ((hV2.block (w.heap.size + 2) hl3).trans HP.out.2.2.1) (below_step HP.out.2.2.2 HP.out.2.2.2.size hV2))))
    clear hl1 hl2 hl3 HP hV2
    have d10 := blk_cell HP2.out.1 0
    have d11 := blk_cell HP2.out.1 1
    have d12 := blk_cell HP2.out.1 2
    have d20 := blk_cell HP2.out.2.1 0
    have d21 := blk_cell HP2.out.2.1 1
    have d22 := blk_cell HP2.out.2.1 2
    have d30 := blk_cell HP2.out.2.2.1 0
    have d31 := blk_cell HP2.out.2.2.1 1
    have d32 := blk_cell HP2.out.2.2.1 2
    simp at d10 d11 d12 d20 d21 d22 d30 d31 d32
    have hk := HK.out
    rcases HF.out.1 with ⟨h1, h2, h3⟩ | ⟨h1, h2, h3, h4⟩ | ⟨h1, h2, h3⟩
    · have h1' := HF.out.2 h1
      have HX := Lib.hid h1
      subst h2 h3 h1'
      clear h1
      go_wp2
      go_ret
      exact ⟨rfl, HP2.out.2.2.2⟩
    · subst h1 h2 h3
      cases bc
      · go_wp2_with fail
        refine (HL.out.2.2.1 _).mono ?_
        rintro e w5 ⟨rfl, hb5⟩
        have hB5 := below_step HP2.out.2.2.2 HP2.out.2.2.2.size hb5
        clear hb5
        go_wp2
        go_ret
        exact ⟨rfl, hB5⟩
      · have h5 := h4 rfl
        subst h5
        clear h4
        go_wp2_with fail
        refine (HL.out.2.2.1 _).mono ?_
        rintro e w5 ⟨rfl, hb5⟩
        have hB5 := below_step HP2.out.2.2.2 HP2.out.2.2.2.size hb5
        have r1 := (hb5.block w.heap.size (Array.getElem?_eq_some_iff.1 HP2.out.1).1).trans HP2.out.1
        have r3 := (hb5.block (w.heap.size + 2) (Array.getElem?_eq_some_iff.1 HP2.out.2.2.1).1).trans HP2.out.2.2.1
        have f10 := blk_cell r1 0
        have f11 := blk_cell r1 1
        have f12 := blk_cell r1 2
        have f30 := blk_cell r3 0
        have f31 := blk_cell r3 1
        have f32 := blk_cell r3 2
        simp at f10 f11 f12 f30 f31 f32
        clear hb5 r1 r3
        go_wp2_with fail
        refine (HL.out.2.2.2 _).mono ?_
        rintro e w6 ⟨rfl, hb6⟩
        have hB6 := below_step hB5 hB5.size hb6
        clear hb6
        go_wp2
        go_ret
        exact ⟨rfl, hB6⟩
    · subst h1 h2 h3
      go_wp2
      go_ret
      exact ⟨rfl, HP2.out.2.2.2⟩
end Go.Proofs.Ytldidclnfkmonaa
