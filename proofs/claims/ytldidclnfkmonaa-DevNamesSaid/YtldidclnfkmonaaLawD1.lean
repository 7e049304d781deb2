/- The walk of the statement DevBounds. -/
import Derived.Test.YtldidclnfkmonaaDev10
namespace Go.Proofs.Ytldidclnfkmonaa
open Go.RowKit

theorem errA_may {d : DiskL} (p : Int) (h : mayD d = true) : errA d p = if p < 0 ∨ 256 ≤ p then 2 else 0 := by
  unfold errA
  rw [if_pos h]
theorem may_of (bl : List (List UInt8)) (wl : List WrL) (h1 : bl.length = 256) (h2 : wl.length ≤ 4096) (h3 : ∀ x ∈ bl, x.length = 128) (h4 : ∀ x ∈ wl, 0 ≤ x.at_ ∧ x.at_ < 256 ∧ x.data.length = 128) : mayD ⟨bl, wl⟩ = true := by
  unfold mayD okW
  simp only [Bool.and_eq_true, beq_iff_eq, decide_eq_true_eq, List.all_eq_true]
  exact ⟨⟨⟨h1, h2⟩, h3⟩, fun x hx => ⟨⟨(h4 x hx).1, (h4 x hx).2.1⟩, (h4 x hx).2.2⟩⟩
theorem errW_zero {d : DiskL} {p : Int} {l : List UInt8} (h : errW d p l = 0) : mayD d = true ∧ 0 ≤ p ∧ p < 256 ∧ l.length = 128 ∧ d.waits.length < 4096 ∧ errA d p = 0 := by
  unfold errW at h
  split at h
  · rename_i h1; exact absurd h h1
  · rename_i h1
    split at h
    · cases h
    · rename_i h2
      split at h
      · cases h
      · rename_i h3
        have h1' : errA d p = 0 := by
          rcases Decidable.em (errA d p = 0) with e | e
          · exact e
          · exact absurd e h1
        have h4 := errA_zero h1'
        have h5 := may_len h4.1
        have h2' : l.length = 128 := by
          rcases Decidable.em (l.length = 128) with e | e
          · exact e
          · exact absurd e h2
        exact ⟨h4.1, h4.2.1, h4.2.2, h2', by omega, h1'⟩
theorem write_may {d : DiskL} {p : Int} {l : List UInt8} (h : errW d p l = 0) : writeD d p l = ⟨d.blocks, d.waits ++ [⟨p, l⟩]⟩ ∧ mayD (writeD d p l) = true := by
  have e : writeD d p l = ⟨d.blocks, d.waits ++ [⟨p, l⟩]⟩ := by unfold writeD; rw [if_pos h]
  refine ⟨e, ?_⟩
  rw [e]
  obtain ⟨h1, h2, h3, h4, h5, -⟩ := errW_zero h
  obtain ⟨m1, m2, m3, m4⟩ := may_len h1
  refine may_of _ _ m1 (by rw [List.length_append]; simp; omega) m3 (fun x hx => ?_)
  rcases List.mem_append.1 hx with hx | hx
  · exact m4 x hx
  · obtain rfl := List.mem_singleton.1 hx
    exact ⟨h2, h3, h4⟩
theorem write_no {d : DiskL} {p : Int} {l : List UInt8} (h : errW d p l ≠ 0) : writeD d p l = ⟨[], []⟩ := by unfold writeD; rw [if_neg h]

set_option maxRecDepth 100000 in
set_option maxHeartbeats 1000000 in
theorem devBounds_walk (d : DiskL) (b u : Value) (p : Int) (v : Value) (l : List UInt8) (w : World) (h : DiskV w 0 w.heap.size b u d) (_hp : (Lit.int .i64 p).wf = true) (hv : Bytes w 0 w.heap.size v l) :
    Calls Try.prog 5 #[.agg #[b, u], .int .i64 p, v] w fun e w' => e = .returned (.bool true) ∧ Below w.heap.size w w' := by
  have hB := (Below.refl w.heap.size w).alloc (Nat.le_refl _) (.cells #[b, u] 39)
  have hst0 := (Below.refl w.heap.size w).alloc (Nat.le_refl _) (.cells #[b, u] 39)
  have hD := h.step hst0
  have hv0 := hv.step hst0
  have hq := World.alloc_heap_new w (.cells #[b, u] 39)
  have h1 := fun V hh => great_any b u d V hh
  have h2 := fun V hh => dcheck_any b u d V hh
  have h3 := fun V hh hv => dwrite_any b u d p v l V hh hv
  have h4 := fun V hh => dread_any b u d p V hh
  obtain ⟨ab, cb, rfl, g1, g2, -, -⟩ := h.1
  obtain ⟨au, cu, rfl, g1', g2', -, -⟩ := h.2
  obtain ⟨av, cv, rfl, y1, y2⟩ := hv.form rfl
  unfold maxLen at g2 g2' y2
  clear h hv hst0
  obtain ⟨V, hV⟩ : ∃ V, w.alloc (.cells #[.slice ab d.blocks.length cb, .slice au d.waits.length cu] 39) = V := ⟨_, rfl⟩
  rw [hV] at hB hD hq hv0
  have HC := Lib.hid (And.intro h1 (And.intro h2 (And.intro h3 h4)))
  have HQ := Lib.hid (And.intro hq (And.intro hD (And.intro hv0 hB)))
  have HVe := Lib.hid hV
  clear hB hD hq hv0 h1 h2 h3 h4
  go_enter Try.func5, Try.ntmps5
  go_upto_region 1 with (fail)
  clear hV
  go_wp2_with fail
  refine (alive3_any V).mono ?_
  rintro e w1 ⟨rfl, hst⟩
  obtain ⟨hq, hD, hv0, hB⟩ := HQ.out
  replace hq := (hst.block _ (Array.getElem?_eq_some_iff.1 hq).1).trans hq
  replace hD := hD.step hst
  replace hv0 := hv0.step hst
  replace hB := below_step hB hB.size hst
  clear hst
  have c0 := blk_cell hq 0
  have c1 := blk_cell hq 1
  simp at c0 c1
  have HQ := Lib.hid (And.intro hq (And.intro hD (And.intro hv0 hB)))
  clear hB hD hq hv0
  go_wp2_with fail
  refine (HC.out.1 w1 HQ.out.2.1).mono ?_
  rintro e w2 ⟨g, rfl, hst, -⟩
  obtain ⟨hq, hD, hv0, hB⟩ := HQ.out
  replace hq := (hst.block _ (Array.getElem?_eq_some_iff.1 hq).1).trans hq
  replace hD := hD.step hst
  replace hv0 := hv0.step hst
  replace hB := below_step hB hB.size hst
  clear hst c0 c1
  have c0 := blk_cell hq 0
  have c1 := blk_cell hq 1
  simp at c0 c1
  have HQ := Lib.hid (And.intro hq (And.intro hD (And.intro hv0 hB)))
  clear hB hD hq hv0
  cases g
  case true =>
    go_wp2
    go_ret
    exact ⟨rfl, HQ.out.2.2.2⟩
  by_cases hl : 10000 < l.length
  · have i1 : (10000 : Int) < l.length := by omega
    go_wp2
    go_ret
    exact ⟨rfl, HQ.out.2.2.2⟩
  have d1 : decide ((10000 : Int) < l.length) = false := by simp; omega
  go_wp2_with fail
  refine (HC.out.2.1 w2 HQ.out.2.1).mono ?_
  rintro e w3 ⟨rfl, hst⟩
  obtain ⟨hq, hD, hv0, hB⟩ := HQ.out
  replace hq := (hst.block _ (Array.getElem?_eq_some_iff.1 hq).1).trans hq
  replace hD := hD.step hst
  replace hv0 := hv0.step hst
  replace hB := below_step hB hB.size hst
  clear hst c0 c1
  have c0 := blk_cell hq 0
  have c1 := blk_cell hq 1
  simp at c0 c1
  have HQ := Lib.hid (And.intro hq (And.intro hD (And.intro hv0 hB)))
  clear hB hD hq hv0
  cases hmay : mayD d
  case false =>
    go_wp2
    go_ret
    exact ⟨rfl, HQ.out.2.2.2⟩
  have hw4 : d.waits.length ≤ 4096 := (may_len hmay).2.1
  have HM := Lib.hid (And.intro hmay (errA_may p hmay))
  clear hmay
  obtain ⟨ea, hea⟩ : ∃ ea, errA d p = ea := ⟨_, rfl⟩
  obtain ⟨ew, hew⟩ : ∃ ew, errW d p l = ew := ⟨_, rfl⟩
  obtain ⟨wd, hwd⟩ : ∃ wd, writeD d p l = wd := ⟨_, rfl⟩
  have hx := HC.out
  rw [hea, hew, hwd] at hx
  have HX := Lib.hid (And.intro hx.2.2.1 (And.intro hx.2.2.2 (fun V b u hh => dcheck_any b u wd V hh)))
  have HE := Lib.hid (And.intro hea (And.intro hew hwd))
  clear hx hea hew hwd
  go_wp2_with fail
  refine (HX.out.1 w3 HQ.out.2.1 HQ.out.2.2.1).mono ?_
  rintro e w4 ⟨b', u', rfl, hm⟩
  have hst := hm.below
  obtain ⟨hq, hD, hv0, hB⟩ := HQ.out
  replace hq := (hst.block _ (Array.getElem?_eq_some_iff.1 hq).1).trans hq
  replace hD := hD.step hst
  replace hB := below_step hB hB.size hst
  have hD4 := hm.v0
  clear hst c0 c1 hm hv0
  obtain ⟨ab', cb', rfl, -, -, -, -⟩ := hD4.1
  obtain ⟨au', cu', rfl, -, -, -, -⟩ := hD4.2
  go_upto_region 5 with (fail)
  have q8 := World.alloc_heap_new w4 (.cells #[.slice ab' wd.blocks.length cb', .slice au' wd.waits.length cu'] 39)
  have hst := (Below.refl w4.heap.size w4).alloc (Nat.le_refl _) (.cells #[.slice ab' wd.blocks.length cb', .slice au' wd.waits.length cu'] 39)
  replace hq := (hst.block _ (Array.getElem?_eq_some_iff.1 hq).1).trans hq
  replace hD := hD.step hst
  replace hD4 := hD4.step hst
  replace hB := below_step hB hB.size hst
  obtain ⟨w5, hw5⟩ : ∃ w5, w4.alloc (.cells #[.slice ab' wd.blocks.length cb', .slice au' wd.waits.length cu'] 39) = w5 := ⟨_, rfl⟩
  rw [hw5] at hq hD hD4 hB q8 hst ⊢
  clear hw5 hst
  generalize w4.heap.size = g8 at *
  have c0 := blk_cell hq 0
  have c1 := blk_cell hq 1
  simp at c0 c1
  have HQ := Lib.hid (And.intro hq (And.intro q8 (And.intro hD (And.intro hD4 hB))))
  clear hB hD hD4 hq q8
  go_wp2_with fail
  refine (HX.out.2.1 w5 HQ.out.2.2.1).mono ?_
  rintro e w6 ⟨r, rfl, hm⟩
  have hst := hm.below
  obtain ⟨hq, q8, hD, hD4, hB⟩ := HQ.out
  replace hq := (hst.block _ (Array.getElem?_eq_some_iff.1 hq).1).trans hq
  replace q8 := (hst.block _ (Array.getElem?_eq_some_iff.1 q8).1).trans q8
  replace hD4 := hD4.step hst
  replace hB := below_step hB hB.size hst
  clear hst c0 c1 hm hD
  have c0 := blk_cell hq 0
  have c1 := blk_cell hq 1
  have e0 := blk_cell q8 0
  have e1 := blk_cell q8 1
  simp at c0 c1 e0 e1
  have HQ := Lib.hid (And.intro hD4 hB)
  clear hB hD4 hq q8
  have hE := HE.out
  rw [HM.out.2] at hE
  have hbad : ew ≠ 0 → wd.blocks.length = 0 ∧ wd.waits.length = 0 := fun h => by
    have := write_no (d := d) (p := p) (l := l) (by rw [hE.2.1]; exact h)
    rw [hE.2.2] at this
    rw [this]
    exact ⟨rfl, rfl⟩
  have hgood : ew = 0 → wd.waits.length = d.waits.length + 1 ∧ mayD wd = true := fun h => by
    have := write_may (d := d) (p := p) (l := l) (by rw [hE.2.1]; exact h)
    rw [hE.2.2] at this
    exact ⟨by rw [this.1]; simp, this.2⟩
  have hew : ew = if ea ≠ 0 then ea else if l.length ≠ 128 then 3 else if d.waits.length = 4096 then 9 else 0 := by
    rw [← hE.2.1]
    unfold errW
    rw [HM.out.2, hE.1]
  have hea := hE.1
  clear hE HE HC HM
  have HW := Lib.hid (And.intro hbad (And.intro hgood hew))
  clear hbad hgood hew
  by_cases p0 : p < 0
  · obtain rfl : ea = 2 := by rw [← hea, if_pos (.inl p0)]
    obtain rfl : ew = 2 := by rw [HW.out.2.2]; rfl
    obtain ⟨n1, n2⟩ := HW.out.1 (by decide)
    have n1' : (wd.blocks.length : Int) = 0 := by omega
    have n2' : (wd.waits.length : Int) = 0 := by omega
    have p1 : decide (0 ≤ p) = false := by simp; omega
    clear hea
    go_wp2
    go_ret
    exact ⟨rfl, HQ.out.2⟩
  by_cases p2 : 256 ≤ p
  · obtain rfl : ea = 2 := by rw [← hea, if_pos (.inr p2)]
    obtain rfl : ew = 2 := by rw [HW.out.2.2]; rfl
    obtain ⟨n1, n2⟩ := HW.out.1 (by decide)
    have n1' : (wd.blocks.length : Int) = 0 := by omega
    have n2' : (wd.waits.length : Int) = 0 := by omega
    have p3 : decide (p < 256) = false := by simp; omega
    have p4 : 0 ≤ p := by omega
    clear hea
    go_wp2
    go_ret
    exact ⟨rfl, HQ.out.2⟩
  have p3 : 0 ≤ p := by omega
  have p4 : p < 256 := by omega
  obtain rfl : ea = 0 := by rw [← hea, if_neg (by omega)]
  clear hea
  by_cases hl8 : l.length = 128
  case neg =>
    obtain rfl : ew = 3 := by rw [HW.out.2.2, if_neg (by simp), if_pos hl8]
    obtain ⟨n1, n2⟩ := HW.out.1 (by decide)
    have n1' : (wd.blocks.length : Int) = 0 := by omega
    have n2' : (wd.waits.length : Int) = 0 := by omega
    have p5 : ((l.length : Int) == 128) = false := by simp; omega
    go_wp2
    go_ret
    exact ⟨rfl, HQ.out.2⟩
  by_cases hm9 : d.waits.length = 4096
  · obtain rfl : ew = 9 := by rw [HW.out.2.2, if_neg (by simp), if_neg (by simpa using hl8), if_pos hm9]
    obtain ⟨n1, n2⟩ := HW.out.1 (by decide)
    have n1' : (wd.blocks.length : Int) = 0 := by omega
    have n2' : (wd.waits.length : Int) = 0 := by omega
    have p5 : (l.length : Int) = 128 := by omega
    have p6 : decide ((d.waits.length : Int) < 4096) = false := by simp; omega
    have hh := Lib.hid (And.intro hl8 (And.intro hm9 (And.intro n1 n2)))
    clear hl8 hm9 n1 n2
    go_wp2
    go_ret
    exact ⟨rfl, HQ.out.2⟩
  obtain rfl : ew = 0 := by rw [HW.out.2.2, if_neg (by simp), if_neg (by simpa using hl8), if_neg hm9]
  obtain ⟨n1, n2⟩ := HW.out.2.1 rfl
  have p5 : (l.length : Int) = 128 := by omega
  have p6 : (d.waits.length : Int) < 4096 := by omega
  have p7 : (wd.waits.length : Int) = (d.waits.length : Int) + 1 := by omega
  have hh := Lib.hid (And.intro hl8 (And.intro hm9 (And.intro n1 n2)))
  clear hl8 hm9 n1 n2
  go_wp2_with fail
  refine (HX.out.2.2 w6 _ _ HQ.out.1).mono ?_
  rintro e w7 ⟨rfl, hst⟩
  have hfin := below_step HQ.out.2 HQ.out.2.size hst
  rw [hh.out.2.2.2]
  go_wp2
  go_ret
  exact ⟨rfl, hfin⟩
end Go.Proofs.Ytldidclnfkmonaa
