/- The walk of the statement DevReads. -/
import Derived.Test.YtldidclnfkmonaaLawD1
import Derived.Test.YtldidclnfkmonaaDev12
namespace Go.Proofs.Ytldidclnfkmonaa
open Go.RowKit

theorem put_seen (bl : List (List UInt8)) (l : List WrL) (p : Int) (hl : ∀ x ∈ l, 0 ≤ x.at_ ∧ x.at_ < bl.length) (h0 : 0 ≤ p) (h1 : p < bl.length) :
    (putW bl l).getD p.toNat [] = match lastW l p with | some x => x.data | none => bl.getD p.toNat [] := by
  induction l generalizing bl with
  | nil => rfl
  | cons y l ih =>
    have hy := hl y (List.mem_cons_self ..)
    have := ih (bl.set y.at_.toNat y.data) (fun x hx => by rw [List.length_set]; exact hl x (List.mem_cons_of_mem _ hx)) (by rw [List.length_set]; exact h1)
    show (putW (bl.set y.at_.toNat y.data) l).getD p.toNat [] = _
    rw [this, lastW]
    cases lastW l p with
    | some x => rfl
    | none =>
      by_cases e : y.at_ = p
      · subst e
        rw [if_pos rfl]
        simp only
        rw [List.getD_eq_getElem?_getD, List.getElem?_set_self (by omega)]
        rfl
      · rw [if_neg e]
        simp only
        rw [List.getD_eq_getElem?_getD, List.getElem?_set_ne (by omega), ← List.getD_eq_getElem?_getD]
theorem barD_may {d : DiskL} (h : mayD d = true) : barD d = ⟨putW d.blocks d.waits, []⟩ ∧ mayD (barD d) = true := by
  have e : barD d = ⟨putW d.blocks d.waits, []⟩ := by unfold barD; rw [h]; rfl
  refine ⟨e, ?_⟩
  rw [e]
  obtain ⟨m1, m2, m3, m4⟩ := may_len h
  exact may_of _ _ (by rw [putW_length]; exact m1) (Nat.zero_le _) (putW_mem _ _ m3 (fun x hx => (m4 x hx).2.2)) (fun x hx => by cases hx)
theorem errA_same {d e : DiskL} (p : Int) (h : mayD d = true) (h' : mayD e = true) : errA d p = errA e p := by rw [errA_may p h, errA_may p h']
/-- A barrier changes nothing of what is read. -/
theorem read_bar {d : DiskL} (h : mayD d = true) (p : Int) : readB (barD d) p = readB d p := by
  have hb := barD_may h
  unfold readB
  rw [errA_same p hb.2 h]
  split
  · rename_i he
    have h2 := errA_zero he
    obtain ⟨m1, m2, m3, m4⟩ := may_len h
    rw [hb.1]
    unfold seenD
    show (match lastW [] p with | some x => x.data | none => (putW d.blocks d.waits).getD p.toNat []) = _
    rw [show lastW [] p = none from rfl]
    simp only
    rw [put_seen d.blocks d.waits p (fun x hx => ⟨(m4 x hx).1, by have := (m4 x hx).2.1; omega⟩) h2.2.1 (by omega)]
    cases lastW d.waits p <;> rfl
  · rfl
theorem read_write_self {d : DiskL} {p : Int} {l : List UInt8} (h : errW d p l = 0) : readB (writeD d p l) p = l := by
  have hw := write_may h
  have hz := errW_zero h
  unfold readB
  rw [errA_same p hw.2 hz.1, hz.2.2.2.2.2, if_pos rfl, hw.1]
  unfold seenD
  simp only
  rw [lastW_app, if_pos rfl]
theorem read_write_other {d : DiskL} {p q : Int} {l : List UInt8} (h : errW d p l = 0) (hne : q ≠ p) : readB (writeD d p l) q = readB d q := by
  have hw := write_may h
  have hz := errW_zero h
  unfold readB
  rw [errA_same q hw.2 hz.1, hw.1]
  unfold seenD
  simp only
  rw [lastW_app]
  rw [if_neg (c := p = q) (fun e => hne e.symm)]

set_option maxRecDepth 100000 in
set_option maxHeartbeats 1000000 in
theorem devReads_walk (d : DiskL) (b u : Value) (p q : Int) (v : Value) (l : List UInt8) (w : World) (h : DiskV w 0 w.heap.size b u d) (_hp : (Lit.int .i64 p).wf = true) (_hq : (Lit.int .i64 q).wf = true) (hv : Bytes w 0 w.heap.size v l) :
    Calls Try.prog 7 #[.agg #[b, u], .int .i64 p, .int .i64 q, v] w fun e w' => e = .returned (.bool true) ∧ Below w.heap.size w w' := by
  have hB := (Below.refl w.heap.size w).alloc (Nat.le_refl _) (.cells #[b, u] 39)
  have hst0 := (Below.refl w.heap.size w).alloc (Nat.le_refl _) (.cells #[b, u] 39)
  have hD := h.step hst0
  have hv0 := hv.step hst0
  have hq := World.alloc_heap_new w (.cells #[b, u] 39)
  have h1 := fun V hh => great_any b u d V hh
  have h3 := fun V hh hv => dwrite_any b u d p v l V hh hv
  have h4 := fun V hh => dread_any b u d q V hh
  obtain ⟨ab, cb, rfl, g1, g2, -, -⟩ := h.1
  obtain ⟨au, cu, rfl, g1', g2', -, -⟩ := h.2
  obtain ⟨av, cv, rfl, y1, y2⟩ := hv.form rfl
  unfold maxLen at g2 g2' y2
  clear h hv hst0
  obtain ⟨ew, hew⟩ : ∃ ew, errW d p l = ew := ⟨_, rfl⟩
  obtain ⟨wd, hwd⟩ : ∃ wd, writeD d p l = wd := ⟨_, rfl⟩
  rw [hew, hwd] at h3
  obtain ⟨V, hV⟩ : ∃ V, w.alloc (.cells #[.slice ab d.blocks.length cb, .slice au d.waits.length cu] 39) = V := ⟨_, rfl⟩
  rw [hV] at hB hD hq hv0
  have HC := Lib.hid (And.intro h1 (And.intro h3 h4))
  have HE := Lib.hid (And.intro hew hwd)
  have HQ := Lib.hid (And.intro hq (And.intro hD (And.intro hv0 hB)))
  clear hB hD hq hv0 h1 h3 h4 hew hwd
  go_enter Try.func7, Try.ntmps7
  go_upto_region 1 with (fail)
  clear hV
  go_wp2_with fail
  refine (alive3_any V).mono ?_
  rintro e w1 ⟨rfl, hst⟩
  obtain ⟨hq, hD, hv0, hB⟩ := HQ.out
  clear HQ
  replace hq := (hst.block _ (Array.getElem?_eq_some_iff.1 hq).1).trans hq
  replace hD := hD.step hst
  replace hv0 := hv0.step hst
  replace hB := below_step hB hB.size hst
  clear hst
  have HQ := Lib.hid (And.intro hq (And.intro hD (And.intro hv0 hB)))
  clear hq hD hv0 hB
  have c0 := blk_cell HQ.out.1 0
  have c1 := blk_cell HQ.out.1 1
  simp at c0 c1
  go_wp2_with fail
  refine (HC.out.1 w1 HQ.out.2.1).mono ?_
  rintro e w2 ⟨g, rfl, hst, -⟩
  clear c0 c1
  obtain ⟨hq, hD, hv0, hB⟩ := HQ.out
  clear HQ
  replace hq := (hst.block _ (Array.getElem?_eq_some_iff.1 hq).1).trans hq
  replace hD := hD.step hst
  replace hv0 := hv0.step hst
  replace hB := below_step hB hB.size hst
  clear hst
  have HQ := Lib.hid (And.intro hq (And.intro hD (And.intro hv0 hB)))
  clear hq hD hv0 hB
  have c0 := blk_cell HQ.out.1 0
  have c1 := blk_cell HQ.out.1 1
  simp at c0 c1
  cases g
  case true =>
    go_wp2
    go_ret
    exact ⟨rfl, HQ.out.2.2.2⟩
  by_cases hl : 10000 < l.length
  · have i1 : (10000 : Int) < l.length := by omega
    go_wp2
    go_ret
    exact ⟨rfl, HQ.out.2.2.2⟩
  have d1 : decide ((10000 : Int) < l.length) = false := by simp; omega
  go_wp2_with fail
  refine (HC.out.2.1 w2 HQ.out.2.1 HQ.out.2.2.1).mono ?_
  rintro e w3 ⟨b', u', rfl, hm⟩
  clear c0 c1
  obtain ⟨hq, hD, hv0, hB⟩ := HQ.out
  clear HQ
  have hst := hm.below
  have hD1 := hm.v0
  clear hm
  obtain ⟨ae, ce, rfl, -, -, -, -⟩ := hD1.1
  obtain ⟨af, cf, rfl, -, -, -, -⟩ := hD1.2
  replace hq := (hst.block _ (Array.getElem?_eq_some_iff.1 hq).1).trans hq
  replace hD := hD.step hst
  replace hv0 := hv0.step hst
  replace hB := below_step hB hB.size hst
  clear hst
  have HQ := Lib.hid (And.intro hq (And.intro hD (And.intro hv0 (And.intro hD1 hB))))
  clear hq hD hv0 hD1 hB
  go_upto_region 7 with (fail)
  obtain ⟨hq, hD, hv0, hD1, hB⟩ := HQ.out
  clear HQ
  have q10 := World.alloc_heap_new w3 (.cells #[.slice ae wd.blocks.length ce, .slice af wd.waits.length cf] 39)
  have hst := (Below.refl w3.heap.size w3).alloc (Nat.le_refl _) (.cells #[.slice ae wd.blocks.length ce, .slice af wd.waits.length cf] 39)
  replace hq := (hst.block _ (Array.getElem?_eq_some_iff.1 hq).1).trans hq
  replace hD := hD.step hst
  replace hv0 := hv0.step hst
  replace hD1 := hD1.step hst
  replace hB := below_step hB hB.size hst
  obtain ⟨w4, hw⟩ : ∃ v, w3.alloc (.cells #[.slice ae wd.blocks.length ce, .slice af wd.waits.length cf] 39) = v := ⟨_, rfl⟩
  rw [hw] at q10 hq hD hv0 hD1 hB ⊢
  generalize hg : w3.heap.size = g10 at *
  clear hw hst hg
  have HQ := Lib.hid (And.intro hq (And.intro hD (And.intro hv0 (And.intro hD1 (And.intro q10 hB)))))
  clear hq hD hv0 hD1 q10 hB
  have c0 := blk_cell HQ.out.1 0
  have c1 := blk_cell HQ.out.1 1
  have m0 := blk_cell HQ.out.2.2.2.2.1 0
  have m1 := blk_cell HQ.out.2.2.2.2.1 1
  simp at c0 c1 m0 m1
  by_cases hew : ew = 0
  case neg =>
    have hbad : (wd.blocks.length : Int) = 0 := by
      have := write_no (d := d) (p := p) (l := l) (by rw [HE.out.1]; exact hew)
      rw [HE.out.2] at this
      rw [this]
      rfl
    go_wp2
    go_ret
    exact ⟨rfl, HQ.out.2.2.2.2.2⟩
  subst hew
  have hk1 := write_may HE.out.1
  have hk2 := errW_zero HE.out.1
  have hk3 := read_write_self HE.out.1
  have hk4 := fun (hne : q ≠ p) => read_write_other HE.out.1 hne
  have hk5 := read_bar (d := wd) (by rw [← HE.out.2]; exact hk1.2) q
  have hk6 := barD_may (d := wd) (by rw [← HE.out.2]; exact hk1.2)
  rw [HE.out.2] at hk1 hk3 hk4
  have hk7 : errA wd p = 0 := (errA_same p hk1.2 hk2.1).trans hk2.2.2.2.2.2
  have hk8 : errA wd q = errA d q := errA_same q hk1.2 hk2.1
  have hk9 : errA (barD wd) q = errA d q := errA_same q hk6.2 hk2.1
  have hkw : wd.waits.length = d.waits.length + 1 := by rw [hk1.1]; simp
  have hkb : (barD wd).waits.length = 0 := by rw [hk6.1]; rfl
  have hkc : errC wd = 0 := by unfold errC; rw [hk1.2]; rfl
  have h1 := fun V b u hh => dread_any b u wd p V hh
  have h2 := fun V b u hh => dread_any b u wd q V hh
  have h3 := fun V b u hh => dbar_any b u wd V hh
  have h4 := fun V b u hh => dread_any b u (barD wd) q V hh
  rw [hk7, hk3] at h1
  rw [hk8] at h2
  rw [hkc] at h3
  rw [hk9, hk5] at h4
  obtain ⟨bd, hbd⟩ : ∃ bd, barD wd = bd := ⟨_, rfl⟩
  rw [hbd] at h3 h4 hkb
  have h5 := HC.out.2.2
  obtain ⟨ry, hry⟩ : ∃ ry, readB wd q = ry := ⟨_, rfl⟩
  obtain ⟨rx, hrx⟩ : ∃ rx, readB d q = rx := ⟨_, rfl⟩
  obtain ⟨eq, heq⟩ : ∃ eq, errA d q = eq := ⟨_, rfl⟩
  rw [heq, hry] at h2 h4
  rw [heq, hrx] at h5
  rw [hry, hrx] at hk4
  have HX := Lib.hid (And.intro h1 (And.intro h2 (And.intro h3 (And.intro h4 h5))))
  have HN := Lib.hid (And.intro hkw (And.intro hkb hk4))
  have hg4 : d.waits.length ≤ 4096 := (may_len hk2.1).2.1
  clear hk1 hk2 hk3 hk4 hk5 hk6 hk7 hk8 hk9 hkw hkb hkc h1 h2 h3 h4 h5 hbd hry hrx heq HC HE
  go_wp2_with fail
  refine (HX.out.1 w4 _ _ HQ.out.2.2.2.1).mono ?_
  rintro e w5 ⟨r1, rfl, hm⟩
  clear c0 c1 m0 m1
  obtain ⟨hq, hD, hv0, hD1, q10, hB⟩ := HQ.out
  clear HQ
  have hst := hm.below
  have hr1 := hm.bytes.all0
  clear hm
  replace hq := (hst.block _ (Array.getElem?_eq_some_iff.1 hq).1).trans hq
  replace hD := hD.step hst
  replace hv0 := hv0.step hst
  replace hD1 := hD1.step hst
  replace q10 := (hst.block _ (Array.getElem?_eq_some_iff.1 q10).1).trans q10
  replace hB := below_step hB hB.size hst
  clear hst
  have HQ := Lib.hid (And.intro hq (And.intro hD (And.intro hv0 (And.intro hD1 (And.intro q10 (And.intro hr1 hB))))))
  clear hq hD hv0 hD1 q10 hr1 hB
  have c0 := blk_cell HQ.out.1 0
  have c1 := blk_cell HQ.out.1 1
  have m0 := blk_cell HQ.out.2.2.2.2.1 0
  have m1 := blk_cell HQ.out.2.2.2.2.1 1
  simp at c0 c1 m0 m1
  have t1 := cv_of HQ.out.2.2.2.2.2.1
  have t2 := cv_of HQ.out.2.2.1
  have n1 : (wd.waits.length : Int) = (d.waits.length : Int) + 1 := by have := HN.out.1; omega
  go_upto_region 12 with (fail)
  clear t1 t2
  go_wp2_with fail
  refine (HX.out.2.2.2.2 w5 HQ.out.2.1).mono ?_
  rintro e w6 ⟨rx1, rfl, hm⟩
  clear c0 c1 m0 m1
  obtain ⟨hq, hD, hv0, hD1, q10, hr1, hB⟩ := HQ.out
  clear HQ
  have hst := hm.below
  have hx1 := hm.bytes.all0
  clear hm
  replace hq := (hst.block _ (Array.getElem?_eq_some_iff.1 hq).1).trans hq
  replace hD := hD.step hst
  replace hv0 := hv0.step hst
  replace hD1 := hD1.step hst
  replace q10 := (hst.block _ (Array.getElem?_eq_some_iff.1 q10).1).trans q10
  replace hr1 := hr1.step hst
  replace hB := below_step hB hB.size hst
  clear hst
  have HQ := Lib.hid (And.intro hq (And.intro hD (And.intro hv0 (And.intro hD1 (And.intro q10 (And.intro hr1 (And.intro hx1 hB)))))))
  clear hq hD hv0 hD1 q10 hr1 hx1 hB
  have c0 := blk_cell HQ.out.1 0
  have c1 := blk_cell HQ.out.1 1
  have m0 := blk_cell HQ.out.2.2.2.2.1 0
  have m1 := blk_cell HQ.out.2.2.2.2.1 1
  simp at c0 c1 m0 m1
  go_wp2_with fail
  refine (HX.out.2.1 w6 _ _ HQ.out.2.2.2.1).mono ?_
  rintro e w7 ⟨ry1, rfl, hm⟩
  clear c0 c1 m0 m1
  obtain ⟨hq, hD, hv0, hD1, q10, hr1, hx1, hB⟩ := HQ.out
  clear HQ
  have hst := hm.below
  have hy1 := hm.bytes.all0
  clear hm
  replace hq := (hst.block _ (Array.getElem?_eq_some_iff.1 hq).1).trans hq
  replace hD := hD.step hst
  replace hv0 := hv0.step hst
  replace hD1 := hD1.step hst
  replace q10 := (hst.block _ (Array.getElem?_eq_some_iff.1 q10).1).trans q10
  replace hr1 := hr1.step hst
  replace hx1 := hx1.step hst
  replace hB := below_step hB hB.size hst
  clear hst
  have HQ := Lib.hid (And.intro hq (And.intro hD (And.intro hv0 (And.intro hD1 (And.intro q10 (And.intro hr1 (And.intro hx1 (And.intro hy1 hB))))))))
  clear hq hD hv0 hD1 q10 hr1 hx1 hy1 hB
  have c0 := blk_cell HQ.out.1 0
  have c1 := blk_cell HQ.out.1 1
  have m0 := blk_cell HQ.out.2.2.2.2.1 0
  have m1 := blk_cell HQ.out.2.2.2.2.1 1
  simp at c0 c1 m0 m1
  go_wp2_with fail
  refine (HX.out.2.2.1 w7 _ _ HQ.out.2.2.2.1).mono ?_
  rintro e w8 ⟨b2, u2, rfl, hm⟩
  clear c0 c1 m0 m1
  obtain ⟨hq, hD, hv0, hD1, q10, hr1, hx1, hy1, hB⟩ := HQ.out
  clear HQ
  have hst := hm.below
  have hD2 := hm.v0
  clear hm
  obtain ⟨ah, ch, rfl, -, -, -, -⟩ := hD2.1
  obtain ⟨ai, ci, rfl, -, -, -, -⟩ := hD2.2
  replace hq := (hst.block _ (Array.getElem?_eq_some_iff.1 hq).1).trans hq
  replace hD := hD.step hst
  replace hv0 := hv0.step hst
  replace hD1 := hD1.step hst
  replace q10 := (hst.block _ (Array.getElem?_eq_some_iff.1 q10).1).trans q10
  replace hr1 := hr1.step hst
  replace hx1 := hx1.step hst
  replace hy1 := hy1.step hst
  replace hB := below_step hB hB.size hst
  clear hst
  have HQ := Lib.hid (And.intro hq (And.intro hD (And.intro hv0 (And.intro hD1 (And.intro q10 (And.intro hr1 (And.intro hx1 (And.intro hy1 (And.intro hD2 hB)))))))))
  clear hq hD hv0 hD1 q10 hr1 hx1 hy1 hD2 hB
  go_upto_region 15 with (fail)
  obtain ⟨hq, hD, hv0, hD1, q10, hr1, hx1, hy1, hD2, hB⟩ := HQ.out
  clear HQ
  have q18 := World.alloc_heap_new w8 (.cells #[.slice ah bd.blocks.length ch, .slice ai bd.waits.length ci] 39)
  have hst := (Below.refl w8.heap.size w8).alloc (Nat.le_refl _) (.cells #[.slice ah bd.blocks.length ch, .slice ai bd.waits.length ci] 39)
  replace hq := (hst.block _ (Array.getElem?_eq_some_iff.1 hq).1).trans hq
  replace hD := hD.step hst
  replace hv0 := hv0.step hst
  replace hD1 := hD1.step hst
  replace q10 := (hst.block _ (Array.getElem?_eq_some_iff.1 q10).1).trans q10
  replace hr1 := hr1.step hst
  replace hx1 := hx1.step hst
  replace hy1 := hy1.step hst
  replace hD2 := hD2.step hst
  replace hB := below_step hB hB.size hst
  obtain ⟨w9, hw⟩ : ∃ v, w8.alloc (.cells #[.slice ah bd.blocks.length ch, .slice ai bd.waits.length ci] 39) = v := ⟨_, rfl⟩
  rw [hw] at q18 hq hD hv0 hD1 q10 hr1 hx1 hy1 hD2 hB ⊢
  generalize hg : w8.heap.size = g18 at *
  clear hw hst hg
  have HQ := Lib.hid (And.intro hq (And.intro hD (And.intro hv0 (And.intro hD1 (And.intro q10 (And.intro hr1 (And.intro hx1 (And.intro hy1 (And.intro hD2 (And.intro q18 hB))))))))))
  clear hq hD hv0 hD1 q10 hr1 hx1 hy1 hD2 q18 hB
  have c0 := blk_cell HQ.out.1 0
  have c1 := blk_cell HQ.out.1 1
  have m0 := blk_cell HQ.out.2.2.2.2.1 0
  have m1 := blk_cell HQ.out.2.2.2.2.1 1
  have s0 := blk_cell HQ.out.2.2.2.2.2.2.2.2.2.1 0
  have s1 := blk_cell HQ.out.2.2.2.2.2.2.2.2.2.1 1
  simp at c0 c1 m0 m1 s0 s1
  go_wp2_with fail
  refine (HX.out.2.2.2.1 w9 _ _ HQ.out.2.2.2.2.2.2.2.2.1).mono ?_
  rintro e w10 ⟨rz1, rfl, hm⟩
  clear c0 c1 m0 m1 s0 s1
  obtain ⟨hq, hD, hv0, hD1, q10, hr1, hx1, hy1, hD2, q18, hB⟩ := HQ.out
  clear HQ
  have hst := hm.below
  have hz1 := hm.bytes.all0
  clear hm
  replace hq := (hst.block _ (Array.getElem?_eq_some_iff.1 hq).1).trans hq
  replace hD := hD.step hst
  replace hv0 := hv0.step hst
  replace hD1 := hD1.step hst
  replace q10 := (hst.block _ (Array.getElem?_eq_some_iff.1 q10).1).trans q10
  replace hr1 := hr1.step hst
  replace hx1 := hx1.step hst
  replace hy1 := hy1.step hst
  replace hD2 := hD2.step hst
  replace q18 := (hst.block _ (Array.getElem?_eq_some_iff.1 q18).1).trans q18
  replace hB := below_step hB hB.size hst
  clear hst
  have HQ := Lib.hid (And.intro hq (And.intro hD (And.intro hv0 (And.intro hD1 (And.intro q10 (And.intro hr1 (And.intro hx1 (And.intro hy1 (And.intro hD2 (And.intro q18 (And.intro hz1 hB)))))))))))
  clear hq hD hv0 hD1 q10 hr1 hx1 hy1 hD2 q18 hz1 hB
  have c0 := blk_cell HQ.out.1 0
  have c1 := blk_cell HQ.out.1 1
  have m0 := blk_cell HQ.out.2.2.2.2.1 0
  have m1 := blk_cell HQ.out.2.2.2.2.1 1
  have s0 := blk_cell HQ.out.2.2.2.2.2.2.2.2.2.1 0
  have s1 := blk_cell HQ.out.2.2.2.2.2.2.2.2.2.1 1
  simp at c0 c1 m0 m1 s0 s1
  have t1 := cv_of HQ.out.2.2.2.2.2.2.1
  have t2 := cv_of HQ.out.2.2.2.2.2.2.2.1
  have t3 := cv_of HQ.out.2.2.2.2.2.2.2.2.2.2.1
  have n3 : (bd.waits.length : Int) = 0 := by have := HN.out.2.1; omega
  have hfin := HQ.out.2.2.2.2.2.2.2.2.2.2.2
  by_cases hne : q = p
  · subst hne
    go_wp2
    go_ret
    exact ⟨rfl, hfin⟩
  have hrr := HN.out.2.2 hne
  subst hrr
  have n4 : (q == p) = false := by simp [hne]
  go_wp2
  go_ret
  exact ⟨rfl, hfin⟩
end Go.Proofs.Ytldidclnfkmonaa
