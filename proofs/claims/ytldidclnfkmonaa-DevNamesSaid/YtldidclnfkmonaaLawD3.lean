/- The walk of the statement DevApart. -/
import Derived.Test.YtldidclnfkmonaaLawD2
import Derived.Test.YtldidclnfkmonaaDev14
namespace Go.Proofs.Ytldidclnfkmonaa
open Go.RowKit

/-- A disk, and where it lies. -/
structure DR (V : World) (lo hi : Nat) (b u : Value) (d : DiskL) : Prop where
  v : DiskV V lo hi b u d
  hi : hi ≤ V.heap.size
theorem DR.step {V V' : World} {lo hi : Nat} {b u : Value} {d : DiskL} (h : DR V lo hi b u d) (hst : Below V.heap.size V V') : DR V' lo hi b u d := ⟨⟨h.v.1.below hst h.hi, h.v.2.below hst h.hi⟩, Nat.le_trans h.hi hst.size⟩
theorem kp_two' {lo hi r : Nat} (z : World) (a b : Value) (i : Nat) (h : r < lo ∨ hi ≤ r) : Kp lo hi z ((z.setCell ⟨r, 0, none⟩ a).setCell ⟨r, i, none⟩ b) := fun k o h1 h2 =>
  have e := (set_other _ r i b k (by omega)).trans (set_other z r 0 a k (by omega))
  ⟨heap_cell e o, heap_frozen e o⟩
theorem DR.set2 {V : World} {lo hi : Nat} {b u : Value} {d : DiskL} (h : DR V lo hi b u d) (r : Nat) (x y : Value) (hr : r < lo ∨ hi ≤ r) : DR ((V.setCell ⟨r, 0, none⟩ x).setCell ⟨r, 1, none⟩ y) lo hi b u d :=
  ⟨⟨Sl.keep h.v.1 (kp_two' V x y 1 hr), Sl.keep h.v.2 (kp_two' V x y 1 hr)⟩, by rw [World.size_setCell, World.size_setCell]; exact h.hi⟩
theorem DR.v0 {V : World} {lo hi : Nat} {b u : Value} {d : DiskL} (h : DR V lo hi b u d) : DiskV V 0 V.heap.size b u d := h.v.more (Nat.zero_le _) h.hi
theorem DR.of {V V' : World} {b u : Value} {d : DiskL} (h : MadeD V V' b u d) : DR V' V.heap.size V'.heap.size b u d := ⟨h.disk.v, Nat.le_refl _⟩
structure BR (V : World) (lo hi : Nat) (v : Value) (l : List UInt8) : Prop where
  v : Bytes V lo hi v l
  hi : hi ≤ V.heap.size
theorem BR.step {V V' : World} {lo hi : Nat} {v : Value} {l : List UInt8} (h : BR V lo hi v l) (hst : Below V.heap.size V V') : BR V' lo hi v l := ⟨h.v.below hst h.hi, Nat.le_trans h.hi hst.size⟩
theorem BR.set2 {V : World} {lo hi : Nat} {v : Value} {l : List UInt8} (h : BR V lo hi v l) (r : Nat) (x y : Value) (hr : r < lo ∨ hi ≤ r) : BR ((V.setCell ⟨r, 0, none⟩ x).setCell ⟨r, 1, none⟩ y) lo hi v l :=
  ⟨h.v.kept (kp_two' V x y 1 hr), by rw [World.size_setCell, World.size_setCell]; exact h.hi⟩
theorem BR.v0 {V : World} {lo hi : Nat} {v : Value} {l : List UInt8} (h : BR V lo hi v l) : Bytes V 0 V.heap.size v l := h.v.more (Nat.zero_le _) h.hi

theorem bar_bar {d : DiskL} (h : mayD d = true) : barD (barD d) = barD d := by
  have h1 := barD_may h
  have h2 := barD_may h1.2
  rw [h2.1, h1.1]
  rfl
theorem kept_all (l : List WrL) : keptW l (List.replicate l.length true) = l := by
  induction l with
  | nil => rfl
  | cons x l ih =>
    rw [List.length_cons, List.replicate_succ]
    unfold keptW
    rw [if_pos rfl, ih]
theorem crash_all {d : DiskL} (h : mayD d = true) : errK d (List.replicate d.waits.length true) = 0 ∧ crashD d (List.replicate d.waits.length true) = barD d := by
  have e : errK d (List.replicate d.waits.length true) = 0 := by unfold errK; rw [h]; simp
  refine ⟨e, ?_⟩
  unfold crashD
  rw [if_pos e, kept_all, (barD_may h).1]
theorem put_two (bl : List (List UInt8)) (l : List WrL) (x y : WrL) : putW bl (l ++ [x] ++ [y]) = ((putW bl l).set x.at_.toNat x.data).set y.at_.toNat y.data := by rw [putW_snoc, putW_snoc]
/-- Two writes. -/
def twoD (d : DiskL) (p : Int) (a : List UInt8) (q : Int) (b : List UInt8) : DiskL := writeD (writeD d p a) q b
theorem two_eq {d : DiskL} {p q : Int} {a b : List UInt8} (h1 : errW d p a = 0) (h2 : errW (writeD d p a) q b = 0) : twoD d p a q b = ⟨d.blocks, d.waits ++ [⟨p, a⟩] ++ [⟨q, b⟩]⟩ ∧ mayD (twoD d p a q b) = true ∧ barD (twoD d p a q b) = ⟨((putW d.blocks d.waits).set p.toNat a).set q.toNat b, []⟩ := by
  have k1 := write_may h1
  have k2 := write_may h2
  have e : twoD d p a q b = ⟨d.blocks, d.waits ++ [⟨p, a⟩] ++ [⟨q, b⟩]⟩ := by unfold twoD; rw [k2.1, k1.1]
  refine ⟨e, k2.2, ?_⟩
  rw [show barD (twoD d p a q b) = ⟨putW (twoD d p a q b).blocks (twoD d p a q b).waits, []⟩ from (barD_may k2.2).1]
  show DiskL.mk (putW (twoD d p a q b).blocks (twoD d p a q b).waits) [] = _
  rw [e]
  simp only
  rw [put_two]

theorem apart_bar {d : DiskL} {p q : Int} {a b : List UInt8} (h1 : errW d p a = 0) (h2 : errW (writeD d p a) q b = 0) (h3 : errW d q b = 0) (h4 : errW (writeD d q b) p a = 0) (hne : p ≠ q) : barD (twoD d p a q b) = barD (twoD d q b p a) := by
  rw [(two_eq h1 h2).2.2, (two_eq h3 h4).2.2]
  have := errW_zero h1
  have := errW_zero h3
  rw [List.set_comm _ _ (by omega)]
theorem apart_at {d : DiskL} {p : Int} {a b : List UInt8} (h1 : errW d p a = 0) (h2 : errW (writeD d p a) p b = 0) : (barD (twoD d p a p b)).blocks.getD p.toNat [] = b := by
  rw [(two_eq h1 h2).2.2]
  have hz := errW_zero h1
  have hm := may_len hz.1
  simp only
  rw [List.getD_eq_getElem?_getD, List.getElem?_set_self (by rw [List.length_set, putW_length]; omega)]
  rfl

set_option maxRecDepth 100000 in
set_option maxHeartbeats 1000000 in
theorem devApart_walk (d : DiskL) (b u : Value) (p : Int) (v1 : Value) (la : List UInt8) (q : Int) (v2 : Value) (lb : List UInt8) (w : World) (h : DiskV w 0 w.heap.size b u d) (_hp : (Lit.int .i64 p).wf = true) (hv1 : Bytes w 0 w.heap.size v1 la) (_hq : (Lit.int .i64 q).wf = true) (hv2 : Bytes w 0 w.heap.size v2 lb) :
    Calls Try.prog 14 #[.agg #[b, u], .int .i64 p, v1, .int .i64 q, v2] w fun e w' => e = .returned (.bool true) ∧ Below w.heap.size w w' := by
  have hB := (Below.refl w.heap.size w).alloc (Nat.le_refl _) (.cells #[b, u] 39)
  have hst0 := (Below.refl w.heap.size w).alloc (Nat.le_refl _) (.cells #[b, u] 39)
  have hD : DR _ 0 w.heap.size b u d := (DR.mk h (Nat.le_refl _)).step hst0
  have ha : BR _ 0 w.heap.size v1 la := (BR.mk hv1 (Nat.le_refl _)).step hst0
  have hb : BR _ 0 w.heap.size v2 lb := (BR.mk hv2 (Nat.le_refl _)).step hst0
  have hq := World.alloc_heap_new w (.cells #[b, u] 39)
  have h1 := fun V hh => great_any b u d V hh
  obtain ⟨ab, cb, rfl, g1, g2, -, -⟩ := h.1
  obtain ⟨au, cu, rfl, g1', g2', -, -⟩ := h.2
  obtain ⟨aa, ca, rfl, y1, y2⟩ := hv1.form rfl
  obtain ⟨ak, ck, rfl, y1', y2'⟩ := hv2.form rfl
  unfold maxLen at g2 g2' y2 y2'
  clear h hv1 hv2 hst0
  obtain ⟨X1, hX1⟩ : ∃ X, writeD d p la = X := ⟨_, rfl⟩
  obtain ⟨Y1, hY1⟩ : ∃ X, writeD d q lb = X := ⟨_, rfl⟩
  obtain ⟨X2, hX2⟩ : ∃ X, writeD X1 q lb = X := ⟨_, rfl⟩
  obtain ⟨Y2, hY2⟩ : ∃ X, writeD Y1 p la = X := ⟨_, rfl⟩
  obtain ⟨e1, he1⟩ : ∃ e, errW d p la = e := ⟨_, rfl⟩
  obtain ⟨e2, he2⟩ : ∃ e, errW X1 q lb = e := ⟨_, rfl⟩
  obtain ⟨e3, he3⟩ : ∃ e, errW d q lb = e := ⟨_, rfl⟩
  obtain ⟨e4, he4⟩ : ∃ e, errW Y1 p la = e := ⟨_, rfl⟩
  have k1 := fun b u v V hh hv => dwrite_any b u d p v la V hh hv
  have k2 := fun b u v V hh hv => dwrite_any b u X1 q v lb V hh hv
  have k3 := fun b u v V hh hv => dwrite_any b u d q v lb V hh hv
  have k4 := fun b u v V hh hv => dwrite_any b u Y1 p v la V hh hv
  rw [hX1, he1] at k1
  rw [hX2, he2] at k2
  rw [hY1, he3] at k3
  rw [hY2, he4] at k4
  obtain ⟨V, hV⟩ : ∃ V, w.alloc (.cells #[.slice ab d.blocks.length cb, .slice au d.waits.length cu] 39) = V := ⟨_, rfl⟩
  rw [hV] at hB hD hq ha hb
  have HC := Lib.hid (And.intro h1 (And.intro k1 (And.intro k2 (And.intro k3 k4))))
  have HE := Lib.hid (And.intro hX1 (And.intro hY1 (And.intro hX2 (And.intro hY2 (And.intro he1 (And.intro he2 (And.intro he3 he4)))))))
  have HQ := Lib.hid (And.intro hq (And.intro hD (And.intro ha (And.intro hb hB))))
  clear hB hD hq ha hb h1 k1 k2 k3 k4 hX1 hY1 hX2 hY2 he1 he2 he3 he4
  go_enter Try.func14, Try.ntmps14
  go_upto_region 1 with (fail)
  clear hV
  go_wp2_with fail
  refine (alive3_any V).mono ?_
  rintro e w1 ⟨rfl, hst⟩
  obtain ⟨hq, hD, ha, hb, hB⟩ := HQ.out
  clear HQ
  replace hq := (hst.block _ (Array.getElem?_eq_some_iff.1 hq).1).trans hq
  replace hD := hD.step hst
  replace ha := ha.step hst
  replace hb := hb.step hst
  replace hB := below_step hB hB.size hst
  clear hst
  have HQ := Lib.hid (And.intro hq (And.intro hD (And.intro ha (And.intro hb hB))))
  clear hq hD ha hb hB
  have c0 := blk_cell HQ.out.1 0
  have c1 := blk_cell HQ.out.1 1
  simp at c0 c1
  go_wp2_with fail
  refine (HC.out.1 w1 HQ.out.2.1.v0).mono ?_
  rintro e w2 ⟨g, rfl, hst, -⟩
  clear c0 c1
  obtain ⟨hq, hD, ha, hb, hB⟩ := HQ.out
  clear HQ
  replace hq := (hst.block _ (Array.getElem?_eq_some_iff.1 hq).1).trans hq
  replace hD := hD.step hst
  replace ha := ha.step hst
  replace hb := hb.step hst
  replace hB := below_step hB hB.size hst
  clear hst
  have HQ := Lib.hid (And.intro hq (And.intro hD (And.intro ha (And.intro hb hB))))
  clear hq hD ha hb hB
  have c0 := blk_cell HQ.out.1 0
  have c1 := blk_cell HQ.out.1 1
  simp at c0 c1
  cases g
  case true =>
    go_wp2
    go_ret
    exact ⟨rfl, HQ.out.2.2.2.2⟩
  by_cases hl1 : 10000 < la.length
  · have i1 : (10000 : Int) < la.length := by omega
    go_wp2
    go_ret
    exact ⟨rfl, HQ.out.2.2.2.2⟩
  have dl1 : decide ((10000 : Int) < la.length) = false := by simp; omega
  by_cases hl2 : 10000 < lb.length
  · have i1 : (10000 : Int) < lb.length := by omega
    go_wp2
    go_ret
    exact ⟨rfl, HQ.out.2.2.2.2⟩
  have dl2 : decide ((10000 : Int) < lb.length) = false := by simp; omega
  go_wp2_with fail
  refine (HC.out.2.1 _ _ _ w2 HQ.out.2.1.v0 HQ.out.2.2.1.v0).mono ?_
  rintro e w3 ⟨b1, u1, rfl, hm⟩
  clear c0 c1
  obtain ⟨hq, hD, ha, hb, hB⟩ := HQ.out
  clear HQ
  have hst := hm.below
  have hX1 := DR.of hm
  clear hm
  obtain ⟨a1, c1, rfl, -, -, -, -⟩ := hX1.v.1
  obtain ⟨a2, c2, rfl, -, -, -, -⟩ := hX1.v.2
  replace hq := (hst.block _ (Array.getElem?_eq_some_iff.1 hq).1).trans hq
  replace hD := hD.step hst
  replace ha := ha.step hst
  replace hb := hb.step hst
  replace hB := below_step hB hB.size hst
  clear hst
  have HQ := Lib.hid (And.intro hq (And.intro hD (And.intro ha (And.intro hb (And.intro hX1 hB)))))
  clear hq hD ha hb hX1 hB
  go_upto_region 5 with (fail)
  obtain ⟨hq, hD, ha, hb, hX1, hB⟩ := HQ.out
  clear HQ
  have n0 : w.heap.size < w3.heap.size := (Array.getElem?_eq_some_iff.1 hq).1
  have q12 := World.alloc_heap_new w3 (.cells #[.slice a1 X1.blocks.length c1, .slice a2 X1.waits.length c2] 39)
  have hst := (Below.refl w3.heap.size w3).alloc (Nat.le_refl _) (.cells #[.slice a1 X1.blocks.length c1, .slice a2 X1.waits.length c2] 39)
  replace hq := (hst.block _ (Array.getElem?_eq_some_iff.1 hq).1).trans hq
  replace hD := hD.step hst
  replace ha := ha.step hst
  replace hb := hb.step hst
  replace hX1 := hX1.step hst
  replace hB := below_step hB hB.size hst
  obtain ⟨w4, hw⟩ : ∃ v, w3.alloc (.cells #[.slice a1 X1.blocks.length c1, .slice a2 X1.waits.length c2] 39) = v := ⟨_, rfl⟩
  rw [hw] at q12 hq hD ha hb hX1 hB ⊢
  generalize hg : w3.heap.size = g12 at *
  clear hw hst hg
  have HQ := Lib.hid (And.intro hq (And.intro hD (And.intro ha (And.intro hb (And.intro hX1 (And.intro q12 hB))))))
  clear hq hD ha hb hX1 q12 hB
  have c0 := blk_cell HQ.out.1 0
  have c1 := blk_cell HQ.out.1 1
  have m0 := blk_cell HQ.out.2.2.2.2.2.1 0
  have zm0 := blk_frozen HQ.out.2.2.2.2.2.1 0
  have m1 := blk_cell HQ.out.2.2.2.2.2.1 1
  have zm1 := blk_frozen HQ.out.2.2.2.2.2.1 1
  simp at c0 c1 m0 m1
  go_wp2_with fail
  refine (HC.out.2.2.1 _ _ _ w4 HQ.out.2.2.2.2.1.v0 HQ.out.2.2.2.1.v0).mono ?_
  rintro e w5 ⟨b2, u2, rfl, hm⟩
  clear c0 c1 m0 m1 zm0 zm1
  obtain ⟨hq, hD, ha, hb, hX1, q12, hB⟩ := HQ.out
  clear HQ
  have hst := hm.below
  have hX2 := DR.of hm
  have n12 : g12 < w4.heap.size := (Array.getElem?_eq_some_iff.1 q12).1
  clear hm
  obtain ⟨a3, c3, rfl, -, -, -, -⟩ := hX2.v.1
  obtain ⟨a4, c4, rfl, -, -, -, -⟩ := hX2.v.2
  clear hX1
  replace hq := (hst.block _ (Array.getElem?_eq_some_iff.1 hq).1).trans hq
  replace hD := hD.step hst
  replace ha := ha.step hst
  replace hb := hb.step hst
  replace q12 := (hst.block _ (Array.getElem?_eq_some_iff.1 q12).1).trans q12
  replace hB := below_step hB hB.size hst
  clear hst
  have HQ := Lib.hid (And.intro hq (And.intro hD (And.intro ha (And.intro hb (And.intro q12 (And.intro hX2 hB))))))
  clear hq hD ha hb q12 hX2 hB
  have c0 := blk_cell HQ.out.1 0
  have c1 := blk_cell HQ.out.1 1
  have m0 := blk_cell HQ.out.2.2.2.2.1 0
  have zm0 := blk_frozen HQ.out.2.2.2.2.1 0
  have m1 := blk_cell HQ.out.2.2.2.2.1 1
  have zm1 := blk_frozen HQ.out.2.2.2.2.1 1
  simp at c0 c1 m0 m1
  go_upto_region 6 with (fail)
  clear c0 c1 m0 m1 zm0 zm1
  obtain ⟨hq, hD, ha, hb, q12, hX2, hB⟩ := HQ.out
  clear HQ
  have hso := fun k hk => (set_other _ g12 1 (.slice a4 X2.waits.length c4) k hk).trans (set_other w5 g12 0 (.slice a3 X2.blocks.length c3) k hk)
  replace hq := (hso _ (by omega)).trans hq
  replace hD := hD.set2 g12 (.slice a3 X2.blocks.length c3) (.slice a4 X2.waits.length c4) (.inr (by omega))
  replace ha := ha.set2 g12 (.slice a3 X2.blocks.length c3) (.slice a4 X2.waits.length c4) (.inr (by omega))
  replace hb := hb.set2 g12 (.slice a3 X2.blocks.length c3) (.slice a4 X2.waits.length c4) (.inr (by omega))
  replace q12 := set_block (set_block q12 0 (.slice a3 X2.blocks.length c3)) 1 (.slice a4 X2.waits.length c4)
  replace hX2 := hX2.set2 g12 (.slice a3 X2.blocks.length c3) (.slice a4 X2.waits.length c4) (.inl n12)
  replace hB := (hB.setCell (p := ⟨g12, 0, none⟩) (by show w.heap.size ≤ g12; omega) (.slice a3 X2.blocks.length c3)).setCell (p := ⟨g12, 1, none⟩) (by show w.heap.size ≤ g12; omega) (.slice a4 X2.waits.length c4)
  obtain ⟨w6, hw⟩ : ∃ v, ((w5.setCell ⟨g12, 0, none⟩ (.slice a3 X2.blocks.length c3)).setCell ⟨g12, 1, none⟩ (.slice a4 X2.waits.length c4)) = v := ⟨_, rfl⟩
  rw [hw] at hq hD ha hb q12 hX2 hB ⊢
  clear hw hso
  have HQ := Lib.hid (And.intro hq (And.intro hD (And.intro ha (And.intro hb (And.intro q12 (And.intro hX2 hB))))))
  clear hq hD ha hb q12 hX2 hB
  have c0 := blk_cell HQ.out.1 0
  have c1 := blk_cell HQ.out.1 1
  have m0 := blk_cell HQ.out.2.2.2.2.1 0
  have m1 := blk_cell HQ.out.2.2.2.2.1 1
  simp at c0 c1 m0 m1
  go_wp2_with fail
  refine (HC.out.2.2.2.1 _ _ _ w6 HQ.out.2.1.v0 HQ.out.2.2.2.1.v0).mono ?_
  rintro e w7 ⟨b3, u3, rfl, hm⟩
  clear c0 c1 m0 m1
  obtain ⟨hq, hD, ha, hb, q12, hX2, hB⟩ := HQ.out
  clear HQ
  have hst := hm.below
  have hY1 := DR.of hm
  clear hm
  obtain ⟨a5, c5, rfl, -, -, -, -⟩ := hY1.v.1
  obtain ⟨a6, c6, rfl, -, -, -, -⟩ := hY1.v.2
  replace hq := (hst.block _ (Array.getElem?_eq_some_iff.1 hq).1).trans hq
  replace hD := hD.step hst
  replace ha := ha.step hst
  replace hb := hb.step hst
  replace q12 := (hst.block _ (Array.getElem?_eq_some_iff.1 q12).1).trans q12
  replace hX2 := hX2.step hst
  replace hB := below_step hB hB.size hst
  clear hst
  have HQ := Lib.hid (And.intro hq (And.intro hD (And.intro ha (And.intro hb (And.intro q12 (And.intro hX2 (And.intro hY1 hB)))))))
  clear hq hD ha hb q12 hX2 hY1 hB
  go_upto_region 7 with (fail)
  obtain ⟨hq, hD, ha, hb, q12, hX2, hY1, hB⟩ := HQ.out
  clear HQ
  have m12 : g12 < w7.heap.size := (Array.getElem?_eq_some_iff.1 q12).1
  have mX2 := hX2.hi
  have q15 := World.alloc_heap_new w7 (.cells #[.slice a5 Y1.blocks.length c5, .slice a6 Y1.waits.length c6] 39)
  have hst := (Below.refl w7.heap.size w7).alloc (Nat.le_refl _) (.cells #[.slice a5 Y1.blocks.length c5, .slice a6 Y1.waits.length c6] 39)
  replace hq := (hst.block _ (Array.getElem?_eq_some_iff.1 hq).1).trans hq
  replace hD := hD.step hst
  replace ha := ha.step hst
  replace hb := hb.step hst
  replace q12 := (hst.block _ (Array.getElem?_eq_some_iff.1 q12).1).trans q12
  replace hX2 := hX2.step hst
  replace hY1 := hY1.step hst
  replace hB := below_step hB hB.size hst
  obtain ⟨w8, hw⟩ : ∃ v, w7.alloc (.cells #[.slice a5 Y1.blocks.length c5, .slice a6 Y1.waits.length c6] 39) = v := ⟨_, rfl⟩
  rw [hw] at q15 hq hD ha hb q12 hX2 hY1 hB ⊢
  generalize hg : w7.heap.size = g15 at *
  clear hw hst hg
  have HQ := Lib.hid (And.intro hq (And.intro hD (And.intro ha (And.intro hb (And.intro q12 (And.intro hX2 (And.intro hY1 (And.intro q15 hB))))))))
  clear hq hD ha hb q12 hX2 hY1 q15 hB
  have c0 := blk_cell HQ.out.1 0
  have c1 := blk_cell HQ.out.1 1
  have m0 := blk_cell HQ.out.2.2.2.2.1 0
  have m1 := blk_cell HQ.out.2.2.2.2.1 1
  have s0 := blk_cell HQ.out.2.2.2.2.2.2.2.1 0
  have zs0 := blk_frozen HQ.out.2.2.2.2.2.2.2.1 0
  have s1 := blk_cell HQ.out.2.2.2.2.2.2.2.1 1
  have zs1 := blk_frozen HQ.out.2.2.2.2.2.2.2.1 1
  simp at c0 c1 m0 m1 s0 s1
  go_wp2_with fail
  refine (HC.out.2.2.2.2 _ _ _ w8 HQ.out.2.2.2.2.2.2.1.v0 HQ.out.2.2.1.v0).mono ?_
  rintro e w9 ⟨b4, u4, rfl, hm⟩
  clear c0 c1 m0 m1 s0 s1 zs0 zs1
  obtain ⟨hq, hD, ha, hb, q12, hX2, hY1, q15, hB⟩ := HQ.out
  clear HQ
  have hst := hm.below
  have hY2 := DR.of hm
  have n15 : g15 < w8.heap.size := (Array.getElem?_eq_some_iff.1 q15).1
  clear hm
  obtain ⟨a7, c7, rfl, -, -, -, -⟩ := hY2.v.1
  obtain ⟨a8, c8, rfl, -, -, -, -⟩ := hY2.v.2
  clear hY1
  replace hq := (hst.block _ (Array.getElem?_eq_some_iff.1 hq).1).trans hq
  replace hD := hD.step hst
  replace ha := ha.step hst
  replace hb := hb.step hst
  replace q12 := (hst.block _ (Array.getElem?_eq_some_iff.1 q12).1).trans q12
  replace hX2 := hX2.step hst
  replace q15 := (hst.block _ (Array.getElem?_eq_some_iff.1 q15).1).trans q15
  replace hB := below_step hB hB.size hst
  clear hst
  have HQ := Lib.hid (And.intro hq (And.intro hD (And.intro ha (And.intro hb (And.intro q12 (And.intro hX2 (And.intro q15 (And.intro hY2 hB))))))))
  clear hq hD ha hb q12 hX2 q15 hY2 hB
  have c0 := blk_cell HQ.out.1 0
  have c1 := blk_cell HQ.out.1 1
  have m0 := blk_cell HQ.out.2.2.2.2.1 0
  have m1 := blk_cell HQ.out.2.2.2.2.1 1
  have s0 := blk_cell HQ.out.2.2.2.2.2.2.1 0
  have zs0 := blk_frozen HQ.out.2.2.2.2.2.2.1 0
  have s1 := blk_cell HQ.out.2.2.2.2.2.2.1 1
  have zs1 := blk_frozen HQ.out.2.2.2.2.2.2.1 1
  simp at c0 c1 m0 m1 s0 s1
  go_upto_region 8 with (fail)
  clear c0 c1 m0 m1 s0 s1 zs0 zs1
  obtain ⟨hq, hD, ha, hb, q12, hX2, q15, hY2, hB⟩ := HQ.out
  clear HQ
  have hso := fun k hk => (set_other _ g15 1 (.slice a8 Y2.waits.length c8) k hk).trans (set_other w9 g15 0 (.slice a7 Y2.blocks.length c7) k hk)
  replace hq := (hso _ (by omega)).trans hq
  replace hD := hD.set2 g15 (.slice a7 Y2.blocks.length c7) (.slice a8 Y2.waits.length c8) (.inr (by omega))
  replace ha := ha.set2 g15 (.slice a7 Y2.blocks.length c7) (.slice a8 Y2.waits.length c8) (.inr (by omega))
  replace hb := hb.set2 g15 (.slice a7 Y2.blocks.length c7) (.slice a8 Y2.waits.length c8) (.inr (by omega))
  replace q12 := (hso _ (by omega)).trans q12
  replace hX2 := hX2.set2 g15 (.slice a7 Y2.blocks.length c7) (.slice a8 Y2.waits.length c8) (.inr mX2)
  replace q15 := set_block (set_block q15 0 (.slice a7 Y2.blocks.length c7)) 1 (.slice a8 Y2.waits.length c8)
  replace hY2 := hY2.set2 g15 (.slice a7 Y2.blocks.length c7) (.slice a8 Y2.waits.length c8) (.inl n15)
  replace hB := (hB.setCell (p := ⟨g15, 0, none⟩) (by show w.heap.size ≤ g15; omega) (.slice a7 Y2.blocks.length c7)).setCell (p := ⟨g15, 1, none⟩) (by show w.heap.size ≤ g15; omega) (.slice a8 Y2.waits.length c8)
  obtain ⟨w10, hw⟩ : ∃ v, ((w9.setCell ⟨g15, 0, none⟩ (.slice a7 Y2.blocks.length c7)).setCell ⟨g15, 1, none⟩ (.slice a8 Y2.waits.length c8)) = v := ⟨_, rfl⟩
  rw [hw] at hq hD ha hb q12 hX2 q15 hY2 hB ⊢
  clear hw hso
  have HQ := Lib.hid (And.intro hq (And.intro hD (And.intro ha (And.intro hb (And.intro q12 (And.intro hX2 (And.intro q15 (And.intro hY2 hB))))))))
  clear hq hD ha hb q12 hX2 q15 hY2 hB
  have c0 := blk_cell HQ.out.1 0
  have c1 := blk_cell HQ.out.1 1
  have m0 := blk_cell HQ.out.2.2.2.2.1 0
  have m1 := blk_cell HQ.out.2.2.2.2.1 1
  have s0 := blk_cell HQ.out.2.2.2.2.2.2.1 0
  have s1 := blk_cell HQ.out.2.2.2.2.2.2.1 1
  simp at c0 c1 m0 m1 s0 s1
  by_cases he1 : e1 = 0
  case neg =>
    go_wp2
    go_ret
    exact ⟨rfl, HQ.out.2.2.2.2.2.2.2.2⟩
  subst he1
  by_cases he2 : e2 = 0
  case neg =>
    go_wp2
    go_ret
    exact ⟨rfl, HQ.out.2.2.2.2.2.2.2.2⟩
  subst he2
  by_cases he3 : e3 = 0
  case neg =>
    go_wp2
    go_ret
    exact ⟨rfl, HQ.out.2.2.2.2.2.2.2.2⟩
  subst he3
  by_cases he4 : e4 = 0
  case neg =>
    go_wp2
    go_ret
    exact ⟨rfl, HQ.out.2.2.2.2.2.2.2.2⟩
  subst he4
  have hE := HE.out
  obtain ⟨rX1, rY1, rX2, rY2, z1, z2, z3, z4⟩ := hE
  subst rX1 rY1 rX2 rY2
  have t1 := two_eq z1 z2
  have t2 := two_eq z3 z4
  have hap := fun (hne : p ≠ q) => apart_bar z1 z2 z3 z4 hne
  have haa1 := fun (e : p = q) => apart_at (d := d) (p := p) (a := la) (b := lb) z1 (by rw [e] at z2 ⊢; exact z2)
  have haa2 := fun (e : p = q) => apart_at (d := d) (p := p) (a := lb) (b := la) (by rw [e]; exact z3) (by rw [e] at z4 ⊢; exact z4)
  have hp0 := errW_zero z1
  obtain ⟨X, hX⟩ : ∃ X, twoD d p la q lb = X := ⟨_, rfl⟩
  obtain ⟨Y, hY⟩ : ∃ Y, twoD d q lb p la = Y := ⟨_, rfl⟩
  have eX : writeD (writeD d p la) q lb = X := hX
  have eY : writeD (writeD d q lb) p la = Y := hY
  rw [hX, hY] at hap
  rw [hX] at t1
  rw [hY] at t2
  have hat1 : p = q → (barD X).blocks.getD p.toNat [] = lb := fun e => by
    have := haa1 e
    rw [← hX]
    rw [e] at this ⊢
    exact this
  have hat2 : p = q → (barD Y).blocks.getD p.toNat [] = la := fun e => by
    have := haa2 e
    rw [← hY]
    rw [e] at this ⊢
    exact this
  have hmX := t1.2.1
  have hmY := t2.2.1
  have c1 : errC X = 0 := by unfold errC; rw [hmX]; rfl
  have c2 : errC Y = 0 := by unfold errC; rw [hmY]; rfl
  have hmS := (barD_may hmX).2
  have c3 : errC (barD X) = 0 := by unfold errC; rw [hmS]; rfl
  have hbb := bar_bar hmX
  have hcr := crash_all hmX
  have hmT := (barD_may hmY).2
  have lS := (may_len hmS).1
  have lT := (may_len hmT).1
  have lX := (may_len hmX).2.1
  have k1 := fun b u V hh => dbar_any b u X V hh
  have k2 := fun b u V hh => dbar_any b u Y V hh
  have k3 := fun b u V hh => dbar_any b u (barD X) V hh
  have k4 := fun b u v V hh hv => dcrash_any b u X v (List.replicate X.waits.length true) V hh hv
  rw [c1] at k1
  rw [c2] at k2
  rw [c3, hbb] at k3
  rw [hcr.1, hcr.2] at k4
  obtain ⟨S, hS⟩ : ∃ S, barD X = S := ⟨_, rfl⟩
  obtain ⟨T, hT⟩ : ∃ T, barD Y = T := ⟨_, rfl⟩
  rw [hS] at k1 k3 k4 hap hat1 lS
  rw [hT] at k2 hap hat2 lT
  rw [eX] at HQ
  rw [eY] at HQ
  try rw [eX] at m0 m1
  try rw [eY] at s0 s1
  have k5 := fun b u b2 u2 V h1 h2 => dsame_any b u b2 u2 S S V h1 h2
  have k6 := fun b u b2 u2 V h1 h2 => dsame_any b u b2 u2 S T V h1 h2
  rw [decide_eq_true (rfl : S = S)] at k5
  have HX := Lib.hid (And.intro k1 (And.intro k2 (And.intro k3 (And.intro k4 (And.intro k5 k6)))))
  have HN := Lib.hid (And.intro hap (And.intro hat1 (And.intro hat2 (And.intro hp0 (And.intro lS lT)))))
  clear t1 t2 haa1 haa2 hap hat1 hat2 hmX hmY c1 c2 c3 hmS hbb hcr hmT lS lT k1 k2 k3 k4 k5 k6 hX hY hS hT eX eY z1 z2 z3 z4 HE HC hp0
  go_wp2_with fail
  refine (HX.out.1 _ _ w10 HQ.out.2.2.2.2.2.1.v0).mono ?_
  rintro e w11 ⟨b5, u5, rfl, hm⟩
  clear c0 c1 m0 m1 s0 s1
  obtain ⟨hq, hD, ha, hb, q12, hX2, q15, hY2, hB⟩ := HQ.out
  clear HQ
  have hst := hm.below
  have hS := DR.of hm
  clear hm
  obtain ⟨a9, c9, rfl, -, -, -, -⟩ := hS.v.1
  obtain ⟨ax, cx, rfl, -, -, -, -⟩ := hS.v.2
  replace hq := (hst.block _ (Array.getElem?_eq_some_iff.1 hq).1).trans hq
  replace hD := hD.step hst
  replace ha := ha.step hst
  replace hb := hb.step hst
  replace q12 := (hst.block _ (Array.getElem?_eq_some_iff.1 q12).1).trans q12
  replace hX2 := hX2.step hst
  replace q15 := (hst.block _ (Array.getElem?_eq_some_iff.1 q15).1).trans q15
  replace hY2 := hY2.step hst
  replace hB := below_step hB hB.size hst
  clear hst
  have HQ := Lib.hid (And.intro hq (And.intro hD (And.intro ha (And.intro hb (And.intro q12 (And.intro hX2 (And.intro q15 (And.intro hY2 (And.intro hS hB)))))))))
  clear hq hD ha hb q12 hX2 q15 hY2 hS hB
  go_upto_region 11 with (fail)
  obtain ⟨hq, hD, ha, hb, q12, hX2, q15, hY2, hS, hB⟩ := HQ.out
  clear HQ
  have g18_hq := (Array.getElem?_eq_some_iff.1 hq).1
  have g18_q12 := (Array.getElem?_eq_some_iff.1 q12).1
  have g18_q15 := (Array.getElem?_eq_some_iff.1 q15).1
  have g18_hD := hD.hi
  have g18_hX2 := hX2.hi
  have g18_hY2 := hY2.hi
  have g18_hS := hS.hi
  have q18 := World.alloc_heap_new w11 (.cells #[.slice a9 S.blocks.length c9, .slice ax S.waits.length cx] 39)
  have hst := (Below.refl w11.heap.size w11).alloc (Nat.le_refl _) (.cells #[.slice a9 S.blocks.length c9, .slice ax S.waits.length cx] 39)
  replace hq := (hst.block _ (Array.getElem?_eq_some_iff.1 hq).1).trans hq
  replace hD := hD.step hst
  replace ha := ha.step hst
  replace hb := hb.step hst
  replace q12 := (hst.block _ (Array.getElem?_eq_some_iff.1 q12).1).trans q12
  replace hX2 := hX2.step hst
  replace q15 := (hst.block _ (Array.getElem?_eq_some_iff.1 q15).1).trans q15
  replace hY2 := hY2.step hst
  replace hS := hS.step hst
  replace hB := below_step hB hB.size hst
  obtain ⟨w12, hw⟩ : ∃ v, w11.alloc (.cells #[.slice a9 S.blocks.length c9, .slice ax S.waits.length cx] 39) = v := ⟨_, rfl⟩
  rw [hw] at q18 hq hD ha hb q12 hX2 q15 hY2 hS hB ⊢
  generalize hg : w11.heap.size = g18 at *
  clear hw hst hg
  have HQ := Lib.hid (And.intro hq (And.intro hD (And.intro ha (And.intro hb (And.intro q12 (And.intro hX2 (And.intro q15 (And.intro hY2 (And.intro hS (And.intro q18 hB))))))))))
  clear hq hD ha hb q12 hX2 q15 hY2 hS q18 hB
  have c0 := blk_cell HQ.out.1 0
  have c1 := blk_cell HQ.out.1 1
  have m0 := blk_cell HQ.out.2.2.2.2.1 0
  have m1 := blk_cell HQ.out.2.2.2.2.1 1
  have s0 := blk_cell HQ.out.2.2.2.2.2.2.1 0
  have s1 := blk_cell HQ.out.2.2.2.2.2.2.1 1
  have d0 := blk_cell HQ.out.2.2.2.2.2.2.2.2.2.1 0
  have d1 := blk_cell HQ.out.2.2.2.2.2.2.2.2.2.1 1
  simp at c0 c1 m0 m1 s0 s1 d0 d1
  go_wp2_with fail
  refine (HX.out.2.1 _ _ w12 HQ.out.2.2.2.2.2.2.2.1.v0).mono ?_
  rintro e w13 ⟨b6, u6, rfl, hm⟩
  clear c0 c1 m0 m1 s0 s1 d0 d1
  obtain ⟨hq, hD, ha, hb, q12, hX2, q15, hY2, hS, q18, hB⟩ := HQ.out
  clear HQ
  have hst := hm.below
  have hT := DR.of hm
  clear hm
  obtain ⟨ay, cy, rfl, -, -, -, -⟩ := hT.v.1
  obtain ⟨az, cz, rfl, -, -, -, -⟩ := hT.v.2
  replace hq := (hst.block _ (Array.getElem?_eq_some_iff.1 hq).1).trans hq
  replace hD := hD.step hst
  replace ha := ha.step hst
  replace hb := hb.step hst
  replace q12 := (hst.block _ (Array.getElem?_eq_some_iff.1 q12).1).trans q12
  replace hX2 := hX2.step hst
  replace q15 := (hst.block _ (Array.getElem?_eq_some_iff.1 q15).1).trans q15
  replace hY2 := hY2.step hst
  replace hS := hS.step hst
  replace q18 := (hst.block _ (Array.getElem?_eq_some_iff.1 q18).1).trans q18
  replace hB := below_step hB hB.size hst
  clear hst
  have HQ := Lib.hid (And.intro hq (And.intro hD (And.intro ha (And.intro hb (And.intro q12 (And.intro hX2 (And.intro q15 (And.intro hY2 (And.intro hS (And.intro q18 (And.intro hT hB)))))))))))
  clear hq hD ha hb q12 hX2 q15 hY2 hS q18 hT hB
  go_upto_region 12 with (fail)
  obtain ⟨hq, hD, ha, hb, q12, hX2, q15, hY2, hS, q18, hT, hB⟩ := HQ.out
  clear HQ
  have g20_hq := (Array.getElem?_eq_some_iff.1 hq).1
  have g20_q12 := (Array.getElem?_eq_some_iff.1 q12).1
  have g20_q15 := (Array.getElem?_eq_some_iff.1 q15).1
  have g20_q18 := (Array.getElem?_eq_some_iff.1 q18).1
  have g20_hD := hD.hi
  have g20_hX2 := hX2.hi
  have g20_hY2 := hY2.hi
  have g20_hS := hS.hi
  have g20_hT := hT.hi
  have q20 := World.alloc_heap_new w13 (.cells #[.slice ay T.blocks.length cy, .slice az T.waits.length cz] 39)
  have hst := (Below.refl w13.heap.size w13).alloc (Nat.le_refl _) (.cells #[.slice ay T.blocks.length cy, .slice az T.waits.length cz] 39)
  replace hq := (hst.block _ (Array.getElem?_eq_some_iff.1 hq).1).trans hq
  replace hD := hD.step hst
  replace ha := ha.step hst
  replace hb := hb.step hst
  replace q12 := (hst.block _ (Array.getElem?_eq_some_iff.1 q12).1).trans q12
  replace hX2 := hX2.step hst
  replace q15 := (hst.block _ (Array.getElem?_eq_some_iff.1 q15).1).trans q15
  replace hY2 := hY2.step hst
  replace hS := hS.step hst
  replace q18 := (hst.block _ (Array.getElem?_eq_some_iff.1 q18).1).trans q18
  replace hT := hT.step hst
  replace hB := below_step hB hB.size hst
  obtain ⟨w14, hw⟩ : ∃ v, w13.alloc (.cells #[.slice ay T.blocks.length cy, .slice az T.waits.length cz] 39) = v := ⟨_, rfl⟩
  rw [hw] at q20 hq hD ha hb q12 hX2 q15 hY2 hS q18 hT hB ⊢
  generalize hg : w13.heap.size = g20 at *
  clear hw hst hg
  have HQ := Lib.hid (And.intro hq (And.intro hD (And.intro ha (And.intro hb (And.intro q12 (And.intro hX2 (And.intro q15 (And.intro hY2 (And.intro hS (And.intro q18 (And.intro hT (And.intro q20 hB))))))))))))
  clear hq hD ha hb q12 hX2 q15 hY2 hS q18 hT q20 hB
  have c0 := blk_cell HQ.out.1 0
  have c1 := blk_cell HQ.out.1 1
  have m0 := blk_cell HQ.out.2.2.2.2.1 0
  have m1 := blk_cell HQ.out.2.2.2.2.1 1
  have s0 := blk_cell HQ.out.2.2.2.2.2.2.1 0
  have s1 := blk_cell HQ.out.2.2.2.2.2.2.1 1
  have d0 := blk_cell HQ.out.2.2.2.2.2.2.2.2.2.1 0
  have d1 := blk_cell HQ.out.2.2.2.2.2.2.2.2.2.1 1
  have e0 := blk_cell HQ.out.2.2.2.2.2.2.2.2.2.2.2.1 0
  have e1 := blk_cell HQ.out.2.2.2.2.2.2.2.2.2.2.2.1 1
  simp at c0 c1 m0 m1 s0 s1 d0 d1 e0 e1
  go_wp2_with fail
  refine (HX.out.2.2.1 _ _ w14 HQ.out.2.2.2.2.2.2.2.2.1.v0).mono ?_
  rintro e w15 ⟨b7, u7, rfl, hm⟩
  clear c0 c1 m0 m1 s0 s1 d0 d1 e0 e1
  obtain ⟨hq, hD, ha, hb, q12, hX2, q15, hY2, hS, q18, hT, q20, hB⟩ := HQ.out
  clear HQ
  have hst := hm.below
  have hA := DR.of hm
  clear hm
  obtain ⟨av, cv, rfl, -, -, -, -⟩ := hA.v.1
  obtain ⟨aw, cw, rfl, -, -, -, -⟩ := hA.v.2
  replace hq := (hst.block _ (Array.getElem?_eq_some_iff.1 hq).1).trans hq
  replace hD := hD.step hst
  replace ha := ha.step hst
  replace hb := hb.step hst
  replace q12 := (hst.block _ (Array.getElem?_eq_some_iff.1 q12).1).trans q12
  replace hX2 := hX2.step hst
  replace q15 := (hst.block _ (Array.getElem?_eq_some_iff.1 q15).1).trans q15
  replace hY2 := hY2.step hst
  replace hS := hS.step hst
  replace q18 := (hst.block _ (Array.getElem?_eq_some_iff.1 q18).1).trans q18
  replace hT := hT.step hst
  replace q20 := (hst.block _ (Array.getElem?_eq_some_iff.1 q20).1).trans q20
  replace hB := below_step hB hB.size hst
  clear hst
  have HQ := Lib.hid (And.intro hq (And.intro hD (And.intro ha (And.intro hb (And.intro q12 (And.intro hX2 (And.intro q15 (And.intro hY2 (And.intro hS (And.intro q18 (And.intro hT (And.intro q20 (And.intro hA hB)))))))))))))
  clear hq hD ha hb q12 hX2 q15 hY2 hS q18 hT q20 hA hB
  go_upto_region 13 with (fail)
  obtain ⟨hq, hD, ha, hb, q12, hX2, q15, hY2, hS, q18, hT, q20, hA, hB⟩ := HQ.out
  clear HQ
  have g22_hq := (Array.getElem?_eq_some_iff.1 hq).1
  have g22_q12 := (Array.getElem?_eq_some_iff.1 q12).1
  have g22_q15 := (Array.getElem?_eq_some_iff.1 q15).1
  have g22_q18 := (Array.getElem?_eq_some_iff.1 q18).1
  have g22_q20 := (Array.getElem?_eq_some_iff.1 q20).1
  have g22_hD := hD.hi
  have g22_hX2 := hX2.hi
  have g22_hY2 := hY2.hi
  have g22_hS := hS.hi
  have g22_hT := hT.hi
  have g22_hA := hA.hi
  have q22 := World.alloc_heap_new w15 (.cells #[.slice av S.blocks.length cv, .slice aw S.waits.length cw] 39)
  have hst := (Below.refl w15.heap.size w15).alloc (Nat.le_refl _) (.cells #[.slice av S.blocks.length cv, .slice aw S.waits.length cw] 39)
  replace hq := (hst.block _ (Array.getElem?_eq_some_iff.1 hq).1).trans hq
  replace hD := hD.step hst
  replace ha := ha.step hst
  replace hb := hb.step hst
  replace q12 := (hst.block _ (Array.getElem?_eq_some_iff.1 q12).1).trans q12
  replace hX2 := hX2.step hst
  replace q15 := (hst.block _ (Array.getElem?_eq_some_iff.1 q15).1).trans q15
  replace hY2 := hY2.step hst
  replace hS := hS.step hst
  replace q18 := (hst.block _ (Array.getElem?_eq_some_iff.1 q18).1).trans q18
  replace hT := hT.step hst
  replace q20 := (hst.block _ (Array.getElem?_eq_some_iff.1 q20).1).trans q20
  replace hA := hA.step hst
  replace hB := below_step hB hB.size hst
  obtain ⟨w16, hw⟩ : ∃ v, w15.alloc (.cells #[.slice av S.blocks.length cv, .slice aw S.waits.length cw] 39) = v := ⟨_, rfl⟩
  rw [hw] at q22 hq hD ha hb q12 hX2 q15 hY2 hS q18 hT q20 hA hB ⊢
  generalize hg : w15.heap.size = g22 at *
  clear hw hst hg
  have HQ := Lib.hid (And.intro hq (And.intro hD (And.intro ha (And.intro hb (And.intro q12 (And.intro hX2 (And.intro q15 (And.intro hY2 (And.intro hS (And.intro q18 (And.intro hT (And.intro q20 (And.intro hA (And.intro q22 hB))))))))))))))
  clear hq hD ha hb q12 hX2 q15 hY2 hS q18 hT q20 hA q22 hB
  have c0 := blk_cell HQ.out.1 0
  have c1 := blk_cell HQ.out.1 1
  have m0 := blk_cell HQ.out.2.2.2.2.1 0
  have m1 := blk_cell HQ.out.2.2.2.2.1 1
  have s0 := blk_cell HQ.out.2.2.2.2.2.2.1 0
  have s1 := blk_cell HQ.out.2.2.2.2.2.2.1 1
  have d0 := blk_cell HQ.out.2.2.2.2.2.2.2.2.2.1 0
  have d1 := blk_cell HQ.out.2.2.2.2.2.2.2.2.2.1 1
  have e0 := blk_cell HQ.out.2.2.2.2.2.2.2.2.2.2.2.1 0
  have e1 := blk_cell HQ.out.2.2.2.2.2.2.2.2.2.2.2.1 1
  have f0 := blk_cell HQ.out.2.2.2.2.2.2.2.2.2.2.2.2.2.1 0
  have f1 := blk_cell HQ.out.2.2.2.2.2.2.2.2.2.2.2.2.2.1 1
  simp at c0 c1 m0 m1 s0 s1 d0 d1 e0 e1 f0 f1
  have hmb := run_makeN (P := Try.prog) 52 4 (.bool false) #[.bool false] 1 1 Try.underlying52 (by kernel_rfl) rfl X.waits.length X.waits.length X.waits.length rfl (Nat.le_refl _) (by omega) (by omega)
  have hzs := size_madeCells #[.bool false] (X.waits.length * 1)
  rw [Nat.mul_one] at hmb hzs
  generalize madeCells #[.bool false] X.waits.length = Z at *
  have HZS := Lib.hid hzs
  clear hzs
  go_upto_region 14 with (fail)
  clear c0 c1 m0 m1 s0 s1 d0 d1 e0 e1 f0 f1
  obtain ⟨hq, hD, ha, hb, q12, hX2, q15, hY2, hS, q18, hT, q20, hA, q22, hB⟩ := HQ.out
  clear HQ
  clear hmb
  have ga_hq := (Array.getElem?_eq_some_iff.1 hq).1
  have ga_q12 := (Array.getElem?_eq_some_iff.1 q12).1
  have ga_q15 := (Array.getElem?_eq_some_iff.1 q15).1
  have ga_q18 := (Array.getElem?_eq_some_iff.1 q18).1
  have ga_q20 := (Array.getElem?_eq_some_iff.1 q20).1
  have ga_q22 := (Array.getElem?_eq_some_iff.1 q22).1
  have ga_hD := hD.hi
  have ga_hX2 := hX2.hi
  have ga_hY2 := hY2.hi
  have ga_hS := hS.hi
  have ga_hT := hT.hi
  have ga_hA := hA.hi
  have ga_w := hB.size
  have qa := World.alloc_heap_new w16 (.cells Z 4)
  have hst := (Below.refl w16.heap.size w16).alloc (Nat.le_refl _) (.cells Z 4)
  replace hq := (hst.block _ (Array.getElem?_eq_some_iff.1 hq).1).trans hq
  replace hD := hD.step hst
  replace ha := ha.step hst
  replace hb := hb.step hst
  replace q12 := (hst.block _ (Array.getElem?_eq_some_iff.1 q12).1).trans q12
  replace hX2 := hX2.step hst
  replace q15 := (hst.block _ (Array.getElem?_eq_some_iff.1 q15).1).trans q15
  replace hY2 := hY2.step hst
  replace hS := hS.step hst
  replace q18 := (hst.block _ (Array.getElem?_eq_some_iff.1 q18).1).trans q18
  replace hT := hT.step hst
  replace q20 := (hst.block _ (Array.getElem?_eq_some_iff.1 q20).1).trans q20
  replace hA := hA.step hst
  replace q22 := (hst.block _ (Array.getElem?_eq_some_iff.1 q22).1).trans q22
  replace hB := below_step hB hB.size hst
  obtain ⟨wA, hw⟩ : ∃ v, w16.alloc (.cells Z 4) = v := ⟨_, rfl⟩
  rw [hw] at qa hq hD ha hb q12 hX2 q15 hY2 hS q18 hT q20 hA q22 hB ⊢
  generalize hg : w16.heap.size = ga at *
  clear hw hst hg
  have HQ := Lib.hid (And.intro hq (And.intro hD (And.intro ha (And.intro hb (And.intro q12 (And.intro hX2 (And.intro q15 (And.intro hY2 (And.intro hS (And.intro q18 (And.intro hT (And.intro q20 (And.intro hA (And.intro q22 (And.intro qa hB)))))))))))))))
  clear hq hD ha hb q12 hX2 q15 hY2 hS q18 hT q20 hA q22 qa hB
  go_wp2_with fail
  go_loopw [25] (fun i wr => ∃ (j : Nat) (cur : Array Value), j ≤ X.waits.length ∧ i = .int .i64 j ∧ wr.heap[ga]? = some (.cells cur 4 (0, 0)) ∧ cur.size = X.waits.length ∧ (∀ i, i < j → cur[i]? = some (.bool true)) ∧ wr.heap.size = wA.heap.size ∧ Below w.heap.size w wr ∧ ∀ x, x ≠ ga → wr.heap[x]? = wA.heap[x]?) (fun i _ => X.waits.length - (intOf i).toNat)
  case atStart => exact ⟨0, Z, Nat.zero_le _, rfl, HQ.out.2.2.2.2.2.2.2.2.2.2.2.2.2.2.1, HZS.out, fun i hi => absurd hi (Nat.not_lt_zero _), rfl, HQ.out.2.2.2.2.2.2.2.2.2.2.2.2.2.2.2, fun _ _ => rfl⟩
  case round =>
  obtain ⟨j, cur, hj, rfl, hcur, hcs, hct, hsz, hBw, hoth⟩ := hrel
  by_cases hlt : j < X.waits.length
  · obtain ⟨old, hold⟩ : ∃ x, cur[j]? = some x := ⟨_, Array.getElem?_eq_getElem (by omega)⟩
    have cj := (blk_cell hcur j).trans hold
    have fj := blk_frozen hcur j
    have HP := Lib.hid (And.intro hcur (And.intro hcs (And.intro hct (And.intro hsz (And.intro hBw hoth)))))
    clear hcur hcs hct hsz hBw hoth
    go_wp2
    go_roundw
    case rel =>
      obtain ⟨hcur, hcs, hct, hsz, hBw, hoth⟩ := HP.out
      refine ⟨j + 1, _, by omega, by go_num, set_block hcur j (.bool true), by rw [Array.size_setIfInBounds]; exact hcs, fun i hi => ?_, by rw [World.size_setCell]; exact hsz, hBw.setCell (p := ⟨ga, j, none⟩) (by show w.heap.size ≤ ga; omega) _, fun x hx => (set_other _ _ _ _ x hx).trans (hoth x hx)⟩
      rcases Nat.lt_succ_iff_lt_or_eq.1 hi with hi | rfl
      · rw [Array.getElem?_setIfInBounds_ne (by omega)]
        exact hct i hi
      · rw [Array.getElem?_setIfInBounds_self_of_lt (by omega)]
    case measure => simp [intOf]; omega
  obtain rfl : j = X.waits.length := by omega
  obtain ⟨hq, hD, ha, hb, q12, hX2, q15, hY2, hS, q18, hT, q20, hA, q22, qa, hB⟩ := HQ.out
  clear HQ
  clear hB
  replace hq := (hoth _ (by omega)).trans hq
  replace hD : DR wr _ _ _ _ _ := ⟨⟨Sl.keep hD.v.1 (fun b o _ h2 => ⟨heap_cell (hoth b (by omega)) o, heap_frozen (hoth b (by omega)) o⟩), Sl.keep hD.v.2 (fun b o _ h2 => ⟨heap_cell (hoth b (by omega)) o, heap_frozen (hoth b (by omega)) o⟩)⟩, by rw [hsz]; exact hD.hi⟩
  replace ha : BR wr _ _ _ _ := ⟨ha.v.keep (fun b o _ h2 => heap_cell (hoth b (by omega)) o), by rw [hsz]; exact ha.hi⟩
  replace hb : BR wr _ _ _ _ := ⟨hb.v.keep (fun b o _ h2 => heap_cell (hoth b (by omega)) o), by rw [hsz]; exact hb.hi⟩
  replace q12 := (hoth _ (by omega)).trans q12
  replace hX2 : DR wr _ _ _ _ _ := ⟨⟨Sl.keep hX2.v.1 (fun b o _ h2 => ⟨heap_cell (hoth b (by omega)) o, heap_frozen (hoth b (by omega)) o⟩), Sl.keep hX2.v.2 (fun b o _ h2 => ⟨heap_cell (hoth b (by omega)) o, heap_frozen (hoth b (by omega)) o⟩)⟩, by rw [hsz]; exact hX2.hi⟩
  replace q15 := (hoth _ (by omega)).trans q15
  replace hY2 : DR wr _ _ _ _ _ := ⟨⟨Sl.keep hY2.v.1 (fun b o _ h2 => ⟨heap_cell (hoth b (by omega)) o, heap_frozen (hoth b (by omega)) o⟩), Sl.keep hY2.v.2 (fun b o _ h2 => ⟨heap_cell (hoth b (by omega)) o, heap_frozen (hoth b (by omega)) o⟩)⟩, by rw [hsz]; exact hY2.hi⟩
  replace hS : DR wr _ _ _ _ _ := ⟨⟨Sl.keep hS.v.1 (fun b o _ h2 => ⟨heap_cell (hoth b (by omega)) o, heap_frozen (hoth b (by omega)) o⟩), Sl.keep hS.v.2 (fun b o _ h2 => ⟨heap_cell (hoth b (by omega)) o, heap_frozen (hoth b (by omega)) o⟩)⟩, by rw [hsz]; exact hS.hi⟩
  replace q18 := (hoth _ (by omega)).trans q18
  replace hT : DR wr _ _ _ _ _ := ⟨⟨Sl.keep hT.v.1 (fun b o _ h2 => ⟨heap_cell (hoth b (by omega)) o, heap_frozen (hoth b (by omega)) o⟩), Sl.keep hT.v.2 (fun b o _ h2 => ⟨heap_cell (hoth b (by omega)) o, heap_frozen (hoth b (by omega)) o⟩)⟩, by rw [hsz]; exact hT.hi⟩
  replace q20 := (hoth _ (by omega)).trans q20
  replace hA : DR wr _ _ _ _ _ := ⟨⟨Sl.keep hA.v.1 (fun b o _ h2 => ⟨heap_cell (hoth b (by omega)) o, heap_frozen (hoth b (by omega)) o⟩), Sl.keep hA.v.2 (fun b o _ h2 => ⟨heap_cell (hoth b (by omega)) o, heap_frozen (hoth b (by omega)) o⟩)⟩, by rw [hsz]; exact hA.hi⟩
  replace q22 := (hoth _ (by omega)).trans q22
  have hsb : Sl rBool wr 0 wr.heap.size (.slice (some ⟨ga, 0, none⟩) X.waits.length X.waits.length) (List.replicate X.waits.length true) := by
    refine ⟨_, _, by rw [List.length_replicate], by rw [List.length_replicate]; exact Nat.le_refl _, by unfold maxLen; omega, fun _ => ⟨ga, 0, rfl, Nat.zero_le _, (Array.getElem?_eq_some_iff.1 hcur).1, fun i x hx => ?_⟩, fun h => by cases h⟩
    have hi : i < X.waits.length := by simpa using (List.getElem?_eq_some_iff.1 hx).1
    obtain rfl : x = true := List.eq_of_mem_replicate (List.mem_of_getElem? hx)
    show wr.cell? ⟨ga, 0 + i * 1 + 0, none⟩ = _
    rw [blk_cell hcur, Nat.zero_add, Nat.mul_one, Nat.add_zero]
    exact hct i hi
  clear qa hcur hcs hct hsz hoth hj hlt
  have hB := hBw
  clear hBw
  have HQ := Lib.hid (And.intro hq (And.intro hD (And.intro ha (And.intro hb (And.intro q12 (And.intro hX2 (And.intro q15 (And.intro hY2 (And.intro hS (And.intro q18 (And.intro hT (And.intro q20 (And.intro hA (And.intro q22 (And.intro hsb hB)))))))))))))))
  clear hq hD ha hb q12 hX2 q15 hY2 hS q18 hT q20 hA q22 hsb hB
  have c0 := blk_cell HQ.out.1 0
  have c1 := blk_cell HQ.out.1 1
  have m0 := blk_cell HQ.out.2.2.2.2.1 0
  have m1 := blk_cell HQ.out.2.2.2.2.1 1
  have s0 := blk_cell HQ.out.2.2.2.2.2.2.1 0
  have s1 := blk_cell HQ.out.2.2.2.2.2.2.1 1
  have d0 := blk_cell HQ.out.2.2.2.2.2.2.2.2.2.1 0
  have d1 := blk_cell HQ.out.2.2.2.2.2.2.2.2.2.1 1
  have e0 := blk_cell HQ.out.2.2.2.2.2.2.2.2.2.2.2.1 0
  have e1 := blk_cell HQ.out.2.2.2.2.2.2.2.2.2.2.2.1 1
  have f0 := blk_cell HQ.out.2.2.2.2.2.2.2.2.2.2.2.2.2.1 0
  have f1 := blk_cell HQ.out.2.2.2.2.2.2.2.2.2.2.2.2.2.1 1
  simp at c0 c1 m0 m1 s0 s1 d0 d1 e0 e1 f0 f1
  go_wp2_with fail
  refine (HX.out.2.2.2.1 _ _ _ wr HQ.out.2.2.2.2.2.1.v0 HQ.out.2.2.2.2.2.2.2.2.2.2.2.2.2.2.1).mono ?_
  rintro e w18 ⟨b8, u8, rfl, hm⟩
  clear c0 c1 m0 m1 s0 s1 d0 d1 e0 e1 f0 f1
  obtain ⟨hq, hD, ha, hb, q12, hX2, q15, hY2, hS, q18, hT, q20, hA, q22, hsb, hB⟩ := HQ.out
  clear HQ
  have hst := hm.below
  have hK := DR.of hm
  clear hm
  obtain ⟨am, cm, rfl, -, -, -, -⟩ := hK.v.1
  obtain ⟨an, cn, rfl, -, -, -, -⟩ := hK.v.2
  clear hsb
  replace hq := (hst.block _ (Array.getElem?_eq_some_iff.1 hq).1).trans hq
  replace hD := hD.step hst
  replace ha := ha.step hst
  replace hb := hb.step hst
  replace q12 := (hst.block _ (Array.getElem?_eq_some_iff.1 q12).1).trans q12
  replace hX2 := hX2.step hst
  replace q15 := (hst.block _ (Array.getElem?_eq_some_iff.1 q15).1).trans q15
  replace hY2 := hY2.step hst
  replace hS := hS.step hst
  replace q18 := (hst.block _ (Array.getElem?_eq_some_iff.1 q18).1).trans q18
  replace hT := hT.step hst
  replace q20 := (hst.block _ (Array.getElem?_eq_some_iff.1 q20).1).trans q20
  replace hA := hA.step hst
  replace q22 := (hst.block _ (Array.getElem?_eq_some_iff.1 q22).1).trans q22
  replace hB := below_step hB hB.size hst
  clear hst
  have HQ := Lib.hid (And.intro hq (And.intro hD (And.intro ha (And.intro hb (And.intro q12 (And.intro hX2 (And.intro q15 (And.intro hY2 (And.intro hS (And.intro q18 (And.intro hT (And.intro q20 (And.intro hA (And.intro q22 (And.intro hK hB)))))))))))))))
  clear hq hD ha hb q12 hX2 q15 hY2 hS q18 hT q20 hA q22 hK hB
  go_upto_region 19 with (fail)
  obtain ⟨hq, hD, ha, hb, q12, hX2, q15, hY2, hS, q18, hT, q20, hA, q22, hK, hB⟩ := HQ.out
  clear HQ
  have q26 := World.alloc_heap_new w18 (.cells #[.slice am S.blocks.length cm, .slice an S.waits.length cn] 39)
  have hst := (Below.refl w18.heap.size w18).alloc (Nat.le_refl _) (.cells #[.slice am S.blocks.length cm, .slice an S.waits.length cn] 39)
  replace hq := (hst.block _ (Array.getElem?_eq_some_iff.1 hq).1).trans hq
  replace hD := hD.step hst
  replace ha := ha.step hst
  replace hb := hb.step hst
  replace q12 := (hst.block _ (Array.getElem?_eq_some_iff.1 q12).1).trans q12
  replace hX2 := hX2.step hst
  replace q15 := (hst.block _ (Array.getElem?_eq_some_iff.1 q15).1).trans q15
  replace hY2 := hY2.step hst
  replace hS := hS.step hst
  replace q18 := (hst.block _ (Array.getElem?_eq_some_iff.1 q18).1).trans q18
  replace hT := hT.step hst
  replace q20 := (hst.block _ (Array.getElem?_eq_some_iff.1 q20).1).trans q20
  replace hA := hA.step hst
  replace q22 := (hst.block _ (Array.getElem?_eq_some_iff.1 q22).1).trans q22
  replace hK := hK.step hst
  replace hB := below_step hB hB.size hst
  obtain ⟨w19, hw⟩ : ∃ v, w18.alloc (.cells #[.slice am S.blocks.length cm, .slice an S.waits.length cn] 39) = v := ⟨_, rfl⟩
  rw [hw] at q26 hq hD ha hb q12 hX2 q15 hY2 hS q18 hT q20 hA q22 hK hB ⊢
  generalize hg : w18.heap.size = g26 at *
  clear hw hst hg
  have HQ := Lib.hid (And.intro hq (And.intro hD (And.intro ha (And.intro hb (And.intro q12 (And.intro hX2 (And.intro q15 (And.intro hY2 (And.intro hS (And.intro q18 (And.intro hT (And.intro q20 (And.intro hA (And.intro q22 (And.intro hK (And.intro q26 hB))))))))))))))))
  clear hq hD ha hb q12 hX2 q15 hY2 hS q18 hT q20 hA q22 hK q26 hB
  have c0 := blk_cell HQ.out.1 0
  have c1 := blk_cell HQ.out.1 1
  have m0 := blk_cell HQ.out.2.2.2.2.1 0
  have m1 := blk_cell HQ.out.2.2.2.2.1 1
  have s0 := blk_cell HQ.out.2.2.2.2.2.2.1 0
  have s1 := blk_cell HQ.out.2.2.2.2.2.2.1 1
  have d0 := blk_cell HQ.out.2.2.2.2.2.2.2.2.2.1 0
  have d1 := blk_cell HQ.out.2.2.2.2.2.2.2.2.2.1 1
  have e0 := blk_cell HQ.out.2.2.2.2.2.2.2.2.2.2.2.1 0
  have e1 := blk_cell HQ.out.2.2.2.2.2.2.2.2.2.2.2.1 1
  have f0 := blk_cell HQ.out.2.2.2.2.2.2.2.2.2.2.2.2.2.1 0
  have f1 := blk_cell HQ.out.2.2.2.2.2.2.2.2.2.2.2.2.2.1 1
  have k0 := blk_cell HQ.out.2.2.2.2.2.2.2.2.2.2.2.2.2.2.2.1 0
  have k1 := blk_cell HQ.out.2.2.2.2.2.2.2.2.2.2.2.2.2.2.2.1 1
  simp at c0 c1 m0 m1 s0 s1 d0 d1 e0 e1 f0 f1 k0 k1
  go_wp2_with fail
  refine (HX.out.2.2.2.2.1 _ _ _ _ w19 HQ.out.2.2.2.2.2.2.2.2.2.2.2.2.1.v0 HQ.out.2.2.2.2.2.2.2.2.1.v0).mono ?_
  rintro e w20 ⟨rfl, hst⟩
  clear c0 c1 m0 m1 s0 s1 d0 d1 e0 e1 f0 f1 k0 k1
  obtain ⟨hq, hD, ha, hb, q12, hX2, q15, hY2, hS, q18, hT, q20, hA, q22, hK, q26, hB⟩ := HQ.out
  clear HQ
  replace hq := (hst.block _ (Array.getElem?_eq_some_iff.1 hq).1).trans hq
  replace hD := hD.step hst
  replace ha := ha.step hst
  replace hb := hb.step hst
  replace q12 := (hst.block _ (Array.getElem?_eq_some_iff.1 q12).1).trans q12
  replace hX2 := hX2.step hst
  replace q15 := (hst.block _ (Array.getElem?_eq_some_iff.1 q15).1).trans q15
  replace hY2 := hY2.step hst
  replace hS := hS.step hst
  replace q18 := (hst.block _ (Array.getElem?_eq_some_iff.1 q18).1).trans q18
  replace hT := hT.step hst
  replace q20 := (hst.block _ (Array.getElem?_eq_some_iff.1 q20).1).trans q20
  replace hA := hA.step hst
  replace q22 := (hst.block _ (Array.getElem?_eq_some_iff.1 q22).1).trans q22
  replace hK := hK.step hst
  replace q26 := (hst.block _ (Array.getElem?_eq_some_iff.1 q26).1).trans q26
  replace hB := below_step hB hB.size hst
  clear hst
  have HQ := Lib.hid (And.intro hq (And.intro hD (And.intro ha (And.intro hb (And.intro q12 (And.intro hX2 (And.intro q15 (And.intro hY2 (And.intro hS (And.intro q18 (And.intro hT (And.intro q20 (And.intro hA (And.intro q22 (And.intro hK (And.intro q26 hB))))))))))))))))
  clear hq hD ha hb q12 hX2 q15 hY2 hS q18 hT q20 hA q22 hK q26 hB
  have c0 := blk_cell HQ.out.1 0
  have c1 := blk_cell HQ.out.1 1
  have m0 := blk_cell HQ.out.2.2.2.2.1 0
  have m1 := blk_cell HQ.out.2.2.2.2.1 1
  have s0 := blk_cell HQ.out.2.2.2.2.2.2.1 0
  have s1 := blk_cell HQ.out.2.2.2.2.2.2.1 1
  have d0 := blk_cell HQ.out.2.2.2.2.2.2.2.2.2.1 0
  have d1 := blk_cell HQ.out.2.2.2.2.2.2.2.2.2.1 1
  have e0 := blk_cell HQ.out.2.2.2.2.2.2.2.2.2.2.2.1 0
  have e1 := blk_cell HQ.out.2.2.2.2.2.2.2.2.2.2.2.1 1
  have f0 := blk_cell HQ.out.2.2.2.2.2.2.2.2.2.2.2.2.2.1 0
  have f1 := blk_cell HQ.out.2.2.2.2.2.2.2.2.2.2.2.2.2.1 1
  have k0 := blk_cell HQ.out.2.2.2.2.2.2.2.2.2.2.2.2.2.2.2.1 0
  have k1 := blk_cell HQ.out.2.2.2.2.2.2.2.2.2.2.2.2.2.2.2.1 1
  simp at c0 c1 m0 m1 s0 s1 d0 d1 e0 e1 f0 f1 k0 k1
  go_wp2_with fail
  refine (HX.out.2.2.2.2.1 _ _ _ _ w20 HQ.out.2.2.2.2.2.2.2.2.2.2.2.2.2.2.1.v0 HQ.out.2.2.2.2.2.2.2.2.1.v0).mono ?_
  rintro e w21 ⟨rfl, hst⟩
  clear c0 c1 m0 m1 s0 s1 d0 d1 e0 e1 f0 f1 k0 k1
  obtain ⟨hq, hD, ha, hb, q12, hX2, q15, hY2, hS, q18, hT, q20, hA, q22, hK, q26, hB⟩ := HQ.out
  clear HQ
  replace hq := (hst.block _ (Array.getElem?_eq_some_iff.1 hq).1).trans hq
  replace hD := hD.step hst
  replace ha := ha.step hst
  replace hb := hb.step hst
  replace q12 := (hst.block _ (Array.getElem?_eq_some_iff.1 q12).1).trans q12
  replace hX2 := hX2.step hst
  replace q15 := (hst.block _ (Array.getElem?_eq_some_iff.1 q15).1).trans q15
  replace hY2 := hY2.step hst
  replace hS := hS.step hst
  replace q18 := (hst.block _ (Array.getElem?_eq_some_iff.1 q18).1).trans q18
  replace hT := hT.step hst
  replace q20 := (hst.block _ (Array.getElem?_eq_some_iff.1 q20).1).trans q20
  replace hA := hA.step hst
  replace q22 := (hst.block _ (Array.getElem?_eq_some_iff.1 q22).1).trans q22
  replace hK := hK.step hst
  replace q26 := (hst.block _ (Array.getElem?_eq_some_iff.1 q26).1).trans q26
  replace hB := below_step hB hB.size hst
  clear hst
  have HQ := Lib.hid (And.intro hq (And.intro hD (And.intro ha (And.intro hb (And.intro q12 (And.intro hX2 (And.intro q15 (And.intro hY2 (And.intro hS (And.intro q18 (And.intro hT (And.intro q20 (And.intro hA (And.intro q22 (And.intro hK (And.intro q26 hB))))))))))))))))
  clear hq hD ha hb q12 hX2 q15 hY2 hS q18 hT q20 hA q22 hK q26 hB
  have c0 := blk_cell HQ.out.1 0
  have c1 := blk_cell HQ.out.1 1
  have m0 := blk_cell HQ.out.2.2.2.2.1 0
  have m1 := blk_cell HQ.out.2.2.2.2.1 1
  have s0 := blk_cell HQ.out.2.2.2.2.2.2.1 0
  have s1 := blk_cell HQ.out.2.2.2.2.2.2.1 1
  have d0 := blk_cell HQ.out.2.2.2.2.2.2.2.2.2.1 0
  have d1 := blk_cell HQ.out.2.2.2.2.2.2.2.2.2.1 1
  have e0 := blk_cell HQ.out.2.2.2.2.2.2.2.2.2.2.2.1 0
  have e1 := blk_cell HQ.out.2.2.2.2.2.2.2.2.2.2.2.1 1
  have f0 := blk_cell HQ.out.2.2.2.2.2.2.2.2.2.2.2.2.2.1 0
  have f1 := blk_cell HQ.out.2.2.2.2.2.2.2.2.2.2.2.2.2.1 1
  have k0 := blk_cell HQ.out.2.2.2.2.2.2.2.2.2.2.2.2.2.2.2.1 0
  have k1 := blk_cell HQ.out.2.2.2.2.2.2.2.2.2.2.2.2.2.2.2.1 1
  simp at c0 c1 m0 m1 s0 s1 d0 d1 e0 e1 f0 f1 k0 k1
  by_cases hpq : p = q
  case neg =>
    have n1 : (p != q) = true := by simp [hpq]
    have hST := Lib.hid (HN.out.1 hpq)
    have hN1 := Lib.hid hpq
    clear hpq
    go_wp2_with fail
    refine (HX.out.2.2.2.2.2 _ _ _ _ w21 HQ.out.2.2.2.2.2.2.2.2.1.v0 HQ.out.2.2.2.2.2.2.2.2.2.2.1.v0).mono ?_
    rintro e wl ⟨rfl, hst⟩
    have hfin := below_step HQ.out.2.2.2.2.2.2.2.2.2.2.2.2.2.2.2.2 HQ.out.2.2.2.2.2.2.2.2.2.2.2.2.2.2.2.2.size hst
    rw [decide_eq_true hST.out]
    go_wp2
    go_ret
    exact ⟨rfl, hfin⟩
  subst hpq
  have hp0 := HN.out.2.2.2.1
  obtain ⟨pn, rfl⟩ : ∃ pn : Nat, p = pn := ⟨p.toNat, by omega⟩
  have hSb := HN.out.2.1 rfl
  have hTb := HN.out.2.2.1 rfl
  simp only [Int.toNat_natCast] at hSb hTb
  have hpS : pn < S.blocks.length := by have := HN.out.2.2.2.2.1; omega
  have hpT : pn < T.blocks.length := by have := HN.out.2.2.2.2.2; omega
  obtain ⟨bS, oS, kS, eS, -, -, -, zS, hbS⟩ := HQ.out.2.2.2.2.2.2.2.2.1.v0.1.at_ (by omega)
  injection eS with ea _ ec
  subst ea ec
  obtain ⟨bT, oT, kT, eT, -, -, -, zT, hbT⟩ := HQ.out.2.2.2.2.2.2.2.2.2.2.1.v0.1.at_ (by omega)
  injection eT with ea _ ec
  subst ea ec
  obtain ⟨xS, hxS, hyS⟩ := hbS pn (S.blocks.getD pn []) (get_l _ _ _ hpS)
  obtain ⟨xT, hxT, hyT⟩ := hbT pn (T.blocks.getD pn []) (get_l _ _ _ hpT)
  rw [hSb] at hyS
  rw [hTb] at hyT
  have hxS2 : w21.cell? ⟨bS, oS + pn, none⟩ = some xS := by simpa [rBytes] using hxS
  have hxT2 : w21.cell? ⟨bT, oT + pn, none⟩ = some xT := by simpa [rBytes] using hxT
  have v1 := fun nq => cv_of (w := w21.drewN nq) hyS
  have v2 := fun nq => cv_of (w := w21.drewN nq) hyT
  have v3 := fun nq => cv_of (w := w21.drewN nq) HQ.out.2.2.2.1.v0
  have v4 := fun nq => cv_of (w := w21.drewN nq) HQ.out.2.2.1.v0
  have hfin := HQ.out.2.2.2.2.2.2.2.2.2.2.2.2.2.2.2.2
  obtain ⟨aS, lS2, rfl, -, -⟩ := hyS.form rfl
  obtain ⟨aT, lT2, rfl, -, -⟩ := hyT.form rfl
  unfold maxLen at zS zT
  clear hp0 hSb hTb hbS hbT hxS hxT hyS hyT
  have i1 : ((pn : Int) != pn) = false := by simp
  go_wp2_with fail
  go_quiet (fail)
  go_wp2
  go_ret
  exact ⟨rfl, hfin.trans (below_dn _ _ _)⟩
end Go.Proofs.Ytldidclnfkmonaa
