/- Disks: dev.Barrier. -/
import Derived.Test.YtldidclnfkmonaaDev11
namespace Go.Proofs.Ytldidclnfkmonaa
open Go.RowKit

def errC (d : DiskL) : Int := if mayD d then 0 else 8
/-- A disk behind a barrier. -/
def barD (d : DiskL) : DiskL := if mayD d then ⟨putW d.blocks d.waits, []⟩ else ⟨[], []⟩

set_option maxRecDepth 100000 in
set_option maxHeartbeats 1000000 in
/-- dev.Barrier. -/
theorem dbar_any (b u : Value) (d : DiskL) (w : World) (h : DiskV w 0 w.heap.size b u d) :
    Calls Try.prog 26 #[.agg #[b, u]] w fun e w' => ∃ b' u', e = .returned (.tuple #[.agg #[b', u'], .int .i64 (errC d)]) ∧ MadeD w w' b' u' (barD d) := by
  have hB := ((Below.refl w.heap.size w).alloc (Nat.le_refl _) (.cells #[b, u] 39)).alloc (by simp) (.cells #[.slice none 0 0, .slice none 0 0] 39)
  have hD : DiskV _ 0 _ b u d := h.step hB
  have hq := two_new w (.cells #[b, u] 39) (.cells #[.slice none 0 0, .slice none 0 0] 39)
  have h1 := fun V hh => dcheck_any b u d V hh
  have h2 := fun V (hh : DiskV V 0 V.heap.size b u d) (hm : mayD d = true) => settle_any b u d u d.waits V hh hh.2 hm (by have := (may_len hm).2.1; omega) (may_len hm).2.2.2
  obtain ⟨ab, cb, rfl, g1, g2, -, -⟩ := h.1
  obtain ⟨au, cu, rfl, g1', g2', -, -⟩ := h.2
  unfold maxLen at g2 g2'
  clear h
  obtain ⟨W, hW⟩ : ∃ W, (w.alloc (.cells #[.slice ab d.blocks.length cb, .slice au d.waits.length cu] 39)).alloc (.cells #[.slice none 0 0, .slice none 0 0] 39) = W := ⟨_, rfl⟩
  rw [hW] at hB hD hq
  have c0 := blk_cell hq.1 0
  have c1 := blk_cell hq.1 1
  simp at c0 c1
  have HQ := Lib.hid (And.intro hD (And.intro hB hq))
  obtain ⟨ec, hec⟩ : ∃ ec, errC d = ec := ⟨_, rfl⟩
  obtain ⟨bd, hbd⟩ : ∃ bd, barD d = bd := ⟨_, rfl⟩
  rw [hec, hbd]
  have HE := Lib.hid (And.intro hec hbd)
  have HC := Lib.hid (And.intro h1 h2)
  clear hB hD hq h1 h2 hec hbd
  go_enter Try.func26, Try.ntmps26
  go_wp2_with fail
  refine (HC.out.1 W HQ.out.1).mono ?_
  rintro e w1 ⟨rfl, hst⟩
  obtain ⟨hD, hB, q0, q1⟩ := HQ.out
  replace q0 := (hst.block _ (Array.getElem?_eq_some_iff.1 q0).1).trans q0
  replace q1 := (hst.block _ (Array.getElem?_eq_some_iff.1 q1).1).trans q1
  replace hD := hD.step hst
  replace hB := below_step hB hB.size hst
  clear c0 c1
  have c0 := blk_cell q0 0
  have c1 := blk_cell q0 1
  have r0 := blk_cell q1 0
  have r1 := blk_cell q1 1
  have f0 := blk_frozen q1 0
  have f1 := blk_frozen q1 1
  simp at c0 c1 r0 r1
  have HQ1 := Lib.hid (And.intro hD (And.intro hB (And.intro q0 q1)))
  clear hD hB q0 q1 hst HQ
  cases hmay : mayD d
  case false =>
    have hw : ec = 8 ∧ bd = ⟨[], []⟩ := by
      obtain ⟨h1, h2⟩ := HE.out
      rw [← h1, ← h2]
      unfold errC barD
      rw [hmay]
      exact ⟨rfl, rfl⟩
    obtain ⟨rfl, rfl⟩ := hw
    clear hmay
    go_wp2
    refine bodyPost_ret (v := .tuple #[.agg #[.slice none 0 0, .slice none 0 0], .int .i64 8]) (by simp [results, Try.results26, go_sem, r0, r1]) rfl ⟨_, _, rfl, MadeD.nil_ ((HQ1.out.2.1.setCell (p := ⟨w.heap.size + 1, 0, none⟩) (Nat.le_succ _) _).setCell (p := ⟨w.heap.size + 1, 1, none⟩) (Nat.le_succ _) _)⟩
  have hw : ec = 0 ∧ bd = ⟨putW d.blocks d.waits, []⟩ := by
    obtain ⟨h1, h2⟩ := HE.out
    rw [← h1, ← h2]
    unfold errC barD
    rw [hmay]
    exact ⟨rfl, rfl⟩
  obtain ⟨rfl, rfl⟩ := hw
  have HM := Lib.hid hmay
  clear hmay
  go_wp2_with fail
  refine (HC.out.2 w1 HQ1.out.1 HM.out).mono ?_
  rintro e z ⟨b', u', rfl, hm⟩
  have hst := hm.below
  obtain ⟨ab', cb', rfl, -, -, -, -⟩ := hm.disk.1
  obtain ⟨au', cu', rfl, -, -, -, -⟩ := hm.disk.2
  have p1 := (hst.block _ (Array.getElem?_eq_some_iff.1 HQ1.out.2.2.2).1).trans HQ1.out.2.2.2
  have r0' := blk_cell p1 0
  have r1' := blk_cell p1 1
  have f0' := blk_frozen p1 0
  have f1' := blk_frozen p1 1
  simp at r0' r1'
  have HT := Lib.hid hm
  clear r0 r1 c0 c1 f0 f1 hst p1 hm
  generalize (DiskL.mk (putW d.blocks d.waits) []).blocks.length = n1 at *
  generalize (DiskL.mk (putW d.blocks d.waits) []).waits.length = n2 at *
  go_wp2
  refine bodyPost_ret (v := .tuple #[.agg #[.slice ab' n1 cb', .slice au' n2 cu'], .int .i64 0]) (by simp [results, Try.results26, go_sem, r0', r1']) rfl ?_
  have hB := HQ1.out.2.1
  have hlt := (Array.getElem?_eq_some_iff.1 HQ1.out.2.2.2).1
  have hBf := ((below_step hB hB.size HT.out.below).setCell (p := ⟨w.heap.size + 1, 0, none⟩) (Nat.le_succ _) (.slice ab' n1 cb')).setCell (p := ⟨w.heap.size + 1, 1, none⟩) (Nat.le_succ _) (.slice au' n2 cu')
  exact ⟨_, _, rfl, (HT.out.disk.keep (kp_two z _ _ _ hlt)).more hB.size (by rw [World.size_setCell, World.size_setCell]; exact Nat.le_refl _), hBf⟩
end Go.Proofs.Ytldidclnfkmonaa
