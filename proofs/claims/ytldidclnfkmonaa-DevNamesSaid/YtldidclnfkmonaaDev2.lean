/- Disks: dev.asked. -/
import Derived.Test.YtldidclnfkmonaaDev
namespace Go.Proofs.Ytldidclnfkmonaa
open Go.RowKit

def errA (d : DiskL) (p : Int) : Int := if mayD d then (if p < 0 ∨ 256 ≤ p then 2 else 0) else 8

set_option maxRecDepth 100000 in
set_option maxHeartbeats 1000000 in
/-- dev.asked. -/
theorem dasked_any (b u : Value) (d : DiskL) (p : Int) (w : World) (h : DiskV w 0 w.heap.size b u d) :
    Calls Try.prog 56 #[.agg #[b, u], .int .i64 p] w fun e w' => e = .returned (.int .i64 (errA d p)) ∧ Below w.heap.size w w' := by
  have hB := (Below.refl w.heap.size w).alloc (Nat.le_refl _) (.cells #[b, u] 39)
  have hb := h.1.step hB
  have hu := h.2.step hB
  have hq := World.alloc_heap_new w (.cells #[b, u] 39)
  have hck := fun V hh => dcheck_any b u d V hh
  obtain ⟨ab, cb, rfl, g1, g2, -, -⟩ := h.1
  obtain ⟨au, cu, rfl, g1', g2', -, -⟩ := h.2
  unfold maxLen at g2 g2'
  clear h
  obtain ⟨W, hW⟩ : ∃ W, w.alloc (.cells #[.slice ab d.blocks.length cb, .slice au d.waits.length cu] 39) = W := ⟨_, rfl⟩
  rw [hW] at hB hb hu hq
  have hE : (mayD d = true ∧ (if mayD d then (0 : Int) else 8) = 0 ∧ errA d p = (if p < 0 ∨ 256 ≤ p then 2 else 0)) ∨ ((if mayD d then (0 : Int) else 8) = 8 ∧ errA d p = 8) := by
    unfold errA
    cases mayD d
    · exact .inr ⟨rfl, rfl⟩
    · exact .inl ⟨rfl, rfl, rfl⟩
  generalize (if mayD d then (0 : Int) else 8) = er at *
  generalize errA d p = ea at *
  have HE := Lib.hid hE
  have HC := Lib.hid hck
  have HQ := Lib.hid (And.intro hq (And.intro (And.intro hb hu) (And.intro hW hB)))
  clear hq hb hu hW hB hE hck
  go_enter Try.func56, Try.ntmps56
  go_upto_region 1 with (fail)
  rw [HQ.out.2.2.1]
  have c0 := blk_cell HQ.out.1 0
  have c1 := blk_cell HQ.out.1 1
  simp at c0 c1
  go_wp2_with fail
  refine (HC.out W HQ.out.2.1).mono ?_
  rintro e w1 ⟨rfl, hst⟩
  have hfin := below_step HQ.out.2.2.2 HQ.out.2.2.2.size hst
  clear c0 c1
  rcases HE.out with ⟨-, rfl, hx⟩ | ⟨rfl, rfl⟩
  · by_cases h1 : p < 0
    · have hm : ea = 2 := by rw [hx]; simp [h1]
      subst hm
      clear hx HE
      go_wp2
      go_ret
      exact ⟨rfl, hfin⟩
    have d1 : decide (p < 0) = false := by simp; omega
    by_cases h2 : 256 ≤ p
    · have hm : ea = 2 := by rw [hx]; simp [h2]
      subst hm
      clear hx HE
      go_wp2
      go_ret
      exact ⟨rfl, hfin⟩
    · have d2 : decide (256 ≤ p) = false := by simp; omega
      have hm : ea = 0 := by rw [hx]; simp [h1]; omega
      subst hm
      clear hx HE
      go_wp2
      go_ret
      exact ⟨rfl, hfin⟩
  · go_wp2
    go_ret
    exact ⟨rfl, hfin⟩

end Go.Proofs.Ytldidclnfkmonaa
