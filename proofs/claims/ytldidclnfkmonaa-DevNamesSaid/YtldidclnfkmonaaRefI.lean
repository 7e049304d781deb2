/- The contracts of the reference of layer 5. -/
import Derived.Test.YtldidclnfkmonaaItm2
import Derived.Test.YtldidclnfkmonaaNumP
namespace Go.Proofs.Ytldidclnfkmonaa
open Go.RowKit

theorem retB {a b : Bool} (h : a = b) : Ending.returned (.bool a) = .returned (.bool b) := by rw [h]

set_option maxRecDepth 100000 in
set_option maxHeartbeats 400000 in
theorem rless_any (a b : KeyL) (w : World) : Calls Try.prog 36 #[keyV a, keyV b] w fun e w' => e = .returned (.bool (lessK a b)) ∧ Below w.heap.size w w' := by
  have hB := ((Below.refl w.heap.size w).alloc (Nat.le_refl _) (.cells #[bV a.kind, wV a.id, wV a.off] 24)).alloc (by simp) (.cells #[bV b.kind, wV b.id, wV b.off] 24)
  obtain ⟨k1, i1, o1⟩ := a
  obtain ⟨k2, i2, o2⟩ := b
  have hx : ∀ (a b : UInt32), a ≠ b → ((a.toNat : Int) == b.toNat) = false := fun a b h => by rw [beq_eq_false_iff_ne]; intro h2; exact h (UInt32.toNat_inj.1 (by omega))
  have hy : ∀ (a b : UInt8), a ≠ b → ((a.toNat : Int) == b.toNat) = false := fun a b h => by rw [beq_eq_false_iff_ne]; intro h2; exact h (UInt8.toNat_inj.1 (by omega))
  simp only [keyV, bV, wV] at *
  by_cases h1 : k1 = k2
  · subst h1
    by_cases h2 : i1 = i2
    · subst h2
      have hfin : lessK ⟨k1, i1, o1⟩ ⟨k1, i1, o2⟩ = decide (o1.toNat < o2.toNat) := by simp [lessK]
      rw [hfin]
      clear hfin
      go_enter Try.func36, Try.ntmps36
      go_wp2
      go_ret
      exact ⟨rfl, hB⟩
    · have hfin : lessK ⟨k1, i1, o1⟩ ⟨k1, i2, o2⟩ = decide (i1.toNat < i2.toNat) := by simp [lessK, h2]
      have hq := hx _ _ h2
      rw [hfin]
      clear hfin
      go_enter Try.func36, Try.ntmps36
      go_wp2
      go_ret
      exact ⟨rfl, hB⟩
  · have hfin : lessK ⟨k1, i1, o1⟩ ⟨k2, i2, o2⟩ = decide (k1.toNat < k2.toNat) := by simp [lessK, h1]
    have hq := hy _ _ h1
    rw [hfin]
    clear hfin
    go_enter Try.func36, Try.ntmps36
    go_wp2
    go_ret
    exact ⟨rfl, hB⟩

set_option maxRecDepth 100000 in
set_option maxHeartbeats 400000 in
theorem rmay_any (x : ItemL) (v : Value) (w : World) (hv : Bytes w 0 w.heap.size v x.val) :
    Calls Try.prog 62 #[itemV x v] w fun e w' => e = .returned (.bool (mayI x)) ∧ Below w.heap.size w w' := by
  obtain ⟨a, c, rfl, g1, g2, _, _⟩ := hv
  obtain ⟨⟨k, i, o⟩, r, l⟩ := x
  simp only [itemV, bV, wV] at *
  have hb := (Below.refl w.heap.size w).alloc (Nat.le_refl _) (.cells #[.int .u8 (k.toNat : Int), .int .u32 (i.toNat : Int), .int .u32 (o.toNat : Int), .int .i64 r, .slice a l.length c] 30)
  have hm : mayI ⟨⟨k, i, o⟩, r, l⟩ = decide ((r = 0 ∨ (8 ≤ r ∧ r ≤ 255)) ∧ (l.length : Int) ≤ 12) := by unfold mayI; congr 1; apply propext; simp only; omega
  rw [hm]
  clear hm
  by_cases h0 : r = 0
  · subst h0
    go_enter Try.func62, Try.ntmps62
    go_wp2
    go_ret
    exact ⟨retB (by rw [Bool.eq_iff_iff]; simp; try omega), hb⟩
  · have h0' : (r == 0) = false := by simp [h0]
    by_cases h8 : 8 ≤ r
    · by_cases h9 : r ≤ 255
      · go_enter Try.func62, Try.ntmps62
        go_wp2
        go_ret
        exact ⟨retB (by rw [Bool.eq_iff_iff]; simp; try omega), hb⟩
      · go_enter Try.func62, Try.ntmps62
        go_wp2
        go_ret
        exact ⟨retB (by rw [Bool.eq_iff_iff]; simp; try omega), hb⟩
    · go_enter Try.func62, Try.ntmps62
      go_wp2
      go_ret
      exact ⟨retB (by rw [Bool.eq_iff_iff]; simp; try omega), hb⟩
end Go.Proofs.Ytldidclnfkmonaa
