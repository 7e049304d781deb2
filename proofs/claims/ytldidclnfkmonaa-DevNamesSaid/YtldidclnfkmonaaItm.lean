/- The contracts of bytes.Clone, bytes.Equal, and of package item, but Write and Read. -/
import Derived.Test.YtldidclnfkmonaaLess
import Derived.Test.YtldidclnfkmonaaRefN
import Derived.Test.YtldidclnfkmonaaOpn
import Derived.Test.YtldidclnfkmonaaChecked
import Derived.Lib.SliceRun
namespace Go.Proofs.Ytldidclnfkmonaa
open Go.RowKit

theorem OwnB.empty (w : World) (base : Nat) (e : TypeId) (h : base ≤ w.heap.size) : OwnB base e (w.alloc (.cells #[] e)) (.slice (some ⟨w.heap.size, 0, none⟩) 0 0) [] :=
  ⟨rfl, .inr ⟨w.heap.size, 0, #[], rfl, h, World.alloc_heap_new w _, Nat.le_refl _, Nat.zero_le _, rfl, rfl⟩⟩
set_option maxRecDepth 100000 in
/-- bytes.Clone. -/
theorem bclone_any (v : Value) (l : List UInt8) (w : World) (hI : Bytes w 0 w.heap.size v l) (hl : l.length ≤ 1000000000) :
    Calls Try.prog 57 #[v] w fun e w' => ∃ u, e = .returned u ∧ MadeB w w' u l := by
  obtain ⟨a, c, rfl, g1, g2, g3, g4⟩ := id hI
  clear g3
  have hnil := fun (w : World) (a : Option Addr) (n c n' c' : Nat) => Lib.run_eql_slice_nil (P := Try.prog) w 28 5 a n c n' c' Try.underlying28
  rcases a with _ | a
  · have hc := g4 rfl
    subst hc
    have : l = [] := List.eq_nil_of_length_eq_zero (by omega)
    subst this
    go_enter Try.func57, Try.ntmps57
    go_wp2
    go_ret
    exact ⟨_, rfl, MadeB.nil_ (Below.refl _ _)⟩
  · have hI1 := hI.step ((Below.refl w.heap.size w).alloc (Nat.le_refl _) (.cells #[] 5))
    have hown := OwnB.empty w w.heap.size 5 (Nat.le_refl _)
    go_enter Try.func57, Try.ntmps57
    go_wp2_with (at_builtin; refine wpList_appB rfl _ _ 28 rfl w.heap.size 5 Try.underlying28 info_u8 _ [] rfl hown _ _ _ l rfl hI1 (by simp; omega) (by simp) ?_; intro v1 w1 hown1 hB1)
    go_ret
    exact ⟨_, rfl, hown1.made (((Below.refl w.heap.size w).alloc (Nat.le_refl _) _).trans hB1)⟩
theorem cv_of {w : World} {lo hi : Nat} {v : Value} {l : List UInt8} (h : Bytes w lo hi v l) : (convert 28 9 v).run Try.prog w = .ok (.string ⟨l.toArray⟩) w :=
  conv_bytes (P := Try.prog) h 28 9 5 Try.underlying28 Try.underlying5 Try.underlying9
/-- bytes.Equal. -/
theorem bequal_any (v u : Value) (l m : List UInt8) (w : World) (lo hi lo' hi' : Nat) (hv : Bytes w lo hi v l) (hu : Bytes w lo' hi' u m) :
    Calls Try.prog 55 #[v, u] w fun e w' => e = .returned (.bool (decide (l = m))) ∧ w' = w := by
  have c1 := cv_of hv
  have c2 := cv_of hu
  have hq : (l == m) = decide (l = m) := by rw [Bool.eq_iff_iff]; simp
  have Hq := Lib.hid hq
  clear hq
  obtain ⟨a, c, rfl, _⟩ := hv
  obtain ⟨a', c', rfl, _⟩ := hu
  go_enter Try.func55, Try.ntmps55
  go_wp2
  go_ret
  exact ⟨by rw [← Hq.out]; rfl, rfl⟩

theorem eq_key (a b : KeyL) (w : World) : (Op.equalIn 10000 24 (keyV a) (keyV b)).run Try.prog w = .ok (decide (a = b)) w := by
  have u3 := Try.underlying5
  have a3 := Try.isAgg5
  have z3 := Try.sizeOf5
  have u4 := Try.underlying22
  have a4 := Try.isAgg22
  have z4 := Try.sizeOf22
  have hS : Try.prog.underlying 24 = some (.struct (Try.prog.fieldsOf 24)) := by kernel_rfl
  have hp : Try.prog.stoodInHeld 24 = false := by kernel_rfl
  obtain ⟨k1, i1, o1⟩ := a
  obtain ⟨k2, i2, o2⟩ := b
  simp only [keyV, bV, wV]
  rw [show (10000 : Nat) = 9999 + 1 from rfl, run_equalIn_agg w 9999 24 _ _ hS hp]
  simp only [Program.fieldsOf, Try.underlying24]
  go_simp
  have hx : ∀ (a b : UInt32), ((a.toNat : Int) = b.toNat) = (a = b) := fun a b => propext ⟨fun h => UInt32.toNat_inj.1 (by omega), fun h => by rw [h]⟩
  have hy : ∀ (a b : UInt8), ((a.toNat : Int) = b.toNat) = (a = b) := fun a b => propext ⟨fun h => UInt8.toNat_inj.1 (by omega), fun h => by rw [h]⟩
  simp only [hx, hy]
  by_cases h1 : k1 = k2 <;> by_cases h2 : i1 = i2 <;> by_cases h3 : o1 = o2 <;> simp [h1, h2, h3]

def itemV (x : ItemL) (v : Value) : Value := .agg #[bV x.key.kind, wV x.key.id, wV x.key.off, .int .i64 x.ref, v]
def mayI (x : ItemL) : Bool := decide ((x.ref = 0 ∨ (8 ≤ x.ref ∧ x.ref < 256)) ∧ x.val.length ≤ 12)
def mayE (b : Bool) : Int := if b then 0 else 8

set_option maxRecDepth 100000 in
set_option maxHeartbeats 400000 in
theorem icheck_any (x : ItemL) (v : Value) (w : World) (hv : Bytes w 0 w.heap.size v x.val) :
    Calls Try.prog 18 #[itemV x v] w fun e w' => e = .returned (.int .i64 (mayE (mayI x))) ∧ Below w.heap.size w w' := by
  obtain ⟨a, c, rfl, g1, g2, _, _⟩ := hv
  obtain ⟨⟨k, i, o⟩, r, l⟩ := x
  simp only [itemV, bV, wV] at *
  have hb := (Below.refl w.heap.size w).alloc (Nat.le_refl _) (.cells #[.int .u8 (k.toNat : Int), .int .u32 (i.toNat : Int), .int .u32 (o.toNat : Int), .int .i64 r, .slice a l.length c] 30)
  by_cases h0 : r = 0
  · subst h0
    by_cases hl : 12 < l.length
    · have hm : mayE (mayI ⟨⟨k, i, o⟩, 0, l⟩) = 8 := by unfold mayE mayI; rw [if_neg]; simp; omega
      rw [hm]
      go_enter Try.func18, Try.ntmps18
      go_wp2
      go_ret
      exact ⟨rfl, hb⟩
    · have hm : mayE (mayI ⟨⟨k, i, o⟩, 0, l⟩) = 0 := by unfold mayE mayI; rw [if_pos]; simp; omega
      rw [hm]
      go_enter Try.func18, Try.ntmps18
      go_wp2
      go_ret
      exact ⟨rfl, hb⟩
  · by_cases h8 : r < 8
    · have hm : mayE (mayI ⟨⟨k, i, o⟩, r, l⟩) = 8 := by unfold mayE mayI; rw [if_neg]; simp; omega
      rw [hm]
      go_enter Try.func18, Try.ntmps18
      go_wp2
      go_ret
      exact ⟨rfl, hb⟩
    · by_cases h9 : 256 ≤ r
      · have hm : mayE (mayI ⟨⟨k, i, o⟩, r, l⟩) = 8 := by unfold mayE mayI; rw [if_neg]; simp; omega
        rw [hm]
        go_enter Try.func18, Try.ntmps18
        go_wp2
        go_ret
        exact ⟨rfl, hb⟩
      · by_cases hl : 12 < l.length
        · have hm : mayE (mayI ⟨⟨k, i, o⟩, r, l⟩) = 8 := by unfold mayE mayI; rw [if_neg]; simp; omega
          rw [hm]
          go_enter Try.func18, Try.ntmps18
          go_wp2
          go_ret
          exact ⟨rfl, hb⟩
        · have hm : mayE (mayI ⟨⟨k, i, o⟩, r, l⟩) = 0 := by unfold mayE mayI; rw [if_pos]; simp; omega
          rw [hm]
          go_enter Try.func18, Try.ntmps18
          go_wp2
          go_ret
          exact ⟨rfl, hb⟩

set_option maxRecDepth 100000 in
set_option maxHeartbeats 400000 in
theorem isame_any (x y : ItemL) (v u : Value) (w : World) (hv : Bytes w 0 w.heap.size v x.val) (hu : Bytes w 0 w.heap.size u y.val) :
    Calls Try.prog 19 #[itemV x v, itemV y u] w fun e w' => e = .returned (.bool (decide (x = y))) ∧ Below w.heap.size w w' := by
  have hb1 := (Below.refl w.heap.size w).alloc (Nat.le_refl _) (.cells #[bV x.key.kind, wV x.key.id, wV x.key.off, .int .i64 x.ref, v] 30)
  have hb2 := hb1.alloc (by simp) (.cells #[bV y.key.kind, wV y.key.id, wV y.key.off, .int .i64 y.ref, u] 30)
  have hv2 := hv.step hb2
  have hu2 := hu.step hb2
  have hq := bequal_any _ _ _ _ _ _ _ _ _ hv2 hu2
  have hk := fun w => eq_key x.key y.key w
  have hg : Try.prog.eqGuardType Try.prog.depth 24 = false := by kernel_rfl
  obtain ⟨a, c, rfl, g1, g2, _, _⟩ := hv
  obtain ⟨a', c', rfl, g1', g2', _, _⟩ := hu
  obtain ⟨kx, r, l⟩ := x
  obtain ⟨ky, s, m⟩ := y
  simp only at *
  clear hv2 hu2
  by_cases h1 : kx = ky
  · subst h1
    rw [decide_eq_true rfl] at hk
    by_cases h2 : r = s
    · subst h2
      have hfin : decide ((⟨kx, r, l⟩ : ItemL) = ⟨kx, r, m⟩) = decide (l = m) := by simp
      rw [hfin]
      have Hq := Lib.hid hq
      clear hq hfin
      obtain ⟨k, i, o⟩ := kx
      simp only [itemV, keyV, bV, wV] at *
      go_enter Try.func19, Try.ntmps19
      go_wp2_with fail
      refine Hq.out.mono ?_
      rintro e w1 ⟨rfl, rfl⟩
      go_wp2
      go_ret
      exact ⟨rfl, hb2⟩
    · have hfin : decide ((⟨kx, r, l⟩ : ItemL) = ⟨kx, s, m⟩) = false := by simp [h2]
      have h2' : (r == s) = false := by simp [h2]
      rw [hfin]
      clear hq hfin
      obtain ⟨k, i, o⟩ := kx
      simp only [itemV, keyV, bV, wV] at *
      go_enter Try.func19, Try.ntmps19
      go_wp2
      go_ret
      exact ⟨rfl, hb2⟩
  · have hfin : decide ((⟨kx, r, l⟩ : ItemL) = ⟨ky, s, m⟩) = false := by simp [h1]
    rw [decide_eq_false h1] at hk
    rw [hfin]
    clear hq hfin h1
    obtain ⟨k, i, o⟩ := kx
    obtain ⟨k', i', o'⟩ := ky
    simp only [itemV, keyV, bV, wV] at *
    go_enter Try.func19, Try.ntmps19
    go_wp2
    go_ret
    exact ⟨rfl, hb2⟩
end Go.Proofs.Ytldidclnfkmonaa
