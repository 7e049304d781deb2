/- The contracts of cmp.Compare, cmp.Or, item.Less. -/
import Derived.Test.YtldidclnfkmonaaCode
import Derived.Test.YtldidclnfkmonaaDat
import Derived.Test.YtldidclnfkmonaaInv
import Derived.StillTailTactics
namespace Go.Proofs.Ytldidclnfkmonaa
open Go.RowKit

def cmpI (x y : Int) : Int := if x < y then -1 else if y < x then 1 else 0
def orI (a b c : Int) : Int := if a = 0 then (if b = 0 then c else b) else a

theorem isNaN8 (x : Int) (w : World) : Calls Try.prog 75 #[.int .u8 x] w fun e w' => e = .returned (.bool false) ∧ w' = w := by
  go_enter Try.func75, Try.ntmps75
  go_wp2
  go_ret
  exact ⟨rfl, rfl⟩
theorem isNaN32 (x : Int) (w : World) : Calls Try.prog 76 #[.int .u32 x] w fun e w' => e = .returned (.bool false) ∧ w' = w := by
  go_enter Try.func76, Try.ntmps76
  go_wp2
  go_ret
  exact ⟨rfl, rfl⟩
theorem compare8 (x y : Int) (w : World) : Calls Try.prog 50 #[.int .u8 x, .int .u8 y] w fun e w' => e = .returned (.int .i64 (cmpI x y)) ∧ w' = w := by
  unfold cmpI
  by_cases h1 : x < y
  · rw [if_pos h1]
    go_enter Try.func50, Try.ntmps50
    go_wp2_with (go_at_call 75; refine (isNaN8 _ _).mono ?_; rintro e w' ⟨rfl, rfl⟩)
    go_ret
    exact ⟨rfl, rfl⟩
  · rw [if_neg h1]
    by_cases h2 : y < x
    · rw [if_pos h2]
      go_enter Try.func50, Try.ntmps50
      go_wp2_with (go_at_call 75; refine (isNaN8 _ _).mono ?_; rintro e w' ⟨rfl, rfl⟩)
      go_ret
      exact ⟨rfl, rfl⟩
    · rw [if_neg h2]
      go_enter Try.func50, Try.ntmps50
      go_wp2_with (go_at_call 75; refine (isNaN8 _ _).mono ?_; rintro e w' ⟨rfl, rfl⟩)
      go_ret
      exact ⟨rfl, rfl⟩
theorem compare32 (x y : Int) (w : World) : Calls Try.prog 51 #[.int .u32 x, .int .u32 y] w fun e w' => e = .returned (.int .i64 (cmpI x y)) ∧ w' = w := by
  unfold cmpI
  by_cases h1 : x < y
  · rw [if_pos h1]
    go_enter Try.func51, Try.ntmps51
    go_wp2_with (go_at_call 76; refine (isNaN32 _ _).mono ?_; rintro e w' ⟨rfl, rfl⟩)
    go_ret
    exact ⟨rfl, rfl⟩
  · rw [if_neg h1]
    by_cases h2 : y < x
    · rw [if_pos h2]
      go_enter Try.func51, Try.ntmps51
      go_wp2_with (go_at_call 76; refine (isNaN32 _ _).mono ?_; rintro e w' ⟨rfl, rfl⟩)
      go_ret
      exact ⟨rfl, rfl⟩
    · rw [if_neg h2]
      go_enter Try.func51, Try.ntmps51
      go_wp2_with (go_at_call 76; refine (isNaN32 _ _).mono ?_; rintro e w' ⟨rfl, rfl⟩)
      go_ret
      exact ⟨rfl, rfl⟩

set_option maxHeartbeats 400000 in
theorem or3 (b off : Nat) (a0 a1 a2 : Int) (w : World) (h0 : w.cell? ⟨b, off, none⟩ = some (.int .i64 a0)) (h1 : w.cell? ⟨b, off + 1, none⟩ = some (.int .i64 a1)) (h2 : w.cell? ⟨b, off + 2, none⟩ = some (.int .i64 a2)) :
    Calls Try.prog 49 #[.slice (some ⟨b, off, none⟩) 3 3] w fun e w' => e = .returned (.int .i64 (orI a0 a1 a2)) ∧ w' = w := by
  have H := Lib.hid (And.intro h0 (And.intro h1 h2))
  clear h0 h1 h2
  go_enter Try.func49, Try.ntmps49
  go_wp2
  go_loop [8] (fun i => ∃ k : Nat, k ≤ 3 ∧ i = .int .i64 k ∧ (0 < k → a0 = 0) ∧ (1 < k → a1 = 0) ∧ (2 < k → a2 = 0)) (fun i => 3 - (intOf i).toNat)
  case atStart => exact ⟨0, by omega, rfl, by omega, by omega, by omega⟩
  case round =>
    obtain ⟨k, hk, rfl, e0, e1, e2⟩ := hrel
    have hor : orI a0 a1 a2 = if k = 0 then orI a0 a1 a2 else if k = 1 then orI 0 a1 a2 else if k = 2 then orI 0 0 a2 else 0 := by
      unfold orI
      repeat' split
      all_goals omega
    have HO := Lib.hid hor
    by_cases hlt : k < 3
    · obtain ⟨x, hx, hx2, hx3⟩ : ∃ x, w.cell? ⟨b, off + k, none⟩ = some (.int .i64 x) ∧ (x = 0 → (0 < k + 1 → a0 = 0) ∧ (1 < k + 1 → a1 = 0) ∧ (2 < k + 1 → a2 = 0)) ∧ (x ≠ 0 → orI a0 a1 a2 = x) := by
        obtain ⟨h0, h1, h2⟩ := H.out
        unfold orI
        rcases (by omega : k = 0 ∨ k = 1 ∨ k = 2) with rfl | rfl | rfl
        · exact ⟨a0, h0, fun h => ⟨fun _ => h, by omega, by omega⟩, fun h => by rw [if_neg h]⟩
        · exact ⟨a1, h1, fun h => ⟨fun _ => e0 (by omega), fun _ => h, by omega⟩, fun h => by rw [if_pos (e0 (by omega)), if_neg h]⟩
        · exact ⟨a2, h2, fun h => ⟨fun _ => e0 (by omega), fun _ => e1 (by omega), fun _ => h⟩, fun h => by rw [if_pos (e0 (by omega)), if_pos (e1 (by omega))]⟩
      have HX := Lib.hid (And.intro hx2 hx3)
      clear hor HO hx2 hx3 e0 e1 e2
      by_cases hz : x = 0
      · have hz2 := HX.out.1 hz
        have HZ := Lib.hid hz2
        subst hz
        clear hz2
        go_wp2
        go_round
        case rel => exact ⟨k + 1, by omega, by go_num, HZ.out.1, HZ.out.2.1, HZ.out.2.2⟩
        case measure => simp [intOf]; omega
      · go_wp2
        go_ret
        exact ⟨by rw [HX.out.2 hz]; rfl, rfl⟩
    · obtain rfl : k = 3 := by omega
      clear hor e0 e1 e2
      go_wp2
      go_ret
      exact ⟨by rw [HO.out]; rfl, rfl⟩

def keyV (k : KeyL) : Value := .agg #[bV k.kind, wV k.id, wV k.off]
/-- Does a key stand ahead of another one? -/
def lessK (a b : KeyL) : Bool :=
  if a.kind = b.kind then (if a.id = b.id then decide (a.off.toNat < b.off.toNat) else decide (a.id.toNat < b.id.toNat)) else decide (a.kind.toNat < b.kind.toNat)
theorem cmp_eq0 (x y : Nat) : cmpI x y = 0 ↔ x = y := by unfold cmpI; split <;> (try split) <;> omega
theorem cmp_lt0 (x y : Nat) : cmpI x y < 0 ↔ x < y := by unfold cmpI; split <;> (try split) <;> omega
theorem less_or (a b : KeyL) : decide (orI (cmpI a.kind.toNat b.kind.toNat) (cmpI a.id.toNat b.id.toNat) (cmpI a.off.toNat b.off.toNat) < 0) = lessK a b := by
  unfold orI lessK
  simp only [cmp_eq0, ← UInt8.toNat_inj, ← UInt32.toNat_inj]
  split
  · split
    · simp only [cmp_lt0]
    · simp only [cmp_lt0]
  · simp only [cmp_lt0]
theorem cmp_rng (x y : Int) : -1 ≤ cmpI x y ∧ cmpI x y ≤ 1 := by unfold cmpI; split <;> (try split) <;> omega

set_option maxHeartbeats 1000000 in
set_option maxRecDepth 100000 in
theorem less_any (a b : KeyL) (w : World) : Calls Try.prog 16 #[keyV a, keyV b] w fun e w' => e = .returned (.bool (lessK a b)) ∧ Below w.heap.size w w' := by
  have hb := less_or a b
  have Hb := Lib.hid hb
  obtain ⟨k1, i1, o1⟩ := a
  obtain ⟨k2, i2, o2⟩ := b
  simp only [keyV, bV, wV] at *
  clear hb
  go_enter Try.func16, Try.ntmps16
  go_wp2_with fail
  refine wp_region_tail 15 (by kernel_rfl) (by kernel_rfl) ?_
  simp only [List.take_succ_cons, List.take_zero, List.drop_succ_cons, List.drop_zero]
  repeat still_step
  still_call (compare8 _ _ _)
  repeat still_step
  still_call (compare32 _ _ _)
  repeat still_step
  still_call (compare32 _ _ _)
  refine wpStill_nil ?_
  have hW : Below w.heap.size w ((w.alloc (.cells #[.int .u8 (k1.toNat : Int), .int .u32 (i1.toNat : Int), .int .u32 (o1.toNat : Int)] 24)).alloc (.cells #[.int .u8 (k2.toNat : Int), .int .u32 (i2.toNat : Int), .int .u32 (o2.toNat : Int)] 24)).drew :=
    (((Below.refl _ _).alloc (Nat.le_refl _) _).alloc (by simp) _).drew
  generalize ((w.alloc (.cells #[.int .u8 (k1.toNat : Int), .int .u32 (i1.toNat : Int), .int .u32 (o1.toNat : Int)] 24)).alloc (.cells #[.int .u8 (k2.toNat : Int), .int .u32 (i2.toNat : Int), .int .u32 (o2.toNat : Int)] 24)).drew = W at *
  generalize cmpI (k1.toNat : Int) k2.toNat = c0 at *
  generalize cmpI (i1.toNat : Int) i2.toNat = c1 at *
  generalize cmpI (o1.toNat : Int) o2.toNat = c2 at *
  go_wp2_with fail
  refine (or3 W.heap.size 0 c0 c1 c2 _ (by rw [World.cell?_alloc_new]; rfl) (by rw [World.cell?_alloc_new]; rfl) (by rw [World.cell?_alloc_new]; rfl)).mono ?_
  rintro e w' ⟨rfl, rfl⟩
  go_wp2
  go_ret
  exact ⟨by rw [← Hb.out]; rfl, hW.alloc hW.size _⟩
end Go.Proofs.Ytldidclnfkmonaa
