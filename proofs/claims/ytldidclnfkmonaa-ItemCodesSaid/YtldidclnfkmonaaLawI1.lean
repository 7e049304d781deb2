/- The walks of the statements of layer 5: alive; ItemOrder. -/
import Derived.Test.YtldidclnfkmonaaItm3
import Derived.Test.YtldidclnfkmonaaItm4
namespace Go.Proofs.Ytldidclnfkmonaa
open Go.RowKit

set_option maxRecDepth 100000 in
theorem key_any (k : UInt8) (i o : UInt32) (w : World) : Calls Try.prog 31 #[.int .u8 (k.toNat : Int), .int .u32 (i.toNat : Int), .int .u32 (o.toNat : Int)] w fun e w' => e = .returned (.agg #[.int .u8 (k.toNat : Int), .int .u32 (i.toNat : Int), .int .u32 (o.toNat : Int)]) ∧ Below w.heap.size w w' := by
  go_enter Try.func31, Try.ntmps31
  go_wp2_with fail
  exact bodyPost_ret (v := .agg #[.int .u8 (k.toNat : Int), .int .u32 (i.toNat : Int), .int .u32 (o.toNat : Int)]) (by simp [results, Try.results31, go_sem]) rfl ⟨rfl, (Below.refl _ _).alloc (Nat.le_refl _) _⟩

set_option maxRecDepth 100000 in
set_option maxHeartbeats 1000000 in
theorem alive5 (w : World) : Calls Try.prog 15 #[] w fun e w' => e = .returned (.bool true) ∧ Below w.heap.size w w' := by
  have k1 := key_any 1 2 3 w
  have hw := fun (W : World) t => iwrite_any ⟨⟨1, 2, 3⟩, 9, [7]⟩ _ (W.alloc (.cells #[.int .u8 7] t)) ((one_new W t 7 7 rfl).more (Nat.zero_le _) (by simp))
  have e1 : mayE (mayI ⟨⟨1, 2, 3⟩, 9, [7]⟩) = 0 := by decide
  have e2 : wrI ⟨⟨1, 2, 3⟩, 9, [7]⟩ = [1, 2, 0, 0, 0, 3, 0, 0, 0, 9, 0, 1, 7] := by decide +kernel
  rw [e1, e2] at hw
  have Hw := Lib.hid hw
  have k2 := fun W => key_any 1 5 0 W
  have k3 := fun W => key_any 1 5 1 W
  have hl := fun W => less_any ⟨1, 5, 0⟩ ⟨1, 5, 1⟩ W
  have e3 : lessK ⟨1, 5, 0⟩ ⟨1, 5, 1⟩ = true := by decide
  rw [e3] at hl
  have HK := Lib.hid (And.intro k1 (And.intro k2 (And.intro k3 hl)))
  clear hw e1 e2 e3 k1 k2 k3 hl
  go_enter Try.func15, Try.ntmps15
  go_wp2_with fail
  refine HK.out.1.mono ?_
  rintro e w1 ⟨rfl, hb1⟩
  go_wp2_with fail
  refine (Hw.out w1 _).mono ?_
  rintro e w2 ⟨u, rfl, hm⟩
  have hb2 := below_step hb1 hb1.size (below_step ((Below.refl w1.heap.size w1).alloc (Nat.le_refl _) (.cells #[.int .u8 7] 5)) (by simp) hm.below)
  have c1 := cv_of hm.bytes
  go_wp2_with fail
  refine (HK.out.2.1 w2).mono ?_
  rintro e w3 ⟨rfl, hb3⟩
  have hB3 := below_step hb2 hb2.size hb3
  go_wp2_with fail
  refine (HK.out.2.2.1 w3).mono ?_
  rintro e w4 ⟨rfl, hb4⟩
  have hB4 := below_step hB3 hB3.size hb4
  go_wp2_with fail
  refine (HK.out.2.2.2 w4).mono ?_
  rintro e w5 ⟨rfl, hb5⟩
  have hB5 := below_step hB4 hB4.size hb5
  go_wp2
  go_ret
  exact ⟨rfl, hB5⟩
end Go.Proofs.Ytldidclnfkmonaa
