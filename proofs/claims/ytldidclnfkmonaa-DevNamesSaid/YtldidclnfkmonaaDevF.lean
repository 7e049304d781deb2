/- Blocks of one byte, again and again. -/
import Derived.Test.YtldidclnfkmonaaRefN
namespace Go.Proofs.Ytldidclnfkmonaa
open Go.RowKit

set_option maxRecDepth 100000 in
set_option maxHeartbeats 1000000 in
theorem full_any (c : UInt8) (w : World) :
    Calls Try.prog 28 #[bV c] w fun e w' => ∃ u, e = .returned u ∧ MadeB w w' u (List.replicate 128 c) := by
  simp only [bV]
  go_enter Try.func28, Try.ntmps28
  go_wp2
  go_loopw [3, 4] (fun v i wr => ∃ k : Nat, k ≤ 128 ∧ i = .int .i64 k ∧ OwnB w.heap.size 5 wr v (List.replicate k c) ∧ Below w.heap.size w wr) (fun _ i _ => 128 - (intOf i).toNat)
  case atStart => exact ⟨0, Nat.zero_le _, rfl, OwnB.nil_ _ _ _, Below.refl _ _⟩
  case round =>
    obtain ⟨k, hk, rfl, hown, hB⟩ := hrel
    by_cases hlt : k < 128
    · have hsuc : List.replicate (k + 1) c = List.replicate k c ++ [c] := List.replicate_succ'
      have hlen : (List.replicate k c).length = k := List.length_replicate
      have HU := Lib.hid hsuc
      clear hsuc
      generalize List.replicate k c = l at *
      go_wp2_with (at_builtin; refine wpList_appB rfl _ _ 28 rfl w.heap.size 5 Try.underlying28 info_u8 _ l rfl (hown.alloc _) wr.heap.size (wr.heap.size + 1) _ [c] rfl (Bytes.new wr 5 [c] (by simp [maxLen]) (0, 0)) (by simp; omega) (by have := hB.size; simp; omega) ?_; intro v' w1 hown' hB1)
      go_roundw
      case rel => exact ⟨k + 1, by omega, by go_num, by rw [HU.out]; exact hown', (hB.alloc hB.size _).trans hB1⟩
      case measure => simp [intOf]; omega
    · obtain rfl : k = 128 := by omega
      go_wp2
      go_ret
      exact ⟨_, rfl, hown.made hB⟩
end Go.Proofs.Ytldidclnfkmonaa
