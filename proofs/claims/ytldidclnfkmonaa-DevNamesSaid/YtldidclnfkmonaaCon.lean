/- slices.Concat at bytes. -/
import Derived.Test.YtldidclnfkmonaaGrw
import Derived.Test.YtldidclnfkmonaaRefN
import Derived.Lib.AppendZerosOnto
import Derived.Lib.SliceRun
import Derived.Lib.Walk
import Derived.Deep.LoopGhost
import Derived.Laws.CopyOwn
namespace Go.Proofs.Ytldidclnfkmonaa
open Go.RowKit

/-- Some lists one behind the other. -/
def catL (ps : List (Value × List UInt8)) : List UInt8 := (ps.map (·.2)).flatten
theorem catL_snoc (ps : List (Value × List UInt8)) (k : Nat) (p : Value × List UInt8) (h : ps[k]? = some p) : catL (ps.take (k + 1)) = catL (ps.take k) ++ p.2 := by
  have hk : k < ps.length := (List.getElem?_eq_some_iff.1 h).1
  have hp : ps[k] = p := (List.getElem?_eq_some_iff.1 h).2
  rw [List.take_succ_eq_append_getElem hk, hp]
  simp [catL]
theorem catL_le (ps : List (Value × List UInt8)) (k : Nat) : (catL (ps.take k)).length ≤ (catL ps).length := by
  have e : ∀ a b : List (Value × List UInt8), catL (a ++ b) = catL a ++ catL b := fun a b => by simp [catL]
  have h := e (ps.take k) (ps.drop k)
  rw [List.take_append_drop] at h
  rw [h, List.length_append]
  omega

set_option maxRecDepth 100000 in
set_option maxHeartbeats 2000000 in
/-- slices.Concat. -/
theorem concat_any (ps : List (Value × List UInt8)) (b off c : Nat) (w : World) (hb : b < w.heap.size) (hcell : ∀ i p, ps[i]? = some p → w.cell? ⟨b, off + i, none⟩ = some p.1)
    (hB : ∀ p ∈ ps, Bytes w 0 w.heap.size p.1 p.2) (hc : ps.length ≤ c) (hcm : c ≤ 1000000) (ht : (catL ps).length ≤ 1000000) :
    Calls Try.prog 53 #[.slice (some ⟨b, off, none⟩) ps.length c] w fun e w' => ∃ u, e = .returned u ∧ MadeB w w' u (catL ps) := by
  have HC := Lib.hid hcell
  have HB := Lib.hid hB
  clear hcell hB
  go_enter Try.func53, Try.ntmps53
  go_wp2
  go_loop [3, 11] (fun n i => ∃ k : Nat, k ≤ ps.length ∧ i = .int .i64 k ∧ n = .int .i64 (catL (ps.take k)).length) (fun _ i => ps.length - (intOf i).toNat)
  case atStart => exact ⟨0, Nat.zero_le _, rfl, rfl⟩
  case round =>
    obtain ⟨k, hk, rfl, rfl⟩ := hrel
    by_cases hlt : k < ps.length
    · obtain ⟨p, hp⟩ : ∃ p, ps[k]? = some p := ⟨ps[k], by simp [hlt]⟩
      have hx := HC.out k p hp
      have hy := HB.out p (List.mem_of_getElem? hp)
      have hs := congrArg List.length (catL_snoc ps k p hp)
      rw [List.length_append] at hs
      have hle := catL_le ps (k + 1)
      have HS := Lib.hid hs
      rw [hs] at hle
      clear hs
      generalize (catL (ps.take k)).length = q at *
      obtain ⟨pv, pl⟩ := p
      dsimp only at hx hle hy
      obtain ⟨pa, pc, rfl, _, _, _, _⟩ := hy
      clear hp
      go_wp2
      go_round
      case rel => exact ⟨k + 1, by omega, by go_num, by rw [HS.out]; go_num⟩
      case measure => simp [intOf]; omega
    · obtain rfl : k = ps.length := by omega
      rw [List.take_length]
      have HT := Lib.hid ht
      go_wp2_with fail
      refine (grow_nil _ _ (by omega)).mono ?_
      rintro e w1 ⟨gv, rfl, hown, hb1⟩
      have hown' : OwnB w.heap.size 5 w1 gv (catL (ps.take 0)) := hown
      clear hown
      go_wp2
      go_loopw [6, 27] (fun v i wr => ∃ k : Nat, k ≤ ps.length ∧ i = .int .i64 k ∧ OwnB w.heap.size 5 wr v (catL (ps.take k)) ∧ Below w.heap.size w wr) (fun _ i _ => ps.length - (intOf i).toNat)
      case atStart => exact ⟨0, Nat.zero_le _, rfl, hown', hb1⟩
      case round =>
        obtain ⟨k, hk, rfl, hown, hbr⟩ := hrel
        by_cases hlt : k < ps.length
        · obtain ⟨p, hp⟩ : ∃ p, ps[k]? = some p := ⟨ps[k], by simp [hlt]⟩
          have hx := (hbr.cell (p := ⟨b, off + k, none⟩) hb).trans (HC.out k p hp)
          have hy := HB.out p (List.mem_of_getElem? hp)
          have hs := catL_snoc ps k p hp
          have hle := catL_le ps (k + 1)
          rw [hs, List.length_append] at hle
          have HS := Lib.hid hs
          clear hs hp hown'
          generalize catL (ps.take k) = q at *
          obtain ⟨pv, pl⟩ := p
          dsimp only at hx hle hy
          have hy2 := hy.below hbr (Nat.le_refl _)
          obtain ⟨pa, pc, rfl, _, _, _, _⟩ := id hy
          clear hy
          go_wp2_with (at_builtin; refine wpList_appB rfl _ _ 28 rfl w.heap.size 5 Try.underlying28 info_u8 _ q rfl hown _ _ _ pl rfl hy2 (by have := HT.out; omega) hbr.size ?_; intro u w2 hown2 hB2)
          go_roundw
          case rel => exact ⟨k + 1, by omega, by go_num, by rw [HS.out]; exact hown2, hbr.trans hB2⟩
          case measure => simp [intOf]; omega
        · obtain rfl : k = ps.length := by omega
          rw [List.take_length] at hown
          go_wp2
          go_ret
          exact ⟨_, rfl, hown.made hbr⟩

end Go.Proofs.Ytldidclnfkmonaa
