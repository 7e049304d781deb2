/- Disks: heap.clone. -/
import Derived.Test.YtldidclnfkmonaaDev2
import Derived.Test.YtldidclnfkmonaaCpf
import Derived.Test.YtldidclnfkmonaaRefI4
namespace Go.Proofs.Ytldidclnfkmonaa
open Go.RowKit

set_option maxRecDepth 100000 in
set_option maxHeartbeats 1000000 in
/-- (*dev.heap).clone. -/
theorem hclone_any (g gh o r : Nat) (L : List UInt8) (v : Value) (l : List UInt8) (lo hi : Nat) (w : World) (hrow : RowB w g 5 L) (hbox : w.heap[gh]? = some (.cells #[.slice (some ⟨g, o, none⟩) r r] 106 (0, 0)))
    (hne : g ≠ gh) (hv : Bytes w lo hi v l) (hl : l.length ≤ r) (hr : o + r ≤ L.length) :
    Calls Try.prog 74 #[.pointer (some ⟨gh, 0, none⟩), v] w fun e w' => e = .returned (.slice (some ⟨g, o, none⟩) l.length l.length) ∧ RowB w' g 5 (splice L o l) ∧
      (∃ o', (l.length < r → o' = o + l.length) ∧ o' ≤ L.length ∧ w'.heap[gh]? = some (.cells #[.slice (some ⟨g, o', none⟩) (r - l.length) (r - l.length)] 106 (0, 0))) ∧ Below (min g gh) w w' ∧ w'.heap.size = w.heap.size ∧ ∀ k, k ≠ g → k ≠ gh → w'.heap[k]? = w.heap[k]? := by
  have c0 := blk_cell hbox 0
  simp at c0
  go_enter Try.func74, Try.ntmps74
  go_upto_region 2 with (refine wpList_copyF rfl (.tmp 9) (.tmp 10) 106 28 rfl 5 Try.underlying106 info_u8 g o r r rfl L hrow lo hi v l rfl hv hl (by omega) ?_; intro w1 hrow1 hO)
  have hbox1 := (hO.2.2 gh (Ne.symm hne)).trans hbox
  have c1 := blk_cell hbox1 0
  have f1 := blk_frozen hbox1 0
  simp at c1
  have hw : ∀ x : Int, 0 ≤ x → x < 9223372036854775808 → IntKind.i64.wrap x = x := fun x h1 h2 => IntWalk.i64_in x (by omega)
  have HO := Lib.hid (And.intro hrow1 (And.intro hO hbox1))
  have e1 : (l.length : Int) ≤ r := by omega
  clear hw hrow1 hO hbox1 hrow hbox c0
  have hfin : ∀ u, RowB (w1.setCell ⟨gh, 0, none⟩ u) g 5 (splice L o l) ∧ (w1.setCell ⟨gh, 0, none⟩ u).heap[gh]? = some (.cells #[u] 106 (0, 0)) ∧ Below (min g gh) w (w1.setCell ⟨gh, 0, none⟩ u) ∧ (w1.setCell ⟨gh, 0, none⟩ u).heap.size = w.heap.size ∧ ∀ k, k ≠ g → k ≠ gh → (w1.setCell ⟨gh, 0, none⟩ u).heap[k]? = w.heap[k]? := by
    intro u
    obtain ⟨h1, ⟨h2, h3, h4⟩, h5⟩ := HO.out
    have hb : Below (min g gh) w (w1.setCell ⟨gh, 0, none⟩ u) := (h2.mono (Nat.min_le_left _ _)).setCell (p := ⟨gh, 0, none⟩) (Nat.min_le_right _ _) _
    have hoth : ∀ k, k ≠ gh → (w1.setCell ⟨gh, 0, none⟩ u).heap[k]? = w1.heap[k]? := fun k hk => by
      simp [World.setCell, Array.getElem?_modify, Ne.symm hk]
    refine ⟨(hoth g hne).trans h1, by rw [set_block h5]; rfl, hb, by rw [World.size_setCell]; exact h3, fun k k1 k2 => (hoth k k2).trans (h4 k k1)⟩
  have HF := Lib.hid hfin
  clear hfin HO
  rcases Nat.eq_or_lt_of_le hl with he | he
  · subst he
    go_wp2
    go_ret
    obtain ⟨q1, q2, q3, q4, q5⟩ := HF.out _
    exact ⟨rfl, q1, ⟨o, fun h => absurd h (Nat.lt_irrefl _), by omega, by simpa using q2⟩, q3, q4, q5⟩
  · have hne2 : ¬ r = l.length := by omega
    go_wp2
    go_ret
    obtain ⟨q1, q2, q3, q4, q5⟩ := HF.out _
    exact ⟨rfl, q1, ⟨o + l.length, fun _ => rfl, by omega, q2⟩, q3, q4, q5⟩

end Go.Proofs.Ytldidclnfkmonaa
