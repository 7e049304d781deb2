/- CountTables: the words and contracts, part 2. -/
import Derived.Test.YthealkfpflkipaaCountTablesQ1
import Derived.WalkKit
import Derived.WalkLawsBesides
import Derived.WalkSpells
import Derived.Lib.Hide
import Derived.Laws.Rows
import Derived.Laws.AppendOwnNone
import Derived.Maps.AppendAt
import Derived.ProofKit
import Derived.Deep.Slices
import Derived.WideShapes
import Derived.RangeFuncNested
import Derived.RangeFuncBound
import Derived.RangeFuncCalls
import Derived.RangeFuncLeaves
import Derived.RangeFuncBox
import Derived.Shelf.Abstract
import Derived.Shelf.RegionOpen
import Derived.OwnWalkIn
import Derived.TacticsInMore
import Derived.LoopNIn
import Derived.LoopIn
import Derived.Lib.AppendZerosOnto
import Derived.Lib.SliceRun
import Derived.Lib.Walk
import Derived.Deep.LoopGhost
import Derived.Laws.CopyOwn
import Derived.OrdersHeld
import Derived.Deep.QuietTactic
import Derived.BigQuiet
import Derived.StillTailTactics
import Derived.OpenShut
namespace Go.Proofs.Ythealkfpflkipaa
open Go.RowKit

/-- The greatest byte. -/
def maxL (l : List UInt8) : Nat := l.foldl (fun m x => max m x.toNat) 0
theorem maxL_step (l : List UInt8) (k : Nat) (hk : k < l.length) : maxL (l.take (k + 1)) = max (maxL (l.take k)) (l.getD k 0).toNat := by
  unfold maxL
  rw [List.take_succ_eq_append_getElem hk, List.foldl_append]
  simp [hk]
/-- A table may be. -/
def mayT (l : List UInt8) : Bool := l.length == 256 && maxL (l.take 8) == 0
def errT (l : List UInt8) (at_ : Int) (e : UInt8) : Int :=
  if mayT l then (if at_ < 8 ∨ 256 ≤ at_ then 2 else if l.getD at_.toNat 0 = e then 70 else 0) else 8
def outT (l : List UInt8) (at_ : Int) (b e : UInt8) : List UInt8 :=
  if errT l at_ e = 0 then l.set at_.toNat (l.getD at_.toNat 0 + b) else []
theorem mayT_len {l : List UInt8} (h : mayT l = true) : l.length = 256 := by
  unfold mayT at h
  simp at h
  exact h.1
theorem mayT_set (l : List UInt8) (i : Nat) (x : UInt8) (h : 8 ≤ i) : mayT (l.set i x) = mayT l := by
  unfold mayT
  rw [List.length_set, List.take_set_of_le h]

set_option maxHeartbeats 1000000 in
/-- slices.Max. -/
theorem max_any (v : Value) (l : List UInt8) (w : World) (hI : Bytes w 0 w.heap.size v l) (h0 : 0 < l.length) :
    Calls Try.prog 49 #[v] w fun e w' => e = .returned (.int .u8 (maxL l : Nat)) ∧ w' = w := by
  obtain ⟨a, c, rfl, g1, g2, g3, -⟩ := hI
  unfold maxLen at g2
  obtain ⟨b, off, rfl, _, _, hc⟩ := g3 h0
  have hc' : ∀ j, j < l.length → w.cell? ⟨b, off + j, none⟩ = some (.int .u8 ((l.getD j 0).toNat : Int)) := fun j hj => hc j (l.getD j 0) (by simp [hj])
  have hc0 : w.cell? ⟨b, off, none⟩ = some (.int .u8 ((l.getD 0 0).toNat : Int)) := by simpa using hc' 0 h0
  clear hc g3
  go_enter Try.func49, Try.ntmps49
  go_wp2
  go_loopg [3, 4] l.length (fun g m i wr => ∃ k : Nat, 0 < k ∧ k ≤ l.length ∧ l.length - k ≤ g ∧ i = .int .i64 k ∧ m = .int .u8 (maxL (l.take k) : Nat) ∧ wr = w)
  case atStart => exact ⟨1, Nat.one_pos, h0, by omega, rfl, by rw [maxL_step l 0 h0]; simp [maxL, h0], rfl⟩
  case round =>
    obtain ⟨k, hk0, hk, hg, rfl, rfl, rfl⟩ := hrel
    by_cases hlt : k < l.length
    · have ck := hc' k hlt
      have S := Lib.hid (maxL_step l k hlt)
      clear hc' hc0
      generalize maxL (l.take k) = mm at *
      go_wp2
      go_roundg (l.length - (k + 1))
      case measure => omega
      case rel => exact ⟨k + 1, Nat.succ_pos k, by omega, Nat.le_refl _, by go_num, by rw [S.out]; simp [hlt]; omega, rfl⟩
    · have hkl : k = l.length := by omega
      subst hkl
      clear hc' hc0
      rw [List.take_length]
      go_wp2
      go_ret
      exact ⟨rfl, rfl⟩

set_option maxHeartbeats 1000000 in
/-- count.New. -/
theorem cnew_any (w : World) :
    Calls Try.prog 20 #[] w fun e w' => ∃ u, e = .returned u ∧ MadeB w w' u (List.replicate 256 0) := by
  go_enter Try.func20, Try.ntmps20
  go_wp2_with (refine wpList_makeB rfl (.const (.int .i64 256)) (.const (.int .i64 256)) 22 rfl 5 Try.underlying22 info_u8 256 rfl rfl (by omega) ?_; intro w1 hrow hb)
  go_ret
  have h1 := hrow.bytes (by rw [List.length_replicate]; unfold maxLen; omega)
  rw [List.length_replicate] at h1
  exact ⟨_, rfl, h1.more (Nat.le_refl _) (by have := hrow.lt; omega), hrow.thawed _ _, hb⟩

set_option maxHeartbeats 1000000 in
/-- count.Check. -/
theorem ccheck_any (v : Value) (l : List UInt8) (w : World) (hI : Bytes w 0 w.heap.size v l) :
    Calls Try.prog 18 #[v] w fun e w' => e = .returned (.int .i64 (if mayT l then 0 else 8)) ∧ w' = w := by
  by_cases h : l.length = 256
  · obtain ⟨b, off, c, rfl, -, hc2, hc3, hc4, -⟩ := hI.at_n h (by omega)
    unfold maxLen at hc4
    have hm := max_any (.slice (some ⟨b, off, none⟩) 8 c) (l.take 8) w (hI.pre 8 (by omega)) (by simp; omega)
    have hM : mayT l = (maxL (l.take 8) == 0) := by unfold mayT; simp [h]
    rw [hM]
    clear hM
    generalize maxL (l.take 8) = m at *
    go_enter Try.func18, Try.ntmps18
    go_wp2_with fail
    refine hm.mono ?_
    rintro e w1 ⟨rfl, rfl⟩
    by_cases h1 : m = 0
    · subst h1
      go_wp2
      go_ret
      exact ⟨rfl, rfl⟩
    · have h2 : ¬ (m == 0) = true := by simp [h1]
      go_wp2
      go_ret
      exact ⟨rfl, rfl⟩
  · have hM : mayT l = false := by unfold mayT; simp [h]
    obtain ⟨a, c, rfl, g1, g2, -, -⟩ := hI
    rw [hM]
    have h1 : ¬ (l.length : Int) = 256 := by omega
    go_enter Try.func18, Try.ntmps18
    go_wp2
    go_ret
    exact ⟨rfl, rfl⟩

set_option maxHeartbeats 1000000 in
/-- count.turn. -/
theorem cturn_any (v : Value) (l : List UInt8) (p : Int) (b e : UInt8) (w : World) (hI : Bytes w 0 w.heap.size v l) :
    Calls Try.prog 36 #[v, .int .i64 p, bV b, bV e] w fun x w' => ∃ u, x = .returned (.tuple #[u, .int .i64 (errT l p e)]) ∧ MadeB w w' u (outT l p b e) := by
  have hck := ccheck_any v l w hI
  have hcl := clone_any v l w hI
  cases hm : mayT l
  · have h1 : errT l p e = 8 := by unfold errT; simp [hm]
    have h2 : outT l p b e = [] := by unfold outT; simp [h1]
    rw [h1, h2]
    rw [hm, if_neg (by simp)] at hck
    obtain ⟨a, c, rfl, -, -, -, -⟩ := hI
    clear h1 h2 hm hcl
    simp only [bV] at *
    go_enter Try.func36, Try.ntmps36
    go_wp2_with fail
    refine hck.mono ?_
    rintro x w1 ⟨rfl, rfl⟩
    go_wp2
    go_ret2
    exact ⟨_, rfl, MadeB.nil_ (Below.refl _ _)⟩
  · have hl := mayT_len hm
    have h0 : errT l p e = (if p < 8 ∨ 256 ≤ p then 2 else if l.getD p.toNat 0 = e then 70 else 0) := by unfold errT; simp [hm]
    rw [hm, if_pos rfl] at hck
    have hcl' := hcl (by omega)
    obtain ⟨bb, off, c, rfl, -, hc2, hc3, hc4, hcell⟩ := hI.at_n hl (by omega)
    clear hcl
    by_cases h1 : p < 8 ∨ 256 ≤ p
    · have h2 : errT l p e = 2 := by rw [h0]; simp [h1]
      have h3 : outT l p b e = [] := by unfold outT; simp [h2]
      rw [h2, h3]
      clear h0 h2 h3 hcl' hcell
      simp only [bV] at *
      go_enter Try.func36, Try.ntmps36
      go_wp2_with fail
      refine hck.mono ?_
      rintro x w1 ⟨rfl, rfl⟩
      rcases h1 with h1 | h1
      · go_wp2
        go_ret2
        exact ⟨_, rfl, MadeB.nil_ (Below.refl _ _)⟩
      · have h4 : ¬ p < 8 := by omega
        go_wp2
        go_ret2
        exact ⟨_, rfl, MadeB.nil_ (Below.refl _ _)⟩
    · obtain ⟨q, rfl⟩ : ∃ q : Nat, p = q := ⟨p.toNat, by omega⟩
      have i1 : 8 ≤ q := by omega
      have i2 : q < 256 := by omega
      have hx := hcell q (l.getD q 0) (by simp [hl, i2])
      clear hcell
      by_cases h2 : l.getD q 0 = e
      · have h3 : errT l q e = 70 := by rw [h0, if_neg (by omega), Int.toNat_natCast, if_pos h2]
        have h4 : outT l q b e = [] := by unfold outT; simp [h3]
        rw [h3, h4]
        clear h0 h3 h4 hcl'
        have h5 : ((l.getD q 0).toNat : Int) = e.toNat := by rw [h2]
        clear h2
        simp only [bV] at *
        generalize (l.getD q 0).toNat = m at *
        generalize e.toNat = m2 at *
        obtain rfl : m = m2 := by omega
        go_enter Try.func36, Try.ntmps36
        go_wp2_with fail
        refine hck.mono ?_
        rintro x w1 ⟨rfl, rfl⟩
        go_wp2
        go_ret2
        exact ⟨_, rfl, MadeB.nil_ (Below.refl _ _)⟩
      · have h3 : errT l q e = 0 := by rw [h0, if_neg (by omega), Int.toNat_natCast, if_neg h2]
        have h4 : outT l q b e = l.set q (l.getD q 0 + b) := by unfold outT; simp [h3]
        obtain ⟨z, hz⟩ : ∃ z, l.getD q 0 = z := ⟨_, rfl⟩
        rw [hz] at h2 hx
        have h5 : ¬ (z.toNat : Int) = e.toNat := fun h => h2 (UInt8.toNat_inj.1 (by omega))
        rw [h3, h4, hz]
        clear h0 h3 h4 h2
        have hyn : (z + b).toNat = (z.toNat + b.toNat) % 256 := UInt8.toNat_add _ _
        generalize z + b = y at *
        have HY := Lib.hid (And.intro hyn hz)
        clear hz hyn
        simp only [bV] at *
        go_enter Try.func36, Try.ntmps36
        go_wp2_with fail
        refine hck.mono ?_
        rintro x w1 ⟨rfl, rfl⟩
        go_wp2_with fail
        refine hcl'.mono ?_
        rintro x w2 ⟨u, rfl, hm2⟩
        obtain ⟨b2, off2, c2, rfl, hlo, hhi, hc5, hc6, hcell2⟩ := hm2.bytes.at_n hl (by omega)
        have hx2 := hcell2 q z (by rw [← HY.out.2]; simp [hl, i2])
        have hth := hm2.thawed b2 off2 256 c2 rfl q i2
        have HM := Lib.hid hm2
        clear hcell2 hx hm2
        simp only [bV] at hx2
        go_wp2
        go_ret2
        have hv2 : ((z.toNat : Int) + b.toNat) % 256 = (y.toNat : Nat) := by rw [HY.out.1]; omega
        rw [hv2]
        have hmb := HM.out
        exact ⟨_, rfl, (hmb.bytes.set q y (by omega)).more (Nat.le_refl _) (by rw [World.size_setCell]; exact Nat.le_refl _), hmb.thawed.set _ _, hmb.below.setCell hlo _⟩

set_option maxHeartbeats 1000000 in
/-- count.Up. -/
theorem cup_any (v : Value) (l : List UInt8) (p : Int) (w : World) (hI : Bytes w 0 w.heap.size v l) :
    Calls Try.prog 7 #[v, .int .i64 p] w fun x w' => ∃ u, x = .returned (.tuple #[u, .int .i64 (errT l p 255)]) ∧ MadeB w w' u (outT l p 1 255) := by
  have ht := cturn_any v l p 1 255 w hI
  generalize errT l p 255 = er at *
  generalize outT l p 1 255 = ou at *
  clear hI
  go_enter Try.func7, Try.ntmps7
  go_wp2_with fail
  refine ht.mono ?_
  rintro x w1 ⟨u, rfl, hm⟩
  go_wp2
  go_ret2
  exact ⟨_, rfl, hm⟩

set_option maxHeartbeats 1000000 in
/-- count.Down. -/
theorem cdown_any (v : Value) (l : List UInt8) (p : Int) (w : World) (hI : Bytes w 0 w.heap.size v l) :
    Calls Try.prog 9 #[v, .int .i64 p] w fun x w' => ∃ u, x = .returned (.tuple #[u, .int .i64 (errT l p 0)]) ∧ MadeB w w' u (outT l p 255 0) := by
  have ht := cturn_any v l p 255 0 w hI
  generalize errT l p 0 = er at *
  generalize outT l p 255 0 = ou at *
  clear hI
  go_enter Try.func9, Try.ntmps9
  go_wp2_with fail
  refine ht.mono ?_
  rintro x w1 ⟨u, rfl, hm⟩
  go_wp2
  go_ret2
  exact ⟨_, rfl, hm⟩

end Go.Proofs.Ythealkfpflkipaa

namespace Go.Proofs.Ythealkfpflkipaa

theorem u8_inj {x y : UInt8} (h : x.toNat = y.toNat) : x = y := UInt8.toNat_inj.1 h
theorem u8_up {x : UInt8} (h : x ≠ 255) : (x + 1).toNat = x.toNat + 1 := by
  have h1 : x.toNat ≠ 255 := fun e => h (u8_inj e)
  have h2 := UInt8.toNat_lt x
  rw [UInt8.toNat_add, show (1 : UInt8).toNat = 1 from rfl]
  omega
theorem u8_down {x : UInt8} (h : x ≠ 0) : (x + 255).toNat = x.toNat - 1 := by
  have h1 : x.toNat ≠ 0 := fun e => h (u8_inj e)
  have h2 := UInt8.toNat_lt x
  rw [UInt8.toNat_add, show (255 : UInt8).toNat = 255 from rfl]
  omega
theorem u8_up0 {x : UInt8} (h : x ≠ 255) : x + 1 ≠ 0 := fun e => by
  have := u8_up h
  rw [e, show (0 : UInt8).toNat = 0 from rfl] at this
  omega
theorem u8_down0 {x : UInt8} (h : x ≠ 0) : x + 255 ≠ 255 := fun e => by
  have := u8_down h
  have h2 := UInt8.toNat_lt x
  rw [e, show (255 : UInt8).toNat = 255 from rfl] at this
  omega
theorem u8_both (x : UInt8) : x + 1 + 255 = x := by
  apply u8_inj
  have h2 := UInt8.toNat_lt x
  rw [UInt8.toNat_add, UInt8.toNat_add, show (1 : UInt8).toNat = 1 from rfl, show (255 : UInt8).toNat = 255 from rfl]
  omega
theorem u8_both' (x : UInt8) : x + 255 + 1 = x := by
  apply u8_inj
  have h2 := UInt8.toNat_lt x
  rw [UInt8.toNat_add, UInt8.toNat_add, show (1 : UInt8).toNat = 1 from rfl, show (255 : UInt8).toNat = 255 from rfl]
  omega

theorem errT_zero {l : List UInt8} {p : Int} {e : UInt8} : errT l p e = 0 ↔ mayT l = true ∧ 8 ≤ p ∧ p < 256 ∧ l.getD p.toNat 0 ≠ e := by
  unfold errT
  split
  · rename_i h
    split
    · rename_i h1
      constructor
      · intro h2; cases h2
      · rintro ⟨_, h2, h3, _⟩; omega
    · rename_i h1
      split
      · rename_i h2
        constructor
        · intro h3; cases h3
        · rintro ⟨_, _, _, h3⟩; exact absurd h2 h3
      · rename_i h2
        exact ⟨fun _ => ⟨h, by omega, by omega, h2⟩, fun _ => rfl⟩
  · rename_i h
    constructor
    · intro h2; cases h2
    · rintro ⟨h2, _⟩; exact absurd h2 h

theorem cgetD_set_self (l : List UInt8) (i : Nat) (x : UInt8) (h : i < l.length) : (l.set i x).getD i 0 = x := by simp [h]
theorem bget_set_ne (l : List UInt8) (i j : Nat) (x : UInt8) (h : i ≠ j) : (l.set i x).getD j 0 = l.getD j 0 := by simp [List.getElem?_set_ne h]
theorem set_getD (l : List UInt8) (i : Nat) (h : i < l.length) : l.set i (l.getD i 0) = l := by simp [h]

theorem down_up {l : List UInt8} {p : Int} (h : errT l p 255 = 0) : errT (outT l p 1 255) p 0 = 0 ∧ outT (outT l p 1 255) p 255 0 = l := by
  obtain ⟨h1, h2, h3, h4⟩ := errT_zero.1 h
  have hl := mayT_len h1
  have e1 : outT l p 1 255 = l.set p.toNat (l.getD p.toNat 0 + 1) := by unfold outT; rw [if_pos h]
  have g1 : (l.set p.toNat (l.getD p.toNat 0 + 1)).getD p.toNat 0 = l.getD p.toNat 0 + 1 := cgetD_set_self _ _ _ (by omega)
  have hz : errT (outT l p 1 255) p 0 = 0 := by
    rw [e1]
    refine errT_zero.2 ⟨by rw [mayT_set _ _ _ (by omega)]; exact h1, h2, h3, ?_⟩
    rw [g1]
    exact u8_up0 h4
  refine ⟨hz, ?_⟩
  unfold outT at hz ⊢
  rw [if_pos h] at hz ⊢
  rw [if_pos hz, g1, List.set_set, u8_both, set_getD _ _ (by omega)]

/-- Counts of two blocks are turned in either order. -/
theorem apart {l : List UInt8} {p q : Int} (h : errT l p 255 = 0) (k : errT l q 0 = 0) :
    errT (outT l p 1 255) q 0 = 0 ∧ errT (outT l q 255 0) p 255 = 0 ∧ outT (outT l p 1 255) q 255 0 = outT (outT l q 255 0) p 1 255 ∧ (p = q → outT (outT l p 1 255) q 255 0 = l) := by
  by_cases e : p = q
  · subst e
    obtain ⟨h1, h2, h3, h4⟩ := errT_zero.1 h
    obtain ⟨_, _, _, k4⟩ := errT_zero.1 k
    have hl := mayT_len h1
    obtain ⟨d1, d2⟩ := down_up h
    have e1 : outT l p 255 0 = l.set p.toNat (l.getD p.toNat 0 + 255) := by unfold outT; rw [if_pos k]
    have g1 : (l.set p.toNat (l.getD p.toNat 0 + 255)).getD p.toNat 0 = l.getD p.toNat 0 + 255 := cgetD_set_self _ _ _ (by omega)
    have hz : errT (outT l p 255 0) p 255 = 0 := by
      rw [e1]
      refine errT_zero.2 ⟨by rw [mayT_set _ _ _ (by omega)]; exact h1, h2, h3, ?_⟩
      rw [g1]
      exact u8_down0 k4
    refine ⟨d1, hz, ?_, fun _ => d2⟩
    rw [d2]
    unfold outT at hz ⊢
    rw [if_pos k] at hz ⊢
    rw [if_pos hz, g1, List.set_set, u8_both', set_getD _ _ (by omega)]
  · obtain ⟨h1, h2, h3, h4⟩ := errT_zero.1 h
    obtain ⟨_, k2, k3, k4⟩ := errT_zero.1 k
    have hl := mayT_len h1
    have hne : p.toNat ≠ q.toNat := by omega
    have e1 : outT l p 1 255 = l.set p.toNat (l.getD p.toNat 0 + 1) := by unfold outT; rw [if_pos h]
    have e2 : outT l q 255 0 = l.set q.toNat (l.getD q.toNat 0 + 255) := by unfold outT; rw [if_pos k]
    have z1 : errT (outT l p 1 255) q 0 = 0 := by
      rw [e1]
      refine errT_zero.2 ⟨by rw [mayT_set _ _ _ (by omega)]; exact h1, k2, k3, ?_⟩
      rw [bget_set_ne _ _ _ _ hne]
      exact k4
    have z2 : errT (outT l q 255 0) p 255 = 0 := by
      rw [e2]
      refine errT_zero.2 ⟨by rw [mayT_set _ _ _ (by omega)]; exact h1, h2, h3, ?_⟩
      rw [bget_set_ne _ _ _ _ (Ne.symm hne)]
      exact h4
    refine ⟨z1, z2, ?_, fun h => absurd h e⟩
    rw [e1] at z1 ⊢
    rw [e2] at z2 ⊢
    unfold outT
    rw [if_pos z1, if_pos z2, bget_set_ne _ _ _ _ hne, bget_set_ne _ _ _ _ (Ne.symm hne), List.set_comm _ _ hne]

end Go.Proofs.Ythealkfpflkipaa

namespace Go.Proofs.Ythealkfpflkipaa
open Go.RowKit

/-- The worlds that lie behind w: below w's size nothing has turned. Told by a world of any make. -/
noncomputable def aft (w W : World) : World := by
  classical exact if Below w.heap.size w W then W else w
theorem aft_below (w W : World) : Below w.heap.size w (aft w W) := by
  unfold aft
  split
  · assumption
  · exact Below.refl _ _
theorem aft_of {w W : World} (h : Below w.heap.size w W) : aft w W = W := by
  unfold aft
  rw [if_pos h]
def Cls (w : World) (w' : World) : Prop := ∃ W, w' = aft w W
attribute [go_sem] Cls
theorem Cls.of {w w' : World} (h : Below w.heap.size w w') : Cls w w' := ⟨w', (aft_of h).symm⟩
theorem Cls.below {w w' : World} (h : Cls w w') : Below w.heap.size w w' := by obtain ⟨W, rfl⟩ := h; exact aft_below w W
theorem Cls.sub {w w1 : World} (h : Below w.heap.size w w1) : ∀ W, Cls w1 W → Cls w W := fun _ hW => Cls.of (below_step h h.size hW.below)
theorem Cls.refl (w : World) : Cls w w := Cls.of (Below.refl _ _)
theorem Cls.drew (w : World) : Cls w w.drew := Cls.of (Below.refl _ _).drew

/-- Operations that yield a value and enter nothing. -/
def calmOp (o : Oper) : Bool :=
  match o.op with
  | .move _ | .assign _ | .pick .. | .load .. | .binOp .. | .unOp .. | .convert .. | .slice .. | .fieldAddr .. | .field .. | .indexAddr .. | .index .. | .extract .. => true
  | .call { callee := .builtin .len, .. } => true
  | _ => false

section
variable {P : Program} {ops : Array Oper} {Q : Exit → Act → World → Prop} {md : Region.Mode} {S S' : World → Prop} {C : World → Prop}

theorem val_of {s : Sem Value} {w : World} {v : Value} (h : Oper.quietUpon P C w v ((do pure (Next.value (← s)) : Sem Next).run P w)) : ((do pure (Next.value (← s)) : Sem Next).run P w) = .ok (.value v) w := by
  simp only [Sem.run_bind] at h ⊢
  cases hs : s.run P w with
  | ok x w' =>
    rw [hs] at h
    simp only [Result.andThen, Sem.run_pure, Oper.quietUpon] at h ⊢
    obtain ⟨rfl, rfl⟩ := h
    rfl
  | halt x w' =>
    rw [hs] at h
    simp only [Result.andThen, Oper.quietUpon] at h

theorem calm_val {o : Oper} {a : Act} {w : World} {v : Value} (hc : calmOp o = true) (h : o.quietAt P a C w v) : (execOp a.eval o).run P w = .ok (.value v) w := by
  unfold Oper.quietAt at h
  obtain ⟨dst, op, ty, pos, aft, gd⟩ := o
  unfold calmOp at hc
  cases op with
  | move x =>
    simp only [execOp, Sem.run_pure, Oper.quietUpon] at h ⊢
    obtain ⟨_, rfl⟩ := h; rfl
  | assign x =>
    simp only [execOp, Sem.run_pure, Oper.quietUpon] at h ⊢
    obtain ⟨_, rfl⟩ := h; rfl
  | pick c x y =>
    have e : execOp a.eval { dst := dst, op := .pick c x y, type := ty, pos := pos, after := aft, guard := gd } = (do pure (Next.value (← (do pure (if ← asBool (a.eval c) then a.eval x else a.eval y) : Sem Value))) : Sem Next) := by
      simp [execOp]
    rw [e] at h ⊢
    exact val_of h
  | call c =>
    obtain ⟨callee, args, tys⟩ := c
    cases callee with
    | builtin b =>
      cases b with
      | len =>
        have e : execOp a.eval { dst := dst, op := .call { callee := .builtin .len, args := args, argTypes := tys }, type := ty, pos := pos, after := aft, guard := gd } = (do pure (Next.value (← Builtin.len_ tys ty (args.map a.eval))) : Sem Next) := by
          simp [execOp, resolve, invoke, builtin]
        rw [e] at h ⊢
        exact val_of h
      | _ => simp at hc
    | _ => simp at hc
  | load t x => exact val_of h
  | binOp op xt x y yt => exact val_of h
  | unOp op t x => exact val_of h
  | convert s d x => exact val_of h
  | slice t x lo hi mx => exact val_of h
  | fieldAddr s x f => exact val_of h
  | field xt x f => exact val_of h
  | indexAddr t x ix => exact val_of h
  | index xt x ix => exact val_of h
  | extract t ix => exact val_of h
  | _ => simp at hc

/-- A list of operations that may be taken one behind the other, first. -/
def segOk (md : Region.Mode) (ops : Array Oper) : List Nat → Array Bool → Bool
  | [], _ => true
  | i :: q, listed => (Region.ready md ops listed).contains i && Region.free md ops listed i && ((ops[i]?).map calmOp).getD false && segOk md ops q (listed.setIfInBounds i true)
def listAll : List Nat → Array Bool → Array Bool
  | [], l => l
  | i :: q, l => listAll q (l.setIfInBounds i true)
def consOp : Option Oper → List Oper → List Oper
  | some o, l => o :: l
  | none, l => l
theorem consOp_some (o : Oper) (l : List Oper) : consOp (some o) l = o :: l := rfl
def opsOf (ops : Array Oper) : List Nat → List Oper
  | [] => []
  | i :: q => consOp ops[i]? (opsOf ops q)
theorem opsOf_nil (ops : Array Oper) : opsOf ops [] = [] := rfl
theorem opsOf_cons (ops : Array Oper) (i : Nat) (q : List Nat) : opsOf ops (i :: q) = consOp ops[i]? (opsOf ops q) := rfl

theorem wpAnyH_seg (hs : Region.noSelect ops = true) (hQ : ∀ c (d : Option Tmp) (v : Value) (a : Act) w, Q (.panic c) (a.put d v) w → Q (.panic c) a w) {fuel : Nat} {w : World} (hS : S w) :
    ∀ (q : List Nat) (n : Nat) (listed : Array Bool) (a : Act), segOk md ops q listed = true → n = q.length + fuel →
      wpQuiet P ops S (fun a' => wpAnyH P md ops Q S fuel (listAll q listed) a' w) (opsOf ops q) a → wpAnyH P md ops Q S n listed a w
  | [], n, listed, a, _, hn, h => by
    subst hn
    simpa [opsOf, wpQuiet, listAll] using h
  | i :: q, n, listed, a, hok, hn, h => by
    simp only [segOk, Bool.and_eq_true] at hok
    obtain ⟨⟨⟨hr, hf⟩, hc⟩, hok'⟩ := hok
    cases hoi : ops[i]? with
    | none => simp [hoi] at hc
    | some o =>
      simp only [hoi, Option.map_some, Option.getD_some] at hc
      have hl' : opsOf ops (i :: q) = o :: opsOf ops q := by rw [opsOf_cons, hoi, consOp_some]
      rw [hl'] at h
      obtain rfl : n = (q.length + fuel) + 1 := by simp at hn; omega
      simp only [wpQuiet] at h
      split at h
      · rename_i hw
        obtain ⟨v, hv, hK⟩ := h
        exact wpAnyH_take hoi hs hf hr (fun c a w => hQ c _ _ a w) (.inl ⟨hw, fun w' hw' => calm_val hc (hv w' hw')⟩) hS (wpAnyH_seg hs hQ hS q _ _ _ hok' rfl hK)
      · rename_i hw
        exact wpAnyH_take hoi hs hf hr (fun c a w => hQ c _ _ a w) (.inr ⟨by simpa using hw, rfl⟩) hS (wpAnyH_seg hs hQ hS q _ _ _ hok' rfl h)

/-- A narrower class serves. -/
theorem wpAnyH_strong (hsub : ∀ W, S' W → S W) : ∀ (fuel : Nat) (listed : Array Bool) (a : Act) (w : World), wpAnyH P md ops Q S' fuel listed a w → wpAnyH P md ops Q S fuel listed a w
  | 0, _, _, _, h => h
  | fuel + 1, _, _, _, h => ⟨h.1, fun i hi => wpOp_mono (fun a' w' h' => ⟨hsub _ h'.1, wpAnyH_strong hsub fuel _ a' w' h'.2⟩) (h.2 i hi)⟩

/-- What is still to come behind an operation that was carried out: in a narrower class. -/
def After (P : Program) (md : Region.Mode) (ops : Array Oper) (Q : Exit → Act → World → Prop) (S : World → Prop) (fuel : Nat) (listed : Array Bool) (K : Act → World → Prop) : Prop :=
  ∀ (S' : World → Prop) a w, (∀ W, S' W → S W) → S' w → wpAnyH P md ops Q S' fuel listed a w → K a w
theorem After.out {fuel : Nat} {listed : Array Bool} {K : Act → World → Prop} (h : After P md ops Q S fuel listed K) (S' : World → Prop) {a : Act} {w : World} (hsub : ∀ W, S' W → S W) (hS : S' w) (hW : wpAnyH P md ops Q S' fuel listed a w) : K a w := h S' a w hsub hS hW

/-- Each of those that may come up now. -/
def Each (P : Program) (md : Region.Mode) (ops : Array Oper) (Q : Exit → Act → World → Prop) (S : World → Prop) (fuel : Nat) (listed : Array Bool) (a : Act) (w : World) (rs : List Nat) : Prop :=
  ∀ i ∈ rs, wpOp P ops Q i (fun a' w' => S w' ∧ wpAnyH P md ops Q S fuel (listed.setIfInBounds i true) a' w') a w
theorem Each.nil {fuel : Nat} {listed : Array Bool} {a : Act} {w : World} : Each P md ops Q S fuel listed a w [] := fun _ h => by cases h
theorem Each.cons {fuel : Nat} {listed : Array Bool} {a : Act} {w : World} {i : Nat} {rs : List Nat} (o : Oper) (ho : ops[i]? = some o)
    (h : ∀ K' : Act → World → Prop, After P md ops Q S fuel (listed.setIfInBounds i true) K' → if Region.wanted o (yielded ops a.tmps) = true then Oper.wp P o a w K' Q else K' (a.put o.dst undef) w)
    (hs : Each P md ops Q S fuel listed a w rs) : Each P md ops Q S fuel listed a w (i :: rs) := fun j hj => by
  rcases List.mem_cons.1 hj with rfl | hj
  · exact wpOp_step ho (fun K' hK => h K' (fun S' a w hsub hS hW => hK a w ⟨hsub _ hS, wpAnyH_strong hsub _ _ _ _ hW⟩))
  · exact hs j hj
theorem wpAnyH_each {n fuel : Nat} {listed : Array Bool} {a : Act} {w : World} (rs : List Nat) (hr : Region.ready md ops listed = rs) (hne : rs ≠ []) (hn : n = fuel + 1)
    (h : Each P md ops Q S fuel listed a w rs) : wpAnyH P md ops Q S n listed a w := by
  subst hn
  exact wpAnyH_all hr hne h
end
end Go.Proofs.Ythealkfpflkipaa

namespace Go.Proofs.Ythealkfpflkipaa
open Go.RowKit

def dstOf (ops : Array Oper) (i : Nat) : Option Tmp := (ops[i]?).bind (·.dst)
/-- The values of some operations, put where they belong. -/
def putAll (ops : Array Oper) (vs : Nat → Value) : List Nat → Act → Act
  | [], a => a
  | i :: is, a => putAll ops vs is (a.put (dstOf ops i) (vs i))
section
variable {ops : Array Oper}
end

section
variable {P : Program} {ops : Array Oper} {Q : Exit → Act → World → Prop} {md : Region.Mode} {S : World → Prop}

/-- Each operation of some: with what it waits for being good. -/
def OpsI (P : Program) (ops : Array Oper) (Q : Exit → Act → World → Prop) (S : World → Prop) (G : Nat → Value → World → Prop) (deps : Nat → List Nat) (is : List Nat) (a0 : Act) (l : List Nat) : Prop :=
  ∀ i ∈ l, ∀ o, ops[i]? = some o → ∀ (vs : Nat → Value) (W : World), S W → (∀ j ∈ deps i, G j (vs j) W) → ∀ K : Act → World → Prop,
    (∀ v W', G i v W' → Below W.heap.size W W' → K ((putAll ops vs is a0).put o.dst v) W') →
    if Region.wanted o (yielded ops (putAll ops vs is a0).tmps) = true then Oper.wp P o (putAll ops vs is a0) W K Q else K ((putAll ops vs is a0).put o.dst undef) W
theorem OpsI.nil {G : Nat → Value → World → Prop} {deps : Nat → List Nat} {is : List Nat} {a0 : Act} : OpsI P ops Q S G deps is a0 [] := fun _ h => by cases h
theorem OpsI.cons {G : Nat → Value → World → Prop} {deps : Nat → List Nat} {is : List Nat} {a0 : Act} {i : Nat} {l : List Nat} (o : Oper) (ho : ops[i]? = some o)
    (h : ∀ (vs : Nat → Value) (W : World), S W → (∀ j ∈ deps i, G j (vs j) W) → ∀ K : Act → World → Prop,
      (∀ v W', G i v W' → Below W.heap.size W W' → K ((putAll ops vs is a0).put o.dst v) W') →
      if Region.wanted o (yielded ops (putAll ops vs is a0).tmps) = true then Oper.wp P o (putAll ops vs is a0) W K Q else K ((putAll ops vs is a0).put o.dst undef) W)
    (hs : OpsI P ops Q S G deps is a0 l) : OpsI P ops Q S G deps is a0 (i :: l) := fun j hj o' ho' => by
  rcases List.mem_cons.1 hj with rfl | hj
  · rw [ho] at ho'; cases ho'; exact h
  · exact hs j hj o' ho'

theorem getD_any (L : Array Bool) (i : Nat) (d e : Bool) (h : i < L.size) : L.getD i d = L.getD i e := by simp [Array.getD, h]

attribute [go_sem] putAll dstOf

end
end Go.Proofs.Ythealkfpflkipaa

namespace Go.Proofs.Ythealkfpflkipaa
open Go.RowKit Go.ChangeShapes Go.WideShapes Go.Deep

/-- The fields of a struct: where each begins, and its type. -/
def fieldsOf (P : Program) (t : TypeId) : Option (List (Nat × TypeId)) :=
  match P.underlying t with
  | some (.struct fs) => some (fs.toList.map fun f => (f.offset, f.type))
  | _ => none

section
variable {H : Type} {enc : TypeId × Value → H} {P : Program} {w : World} {base : Nat} {spare : Nat → Bool} {held : Bool} {fuel : Nat} {t : TypeId} {cs : List Value} {x : DataW H × List MemPlace}
theorem trod_parts {l : List (Nat × TypeId)} (ht : fieldsOf P t = some l) (h : DataW.trod enc P w base spare held fuel t cs = some x) :
    cs.length = P.cellsOf t ∧ ∃ n, ∀ f ∈ l, ∃ y, DataW.trod enc P w base spare held n f.2 ((cs.drop f.1).take (P.cellsOf f.2)) = some y := by
  unfold fieldsOf at ht
  split at ht
  · rename_i fs hu
    cases ht
    obtain ⟨h1, n, h2⟩ := trod_fields hu h
    refine ⟨h1, n, fun f hf => ?_⟩
    obtain ⟨g, hg, rfl⟩ := List.mem_map.1 hf
    exact h2 g hg
  · cases ht
theorem okW_struct {r : Reach} {v : Value} {l : List (Nat × TypeId)} (ht : fieldsOf P t = some l) (h : Value.okWide P w r base t v) : ∃ cs, v = .agg cs ∧ cs.size = P.cellsOf t := by
  unfold fieldsOf at ht
  split at ht
  · rename_i fs hu
    exact okWide_struct hu h
  · cases ht
end

def rU8 : Rd UInt8 where
  n := 1
  R _ _ _ x f := f 0 = some (bV x)
  keep _ h := h
  more _ _ h := h
  ext he h := (he 0 (by decide)) ▸ h
theorem Sl.bytes {w : World} {lo hi : Nat} {v : Value} {l : List UInt8} (h : Sl rU8 w lo hi v l) : Bytes w lo hi v l := by
  obtain ⟨a, c, e, h1, h2, h3, h4⟩ := h
  refine ⟨a, c, e, h1, h2, fun hp => ?_, h4⟩
  obtain ⟨b, off, ea, hlo, hhi, hc⟩ := h3 hp
  refine ⟨b, off, ea, hlo, hhi, fun i x hx => ?_⟩
  have := hc i x hx
  simpa [rU8] using this
theorem u8_of {n : Int} (h : (Lit.int .u8 n).wf = true) : ∃ x : UInt8, Value.int .u8 n = bV x := by
  obtain ⟨h1, h2⟩ := bounds_u8 h
  refine ⟨UInt8.ofNat n.toNat, ?_⟩
  simp [bV]
  omega
section
variable {P : Program} {e : TypeId}
theorem opens_u8 (he : P.underlying e = some (.int .u8)) : Opens P e rU8 := fun h _ => by
  obtain ⟨n, rfl, _, hw⟩ := DataW.trod_int he h
  obtain ⟨x, hx⟩ := u8_of hw
  exact ⟨x, by rw [hx]; rfl⟩
variable {H : Type} {enc : TypeId × Value → H} {w : World} {base : Nat} {spare : Nat → Bool} {held : Bool} {fuel : Nat} {t : TypeId} {cs : List Value} {x : DataW H × List MemPlace}
theorem open_bytes (ht : P.underlying t = some (.slice e)) (he : P.underlying e = some (.int .u8)) (hc : P.cellsOf e = 1) (h : DataW.trod enc P w base spare held fuel t cs = some x) :
    ∃ v l, cs = [v] ∧ Bytes w 0 w.heap.size v l := by
  obtain ⟨v, l, h1, h2⟩ := open_sl (r := rU8) ht hc (by decide) (opens_u8 he) h
  exact ⟨v, l, h1, h2.bytes⟩
theorem opens_bytes {u : TypeId} (ht : P.underlying e = some (.slice u)) (he : P.underlying u = some (.int .u8)) (hc : P.cellsOf u = 1) : Opens P e rBytes := fun h _ => by
  obtain ⟨v, l, rfl, h2⟩ := open_bytes ht he hc h
  exact ⟨l, v, rfl, h2⟩
theorem opens_write {ti tb u : TypeId} (ht : fieldsOf P e = some [(0, ti), (1, tb)]) (hi : P.underlying ti = some (.int .i64)) (hci : P.cellsOf ti = 1) (hcb : P.cellsOf tb = 1)
    (hb : P.underlying tb = some (.slice u)) (hu : P.underlying u = some (.int .u8)) (hc : P.cellsOf u = 1) : Opens P e rWrite := fun {H enc w base spare held fuel cs x} h hl => by
  obtain ⟨_, n, hf⟩ := trod_parts ht h
  obtain ⟨y0, h0⟩ := hf (0, ti) (by simp)
  obtain ⟨y1, h1⟩ := hf (1, tb) (by simp)
  dsimp only at h0 h1
  rw [hci] at h0
  rw [hcb] at h1
  obtain ⟨k, e0, _, hw⟩ := DataW.trod_int hi h0
  obtain ⟨v, l, e1, hB⟩ := open_bytes hb hu hc h1
  match cs, hl with
  | [c0, c1], _ =>
    simp at e0 e1
    subst e0 e1
    exact ⟨⟨k, l⟩, rfl, hw, _, rfl, hB⟩
theorem open_disk {tbs tws tw ti tb u : TypeId} (ht : fieldsOf P e = some [(0, tbs), (1, tws)]) (hbs : P.underlying tbs = some (.slice tb)) (hws : P.underlying tws = some (.slice tw)) (cbs : P.cellsOf tbs = 1) (cws : P.cellsOf tws = 1)
    (htw : fieldsOf P tw = some [(0, ti), (1, tb)]) (cw : P.cellsOf tw = 2) (hi : P.underlying ti = some (.int .i64)) (hci : P.cellsOf ti = 1) (hcb : P.cellsOf tb = 1) (ce : P.cellsOf e = 2)
    (hb : P.underlying tb = some (.slice u)) (hu : P.underlying u = some (.int .u8)) (hc : P.cellsOf u = 1) (h : DataW.trod enc P w base spare held fuel e cs = some x) :
    ∃ (b v : Value) (d : DiskL), cs = [b, v] ∧ DiskV w 0 w.heap.size b v d := by
  obtain ⟨hl, n, hf⟩ := trod_parts ht h
  obtain ⟨y0, h0⟩ := hf (0, tbs) (by simp)
  obtain ⟨y1, h1⟩ := hf (1, tws) (by simp)
  dsimp only at h0 h1
  rw [cbs] at h0
  rw [cws] at h1
  rw [ce] at hl
  obtain ⟨v0, l0, e0, B0⟩ := open_sl (r := rBytes) hbs hcb (by decide) (opens_bytes hb hu hc) h0
  obtain ⟨v1, l1, e1, B1⟩ := open_sl (r := rWrite) hws cw (by decide) (opens_write htw hi hci hcb hb hu hc) h1
  match cs, hl with
  | [c0, c1], _ =>
    simp at e0 e1
    subst e0 e1
    exact ⟨_, _, ⟨l0, l1⟩, rfl, B0, B1⟩
end
end Go.Proofs.Ythealkfpflkipaa

