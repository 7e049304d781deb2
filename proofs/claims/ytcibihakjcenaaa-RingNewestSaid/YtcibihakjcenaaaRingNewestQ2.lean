/- RingNewest: the words and contracts, part 2. -/
import Derived.Test.YtcibihakjcenaaaRingNewestQ1
import Derived.Test.YtcibihakjcenaaaProg
import Derived.WalkKit
import Derived.WalkLawsBesides
import Derived.WalkSpells
import Derived.Lib.Hide
import Derived.Laws.Rows
import Derived.Laws.AppendOwnNone
import Derived.Maps.AppendAt
import Derived.RangeFuncNested
import Derived.RangeFuncBound
import Derived.RangeFuncCalls
import Derived.RangeFuncLeaves
import Derived.RangeFuncBox
import Derived.Shelf.Abstract
import Derived.Shelf.RegionOpen
import Derived.OwnWalkIn
import Derived.TacticsInMore
import Derived.LoopNIn
import Derived.LoopIn
import Derived.Lib.AppendZerosOnto
import Derived.Lib.SliceRun
import Derived.Lib.Walk
import Derived.Deep.LoopGhost
import Derived.Laws.CopyOwn
import Derived.Laws.CopyRow
namespace Go.Proofs.Ytcibihakjcenaaa
open Go.RowKit Go.Shelf
attribute [local go_sem] Oper.semAt_some

theorem cell_new_l (W : World) (v : Value) (t : TypeId) : (W.alloc (.cells #[v] t)).cell? ⟨W.heap.size, 0, none⟩ = some v ∧ (W.alloc (.cells #[v] t)).frozen? ⟨W.heap.size, 0, none⟩ = false :=
  ⟨by rw [World.cell?_alloc_new]; rfl, by apply World.frozen?_alloc_at; rfl⟩
theorem cell_alloc_l {W : World} {a : Addr} {v : Value} (o : Obj) (h : W.cell? a = some v) : (W.alloc o).cell? a = some v := cell_kept h (World.grownBy_alloc W o none) (fun r e => by cases e)
theorem frozen_alloc_l {W : World} {a : Addr} {v : Value} (o : Obj) (h : W.cell? a = some v) (hf : W.frozen? a = false) : (W.alloc o).frozen? a = false := (frozen_kept h (World.grownBy_alloc W o none) (fun r e => by cases e)).trans hf

/-- What has come of l from behind when k rounds are over: places and bytes. -/
def backTo (l : List UInt8) (k : Nat) : List (Nat × UInt8) := (List.range k).map fun j => (l.length - 1 - j, l.getD (l.length - 1 - j) 0)
theorem backTo_succ (l : List UInt8) (k : Nat) : backTo l (k + 1) = backTo l k ++ [(l.length - 1 - k, l.getD (l.length - 1 - k) 0)] := by simp [backTo, List.range_succ]
theorem backTo_length (l : List UInt8) (k : Nat) : (backTo l k).length = k := by simp [backTo]

/-- What a round keeps: all that lies below n₀, and one cell (the iterator's own). -/
def KeepB (n₀ Bs : Nat) (A B : World) : Prop := Below n₀ A B ∧ B.cell? ⟨Bs, 0, none⟩ = A.cell? ⟨Bs, 0, none⟩
theorem KeepB.refl (n₀ Bs : Nat) (A : World) : KeepB n₀ Bs A A := ⟨Below.refl _ _, rfl⟩
theorem KeepB.trans {n₀ Bs : Nat} {A B C : World} (h : KeepB n₀ Bs A B) (k : KeepB n₀ Bs B C) : KeepB n₀ Bs A C := ⟨h.1.trans k.1, k.2.trans h.2⟩
theorem keepB_b {w : World} {n₀ Bs : Nat} (hn : n₀ ≤ w.heap.size) (hB : Bs < w.heap.size) : ∀ (W : World) (l : Nat) (o o' : Obj), w.heap.size ≤ l → W.heap[l]? = some o → o.isCells = false → o.isWalk = false → KeepB n₀ Bs W (W.putObj l o') :=
  fun W l o o' h1 h2 h3 h4 => ⟨belowK_b hn W l o o' h1 h2 h3 h4, (belowK_b (w := w) (n₀ := Bs + 1) (by omega) W l o o' h1 h2 h3 h4).cell (p := ⟨Bs, 0, none⟩) (Nat.lt_succ_self _)⟩

set_option maxRecDepth 100000 in
set_option maxHeartbeats 2000000 in
theorem back1_in (F : Fence) (n : Nat) (h7 : F.fn 157) (hro : F.round = none) (hn : 1 ≤ n) (l Bs n₀ b off cap : Nat) (bs : List UInt8) (hlm : bs.length ≤ cap) (hcm : cap ≤ maxLen) (hb : b < n₀) (J Jx : List (Nat × UInt8) → World → Prop)
    (hY : ∀ pre x W, J pre W → pre.length < bs.length → YieldAt F (n - 1) Try.prog l #[.int .i64 (x.1 : Int), bV x.2] W fun e W' =>
      (e = .returned (.bool true) ∧ J (pre ++ [x]) W' ∧ KeepB n₀ Bs W W') ∨ (e = .returned (.bool false) ∧ Jx (pre ++ [x]) W'))
    (W : World) (hBs : W.cell? ⟨Bs, 0, none⟩ = some (.slice (some ⟨b, off, none⟩) bs.length cap)) (hc : ∀ i x, bs[i]? = some x → W.cell? ⟨b, off + i, none⟩ = some (bV x)) (h0 : J [] W) :
    CallsIn F n Try.prog 157 #[.func (.yield l) #[] #[], .pointer (some ⟨Bs, 0, none⟩)] W fun e W' => (∃ v, e = .returned v) ∧
      ((∃ ys, ys = backTo bs bs.length ∧ J ys W') ∨ (∃ pre, (∃ k, k ≤ bs.length ∧ pre = backTo bs k) ∧ Jx pre W')) := by
  unfold maxLen at hcm
  refine callsIn_of_wp Try.func157 rfl h7 ?_ hro
  simp only [Try.ntmps157, List.size_toArray, List.length_cons, List.length_nil, Nat.reduceAdd, Nat.reduceSub, Array.replicate_succ, Array.replicate_zero, List.push_toArray, List.append_toArray, List.nil_append, List.cons_append]
  gi_wp2
  gi_loopw [3] (fun i wr => ∃ k : Nat, k ≤ bs.length ∧ i = .int .i64 ((bs.length : Int) - 1 - k) ∧ J (backTo bs k) wr ∧ KeepB n₀ Bs W wr)
    (fun i _ => (intOf i + 1).toNat)
  case atStart => exact ⟨0, Nat.zero_le _, by simp, h0, KeepB.refl _ _ _⟩
  case round =>
    obtain ⟨k, hk, rfl, hJs, hnx⟩ := hrel
    have hBs' : wr.cell? ⟨Bs, 0, none⟩ = some (.slice (some ⟨b, off, none⟩) bs.length cap) := hnx.2.trans hBs
    by_cases hlt : k < bs.length
    · obtain ⟨m, hm, hmk⟩ : ∃ m : Nat, m < bs.length ∧ m + 1 + k = bs.length := ⟨bs.length - 1 - k, by omega, by omega⟩
      have hcx : wr.cell? ⟨b, off + m, none⟩ = some (bV (bs.getD m 0)) := (hnx.1.cell (p := ⟨b, off + m, none⟩) hb).trans (hc m _ (by simp [hm]))
      obtain ⟨fn, tmps, assign, body, hy, hR⟩ := hY _ (m, bs.getD m 0) wr hJs (by rw [backTo_length]; exact hlt)
      have hsucc : backTo bs (k + 1) = backTo bs k ++ [(m, bs.getD m 0)] := by rw [backTo_succ, show bs.length - 1 - k = m by omega]
      have HS := Lib.hid hsucc
      clear hsucc
      rw [show ((bs.length : Int) - 1 - (k : Int)) = (m : Int) by omega]
      dsimp only at hy
      generalize bs.getD m 0 = x at *
      unfold bV at hcx hy
      have HK := Lib.hid hmk
      clear hmk
      gi_wp2
      refine hR.mono ?_
      rintro e W3 (⟨rfl, hJ3, hk3⟩ | ⟨rfl, hJx3⟩)
      · gi_wp2
        go_roundw
        case rel => exact ⟨k + 1, by omega, by have := HK.out; congr 1 <;> omega, by rw [HS.out]; exact hJ3, hnx.trans hk3⟩
        case measure => (simp [intOf])
      · gi_wp2
        refine bodyPost_ret (results_none rfl _ _ _) rfl ?_
        exact ⟨⟨_, rfl⟩, .inr ⟨_, ⟨k + 1, by omega, HS.out.symm⟩, hJx3⟩⟩
    · obtain rfl : k = bs.length := by omega
      gi_wp2
      go_end0
      exact ⟨⟨_, rfl⟩, .inl ⟨_, rfl, hJs⟩⟩

set_option maxRecDepth 100000 in
set_option maxHeartbeats 1000000 in
theorem back1_none (F : Fence) (n : Nat) (h7 : F.fn 157) (hro : F.round = none) (l Bs cap : Nat) (a : Option Addr) (J : List (Nat × UInt8) → World → Prop) (W : World) (hBs : W.cell? ⟨Bs, 0, none⟩ = some (.slice a 0 cap)) (h0 : J [] W) :
    CallsIn F n Try.prog 157 #[.func (.yield l) #[] #[], .pointer (some ⟨Bs, 0, none⟩)] W fun e W' => (∃ v, e = .returned v) ∧ J [] W' := by
  refine callsIn_of_wp Try.func157 rfl h7 ?_ hro
  simp only [Try.ntmps157, List.size_toArray, List.length_cons, List.length_nil, Nat.reduceAdd, Nat.reduceSub, Array.replicate_succ, Array.replicate_zero, List.push_toArray, List.append_toArray, List.nil_append, List.cons_append]
  gi_wp2
  gi_loopw [3] (fun i wr => i = .int .i64 (-1) ∧ J [] wr) (fun _ _ => 0)
  case atStart => exact ⟨rfl, h0⟩
  case round =>
    obtain ⟨rfl, hJs⟩ := hrel
    gi_wp2
    go_end0
    exact ⟨⟨_, rfl⟩, hJs⟩

set_option maxHeartbeats 1000000 in
theorem back_in (F : Fence) (n : Nat) (h5 : F.fn 136) (hro : F.round = none) (a : Option Addr) (len cap : Nat) (w : World) :
    CallsIn F n Try.prog 136 #[.slice a len cap] w fun e w' => e = .returned (.func (.func 157) #[] #[.pointer (some ⟨w.heap.size, 0, none⟩)]) ∧ w' = w.alloc (.cells #[.slice a len cap] 26) := by
  refine callsIn_of_wp Try.func136 rfl h5 ?_ hro
  simp only [Try.ntmps136, List.size_toArray, List.length_cons, List.length_nil, Nat.reduceAdd, Nat.reduceSub, Array.replicate_succ, Array.replicate_zero, List.push_toArray, List.append_toArray, List.nil_append, List.cons_append]
  gi_wp2
  go_ret
  exact ⟨rfl, rfl⟩

/-- The value that slices.Backward hands back: all places and bytes, from behind; or the first k of them. -/
theorem back_stops (F : Fence) (n : Nat) (h7 : F.fn 157) (hro : F.round = none) (hn : 1 ≤ n) (Bs n₀ lo : Nat) (sv : Value) (bs : List UInt8) (w : World) (hBs : Bs < w.heap.size) (hn₀ : n₀ ≤ w.heap.size)
    (hc : w.cell? ⟨Bs, 0, none⟩ = some sv) (hI : Bytes w lo n₀ sv bs) :
    SeqStopsK F n Try.prog 157 #[.pointer (some ⟨Bs, 0, none⟩)] (fun x : Nat × UInt8 => #[.int .i64 (x.1 : Int), .int .u8 (x.2.toNat : Int)]) (KeepB n₀ Bs) (fun ys => ys = backTo bs bs.length)
      (fun pre => ∃ k, k ≤ bs.length ∧ pre = backTo bs k) bs.length w := fun l J Jx W hW _ _ hY h0 => by
  have hc' := (hW.cell (p := ⟨Bs, 0, none⟩) hBs).trans hc
  obtain ⟨a, c, rfl, h1, h2, h3, _⟩ := hI.below hW hn₀
  rcases Nat.eq_zero_or_pos bs.length with hz | hp
  · have : bs = [] := List.eq_nil_of_length_eq_zero hz
    subst this
    exact (back1_none F n h7 hro l Bs c a J W hc' h0).mono fun e W' ⟨he, hj⟩ => ⟨he, .inl ⟨_, rfl, hj⟩⟩
  · obtain ⟨b, off, rfl, _, hb, hcs⟩ := h3 hp
    exact back1_in F n h7 hro hn l Bs n₀ b off c bs h1 h2 hb J Jx hY W hc' hcs h0
end Go.Proofs.Ytcibihakjcenaaa

namespace Go.Proofs.Ytcibihakjcenaaa
open Go.RowKit Go.Shelf
attribute [local go_sem] Oper.semAt_some

/-- The number of some bytes, the lowest first. -/
def numOf : List UInt8 → Nat
  | [] => 0
  | x :: l => x.toNat + 256 * numOf l

def foldBack (pre : List (Nat × UInt8)) : Int := pre.foldl (fun n x => bits BinOp.or IntKind.u32 (n * 256 % 4294967296) x.2.toNat) 0

set_option maxRecDepth 100000 in
set_option maxHeartbeats 2000000 in
theorem get_yes (v : Value) (l : List UInt8) (at_ many : Nat) (w : World) (hI : Bytes w 0 w.heap.size v l) (h1 : at_ + many ≤ l.length) (h0 : 0 < many) :
    Calls Try.prog 107 #[v, .int .i64 at_, .int .i64 many] w fun e w' =>
      e = .returned (.tuple #[.int .u32 (foldBack (backTo ((l.drop at_).take many) many)), .int .i64 0]) ∧ Below w.heap.size w w' := by
  obtain ⟨a, c, rfl, g1, g2, g3, _⟩ := id hI
  obtain ⟨b, off, rfl, _, hb, hc⟩ := g3 (by omega)
  unfold maxLen at g2
  refine (callsIn_wide (n := 3)).1 ?_
  refine callsIn_of_wp_marks Try.func107 rfl trivial ?_ rfl
  simp only [Try.ntmps107, List.size_toArray, List.length_cons, List.length_nil, Nat.reduceAdd, Nat.reduceSub, Array.replicate_succ, Array.replicate_zero, List.push_toArray, List.append_toArray, List.nil_append, List.cons_append]
  have hcut : Bytes w 0 w.heap.size (.slice (some ⟨b, off + at_, none⟩) many (c - at_)) ((l.drop at_).take many) := hI.cut at_ many _ h1 (by omega) (by unfold maxLen; omega)
  have hlen : ((l.drop at_).take many).length = many := by simp; omega
  generalize (l.drop at_).take many = bs at *
  clear hc g3 hI
  gi_wp2_with (refine ⟨trivial, ?_⟩; gi_at_call 136; refine (back_in Fence.wide _ trivial rfl _ _ _ _).mono ?_; rintro e w' ⟨rfl, rfl⟩)
  have hs := cell_new_l w (.int .u32 0) 22
  have hb1 := cell_new_l (w.alloc (.cells #[.int .u32 0] 22)) (.slice (some ⟨b, off + at_, none⟩) many (c - at_)) 26
  rw [World.size_alloc] at hb1
  have hcut2 := hcut.below (((Below.refl _ w).alloc (Nat.le_refl _) (.cells #[.int .u32 0] 22)).alloc (by simp) (.cells #[.slice (some ⟨b, off + at_, none⟩) many (c - at_)] 26)) (Nat.le_refl _)
  refine wpIn_rangeFunc_ownF rfl (by omega) (gf := 157) (lb := #[.pointer (some ⟨w.heap.size + 1, 0, none⟩)]) rfl trivial (enters_of Try.func157 (by kernel_rfl) rfl)
    (back_stops Fence.wide 2 trivial rfl (by omega) (w.heap.size + 1) w.heap.size 0 _ bs _ (by simp) (by simp; omega) hb1.1 hcut2) KeepB.trans (keepB_b (by simp; omega) (by simp)) (Below.refl _ _) (fun _ => rfl)
    (fun pre W => (W.cell? ⟨w.heap.size, 0, none⟩ = some (.int .u32 (foldBack pre)) ∧ W.frozen? ⟨w.heap.size, 0, none⟩ = false) ∧ Below w.heap.size w W)
    (fun _ _ _ => False)
    (OwnFrom.and (Own.from (fun s A B row hs hg hr => ⟨cell_kept hs.1 hg hr, (frozen_kept hs.1 hg hr).trans hs.2⟩) _) (ownFrom_below (Nat.le_refl _) (by simp; omega)))
    (fun _ => Own.from (fun _ _ _ _ hs _ _ => hs) _)
    ⟨⟨cell_alloc_l _ hs.1, frozen_alloc_l _ hs.1 hs.2⟩, (((Below.refl _ w).alloc (Nat.le_refl _) _).alloc (by simp) _)⟩
    ?a1 ?assign ?body ?done ?stop
  case assign =>
    intro l x W K hK
    gi_wp2
    exact hK
  case body =>
    rintro r pre ⟨i, x⟩ W ⟨⟨hc, hf⟩, hB⟩ _
    have hx : (x.toNat : Int) < 256 := by have := x.toNat_lt; omega
    obtain ⟨q, hq⟩ : ∃ q, foldBack pre = q := ⟨_, rfl⟩
    have HQ := Lib.hid hq
    rw [hq] at hc
    clear hq hcut2 hb1 hs
    gi_wp2
    refine ⟨KeepsOthers.setCell _ _ _, ⟨(Below.refl w.heap.size W).setCell (p := ⟨w.heap.size, 0, none⟩) (Nat.le_refl _) _, World.cell?_setCell_other _ _ _ _ (by simp)⟩, ⟨?_, by rw [World.frozen?_setCell]; exact hf⟩, hB.setCell (p := ⟨w.heap.size, 0, none⟩) (Nat.le_refl _) _⟩
    rw [show foldBack (pre ++ [(i, x)]) = bits BinOp.or IntKind.u32 (foldBack pre * 256 % 4294967296) x.toNat by simp [foldBack], HQ.out]
    exact World.cell?_setCell_same' _ _ _ (by rw [hc]; rfl)
  case done =>
    rintro D ys W hD rfl ⟨⟨hc, hf⟩, hB⟩ hK
    gi_wp2
    have hK2 : (W.setCell ⟨w.heap.size, 0, none⟩ (.int .u32 (foldBack (backTo bs many)))).heap[D]? = some (.deferred (some [])) := (KeepsOthers.setCell W _ _).same D _ hK rfl
    refine ⟨by simp, .inl ⟨_, _, rfl, run_takeDeferred hK2, ?_⟩⟩
    have hcf : ((W.setCell ⟨w.heap.size, 0, none⟩ (.int .u32 (foldBack (backTo bs many)))).putObj D (.deferred none)).cell? ⟨w.heap.size, 0, none⟩ = some (.int .u32 (foldBack (backTo bs many))) :=
      cell_kept (World.cell?_setCell_same' _ _ _ (by rw [hc]; rfl)) (grownBy_putObj' _ D (.deferred none)) (fun r e => by cases e; exact ⟨_, hK2, rfl⟩)
    simp at hD
    exact ⟨.tuple #[.int .u32 (foldBack (backTo bs many)), .int .i64 0], by simp [results, Try.results107, go_sem, hcf], rfl,
      (hB.setCell (p := ⟨w.heap.size, 0, none⟩) (Nat.le_refl _) _).trans (belowK_b (w := w) (Nat.le_refl _) _ D _ _ (by omega) hK2 rfl rfl)⟩
  case stop =>
    intro D c pre W _ _ h _
    exact h.elim

theorem or_step (q x : Nat) (hq : q < 16777216) (hx : x < 256) : bits BinOp.or IntKind.u32 ((q : Int) * 256 % 4294967296) (x : Int) = ((q * 256 + x : Nat) : Int) := by
  have e : ((q : Int) * 256 % 4294967296) = ((q * 256 : Nat) : Int) := by omega
  rw [e, bits_join .u32 32 (by decide) (fun n h₀ h₁ => by rw [IntKind.wrap_u32]; omega) 8 _ _ (by omega) (by omega) (by omega) (by omega) (by omega) (by omega)]
  omega

theorem foldBack_two (a b : UInt8) : foldBack (backTo [a, b] 2) = (numOf [a, b] : Int) := by
  have ha := a.toNat_lt
  have hb := b.toNat_lt
  have h1 := or_step 0 b.toNat (by omega) (by omega)
  have h2 := or_step b.toNat a.toNat (by omega) (by omega)
  simp at h1
  simp [foldBack, backTo, List.range, List.range.loop, h1, h2, numOf]
  omega
theorem foldBack_four (a b c d : UInt8) : foldBack (backTo [a, b, c, d] 4) = (numOf [a, b, c, d] : Int) := by
  have ha := a.toNat_lt
  have hb := b.toNat_lt
  have hc := c.toNat_lt
  have hd := d.toNat_lt
  have h1 := or_step 0 d.toNat (by omega) (by omega)
  have h2 := or_step d.toNat c.toNat (by omega) (by omega)
  have h3 := or_step (d.toNat * 256 + c.toNat) b.toNat (by omega) (by omega)
  have h4 := or_step ((d.toNat * 256 + c.toNat) * 256 + b.toNat) a.toNat (by omega) (by omega)
  simp at h1
  simp only [foldBack, backTo, List.range, List.range.loop, List.map_cons, List.map_nil, List.foldl_cons, List.foldl_nil, List.length_cons, List.length_nil, Nat.reduceAdd, Nat.reduceSub, List.getD_cons_zero, List.getD_cons_succ, Int.zero_mul]
  rw [show (0 : Int) % 4294967296 = 0 by decide, h1, h2, h3, h4]
  simp [numOf]
  omega

/-- What get answers: a number and an error. -/
def getN (l : List UInt8) (at_ : Int) (many : Nat) : Nat := if 0 ≤ at_ ∧ at_.toNat + many ≤ l.length then numOf ((l.drop at_.toNat).take many) else 0
def getE (l : List UInt8) (at_ : Int) (many : Nat) : Int := if 0 ≤ at_ ∧ at_.toNat + many ≤ l.length then 0 else 8

set_option maxRecDepth 100000 in
set_option maxHeartbeats 1000000 in
theorem get_no (v : Value) (l : List UInt8) (at_ : Int) (many : Nat) (w : World) (hI : Bytes w 0 w.heap.size v l) (h1 : ¬ (0 ≤ at_ ∧ at_.toNat + many ≤ l.length)) (h4 : many ≤ 4) :
    Calls Try.prog 107 #[v, .int .i64 at_, .int .i64 many] w fun e w' => e = .returned (.tuple #[.int .u32 0, .int .i64 8]) ∧ Below w.heap.size w w' := by
  obtain ⟨a, c, rfl, g1, g2, g3⟩ := hI
  unfold maxLen at g2
  clear g3
  by_cases hneg : at_ < 0
  · go_enter Try.func107, Try.ntmps107
    go_wp2
    exact bodyPost_ret (v := .tuple #[.int .u32 0, .int .i64 8]) (by simp [results, Try.results107, go_sem]) rfl ⟨rfl, (Below.refl _ _).alloc (Nat.le_refl _) _⟩
  · have hgt : (l.length : Int) - many < at_ := by omega
    go_enter Try.func107, Try.ntmps107
    go_wp2
    exact bodyPost_ret (v := .tuple #[.int .u32 0, .int .i64 8]) (by simp [results, Try.results107, go_sem]) rfl ⟨rfl, (Below.refl _ _).alloc (Nat.le_refl _) _⟩

theorem get_any (v : Value) (l : List UInt8) (at_ : Int) (many : Nat) (w : World) (hI : Bytes w 0 w.heap.size v l) (hm : many = 2 ∨ many = 4) :
    Calls Try.prog 107 #[v, .int .i64 at_, .int .i64 many] w fun e w' => e = .returned (.tuple #[.int .u32 (getN l at_ many), .int .i64 (getE l at_ many)]) ∧ Below w.heap.size w w' := by
  by_cases h : 0 ≤ at_ ∧ at_.toNat + many ≤ l.length
  · obtain ⟨k, rfl⟩ := Int.eq_ofNat_of_zero_le h.1
    simp at h
    have hk : (l.drop k).length = l.length - k := by simp
    have e1 : foldBack (backTo ((l.drop k).take many) many) = (getN l k many : Int) := by
      simp only [getN, Int.toNat_natCast]
      rw [if_pos (by omega)]
      rcases hm with rfl | rfl
      · match (l.drop k), hk with
        | a :: b :: r, _ => exact foldBack_two a b
        | [], hk => simp at hk; omega
        | [a], hk => simp at hk; omega
      · match (l.drop k), hk with
        | a :: b :: c :: d :: r, _ => exact foldBack_four a b c d
        | [], hk => simp at hk; omega
        | [a], hk => simp at hk; omega
        | [a, b], hk => simp at hk; omega
        | [a, b, c], hk => simp at hk; omega
    have e2 : getE l k many = 0 := by simp only [getE, Int.toNat_natCast]; rw [if_pos (by omega)]
    rw [← e1, e2]
    exact get_yes v l k many w hI h (by omega)
  · have e1 : getN l at_ many = 0 := by rw [getN, if_neg h]
    have e2 : getE l at_ many = 8 := by rw [getE, if_neg h]
    rw [e1, e2]
    exact get_no v l at_ many w hI h (by omega)

theorem numOf_lt : ∀ l : List UInt8, numOf l < 256 ^ l.length
  | [] => by simp [numOf]
  | x :: l => by
    have := numOf_lt l
    have := x.toNat_lt
    simp only [numOf, List.length_cons, Nat.pow_succ]
    omega
theorem getN_lt (l : List UInt8) (at_ : Int) (many : Nat) : getN l at_ many < 256 ^ many := by
  unfold getN
  split
  · exact Nat.lt_of_lt_of_le (numOf_lt _) (Nat.pow_le_pow_right (by decide) (by simp; omega))
  · exact Nat.pow_pos (by decide)

set_option maxHeartbeats 1000000 in
theorem getTwo_any (v : Value) (l : List UInt8) (at_ : Int) (w : World) (hI : Bytes w 0 w.heap.size v l) :
    Calls Try.prog 61 #[v, .int .i64 at_] w fun e w' => e = .returned (.tuple #[.int .i64 (getN l at_ 2), .int .i64 (getE l at_ 2)]) ∧ Below w.heap.size w w' := by
  have hn := getN_lt l at_ 2
  have hc := get_any v l at_ 2 w hI (.inl rfl)
  generalize getN l at_ 2 = n at *
  generalize getE l at_ 2 = f at *
  clear hI
  go_enter Try.func61, Try.ntmps61
  go_wp2_with (go_at_call 107; refine hc.mono ?_; rintro e w' ⟨rfl, hb⟩)
  go_ret2
  exact ⟨rfl, hb⟩

set_option maxHeartbeats 1000000 in
theorem getFour_any (v : Value) (l : List UInt8) (at_ : Int) (w : World) (hI : Bytes w 0 w.heap.size v l) :
    Calls Try.prog 60 #[v, .int .i64 at_] w fun e w' => e = .returned (.tuple #[.int .u32 (getN l at_ 4), .int .i64 (getE l at_ 4)]) ∧ Below w.heap.size w w' := by
  have hc := get_any v l at_ 4 w hI (.inr rfl)
  generalize getN l at_ 4 = n at *
  generalize getE l at_ 4 = f at *
  clear hI
  go_enter Try.func60, Try.ntmps60
  go_wp2_with (go_at_call 107; refine hc.mono ?_; rintro e w' ⟨rfl, hb⟩)
  go_ret2
  exact ⟨rfl, hb⟩

/-- A number's bytes. -/
def twoL (n : Nat) : List UInt8 := [UInt8.ofNat n, UInt8.ofNat (n / 256)]
def fourL (n : Nat) : List UInt8 := [UInt8.ofNat n, UInt8.ofNat (n / 256), UInt8.ofNat (n / 65536), UInt8.ofNat (n / 16777216)]

theorem two_yes (n : Nat) (w : World) (h : n < 65536) :
    Calls Try.prog 53 #[.int .i64 n] w fun e w' => ∃ v, e = .returned (.tuple #[v, .int .i64 0]) ∧ MadeB w w' v (twoL n) := by
  have h0 : ((n : Int) / 65536 != 0) = false := by simp; omega
  go_enter Try.func53, Try.ntmps53
  go_wp2
  go_ret2
  refine ⟨_, rfl, MadeB.new (Below.refl _ _) _ _ (by simp [twoL, maxLen]) _ ?_ _ (by simp [twoL])⟩
  simp only [twoL, List.map_cons, List.map_nil]
  rw [bV_ofNat _ n (by omega), bV_ofNat _ (n / 256) (by omega)]

theorem four_any (n : Nat) (w : World) (h : n < 4294967296) :
    Calls Try.prog 55 #[.int .u32 n] w fun e w' => ∃ v, e = .returned v ∧ MadeB w w' v (fourL n) := by
  go_enter Try.func55, Try.ntmps55
  go_wp2
  go_ret
  refine ⟨_, rfl, MadeB.new (Below.refl _ _) _ _ (by simp [fourL, maxLen]) _ ?_ _ (by simp [fourL])⟩
  simp only [fourL, List.map_cons, List.map_nil]
  rw [bV_ofNat _ n (by omega), bV_ofNat _ (n / 256) (by omega), bV_ofNat _ (n / 65536) (by omega), bV_ofNat _ (n / 16777216) (by omega)]
end Go.Proofs.Ytcibihakjcenaaa

namespace Go.Proofs.Ytcibihakjcenaaa
open Go.RowKit

theorem info_u8 : (Try.prog.info? 5).map (fun i => (i.zero, i.size, i.bytes)) = some (some (.int .u8 0), 1, 1) := by kernel_rfl

end Go.Proofs.Ytcibihakjcenaaa

namespace Go.Proofs.Ytcibihakjcenaaa
open Go.RowKit

/-- copy into a row of bytes. -/
theorem wpList_copyB {P : Program} {w : World} {ops : Array Oper} {rest : List Oper} {o : Oper} {a : Act} {Q : Exit → Act → World → Prop} (hgd : o.guard = none) (d s : Operand) (dT sT : TypeId)
    (ho : o.op = .call { callee := .builtin .copy, args := #[d, s], argTypes := #[dT, sT] }) (e : TypeId) (hu : P.underlying dT = some (.slice e))
    (hi : (P.info? e).map (fun i => (i.zero, i.size, i.bytes)) = some (some (.int .u8 0), 1, 1)) (g off dLen dCap : Nat) (hd : a.eval d = .slice (some ⟨g, off, none⟩) dLen dCap)
    (L : List UInt8) (hrow : RowB w g e L) (lo hi' : Nat) (sv : Value) (bs : List UInt8) (hs : a.eval s = sv) (hr : Bytes w lo hi' sv bs) (hfit : off + min bs.length dLen ≤ L.length)
    (B : Nat) (hBg : B ≤ g) (h : ∀ w', RowB w' g e (splice L off (bs.take (min bs.length dLen))) → Below B w w' → wpList P ops Q rest (a.put o.dst (goInt ((min bs.length dLen : Nat) : Int))) w') : wpList P ops Q (o :: rest) a w := by
  obtain ⟨i0, hi0, hz0, hz1, hz2⟩ := info_parts hi
  obtain ⟨sp, sc, rfl, h1, h2, h3, h4⟩ := hr
  have hn : (bs.take (min bs.length dLen)).length = min bs.length dLen := by rw [List.length_take]; omega
  have hn' : ((bs.take (min bs.length dLen)).map bV).length = Nat.min bs.length dLen := by rw [List.length_map, hn]
  refine wpList_copy_splice hgd d s dT sT ho e hu (by rw [hi0]; simp [hz1]) _ _ _ _ _ _ hd hs g off (L.map bV) e hrow ((bs.take (min bs.length dLen)).map bV) hn' ?_ ?_ ?_ B w (Below.refl _ _) hBg ?_
  · intro hp
    refine ⟨rfl, ?_⟩
    rw [hn'] at hp
    have hp' : 0 < bs.length := by have : Nat.min bs.length dLen ≤ bs.length := Nat.min_le_left _ _; omega
    obtain ⟨b, o2, rfl, _, _, hc⟩ := h3 hp'
    refine ⟨_, rfl, fun j v hj => ?_⟩
    have e2 : (⟨b, o2, none⟩ : Addr).add j = ⟨b, o2 + j, none⟩ := by unfold Addr.add; split <;> simp_all
    rw [List.getElem?_map, List.getElem?_take] at hj
    split at hj
    · cases hx : bs[j]? with
      | none => rw [hx] at hj; cases hj
      | some x =>
        rw [hx] at hj
        cases hj
        rw [e2]
        exact hc j x hx
    · cases hj
  · rw [List.length_map, List.length_map, hn]; exact hfit
  · intro u hu
    obtain ⟨y, _, rfl⟩ := List.mem_map.1 hu
    rfl
  · intro w' hrow' hb
    rw [List.length_map, hn]
    refine h w' ?_ hb
    have h5 := hrow'.out
    unfold RowB
    rw [h5]
    simp [splice, List.map_take, List.map_drop]
end Go.Proofs.Ytcibihakjcenaaa

namespace Go.Proofs.Ytcibihakjcenaaa
open Go.RowKit

/-- Block g alone may have turned. -/
def OnlyAt (g : Nat) (w w' : World) : Prop := Below g w w' ∧ w'.heap.size = w.heap.size ∧ ∀ k, k ≠ g → w'.heap[k]? = w.heap[k]?
theorem OnlyAt.refl (g : Nat) (w : World) : OnlyAt g w w := ⟨Below.refl _ _, rfl, fun _ _ => rfl⟩

theorem wpList_copyF {P : Program} {w : World} {ops : Array Oper} {rest : List Oper} {o : Oper} {a : Act} {Q : Exit → Act → World → Prop} (hgd : o.guard = none) (d s : Operand) (dT sT : TypeId)
    (ho : o.op = .call { callee := .builtin .copy, args := #[d, s], argTypes := #[dT, sT] }) (e : TypeId) (hu : P.underlying dT = some (.slice e))
    (hi : (P.info? e).map (fun i => (i.zero, i.size, i.bytes)) = some (some (.int .u8 0), 1, 1)) (g off dLen dCap : Nat) (hd : a.eval d = .slice (some ⟨g, off, none⟩) dLen dCap)
    (L : List UInt8) (hrow : RowB w g e L) (lo hi' : Nat) (sv : Value) (bs : List UInt8) (hs : a.eval s = sv) (hr : Bytes w lo hi' sv bs) (hfit : bs.length ≤ dLen) (hfit2 : off + bs.length ≤ L.length)
    (h : ∀ w', RowB w' g e (splice L off bs) → OnlyAt g w w' → wpList P ops Q rest (a.put o.dst (goInt ((bs.length : Nat) : Int))) w') : wpList P ops Q (o :: rest) a w := by
  obtain ⟨i0, hi0, hz0, hz1, hz2⟩ := info_parts hi
  obtain ⟨sp, sc, rfl, h1, h2, h3, h4⟩ := hr
  have hmin : Nat.min bs.length dLen = bs.length := Nat.min_eq_left hfit
  have hsz : (P.info? e).map (·.size) = some 1 := by rw [hi0]; simp [hz1]
  by_cases h0 : bs.length = 0
  · obtain rfl : bs = [] := List.eq_nil_of_length_eq_zero h0
    refine wpList_copy_nothing hgd d s dT sT ho e hu hsz _ _ _ _ _ _ hd hs hmin ?_
    exact h w (by simpa [splice] using hrow) (OnlyAt.refl _ _)
  · obtain ⟨b, o2, rfl, _, _, hc⟩ := h3 (by omega)
    refine wpList_copy_own hgd d s dT sT ho e hu hsz g off dLen dCap _ _ _ hd hs (L.map bV).toArray e hrow (bs.map bV) (by rw [List.length_map, hmin]) ?_ (by simpa using hfit2) ?_ ?_
    · intro j v hj
      have e2 : (⟨b, o2, none⟩ : Addr).add j = ⟨b, o2 + j, none⟩ := by unfold Addr.add; split <;> simp_all
      rw [List.getElem?_map] at hj
      cases hx : bs[j]? with
      | none => rw [hx] at hj; cases hj
      | some x =>
        rw [hx] at hj
        cases hj
        rw [e2]
        exact hc j x hx
    · intro u hu
      obtain ⟨y, _, rfl⟩ := List.mem_map.1 hu
      rfl
    · rw [List.length_map]
      refine h _ ?_ ⟨below_setRow (Below.refl _ _) (Nat.le_refl _) _, by simp [World.setRow], fun k hk => setRow_other w g k _ (by omega)⟩
      unfold RowB
      rw [setRow_heap w g (L.map bV).toArray _ e (0, 0) hrow]
      simp [splice, List.map_take, List.map_drop]
end Go.Proofs.Ytcibihakjcenaaa

