/- CountNames: the words and contracts, part 16. -/
import Derived.Test.YtfdogefoodljaaaCountNamesQ1
import Derived.Test.YtfdogefoodljaaaCountNamesQ2
import Derived.Test.YtfdogefoodljaaaCountNamesQ4
import Derived.WalkKit
import Derived.WalkLawsBesides
import Derived.WalkSpells
import Derived.Lib.Hide
import Derived.Laws.Rows
import Derived.Laws.AppendOwnNone
import Derived.Maps.AppendAt
import Derived.RangeFuncNested
import Derived.RangeFuncBound
import Derived.RangeFuncCalls
import Derived.RangeFuncLeaves
import Derived.RangeFuncBox
import Derived.Shelf.Abstract
import Derived.Shelf.RegionOpen
import Derived.OwnWalkIn
import Derived.TacticsInMore
import Derived.LoopNIn
import Derived.LoopIn
import Derived.OrdersHeld
import Derived.Deep.QuietTactic
import Derived.BigQuiet
import Derived.StillTailTactics
namespace Go.Proofs.Ytfdogefoodljaaa
open Go.RowKit

def KeepC (n₀ Bs : Nat) (A B : World) : Prop := Below n₀ A B ∧ B.cell? ⟨Bs, 0, none⟩ = A.cell? ⟨Bs, 0, none⟩ ∧ B.cell? ⟨Bs + 1, 0, none⟩ = A.cell? ⟨Bs + 1, 0, none⟩
theorem KeepC.refl (n₀ Bs : Nat) (A : World) : KeepC n₀ Bs A A := ⟨Below.refl _ _, rfl, rfl⟩
theorem KeepC.trans {n₀ Bs : Nat} {A B C : World} (h : KeepC n₀ Bs A B) (k : KeepC n₀ Bs B C) : KeepC n₀ Bs A C := ⟨h.1.trans k.1, k.2.1.trans h.2.1, k.2.2.trans h.2.2⟩
theorem keepC_b {w : World} {n₀ Bs : Nat} (hn : n₀ ≤ w.heap.size) (hB : Bs + 1 < w.heap.size) : ∀ (W : World) (l : Nat) (o o' : Obj), w.heap.size ≤ l → W.heap[l]? = some o → o.isCells = false → o.isWalk = false → KeepC n₀ Bs W (W.putObj l o') :=
  fun W l o o' h1 h2 h3 h4 => ⟨belowK_b hn W l o o' h1 h2 h3 h4, (belowK_b (w := w) (n₀ := Bs + 1) (by omega) W l o o' h1 h2 h3 h4).cell (p := ⟨Bs, 0, none⟩) (Nat.lt_succ_self _),
    (belowK_b (w := w) (n₀ := Bs + 2) (by omega) W l o o' h1 h2 h3 h4).cell (p := ⟨Bs + 1, 0, none⟩) (Nat.lt_succ_self _)⟩
def chL (k : Nat) : List (Fin 2) := [0, 1].take k
def encC (b off : Nat) (x : Fin 2) : Array Value := #[.slice (some ⟨b, off + x.1 * 128, none⟩) 128 128]

set_option maxRecDepth 100000 in
set_option maxHeartbeats 2000000 in
theorem chunk1_in (F : Fence) (n : Nat) (h7 : F.fn 87) (hro : F.round = none) (hn : 1 ≤ n) (l Bs n₀ b off cap : Nat) (hlm : 256 ≤ cap) (hcm : cap ≤ maxLen) (J Jx : List (Fin 2) → World → Prop) (hJd : ∀ s W, J s W → J s W.drew)
    (hY : ∀ pre x W, J pre W → pre.length < 2 → YieldAt F (n - 1) Try.prog l (encC b off x) W fun e W' =>
      (e = .returned (.bool true) ∧ J (pre ++ [x]) W' ∧ KeepC n₀ Bs W W') ∨ (e = .returned (.bool false) ∧ Jx (pre ++ [x]) W'))
    (W : World) (hBs : W.cell? ⟨Bs, 0, none⟩ = some (.slice (some ⟨b, off, none⟩) 256 cap)) (hBn : W.cell? ⟨Bs + 1, 0, none⟩ = some (.int .i64 128)) (h0 : J [] W) :
    CallsIn F n Try.prog 87 #[.func (.yield l) #[] #[], .pointer (some ⟨Bs, 0, none⟩), .pointer (some ⟨Bs + 1, 0, none⟩)] W fun e W' => (∃ v, e = .returned v) ∧
      ((∃ ys, ys = chL 2 ∧ J ys W') ∨ (∃ pre, (pre = chL 1 ∨ pre = chL 2) ∧ Jx pre W')) := by
  unfold maxLen at hcm
  refine callsIn_of_wp Try.func87 rfl h7 ?_ hro
  simp only [Try.ntmps87, List.size_toArray, List.length_cons, List.length_nil, Nat.reduceAdd, Nat.reduceSub, Array.replicate_succ, Array.replicate_zero, List.push_toArray, List.append_toArray, List.nil_append, List.cons_append]
  gi_wp2
  gi_loopw [4, 5] (fun i _ wr => KeepC n₀ Bs W wr ∧ ((i = .int .i64 0 ∧ J (chL 0) wr) ∨ (i = .int .i64 128 ∧ J (chL 1) wr) ∨ (i = .int .i64 256 ∧ J (chL 2) wr))) (fun i _ _ => (256 - intOf i).toNat)
  case atStart => exact ⟨KeepC.refl _ _ _, .inl ⟨rfl, h0⟩⟩
  case round =>
    obtain ⟨hnx, hJs⟩ := hrel
    have hBs' : wr.cell? ⟨Bs, 0, none⟩ = some (.slice (some ⟨b, off, none⟩) 256 cap) := hnx.2.1.trans hBs
    have hBn' : wr.cell? ⟨Bs + 1, 0, none⟩ = some (.int .i64 128) := hnx.2.2.trans hBn
    rcases hJs with ⟨rfl, hJs⟩ | ⟨rfl, hJs⟩ | ⟨rfl, hJs⟩
    · obtain ⟨fn, tmps, assign, body, hy, hR⟩ := hY _ 0 wr.drew (hJd _ _ hJs) (by decide)
      have hy' : (Instr.yield l #[.slice (some ⟨b, off, none⟩) 128 128]).run Try.prog wr.drew = .ok (.round l fn tmps assign body) wr.drew := hy
      have HK := Lib.hid hnx
      clear hnx hJs hBs hBn hy
      have m1 : min (128 : Int) 256 = 128 := by decide
      gi_wp2
      gi_region
      all_goals
        gi_wp2
        refine hR.mono ?_
        rintro e W3 (⟨rfl, hJ3, hk3⟩ | ⟨rfl, hJx3⟩)
        · have HJ3 := Lib.hid hJ3
          have HK3 := Lib.hid hk3
          have hb3 := hk3.2.1.trans hBs'
          have hb4 := hk3.2.2.trans hBn'
          clear hJ3 hk3
          gi_wp2
          go_roundw
          case rel => exact ⟨HK.out.trans (KeepC.trans ⟨(Below.refl _ _).drew, rfl, rfl⟩ HK3.out), .inr (.inl ⟨rfl, HJ3.out⟩)⟩
          case measure => (simp [intOf])
        · gi_wp2
          refine bodyPost_ret (results_none rfl _ _ _) rfl ?_
          exact ⟨⟨_, rfl⟩, .inr ⟨_, .inl rfl, hJx3⟩⟩
    · obtain ⟨fn, tmps, assign, body, hy, hR⟩ := hY _ 1 wr.drew (hJd _ _ hJs) (by decide)
      have hy' : (Instr.yield l #[.slice (some ⟨b, off + 128, none⟩) 128 128]).run Try.prog wr.drew = .ok (.round l fn tmps assign body) wr.drew := hy
      have HK := Lib.hid hnx
      clear hnx hJs hBs hBn hy
      have m1 : min (128 : Int) 128 = 128 := by decide
      gi_wp2
      gi_region
      all_goals
        gi_wp2
        refine hR.mono ?_
        rintro e W3 (⟨rfl, hJ3, hk3⟩ | ⟨rfl, hJx3⟩)
        · have HJ3 := Lib.hid hJ3
          have HK3 := Lib.hid hk3
          have hb3 := hk3.2.1.trans hBs'
          have hb4 := hk3.2.2.trans hBn'
          clear hJ3 hk3
          gi_wp2
          go_roundw
          case rel => exact ⟨HK.out.trans (KeepC.trans ⟨(Below.refl _ _).drew, rfl, rfl⟩ HK3.out), .inr (.inr ⟨rfl, HJ3.out⟩)⟩
          case measure => (simp [intOf])
        · gi_wp2
          refine bodyPost_ret (results_none rfl _ _ _) rfl ?_
          exact ⟨⟨_, rfl⟩, .inr ⟨_, .inr rfl, hJx3⟩⟩
    · clear hBs hBn
      gi_wp2
      go_end0
      exact ⟨⟨_, rfl⟩, .inl ⟨_, rfl, hJs⟩⟩

theorem chunk1_stops (F : Fence) (n : Nat) (h7 : F.fn 87) (hro : F.round = none) (hn : 1 ≤ n) (Bs n₀ b off cap : Nat) (hlm : 256 ≤ cap) (hcm : cap ≤ maxLen) (w : World) (hBs : Bs + 1 < w.heap.size)
    (hc : w.cell? ⟨Bs, 0, none⟩ = some (.slice (some ⟨b, off, none⟩) 256 cap)) (hc2 : w.cell? ⟨Bs + 1, 0, none⟩ = some (.int .i64 128)) :
    SeqStopsK F n Try.prog 87 #[.pointer (some ⟨Bs, 0, none⟩), .pointer (some ⟨Bs + 1, 0, none⟩)] (encC b off) (KeepC n₀ Bs) (fun ys => ys = chL 2) (fun pre => pre = chL 1 ∨ pre = chL 2) 2 w :=
  fun l J Jx W hW hJ _ hY h0 => chunk1_in F n h7 hro hn l Bs n₀ b off cap hlm hcm J Jx (fun s W h => hJ s W W.drew none h ⟨rfl, rfl, rfl, Nat.le_refl _, fun _ _ _ => rfl⟩ (fun r e => by cases e)) hY W ((hW.cell (p := ⟨Bs, 0, none⟩) (by show Bs < w.heap.size; omega)).trans hc) ((hW.cell (p := ⟨Bs + 1, 0, none⟩) hBs).trans hc2) h0
set_option maxRecDepth 100000 in
set_option maxHeartbeats 1000000 in
theorem chunk_in (F : Fence) (n : Nat) (h5 : F.fn 54) (hro : F.round = none) (a : Option Addr) (len cap : Nat) (w : World) :
    CallsIn F n Try.prog 54 #[.slice a len cap, .int .i64 128] w fun e w' => e = .returned (.func (.func 87) #[] #[.pointer (some ⟨w.heap.size, 0, none⟩), .pointer (some ⟨w.heap.size + 1, 0, none⟩)]) ∧ w' = (w.alloc (.cells #[.slice a len cap] 22)).alloc (.cells #[.int .i64 128] 3) := by
  refine callsIn_of_wp Try.func54 rfl h5 ?_ hro
  simp only [Try.ntmps54, List.size_toArray, List.length_cons, List.length_nil, Nat.reduceAdd, Nat.reduceSub, Array.replicate_succ, Array.replicate_zero, List.push_toArray, List.append_toArray, List.nil_append, List.cons_append]
  gi_wp2
  go_ret
  exact ⟨rfl, rfl⟩
end Go.Proofs.Ytfdogefoodljaaa

