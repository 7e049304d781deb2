/- DropDoes: the words and contracts, part 17. -/
import Derived.Test.YtkfgegdnpinbdaaDropDoesQ1
import Derived.Test.YtkfgegdnpinbdaaDropDoesQ2
import Derived.Test.YtkfgegdnpinbdaaDropDoesQ3
import Derived.Test.YtkfgegdnpinbdaaDropDoesQ4
import Derived.Test.YtkfgegdnpinbdaaDropDoesQ5
import Derived.Test.YtkfgegdnpinbdaaDropDoesQ6
import Derived.Test.YtkfgegdnpinbdaaDropDoesQ7
import Derived.Test.YtkfgegdnpinbdaaDropDoesQ8
import Derived.Test.YtkfgegdnpinbdaaDropDoesQ10
import Derived.Test.YtkfgegdnpinbdaaDropDoesQ11
import Derived.Test.YtkfgegdnpinbdaaDropDoesQ12
import Derived.Test.YtkfgegdnpinbdaaDropDoesQ13
import Derived.Test.YtkfgegdnpinbdaaDropDoesQ14
import Derived.Test.YtkfgegdnpinbdaaDropDoesQ16
import Derived.WalkKit
import Derived.WalkLawsBesides
import Derived.WalkSpells
import Derived.Lib.Hide
import Derived.Laws.Rows
import Derived.Laws.AppendOwnNone
import Derived.Maps.AppendAt
import Derived.RangeFuncNested
import Derived.RangeFuncBound
import Derived.RangeFuncCalls
import Derived.RangeFuncLeaves
import Derived.RangeFuncBox
import Derived.Shelf.Abstract
import Derived.Shelf.RegionOpen
import Derived.OwnWalkIn
import Derived.TacticsInMore
import Derived.LoopNIn
import Derived.LoopIn
import Derived.ProofKit
import Derived.Deep.Slices
import Derived.WideShapes
import Derived.OrdersHeld
import Derived.Deep.QuietTactic
import Derived.BigQuiet
import Derived.StillTailTactics
import Derived.OpenShut
import Derived.Lib.SliceRun
import Derived.Lib.AppendZerosOnto
import Derived.Lib.Walk
import Derived.Deep.LoopGhost
import Derived.Laws.CopyOwn
import Derived.Deep.DeepCutAuto
import Derived.Laws.CopyRow
import Derived.Laws.MakeOwn
import Derived.Deep.RegionHeld
import Derived.KernelRfl
import Derived.BigFrameIn
import Derived.OrdersIn
namespace Go.Proofs.Ytkfgegdnpinbdaa
open Go.RowKit Go.Shelf
attribute [local go_sem] Oper.semAt_some

/-- Items as values: the items, and their slices. -/
theorem items_of {w : World} {lo hi n c : Nat} {a : Option Addr} {l : List ItemL} (h : Sl rItem w lo hi (.slice a n c) l) : ∃ bs : List (ItemL × Value), bs.length = l.length ∧
    (∀ i x, bs[i]? = some x → x.1 = l.getD i nokI ∧ (Lit.int .i64 x.1.ref).wf = true ∧ Bytes w lo hi x.2 x.1.val) ∧
    (0 < bs.length → ∃ b off, a = some ⟨b, off, none⟩ ∧ lo ≤ b ∧ b < hi ∧ ∀ i x, bs[i]? = some x → w.cell? ⟨b, off + i * 5, none⟩ = some (bV x.1.key.kind) ∧ w.cell? ⟨b, off + i * 5 + 1, none⟩ = some (wV x.1.key.id) ∧ w.cell? ⟨b, off + i * 5 + 2, none⟩ = some (wV x.1.key.off) ∧ w.cell? ⟨b, off + i * 5 + 3, none⟩ = some (.int .i64 x.1.ref) ∧ w.cell? ⟨b, off + i * 5 + 4, none⟩ = some x.2) := by
  obtain ⟨a', c', e, h1, h2, h3, h4⟩ := h
  cases e
  obtain ⟨bs, hbl, hba⟩ := list_of (n := l.length) (p := fun i (x : ItemL × Value) => x.1 = l.getD i nokI ∧ (Lit.int .i64 x.1.ref).wf = true ∧ Bytes w lo hi x.2 x.1.val ∧ ∀ b off, a = some ⟨b, off, none⟩ → w.cell? ⟨b, off + i * 5, none⟩ = some (bV x.1.key.kind) ∧ w.cell? ⟨b, off + i * 5 + 1, none⟩ = some (wV x.1.key.id) ∧ w.cell? ⟨b, off + i * 5 + 2, none⟩ = some (wV x.1.key.off) ∧ w.cell? ⟨b, off + i * 5 + 3, none⟩ = some (.int .i64 x.1.ref) ∧ w.cell? ⟨b, off + i * 5 + 4, none⟩ = some x.2) (fun i hi => by
    obtain ⟨b, off, rfl, hlo, hhi, hc⟩ := h3 (by omega)
    obtain ⟨f0, f1, f2, f3, f4, v, f5, f6⟩ := hc i _ (get_l l nokI i hi)
    refine ⟨(l.getD i nokI, v), rfl, f4, f6, fun b' off' e => ?_⟩
    cases e
    exact ⟨f0, f1, f2, f3, f5⟩)
  refine ⟨bs, hbl, fun i x hx => ⟨(hba i x hx).1, (hba i x hx).2.1, (hba i x hx).2.2.1⟩, fun hp => ?_⟩
  obtain ⟨b, off, ea, hlo, hhi, hc⟩ := h3 (by omega)
  exact ⟨b, off, ea, hlo, hhi, fun i x hx => (hba i x hx).2.2.2 b off ea⟩

/-- What the rounds must keep: the items' block, and the iterator's own. -/
def KeepI (b Bs : Nat) (A B : World) : Prop := B.heap[b]? = A.heap[b]? ∧ B.heap[Bs]? = A.heap[Bs]?
theorem KeepI.refl (b Bs : Nat) (A : World) : KeepI b Bs A A := ⟨rfl, rfl⟩
theorem KeepI.trans {b Bs : Nat} {A B C : World} (h : KeepI b Bs A B) (k : KeepI b Bs B C) : KeepI b Bs A C := ⟨k.1.trans h.1, k.2.trans h.2⟩
theorem keepI_b {w : World} {b Bs : Nat} (hb : b < w.heap.size) (hB : Bs < w.heap.size) : ∀ (W : World) (l : Nat) (o o' : Obj), w.heap.size ≤ l → W.heap[l]? = some o → o.isCells = false → o.isWalk = false → KeepI b Bs W (W.putObj l o') :=
  fun _ _ _ _ h1 _ _ _ => ⟨World.putObj_heap_other (by omega), World.putObj_heap_other (by omega)⟩

set_option maxRecDepth 100000 in
set_option maxHeartbeats 2000000 in
theorem backi1_in (F : Fence) (n : Nat) (h7 : F.fn 120) (hro : F.round = none) (hn : 1 ≤ n) (l Bs b off cap : Nat) (bs : List (ItemL × Value)) (hlm : bs.length ≤ cap) (hcm : cap ≤ maxLen) (J Jx : List (Fin bs.length) → World → Prop)
    (hY : ∀ pre x W, J pre W → pre.length < bs.length → YieldAt F (n - 1) Try.prog l #[.int .i64 (x.1 : Int), .agg #[bV bs[x.1].1.key.kind, wV bs[x.1].1.key.id, wV bs[x.1].1.key.off, .int .i64 bs[x.1].1.ref, bs[x.1].2]] W fun e W' =>
      (e = .returned (.bool true) ∧ J (pre ++ [x]) W' ∧ KeepI b Bs W W') ∨ (e = .returned (.bool false) ∧ Jx (pre ++ [x]) W'))
    (W : World) (hBs : W.cell? ⟨Bs, 0, none⟩ = some (.slice (some ⟨b, off, none⟩) bs.length cap)) (hc : ∀ i x, bs[i]? = some x → W.cell? ⟨b, off + i * 5, none⟩ = some (bV x.1.key.kind) ∧ W.cell? ⟨b, off + i * 5 + 1, none⟩ = some (wV x.1.key.id) ∧ W.cell? ⟨b, off + i * 5 + 2, none⟩ = some (wV x.1.key.off) ∧ W.cell? ⟨b, off + i * 5 + 3, none⟩ = some (.int .i64 x.1.ref) ∧ W.cell? ⟨b, off + i * 5 + 4, none⟩ = some x.2) (h0 : J [] W) :
    CallsIn F n Try.prog 120 #[.func (.yield l) #[] #[], .pointer (some ⟨Bs, 0, none⟩)] W fun e W' => (∃ v, e = .returned v) ∧
      ((∃ ys, ys = backF bs.length bs.length ∧ J ys W') ∨ (∃ pre, (∃ k, k ≤ bs.length ∧ pre = backF bs.length k) ∧ Jx pre W')) := by
  unfold maxLen at hcm
  refine callsIn_of_wp Try.func120 rfl h7 ?_ hro
  simp only [Try.ntmps120, List.size_toArray, List.length_cons, List.length_nil, Nat.reduceAdd, Nat.reduceSub, Array.replicate_succ, Array.replicate_zero, List.push_toArray, List.append_toArray, List.nil_append, List.cons_append]
  gi_wp2
  gi_loopw [3] (fun i wr => ∃ k : Nat, k ≤ bs.length ∧ i = .int .i64 ((bs.length : Int) - 1 - k) ∧ J (backF bs.length k) wr ∧ KeepI b Bs W wr)
    (fun i _ => (intOf i + 1).toNat)
  case atStart => exact ⟨0, Nat.zero_le _, by simp, h0, KeepI.refl _ _ _⟩
  case round =>
    obtain ⟨k, hk, rfl, hJs, hnx⟩ := hrel
    have hBs' : wr.cell? ⟨Bs, 0, none⟩ = some (.slice (some ⟨b, off, none⟩) bs.length cap) := (World.cell?_of_block hnx.2).trans hBs
    by_cases hlt : k < bs.length
    · obtain ⟨m, hm, hmk⟩ : ∃ m : Nat, m < bs.length ∧ m + 1 + k = bs.length := ⟨bs.length - 1 - k, by omega, by omega⟩
      obtain ⟨hc0, hc1, hc2, hc3, hc4⟩ := hc m bs[m] (by simp [hm])
      have hcx0 : wr.cell? ⟨b, off + m * 5, none⟩ = some (bV bs[m].1.key.kind) := (World.cell?_of_block hnx.1).trans hc0
      have hcx1 : wr.cell? ⟨b, off + m * 5 + 1, none⟩ = some (wV bs[m].1.key.id) := (World.cell?_of_block hnx.1).trans hc1
      have hcx2 : wr.cell? ⟨b, off + m * 5 + 2, none⟩ = some (wV bs[m].1.key.off) := (World.cell?_of_block hnx.1).trans hc2
      have hcx3 : wr.cell? ⟨b, off + m * 5 + 3, none⟩ = some (.int .i64 bs[m].1.ref) := (World.cell?_of_block hnx.1).trans hc3
      have hcx4 : wr.cell? ⟨b, off + m * 5 + 4, none⟩ = some bs[m].2 := (World.cell?_of_block hnx.1).trans hc4
      clear hc0 hc1 hc2 hc3 hc4
      obtain ⟨fn, tmps, assign, body, hy, hR⟩ := hY _ ⟨m, hm⟩ wr hJs (by rw [backF_length _ _ hk]; exact hlt)
      have hsucc : backF bs.length (k + 1) = backF bs.length k ++ [⟨m, hm⟩] := backF_succ _ k m hm hmk
      have HS := Lib.hid hsucc
      clear hsucc
      rw [show ((bs.length : Int) - 1 - (k : Int)) = (m : Int) by omega]
      dsimp only at hy
      obtain ⟨y0, hy0⟩ : ∃ v, bV bs[m].1.key.kind = v := ⟨_, rfl⟩
      obtain ⟨y1, hy1⟩ : ∃ v, wV bs[m].1.key.id = v := ⟨_, rfl⟩
      obtain ⟨y2, hy2⟩ : ∃ v, wV bs[m].1.key.off = v := ⟨_, rfl⟩
      obtain ⟨y3, hy3⟩ : ∃ v, Value.int .i64 bs[m].1.ref = v := ⟨_, rfl⟩
      obtain ⟨y4, hy4⟩ : ∃ v, bs[m].2 = v := ⟨_, rfl⟩
      rw [hy0, hy1, hy2, hy3, hy4] at hy
      rw [hy0] at hcx0
      rw [hy1] at hcx1
      rw [hy2] at hcx2
      rw [hy3] at hcx3
      rw [hy4] at hcx4
      clear hy0 hy1 hy2 hy3 hy4
      have HK := Lib.hid hmk
      clear hmk
      gi_wp2
      refine hR.mono ?_
      rintro e W3 (⟨rfl, hJ3, hk3⟩ | ⟨rfl, hJx3⟩)
      · gi_wp2
        go_roundw
        case rel => exact ⟨k + 1, by omega, by have := HK.out; congr 1 <;> omega, by rw [HS.out]; exact hJ3, hnx.trans hk3⟩
        case measure => (simp [intOf])
      · gi_wp2
        refine bodyPost_ret (results_none rfl _ _ _) rfl ?_
        exact ⟨⟨_, rfl⟩, .inr ⟨_, ⟨k + 1, by omega, HS.out.symm⟩, hJx3⟩⟩
    · obtain rfl : k = bs.length := by omega
      gi_wp2
      go_end0
      exact ⟨⟨_, rfl⟩, .inl ⟨_, rfl, hJs⟩⟩

set_option maxRecDepth 100000 in
set_option maxHeartbeats 1000000 in
theorem backi1_none (F : Fence) (n : Nat) (h7 : F.fn 120) (hro : F.round = none) (l Bs cap : Nat) (a : Option Addr) (J : List (Fin 0) → World → Prop) (W : World) (hBs : W.cell? ⟨Bs, 0, none⟩ = some (.slice a 0 cap)) (h0 : J [] W) :
    CallsIn F n Try.prog 120 #[.func (.yield l) #[] #[], .pointer (some ⟨Bs, 0, none⟩)] W fun e W' => (∃ v, e = .returned v) ∧ J [] W' := by
  refine callsIn_of_wp Try.func120 rfl h7 ?_ hro
  simp only [Try.ntmps120, List.size_toArray, List.length_cons, List.length_nil, Nat.reduceAdd, Nat.reduceSub, Array.replicate_succ, Array.replicate_zero, List.push_toArray, List.append_toArray, List.nil_append, List.cons_append]
  gi_wp2
  gi_loopw [3] (fun i wr => i = .int .i64 (-1) ∧ J [] wr) (fun _ _ => 0)
  case atStart => exact ⟨rfl, h0⟩
  case round =>
    obtain ⟨rfl, hJs⟩ := hrel
    gi_wp2
    go_end0
    exact ⟨⟨_, rfl⟩, hJs⟩

set_option maxHeartbeats 1000000 in
theorem backi_in (F : Fence) (n : Nat) (h5 : F.fn 103) (hro : F.round = none) (a : Option Addr) (len cap : Nat) (w : World) :
    CallsIn F n Try.prog 103 #[.slice a len cap] w fun e w' => e = .returned (.func (.func 120) #[] #[.pointer (some ⟨w.heap.size, 0, none⟩)]) ∧ w' = w.alloc (.cells #[.slice a len cap] 45) := by
  refine callsIn_of_wp Try.func103 rfl h5 ?_ hro
  simp only [Try.ntmps103, List.size_toArray, List.length_cons, List.length_nil, Nat.reduceAdd, Nat.reduceSub, Array.replicate_succ, Array.replicate_zero, List.push_toArray, List.append_toArray, List.nil_append, List.cons_append]
  gi_wp2
  go_ret
  exact ⟨rfl, rfl⟩

/-- The value that slices.Backward hands back: all places and bytes, from behind; or the first k of them. -/
theorem backi_stops (F : Fence) (n : Nat) (h7 : F.fn 120) (hro : F.round = none) (hn : 1 ≤ n) (Bs b : Nat) (a : Option Addr) (c : Nat) (bs : List (ItemL × Value)) (w : World) (hBs : Bs < w.heap.size) (hb : b < w.heap.size)
    (hc : w.cell? ⟨Bs, 0, none⟩ = some (.slice a bs.length c)) (h1 : bs.length ≤ c) (h2 : c ≤ maxLen)
    (h3 : 0 < bs.length → ∃ off, a = some ⟨b, off, none⟩ ∧ ∀ i x, bs[i]? = some x → w.cell? ⟨b, off + i * 5, none⟩ = some (bV x.1.key.kind) ∧ w.cell? ⟨b, off + i * 5 + 1, none⟩ = some (wV x.1.key.id) ∧ w.cell? ⟨b, off + i * 5 + 2, none⟩ = some (wV x.1.key.off) ∧ w.cell? ⟨b, off + i * 5 + 3, none⟩ = some (.int .i64 x.1.ref) ∧ w.cell? ⟨b, off + i * 5 + 4, none⟩ = some x.2) :
    SeqStopsK F n Try.prog 120 #[.pointer (some ⟨Bs, 0, none⟩)] (fun x : Fin bs.length => #[.int .i64 (x.1 : Int), .agg #[bV bs[x.1].1.key.kind, wV bs[x.1].1.key.id, wV bs[x.1].1.key.off, .int .i64 bs[x.1].1.ref, bs[x.1].2]]) (KeepI b Bs) (fun ys => ys = backF bs.length bs.length)
      (fun pre => ∃ k, k ≤ bs.length ∧ pre = backF bs.length k) bs.length w := fun l J Jx W hW _ _ hY h0 => by
  have hc' := (hW.cell (p := ⟨Bs, 0, none⟩) hBs).trans hc
  rcases Nat.eq_zero_or_pos bs.length with hz | hp
  · have : bs = [] := List.eq_nil_of_length_eq_zero hz
    subst this
    exact (backi1_none F n h7 hro l Bs c a J W hc' h0).mono fun e W' ⟨he, hj⟩ => ⟨he, .inl ⟨_, rfl, hj⟩⟩
  · obtain ⟨off, rfl, hcs⟩ := h3 hp
    replace hcs : ∀ i x, bs[i]? = some x → W.cell? ⟨b, off + i * 5, none⟩ = some (bV x.1.key.kind) ∧ W.cell? ⟨b, off + i * 5 + 1, none⟩ = some (wV x.1.key.id) ∧ W.cell? ⟨b, off + i * 5 + 2, none⟩ = some (wV x.1.key.off) ∧ W.cell? ⟨b, off + i * 5 + 3, none⟩ = some (.int .i64 x.1.ref) ∧ W.cell? ⟨b, off + i * 5 + 4, none⟩ = some x.2 := fun i x hx => by
      obtain ⟨d0, d1, d2, d3, d4⟩ := hcs i x hx
      exact ⟨(hW.cell (p := ⟨b, off + i * 5, none⟩) hb).trans d0, (hW.cell (p := ⟨b, off + i * 5 + 1, none⟩) hb).trans d1, (hW.cell (p := ⟨b, off + i * 5 + 2, none⟩) hb).trans d2, (hW.cell (p := ⟨b, off + i * 5 + 3, none⟩) hb).trans d3, (hW.cell (p := ⟨b, off + i * 5 + 4, none⟩) hb).trans d4⟩
    exact backi1_in F n h7 hro hn l Bs b off c bs h1 h2 J Jx hY W hc' hcs h0
end Go.Proofs.Ytkfgegdnpinbdaa

namespace Go.Proofs.Ytkfgegdnpinbdaa
open Go.RowKit Go.Shelf
attribute [local go_sem] Oper.semAt_some

/-- A bench whose counts have turned since w; all else is as it was there. -/
structure BL (w : World) (lo g nb no nc : Nat) (b u y : Value) (s : StoreL) (now : List UInt8) (V : World) : Prop where
  base : BenAt w lo g nb no nc b u y s
  fr : ∀ k, k < w.heap.size → k ≠ nb → V.heap[k]? = w.heap[k]?
  size : w.heap.size ≤ V.heap.size
  cells : ∀ i x, now[i]? = some x → V.cell? ⟨nb, no + i, none⟩ = some (bV x)
  thaw : ∀ i, i < 256 → V.frozen? ⟨nb, no + i, none⟩ = false
  len : now.length = 256
section
variable {w V V' : World} {lo g nb no nc : Nat} {b u y : Value} {s : StoreL} {now : List UInt8}
theorem BL.start (h : BenAt w lo g nb no nc b u y s) : BL w lo g nb no nc b u y s s.now w :=
  ⟨h, fun _ _ _ => rfl, Nat.le_refl _, fun i x hx => h.now.cellAt i x hx, fun i hi => h.thaw _ _ _ _ rfl i hi, h.len⟩
theorem BL.nbl (h : BL w lo g nb no nc b u y s now V) : nb < w.heap.size := h.base.lo_.2.2.2
theorem BL.gl (h : BL w lo g nb no nc b u y s now V) : g < w.heap.size := (Array.getElem?_eq_some_iff.1 h.base.blk).1
theorem BL.keep (h : BL w lo g nb no nc b u y s now V) (hk : ∀ k, k < w.heap.size → V'.heap[k]? = V.heap[k]?) (hs : V.heap.size ≤ V'.heap.size) : BL w lo g nb no nc b u y s now V' :=
  ⟨h.base, fun k h1 h2 => (hk k h1).trans (h.fr k h1 h2), Nat.le_trans h.size hs, fun i x hx => (World.cell?_of_block (hk nb h.nbl)).trans (h.cells i x hx), fun i hi => (World.frozen?_of_block (hk nb h.nbl)).trans (h.thaw i hi), h.len⟩
theorem BL.step (h : BL w lo g nb no nc b u y s now V) (hb : Below V.heap.size V V') : BL w lo g nb no nc b u y s now V' := h.keep (fun k hk => hb.block k (Nat.lt_of_lt_of_le hk h.size)) hb.size
theorem BL.out {n0 h0 : Nat} (h : BL w lo g nb no nc b u y s now V) (hs : V.heap.size ≤ V'.heap.size) (hf : ∀ x, x < V.heap.size → (x < n0 ∨ h0 ≤ x) → V'.heap[x]? = V.heap[x]?) (hd : w.heap.size ≤ n0) : BL w lo g nb no nc b u y s now V' :=
  h.keep (fun k hk => hf k (Nat.lt_of_lt_of_le hk h.size) (.inl (Nat.lt_of_lt_of_le hk hd))) hs
theorem BL.set (h : BL w lo g nb no nc b u y s now V) (i : Nat) (x : UInt8) (_ : i < 256) : BL w lo g nb no nc b u y s (now.set i x) (V.setCell ⟨nb, no + i, none⟩ (bV x)) := by
  refine ⟨h.base, fun k h1 h2 => (set_other V nb _ _ k h2).trans (h.fr k h1 h2), by rw [World.size_setCell]; exact h.size, fun j z hj => ?_, fun j hj => ?_, by simp [h.len]⟩
  · rcases Nat.lt_or_ge j now.length with hl | hl
    · by_cases e : i = j
      · subst e
        rw [List.getElem?_set_self hl] at hj
        cases hj
        exact World.cell?_setCell_same' _ _ _ (by rw [h.cells i _ (get_l _ 0 i hl)]; rfl)
      · rw [List.getElem?_set_ne e] at hj
        rw [World.cell?_setCell_other _ _ _ _ (by simp only [ne_eq, Addr.mk.injEq]; omega)]
        exact h.cells j z hj
    · rw [List.getElem?_eq_none (by simpa using hl)] at hj
      cases hj
  · have : Thawed V (.slice (some ⟨nb, no, none⟩) 256 256) := by
      intro b off n c e i hi
      cases e
      exact h.thaw i hi
    exact (this.set ⟨nb, no + i, none⟩ (bV x)) _ _ _ _ rfl j hj
theorem BL.ben (h : BL w lo g nb no nc b u y s now V) : BenAt V lo g nb no nc b u y ⟨s.disk, now, s.last⟩ := by
  have hc : CKc (hideW w (hidN nb g)) (hideW V (hidN nb g)) := hideW_ck fun k hk hS => ⟨hS, h.fr k hk (fun e => by subst e; simp [hidN] at hS)⟩
  obtain ⟨a, c, e, h1, h2, h3, h4⟩ := h.base.now
  injection e with e1 e2 e3
  subst e1 e3
  refine ⟨(h.fr g h.gl h.base.lo_.2.2.1).trans h.base.blk, DiskV.more (h.base.disk.ck hc) (Nat.le_refl _) h.size, ⟨_, _, by rw [h.len], by rw [h.len, e2]; exact h1, h2, fun _ => ⟨nb, no, rfl, h.base.lo_.1, Nat.lt_of_lt_of_le h.nbl h.size, h.cells⟩, fun e => by cases e⟩, ?_, (h.base.last.ck hc).more (Nat.le_refl _) h.size, h.len, h.base.lo_.1, h.base.lo_.2.1, h.base.lo_.2.2.1, Nat.lt_of_lt_of_le h.nbl h.size⟩
  intro b off n c e i hi
  cases e
  exact h.thaw i hi
theorem BL.cell (h : BL w lo g nb no nc b u y s now V) (i : Nat) (hi : i < 256) : V.cell? ⟨nb, no + i, none⟩ = some (bV (now.getD i 0)) := h.cells i _ (get_l _ _ _ (by rw [h.len]; exact hi))
theorem BL.blk (h : BL w lo g nb no nc b u y s now V) : V.heap[g]? = some (.cells #[b, u, .slice (some ⟨nb, no, none⟩) 256 nc, y] 132 (0, 0)) := (h.fr g h.gl h.base.lo_.2.2.1).trans h.base.blk
/-- Behind a call that turned the counts alone. -/
theorem BL.turn (h : BL w lo g nb no nc b u y s now V) {now' : List UInt8} (hb : BenAt V' lo g nb no nc b u y ⟨s.disk, now', s.last⟩) (hs : V.heap.size ≤ V'.heap.size) (hf : ∀ k, k ≠ nb → V'.heap[k]? = V.heap[k]?) : BL w lo g nb no nc b u y s now' V' :=
  ⟨h.base, fun k h1 h2 => (hf k h2).trans (h.fr k h1 h2), Nat.le_trans h.size hs, fun i x hx => hb.now.cellAt i x hx, fun i hi => hb.thaw _ _ _ _ rfl i hi, hb.len⟩
end

/-- What waits to be left, in a row of the call's own. -/
def cellsO (l : List (Nat × Int)) : List Value := (l.map fun x => [Value.int .i64 (x.1 : Int), .int .i64 x.2]).flatten
theorem cellsO_len (l : List (Nat × Int)) : (cellsO l).length = l.length * 2 := by
  unfold cellsO
  induction l with
  | nil => rfl
  | cons a l ih => simp only [List.map_cons, List.flatten_cons, List.length_append, ih, List.length_cons, List.length_nil]; omega
theorem cellsO_app (l m : List (Nat × Int)) : cellsO (l ++ m) = cellsO l ++ cellsO m := by unfold cellsO; rw [List.map_append, List.flatten_append]
def RowO (base : Nat) (v : Value) (l : List (Nat × Int)) (V : World) : Prop := V.ownsRow base 138 2 v l.length (cellsO l)
theorem RowO.lt {base : Nat} {v : Value} {l : List (Nat × Int)} {V : World} (h : RowO base v l V) : ∀ k, v.ownBlock = some k → base ≤ k ∧ k < V.heap.size := World.ownsRow.lt h
theorem RowO.of {base : Nat} {v : Value} {l : List (Nat × Int)} {V V' : World} (h : RowO base v l V) (hk : ∀ k, v.ownBlock = some k → V'.heap[k]? = V.heap[k]?) : RowO base v l V' := by
  obtain ⟨h1, h2⟩ := h
  refine ⟨h1, ?_⟩
  rcases h2 with h2 | ⟨g, cap, cur, rfl, hg, hh, r⟩
  · exact .inl h2
  · exact .inr ⟨g, cap, cur, rfl, hg, (hk g rfl).trans hh, r⟩
theorem RowO.step {base : Nat} {v : Value} {l : List (Nat × Int)} {V V' : World} (h : RowO base v l V) (hb : Below V.heap.size V V') : RowO base v l V' := h.of fun k hk => hb.block k (h.lt k hk).2
theorem RowO.out {base n0 h0 : Nat} {v : Value} {l : List (Nat × Int)} {V V' : World} (h : RowO base v l V) (_ : V.heap.size ≤ V'.heap.size) (hf : ∀ x, x < V.heap.size → (x < n0 ∨ h0 ≤ x) → V'.heap[x]? = V.heap[x]?) (hd : h0 ≤ base) : RowO base v l V' :=
  h.of fun k hk => hf k (h.lt k hk).2 (.inr (Nat.le_trans hd (h.lt k hk).1))
theorem RowO.ne {base x : Nat} {v : Value} {l : List (Nat × Int)} {V : World} {cs : Array Value} (h : RowO base v l V) (hx : V.heap[x]? = some (.cells cs 139 (0, 0))) : ∀ k, v.ownBlock = some k → k ≠ x := by
  intro k hk e
  subst e
  rcases h.2 with ⟨rfl, -⟩ | ⟨g, cap, cur, rfl, -, hh, -⟩
  · cases hk
  · cases hk
    rw [hx] at hh
    cases hh
/-- The last one. -/
theorem RowO.last {base : Nat} {v : Value} {l : List (Nat × Int)} {x : Nat × Int} {V : World} (h : RowO base v (l ++ [x]) V) : ∃ gr c, v = .slice (some ⟨gr, 0, none⟩) (l.length + 1) c ∧ l.length + 1 ≤ c ∧ c ≤ maxLen ∧ gr < V.heap.size ∧
    V.cell? ⟨gr, l.length * 2, none⟩ = some (.int .i64 (x.1 : Int)) ∧ V.cell? ⟨gr, l.length * 2 + 1, none⟩ = some (.int .i64 x.2) ∧ RowO base (.slice (some ⟨gr, 0, none⟩) l.length c) l V := by
  obtain ⟨h1, h2⟩ := h
  rw [List.length_append] at h2
  rcases h2 with ⟨rfl, h0⟩ | ⟨g, cap, cur, rfl, hg, hh, r1, r2, r3, r4⟩
  · simp at h0
  · rw [cellsO_app] at r4
    have hl := cellsO_len l
    have hc : ∀ j u, (cellsO l ++ cellsO [x])[j]? = some u → V.cell? ⟨g, j, none⟩ = some u := by
      intro j u hu
      rw [cell_of_row V g j cur _ (0, 0) hh, ← hu, ← r4, List.getElem?_take, if_pos]
      · simp
      · have := (List.getElem?_eq_some_iff.1 hu).1
        rw [List.length_append, hl, cellsO_len] at this
        simp at this ⊢
        omega
    refine ⟨g, cap, rfl, r1, r2, (Array.getElem?_eq_some_iff.1 hh).1, hc _ _ ?_, hc _ _ ?_, ⟨cellsO_len l, .inr ⟨g, cap, cur, rfl, hg, hh, by simp at r1; omega, r2, r3, ?_⟩⟩⟩
    · rw [List.getElem?_append_right (by omega), hl, Nat.sub_self]
      rfl
    · rw [List.getElem?_append_right (by omega), hl, Nat.add_sub_cancel_left]
      rfl
    · have := congrArg (List.take (l.length * 2)) r4
      rw [List.take_take, Nat.min_eq_left (by simp; omega), ← hl, List.take_left] at this
      rw [← hl]
      exact this
theorem RowO.form {base : Nat} {v : Value} {l : List (Nat × Int)} {V : World} (h : RowO base v l V) : ∃ ad c, v = .slice ad l.length c := own_form h
theorem RowO.one (w : World) (base : Nat) (hb : base ≤ w.heap.size) (p : Nat) (l : Int) : RowO base (.slice (some ⟨w.heap.size, 0, none⟩) 1 1) [(p, l)] (w.alloc (.cells #[.int .i64 (p : Int), .int .i64 l] 138)) :=
  ⟨rfl, .inr ⟨w.heap.size, 1, #[.int .i64 (p : Int), .int .i64 l], rfl, hb, World.alloc_heap_new _ _, Nat.le_refl _, by unfold maxLen; omega, rfl, rfl⟩⟩
theorem run_preO (a : Option Addr) (len c n : Nat) (h : n ≤ c) (w : World) : (Instr.sliceAt 139 (.slice a len c) none (some (.int .i64 n)) none).run Try.prog w = .ok (.slice a n c) w := by
  cases a with
  | none => simp [go_sem, h]
  | some ad => simp [go_sem, h]

/-- Marks of loops that are over: behind base each, unlike, and empty. -/
def mkD (D : Nat) : Deferred := { target := .collected D, args := #[] }
def MK (base : Nat) (ds : List Deferred) (V : World) : Prop := ∃ Ds : List Nat, ds = Ds.map mkD ∧ Ds.Nodup ∧ ∀ D ∈ Ds, base ≤ D ∧ V.heap[D]? = some (.deferred (some []))
section
variable {base : Nat} {ds : List Deferred} {V V' : World}
theorem MK.nil_ (base : Nat) (V : World) : MK base [] V := ⟨[], rfl, List.nodup_nil, fun D h => by cases h⟩
theorem MK.of (h : MK base ds V) (hk : ∀ k, base ≤ k → V.heap[k]? = some (.deferred (some [])) → V'.heap[k]? = V.heap[k]?) : MK base ds V' := by
  obtain ⟨Ds, h1, h2, h3⟩ := h
  exact ⟨Ds, h1, h2, fun D hD => ⟨(h3 D hD).1, (hk D (h3 D hD).1 (h3 D hD).2).trans (h3 D hD).2⟩⟩
theorem MK.step (h : MK base ds V) (hb : Below V.heap.size V V') : MK base ds V' := h.of fun k _ hk => hb.block k (Array.getElem?_eq_some_iff.1 hk).1
theorem MK.out {n0 h0 : Nat} (h : MK base ds V) (_ : V.heap.size ≤ V'.heap.size) (hf : ∀ x, x < V.heap.size → (x < n0 ∨ h0 ≤ x) → V'.heap[x]? = V.heap[x]?) (hd : h0 ≤ base) : MK base ds V' :=
  h.of fun k hb hk => hf k (Array.getElem?_eq_some_iff.1 hk).1 (.inr (Nat.le_trans hd hb))
theorem MK.cons {D : Nat} (h : MK base ds V) (hD : V.heap[D]? = some (.deferred (some []))) (hb : base ≤ D) (hn : ∀ d ∈ ds, d ≠ mkD D) : MK base (mkD D :: ds) V := by
  obtain ⟨Ds, h1, h2, h3⟩ := h
  refine ⟨D :: Ds, by rw [h1]; rfl, List.nodup_cons.2 ⟨fun hm => hn (mkD D) (by rw [h1]; exact List.mem_map.2 ⟨D, hm, rfl⟩) rfl, h2⟩, fun E hE => ?_⟩
  rcases List.mem_cons.1 hE with rfl | hE
  · exact ⟨hb, hD⟩
  · exact h3 E hE
theorem MK.lt (h : MK base ds V) {D : Nat} (hD : V.heap.size ≤ D) : ∀ d ∈ ds, d ≠ mkD D := by
  obtain ⟨Ds, h1, h2, h3⟩ := h
  intro d hd e
  rw [h1] at hd
  obtain ⟨E, hE, rfl⟩ := List.mem_map.1 hd
  have := (Array.getElem?_eq_some_iff.1 (h3 E hE).2).1
  unfold mkD at e
  injection e with e1
  injection e1 with e1
  omega
theorem mk_leaves {F : Fence} {n : Nat} {P : Program} {fn : Func} {tmps : Array Value} {R : Ending → World → Prop} (h : MK base ds V) (hR : ∀ w', Below base V w' → LeavesIn F n P fn tmps R [] .returning w') : LeavesInM F n P fn tmps R ds .returning V := by
  obtain ⟨Ds, rfl, h2, h3⟩ := h
  induction Ds generalizing V with
  | nil => exact hR V (Below.refl _ _)
  | cons D Ds ih =>
    obtain ⟨n1, n2⟩ := List.nodup_cons.1 h2
    obtain ⟨b1, b2⟩ := h3 D (List.mem_cons_self ..)
    have hlt := (Array.getElem?_eq_some_iff.1 b2).1
    refine ⟨by simp, .inl ⟨_, _, rfl, run_takeDeferred b2, ih (fun w' hw => hR w' ?_) n2 (fun E hE => ⟨(h3 E (List.mem_cons_of_mem _ hE)).1, ?_⟩)⟩⟩
    · have hp : Below base V (V.putObj D (.deferred none)) := ⟨rfl, rfl, rfl, by simp, fun k hk => World.putObj_heap_other (by omega)⟩
      exact hp.trans hw
    · exact (World.putObj_heap_other (fun e => by subst e; exact n1 hE)).trans (h3 E (List.mem_cons_of_mem _ hE)).2
/-- All marks stay. -/
def DF (V W : World) : Prop := ∀ k : Nat, V.heap[k]? = some (Obj.deferred (some [])) → W.heap[k]? = some (Obj.deferred (some []))
theorem df_own (V : World) {α : Type} : OwnFrom V.heap.size (fun (_ : α) W => DF V W) := by
  intro s W W' row hs hg hr k hk
  have h1 := hs k hk
  have hl := (Array.getElem?_eq_some_iff.1 hk).1
  refine (hg.block k (Array.getElem?_eq_some_iff.1 h1).1 (fun e => ?_)).trans h1
  have := (hr k e.symm).1
  omega
theorem MK.df (h : MK base ds V) (hd : DF V V') : MK base ds V' := h.of fun k _ hk => (hd k hk).trans hk.symm
end

/-- append of one to such a row. -/
theorem wpListIn_appO {F : Fence} {n : Nat} {w : World} {ops : Array Oper} {rest : List Oper} {o : Oper} {a : Act} {Q : Exit → Act → World → Prop} (hg : o.guard = none) (s x : Operand)
    (hop : o.op = Op.call { callee := Callee.builtin Builtin.append, args := #[s, x], argTypes := #[139, 139] }) (base : Nat) (v : Value) (l : List (Nat × Int)) (hs : a.eval s = v) (hown : RowO base v l w)
    (g0 p : Nat) (lv : Int) (hx : a.eval x = .slice (some ⟨g0, 0, none⟩) 1 1) (hc : w.heap[g0]? = some (.cells #[.int .i64 (p : Int), .int .i64 lv] 138 (0, 0))) (hlen : l.length ≤ 1000000) (b3 : base ≤ w.heap.size)
    (hK : ∀ v' w', RowO base v' (l ++ [(p, lv)]) w' → w.grownBy w' v.ownBlock → (v'.ownBlock = v.ownBlock ∨ v'.ownBlock = some w.heap.size) → wpListIn F n Try.prog ops Q rest (a.put o.dst v') w') : wpListIn F n Try.prog ops Q (o :: rest) a w := by
  obtain ⟨i0, hi0, hz0, hz1, hz2⟩ := info_parts (P := Try.prog) (e := 138) (z := .agg #[.int .i64 0, .int .i64 0]) (size := 2) (bytes := 16) (by kernel_rfl)
  obtain ⟨v', w', hrun, r1, r2, -, r4⟩ := run_append_own_at (P := Try.prog) w base 139 o.type 138 i0 _ 2 16 Try.underlying139 hi0 hz0 hz1 hz2 rfl (by decide) v l.length (cellsO l) hown ⟨g0, 0, none⟩ 1 1 [.int .i64 (p : Int), .int .i64 lv] rfl
    (fun j u hj => by rw [Addr.add_lit, cell_of_row w g0 (0 + j) _ _ (0, 0) hc, Nat.zero_add]; simpa using hj) (fun u hu => by simp at hu; rcases hu with rfl | rfl <;> rfl) (by unfold maxLen; omega) (by omega) b3
  refine wpListIn_plain hg fun K hK' => ?_
  have hrow : RowO base v' (l ++ [(p, lv)]) w' := by
    unfold RowO
    rw [List.length_append, cellsO_app]
    exact r1
  unfold Oper.wpIn
  refine ⟨?_, ?_⟩
  · simp [Oper.about, hop, resolve, Target.leads, Sem.run_pure]
  · rw [Oper.semAt_plain F _ _ (by rw [hop]; intro c hc'; cases hc')]
    simp [execOp, hop, resolve, invoke, builtin, hs, hx, hrun, Result.andThen]
    exact hK' _ _ (hK v' w' hrow r2 r4)
theorem backF_all {β : Type} (n : Nat) (F : Fin n → β) (m : List β) (hm : m.length = n) (h : ∀ i : Fin n, m[i.1]? = some (F i)) : (backF n n).map F = m.reverse := by
  have key : ∀ k, k ≤ n → (backF n k).map F = (m.drop (n - k)).reverse := by
    intro k
    induction k with
    | zero => intro _; rw [Nat.sub_zero, List.drop_eq_nil_of_le (by omega)]; rfl
    | succ k ih =>
      intro hk
      rw [backF_succ n k (n - (k + 1)) (by omega) (by omega), List.map_append, ih (by omega)]
      have hlt : n - (k + 1) < m.length := by omega
      rw [List.drop_eq_getElem_cons hlt, List.reverse_cons, show n - (k + 1) + 1 = n - k by omega]
      have := h ⟨n - (k + 1), by omega⟩
      rw [List.getElem?_eq_getElem hlt] at this
      injection this with this
      rw [this]
      rfl
  have := key n (Nat.le_refl _)
  rw [Nat.sub_self] at this
  exact this
end Go.Proofs.Ytkfgegdnpinbdaa

