/- DropDoes: the words and contracts, part 24. -/
import Derived.Test.YtkfgegdnpinbdaaDropDoesQ1
import Derived.Test.YtkfgegdnpinbdaaDropDoesQ2
import Derived.Test.YtkfgegdnpinbdaaDropDoesQ3
import Derived.Test.YtkfgegdnpinbdaaDropDoesQ4
import Derived.Test.YtkfgegdnpinbdaaDropDoesQ5
import Derived.Test.YtkfgegdnpinbdaaDropDoesQ6
import Derived.Test.YtkfgegdnpinbdaaDropDoesQ7
import Derived.Test.YtkfgegdnpinbdaaDropDoesQ8
import Derived.Test.YtkfgegdnpinbdaaDropDoesQ10
import Derived.Test.YtkfgegdnpinbdaaDropDoesQ11
import Derived.Test.YtkfgegdnpinbdaaDropDoesQ12
import Derived.WalkKit
import Derived.WalkLawsBesides
import Derived.WalkSpells
import Derived.Lib.Hide
import Derived.Laws.Rows
import Derived.Laws.AppendOwnNone
import Derived.Maps.AppendAt
import Derived.ProofKit
import Derived.Deep.Slices
import Derived.WideShapes
import Derived.RangeFuncNested
import Derived.RangeFuncBound
import Derived.RangeFuncCalls
import Derived.RangeFuncLeaves
import Derived.RangeFuncBox
import Derived.Shelf.Abstract
import Derived.Shelf.RegionOpen
import Derived.OwnWalkIn
import Derived.TacticsInMore
import Derived.LoopNIn
import Derived.LoopIn
import Derived.Lib.AppendZerosOnto
import Derived.Lib.SliceRun
import Derived.Lib.Walk
import Derived.Deep.LoopGhost
import Derived.Laws.CopyOwn
import Derived.Laws.CopyRow
import Derived.OrdersHeld
import Derived.Deep.QuietTactic
import Derived.BigQuiet
import Derived.StillTailTactics
import Derived.OpenShut
import Derived.Deep.DeepCutAuto
import Derived.Laws.MakeOwn
import Derived.Deep.RegionHeld
import Derived.KernelRfl
namespace Go.Proofs.Ytkfgegdnpinbdaa
open Go.RowKit

/-- A slice of n cells, each of which holds a byte and may be written. -/
def SpoB (w : World) (lo hi : Nat) (v : Value) (n : Nat) : Prop := ∃ a c, v = .slice a n c ∧ n ≤ c ∧ c ≤ maxLen ∧
  (0 < n → ∃ b off, a = some ⟨b, off, none⟩ ∧ lo ≤ b ∧ b < hi ∧ ∀ i, i < n → ∃ x : UInt8, w.cell? ⟨b, off + i, none⟩ = some (bV x) ∧ w.frozen? ⟨b, off + i, none⟩ = false)
theorem SpoB.of {w : World} {lo hi : Nat} {v : Value} {l : List UInt8} (h : Bytes w lo hi v l) (ht : Thawed w v) : SpoB w lo hi v l.length := by
  obtain ⟨a, c, rfl, h1, h2, h3, h4⟩ := h
  refine ⟨a, c, rfl, h1, h2, fun hp => ?_⟩
  obtain ⟨b, off, rfl, hlo, hhi, hc⟩ := h3 hp
  exact ⟨b, off, rfl, hlo, hhi, fun i hi => ⟨l[i], hc i l[i] (by simp [hi]), ht _ _ _ _ rfl i hi⟩⟩
/-- A byte is stored where there was one: bytes stay bytes. -/
theorem SpoB.set {w : World} {lo hi : Nat} {v : Value} {n : Nat} (h : SpoB w lo hi v n) (p : Addr) (x y : UInt8) (hp : w.cell? p = some (bV x)) : SpoB (w.setCell p (bV y)) lo hi v n := by
  obtain ⟨a, c, e, h1, h2, h3⟩ := h
  refine ⟨a, c, e, h1, h2, fun hn => ?_⟩
  obtain ⟨b, off, ea, hlo, hhi, hc⟩ := h3 hn
  refine ⟨b, off, ea, hlo, hhi, fun i hi => ?_⟩
  obtain ⟨z, hz, hf⟩ := hc i hi
  by_cases e : p = ⟨b, off + i, none⟩
  · subst e
    exact ⟨y, World.cell?_setCell_same' _ _ _ (by rw [hz]; rfl), by rw [World.frozen?_setCell]; exact hf⟩
  · exact ⟨z, by rw [World.cell?_setCell_other _ _ _ _ e]; exact hz, by rw [World.frozen?_setCell]; exact hf⟩
theorem SpoB.below {w w' : World} {lo hi B : Nat} {v : Value} {n : Nat} (h : SpoB w lo hi v n) (hb : Below B w w') (hB : hi ≤ B) : SpoB w' lo hi v n := by
  obtain ⟨a, c, e, h1, h2, h3⟩ := h
  refine ⟨a, c, e, h1, h2, fun hn => ?_⟩
  obtain ⟨b, off, ea, hlo, hhi, hc⟩ := h3 hn
  refine ⟨b, off, ea, hlo, hhi, fun i hi => ?_⟩
  obtain ⟨z, hz, hf⟩ := hc i hi
  exact ⟨z, (hb.cell (p := ⟨b, off + i, none⟩) (by show b < B; omega)).trans hz, (hb.frozen (p := ⟨b, off + i, none⟩) (by show b < B; omega)).trans hf⟩
/-- A cell that holds no byte stays. -/
theorem spo_other {w : World} {p q : Addr} {x : UInt8} {y : UInt8} {v : Value} (hp : w.cell? p = some (bV x)) (hq : w.cell? q = some v) (hv : ∀ z : UInt8, v ≠ bV z) : (w.setCell p (bV y)).cell? q = some v := by
  rw [World.cell?_setCell_other _ _ _ _ (fun e => ?_)]
  · exact hq
  · subst e
    rw [hp] at hq
    exact hv x (Option.some.inj hq).symm
/-- A slice of k elements of n cells, number f of which holds such a slice of bytes. -/
def SpS (n f : Nat) (w : World) (lo hi : Nat) (s : Value) (k : Nat) : Prop := ∃ a c, s = .slice a k c ∧ k ≤ c ∧ c ≤ maxLen ∧
  (0 < k → ∃ b off, a = some ⟨b, off, none⟩ ∧ lo ≤ b ∧ b < hi ∧ ∀ i, i < k → ∃ x c m, w.cell? ⟨b, off + i * n + f, none⟩ = some (.slice x m c) ∧ SpoB w lo hi (.slice x m c) m)
theorem SpoB.form {w : World} {lo hi : Nat} {v : Value} {n : Nat} (h : SpoB w lo hi v n) : ∃ a c, v = .slice a n c ∧ n ≤ c ∧ c ≤ maxLen := by
  obtain ⟨a, c, e, h1, h2, -⟩ := h
  exact ⟨a, c, e, h1, h2⟩
theorem SpS.of_b {w : World} {lo hi : Nat} {s : Value} {l : List (List UInt8)} (h : Sl rBytesT w lo hi s l) : SpS 1 0 w lo hi s l.length := by
  obtain ⟨a, c, rfl, h1, h2, h3, -⟩ := h
  refine ⟨a, c, rfl, h1, h2, fun hp => ?_⟩
  obtain ⟨b, off, rfl, hlo, hhi, hc⟩ := h3 hp
  refine ⟨b, off, rfl, hlo, hhi, fun i hi => ?_⟩
  obtain ⟨v, g1, g2, g3⟩ := hc i l[i] (by simp [hi])
  have hs := SpoB.of g2 g3
  obtain ⟨x, k, rfl, -⟩ := hs.form
  exact ⟨x, k, _, g1, hs⟩
theorem SpS.of_w {w : World} {lo hi : Nat} {s : Value} {l : List WrL} (h : Sl rWriteT w lo hi s l) : SpS 2 1 w lo hi s l.length := by
  obtain ⟨a, c, rfl, h1, h2, h3, -⟩ := h
  refine ⟨a, c, rfl, h1, h2, fun hp => ?_⟩
  obtain ⟨b, off, rfl, hlo, hhi, hc⟩ := h3 hp
  refine ⟨b, off, rfl, hlo, hhi, fun i hi => ?_⟩
  obtain ⟨-, -, v, g1, g2, g3⟩ := hc i l[i] (by simp [hi])
  have hs := SpoB.of g2 g3
  obtain ⟨x, k, rfl, -⟩ := hs.form
  exact ⟨x, k, _, g1, hs⟩
theorem SpS.set {n f : Nat} {w : World} {lo hi : Nat} {s : Value} {k : Nat} (h : SpS n f w lo hi s k) (p : Addr) (x y : UInt8) (hp : w.cell? p = some (bV x)) : SpS n f (w.setCell p (bV y)) lo hi s k := by
  obtain ⟨a, c, e, h1, h2, h3⟩ := h
  refine ⟨a, c, e, h1, h2, fun hn => ?_⟩
  obtain ⟨b, off, ea, hlo, hhi, hc⟩ := h3 hn
  refine ⟨b, off, ea, hlo, hhi, fun i hi => ?_⟩
  obtain ⟨u, c2, m, g1, g2⟩ := hc i hi
  exact ⟨u, c2, m, spo_other hp g1 (fun z e => by cases e), g2.set p x y hp⟩
theorem SpS.below {n f : Nat} {w w' : World} {lo hi B : Nat} {s : Value} {k : Nat} (h : SpS n f w lo hi s k) (hb : Below B w w') (hB : hi ≤ B) : SpS n f w' lo hi s k := by
  obtain ⟨a, c, e, h1, h2, h3⟩ := h
  refine ⟨a, c, e, h1, h2, fun hn => ?_⟩
  obtain ⟨b, off, ea, hlo, hhi, hc⟩ := h3 hn
  refine ⟨b, off, ea, hlo, hhi, fun i hi => ?_⟩
  obtain ⟨u, c2, m, g1, g2⟩ := hc i hi
  exact ⟨u, c2, m, (hb.cell (p := ⟨b, off + i * n + f, none⟩) (by show b < B; omega)).trans g1, g2.below hb hB⟩
theorem spo_add (x : UInt8) : ((x.toNat : Int) + 1) % 256 = ((x + 1).toNat : Int) := by
  rw [UInt8.toNat_add]
  simp
end Go.Proofs.Ytkfgegdnpinbdaa

namespace Go.Proofs.Ytkfgegdnpinbdaa
open Go.RowKit

/-- Rows of bytes that may be written, each of one byte at least. -/
def SpN (n f : Nat) (w : World) (lo hi : Nat) (s : Value) (k : Nat) : Prop := ∃ a c, s = .slice a k c ∧ k ≤ c ∧ c ≤ maxLen ∧
  (0 < k → ∃ b off, a = some ⟨b, off, none⟩ ∧ lo ≤ b ∧ b < hi ∧ ∀ i, i < k → ∃ x c m, w.cell? ⟨b, off + i * n + f, none⟩ = some (.slice x m c) ∧ SpoB w lo hi (.slice x m c) m ∧ 0 < m)
theorem SpN.of_b {w : World} {lo hi : Nat} {s : Value} {l : List (List UInt8)} (h : Sl rBytesT w lo hi s l) (hl : ∀ x ∈ l, 0 < x.length) : SpN 1 0 w lo hi s l.length := by
  obtain ⟨a, c, rfl, h1, h2, h3, -⟩ := h
  refine ⟨a, c, rfl, h1, h2, fun hp => ?_⟩
  obtain ⟨b, off, rfl, hlo, hhi, hc⟩ := h3 hp
  refine ⟨b, off, rfl, hlo, hhi, fun i hi => ?_⟩
  obtain ⟨v, g1, g2, g3⟩ := hc i l[i] (by simp [hi])
  have hs := SpoB.of g2 g3
  obtain ⟨x, k, rfl, -⟩ := hs.form
  exact ⟨x, k, _, g1, hs, hl _ (List.getElem_mem hi)⟩
theorem SpN.of_w {w : World} {lo hi : Nat} {s : Value} {l : List WrL} (h : Sl rWriteT w lo hi s l) (hl : ∀ x ∈ l, 0 < x.data.length) : SpN 2 1 w lo hi s l.length := by
  obtain ⟨a, c, rfl, h1, h2, h3, -⟩ := h
  refine ⟨a, c, rfl, h1, h2, fun hp => ?_⟩
  obtain ⟨b, off, rfl, hlo, hhi, hc⟩ := h3 hp
  refine ⟨b, off, rfl, hlo, hhi, fun i hi => ?_⟩
  obtain ⟨-, -, v, g1, g2, g3⟩ := hc i l[i] (by simp [hi])
  have hs := SpoB.of g2 g3
  obtain ⟨x, k, rfl, -⟩ := hs.form
  exact ⟨x, k, _, g1, hs, hl _ (List.getElem_mem hi)⟩
theorem SpN.set {n f : Nat} {w : World} {lo hi : Nat} {s : Value} {k : Nat} (h : SpN n f w lo hi s k) (p : Addr) (x y : UInt8) (hp : w.cell? p = some (bV x)) : SpN n f (w.setCell p (bV y)) lo hi s k := by
  obtain ⟨a, c, e, h1, h2, h3⟩ := h
  refine ⟨a, c, e, h1, h2, fun hn => ?_⟩
  obtain ⟨b, off, ea, hlo, hhi, hc⟩ := h3 hn
  refine ⟨b, off, ea, hlo, hhi, fun i hi => ?_⟩
  obtain ⟨u, c2, m, g1, g2, g3⟩ := hc i hi
  exact ⟨u, c2, m, spo_other hp g1 (fun z e => by cases e), g2.set p x y hp, g3⟩
theorem SpN.below {n f : Nat} {w w' : World} {lo hi B : Nat} {s : Value} {k : Nat} (h : SpN n f w lo hi s k) (hb : Below B w w') (hB : hi ≤ B) : SpN n f w' lo hi s k := by
  obtain ⟨a, c, e, h1, h2, h3⟩ := h
  refine ⟨a, c, e, h1, h2, fun hn => ?_⟩
  obtain ⟨b, off, ea, hlo, hhi, hc⟩ := h3 hn
  refine ⟨b, off, ea, hlo, hhi, fun i hi => ?_⟩
  obtain ⟨u, c2, m, g1, g2, g3⟩ := hc i hi
  exact ⟨u, c2, m, (hb.cell (p := ⟨b, off + i * n + f, none⟩) (by show b < B; omega)).trans g1, g2.below hb hB, g3⟩
def SpU (w : World) (lo hi : Nat) (b u x y : Value) (nb nu nx ny : Nat) : Prop := SpN 1 0 w lo hi b nb ∧ SpN 2 1 w lo hi u nu ∧ SpoB w lo hi x nx ∧ SpoB w lo hi y ny
theorem SpU.of {w : World} {lo hi : Nat} {b u x y : Value} {s : StoreL} (h : StoreT w lo hi b u x y s) (h1 : ∀ x ∈ s.disk.blocks, 0 < x.length) (h2 : ∀ x ∈ s.disk.waits, 0 < x.data.length) : SpU w lo hi b u x y s.disk.blocks.length s.disk.waits.length s.now.length s.last.length :=
  ⟨SpN.of_b h.1.1 h1, SpN.of_w h.1.2 h2, SpoB.of h.2.1.1 h.2.1.2, SpoB.of h.2.2.1 h.2.2.2⟩
theorem SpU.set {w : World} {lo hi : Nat} {b u x y : Value} {nb nu nx ny : Nat} (h : SpU w lo hi b u x y nb nu nx ny) (p : Addr) (z z' : UInt8) (hp : w.cell? p = some (bV z)) : SpU (w.setCell p (bV z')) lo hi b u x y nb nu nx ny :=
  ⟨h.1.set p z z' hp, h.2.1.set p z z' hp, h.2.2.1.set p z z' hp, h.2.2.2.set p z z' hp⟩
theorem SpU.below {w w' : World} {lo hi B : Nat} {b u x y : Value} {nb nu nx ny : Nat} (h : SpU w lo hi b u x y nb nu nx ny) (hb : Below B w w') (hB : hi ≤ B) : SpU w' lo hi b u x y nb nu nx ny :=
  ⟨h.1.below hb hB, h.2.1.below hb hB, h.2.2.1.below hb hB, h.2.2.2.below hb hB⟩

set_option maxRecDepth 100000 in
set_option maxHeartbeats 4000000 in
theorem spoil9_any (b u x y : Value) (nb nu nx ny : Nat) (w : World) (n0 hi : Nat) (hhi : hi ≤ w.heap.size) (hn : n0 ≤ hi) (h : SpU w n0 hi b u x y nb nu nx ny) :
    Calls Try.prog 32 #[.agg #[b, u, x, y]] w fun e w' => (∃ v, e = .returned v) ∧ Below n0 w w' ∧ ∀ x, x < w.heap.size → (x < n0 ∨ hi ≤ x) → w'.heap[x]? = w.heap[x]? := by
  have hst0 := (Below.refl w.heap.size w).alloc (Nat.le_refl _) (.cells #[b, u, x, y] 28)
  have hq := World.alloc_heap_new w (.cells #[b, u, x, y] 28)
  obtain ⟨ab, cb, rfl, g1, g2, -⟩ := id h.1
  obtain ⟨au, cu, rfl, g3, g4, -⟩ := id h.2.1
  obtain ⟨ax, cx, rfl, g5, g6, -⟩ := id h.2.2.1
  obtain ⟨ay, cy, rfl, g7, g8, -⟩ := id h.2.2.2
  unfold maxLen at g2 g4 g6 g8
  obtain ⟨W, hW⟩ : ∃ W, w.alloc (.cells #[.slice ab nb cb, .slice au nu cu, .slice ax nx cx, .slice ay ny cy] 28) = W := ⟨_, rfl⟩
  rw [hW] at hst0 hq
  have hB : Below n0 w W := hst0.mono (Nat.le_trans hn hhi)
  have HS := Lib.hid (And.intro (h.below hst0 hhi) (And.intro hB hq))
  have HWE := Lib.hid hW
  have HF := Lib.hid (show ∀ x, x < w.heap.size → x < W.heap.size ∧ W.heap[x]? = w.heap[x]? from fun x hx => ⟨Nat.lt_of_lt_of_le hx hst0.size, hst0.block x hx⟩)
  clear h hst0 hq hB hW
  go_enter Try.func32, Try.ntmps32
  go_upto_region 1 with (fail)
  rw [HWE.out]
  clear HWE
  have hs := HS.out.1
  have hBw : Below n0 w W ∧ (∀ x, x < W.heap.size → (x < n0 ∨ hi ≤ x) → W.heap[x]? = W.heap[x]?) := ⟨HS.out.2.1, fun _ _ _ => rfl⟩
  have hq := HS.out.2.2
  obtain ⟨wr, hwr⟩ : ∃ v, v = W := ⟨_, rfl⟩
  rw [← hwr] at hs hq ⊢
  have hBw : Below n0 w wr ∧ (∀ x, x < W.heap.size → (x < n0 ∨ hi ≤ x) → wr.heap[x]? = W.heap[x]?) := by rw [hwr]; exact hBw
  clear hwr HS
  have q0 := blk_cell hq 0
  have q1 := blk_cell hq 1
  have q2 := blk_cell hq 2
  have q3 := blk_cell hq 3
  simp at q0 q1 q2 q3
  have HM := Lib.hid (And.intro hs (And.intro hBw hq))
  obtain ⟨wm, hwm⟩ : ∃ wm, wm = wr := ⟨_, rfl⟩
  subst hwm
  clear hs hBw hq
  go_wp2_with fail
  go_loopw [2] (fun i wr => ∃ k : Nat, k ≤ nb ∧ i = .int .i64 k ∧ SpU wr n0 hi (.slice ab nb cb) (.slice au nu cu) (.slice ax nx cx) (.slice ay ny cy) nb nu nx ny ∧ (Below n0 w wr ∧ (∀ x, x < W.heap.size → (x < n0 ∨ hi ≤ x) → wr.heap[x]? = W.heap[x]?)) ∧ wr.heap[w.heap.size]? = some (.cells #[.slice ab nb cb, .slice au nu cu, .slice ax nx cx, .slice ay ny cy] 28 (0, 0))) (fun i _ => nb - (intOf i).toNat)
  case atStart => exact ⟨0, Nat.zero_le _, rfl, HM.out.1, HM.out.2.1, HM.out.2.2⟩
  case round =>
  obtain ⟨k, hk, rfl, hs, hBw, hq⟩ := hrel
  clear q0 q1 q2 q3
  have q0 := blk_cell hq 0
  have q1 := blk_cell hq 1
  have q2 := blk_cell hq 2
  have q3 := blk_cell hq 3
  simp at q0 q1 q2 q3
  by_cases hlt : k < nb
  case pos =>
    obtain ⟨a', c', e', -, z2, z3⟩ := id hs.1
    obtain ⟨bb, bo, ea, zl, zh, zc⟩ := z3 (by omega)
    cases e'
    subst ea
    obtain ⟨sa, sc, m, hcell, hsp, hm0⟩ := zc k hlt
    obtain ⟨pa, pc, e2, y1, y2, y3⟩ := id hsp
    cases e2
    have hcell0 : wr.cell? ⟨bb, bo + k, none⟩ = some (.slice sa m sc) := by simpa using hcell
    unfold maxLen at z2 y2
    obtain ⟨sb, so, ea, t1, t2, t3⟩ := y3 (by omega)
    subst ea
    obtain ⟨x, hx, hxf⟩ := t3 0 hm0
    rw [Nat.add_zero] at hx hxf
    have hx0 : wr.cell? ⟨sb, so, none⟩ = some (.int .u8 (x.toNat : Int)) := hx
    have hx1 : (x.toNat : Int) < 256 := by have := x.toNat_lt; omega
    have im : (0 : Int) < (m : Int) := by omega
    have im2 : ¬ (m : Int) ≤ 0 := by omega
    have HJ := Lib.hid (And.intro hs (And.intro hBw (And.intro hq (And.intro hx (spo_add x)))))
    clear hs hBw hq hsp hcell hx y3 t3 z3 zc
    go_wp2_with fail
    go_still_tail 16, (by kernel_rfl)
    go_wp2
    go_roundw
    case rel =>
      obtain ⟨hs, hBw, hq, hx, hadd⟩ := HJ.out
      rw [hadd]
      have hsb : w.heap.size ≠ sb := by omega
      exact ⟨k + 1, by omega, by go_num, SpU.set (w := wr) hs _ _ (x + 1) hx, ⟨hBw.1.drew.setCell (p := ⟨sb, so, none⟩) t1 _, fun x h1 h2 => (set_other wr sb so _ x (by omega)).trans (hBw.2 x h1 h2)⟩, (set_other wr sb so _ _ hsb).trans hq⟩
    case measure => simp [intOf]; omega
  obtain rfl : nb = k := by omega
  clear hlt hk HM q0 q1 q2 q3
  have q0 := blk_cell hq 0
  have q1 := blk_cell hq 1
  have q2 := blk_cell hq 2
  have q3 := blk_cell hq 3
  simp at q0 q1 q2 q3
  have HM := Lib.hid (And.intro hs (And.intro hBw hq))
  obtain ⟨wm, hwm⟩ : ∃ wm, wm = wr := ⟨_, rfl⟩
  subst hwm
  clear hs hBw hq
  go_wp2_with fail
  go_loopw [3] (fun i wr => ∃ k : Nat, k ≤ nu ∧ i = .int .i64 k ∧ SpU wr n0 hi (.slice ab nb cb) (.slice au nu cu) (.slice ax nx cx) (.slice ay ny cy) nb nu nx ny ∧ (Below n0 w wr ∧ (∀ x, x < W.heap.size → (x < n0 ∨ hi ≤ x) → wr.heap[x]? = W.heap[x]?)) ∧ wr.heap[w.heap.size]? = some (.cells #[.slice ab nb cb, .slice au nu cu, .slice ax nx cx, .slice ay ny cy] 28 (0, 0))) (fun i _ => nu - (intOf i).toNat)
  case atStart => exact ⟨0, Nat.zero_le _, rfl, HM.out.1, HM.out.2.1, HM.out.2.2⟩
  case round =>
  obtain ⟨k, hk, rfl, hs, hBw, hq⟩ := hrel
  clear q0 q1 q2 q3
  have q0 := blk_cell hq 0
  have q1 := blk_cell hq 1
  have q2 := blk_cell hq 2
  have q3 := blk_cell hq 3
  simp at q0 q1 q2 q3
  by_cases hlt : k < nu
  case pos =>
    obtain ⟨a', c', e', -, z2, z3⟩ := id hs.2.1
    obtain ⟨bb, bo, ea, zl, zh, zc⟩ := z3 (by omega)
    cases e'
    subst ea
    obtain ⟨sa, sc, m, hcell, hsp, hm0⟩ := zc k hlt
    obtain ⟨pa, pc, e2, y1, y2, y3⟩ := id hsp
    cases e2
    have hcell0 : wr.cell? ⟨bb, bo + k * 2 + 1, none⟩ = some (.slice sa m sc) := by simpa using hcell
    unfold maxLen at z2 y2
    obtain ⟨sb, so, ea, t1, t2, t3⟩ := y3 (by omega)
    subst ea
    obtain ⟨x, hx, hxf⟩ := t3 0 hm0
    rw [Nat.add_zero] at hx hxf
    have hx0 : wr.cell? ⟨sb, so, none⟩ = some (.int .u8 (x.toNat : Int)) := hx
    have hx1 : (x.toNat : Int) < 256 := by have := x.toNat_lt; omega
    have im : (0 : Int) < (m : Int) := by omega
    have im2 : ¬ (m : Int) ≤ 0 := by omega
    have HJ := Lib.hid (And.intro hs (And.intro hBw (And.intro hq (And.intro hx (spo_add x)))))
    clear hs hBw hq hsp hcell hx y3 t3 z3 zc
    go_wp2_with fail
    go_still_tail 18, (by kernel_rfl)
    go_wp2
    go_roundw
    case rel =>
      obtain ⟨hs, hBw, hq, hx, hadd⟩ := HJ.out
      rw [hadd]
      have hsb : w.heap.size ≠ sb := by omega
      exact ⟨k + 1, by omega, by go_num, SpU.set (w := wr) hs _ _ (x + 1) hx, ⟨hBw.1.drew.setCell (p := ⟨sb, so, none⟩) t1 _, fun x h1 h2 => (set_other wr sb so _ x (by omega)).trans (hBw.2 x h1 h2)⟩, (set_other wr sb so _ _ hsb).trans hq⟩
    case measure => simp [intOf]; omega
  obtain rfl : nu = k := by omega
  clear hlt hk HM q0 q1 q2 q3
  have q0 := blk_cell hq 0
  have q1 := blk_cell hq 1
  have q2 := blk_cell hq 2
  have q3 := blk_cell hq 3
  simp at q0 q1 q2 q3
  have HM := Lib.hid (And.intro hs (And.intro hBw hq))
  obtain ⟨wm, hwm⟩ : ∃ wm, wm = wr := ⟨_, rfl⟩
  subst hwm
  clear hs hBw hq
  go_wp2_with fail
  go_loopw [4] (fun i wr => ∃ j : Nat, j ≤ nx ∧ i = .int .i64 j ∧ SpU wr n0 hi (.slice ab nb cb) (.slice au nu cu) (.slice ax nx cx) (.slice ay ny cy) nb nu nx ny ∧ (Below n0 w wr ∧ (∀ x, x < W.heap.size → (x < n0 ∨ hi ≤ x) → wr.heap[x]? = W.heap[x]?)) ∧ wr.heap[w.heap.size]? = some (.cells #[.slice ab nb cb, .slice au nu cu, .slice ax nx cx, .slice ay ny cy] 28 (0, 0))) (fun i _ => nx - (intOf i).toNat)
  case atStart => exact ⟨0, Nat.zero_le _, rfl, HM.out.1, HM.out.2.1, HM.out.2.2⟩
  case round =>
  obtain ⟨j, hj, rfl, hs, hBw, hq⟩ := hrel
  clear q0 q1 q2 q3
  have q0 := blk_cell hq 0
  have q1 := blk_cell hq 1
  have q2 := blk_cell hq 2
  have q3 := blk_cell hq 3
  simp at q0 q1 q2 q3
  by_cases hlt : j < nx
  case pos =>
    obtain ⟨pa, pc, e2, y1, y2, y3⟩ := id hs.2.2.1
    cases e2
    obtain ⟨sb, so, ea, t1, t2, t3⟩ := y3 (by omega)
    subst ea
    obtain ⟨x, hx, hxf⟩ := t3 j hlt
    have hx0 : wr.cell? ⟨sb, so + j, none⟩ = some (.int .u8 (x.toNat : Int)) := hx
    have hx1 : (x.toNat : Int) < 256 := by have := x.toNat_lt; omega
    have HJ := Lib.hid (And.intro hs (And.intro hBw (And.intro hq (And.intro hx (spo_add x)))))
    clear hs hBw hq hx y3 t3
    unfold maxLen at y2
    go_wp2_with fail
    go_still_tail 10, (by kernel_rfl)
    go_wp2
    go_roundw
    case rel =>
      obtain ⟨hs, hBw, hq, hx, hadd⟩ := HJ.out
      rw [hadd]
      have hsb : w.heap.size ≠ sb := by omega
      exact ⟨j + 1, by omega, by go_num, SpU.set (w := wr) hs _ _ (x + 1) hx, ⟨hBw.1.drew.setCell (p := ⟨sb, so + j, none⟩) t1 _, fun x h1 h2 => (set_other wr sb (so + j) _ x (by omega)).trans (hBw.2 x h1 h2)⟩, (set_other wr sb (so + j) _ _ hsb).trans hq⟩
    case measure => simp [intOf]; omega
  obtain rfl : nx = j := by omega
  clear hlt hj HM q0 q1 q2 q3
  have q0 := blk_cell hq 0
  have q1 := blk_cell hq 1
  have q2 := blk_cell hq 2
  have q3 := blk_cell hq 3
  simp at q0 q1 q2 q3
  have HM := Lib.hid (And.intro hs (And.intro hBw hq))
  obtain ⟨wm, hwm⟩ : ∃ wm, wm = wr := ⟨_, rfl⟩
  subst hwm
  clear hs hBw hq
  go_wp2_with fail
  go_loopw [5] (fun i wr => ∃ j : Nat, j ≤ ny ∧ i = .int .i64 j ∧ SpU wr n0 hi (.slice ab nb cb) (.slice au nu cu) (.slice ax nx cx) (.slice ay ny cy) nb nu nx ny ∧ (Below n0 w wr ∧ (∀ x, x < W.heap.size → (x < n0 ∨ hi ≤ x) → wr.heap[x]? = W.heap[x]?)) ∧ wr.heap[w.heap.size]? = some (.cells #[.slice ab nb cb, .slice au nu cu, .slice ax nx cx, .slice ay ny cy] 28 (0, 0))) (fun i _ => ny - (intOf i).toNat)
  case atStart => exact ⟨0, Nat.zero_le _, rfl, HM.out.1, HM.out.2.1, HM.out.2.2⟩
  case round =>
  obtain ⟨j, hj, rfl, hs, hBw, hq⟩ := hrel
  clear q0 q1 q2 q3
  have q0 := blk_cell hq 0
  have q1 := blk_cell hq 1
  have q2 := blk_cell hq 2
  have q3 := blk_cell hq 3
  simp at q0 q1 q2 q3
  by_cases hlt : j < ny
  case pos =>
    obtain ⟨pa, pc, e2, y1, y2, y3⟩ := id hs.2.2.2
    cases e2
    obtain ⟨sb, so, ea, t1, t2, t3⟩ := y3 (by omega)
    subst ea
    obtain ⟨x, hx, hxf⟩ := t3 j hlt
    have hx0 : wr.cell? ⟨sb, so + j, none⟩ = some (.int .u8 (x.toNat : Int)) := hx
    have hx1 : (x.toNat : Int) < 256 := by have := x.toNat_lt; omega
    have HJ := Lib.hid (And.intro hs (And.intro hBw (And.intro hq (And.intro hx (spo_add x)))))
    clear hs hBw hq hx y3 t3
    unfold maxLen at y2
    go_wp2_with fail
    go_still_tail 10, (by kernel_rfl)
    go_wp2
    go_roundw
    case rel =>
      obtain ⟨hs, hBw, hq, hx, hadd⟩ := HJ.out
      rw [hadd]
      have hsb : w.heap.size ≠ sb := by omega
      exact ⟨j + 1, by omega, by go_num, SpU.set (w := wr) hs _ _ (x + 1) hx, ⟨hBw.1.drew.setCell (p := ⟨sb, so + j, none⟩) t1 _, fun x h1 h2 => (set_other wr sb (so + j) _ x (by omega)).trans (hBw.2 x h1 h2)⟩, (set_other wr sb (so + j) _ _ hsb).trans hq⟩
    case measure => simp [intOf]; omega
  obtain rfl : ny = j := by omega
  clear hlt hj HM q0 q1 q2 q3
  have q0 := blk_cell hq 0
  have q1 := blk_cell hq 1
  have q2 := blk_cell hq 2
  have q3 := blk_cell hq 3
  simp at q0 q1 q2 q3
  have hBf := hBw
  clear hs hBw hq
  go_wp2
  go_end0
  exact ⟨⟨_, rfl⟩, hBf.1, fun x h1 h2 => (hBf.2 x (HF.out x h1).1 h2).trans (HF.out x h1).2⟩
end Go.Proofs.Ytkfgegdnpinbdaa

namespace Go.Proofs.Ytkfgegdnpinbdaa
open Go.RowKit

/-- What Great sums, of the first k items. -/
def smI (its : List ItemL) (k : Nat) : Nat := ((its.take k).map fun x => min x.val.length 100000).sum
theorem smI_succ (its : List ItemL) (k : Nat) (h : k < its.length) : smI its (k + 1) = smI its k + min (its.getD k nokI).val.length 100000 := by
  unfold smI
  rw [List.take_add_one, List.map_append, List.sum_append, List.getElem?_eq_getElem h, List.getD_eq_getElem?_getD, List.getElem?_eq_getElem h]
  simp
theorem smI_all (its : List ItemL) (h : smI its its.length ≤ 50000) : ∀ x ∈ its, x.val.length ≤ 50000 := by
  unfold smI at h
  rw [List.take_length] at h
  induction its with
  | nil => intro x hx; cases hx
  | cons a l ih =>
    rw [List.map_cons, List.sum_cons] at h
    intro x hx
    rcases List.mem_cons.1 hx with rfl | hx
    · omega
    · exact ih (by omega) x hx
/-- Items that Great does not call great. -/
def FewI (its : List ItemL) : Prop := its.length ≤ 1000 ∧ ∀ x ∈ its, x.val.length ≤ 50000

set_option maxRecDepth 100000 in
set_option maxHeartbeats 1000000 in
theorem great6_any (v : Value) (its : List ItemL) (w : World) (h : Sl rItem w 0 w.heap.size v its) :
    Calls Try.prog 25 #[v] w fun e w' => ∃ g, e = .returned (.bool g) ∧ Below w.heap.size w w' ∧ (g = false → FewI its) := by
  obtain ⟨a, c, rfl, g1, g2, -, -⟩ := id h
  unfold maxLen at g2
  have HQ := Lib.hid h
  clear h
  go_enter Try.func25, Try.ntmps25
  go_wp2_with fail
  go_loopw [3, 4] (fun v i wr => ∃ k m : Nat, k ≤ its.length ∧ k ≤ 2000 ∧ m ≤ k * 100000 ∧ m = smI its k ∧ i = .int .i64 k ∧ v = .int .i64 m ∧ wr = w) (fun _ i _ => its.length - (intOf i).toNat)
  case atStart => exact ⟨0, 0, Nat.zero_le _, Nat.zero_le _, Nat.zero_le _, rfl, rfl, rfl, rfl⟩
  case round =>
  obtain ⟨k, m, hk, hk2, hm, hms, rfl, rfl, rfl⟩ := hrel
  by_cases hlt : k < its.length ∧ k < 2000
  · obtain ⟨hl1, hl2⟩ := hlt
    obtain ⟨bb, bo, cb', e', -, z1, z2, z3, hbe⟩ := HQ.out.at_ (by omega)
    injection e' with ea _ ec
    subst ea ec
    obtain ⟨-, -, -, -, -, u, hv, hvb⟩ := hbe k (its.getD k nokI) (get_l _ _ _ hl1)
    obtain ⟨av, cv, rfl, -, hcv⟩ := hvb.form rfl
    unfold maxLen at hcv z3
    have hn5 : rItem.n = 5 := rfl
    rw [hn5] at hv
    have i1 : (k : Int) < its.length := by omega
    have i2 : (k : Int) < 2000 := by omega
    obtain ⟨cy, hcy⟩ : ∃ cy : Nat, cy = min (its.getD k nokI).val.length 100000 := ⟨_, rfl⟩
    have hcl : cy ≤ 100000 := by omega
    have hsc := smI_succ its k hl1
    rw [← hcy, ← hms] at hsc
    have HSC := Lib.hid hsc
    clear hsc hms
    have hmin : min ((its.getD k nokI).val.length : Int) 100000 = (cy : Int) := by omega
    clear hvb hbe hcy hn5 z1 z2
    generalize (its.getD k nokI).val.length = y at *
    go_wp2
    go_roundw
    case rel => exact ⟨k + 1, m + cy, by omega, by omega, by omega, HSC.out.symm, by go_num, by go_num, trivial⟩
    case measure => simp [intOf]; omega
  · have hcase : (decide ((k : Int) < its.length) = false ∧ ¬ k < its.length) ∨ ((k : Int) < its.length ∧ decide ((k : Int) < 2000) = false) := by
      by_cases h : k < its.length
      · exact .inr ⟨by omega, by simp; omega⟩
      · exact .inl ⟨by simp; omega, h⟩
    have HMS := Lib.hid (And.intro hms hlt)
    clear hms hlt
    by_cases hg : 1000 < its.length
    · have i9 : (1000 : Int) < its.length := by omega
      rcases hcase with ⟨d3, d3n⟩ | ⟨i3, d4⟩
      · go_wp2
        go_ret
        exact ⟨true, rfl, Below.refl _ _, fun h => by cases h⟩
      · go_wp2
        go_ret
        exact ⟨true, rfl, Below.refl _ _, fun h => by cases h⟩
    · have d9 : decide ((1000 : Int) < its.length) = false := by simp; omega
      have hkk : k = its.length := by have := HMS.out.2; omega
      rcases hcase with ⟨d3, d3n⟩ | ⟨i3, d4⟩
      · by_cases h5 : 50000 < m
        · have i5 : (50000 : Int) < m := by omega
          go_wp2
          go_ret
          exact ⟨true, rfl, Below.refl _ _, fun h => by cases h⟩
        · have d5 : decide ((50000 : Int) < m) = false := by simp; omega
          have hm5 : m ≤ 50000 := by omega
          have HM5 := Lib.hid hm5
          clear h5 hm5
          go_wp2
          go_ret
          exact ⟨false, rfl, Below.refl _ _, fun _ => ⟨by omega, smI_all its (by rw [← hkk, ← HMS.out.1]; exact HM5.out)⟩⟩
      · omega
end Go.Proofs.Ytkfgegdnpinbdaa

