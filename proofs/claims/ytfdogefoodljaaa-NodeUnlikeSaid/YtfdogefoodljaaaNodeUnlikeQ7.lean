/- NodeUnlike: the words and contracts, part 7. -/
import Derived.Test.YtfdogefoodljaaaNodeUnlikeQ1
import Derived.Test.YtfdogefoodljaaaNodeUnlikeQ2
import Derived.Test.YtfdogefoodljaaaNodeUnlikeQ3
import Derived.Test.YtfdogefoodljaaaNodeUnlikeQ4
import Derived.Test.YtfdogefoodljaaaNodeUnlikeQ5
import Derived.Test.YtfdogefoodljaaaNodeUnlikeQ6
import Derived.WalkKit
import Derived.WalkLawsBesides
import Derived.WalkSpells
import Derived.Lib.Hide
import Derived.Laws.Rows
import Derived.Laws.AppendOwnNone
import Derived.Maps.AppendAt
import Derived.RangeFuncNested
import Derived.RangeFuncBound
import Derived.RangeFuncCalls
import Derived.RangeFuncLeaves
import Derived.RangeFuncBox
import Derived.Shelf.Abstract
import Derived.Shelf.RegionOpen
import Derived.OwnWalkIn
import Derived.TacticsInMore
import Derived.LoopNIn
import Derived.LoopIn
import Derived.ProofKit
import Derived.Deep.Slices
import Derived.WideShapes
import Derived.OrdersHeld
import Derived.Deep.QuietTactic
import Derived.BigQuiet
import Derived.StillTailTactics
import Derived.OpenShut
import Derived.Lib.SliceRun
import Derived.Lib.AppendZerosOnto
import Derived.Lib.Walk
import Derived.Deep.LoopGhost
import Derived.Laws.CopyOwn
import Derived.Laws.CopyRow
import Derived.Deep.DeepCutAuto
namespace Go.Proofs.Ytfdogefoodljaaa
open Go.RowKit

theorem blk_cell {w : World} {g : Nat} {cs : Array Value} {t : TypeId} {f : Nat × Nat} (h : w.heap[g]? = some (.cells cs t f)) (i : Nat) : w.cell? ⟨g, i, none⟩ = cs[i]? := by simp [World.cell?, h]
theorem blk_frozen {w : World} {g : Nat} {cs : Array Value} {t : TypeId} (h : w.heap[g]? = some (.cells cs t (0, 0))) (i : Nat) : w.frozen? ⟨g, i, none⟩ = false := by simp [World.frozen?, h]

theorem two_new (w : World) (o1 o2 : Obj) : ((w.alloc o1).alloc o2).heap[w.heap.size]? = some o1 ∧ ((w.alloc o1).alloc o2).heap[w.heap.size + 1]? = some o2 := by
  refine ⟨?_, ?_⟩
  · rw [Below.heap_alloc (w.alloc o1) o2 w.heap.size (by simp), World.alloc_heap_new]
  · have := World.alloc_heap_new (w.alloc o1) o2
    simpa using this
theorem Bytes.setOff {w : World} {lo hi g i : Nat} {v u : Value} {l : List UInt8} (h : Bytes w lo hi v l) (hg : g < lo ∨ hi ≤ g) : Bytes (w.setCell ⟨g, i, none⟩ u) lo hi v l :=
  h.keep fun b o h1 h2 => World.cell?_setCell_other _ _ _ _ (by intro h; injection h; omega)

set_option maxRecDepth 100000 in
set_option maxHeartbeats 400000 in
theorem itwin_any (x : ItemL) (v : Value) (w : World) (hv : Bytes w 0 w.heap.size v x.val) (hl : x.val.length ≤ 1000000000) :
    Calls Try.prog 83 #[itemV x v] w fun e w' => ∃ u, e = .returned (itemV x u) ∧ MadeB w w' u x.val := by
  have hb1 := (Below.refl w.heap.size w).alloc (Nat.le_refl _) (.cells #[bV x.key.kind, wV x.key.id, wV x.key.off, .int .i64 x.ref, v] 73)
  have hb2 := hb1.alloc (by simp) (.cells #[.int .u8 0, .int .u32 0, .int .u32 0, .int .i64 0, .slice none 0 0] 73)
  have hv2 := hv.step hb2
  have hc := bclone_any _ _ _ hv2 hl
  obtain ⟨W, hW⟩ : ∃ W, (w.alloc (.cells #[bV x.key.kind, wV x.key.id, wV x.key.off, .int .i64 x.ref, v] 73)).alloc (.cells #[.int .u8 0, .int .u32 0, .int .u32 0, .int .i64 0, .slice none 0 0] 73) = W := ⟨_, rfl⟩
  have hz : W.heap.size = w.heap.size + 2 := by rw [← hW]; simp
  have q1 : W.heap[w.heap.size]? = some (.cells #[bV x.key.kind, wV x.key.id, wV x.key.off, .int .i64 x.ref, v] 73 (0, 0)) := by rw [← hW]; exact (two_new _ _ _).1
  have q2 : W.heap[w.heap.size + 1]? = some (.cells #[.int .u8 0, .int .u32 0, .int .u32 0, .int .i64 0, .slice none 0 0] 73 (0, 0)) := by rw [← hW]; exact (two_new _ _ _).2
  rw [hW] at hc hb2
  obtain ⟨a, c, rfl, g1, g2, _, _⟩ := hv
  obtain ⟨⟨k, i, o⟩, r, l⟩ := x
  have Hc := Lib.hid hc
  have Hq := Lib.hid (And.intro q1 (And.intro q2 (And.intro hW hz)))
  clear hv2 hb1 hc q1 q2 hW hz
  simp only [itemV, bV, wV] at *
  go_enter Try.func83, Try.ntmps83
  go_wp2_with fail
  rw [Hq.out.2.2.1]
  refine Hc.out.mono ?_
  rintro e w1 ⟨u, rfl, hm⟩
  obtain ⟨q1, q2, _, hz⟩ := Hq.out
  have p1 := (hm.below.block w.heap.size (by omega)).trans q1
  have p2 := (hm.below.block (w.heap.size + 1) (by omega)).trans q2
  have hB := below_step hb2 hb2.size hm.below
  obtain ⟨ua, uc, rfl, u1, u2⟩ := hm.bytes.form rfl
  have c0 := blk_cell p1 0
  have c1 := blk_cell p1 1
  have c2 := blk_cell p1 2
  have c3 := blk_cell p1 3
  have c4 := blk_cell p1 4
  have f4 := blk_frozen p1 4
  have d0 := blk_cell p2 0
  have d1 := blk_cell p2 1
  have d2 := blk_cell p2 2
  have d3 := blk_cell p2 3
  have d4 := blk_cell p2 4
  have e0 := blk_frozen p2 0
  have e1 := blk_frozen p2 1
  have e2 := blk_frozen p2 2
  have e3 := blk_frozen p2 3
  have e4 := blk_frozen p2 4
  simp at c0 c1 c2 c3 c4 d0 d1 d2 d3 d4
  have Hm := Lib.hid hm
  have HB := Lib.hid (And.intro hB hz)
  clear p1 p2 q1 q2 hm hB hz hb2
  go_wp2_with fail
  refine bodyPost_ret (v := .agg #[.int .u8 (k.toNat : Int), .int .u32 (i.toNat : Int), .int .u32 (o.toNat : Int), .int .i64 r, .slice ua l.length uc]) (by simp [results, Try.results83, go_sem, d0, d1, d2, d3, d4]) rfl ⟨_, rfl, ?_⟩
  obtain ⟨hB, hz⟩ := HB.out
  have hm := Hm.out
  have s1 : w.heap.size < W.heap.size := by omega
  have s2 : w.heap.size + 1 < W.heap.size := by omega
  refine ⟨?_, ?_, ?_⟩
  · refine Bytes.more (lo := W.heap.size) (hi := w1.heap.size) ?_ (by omega) (by simp)
    exact (((((hm.bytes.setOff (.inl s1)).setOff (.inl s2)).setOff (.inl s2)).setOff (.inl s2)).setOff (.inl s2)).setOff (.inl s2)
  · exact (((((hm.thawed.set _ _).set _ _).set _ _).set _ _).set _ _).set _ _
  · exact (((((hB.setCell (p := ⟨w.heap.size, 4, none⟩) (Nat.le_refl _) _).setCell (p := ⟨w.heap.size + 1, 0, none⟩) (Nat.le_succ _) _).setCell (p := ⟨w.heap.size + 1, 1, none⟩) (Nat.le_succ _) _).setCell (p := ⟨w.heap.size + 1, 2, none⟩) (Nat.le_succ _) _).setCell (p := ⟨w.heap.size + 1, 3, none⟩) (Nat.le_succ _) _).setCell (p := ⟨w.heap.size + 1, 4, none⟩) (Nat.le_succ _) _
end Go.Proofs.Ytfdogefoodljaaa

namespace Go.Proofs.Ytfdogefoodljaaa
open Go.RowKit

/-- P holds, wherever the blocks from lo on, below hi, are as they are here. -/
def Lv (lo hi : Nat) (P : World → Prop) (V : World) : Prop := hi ≤ V.heap.size ∧ ∀ V' : World, (∀ k, lo ≤ k → k < hi → V'.heap[k]? = V.heap[k]?) → P V'
section
variable {lo hi : Nat} {P : World → Prop} {V V' : World}
theorem Lv.get (h : Lv lo hi P V) : P V := h.2 V fun _ _ _ => rfl
theorem Lv.hi_le (h : Lv lo hi P V) : hi ≤ V.heap.size := h.1
theorem Lv.step (h : Lv lo hi P V) (hb : Below V.heap.size V V') : Lv lo hi P V' :=
  ⟨Nat.le_trans h.1 hb.size, fun W hW => h.2 W fun k h1 h2 => (hW k h1 h2).trans (hb.block k (Nat.lt_of_lt_of_le h2 h.1))⟩
/-- Blocks from n0 on, below h0, have turned, and no other ones. -/
theorem Lv.out {n0 h0 : Nat} (h : Lv lo hi P V) (hs : V.heap.size ≤ V'.heap.size) (hf : ∀ x, x < V.heap.size → (x < n0 ∨ h0 ≤ x) → V'.heap[x]? = V.heap[x]?) (hd : hi ≤ n0 ∨ h0 ≤ lo) : Lv lo hi P V' :=
  ⟨Nat.le_trans h.1 hs, fun W hW => h.2 W fun k h1 h2 => (hW k h1 h2).trans (hf k (Nat.lt_of_lt_of_le h2 h.1) (by omega))⟩
theorem Lv.mk' (h : hi ≤ V.heap.size) (hk : ∀ V', Kp lo hi V V' → P V') : Lv lo hi P V := ⟨h, fun W hW => hk W fun b o h1 h2 => ⟨heap_cell (hW b h1 h2) o, heap_frozen (hW b h1 h2) o⟩⟩
theorem Lv.imp {Q : World → Prop} (h : Lv lo hi P V) (hi' : ∀ W, P W → Q W) : Lv lo hi Q V := ⟨h.1, fun W hW => hi' W (h.2 W hW)⟩
theorem Lv.and {Q : World → Prop} (h : Lv lo hi P V) (k : Lv lo hi Q V) : Lv lo hi (fun W => P W ∧ Q W) V := ⟨h.1, fun W hW => ⟨h.2 W hW, k.2 W hW⟩⟩
theorem Lv.more {lo' hi' : Nat} (h : Lv lo hi P V) (h1 : lo' ≤ lo) (h2 : hi ≤ hi') (h3 : hi' ≤ V.heap.size) : Lv lo' hi' P V := ⟨h3, fun W hW => h.2 W fun k g1 g2 => hW k (by omega) (by omega)⟩
end
/-- A known block. -/
def LK (g : Nat) (o : Obj) (V : World) : Prop := Lv g (g + 1) (fun W => W.heap[g]? = some o) V
theorem LK.of {V : World} {g : Nat} {o : Obj} (h : V.heap[g]? = some o) : LK g o V := ⟨(Array.getElem?_eq_some_iff.1 h).1, fun _ hW => (hW g (Nat.le_refl _) (Nat.lt_succ_self _)).trans h⟩
theorem LK.new (w : World) (o : Obj) : LK w.heap.size o (w.alloc o) := LK.of (World.alloc_heap_new w o)
theorem LK.blk {V : World} {g : Nat} {o : Obj} (h : LK g o V) : V.heap[g]? = some o := Lv.get h
theorem LK.lt {V : World} {g : Nat} {o : Obj} (h : LK g o V) : g < V.heap.size := Lv.hi_le h
theorem LK.step {V V' : World} {g : Nat} {o : Obj} (h : LK g o V) (hb : Below V.heap.size V V') : LK g o V' := Lv.step h hb
theorem LK.out {V V' : World} {g n0 h0 : Nat} {o : Obj} (h : LK g o V) (hs : V.heap.size ≤ V'.heap.size) (hf : ∀ x, x < V.heap.size → (x < n0 ∨ h0 ≤ x) → V'.heap[x]? = V.heap[x]?) (hd : g < n0 ∨ h0 ≤ g) : LK g o V' := Lv.out h hs hf (by omega)
theorem LK.cell {V : World} {g : Nat} {cs : Array Value} {t : TypeId} {f : Nat × Nat} (h : LK g (.cells cs t f) V) (i : Nat) : V.cell? ⟨g, i, none⟩ = cs[i]? := blk_cell h.blk i
theorem LK.frozen {V : World} {g : Nat} {cs : Array Value} {t : TypeId} (h : LK g (.cells cs t (0, 0)) V) (i : Nat) : V.frozen? ⟨g, i, none⟩ = false := blk_frozen h.blk i
/-- A disk that lies from lo on, below hi. -/
def LD (lo hi : Nat) (b u : Value) (d : DiskL) (V : World) : Prop := Lv lo hi (fun W => DiskV W lo hi b u d) V
theorem LD.of {V : World} {lo hi : Nat} {b u : Value} {d : DiskL} (h : DiskV V lo hi b u d) (hh : hi ≤ V.heap.size) : LD lo hi b u d V := Lv.mk' hh fun _ hk => ⟨Sl.keep h.1 hk, Sl.keep h.2 hk⟩
theorem LD.v {V : World} {lo hi : Nat} {b u : Value} {d : DiskL} (h : LD lo hi b u d V) : DiskV V 0 V.heap.size b u d := DiskV.more (Lv.get h) (Nat.zero_le _) (Lv.hi_le h)
theorem LD.step {V V' : World} {lo hi : Nat} {b u : Value} {d : DiskL} (h : LD lo hi b u d V) (hb : Below V.heap.size V V') : LD lo hi b u d V' := Lv.step h hb
theorem LD.out {V V' : World} {lo hi n0 h0 : Nat} {b u : Value} {d : DiskL} (h : LD lo hi b u d V) (hs : V.heap.size ≤ V'.heap.size) (hf : ∀ x, x < V.heap.size → (x < n0 ∨ h0 ≤ x) → V'.heap[x]? = V.heap[x]?) (hd : hi ≤ n0 ∨ h0 ≤ lo) : LD lo hi b u d V' := Lv.out h hs hf hd
/-- The same, and it may be written. -/
def LT (lo hi : Nat) (b u : Value) (d : DiskL) (V : World) : Prop := Lv lo hi (fun W => DiskT W lo hi b u d) V
theorem DiskT.kept {w w' : World} {lo hi : Nat} {b u : Value} {d : DiskL} (h : DiskT w lo hi b u d) (hk : Kp lo hi w w') : DiskT w' lo hi b u d := ⟨Sl.keep h.1 hk, Sl.keep h.2 hk⟩
theorem LT.of {V V' : World} {b u : Value} {d : DiskL} (h : MadeD V V' b u d) : LT V.heap.size V'.heap.size b u d V' := Lv.mk' (Nat.le_refl _) fun _ hk => h.disk.kept hk
theorem LT.t {V : World} {lo hi : Nat} {b u : Value} {d : DiskL} (h : LT lo hi b u d V) : DiskT V lo hi b u d := Lv.get h
theorem LT.d {V : World} {lo hi : Nat} {b u : Value} {d : DiskL} (h : LT lo hi b u d V) : LD lo hi b u d V := Lv.imp h fun _ k => k.v
theorem LT.v {V : World} {lo hi : Nat} {b u : Value} {d : DiskL} (h : LT lo hi b u d V) : DiskV V 0 V.heap.size b u d := h.d.v
theorem LT.step {V V' : World} {lo hi : Nat} {b u : Value} {d : DiskL} (h : LT lo hi b u d V) (hb : Below V.heap.size V V') : LT lo hi b u d V' := Lv.step h hb
theorem LT.out {V V' : World} {lo hi n0 h0 : Nat} {b u : Value} {d : DiskL} (h : LT lo hi b u d V) (hs : V.heap.size ≤ V'.heap.size) (hf : ∀ x, x < V.heap.size → (x < n0 ∨ h0 ≤ x) → V'.heap[x]? = V.heap[x]?) (hd : hi ≤ n0 ∨ h0 ≤ lo) : LT lo hi b u d V' := Lv.out h hs hf hd
/-- Bytes that lie from lo on, below hi. -/
def LB (lo hi : Nat) (v : Value) (l : List UInt8) (V : World) : Prop := Lv lo hi (fun W => Bytes W lo hi v l) V
theorem LB.of {V : World} {lo hi : Nat} {v : Value} {l : List UInt8} (h : Bytes V lo hi v l) (hh : hi ≤ V.heap.size) : LB lo hi v l V := Lv.mk' hh fun _ hk => h.kept hk
theorem LB.v {V : World} {lo hi : Nat} {v : Value} {l : List UInt8} (h : LB lo hi v l V) : Bytes V 0 V.heap.size v l := Bytes.more (Lv.get h) (Nat.zero_le _) (Lv.hi_le h)
theorem LB.step {V V' : World} {lo hi : Nat} {v : Value} {l : List UInt8} (h : LB lo hi v l V) (hb : Below V.heap.size V V') : LB lo hi v l V' := Lv.step h hb
theorem LB.out {V V' : World} {lo hi n0 h0 : Nat} {v : Value} {l : List UInt8} (h : LB lo hi v l V) (hs : V.heap.size ≤ V'.heap.size) (hf : ∀ x, x < V.heap.size → (x < n0 ∨ h0 ≤ x) → V'.heap[x]? = V.heap[x]?) (hd : hi ≤ n0 ∨ h0 ≤ lo) : LB lo hi v l V' := Lv.out h hs hf hd
/-- The same, and they may be written. -/
def LM (lo hi : Nat) (v : Value) (l : List UInt8) (V : World) : Prop := Lv lo hi (fun W => Bytes W lo hi v l ∧ Thawed W v) V
theorem LM.of {V V' : World} {v : Value} {l : List UInt8} (h : MadeB V V' v l) : LM V.heap.size V'.heap.size v l V' := Lv.mk' (Nat.le_refl _) fun _ hk => ⟨h.bytes.kept hk, thawed_kept h.bytes h.thawed hk⟩
theorem LM.b {V : World} {lo hi : Nat} {v : Value} {l : List UInt8} (h : LM lo hi v l V) : LB lo hi v l V := Lv.imp h fun _ k => k.1
theorem LM.v {V : World} {lo hi : Nat} {v : Value} {l : List UInt8} (h : LM lo hi v l V) : Bytes V 0 V.heap.size v l := h.b.v
theorem LM.m {V : World} {lo hi : Nat} {v : Value} {l : List UInt8} (h : LM lo hi v l V) : Bytes V lo hi v l ∧ Thawed V v := Lv.get h
theorem LM.step {V V' : World} {lo hi : Nat} {v : Value} {l : List UInt8} (h : LM lo hi v l V) (hb : Below V.heap.size V V') : LM lo hi v l V' := Lv.step h hb
theorem LM.out {V V' : World} {lo hi n0 h0 : Nat} {v : Value} {l : List UInt8} (h : LM lo hi v l V) (hs : V.heap.size ≤ V'.heap.size) (hf : ∀ x, x < V.heap.size → (x < n0 ∨ h0 ≤ x) → V'.heap[x]? = V.heap[x]?) (hd : hi ≤ n0 ∨ h0 ≤ lo) : LM lo hi v l V' := Lv.out h hs hf hd
theorem LM.set {V : World} {lo hi b off n c : Nat} {L : List UInt8} (h : LM lo hi (.slice (some ⟨b, off, none⟩) n c) L V) (j : Nat) (x : UInt8) (hj : j < L.length) : LM lo hi (.slice (some ⟨b, off, none⟩) n c) (L.set j x) (V.setCell ⟨b, off + j, none⟩ (bV x)) :=
  Lv.mk' (by rw [World.size_setCell]; exact Lv.hi_le h) fun _ hk => ⟨(h.m.1.set j x hj).kept hk, thawed_kept (h.m.1.set j x hj) (h.m.2.set _ _) hk⟩
/-- A slice that lies from lo on, below hi. -/
def LS {α : Type} (r : Rd α) (lo hi : Nat) (v : Value) (l : List α) (V : World) : Prop := Lv lo hi (fun W => Sl r W lo hi v l) V
theorem LS.of {α : Type} {r : Rd α} {V : World} {lo hi : Nat} {v : Value} {l : List α} (h : Sl r V lo hi v l) (hh : hi ≤ V.heap.size) : LS r lo hi v l V := Lv.mk' hh fun _ hk => h.keep hk
theorem LS.v {α : Type} {r : Rd α} {V : World} {lo hi : Nat} {v : Value} {l : List α} (h : LS r lo hi v l V) : Sl r V 0 V.heap.size v l := Sl.more (Lv.get h) (Nat.zero_le _) (Lv.hi_le h)
theorem LS.step {α : Type} {r : Rd α} {V V' : World} {lo hi : Nat} {v : Value} {l : List α} (h : LS r lo hi v l V) (hb : Below V.heap.size V V') : LS r lo hi v l V' := Lv.step h hb
theorem LS.out {α : Type} {r : Rd α} {V V' : World} {lo hi n0 h0 : Nat} {v : Value} {l : List α} (h : LS r lo hi v l V) (hs : V.heap.size ≤ V'.heap.size) (hf : ∀ x, x < V.heap.size → (x < n0 ∨ h0 ≤ x) → V'.heap[x]? = V.heap[x]?) (hd : hi ≤ n0 ∨ h0 ≤ lo) : LS r lo hi v l V' := Lv.out h hs hf hd
/-- Nothing below w has turned. -/
def LW (w V : World) : Prop := Below w.heap.size w V
theorem LW.step {w V V' : World} (h : LW w V) (hb : Below V.heap.size V V') : LW w V' := below_step h (Below.size h) hb
end Go.Proofs.Ytfdogefoodljaaa

namespace Go.Proofs.Ytfdogefoodljaaa
open Go.RowKit
theorem numOf_fourL (n : Nat) (h : n < 4294967296) : numOf (fourL n) = n := by
  simp [numOf, fourL, UInt8.toNat_ofNat']
  omega
theorem numOf_twoL (n : Nat) (h : n < 65536) : numOf (twoL n) = n := by
  simp [numOf, twoL, UInt8.toNat_ofNat']
  omega
theorem two_of (l : List UInt8) (k : Nat) (h : k + 2 ≤ l.length) : twoL (numOf ((l.drop k).take 2)) = (l.drop k).take 2 := by
  have hk : (l.drop k).length = l.length - k := by simp
  match (l.drop k), hk with
  | a :: b :: r, _ =>
    have ha := a.toNat_lt
    have hb := b.toNat_lt
    simp only [List.take_succ_cons, List.take_zero, numOf, twoL, List.cons.injEq, and_true]
    refine ⟨?_, ?_⟩ <;> (apply UInt8.toNat_inj.1; simp only [UInt8.toNat_ofNat']; omega)
  | [], hk => simp at hk; omega
  | [a], hk => simp at hk; omega
theorem four_of (l : List UInt8) (k : Nat) (h : k + 4 ≤ l.length) : fourL (numOf ((l.drop k).take 4)) = (l.drop k).take 4 := by
  have hk : (l.drop k).length = l.length - k := by simp
  match (l.drop k), hk with
  | a :: b :: c :: d :: r, _ =>
    have ha := a.toNat_lt
    have hb := b.toNat_lt
    have hc := c.toNat_lt
    have hd := d.toNat_lt
    simp only [List.take_succ_cons, List.take_zero, numOf, fourL, List.cons.injEq, and_true]
    refine ⟨?_, ?_, ?_, ?_⟩ <;> (apply UInt8.toNat_inj.1; simp only [UInt8.toNat_ofNat']; omega)
  | [], hk => simp at hk; omega
  | [a], hk => simp at hk; omega
  | [a, b], hk => simp at hk; omega
  | [a, b, c], hk => simp at hk; omega
theorem get_yes' (l : List UInt8) (k many : Nat) (h : k + many ≤ l.length) : getN l (k : Int) many = numOf ((l.drop k).take many) ∧ getE l (k : Int) many = 0 := by
  have h' : 0 ≤ (k : Int) ∧ (k : Int).toNat + many ≤ l.length := by omega
  unfold getN getE
  rw [if_pos h', if_pos h']
  simp
theorem getN_zero (l : List UInt8) (h : 4 ≤ l.length) : getN l 0 4 = numOf (l.take 4) := by
  have := (get_yes' l 0 4 (by omega)).1
  simpa using this
end Go.Proofs.Ytfdogefoodljaaa

namespace Go.Proofs.Ytfdogefoodljaaa
open Go.RowKit

theorem OwnB.step {base : Nat} {e : TypeId} {w w' : World} {v : Value} {l : List UInt8} (h : OwnB base e w v l) (hb : Below w.heap.size w w') : OwnB base e w' v l := by
  obtain ⟨h1, h2⟩ := h
  refine ⟨h1, ?_⟩
  rcases h2 with h2 | ⟨g, cap, cur, hv, hg, hh, r⟩
  · exact .inl h2
  · exact .inr ⟨g, cap, cur, hv, hg, (hb.block g (Array.getElem?_eq_some_iff.1 hh).1).trans hh, r⟩
theorem one_new (w : World) (t : TypeId) (n : Int) (x : UInt8) (hx : Value.int .u8 n = bV x) : Bytes (w.alloc (.cells #[.int .u8 n] t)) w.heap.size (w.heap.size + 1) (.slice (some ⟨w.heap.size, 0, none⟩) 1 1) [x] := by
  rw [hx]
  exact Bytes.new w t [x] (by simp [maxLen]) (0, 0)
theorem one_block (w : World) (o : Obj) (W' : World) (h : Below (w.alloc o).heap.size (w.alloc o) W') : W'.heap[w.heap.size]? = some o :=
  (h.block w.heap.size (by simp)).trans (World.alloc_heap_new w o)
/-- The bytes of an item. -/
def itemB (x : ItemL) : List UInt8 := [x.key.kind] ++ fourL x.key.id.toNat ++ fourL x.key.off.toNat ++ twoL x.ref.toNat ++ [UInt8.ofNat x.val.length] ++ x.val
theorem itemB_length (x : ItemL) : (itemB x).length = 12 + x.val.length := by simp [itemB, fourL, twoL]; omega

end Go.Proofs.Ytfdogefoodljaaa

namespace Go.Proofs.Ytfdogefoodljaaa
open Go.RowKit

/-- What the walk knows of an item that was laid into a block. -/
theorem item_box (x : ItemL) (v : Value) (w : World) (hv : Bytes w 0 w.heap.size v x.val) : ∃ W, w.alloc (.cells #[bV x.key.kind, wV x.key.id, wV x.key.off, .int .i64 x.ref, v] 73) = W ∧ Below w.heap.size w W ∧ Bytes W 0 W.heap.size v x.val ∧ W.heap.size = w.heap.size + 1 ∧
    ∀ W', Below W.heap.size W W' → W'.heap[w.heap.size]? = some (.cells #[bV x.key.kind, wV x.key.id, wV x.key.off, .int .i64 x.ref, v] 73 (0, 0)) := by
  have hB := (Below.refl w.heap.size w).alloc (Nat.le_refl _) (.cells #[bV x.key.kind, wV x.key.id, wV x.key.off, .int .i64 x.ref, v] 73)
  exact ⟨_, rfl, hB, hv.step hB, by simp, one_block _ _⟩
def wrI (x : ItemL) : List UInt8 := if mayI x then itemB x else []
theorem may_ref {x : ItemL} (h : mayI x = true) : 0 ≤ x.ref ∧ x.ref < 256 ∧ x.val.length ≤ 12 := by
  unfold mayI at h
  simp only [decide_eq_true_eq] at h
  omega

end Go.Proofs.Ytfdogefoodljaaa

namespace Go.Proofs.Ytfdogefoodljaaa
open Go.RowKit

def zeroI : ItemL := ⟨⟨0, 0, 0⟩, 0, []⟩
def rawI (l : List UInt8) : ItemL := ⟨⟨l.getD 0 0, UInt32.ofNat (getN l 1 4), UInt32.ofNat (getN l 5 4)⟩, (getN l 9 2 : Nat), (l.drop 12).take (l.getD 11 0).toNat⟩
def lenOk (l : List UInt8) : Bool := decide (12 ≤ l.length ∧ 12 + (l.getD 11 0).toNat ≤ l.length)
/-- What is read of bytes: an item, how many bytes, an error. -/
def readOk (l : List UInt8) : Bool := lenOk l && mayI (rawI l)
def readI (l : List UInt8) : ItemL := if readOk l then rawI l else zeroI
def readN (l : List UInt8) : Nat := if readOk l then 12 + (l.getD 11 0).toNat else 0
theorem wV_of (n : Nat) (h : n < 4294967296) : Value.int .u32 (n : Int) = wV (UInt32.ofNat n) := by
  simp [wV]
  omega
theorem alloc_cells (w : World) (cs : Array Value) (t : TypeId) : (w.alloc (.cells cs t)).heap[w.heap.size]? = some (.cells cs t (0, 0)) := World.alloc_heap_new w _

theorem set_block {w : World} {g : Nat} {cs : Array Value} {t : TypeId} {f : Nat × Nat} (h : w.heap[g]? = some (.cells cs t f)) (i : Nat) (v : Value) : (w.setCell ⟨g, i, none⟩ v).heap[g]? = some (.cells (cs.setIfInBounds i v) t f) := by
  simp [World.setCell, Array.getElem?_modify, h]

end Go.Proofs.Ytfdogefoodljaaa

