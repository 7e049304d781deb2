/- RingFinds: the words and contracts, part 5. -/
import Derived.Test.YtcibihakjcenaaaRingFindsQ1
import Derived.Test.YtcibihakjcenaaaRingFindsQ2
import Derived.Test.YtcibihakjcenaaaRingFindsQ3
import Derived.Test.YtcibihakjcenaaaRingFindsQ4
import Derived.WalkKit
import Derived.WalkLawsBesides
import Derived.WalkSpells
import Derived.Lib.Hide
import Derived.Laws.Rows
import Derived.Laws.AppendOwnNone
import Derived.Maps.AppendAt
import Derived.ProofKit
import Derived.Deep.Slices
import Derived.WideShapes
import Derived.RangeFuncNested
import Derived.RangeFuncBound
import Derived.RangeFuncCalls
import Derived.RangeFuncLeaves
import Derived.RangeFuncBox
import Derived.Shelf.Abstract
import Derived.Shelf.RegionOpen
import Derived.OwnWalkIn
import Derived.TacticsInMore
import Derived.LoopNIn
import Derived.LoopIn
import Derived.Lib.AppendZerosOnto
import Derived.Lib.SliceRun
import Derived.Lib.Walk
import Derived.Deep.LoopGhost
import Derived.Laws.CopyOwn
import Derived.Laws.CopyRow
import Derived.OrdersHeld
import Derived.Deep.QuietTactic
import Derived.BigQuiet
import Derived.StillTailTactics
import Derived.OpenShut
import Derived.Deep.DeepCutAuto
import Derived.Deep.RegionHeld
namespace Go.Proofs.Ytcibihakjcenaaa
open Go.RowKit

/-- P holds, wherever the blocks from lo on, below hi, are as they are here. -/
def Lv (lo hi : Nat) (P : World → Prop) (V : World) : Prop := hi ≤ V.heap.size ∧ ∀ V' : World, (∀ k, lo ≤ k → k < hi → V'.heap[k]? = V.heap[k]?) → P V'
section
variable {lo hi : Nat} {P : World → Prop} {V V' : World}
theorem Lv.get (h : Lv lo hi P V) : P V := h.2 V fun _ _ _ => rfl
theorem Lv.hi_le (h : Lv lo hi P V) : hi ≤ V.heap.size := h.1
theorem Lv.step (h : Lv lo hi P V) (hb : Below V.heap.size V V') : Lv lo hi P V' :=
  ⟨Nat.le_trans h.1 hb.size, fun W hW => h.2 W fun k h1 h2 => (hW k h1 h2).trans (hb.block k (Nat.lt_of_lt_of_le h2 h.1))⟩
/-- Blocks from n0 on, below h0, have turned, and no other ones. -/
theorem Lv.out {n0 h0 : Nat} (h : Lv lo hi P V) (hs : V.heap.size ≤ V'.heap.size) (hf : ∀ x, x < V.heap.size → (x < n0 ∨ h0 ≤ x) → V'.heap[x]? = V.heap[x]?) (hd : hi ≤ n0 ∨ h0 ≤ lo) : Lv lo hi P V' :=
  ⟨Nat.le_trans h.1 hs, fun W hW => h.2 W fun k h1 h2 => (hW k h1 h2).trans (hf k (Nat.lt_of_lt_of_le h2 h.1) (by omega))⟩
theorem Lv.mk' (h : hi ≤ V.heap.size) (hk : ∀ V', Kp lo hi V V' → P V') : Lv lo hi P V := ⟨h, fun W hW => hk W fun b o h1 h2 => ⟨heap_cell (hW b h1 h2) o, heap_frozen (hW b h1 h2) o⟩⟩
theorem Lv.imp {Q : World → Prop} (h : Lv lo hi P V) (hi' : ∀ W, P W → Q W) : Lv lo hi Q V := ⟨h.1, fun W hW => hi' W (h.2 W hW)⟩
theorem Lv.and {Q : World → Prop} (h : Lv lo hi P V) (k : Lv lo hi Q V) : Lv lo hi (fun W => P W ∧ Q W) V := ⟨h.1, fun W hW => ⟨h.2 W hW, k.2 W hW⟩⟩
theorem Lv.more {lo' hi' : Nat} (h : Lv lo hi P V) (h1 : lo' ≤ lo) (h2 : hi ≤ hi') (h3 : hi' ≤ V.heap.size) : Lv lo' hi' P V := ⟨h3, fun W hW => h.2 W fun k g1 g2 => hW k (by omega) (by omega)⟩
end
/-- A known block. -/
def LK (g : Nat) (o : Obj) (V : World) : Prop := Lv g (g + 1) (fun W => W.heap[g]? = some o) V
theorem LK.of {V : World} {g : Nat} {o : Obj} (h : V.heap[g]? = some o) : LK g o V := ⟨(Array.getElem?_eq_some_iff.1 h).1, fun _ hW => (hW g (Nat.le_refl _) (Nat.lt_succ_self _)).trans h⟩
theorem LK.new (w : World) (o : Obj) : LK w.heap.size o (w.alloc o) := LK.of (World.alloc_heap_new w o)
theorem LK.blk {V : World} {g : Nat} {o : Obj} (h : LK g o V) : V.heap[g]? = some o := Lv.get h
theorem LK.lt {V : World} {g : Nat} {o : Obj} (h : LK g o V) : g < V.heap.size := Lv.hi_le h
theorem LK.step {V V' : World} {g : Nat} {o : Obj} (h : LK g o V) (hb : Below V.heap.size V V') : LK g o V' := Lv.step h hb
theorem LK.out {V V' : World} {g n0 h0 : Nat} {o : Obj} (h : LK g o V) (hs : V.heap.size ≤ V'.heap.size) (hf : ∀ x, x < V.heap.size → (x < n0 ∨ h0 ≤ x) → V'.heap[x]? = V.heap[x]?) (hd : g < n0 ∨ h0 ≤ g) : LK g o V' := Lv.out h hs hf (by omega)
theorem LK.cell {V : World} {g : Nat} {cs : Array Value} {t : TypeId} {f : Nat × Nat} (h : LK g (.cells cs t f) V) (i : Nat) : V.cell? ⟨g, i, none⟩ = cs[i]? := blk_cell h.blk i
theorem LK.frozen {V : World} {g : Nat} {cs : Array Value} {t : TypeId} (h : LK g (.cells cs t (0, 0)) V) (i : Nat) : V.frozen? ⟨g, i, none⟩ = false := blk_frozen h.blk i
/-- A disk that lies from lo on, below hi. -/
def LD (lo hi : Nat) (b u : Value) (d : DiskL) (V : World) : Prop := Lv lo hi (fun W => DiskV W lo hi b u d) V
theorem LD.of {V : World} {lo hi : Nat} {b u : Value} {d : DiskL} (h : DiskV V lo hi b u d) (hh : hi ≤ V.heap.size) : LD lo hi b u d V := Lv.mk' hh fun _ hk => ⟨Sl.keep h.1 hk, Sl.keep h.2 hk⟩
theorem LD.v {V : World} {lo hi : Nat} {b u : Value} {d : DiskL} (h : LD lo hi b u d V) : DiskV V 0 V.heap.size b u d := DiskV.more (Lv.get h) (Nat.zero_le _) (Lv.hi_le h)
theorem LD.step {V V' : World} {lo hi : Nat} {b u : Value} {d : DiskL} (h : LD lo hi b u d V) (hb : Below V.heap.size V V') : LD lo hi b u d V' := Lv.step h hb
theorem LD.out {V V' : World} {lo hi n0 h0 : Nat} {b u : Value} {d : DiskL} (h : LD lo hi b u d V) (hs : V.heap.size ≤ V'.heap.size) (hf : ∀ x, x < V.heap.size → (x < n0 ∨ h0 ≤ x) → V'.heap[x]? = V.heap[x]?) (hd : hi ≤ n0 ∨ h0 ≤ lo) : LD lo hi b u d V' := Lv.out h hs hf hd
/-- The same, and it may be written. -/
def LT (lo hi : Nat) (b u : Value) (d : DiskL) (V : World) : Prop := Lv lo hi (fun W => DiskT W lo hi b u d) V
theorem DiskT.kept {w w' : World} {lo hi : Nat} {b u : Value} {d : DiskL} (h : DiskT w lo hi b u d) (hk : Kp lo hi w w') : DiskT w' lo hi b u d := ⟨Sl.keep h.1 hk, Sl.keep h.2 hk⟩
theorem LT.of {V V' : World} {b u : Value} {d : DiskL} (h : MadeD V V' b u d) : LT V.heap.size V'.heap.size b u d V' := Lv.mk' (Nat.le_refl _) fun _ hk => h.disk.kept hk
theorem LT.t {V : World} {lo hi : Nat} {b u : Value} {d : DiskL} (h : LT lo hi b u d V) : DiskT V lo hi b u d := Lv.get h
theorem LT.d {V : World} {lo hi : Nat} {b u : Value} {d : DiskL} (h : LT lo hi b u d V) : LD lo hi b u d V := Lv.imp h fun _ k => k.v
theorem LT.v {V : World} {lo hi : Nat} {b u : Value} {d : DiskL} (h : LT lo hi b u d V) : DiskV V 0 V.heap.size b u d := h.d.v
theorem LT.step {V V' : World} {lo hi : Nat} {b u : Value} {d : DiskL} (h : LT lo hi b u d V) (hb : Below V.heap.size V V') : LT lo hi b u d V' := Lv.step h hb
theorem LT.out {V V' : World} {lo hi n0 h0 : Nat} {b u : Value} {d : DiskL} (h : LT lo hi b u d V) (hs : V.heap.size ≤ V'.heap.size) (hf : ∀ x, x < V.heap.size → (x < n0 ∨ h0 ≤ x) → V'.heap[x]? = V.heap[x]?) (hd : hi ≤ n0 ∨ h0 ≤ lo) : LT lo hi b u d V' := Lv.out h hs hf hd
/-- Bytes that lie from lo on, below hi. -/
def LB (lo hi : Nat) (v : Value) (l : List UInt8) (V : World) : Prop := Lv lo hi (fun W => Bytes W lo hi v l) V
theorem LB.of {V : World} {lo hi : Nat} {v : Value} {l : List UInt8} (h : Bytes V lo hi v l) (hh : hi ≤ V.heap.size) : LB lo hi v l V := Lv.mk' hh fun _ hk => h.kept hk
theorem LB.v {V : World} {lo hi : Nat} {v : Value} {l : List UInt8} (h : LB lo hi v l V) : Bytes V 0 V.heap.size v l := Bytes.more (Lv.get h) (Nat.zero_le _) (Lv.hi_le h)
theorem LB.step {V V' : World} {lo hi : Nat} {v : Value} {l : List UInt8} (h : LB lo hi v l V) (hb : Below V.heap.size V V') : LB lo hi v l V' := Lv.step h hb
theorem LB.out {V V' : World} {lo hi n0 h0 : Nat} {v : Value} {l : List UInt8} (h : LB lo hi v l V) (hs : V.heap.size ≤ V'.heap.size) (hf : ∀ x, x < V.heap.size → (x < n0 ∨ h0 ≤ x) → V'.heap[x]? = V.heap[x]?) (hd : hi ≤ n0 ∨ h0 ≤ lo) : LB lo hi v l V' := Lv.out h hs hf hd
/-- The same, and they may be written. -/
def LM (lo hi : Nat) (v : Value) (l : List UInt8) (V : World) : Prop := Lv lo hi (fun W => Bytes W lo hi v l ∧ Thawed W v) V
theorem LM.of {V V' : World} {v : Value} {l : List UInt8} (h : MadeB V V' v l) : LM V.heap.size V'.heap.size v l V' := Lv.mk' (Nat.le_refl _) fun _ hk => ⟨h.bytes.kept hk, thawed_kept h.bytes h.thawed hk⟩
theorem LM.b {V : World} {lo hi : Nat} {v : Value} {l : List UInt8} (h : LM lo hi v l V) : LB lo hi v l V := Lv.imp h fun _ k => k.1
theorem LM.v {V : World} {lo hi : Nat} {v : Value} {l : List UInt8} (h : LM lo hi v l V) : Bytes V 0 V.heap.size v l := h.b.v
theorem LM.m {V : World} {lo hi : Nat} {v : Value} {l : List UInt8} (h : LM lo hi v l V) : Bytes V lo hi v l ∧ Thawed V v := Lv.get h
theorem LM.step {V V' : World} {lo hi : Nat} {v : Value} {l : List UInt8} (h : LM lo hi v l V) (hb : Below V.heap.size V V') : LM lo hi v l V' := Lv.step h hb
theorem LM.out {V V' : World} {lo hi n0 h0 : Nat} {v : Value} {l : List UInt8} (h : LM lo hi v l V) (hs : V.heap.size ≤ V'.heap.size) (hf : ∀ x, x < V.heap.size → (x < n0 ∨ h0 ≤ x) → V'.heap[x]? = V.heap[x]?) (hd : hi ≤ n0 ∨ h0 ≤ lo) : LM lo hi v l V' := Lv.out h hs hf hd
theorem LM.set {V : World} {lo hi b off n c : Nat} {L : List UInt8} (h : LM lo hi (.slice (some ⟨b, off, none⟩) n c) L V) (j : Nat) (x : UInt8) (hj : j < L.length) : LM lo hi (.slice (some ⟨b, off, none⟩) n c) (L.set j x) (V.setCell ⟨b, off + j, none⟩ (bV x)) :=
  Lv.mk' (by rw [World.size_setCell]; exact Lv.hi_le h) fun _ hk => ⟨(h.m.1.set j x hj).kept hk, thawed_kept (h.m.1.set j x hj) (h.m.2.set _ _) hk⟩
/-- A slice that lies from lo on, below hi. -/
def LS {α : Type} (r : Rd α) (lo hi : Nat) (v : Value) (l : List α) (V : World) : Prop := Lv lo hi (fun W => Sl r W lo hi v l) V
theorem LS.of {α : Type} {r : Rd α} {V : World} {lo hi : Nat} {v : Value} {l : List α} (h : Sl r V lo hi v l) (hh : hi ≤ V.heap.size) : LS r lo hi v l V := Lv.mk' hh fun _ hk => h.keep hk
theorem LS.v {α : Type} {r : Rd α} {V : World} {lo hi : Nat} {v : Value} {l : List α} (h : LS r lo hi v l V) : Sl r V 0 V.heap.size v l := Sl.more (Lv.get h) (Nat.zero_le _) (Lv.hi_le h)
theorem LS.step {α : Type} {r : Rd α} {V V' : World} {lo hi : Nat} {v : Value} {l : List α} (h : LS r lo hi v l V) (hb : Below V.heap.size V V') : LS r lo hi v l V' := Lv.step h hb
theorem LS.out {α : Type} {r : Rd α} {V V' : World} {lo hi n0 h0 : Nat} {v : Value} {l : List α} (h : LS r lo hi v l V) (hs : V.heap.size ≤ V'.heap.size) (hf : ∀ x, x < V.heap.size → (x < n0 ∨ h0 ≤ x) → V'.heap[x]? = V.heap[x]?) (hd : hi ≤ n0 ∨ h0 ≤ lo) : LS r lo hi v l V' := Lv.out h hs hf hd
/-- Nothing below w has turned. -/
def LW (w V : World) : Prop := Below w.heap.size w V
theorem LW.step {w V V' : World} (h : LW w V) (hb : Below V.heap.size V V') : LW w V' := below_step h (Below.size h) hb
theorem LW.outB {w V V' : World} {n0 : Nat} (h : LW w V) (hb : Below n0 V V') (hn : w.heap.size ≤ n0) : LW w V' := Below.trans h (hb.mono hn)
end Go.Proofs.Ytcibihakjcenaaa

namespace Go.Proofs.Ytcibihakjcenaaa
open Go.RowKit

theorem OwnB.step {base : Nat} {e : TypeId} {w w' : World} {v : Value} {l : List UInt8} (h : OwnB base e w v l) (hb : Below w.heap.size w w') : OwnB base e w' v l := by
  obtain ⟨h1, h2⟩ := h
  refine ⟨h1, ?_⟩
  rcases h2 with h2 | ⟨g, cap, cur, hv, hg, hh, r⟩
  · exact .inl h2
  · exact .inr ⟨g, cap, cur, hv, hg, (hb.block g (Array.getElem?_eq_some_iff.1 hh).1).trans hh, r⟩
theorem OwnB.le {base base' : Nat} {e : TypeId} {w : World} {v : Value} {l : List UInt8} (h : OwnB base e w v l) (hb : base' ≤ base) : OwnB base' e w v l :=
  ⟨h.1, h.2.elim Or.inl (fun ⟨g, cap, cur, hv, hg, r⟩ => Or.inr ⟨g, cap, cur, hv, Nat.le_trans hb hg, r⟩)⟩
theorem OwnB.one (w : World) (base : Nat) (e : TypeId) (h : base ≤ w.heap.size) (n : Int) (x : UInt8) (hx : Value.int .u8 n = bV x) : OwnB base e (w.alloc (.cells #[.int .u8 n] e)) (.slice (some ⟨w.heap.size, 0, none⟩) 1 1) [x] := by
  rw [hx]
  exact ⟨rfl, .inr ⟨w.heap.size, 1, _, rfl, h, World.alloc_heap_new w _, Nat.le_refl _, by unfold maxLen; omega, rfl, rfl⟩⟩
theorem one_new (w : World) (t : TypeId) (n : Int) (x : UInt8) (hx : Value.int .u8 n = bV x) : Bytes (w.alloc (.cells #[.int .u8 n] t)) w.heap.size (w.heap.size + 1) (.slice (some ⟨w.heap.size, 0, none⟩) 1 1) [x] := by
  rw [hx]
  exact Bytes.new w t [x] (by simp [maxLen]) (0, 0)
end Go.Proofs.Ytcibihakjcenaaa

namespace Go.Proofs.Ytcibihakjcenaaa
open Go.RowKit

theorem set_block {w : World} {g : Nat} {cs : Array Value} {t : TypeId} {f : Nat × Nat} (h : w.heap[g]? = some (.cells cs t f)) (i : Nat) (v : Value) : (w.setCell ⟨g, i, none⟩ v).heap[g]? = some (.cells (cs.setIfInBounds i v) t f) := by
  simp [World.setCell, Array.getElem?_modify, h]

end Go.Proofs.Ytcibihakjcenaaa

namespace Go.Proofs.Ytcibihakjcenaaa
open Go.RowKit

def okW (x : WrL) : Bool := decide (0 ≤ x.at_) && decide (x.at_ < 256) && x.data.length == 128
def mayD (d : DiskL) : Bool := d.blocks.length == 256 && decide (d.waits.length ≤ 4096) && d.blocks.all (fun b => b.length == 128) && d.waits.all okW

theorem get_l {α : Type} (l : List α) (d : α) (i : Nat) (h : i < l.length) : l[i]? = some (l.getD i d) := by simp [h]

set_option maxRecDepth 100000 in
set_option maxHeartbeats 1000000 in
/-- dev.Check. -/
theorem dcheck_any (b u : Value) (d : DiskL) (w : World) (h : DiskV w 0 w.heap.size b u d) :
    Calls Try.prog 90 #[.agg #[b, u]] w fun e w' => e = .returned (.int .i64 (if mayD d then 0 else 8)) ∧ Below w.heap.size w w' := by
  have hB := (Below.refl w.heap.size w).alloc (Nat.le_refl _) (.cells #[b, u] 44)
  have hb := h.1.step hB
  have hu := h.2.step hB
  have hq := World.alloc_heap_new w (.cells #[b, u] 44)
  obtain ⟨ab, cb, rfl, g1, g2, -, -⟩ := h.1
  obtain ⟨au, cu, rfl, g1', g2', -, -⟩ := h.2
  unfold maxLen at g2 g2'
  obtain ⟨bl, wl⟩ := d
  clear h
  simp only at *
  obtain ⟨W, hW⟩ : ∃ W, w.alloc (.cells #[.slice ab bl.length cb, .slice au wl.length cu] 44) = W := ⟨_, rfl⟩
  rw [hW] at hB hb hu hq
  have HM := Lib.hid (show mayD ⟨bl, wl⟩ = (bl.length == 256 && decide (wl.length ≤ 4096) && bl.all (fun b => b.length == 128) && wl.all okW) from rfl)
  generalize mayD ⟨bl, wl⟩ = md at *
  have HQ := Lib.hid (And.intro hq (And.intro hb (And.intro hu (And.intro hW hB))))
  clear hq hb hu hW hB
  go_enter Try.func90, Try.ntmps90
  go_upto_region 1 with (fail)
  rw [HQ.out.2.2.2.1]
  have c0 := blk_cell HQ.out.1 0
  have c1 := blk_cell HQ.out.1 1
  simp at c0 c1
  by_cases h1 : ¬ bl.length = 256
  · have i1 : ¬ (bl.length : Int) = 256 := by omega
    have hm : md = false := by rw [HM.out]; simp [h1]
    subst hm
    go_wp2
    go_ret
    exact ⟨rfl, HQ.out.2.2.2.2⟩
  have hbl : bl.length = 256 := by omega
  clear h1
  by_cases h2 : 4096 < wl.length
  · have i1 : (4096 : Int) < wl.length := by omega
    have hm : md = false := by rw [HM.out]; simp [hbl]; omega
    subst hm
    go_wp2
    go_ret
    exact ⟨rfl, HQ.out.2.2.2.2⟩
  have i2 : decide ((4096 : Int) < wl.length) = false := by simp; omega
  have HM2 := Lib.hid (show md = (bl.all (fun b => b.length == 128) && wl.all okW) by rw [HM.out, hbl]; simp [show wl.length ≤ 4096 by omega])
  clear HM
  have hb := HQ.out.2.1
  obtain ⟨bb, bo, cb', e', -, z1, z2, z3, hbe⟩ := hb.at_ (by omega)
  injection e' with ea _ ec
  subst ea ec
  have HBE := Lib.hid hbe
  unfold maxLen at z3
  clear hbe hb
  rw [hbl] at HQ g1 z2 c0 ⊢
  go_wp2_with fail
  go_loopw [20] (fun i wr => ∃ k : Nat, k ≤ 256 ∧ i = .int .i64 k ∧ wr = W ∧ ∀ j, j < k → (bl.getD j []).length = 128) (fun i _ => 256 - (intOf i).toNat)
  case atStart => exact ⟨0, Nat.zero_le _, rfl, rfl, fun j hj => absurd hj (Nat.not_lt_zero _)⟩
  case round =>
  obtain ⟨k, hk, rfl, rfl, hall⟩ := hrel
  by_cases hlt : k < 256
  · obtain ⟨v, hv, hvb⟩ := HBE.out k (bl.getD k []) (get_l _ _ _ (by omega))
    obtain ⟨av, cv, rfl, -, hcv⟩ := hvb.form rfl
    unfold maxLen at hcv
    have hv' : wr.cell? ⟨bb, bo + k, none⟩ = some (.slice av (bl.getD k []).length cv) := by simpa [rBytes] using hv
    obtain ⟨y, hy⟩ : ∃ y, bl.getD k [] = y := ⟨_, rfl⟩
    rw [hy] at hv'
    have HY := Lib.hid (And.intro hy hall)
    clear hv hvb hy hall
    by_cases h5 : y.length = 128
    · rw [h5] at hv'
      go_wp2
      go_roundw
      case rel => exact ⟨k + 1, by omega, by go_num, trivial, fun j hj => by
        by_cases e : j = k
        · subst e; rw [HY.out.1]; exact h5
        · exact HY.out.2 j (by omega)⟩
      case measure => simp [intOf]; omega
    · have i5 : ¬ (y.length : Int) = 128 := by omega
      have hm : md = false := by
        rw [HM2.out]
        have : bl.all (fun b => b.length == 128) = false := by
          rw [List.all_eq_false]
          refine ⟨y, ?_, by simp [h5]⟩
          rw [← HY.out.1]
          exact List.mem_of_getElem? (get_l _ _ _ (by omega))
        rw [this]; rfl
      subst hm
      go_wp2
      go_ret
      exact ⟨rfl, HQ.out.2.2.2.2⟩
  obtain rfl : k = 256 := by omega
  have hall2 : bl.all (fun b => b.length == 128) = true := by
    rw [List.all_eq_true]
    intro x hx
    obtain ⟨j, hj⟩ := List.mem_iff_getElem?.1 hx
    have hjl : j < bl.length := (List.getElem?_eq_some_iff.1 hj).1
    rw [get_l bl [] j hjl] at hj
    cases hj
    exact beq_iff_eq.2 (hall j (by omega))
  obtain ⟨V, hV⟩ : ∃ V, V = wr := ⟨_, rfl⟩
  subst hV
  have HM3 := Lib.hid (show md = wl.all okW by rw [HM2.out, hall2]; rfl)
  clear HM2 hall hall2 hlt hk HBE i2
  go_wp2_with fail
  go_loopw [31] (fun i wx => ∃ k : Nat, k ≤ wl.length ∧ i = .int .i64 k ∧ Below V.heap.size V wx ∧ ∀ j, j < k → okW (wl.getD j ⟨0, []⟩) = true) (fun i _ => wl.length - (intOf i).toNat)
  case atStart => exact ⟨0, Nat.zero_le _, rfl, Below.refl _ _, fun j hj => absurd hj (Nat.not_lt_zero _)⟩
  case round =>
  obtain ⟨k, hk, rfl, hB, hall⟩ := hrel
  by_cases hlt : k < wl.length
  · obtain ⟨wb, wo, wc, e', -, y1, y2, y3, hwe⟩ := (HQ.out.2.2.1.step hB).at_ (by omega)
    injection e' with ea _ ec
    subst ea ec
    unfold maxLen at y3
    obtain ⟨f0, f1, v, f2, f3⟩ := hwe k (wl.getD k ⟨0, []⟩) (get_l _ _ _ hlt)
    obtain ⟨av, cv, rfl, -, hcv⟩ := f3.form rfl
    unfold maxLen at hcv
    obtain ⟨y, hy⟩ : ∃ y, wl.getD k ⟨0, []⟩ = y := ⟨_, rfl⟩
    rw [hy] at f0 f1 f2
    have HY := Lib.hid (And.intro hy (And.intro hall hB))
    clear hwe f3 hy hall hB
    obtain ⟨at_, dt⟩ := y
    simp [rWrite] at f0 f2
    have hokw : okW ⟨at_, dt⟩ = (decide (0 ≤ at_) && decide (at_ < 256) && dt.length == 128) := rfl
    have hfin := Lib.hid (below_step HQ.out.2.2.2.2 HQ.out.2.2.2.2.size (HY.out.2.2.alloc HY.out.2.2.size (.cells #[.int .i64 at_, .slice av dt.length cv] 143)))
    have hbad : okW ⟨at_, dt⟩ = false → md = false := fun h => by
      rw [HM3.out, List.all_eq_false]
      refine ⟨⟨at_, dt⟩, ?_, by rw [h]; decide⟩
      rw [← HY.out.1]
      exact List.mem_of_getElem? (get_l _ _ _ hlt)
    have HBD := Lib.hid hbad
    clear hbad
    by_cases a1 : at_ < 0
    · have hm := HBD.out (by rw [hokw]; simp; omega)
      subst hm
      clear hokw
      go_wp2
      go_ret
      exact ⟨rfl, hfin.out⟩
    have d1 : decide (at_ < 0) = false := by simp; omega
    by_cases a2 : 256 ≤ at_
    · have hm := HBD.out (by rw [hokw]; simp; omega)
      subst hm
      clear hokw
      go_wp2
      go_ret
      exact ⟨rfl, hfin.out⟩
    have d2 : decide (256 ≤ at_) = false := by simp; omega
    by_cases a3 : dt.length = 128
    · have HOK := Lib.hid (show okW ⟨at_, dt⟩ = true by rw [hokw]; simp [a3]; omega)
      clear hokw
      go_wp2
      go_roundw
      case rel => exact ⟨k + 1, by omega, by go_num, HY.out.2.2.alloc HY.out.2.2.size _, fun j hj => by
        by_cases e : j = k
        · subst e; rw [HY.out.1]; exact HOK.out
        · exact HY.out.2.1 j (by omega)⟩
      case measure => simp [intOf]; omega
    · have i5 : ¬ (dt.length : Int) = 128 := by omega
      have hm := HBD.out (by rw [hokw]; simp [a3])
      subst hm
      clear hokw
      go_wp2
      go_ret
      exact ⟨rfl, hfin.out⟩
  obtain rfl : k = wl.length := by omega
  have hm : md = true := by
    rw [HM3.out, List.all_eq_true]
    intro x hx
    obtain ⟨j, hj⟩ := List.mem_iff_getElem?.1 hx
    have hjl : j < wl.length := (List.getElem?_eq_some_iff.1 hj).1
    rw [get_l wl ⟨0, []⟩ j hjl] at hj
    cases hj
    exact hall j hjl
  subst hm
  have c1' := (hB.cell (p := ⟨w.heap.size, 1, none⟩) (Array.getElem?_eq_some_iff.1 HQ.out.1).1).trans c1
  have hfin := below_step HQ.out.2.2.2.2 HQ.out.2.2.2.2.size hB
  clear hall hB
  go_wp2
  go_ret
  exact ⟨rfl, hfin⟩

end Go.Proofs.Ytcibihakjcenaaa

namespace Go.Proofs.Ytcibihakjcenaaa
open Go.RowKit

theorem below_dr (w : World) (n : Nat) : Below w.heap.size w (w.drewN n) := ⟨rfl, rfl, rfl, Nat.le_refl _, fun _ _ => rfl⟩
end Go.Proofs.Ytcibihakjcenaaa

namespace Go.Proofs.Ytcibihakjcenaaa
open Go.RowKit

def errA (d : DiskL) (p : Int) : Int := if mayD d then (if p < 0 ∨ 256 ≤ p then 2 else 0) else 8

set_option maxRecDepth 100000 in
set_option maxHeartbeats 1000000 in
/-- dev.asked. -/
theorem dasked_any (b u : Value) (d : DiskL) (p : Int) (w : World) (h : DiskV w 0 w.heap.size b u d) :
    Calls Try.prog 97 #[.agg #[b, u], .int .i64 p] w fun e w' => e = .returned (.int .i64 (errA d p)) ∧ Below w.heap.size w w' := by
  have hB := (Below.refl w.heap.size w).alloc (Nat.le_refl _) (.cells #[b, u] 44)
  have hb := h.1.step hB
  have hu := h.2.step hB
  have hq := World.alloc_heap_new w (.cells #[b, u] 44)
  have hck := fun V hh => dcheck_any b u d V hh
  obtain ⟨ab, cb, rfl, g1, g2, -, -⟩ := h.1
  obtain ⟨au, cu, rfl, g1', g2', -, -⟩ := h.2
  unfold maxLen at g2 g2'
  clear h
  obtain ⟨W, hW⟩ : ∃ W, w.alloc (.cells #[.slice ab d.blocks.length cb, .slice au d.waits.length cu] 44) = W := ⟨_, rfl⟩
  rw [hW] at hB hb hu hq
  have hE : (mayD d = true ∧ (if mayD d then (0 : Int) else 8) = 0 ∧ errA d p = (if p < 0 ∨ 256 ≤ p then 2 else 0)) ∨ ((if mayD d then (0 : Int) else 8) = 8 ∧ errA d p = 8) := by
    unfold errA
    cases mayD d
    · exact .inr ⟨rfl, rfl⟩
    · exact .inl ⟨rfl, rfl, rfl⟩
  generalize (if mayD d then (0 : Int) else 8) = er at *
  generalize errA d p = ea at *
  have HE := Lib.hid hE
  have HC := Lib.hid hck
  have HQ := Lib.hid (And.intro hq (And.intro (And.intro hb hu) (And.intro hW hB)))
  clear hq hb hu hW hB hE hck
  go_enter Try.func97, Try.ntmps97
  go_upto_region 1 with (fail)
  rw [HQ.out.2.2.1]
  have c0 := blk_cell HQ.out.1 0
  have c1 := blk_cell HQ.out.1 1
  simp at c0 c1
  go_wp2_with fail
  refine (HC.out W HQ.out.2.1).mono ?_
  rintro e w1 ⟨rfl, hst⟩
  have hfin := below_step HQ.out.2.2.2 HQ.out.2.2.2.size hst
  clear c0 c1
  rcases HE.out with ⟨-, rfl, hx⟩ | ⟨rfl, rfl⟩
  · by_cases h1 : p < 0
    · have hm : ea = 2 := by rw [hx]; simp [h1]
      subst hm
      clear hx HE
      go_wp2
      go_ret
      exact ⟨rfl, hfin⟩
    have d1 : decide (p < 0) = false := by simp; omega
    by_cases h2 : 256 ≤ p
    · have hm : ea = 2 := by rw [hx]; simp [h2]
      subst hm
      clear hx HE
      go_wp2
      go_ret
      exact ⟨rfl, hfin⟩
    · have d2 : decide (256 ≤ p) = false := by simp; omega
      have hm : ea = 0 := by rw [hx]; simp [h1]; omega
      subst hm
      clear hx HE
      go_wp2
      go_ret
      exact ⟨rfl, hfin⟩
  · go_wp2
    go_ret
    exact ⟨rfl, hfin⟩

end Go.Proofs.Ytcibihakjcenaaa

namespace Go.Proofs.Ytcibihakjcenaaa
open Go.RowKit

set_option maxRecDepth 100000 in
set_option maxHeartbeats 1000000 in
/-- (*dev.heap).clone. -/
theorem hclone_any (g gh o r : Nat) (L : List UInt8) (v : Value) (l : List UInt8) (lo hi : Nat) (w : World) (hrow : RowB w g 5 L) (hbox : w.heap[gh]? = some (.cells #[.slice (some ⟨g, o, none⟩) r r] 182 (0, 0)))
    (hne : g ≠ gh) (hv : Bytes w lo hi v l) (hl : l.length ≤ r) (hr : o + r ≤ L.length) :
    Calls Try.prog 133 #[.pointer (some ⟨gh, 0, none⟩), v] w fun e w' => e = .returned (.slice (some ⟨g, o, none⟩) l.length l.length) ∧ RowB w' g 5 (splice L o l) ∧
      (∃ o', (l.length < r → o' = o + l.length) ∧ o' ≤ L.length ∧ w'.heap[gh]? = some (.cells #[.slice (some ⟨g, o', none⟩) (r - l.length) (r - l.length)] 182 (0, 0))) ∧ Below (min g gh) w w' ∧ w'.heap.size = w.heap.size ∧ ∀ k, k ≠ g → k ≠ gh → w'.heap[k]? = w.heap[k]? := by
  have c0 := blk_cell hbox 0
  simp at c0
  go_enter Try.func133, Try.ntmps133
  go_upto_region 2 with (refine wpList_copyF rfl (.tmp 9) (.tmp 10) 182 26 rfl 5 Try.underlying182 info_u8 g o r r rfl L hrow lo hi v l rfl hv hl (by omega) ?_; intro w1 hrow1 hO)
  have hbox1 := (hO.2.2 gh (Ne.symm hne)).trans hbox
  have c1 := blk_cell hbox1 0
  have f1 := blk_frozen hbox1 0
  simp at c1
  have hw : ∀ x : Int, 0 ≤ x → x < 9223372036854775808 → IntKind.i64.wrap x = x := fun x h1 h2 => IntWalk.i64_in x (by omega)
  have HO := Lib.hid (And.intro hrow1 (And.intro hO hbox1))
  have e1 : (l.length : Int) ≤ r := by omega
  clear hw hrow1 hO hbox1 hrow hbox c0
  have hfin : ∀ u, RowB (w1.setCell ⟨gh, 0, none⟩ u) g 5 (splice L o l) ∧ (w1.setCell ⟨gh, 0, none⟩ u).heap[gh]? = some (.cells #[u] 182 (0, 0)) ∧ Below (min g gh) w (w1.setCell ⟨gh, 0, none⟩ u) ∧ (w1.setCell ⟨gh, 0, none⟩ u).heap.size = w.heap.size ∧ ∀ k, k ≠ g → k ≠ gh → (w1.setCell ⟨gh, 0, none⟩ u).heap[k]? = w.heap[k]? := by
    intro u
    obtain ⟨h1, ⟨h2, h3, h4⟩, h5⟩ := HO.out
    have hb : Below (min g gh) w (w1.setCell ⟨gh, 0, none⟩ u) := (h2.mono (Nat.min_le_left _ _)).setCell (p := ⟨gh, 0, none⟩) (Nat.min_le_right _ _) _
    have hoth : ∀ k, k ≠ gh → (w1.setCell ⟨gh, 0, none⟩ u).heap[k]? = w1.heap[k]? := fun k hk => by
      simp [World.setCell, Array.getElem?_modify, Ne.symm hk]
    refine ⟨(hoth g hne).trans h1, by rw [set_block h5]; rfl, hb, by rw [World.size_setCell]; exact h3, fun k k1 k2 => (hoth k k2).trans (h4 k k1)⟩
  have HF := Lib.hid hfin
  clear hfin HO
  rcases Nat.eq_or_lt_of_le hl with he | he
  · subst he
    go_wp2
    go_ret
    obtain ⟨q1, q2, q3, q4, q5⟩ := HF.out _
    exact ⟨rfl, q1, ⟨o, fun h => absurd h (Nat.lt_irrefl _), by omega, by simpa using q2⟩, q3, q4, q5⟩
  · have hne2 : ¬ r = l.length := by omega
    go_wp2
    go_ret
    obtain ⟨q1, q2, q3, q4, q5⟩ := HF.out _
    exact ⟨rfl, q1, ⟨o + l.length, fun _ => rfl, by omega, q2⟩, q3, q4, q5⟩

end Go.Proofs.Ytcibihakjcenaaa

namespace Go.Proofs.Ytcibihakjcenaaa
open Go.RowKit

/-- A world of which Pr holds: W itself, if it holds of that. -/
noncomputable def selW (Pr : World → Prop) (w0 W : World) : World := by
  classical exact if Pr W then W else w0
theorem selW_pr {Pr : World → Prop} {w0 : World} (h : Pr w0) (W : World) : Pr (selW Pr w0 W) := by
  unfold selW
  split
  · assumption
  · exact h
theorem selW_of {Pr : World → Prop} {w0 W : World} (h : Pr W) : selW Pr w0 W = W := by
  unfold selW
  rw [if_pos h]
def Kl (Pr : World → Prop) (w0 w' : World) : Prop := ∃ W, w' = selW Pr w0 W
attribute [go_sem] Kl
theorem Kl.of {Pr : World → Prop} {w0 w' : World} (h : Pr w') : Kl Pr w0 w' := ⟨w', (selW_of h).symm⟩

/-- Whatever comes up, in whatever order; but for number z, the world behind it is of the class. -/
def wpAnyL (P : Program) (md : Region.Mode) (ops : Array Oper) (Q : Exit → Act → World → Prop) (S : World → Prop) (z : Nat) : Nat → Array Bool → Act → World → Prop
  | 0, listed, a, w => Region.ready md ops listed = [] ∧ Q .normal a w
  | n + 1, listed, a, w => (Region.ready md ops listed = [] → Q .normal a w) ∧ ∀ i ∈ Region.ready md ops listed,
      wpOp P ops Q i (fun a' w' => (i = z ∨ S w') ∧ wpAnyL P md ops Q S z n (listed.setIfInBounds i true) a' w') a w

/-- Each operation but z is waited for by a later one; and where one is listed, so is what it waits for. -/
def lastOk (md : Region.Mode) (ops : Array Oper) (z : Nat) (listed : Array Bool) : Bool :=
  (decide (listed.size = ops.size) && (List.range ops.size).all fun j => j == z || (List.range ops.size).any fun k => decide (j < k) && ((ops[k]?).map fun o => o.after.any fun e => Region.binds md e && e.on == j).getD false) &&
  (List.range ops.size).all fun k => !(listed.getD k true) || ((ops[k]?).map fun o => o.after.all fun e => !Region.binds md e || listed.getD e.on false).getD false

section
variable {P : Program} {ops : Array Oper} {Q : Exit → Act → World → Prop} {md : Region.Mode} {S : World → Prop} {z : Nat}

theorem wpAny_ofL : ∀ (n : Nat) (listed : Array Bool) (a : Act) (w : World), wpAnyL P md ops Q S z n listed a w → wpAny P md ops Q n listed a w
  | 0, _, _, _, h => h
  | n + 1, _, _, _, h => ⟨h.1, fun i hi => wpOp_mono (fun a' w' h' => wpAny_ofL n _ a' w' h'.2) (h.2 i hi)⟩

structure Down (md : Region.Mode) (ops : Array Oper) (z : Nat) (listed : Array Bool) : Prop where
  size : listed.size = ops.size
  wait : ∀ j, j < ops.size → j ≠ z → ∃ k o e, j < k ∧ ops[k]? = some o ∧ e ∈ o.after ∧ Region.binds md e = true ∧ e.on = j
  down : ∀ k o e, ops[k]? = some o → listed.getD k true = true → e ∈ o.after → Region.binds md e = true → listed.getD e.on false = true
theorem Down.of {listed : Array Bool} (h : lastOk md ops z listed = true) : Down md ops z listed := by
  simp only [lastOk, Bool.and_eq_true, List.all_eq_true, List.mem_range, Bool.or_eq_true, beq_iff_eq, List.any_eq_true, decide_eq_true_eq] at h
  obtain ⟨⟨h0, h1⟩, h2⟩ := h
  refine ⟨h0, fun j hj hz => ?_, fun k o e hk hl he hb => ?_⟩
  · rcases h1 j hj with h | ⟨k, hk, hjk, hx⟩
    · exact absurd h hz
    · simp only [Array.getElem?_eq_getElem hk, Option.map_some, Option.getD_some, Array.any_eq_true', Bool.and_eq_true, beq_iff_eq] at hx
      obtain ⟨e, he, hb, ho⟩ := hx
      exact ⟨k, ops[k], e, hjk, by simp [hk], he, hb, ho⟩
  · have hk' := (Array.getElem?_eq_some_iff.1 hk).1
    have := h2 k hk'
    simp only [hl, Bool.not_true, Bool.false_eq_true, false_or, hk, Option.map_some, Option.getD_some, Array.all_eq_true'] at this
    have := this e he
    simpa [hb] using this
theorem Down.set_ {listed : Array Bool} (h : Down md ops z listed) {i : Nat} (hi : i ∈ Region.ready md ops listed) : Down md ops z (listed.setIfInBounds i true) := by
  refine ⟨by simp [h.size], h.wait, fun k o e hk hl he hb => ?_⟩
  rcases Decidable.em (i = k) with rfl | hik
  · obtain ⟨_, o', ho', hall⟩ := mem_ready.1 hi
    rw [hk] at ho'; cases ho'
    exact getD_set_true (hall e he hb)
  · rw [getD_set_ne true hik] at hl
    exact getD_set_true (h.down k o e hk hl he hb)
/-- Where z may come up, nothing else may. -/
theorem Down.last {listed : Array Bool} (h : Down md ops z listed) (hz : z ∈ Region.ready md ops listed) : ∀ j, listed.getD j true = false → j < ops.size → j = z := by
  obtain ⟨hzu, oz, hoz, hall⟩ := mem_ready.1 hz
  have key : ∀ n j, ops.size - j ≤ n → listed.getD j true = false → j < ops.size → j = z := by
    intro n
    induction n with
    | zero => intro j hn _ hlt; omega
    | succ n ih =>
      intro j hn hu hlt
      rcases Decidable.em (j = z) with rfl | hjz
      · rfl
      · exfalso
        obtain ⟨k, o, e, hjk, hk, he, hb, ho⟩ := h.wait j hlt hjz
        have hk' := (Array.getElem?_eq_some_iff.1 hk).1
        have hju : listed.getD j false = false := by rw [getD_any listed j false true (by rw [h.size]; exact hlt)]; exact hu
        cases hku : listed.getD k true with
        | true =>
          have := h.down k o e hk hku he hb
          rw [ho, hju] at this
          cases this
        | false =>
          have := ih k (by omega) hku hk'
          subst this
          rw [hk] at hoz; cases hoz
          have := hall e he hb
          rw [ho, hju] at this
          cases this
  exact fun j => key _ j (Nat.le_refl _)

theorem unlisted {listed : Array Bool} {i j : Nat} (hj : j ∈ Region.ready md ops listed) (hi : i ∈ Region.ready md ops listed) :
    ∀ oj, ops[j]? = some oj → ∀ e ∈ oj.after, Region.binds md e = true → e.on ≠ i := by
  intro oj hoj e he hb heq
  obtain ⟨_, o, ho, hall⟩ := mem_ready.1 hj
  rw [hoj] at ho
  cases ho
  have h1 := hall e he hb
  have h0 := (mem_ready.1 hi).1
  rw [heq] at h1
  rcases Nat.lt_or_ge i listed.size with h | h
  · rw [getD_any listed i true false h, h1] at h0; cases h0
  · simp [Array.getD, Nat.not_lt.2 h] at h1

theorem wpAnyL_first {i : Nat} {oi : Oper} {v : Value} (hi : ops[i]? = some oi) (hiz : i ≠ z) (hsel : ∀ (j : Nat) (o : Oper) cs b, ops[j]? = some o → o.op ≠ .select cs b)
    (hQ : ∀ c a w, Q (.panic c) (a.put oi.dst v) w → Q (.panic c) a w) (n : Nat) : ∀ (listed : Array Bool) (a : Act) (w : World), Down md ops z listed →
      (∀ j oj, ops[j]? = some oj → j ≠ i → listed.getD j true = false → (∀ e ∈ oj.after, Region.binds md e = true → e.on ≠ i) → oi.apart ops oj = true) →
      i ∈ Region.ready md ops listed → YieldsIf P ops S oi v a → S w →
      wpAnyL P md ops Q S z n (listed.setIfInBounds i true) (a.put oi.dst v) w → wpAnyL P md ops Q S z (n + 1) listed a w := by
  induction n with
  | zero =>
    intro listed a w _ _ hr hy hS H
    refine ⟨fun h => (by rw [h] at hr; cases hr), fun j hj => ?_⟩
    rcases Decidable.em (j = i) with rfl | hji
    · exact hy.wpOp hi hS ⟨.inr hS, H⟩
    · have := ready_mono hj hji
      rw [H.1] at this
      cases this
  | succ n ih =>
    intro listed a w hd hfree hr hy hS H
    refine ⟨fun h => (by rw [h] at hr; cases hr), fun j hj => ?_⟩
    rcases Decidable.em (j = i) with rfl | hji
    · exact hy.wpOp hi hS ⟨.inr hS, H⟩
    · obtain ⟨hjun, oj, hoj, -⟩ := mem_ready.1 hj
      have hjz : j ≠ z := by
        rintro rfl
        obtain ⟨h0, o, ho, _⟩ := mem_ready.1 hr
        exact hiz (hd.last hj i h0 (Array.getElem?_eq_some_iff.1 ho).1)
      refine wpOp_mono (fun a' w' h3 => ?_) (wpOp_putIf hoj (hfree j oj hoj hji hjun (unlisted hj hr oj hoj)) (fun cs b => hsel i oi cs b hi) (fun cs b => hsel j oj cs b hoj) hQ hy (H.2 j (ready_mono hj hji)))
      obtain ⟨hy', hS' | hS', H'⟩ := h3
      · exact absurd hS' hjz
      refine ⟨.inr hS', ih (listed.setIfInBounds j true) a' w' (hd.set_ hj) (fun k ok hk hki hun hno => ?_) (ready_mono hr (Ne.symm hji)) hy' hS' ?_⟩
      · refine hfree k ok hk hki ?_ hno
        rcases Decidable.em (j = k) with rfl | hjk
        · exact hjun
        · rwa [getD_set_ne true hjk] at hun
      · rw [Array.setIfInBounds_comm _ _ hji]
        exact H'

theorem wpAnyL_seg (hs : Region.noSelect ops = true) (hQ : ∀ c (d : Option Tmp) (v : Value) (a : Act) w, Q (.panic c) (a.put d v) w → Q (.panic c) a w) {fuel : Nat} {w : World} (hS : S w) :
    ∀ (q : List Nat) (n : Nat) (listed : Array Bool) (a : Act), lastOk md ops z listed = true → segOk md ops q listed = true → q.contains z = false → n = q.length + fuel →
      wpQuiet P ops S (fun a' => wpAnyL P md ops Q S z fuel (listAll q listed) a' w) (opsOf ops q) a → wpAnyL P md ops Q S z n listed a w := by
  suffices hD : ∀ (q : List Nat) (n : Nat) (listed : Array Bool) (a : Act), Down md ops z listed → segOk md ops q listed = true → q.contains z = false → n = q.length + fuel →
      wpQuiet P ops S (fun a' => wpAnyL P md ops Q S z fuel (listAll q listed) a' w) (opsOf ops q) a → wpAnyL P md ops Q S z n listed a w from fun q n listed a h => hD q n listed a (Down.of h)
  intro q
  induction q with
  | nil =>
    intro n listed a _ _ _ hn h
    subst hn
    simpa [opsOf, wpQuiet, listAll] using h
  | cons i q ih =>
    intro n listed a hd hok hz hn h
    simp only [segOk, Bool.and_eq_true] at hok
    simp only [List.contains_cons, Bool.or_eq_false_iff, beq_eq_false_iff_ne, ne_eq] at hz
    obtain ⟨⟨⟨hr, hf⟩, hc⟩, hok'⟩ := hok
    cases hoi : ops[i]? with
    | none => simp [hoi] at hc
    | some o =>
      simp only [hoi, Option.map_some, Option.getD_some] at hc
      have hl' : opsOf ops (i :: q) = o :: opsOf ops q := by rw [opsOf_cons, hoi, consOp_some]
      rw [hl'] at h
      obtain rfl : n = (q.length + fuel) + 1 := by simp at hn; omega
      have hri : i ∈ Region.ready md ops listed := by simpa using hr
      simp only [wpQuiet] at h
      split at h
      · rename_i hw
        obtain ⟨v, hv, hK⟩ := h
        exact wpAnyL_first hoi (Ne.symm hz.1) (Region.noSelect_spec hs) (fun c a w => hQ c _ _ a w) _ listed a w hd (Region.free_spec hoi hf) hri (.inl ⟨hw, fun w' hw' => calm_val hc (hv w' hw')⟩) hS (ih _ _ _ (hd.set_ hri) hok' hz.2 rfl hK)
      · rename_i hw
        exact wpAnyL_first hoi (Ne.symm hz.1) (Region.noSelect_spec hs) (fun c a w => hQ c _ _ a w) _ listed a w hd (Region.free_spec hoi hf) hri (.inr ⟨by simpa using hw, rfl⟩) hS (ih _ _ _ (hd.set_ hri) hok' hz.2 rfl h)

/-- What is still to come behind operation i. -/
def AfterL (P : Program) (md : Region.Mode) (ops : Array Oper) (Q : Exit → Act → World → Prop) (S : World → Prop) (z fuel : Nat) (listed : Array Bool) (i : Nat) (K : Act → World → Prop) : Prop :=
  ∀ a w, (i = z ∨ S w) → wpAnyL P md ops Q S z fuel (listed.setIfInBounds i true) a w → K a w
theorem AfterL.out {fuel : Nat} {listed : Array Bool} {i : Nat} {K : Act → World → Prop} (h : AfterL P md ops Q S z fuel listed i K) {a : Act} {w : World} (hS : i = z ∨ S w) (hW : wpAnyL P md ops Q S z fuel (listed.setIfInBounds i true) a w) : K a w := h a w hS hW
/-- Each of those that may come up now. -/
def EachL (P : Program) (md : Region.Mode) (ops : Array Oper) (Q : Exit → Act → World → Prop) (S : World → Prop) (z fuel : Nat) (listed : Array Bool) (a : Act) (w : World) (rs : List Nat) : Prop :=
  ∀ i ∈ rs, wpOp P ops Q i (fun a' w' => (i = z ∨ S w') ∧ wpAnyL P md ops Q S z fuel (listed.setIfInBounds i true) a' w') a w
theorem EachL.nil {fuel : Nat} {listed : Array Bool} {a : Act} {w : World} : EachL P md ops Q S z fuel listed a w [] := fun _ h => by cases h
theorem EachL.cons {fuel : Nat} {listed : Array Bool} {a : Act} {w : World} {i : Nat} {rs : List Nat} (o : Oper) (ho : ops[i]? = some o)
    (h : ∀ K' : Act → World → Prop, AfterL P md ops Q S z fuel listed i K' → if Region.wanted o (yielded ops a.tmps) = true then Oper.wp P o a w K' Q else K' (a.put o.dst undef) w)
    (hs : EachL P md ops Q S z fuel listed a w rs) : EachL P md ops Q S z fuel listed a w (i :: rs) := fun j hj => by
  rcases List.mem_cons.1 hj with rfl | hj
  · exact wpOp_step ho (fun K' hK => h K' (fun a w hS hW => hK a w ⟨hS, hW⟩))
  · exact hs j hj
theorem wpAnyL_each {n fuel : Nat} {listed : Array Bool} {a : Act} {w : World} (rs : List Nat) (hr : Region.ready md ops listed = rs) (hne : rs ≠ []) (hn : n = fuel + 1)
    (h : EachL P md ops Q S z fuel listed a w rs) : wpAnyL P md ops Q S z n listed a w := by
  subst hn
  exact ⟨fun h0 => absurd (hr ▸ h0) hne, hr ▸ h⟩
theorem wpAnyL_done {listed : Array Bool} {a : Act} {w : World} (hr : Region.ready md ops listed = []) (h : Q .normal a w) : ∀ n, wpAnyL P md ops Q S z n listed a w
  | 0 => ⟨hr, h⟩
  | _ + 1 => ⟨fun _ => h, by rw [hr]; simp⟩
theorem wp_region_L {id : Nat} {a : Act} {w : World} (z : Nat) (hm : P.follows .mixedOrders = true) (hS : S w.drew)
    (h : S w.drew → wpAnyL P .any ops Q S z ops.size (Array.replicate ops.size false) a w.drew) : (Code.region id ops true).wp P Q a w :=
  wp_region_any hm (wpAny_ofL _ _ _ _ (h hS))
end
end Go.Proofs.Ytcibihakjcenaaa

