/- DropDoes: the words and contracts, part 3. -/
import Derived.Test.YtkfgegdnpinbdaaDropDoesQ1
import Derived.Test.YtkfgegdnpinbdaaDropDoesQ2
import Derived.Test.YtkfgegdnpinbdaaChecked
import Derived.WalkKit
import Derived.WalkLawsBesides
import Derived.WalkSpells
import Derived.Lib.Hide
import Derived.Laws.Rows
import Derived.Laws.AppendOwnNone
import Derived.Maps.AppendAt
import Derived.RangeFuncNested
import Derived.RangeFuncBound
import Derived.RangeFuncCalls
import Derived.RangeFuncLeaves
import Derived.RangeFuncBox
import Derived.Shelf.Abstract
import Derived.Shelf.RegionOpen
import Derived.OwnWalkIn
import Derived.TacticsInMore
import Derived.LoopNIn
import Derived.LoopIn
import Derived.ProofKit
import Derived.Deep.Slices
import Derived.WideShapes
import Derived.OrdersHeld
import Derived.Deep.QuietTactic
import Derived.BigQuiet
import Derived.StillTailTactics
import Derived.OpenShut
import Derived.Lib.SliceRun
import Derived.Lib.AppendZerosOnto
import Derived.Lib.Walk
import Derived.Deep.LoopGhost
import Derived.Laws.CopyOwn
import Derived.Deep.DeepCutAuto
import Derived.Laws.CopyRow
namespace Go.Proofs.Ytkfgegdnpinbdaa
open Go.RowKit

theorem retB {a b : Bool} (h : a = b) : Ending.returned (.bool a) = .returned (.bool b) := by rw [h]

set_option maxRecDepth 100000 in
set_option maxHeartbeats 400000 in
theorem rless_any (a b : KeyL) (w : World) : Calls Try.prog 98 #[keyV a, keyV b] w fun e w' => e = .returned (.bool (lessK a b)) ∧ Below w.heap.size w w' := by
  have hB := ((Below.refl w.heap.size w).alloc (Nat.le_refl _) (.cells #[bV a.kind, wV a.id, wV a.off] 95)).alloc (by simp) (.cells #[bV b.kind, wV b.id, wV b.off] 95)
  obtain ⟨k1, i1, o1⟩ := a
  obtain ⟨k2, i2, o2⟩ := b
  have hx : ∀ (a b : UInt32), a ≠ b → ((a.toNat : Int) == b.toNat) = false := fun a b h => by rw [beq_eq_false_iff_ne]; intro h2; exact h (UInt32.toNat_inj.1 (by omega))
  have hy : ∀ (a b : UInt8), a ≠ b → ((a.toNat : Int) == b.toNat) = false := fun a b h => by rw [beq_eq_false_iff_ne]; intro h2; exact h (UInt8.toNat_inj.1 (by omega))
  simp only [keyV, bV, wV] at *
  by_cases h1 : k1 = k2
  · subst h1
    by_cases h2 : i1 = i2
    · subst h2
      have hfin : lessK ⟨k1, i1, o1⟩ ⟨k1, i1, o2⟩ = decide (o1.toNat < o2.toNat) := by simp [lessK]
      rw [hfin]
      clear hfin
      go_enter Try.func98, Try.ntmps98
      go_wp2
      go_ret
      exact ⟨rfl, hB⟩
    · have hfin : lessK ⟨k1, i1, o1⟩ ⟨k1, i2, o2⟩ = decide (i1.toNat < i2.toNat) := by simp [lessK, h2]
      have hq := hx _ _ h2
      rw [hfin]
      clear hfin
      go_enter Try.func98, Try.ntmps98
      go_wp2
      go_ret
      exact ⟨rfl, hB⟩
  · have hfin : lessK ⟨k1, i1, o1⟩ ⟨k2, i2, o2⟩ = decide (k1.toNat < k2.toNat) := by simp [lessK, h1]
    have hq := hy _ _ h1
    rw [hfin]
    clear hfin
    go_enter Try.func98, Try.ntmps98
    go_wp2
    go_ret
    exact ⟨rfl, hB⟩

set_option maxRecDepth 100000 in
set_option maxHeartbeats 400000 in
theorem rmay_any (x : ItemL) (v : Value) (w : World) (hv : Bytes w 0 w.heap.size v x.val) :
    Calls Try.prog 97 #[itemV x v] w fun e w' => e = .returned (.bool (mayI x)) ∧ Below w.heap.size w w' := by
  obtain ⟨a, c, rfl, g1, g2, _, _⟩ := hv
  obtain ⟨⟨k, i, o⟩, r, l⟩ := x
  simp only [itemV, bV, wV] at *
  have hb := (Below.refl w.heap.size w).alloc (Nat.le_refl _) (.cells #[.int .u8 (k.toNat : Int), .int .u32 (i.toNat : Int), .int .u32 (o.toNat : Int), .int .i64 r, .slice a l.length c] 97)
  have hm : mayI ⟨⟨k, i, o⟩, r, l⟩ = decide ((r = 0 ∨ (8 ≤ r ∧ r ≤ 255)) ∧ (l.length : Int) ≤ 12) := by unfold mayI; congr 1; apply propext; simp only; omega
  rw [hm]
  clear hm
  by_cases h0 : r = 0
  · subst h0
    go_enter Try.func97, Try.ntmps97
    go_wp2
    go_ret
    exact ⟨retB (by rw [Bool.eq_iff_iff]; simp; try omega), hb⟩
  · have h0' : (r == 0) = false := by simp [h0]
    by_cases h8 : 8 ≤ r
    · by_cases h9 : r ≤ 255
      · go_enter Try.func97, Try.ntmps97
        go_wp2
        go_ret
        exact ⟨retB (by rw [Bool.eq_iff_iff]; simp; try omega), hb⟩
      · go_enter Try.func97, Try.ntmps97
        go_wp2
        go_ret
        exact ⟨retB (by rw [Bool.eq_iff_iff]; simp; try omega), hb⟩
    · go_enter Try.func97, Try.ntmps97
      go_wp2
      go_ret
      exact ⟨retB (by rw [Bool.eq_iff_iff]; simp; try omega), hb⟩
end Go.Proofs.Ytkfgegdnpinbdaa

namespace Go.Proofs.Ytkfgegdnpinbdaa
open Go.RowKit

theorem OwnB.step {base : Nat} {e : TypeId} {w w' : World} {v : Value} {l : List UInt8} (h : OwnB base e w v l) (hb : Below w.heap.size w w') : OwnB base e w' v l := by
  obtain ⟨h1, h2⟩ := h
  refine ⟨h1, ?_⟩
  rcases h2 with h2 | ⟨g, cap, cur, hv, hg, hh, r⟩
  · exact .inl h2
  · exact .inr ⟨g, cap, cur, hv, hg, (hb.block g (Array.getElem?_eq_some_iff.1 hh).1).trans hh, r⟩
theorem OwnB.le {base base' : Nat} {e : TypeId} {w : World} {v : Value} {l : List UInt8} (h : OwnB base e w v l) (hb : base' ≤ base) : OwnB base' e w v l :=
  ⟨h.1, h.2.elim Or.inl (fun ⟨g, cap, cur, hv, hg, r⟩ => Or.inr ⟨g, cap, cur, hv, Nat.le_trans hb hg, r⟩)⟩
theorem OwnB.one (w : World) (base : Nat) (e : TypeId) (h : base ≤ w.heap.size) (n : Int) (x : UInt8) (hx : Value.int .u8 n = bV x) : OwnB base e (w.alloc (.cells #[.int .u8 n] e)) (.slice (some ⟨w.heap.size, 0, none⟩) 1 1) [x] := by
  rw [hx]
  exact ⟨rfl, .inr ⟨w.heap.size, 1, _, rfl, h, World.alloc_heap_new w _, Nat.le_refl _, by unfold maxLen; omega, rfl, rfl⟩⟩
theorem one_new (w : World) (t : TypeId) (n : Int) (x : UInt8) (hx : Value.int .u8 n = bV x) : Bytes (w.alloc (.cells #[.int .u8 n] t)) w.heap.size (w.heap.size + 1) (.slice (some ⟨w.heap.size, 0, none⟩) 1 1) [x] := by
  rw [hx]
  exact Bytes.new w t [x] (by simp [maxLen]) (0, 0)
theorem one_block (w : World) (o : Obj) (W' : World) (h : Below (w.alloc o).heap.size (w.alloc o) W') : W'.heap[w.heap.size]? = some o :=
  (h.block w.heap.size (by simp)).trans (World.alloc_heap_new w o)
/-- The bytes of an item. -/
def itemB (x : ItemL) : List UInt8 := [x.key.kind] ++ fourL x.key.id.toNat ++ fourL x.key.off.toNat ++ twoL x.ref.toNat ++ [UInt8.ofNat x.val.length] ++ x.val
theorem itemB_length (x : ItemL) : (itemB x).length = 12 + x.val.length := by simp [itemB, fourL, twoL]; omega

set_option maxRecDepth 100000 in
set_option maxHeartbeats 1000000 in
theorem rbytes_any (x : ItemL) (v : Value) (w : World) (hv : Bytes w 0 w.heap.size v x.val) (h0 : 0 ≤ x.ref) (h1 : x.ref < 256) (hl : x.val.length ≤ 10000) :
    Calls Try.prog 127 #[itemV x v] w fun e w' => ∃ u, e = .returned u ∧ OwnB w.heap.size 5 w' u (itemB x) ∧ Below w.heap.size w w' := by
  have hB := (Below.refl w.heap.size w).alloc (Nat.le_refl _) (.cells #[bV x.key.kind, wV x.key.id, wV x.key.off, .int .i64 x.ref, v] 97)
  have hblk := one_block w (.cells #[bV x.key.kind, wV x.key.id, wV x.key.off, .int .i64 x.ref, v] 97)
  have hv0 := hv.step hB
  obtain ⟨W, hW⟩ : ∃ W, w.alloc (.cells #[bV x.key.kind, wV x.key.id, wV x.key.off, .int .i64 x.ref, v] 97) = W := ⟨_, rfl⟩
  have hfin : itemB x = [x.key.kind] ++ fourL x.key.id.toNat ++ fourL x.key.off.toNat ++ twoL x.ref.toNat ++ [UInt8.ofNat x.val.length] ++ x.val := rfl
  rw [hW] at hB hblk hv0
  have hz : W.heap.size = w.heap.size + 1 := by rw [← hW]; simp
  obtain ⟨a, c, rfl, g1, g2, -, -⟩ := hv
  obtain ⟨⟨k, i, o⟩, r, l⟩ := x
  obtain ⟨r, rfl⟩ := Int.eq_ofNat_of_zero_le h0
  simp only at *
  generalize itemB ⟨⟨k, i, o⟩, (r : Int), l⟩ = out at *
  simp only [itemV, bV, wV] at *
  have hc : ∀ W', Below W.heap.size W W' → W'.cell? ⟨w.heap.size, 0, none⟩ = some (.int .u8 k.toNat) ∧ W'.cell? ⟨w.heap.size, 1, none⟩ = some (.int .u32 i.toNat) ∧ W'.cell? ⟨w.heap.size, 2, none⟩ = some (.int .u32 o.toNat) ∧
      W'.cell? ⟨w.heap.size, 3, none⟩ = some (.int .i64 r) ∧ W'.cell? ⟨w.heap.size, 4, none⟩ = some (.slice a l.length c) := fun W' h =>
    ⟨blk_cell (hblk W' h) 0, blk_cell (hblk W' h) 1, blk_cell (hblk W' h) 2, blk_cell (hblk W' h) 3, blk_cell (hblk W' h) 4⟩
  have HC := Lib.hid (And.intro hc (And.intro hW (And.intro hz hfin)))
  have HV := Lib.hid hv0
  have HB := Lib.hid hB
  have hi := i.toNat_lt
  have ho := o.toNat_lt
  clear hc hW hfin hblk hz h0 hv0 hB
  obtain ⟨c0, c1, c2, c3, c4⟩ := HC.out.1 W (Below.refl _ _)
  have hB0 := (Below.refl W.heap.size W)
  go_enter Try.func127, Try.ntmps127
  go_upto_region 1 with (fail)
  rw [HC.out.2.1]
  go_upto_region 2 with (fail)
  have own1 := OwnB.one W W.heap.size 5 (Nat.le_refl _) k.toNat k rfl
  have hB1 : Below W.heap.size W (W.alloc (.cells #[.int .u8 (k.toNat : Int)] 5)) := hB0.alloc (Nat.le_refl _) _
  clear c0 c1 c2 c3 c4 hB0
  generalize W.alloc (.cells #[.int .u8 (k.toNat : Int)] 5) = w1 at *
  obtain ⟨-, c1, -, -, -⟩ := HC.out.1 w1 hB1
  go_wp2_with fail
  refine (rfour_own _ w1 (by omega)).mono ?_
  rintro e w2 ⟨v2, rfl, hown, hb2⟩
  have own2 := own1.step hb2
  have hB2 := hB1.trans (hb2.mono hB1.size)
  have src := hown.bytes.all0
  clear own1 hown hb2 hB1 c1
  obtain ⟨Li, hLi⟩ : ∃ x, fourL i.toNat = x := ⟨_, rfl⟩
  obtain ⟨Lo, hLo⟩ : ∃ x, fourL o.toNat = x := ⟨_, rfl⟩
  obtain ⟨Lr, hLr⟩ : ∃ x, twoL r = x := ⟨_, rfl⟩
  have HL := Lib.hid (And.intro hLi (And.intro hLo hLr))
  have HH := Lib.hid (And.intro (show Li.length = 4 by rw [← hLi]; rfl) (And.intro (show Lo.length = 4 by rw [← hLo]; rfl) (show Lr.length = 2 by rw [← hLr]; rfl)))
  rw [hLi] at src
  clear hLi hLo hLr
  obtain ⟨va, vc, rfl, -, -⟩ := src.form HH.out.1
  go_wp2_with (at_builtin; refine wpList_appB rfl _ _ 26 rfl W.heap.size 5 Try.underlying26 info_u8 _ [k] rfl own2 0 w2.heap.size _ Li rfl src (by have := HH.out.1; simp; omega) hB2.size ?_; intro v3 w3 own3 hb3; have hB3 := hB2.trans hb3; obtain ⟨-, -, c2, -, -⟩ := HC.out.1 w3 hB3; clear own2 src hb3 hB2)
  have hc4 := rfour_own o.toNat w3 (by omega)
  rw [HL.out.2.1] at hc4
  refine hc4.mono ?_
  clear hc4
  rintro e w4 ⟨v4, rfl, hown, hb4⟩
  have own4 := own3.step hb4
  have hB4 := hB3.trans (hb4.mono hB3.size)
  have src := hown.bytes.all0
  clear own3 hown hb4 hB3 c2
  obtain ⟨va, vc, rfl, -, -⟩ := src.form HH.out.2.1
  go_wp2_with (at_builtin; refine wpList_appB rfl _ _ 26 rfl W.heap.size 5 Try.underlying26 info_u8 _ ([k] ++ Li) rfl own4 0 w4.heap.size _ Lo rfl src (by have := HH.out; simp; omega) hB4.size ?_; intro v5 w5 own5 hb5; have hB5 := hB4.trans hb5; obtain ⟨-, -, -, c3, -⟩ := HC.out.1 w5 hB5; clear own4 src hb5 hB4)
  have hc6 := bytes_own r 2 w5 (by omega) (by omega)
  rw [bytesL_two, HL.out.2.2] at hc6
  refine hc6.mono ?_
  clear hc6
  rintro e w6 ⟨v6, rfl, hown, hb6⟩
  have own6 := own5.step hb6
  have hB6 := hB5.trans (hb6.mono hB5.size)
  have src := hown.bytes.all0
  clear own5 hown hb6 hB5 c3
  obtain ⟨va, vc, rfl, -, -⟩ := src.form HH.out.2.2
  go_upto_region 5 with (at_builtin; refine wpList_appB rfl _ _ 26 rfl W.heap.size 5 Try.underlying26 info_u8 _ ([k] ++ Li ++ Lo) rfl own6 0 w6.heap.size _ Lr rfl src (by have := HH.out; simp; omega) hB6.size ?_; intro v7 w7 own7 hb7; have hB7 := hB6.trans hb7; obtain ⟨-, -, -, -, c4⟩ := HC.out.1 w7 hB7; clear own6 src hb7 hB6)
  have hlen : Value.int .u8 ((l.length : Int) % 256) = bV (UInt8.ofNat l.length) := by simp [bV]
  have Hlen := Lib.hid hlen
  clear hlen
  go_upto_region 6 with (at_builtin; refine wpList_appB rfl _ _ 26 rfl W.heap.size 5 Try.underlying26 info_u8 _ ([k] ++ Li ++ Lo ++ Lr) rfl (own7.alloc _) w7.heap.size (w7.heap.size + 1) _ [UInt8.ofNat l.length] rfl (one_new w7 _ _ _ Hlen.out) (by have := HH.out; simp; omega) (by have := hB7.size; simp; omega) ?_; intro v8 w8 own8 hb8; have hB8 := (hB7.alloc hB7.size _).trans hb8; obtain ⟨-, -, -, -, c4⟩ := HC.out.1 w8 hB8; clear own7 hB7 hb8)
  have hv8 := HV.out.below hB8 (Nat.le_refl _)
  go_wp2_with (at_builtin; refine wpList_appB rfl _ _ 26 rfl W.heap.size 5 Try.underlying26 info_u8 _ ([k] ++ Li ++ Lo ++ Lr ++ [UInt8.ofNat l.length]) rfl own8 0 W.heap.size _ l rfl hv8 (by have := HH.out; simp; omega) hB8.size ?_; intro v9 w9 own9 hb9)
  go_ret
  refine ⟨_, rfl, ?_, HB.out.trans ((hB8.trans hb9).mono HB.out.size)⟩
  have hf := HC.out.2.2.2
  rw [HL.out.1, HL.out.2.1, Int.toNat_natCast, HL.out.2.2] at hf
  rw [hf]
  exact own9.le HB.out.size
end Go.Proofs.Ytkfgegdnpinbdaa

namespace Go.Proofs.Ytkfgegdnpinbdaa
open Go.RowKit

/-- What the walk knows of an item that was laid into a block. -/
theorem item_box (x : ItemL) (v : Value) (w : World) (hv : Bytes w 0 w.heap.size v x.val) : ∃ W, w.alloc (.cells #[bV x.key.kind, wV x.key.id, wV x.key.off, .int .i64 x.ref, v] 97) = W ∧ Below w.heap.size w W ∧ Bytes W 0 W.heap.size v x.val ∧ W.heap.size = w.heap.size + 1 ∧
    ∀ W', Below W.heap.size W W' → W'.heap[w.heap.size]? = some (.cells #[bV x.key.kind, wV x.key.id, wV x.key.off, .int .i64 x.ref, v] 97 (0, 0)) := by
  have hB := (Below.refl w.heap.size w).alloc (Nat.le_refl _) (.cells #[bV x.key.kind, wV x.key.id, wV x.key.off, .int .i64 x.ref, v] 97)
  exact ⟨_, rfl, hB, hv.step hB, by simp, one_block _ _⟩
def wrI (x : ItemL) : List UInt8 := if mayI x then itemB x else []
theorem may_ref {x : ItemL} (h : mayI x = true) : 0 ≤ x.ref ∧ x.ref < 256 ∧ x.val.length ≤ 12 := by
  unfold mayI at h
  simp only [decide_eq_true_eq] at h
  omega

end Go.Proofs.Ytkfgegdnpinbdaa

namespace Go.Proofs.Ytkfgegdnpinbdaa
open Go.RowKit

def okW (x : WrL) : Bool := decide (0 ≤ x.at_) && decide (x.at_ < 256) && x.data.length == 128
def mayD (d : DiskL) : Bool := d.blocks.length == 256 && decide (d.waits.length ≤ 4096) && d.blocks.all (fun b => b.length == 128) && d.waits.all okW

theorem get_l {α : Type} (l : List α) (d : α) (i : Nat) (h : i < l.length) : l[i]? = some (l.getD i d) := by simp [h]

set_option maxRecDepth 100000 in
set_option maxHeartbeats 1000000 in
/-- dev.Check. -/
theorem dcheck_any (b u : Value) (d : DiskL) (w : World) (h : DiskV w 0 w.heap.size b u d) :
    Calls Try.prog 51 #[.agg #[b, u]] w fun e w' => e = .returned (.int .i64 (if mayD d then 0 else 8)) ∧ Below w.heap.size w w' := by
  have hB := (Below.refl w.heap.size w).alloc (Nat.le_refl _) (.cells #[b, u] 25)
  have hb := h.1.step hB
  have hu := h.2.step hB
  have hq := World.alloc_heap_new w (.cells #[b, u] 25)
  obtain ⟨ab, cb, rfl, g1, g2, -, -⟩ := h.1
  obtain ⟨au, cu, rfl, g1', g2', -, -⟩ := h.2
  unfold maxLen at g2 g2'
  obtain ⟨bl, wl⟩ := d
  clear h
  simp only at *
  obtain ⟨W, hW⟩ : ∃ W, w.alloc (.cells #[.slice ab bl.length cb, .slice au wl.length cu] 25) = W := ⟨_, rfl⟩
  rw [hW] at hB hb hu hq
  have HM := Lib.hid (show mayD ⟨bl, wl⟩ = (bl.length == 256 && decide (wl.length ≤ 4096) && bl.all (fun b => b.length == 128) && wl.all okW) from rfl)
  generalize mayD ⟨bl, wl⟩ = md at *
  have HQ := Lib.hid (And.intro hq (And.intro hb (And.intro hu (And.intro hW hB))))
  clear hq hb hu hW hB
  go_enter Try.func51, Try.ntmps51
  go_upto_region 1 with (fail)
  rw [HQ.out.2.2.2.1]
  have c0 := blk_cell HQ.out.1 0
  have c1 := blk_cell HQ.out.1 1
  simp at c0 c1
  by_cases h1 : ¬ bl.length = 256
  · have i1 : ¬ (bl.length : Int) = 256 := by omega
    have hm : md = false := by rw [HM.out]; simp [h1]
    subst hm
    go_wp2
    go_ret
    exact ⟨rfl, HQ.out.2.2.2.2⟩
  have hbl : bl.length = 256 := by omega
  clear h1
  by_cases h2 : 4096 < wl.length
  · have i1 : (4096 : Int) < wl.length := by omega
    have hm : md = false := by rw [HM.out]; simp [hbl]; omega
    subst hm
    go_wp2
    go_ret
    exact ⟨rfl, HQ.out.2.2.2.2⟩
  have i2 : decide ((4096 : Int) < wl.length) = false := by simp; omega
  have HM2 := Lib.hid (show md = (bl.all (fun b => b.length == 128) && wl.all okW) by rw [HM.out, hbl]; simp [show wl.length ≤ 4096 by omega])
  clear HM
  have hb := HQ.out.2.1
  obtain ⟨bb, bo, cb', e', -, z1, z2, z3, hbe⟩ := hb.at_ (by omega)
  injection e' with ea _ ec
  subst ea ec
  have HBE := Lib.hid hbe
  unfold maxLen at z3
  clear hbe hb
  rw [hbl] at HQ g1 z2 c0 ⊢
  go_wp2_with fail
  go_loopw [20] (fun i wr => ∃ k : Nat, k ≤ 256 ∧ i = .int .i64 k ∧ wr = W ∧ ∀ j, j < k → (bl.getD j []).length = 128) (fun i _ => 256 - (intOf i).toNat)
  case atStart => exact ⟨0, Nat.zero_le _, rfl, rfl, fun j hj => absurd hj (Nat.not_lt_zero _)⟩
  case round =>
  obtain ⟨k, hk, rfl, rfl, hall⟩ := hrel
  by_cases hlt : k < 256
  · obtain ⟨v, hv, hvb⟩ := HBE.out k (bl.getD k []) (get_l _ _ _ (by omega))
    obtain ⟨av, cv, rfl, -, hcv⟩ := hvb.form rfl
    unfold maxLen at hcv
    have hv' : wr.cell? ⟨bb, bo + k, none⟩ = some (.slice av (bl.getD k []).length cv) := by simpa [rBytes] using hv
    obtain ⟨y, hy⟩ : ∃ y, bl.getD k [] = y := ⟨_, rfl⟩
    rw [hy] at hv'
    have HY := Lib.hid (And.intro hy hall)
    clear hv hvb hy hall
    by_cases h5 : y.length = 128
    · rw [h5] at hv'
      go_wp2
      go_roundw
      case rel => exact ⟨k + 1, by omega, by go_num, trivial, fun j hj => by
        by_cases e : j = k
        · subst e; rw [HY.out.1]; exact h5
        · exact HY.out.2 j (by omega)⟩
      case measure => simp [intOf]; omega
    · have i5 : ¬ (y.length : Int) = 128 := by omega
      have hm : md = false := by
        rw [HM2.out]
        have : bl.all (fun b => b.length == 128) = false := by
          rw [List.all_eq_false]
          refine ⟨y, ?_, by simp [h5]⟩
          rw [← HY.out.1]
          exact List.mem_of_getElem? (get_l _ _ _ (by omega))
        rw [this]; rfl
      subst hm
      go_wp2
      go_ret
      exact ⟨rfl, HQ.out.2.2.2.2⟩
  obtain rfl : k = 256 := by omega
  have hall2 : bl.all (fun b => b.length == 128) = true := by
    rw [List.all_eq_true]
    intro x hx
    obtain ⟨j, hj⟩ := List.mem_iff_getElem?.1 hx
    have hjl : j < bl.length := (List.getElem?_eq_some_iff.1 hj).1
    rw [get_l bl [] j hjl] at hj
    cases hj
    exact beq_iff_eq.2 (hall j (by omega))
  obtain ⟨V, hV⟩ : ∃ V, V = wr := ⟨_, rfl⟩
  subst hV
  have HM3 := Lib.hid (show md = wl.all okW by rw [HM2.out, hall2]; rfl)
  clear HM2 hall hall2 hlt hk HBE i2
  go_wp2_with fail
  go_loopw [31] (fun i wx => ∃ k : Nat, k ≤ wl.length ∧ i = .int .i64 k ∧ Below V.heap.size V wx ∧ ∀ j, j < k → okW (wl.getD j ⟨0, []⟩) = true) (fun i _ => wl.length - (intOf i).toNat)
  case atStart => exact ⟨0, Nat.zero_le _, rfl, Below.refl _ _, fun j hj => absurd hj (Nat.not_lt_zero _)⟩
  case round =>
  obtain ⟨k, hk, rfl, hB, hall⟩ := hrel
  by_cases hlt : k < wl.length
  · obtain ⟨wb, wo, wc, e', -, y1, y2, y3, hwe⟩ := (HQ.out.2.2.1.step hB).at_ (by omega)
    injection e' with ea _ ec
    subst ea ec
    unfold maxLen at y3
    obtain ⟨f0, f1, v, f2, f3⟩ := hwe k (wl.getD k ⟨0, []⟩) (get_l _ _ _ hlt)
    obtain ⟨av, cv, rfl, -, hcv⟩ := f3.form rfl
    unfold maxLen at hcv
    obtain ⟨y, hy⟩ : ∃ y, wl.getD k ⟨0, []⟩ = y := ⟨_, rfl⟩
    rw [hy] at f0 f1 f2
    have HY := Lib.hid (And.intro hy (And.intro hall hB))
    clear hwe f3 hy hall hB
    obtain ⟨at_, dt⟩ := y
    simp [rWrite] at f0 f2
    have hokw : okW ⟨at_, dt⟩ = (decide (0 ≤ at_) && decide (at_ < 256) && dt.length == 128) := rfl
    have hfin := Lib.hid (below_step HQ.out.2.2.2.2 HQ.out.2.2.2.2.size (HY.out.2.2.alloc HY.out.2.2.size (.cells #[.int .i64 at_, .slice av dt.length cv] 92)))
    have hbad : okW ⟨at_, dt⟩ = false → md = false := fun h => by
      rw [HM3.out, List.all_eq_false]
      refine ⟨⟨at_, dt⟩, ?_, by rw [h]; decide⟩
      rw [← HY.out.1]
      exact List.mem_of_getElem? (get_l _ _ _ hlt)
    have HBD := Lib.hid hbad
    clear hbad
    by_cases a1 : at_ < 0
    · have hm := HBD.out (by rw [hokw]; simp; omega)
      subst hm
      clear hokw
      go_wp2
      go_ret
      exact ⟨rfl, hfin.out⟩
    have d1 : decide (at_ < 0) = false := by simp; omega
    by_cases a2 : 256 ≤ at_
    · have hm := HBD.out (by rw [hokw]; simp; omega)
      subst hm
      clear hokw
      go_wp2
      go_ret
      exact ⟨rfl, hfin.out⟩
    have d2 : decide (256 ≤ at_) = false := by simp; omega
    by_cases a3 : dt.length = 128
    · have HOK := Lib.hid (show okW ⟨at_, dt⟩ = true by rw [hokw]; simp [a3]; omega)
      clear hokw
      go_wp2
      go_roundw
      case rel => exact ⟨k + 1, by omega, by go_num, HY.out.2.2.alloc HY.out.2.2.size _, fun j hj => by
        by_cases e : j = k
        · subst e; rw [HY.out.1]; exact HOK.out
        · exact HY.out.2.1 j (by omega)⟩
      case measure => simp [intOf]; omega
    · have i5 : ¬ (dt.length : Int) = 128 := by omega
      have hm := HBD.out (by rw [hokw]; simp [a3])
      subst hm
      clear hokw
      go_wp2
      go_ret
      exact ⟨rfl, hfin.out⟩
  obtain rfl : k = wl.length := by omega
  have hm : md = true := by
    rw [HM3.out, List.all_eq_true]
    intro x hx
    obtain ⟨j, hj⟩ := List.mem_iff_getElem?.1 hx
    have hjl : j < wl.length := (List.getElem?_eq_some_iff.1 hj).1
    rw [get_l wl ⟨0, []⟩ j hjl] at hj
    cases hj
    exact hall j hjl
  subst hm
  have c1' := (hB.cell (p := ⟨w.heap.size, 1, none⟩) (Array.getElem?_eq_some_iff.1 HQ.out.1).1).trans c1
  have hfin := below_step HQ.out.2.2.2.2 HQ.out.2.2.2.2.size hB
  clear hall hB
  go_wp2
  go_ret
  exact ⟨rfl, hfin⟩

end Go.Proofs.Ytkfgegdnpinbdaa

namespace Go.Proofs.Ytkfgegdnpinbdaa
open Go.RowKit

def errA (d : DiskL) (p : Int) : Int := if mayD d then (if p < 0 ∨ 256 ≤ p then 2 else 0) else 8

end Go.Proofs.Ytkfgegdnpinbdaa

namespace Go.Proofs.Ytkfgegdnpinbdaa
open Go.RowKit

/-- copy into a row of bytes. -/
theorem wpList_copyB {P : Program} {w : World} {ops : Array Oper} {rest : List Oper} {o : Oper} {a : Act} {Q : Exit → Act → World → Prop} (hgd : o.guard = none) (d s : Operand) (dT sT : TypeId)
    (ho : o.op = .call { callee := .builtin .copy, args := #[d, s], argTypes := #[dT, sT] }) (e : TypeId) (hu : P.underlying dT = some (.slice e))
    (hi : (P.info? e).map (fun i => (i.zero, i.size, i.bytes)) = some (some (.int .u8 0), 1, 1)) (g off dLen dCap : Nat) (hd : a.eval d = .slice (some ⟨g, off, none⟩) dLen dCap)
    (L : List UInt8) (hrow : RowB w g e L) (lo hi' : Nat) (sv : Value) (bs : List UInt8) (hs : a.eval s = sv) (hr : Bytes w lo hi' sv bs) (hfit : off + min bs.length dLen ≤ L.length)
    (B : Nat) (hBg : B ≤ g) (h : ∀ w', RowB w' g e (splice L off (bs.take (min bs.length dLen))) → Below B w w' → wpList P ops Q rest (a.put o.dst (goInt ((min bs.length dLen : Nat) : Int))) w') : wpList P ops Q (o :: rest) a w := by
  obtain ⟨i0, hi0, hz0, hz1, hz2⟩ := info_parts hi
  obtain ⟨sp, sc, rfl, h1, h2, h3, h4⟩ := hr
  have hn : (bs.take (min bs.length dLen)).length = min bs.length dLen := by rw [List.length_take]; omega
  have hn' : ((bs.take (min bs.length dLen)).map bV).length = Nat.min bs.length dLen := by rw [List.length_map, hn]
  refine wpList_copy_splice hgd d s dT sT ho e hu (by rw [hi0]; simp [hz1]) _ _ _ _ _ _ hd hs g off (L.map bV) e hrow ((bs.take (min bs.length dLen)).map bV) hn' ?_ ?_ ?_ B w (Below.refl _ _) hBg ?_
  · intro hp
    refine ⟨rfl, ?_⟩
    rw [hn'] at hp
    have hp' : 0 < bs.length := by have : Nat.min bs.length dLen ≤ bs.length := Nat.min_le_left _ _; omega
    obtain ⟨b, o2, rfl, _, _, hc⟩ := h3 hp'
    refine ⟨_, rfl, fun j v hj => ?_⟩
    have e2 : (⟨b, o2, none⟩ : Addr).add j = ⟨b, o2 + j, none⟩ := by unfold Addr.add; split <;> simp_all
    rw [List.getElem?_map, List.getElem?_take] at hj
    split at hj
    · cases hx : bs[j]? with
      | none => rw [hx] at hj; cases hj
      | some x =>
        rw [hx] at hj
        cases hj
        rw [e2]
        exact hc j x hx
    · cases hj
  · rw [List.length_map, List.length_map, hn]; exact hfit
  · intro u hu
    obtain ⟨y, _, rfl⟩ := List.mem_map.1 hu
    rfl
  · intro w' hrow' hb
    rw [List.length_map, hn]
    refine h w' ?_ hb
    have h5 := hrow'.out
    unfold RowB
    rw [h5]
    simp [splice, List.map_take, List.map_drop]
end Go.Proofs.Ytkfgegdnpinbdaa

namespace Go.Proofs.Ytkfgegdnpinbdaa
open Go.RowKit

/-- Block g alone may have turned. -/
def OnlyAt (g : Nat) (w w' : World) : Prop := Below g w w' ∧ w'.heap.size = w.heap.size ∧ ∀ k, k ≠ g → w'.heap[k]? = w.heap[k]?
theorem OnlyAt.refl (g : Nat) (w : World) : OnlyAt g w w := ⟨Below.refl _ _, rfl, fun _ _ => rfl⟩

theorem wpList_copyF {P : Program} {w : World} {ops : Array Oper} {rest : List Oper} {o : Oper} {a : Act} {Q : Exit → Act → World → Prop} (hgd : o.guard = none) (d s : Operand) (dT sT : TypeId)
    (ho : o.op = .call { callee := .builtin .copy, args := #[d, s], argTypes := #[dT, sT] }) (e : TypeId) (hu : P.underlying dT = some (.slice e))
    (hi : (P.info? e).map (fun i => (i.zero, i.size, i.bytes)) = some (some (.int .u8 0), 1, 1)) (g off dLen dCap : Nat) (hd : a.eval d = .slice (some ⟨g, off, none⟩) dLen dCap)
    (L : List UInt8) (hrow : RowB w g e L) (lo hi' : Nat) (sv : Value) (bs : List UInt8) (hs : a.eval s = sv) (hr : Bytes w lo hi' sv bs) (hfit : bs.length ≤ dLen) (hfit2 : off + bs.length ≤ L.length)
    (h : ∀ w', RowB w' g e (splice L off bs) → OnlyAt g w w' → wpList P ops Q rest (a.put o.dst (goInt ((bs.length : Nat) : Int))) w') : wpList P ops Q (o :: rest) a w := by
  obtain ⟨i0, hi0, hz0, hz1, hz2⟩ := info_parts hi
  obtain ⟨sp, sc, rfl, h1, h2, h3, h4⟩ := hr
  have hmin : Nat.min bs.length dLen = bs.length := Nat.min_eq_left hfit
  have hsz : (P.info? e).map (·.size) = some 1 := by rw [hi0]; simp [hz1]
  by_cases h0 : bs.length = 0
  · obtain rfl : bs = [] := List.eq_nil_of_length_eq_zero h0
    refine wpList_copy_nothing hgd d s dT sT ho e hu hsz _ _ _ _ _ _ hd hs hmin ?_
    exact h w (by simpa [splice] using hrow) (OnlyAt.refl _ _)
  · obtain ⟨b, o2, rfl, _, _, hc⟩ := h3 (by omega)
    refine wpList_copy_own hgd d s dT sT ho e hu hsz g off dLen dCap _ _ _ hd hs (L.map bV).toArray e hrow (bs.map bV) (by rw [List.length_map, hmin]) ?_ (by simpa using hfit2) ?_ ?_
    · intro j v hj
      have e2 : (⟨b, o2, none⟩ : Addr).add j = ⟨b, o2 + j, none⟩ := by unfold Addr.add; split <;> simp_all
      rw [List.getElem?_map] at hj
      cases hx : bs[j]? with
      | none => rw [hx] at hj; cases hj
      | some x =>
        rw [hx] at hj
        cases hj
        rw [e2]
        exact hc j x hx
    · intro u hu
      obtain ⟨y, _, rfl⟩ := List.mem_map.1 hu
      rfl
    · rw [List.length_map]
      refine h _ ?_ ⟨below_setRow (Below.refl _ _) (Nat.le_refl _) _, by simp [World.setRow], fun k hk => setRow_other w g k _ (by omega)⟩
      unfold RowB
      rw [setRow_heap w g (L.map bV).toArray _ e (0, 0) hrow]
      simp [splice, List.map_take, List.map_drop]
end Go.Proofs.Ytkfgegdnpinbdaa

namespace Go.Proofs.Ytkfgegdnpinbdaa
open Go.RowKit

theorem cut_run (b off n c i j : Nat) (I J : Int) (hI : I = i) (hJ : J = j) (hij : i ≤ j) (hjc : j ≤ c) (hcm : c ≤ maxLen) : ∃ A : Addr,
    (∀ w, (Instr.sliceAt 26 (.slice (some ⟨b, off, none⟩) n c) (some (.int .i64 I)) (some (.int .i64 J)) none).run Try.prog w = .ok (.slice (some A) (j - i) (c - i)) w) ∧
    ∀ W lo hi l, Bytes W lo hi (.slice (some ⟨b, off, none⟩) n c) l → j ≤ l.length → Bytes W lo hi (.slice (some A) (j - i) (c - i)) ((l.drop i).take (j - i)) := by
  subst hI hJ
  by_cases h : c = i
  · refine ⟨⟨b, off, none⟩, fun w => ?_, fun W lo hi l hb hj => ?_⟩
    · simp [go_sem]
      rw [if_pos hjc, if_pos hij, if_pos h]
    · have e : j - i = 0 := by omega
      rw [e]
      obtain ⟨a, c', e1, h1, h2, h3, h4⟩ := hb
      cases e1
      exact ⟨some ⟨b, off, none⟩, c - i, by simp, by simp, by omega, fun hp => by simp at hp, fun h => by cases h⟩
  · refine ⟨⟨b, off + i, none⟩, fun w => ?_, fun W lo hi l hb hj => ?_⟩
    · simp [go_sem]
      rw [if_pos hjc, if_pos hij, if_neg h]
    · exact hb.cut i (j - i) (c - i) (by omega) (by omega) (by omega)
end Go.Proofs.Ytkfgegdnpinbdaa

namespace Go.Proofs.Ytkfgegdnpinbdaa
open Go.RowKit

def zeroI : ItemL := ⟨⟨0, 0, 0⟩, 0, []⟩
def rawI (l : List UInt8) : ItemL := ⟨⟨l.getD 0 0, UInt32.ofNat (getN l 1 4), UInt32.ofNat (getN l 5 4)⟩, (getN l 9 2 : Nat), (l.drop 12).take (l.getD 11 0).toNat⟩
def lenOk (l : List UInt8) : Bool := decide (12 ≤ l.length ∧ 12 + (l.getD 11 0).toNat ≤ l.length)
/-- What is read of bytes: an item, how many bytes, an error. -/
def readOk (l : List UInt8) : Bool := lenOk l && mayI (rawI l)
def readI (l : List UInt8) : ItemL := if readOk l then rawI l else zeroI
def readN (l : List UInt8) : Nat := if readOk l then 12 + (l.getD 11 0).toNat else 0
theorem wV_of (n : Nat) (h : n < 4294967296) : Value.int .u32 (n : Int) = wV (UInt32.ofNat n) := by
  simp [wV]
  omega
theorem alloc_cells (w : World) (cs : Array Value) (t : TypeId) : (w.alloc (.cells cs t)).heap[w.heap.size]? = some (.cells cs t (0, 0)) := World.alloc_heap_new w _

theorem set_block {w : World} {g : Nat} {cs : Array Value} {t : TypeId} {f : Nat × Nat} (h : w.heap[g]? = some (.cells cs t f)) (i : Nat) (v : Value) : (w.setCell ⟨g, i, none⟩ v).heap[g]? = some (.cells (cs.setIfInBounds i v) t f) := by
  simp [World.setCell, Array.getElem?_modify, h]

set_option maxRecDepth 100000 in
set_option maxHeartbeats 1000000 in
theorem rread_no (v : Value) (l : List UInt8) (w : World) (hv : Bytes w 0 w.heap.size v l) (hn : lenOk l = false) :
    Calls Try.prog 111 #[v] w fun e w' => e = .returned (.tuple #[itemV zeroI (.slice none 0 0), .int .i64 0, .int .i64 8]) ∧ Below w.heap.size w w' := by
  have hB := (Below.refl w.heap.size w).alloc (Nat.le_refl _) (.cells #[.int .u8 0, .int .u32 0, .int .u32 0, .int .i64 0, .slice none 0 0] 97)
  have hv1 := hv.step hB
  have hq := alloc_cells w #[.int .u8 0, .int .u32 0, .int .u32 0, .int .i64 0, .slice none 0 0] 97
  have hz : (itemV zeroI (.slice none 0 0)) = .agg #[.int .u8 0, .int .u32 0, .int .u32 0, .int .i64 0, .slice none 0 0] := rfl
  rw [hz]
  by_cases h12 : l.length < 12
  · obtain ⟨a, c, rfl, g1, g2, -, -⟩ := hv
    clear hv1 hq hz
    go_enter Try.func111, Try.ntmps111
    go_wp2_with fail
    exact bodyPost_ret (v := .tuple #[.agg #[.int .u8 0, .int .u32 0, .int .u32 0, .int .i64 0, .slice none 0 0], .int .i64 0, .int .i64 8]) (by simp [results, Try.results111, go_sem]) rfl ⟨rfl, hB⟩
  · obtain ⟨b, off, c, rfl, g0, g1, g2, g3, g4⟩ := hv.at_ (by omega)
    have c11 := g4 11 (l.getD 11 0) (by rw [List.getElem?_eq_getElem (by omega)]; simp [List.getD, show 11 < l.length by omega])
    have hlt : (l.length : Int) - 12 < (l.getD 11 0).toNat := by
      unfold lenOk at hn
      simp only [decide_eq_false_iff_not] at hn
      omega
    have hx := (l.getD 11 0).toNat_lt
    generalize l.getD 11 0 = x at *
    simp only [bV] at c11
    clear hv1 hq hz hv g4
    go_enter Try.func111, Try.ntmps111
    go_wp2_with fail
    exact bodyPost_ret (v := .tuple #[.agg #[.int .u8 0, .int .u32 0, .int .u32 0, .int .i64 0, .slice none 0 0], .int .i64 0, .int .i64 8]) (by simp [results, Try.results111, go_sem]) rfl ⟨rfl, hB⟩

set_option maxRecDepth 100000 in
set_option maxHeartbeats 1000000 in
theorem rread_yes (v : Value) (l : List UInt8) (w : World) (hv : Bytes w 0 w.heap.size v l) (hn : lenOk l = true) :
    Calls Try.prog 111 #[v] w fun e w' => ∃ u, e = .returned (.tuple #[itemV (readI l) u, .int .i64 (readN l), .int .i64 (mayE (readOk l))]) ∧ MadeB w w' u (readI l).val := by
  unfold lenOk at hn
  simp only [decide_eq_true_eq] at hn
  have hvx := fun A B => (hv.step (((Below.refl w.heap.size w).alloc (Nat.le_refl _) A).alloc (by simp) B))
  obtain ⟨b, off, c, rfl, g0, g1, g2, g3, g4⟩ := hv.at_ (by omega)
  have c11 := g4 11 (l.getD 11 0) (by rw [List.getElem?_eq_getElem (by omega)]; simp [List.getD, show 11 < l.length by omega])
  have c0 := g4 0 (l.getD 0 0) (by rw [List.getElem?_eq_getElem (by omega)]; simp [List.getD, show 0 < l.length by omega])
  have hlt : ((l.getD 11 0).toNat : Int) ≤ (l.length : Int) - 12 := by omega
  have hl12 : (12 : Int) ≤ (l.length : Int) := by omega
  have hx := (l.getD 11 0).toNat_lt
  have hg1 := fun w h => rgetFour_any (.slice (some ⟨b, off, none⟩) l.length c) l 1 w h
  have hg5 := fun w h => rgetFour_any (.slice (some ⟨b, off, none⟩) l.length c) l 5 w h
  have hg9 := fun w h => rgetTwo_any (.slice (some ⟨b, off, none⟩) l.length c) l 9 w h
  have e1 := (get_yes' l 1 4 (by omega)).2
  have e5 := (get_yes' l 5 4 (by omega)).2
  have e9 := (get_yes' l 9 2 (by omega)).2
  have n1 := getN_lt l 1 4
  have n5 := getN_lt l 5 4
  have n9 := getN_lt l 9 2
  simp only [Int.cast_ofNat_Int] at e1 e5 e9
  rw [e1] at hg1
  rw [e5] at hg5
  rw [e9] at hg9
  have hraw : rawI l = ⟨⟨l.getD 0 0, UInt32.ofNat (getN l 1 4), UInt32.ofNat (getN l 5 4)⟩, (getN l 9 2 : Nat), (l.drop 12).take (l.getD 11 0).toNat⟩ := rfl
  have hrI : readI l = if mayI (rawI l) then rawI l else zeroI := by unfold readI readOk lenOk; rw [decide_eq_true hn]; rfl
  have hrN : readN l = if mayI (rawI l) then 12 + (l.getD 11 0).toNat else 0 := by unfold readN readOk lenOk; rw [decide_eq_true hn]; rfl
  have hrO : readOk l = mayI (rawI l) := by unfold readOk lenOk; rw [decide_eq_true hn]; rfl
  generalize getN l 1 4 = i1 at *
  generalize getN l 5 4 = i5 at *
  generalize getN l 9 2 = i9 at *
  generalize l.getD 11 0 = x at *
  generalize l.getD 0 0 = k at *
  generalize rawI l = R at *
  generalize readI l = RI at *
  generalize readN l = RN at *
  generalize readOk l = RO at *
  have d1 : decide ((l.length : Int) < 12) = false := by simp only [decide_eq_false_iff_not]; omega
  have d2 : decide ((l.length : Int) - 12 < (x.toNat : Int)) = false := by simp only [decide_eq_false_iff_not]; omega
  unfold maxLen at g3
  have HG := Lib.hid (And.intro hg1 (And.intro hg5 hg9))
  have HX := Lib.hid hvx
  have HF := Lib.hid (And.intro hraw (And.intro hrI (And.intro hrN hrO)))
  have HN := Lib.hid (And.intro n1 (And.intro n5 n9))
  simp only [bV, Nat.add_zero] at c11 c0
  clear hg1 hg5 hg9 hvx hraw hrI hrN hrO n1 n5 n9 e1 e5 e9 g4 hn hv
  go_enter Try.func111, Try.ntmps111
  go_wp2_with fail
  refine (HG.out.1 _ (HX.out _ _)).mono ?_
  rintro e w1 ⟨rfl, rfl⟩
  go_wp2_with fail
  refine (HG.out.2.1 _ (HX.out _ _)).mono ?_
  rintro e w1 ⟨rfl, rfl⟩
  go_wp2_with fail
  refine (HG.out.2.2 _ (HX.out _ _)).mono ?_
  rintro e w1 ⟨rfl, rfl⟩
  go_wp2_with fail
  have hBW := ((Below.refl w.heap.size w).alloc (Nat.le_refl _) (.cells #[.int .u8 0, .int .u32 0, .int .u32 0, .int .i64 0, .slice none 0 0] 97)).alloc (by simp) (.cells #[.int .u8 (k.toNat : Int), .int .u32 (i1 : Int), .int .u32 (i5 : Int), .int .i64 (i9 : Int), .slice none 0 0] 97)
  have hVW := HX.out (.cells #[.int .u8 0, .int .u32 0, .int .u32 0, .int .i64 0, .slice none 0 0] 97) (.cells #[.int .u8 (k.toNat : Int), .int .u32 (i1 : Int), .int .u32 (i5 : Int), .int .i64 (i9 : Int), .slice none 0 0] 97)
  have hq := two_new w (.cells #[.int .u8 0, .int .u32 0, .int .u32 0, .int .i64 0, .slice none 0 0] 97) (.cells #[.int .u8 (k.toNat : Int), .int .u32 (i1 : Int), .int .u32 (i5 : Int), .int .i64 (i9 : Int), .slice none 0 0] 97)
  obtain ⟨W, hW⟩ : ∃ W, (w.alloc (.cells #[.int .u8 0, .int .u32 0, .int .u32 0, .int .i64 0, .slice none 0 0] 97)).alloc (.cells #[.int .u8 (k.toNat : Int), .int .u32 (i1 : Int), .int .u32 (i5 : Int), .int .i64 (i9 : Int), .slice none 0 0] 97) = W := ⟨_, rfl⟩
  have hz : W.heap.size = w.heap.size + 2 := by rw [← hW]; simp
  rw [hW] at hBW hVW hq ⊢
  obtain ⟨q1, q2⟩ := hq
  have c5 := blk_cell q2 4
  simp at c5
  obtain ⟨A, hsl, hcut0⟩ := cut_run b off l.length c 12 (12 + x.toNat) 12 (12 + (x.toNat : Int)) rfl (by omega) (by omega) (by omega) (by unfold maxLen; omega)
  have hcut := hcut0 W _ _ l hVW (by omega)
  rw [Nat.add_sub_cancel_left] at hcut
  simp only [Nat.add_sub_cancel_left] at hsl
  clear hcut0
  have hmay : ∀ w1 u, Bytes w1 0 w1.heap.size u (List.take x.toNat (List.drop 12 l)) → Calls Try.prog 97 #[.agg #[.int .u8 (k.toNat : Int), .int .u32 (i1 : Int), .int .u32 (i5 : Int), .int .i64 (i9 : Int), u]] w1 fun e w' => e = .returned (.bool (mayI R)) ∧ Below w1.heap.size w1 w' := fun w1 u hu => by
    have h := rmay_any R u w1 (by rw [HF.out.1]; exact hu)
    have e1 : itemV R u = .agg #[.int .u8 (k.toNat : Int), .int .u32 (i1 : Int), .int .u32 (i5 : Int), .int .i64 (i9 : Int), u] := by
      rw [HF.out.1, wV_of i1 HN.out.1, wV_of i5 HN.out.2.1]
      rfl
    rw [← e1]
    exact h
  have hvl : (List.take x.toNat (List.drop 12 l)).length = x.toNat := by simp; omega
  generalize List.take x.toNat (List.drop 12 l) = val at *
  have Hmay := Lib.hid hmay
  have HQ := Lib.hid (And.intro (show W.drew.heap[w.heap.size]? = _ from q1) (And.intro (show W.drew.heap[w.heap.size + 1]? = _ from q2) (And.intro hBW.drew (And.intro (show W.drew.heap.size = _ from hz) hvl))))
  have Hcut := Lib.hid (hcut.step ((Below.refl W.heap.size W).drew))
  clear hmay q1 q2 hBW hz hW hVW hcut HX HG c0 c11 hvl d1 d2
  have i1' : (12 : Int) ≤ 12 + (x.toNat : Int) := by omega
  have i2' : 12 + (x.toNat : Int) ≤ (c : Int) := by omega
  refine wp_region_tail 5 (by kernel_rfl) (by kernel_rfl) ?_
  simp only [List.take_succ_cons, List.take_zero, List.drop_succ_cons, List.drop_zero]
  repeat still_step
  refine wpStill_nil ?_
  generalize W.drew = V at *
  go_wp2_with (
    at_builtin
    refine wpList_appB rfl _ _ 26 rfl V.heap.size 5 Try.underlying26 info_u8 _ [] rfl (OwnB.nil_ _ _ _) 0 V.heap.size _ val rfl Hcut.out (by have := HQ.out.2.2.2.2; simp; omega) (Nat.le_refl _) ?_
    intro u w1 hown1 hB1
    rw [List.nil_append] at hown1
    have hm := hown1.made hB1
    obtain ⟨q1, q2, hBW, hz, hvl⟩ := HQ.out
    have p1 := (hB1.block w.heap.size (by omega)).trans q1
    have p2 := (hB1.block (w.heap.size + 1) (by omega)).trans q2
    have hB2 := below_step hBW hBW.size hB1
    obtain ⟨ua, uc, rfl, u1, u2⟩ := hm.bytes.form hvl
    have a0 := blk_cell p2 0
    have a1 := blk_cell p2 1
    have a2 := blk_cell p2 2
    have a3 := blk_cell p2 3
    have a4 := blk_cell p2 4
    have f4 := blk_frozen p2 4
    simp at a0 a1 a2 a3 a4
    have HP := Lib.hid (And.intro p1 (And.intro p2 (And.intro hB2 (And.intro hm hz))))
    clear p1 p2 q1 q2 hBW hz hvl hB1 hB2 hown1 hm c5 hsl)
  obtain ⟨p1, p2, hB1, hm, hz⟩ := HP.out
  have p1' : (w1.setCell ⟨w.heap.size + 1, 4, none⟩ (.slice ua x.toNat uc)).heap[w.heap.size]? = _ := (Below.heap_setCell w1 ⟨w.heap.size + 1, 4, none⟩ (.slice ua x.toNat uc) w.heap.size (by simp)).trans p1
  have p2' := set_block p2 4 (.slice ua x.toNat uc)
  simp only [List.setIfInBounds_toArray, List.set_cons_succ, List.set_cons_zero] at p2'
  have hB2 := hB1.setCell (p := ⟨w.heap.size + 1, 4, none⟩) (Nat.le_succ _) (.slice ua x.toNat uc)
  have hb2 := hm.bytes.setOff (g := w.heap.size + 1) (i := 4) (u := .slice ua x.toNat uc) (.inl (by omega))
  have ht2 := hm.thawed.set ⟨w.heap.size + 1, 4, none⟩ (.slice ua x.toNat uc)
  have hs2 : (w1.setCell ⟨w.heap.size + 1, 4, none⟩ (.slice ua x.toNat uc)).heap.size = w1.heap.size := by simp
  clear p1 p2 hB1 hm a0 a1 a2 a3 a4 f4 HP
  generalize w1.setCell ⟨w.heap.size + 1, 4, none⟩ (.slice ua x.toNat uc) = w2 at *
  rw [← hs2] at hb2
  refine (Hmay.out _ _ hb2.all0).mono ?_
  rintro e w3 ⟨rfl, hb3⟩
  have q1 := (hb3.block w.heap.size (by have := (Array.getElem?_eq_some_iff.1 p1').1; omega)).trans p1'
  have q2 := (hb3.block (w.heap.size + 1) (by have := (Array.getElem?_eq_some_iff.1 p2').1; omega)).trans p2'
  have hB3 := below_step hB2 hB2.size hb3
  have hb := hb2.below hb3 (Nat.le_refl _)
  have ht := thawed_below hb2 ht2 hb3 (Nat.le_refl _)
  have hsz : w2.heap.size ≤ w3.heap.size := hb3.size
  clear p1' p2' hB2 hb2 ht2 hb3
  have d0 := blk_cell q1 0
  have d1 := blk_cell q1 1
  have d2 := blk_cell q1 2
  have d3 := blk_cell q1 3
  have d4 := blk_cell q1 4
  have e0 := blk_frozen q1 0
  have e1 := blk_frozen q1 1
  have e2 := blk_frozen q1 2
  have e3 := blk_frozen q1 3
  have e4 := blk_frozen q1 4
  have a0 := blk_cell q2 0
  have a1 := blk_cell q2 1
  have a2 := blk_cell q2 2
  have a3 := blk_cell q2 3
  have a4 := blk_cell q2 4
  simp at a0 a1 a2 a3 a4 d0 d1 d2 d3 d4
  have HW := Lib.hid (And.intro hB3 (And.intro hb (And.intro ht (And.intro hz hsz))))
  clear q1 q2 hB3 hb ht hz hsz hs2
  obtain ⟨hR, hRI, hRN, hRO⟩ := HF.out
  cases hmR : mayI R
  · rw [hmR] at hRI hRN hRO
    have e5 : itemV RI (.slice none 0 0) = .agg #[.int .u8 0, .int .u32 0, .int .u32 0, .int .i64 0, .slice none 0 0] := by rw [hRI]; rfl
    have e6 : (RN : Int) = 0 := by rw [hRN]; rfl
    have e7 : mayE RO = 8 := by rw [hRO]; rfl
    have e8 : RI.val = [] := by rw [hRI]; rfl
    have HE := Lib.hid (And.intro e5 (And.intro e6 (And.intro e7 e8)))
    clear hR hRI hRN hRO e5 e6 e7 e8 hmR
    go_wp2_with fail
    refine bodyPost_ret (v := .tuple #[.agg #[.int .u8 0, .int .u32 0, .int .u32 0, .int .i64 0, .slice none 0 0], .int .i64 0, .int .i64 8]) (by simp [results, Try.results111, go_sem, d0, d1, d2, d3, d4]) rfl ⟨.slice none 0 0, ?_, ?_⟩
    · rw [HE.out.1, HE.out.2.1, HE.out.2.2.1]
    · rw [HE.out.2.2.2]
      refine MadeB.nil_ ?_
      exact ((((HW.out.1.setCell (p := ⟨w.heap.size, 0, none⟩) (Nat.le_refl _) _).setCell (p := ⟨w.heap.size, 1, none⟩) (Nat.le_refl _) _).setCell (p := ⟨w.heap.size, 2, none⟩) (Nat.le_refl _) _).setCell (p := ⟨w.heap.size, 3, none⟩) (Nat.le_refl _) _).setCell (p := ⟨w.heap.size, 4, none⟩) (Nat.le_refl _) _
  · rw [hmR] at hRI hRN hRO
    have e5 : itemV RI (.slice ua x.toNat uc) = .agg #[.int .u8 (k.toNat : Int), .int .u32 (i1 : Int), .int .u32 (i5 : Int), .int .i64 (i9 : Int), .slice ua x.toNat uc] := by
      rw [hRI, if_pos rfl, hR, wV_of i1 HN.out.1, wV_of i5 HN.out.2.1]; rfl
    have e6 : (RN : Int) = 12 + (x.toNat : Int) := by rw [hRN, if_pos rfl]; omega
    have e7 : mayE RO = 0 := by rw [hRO]; rfl
    have e8 : RI.val = val := by rw [hRI, if_pos rfl, hR]
    have HE := Lib.hid (And.intro e5 (And.intro e6 (And.intro e7 e8)))
    clear hR hRI hRN hRO e5 e6 e7 e8 hmR
    go_wp2_with fail
    refine bodyPost_ret (v := .tuple #[.agg #[.int .u8 (k.toNat : Int), .int .u32 (i1 : Int), .int .u32 (i5 : Int), .int .i64 (i9 : Int), .slice ua x.toNat uc], .int .i64 (12 + (x.toNat : Int)), .int .i64 0]) (by simp [results, Try.results111, go_sem, d0, d1, d2, d3, d4]) rfl ⟨.slice ua x.toNat uc, ?_, ?_⟩
    · rw [HE.out.1, HE.out.2.1, HE.out.2.2.1]
    · rw [HE.out.2.2.2]
      obtain ⟨hB3, hb, ht, hz, hsz⟩ := HW.out
      have s1 : w.heap.size < V.heap.size := by omega
      refine ⟨?_, ?_, ?_⟩
      · refine Bytes.more (lo := V.heap.size) (hi := w2.heap.size) ?_ (by omega) (by simp; omega)
        exact ((((hb.setOff (.inl s1)).setOff (.inl s1)).setOff (.inl s1)).setOff (.inl s1)).setOff (.inl s1)
      · exact ((((ht.set _ _).set _ _).set _ _).set _ _).set _ _
      · exact ((((hB3.setCell (p := ⟨w.heap.size, 0, none⟩) (Nat.le_refl _) _).setCell (p := ⟨w.heap.size, 1, none⟩) (Nat.le_refl _) _).setCell (p := ⟨w.heap.size, 2, none⟩) (Nat.le_refl _) _).setCell (p := ⟨w.heap.size, 3, none⟩) (Nat.le_refl _) _).setCell (p := ⟨w.heap.size, 4, none⟩) (Nat.le_refl _) _

theorem rread_any (v : Value) (l : List UInt8) (w : World) (hv : Bytes w 0 w.heap.size v l) :
    Calls Try.prog 111 #[v] w fun e w' => ∃ u, e = .returned (.tuple #[itemV (readI l) u, .int .i64 (readN l), .int .i64 (mayE (readOk l))]) ∧ MadeB w w' u (readI l).val := by
  cases h : lenOk l
  · have h1 : readOk l = false := by unfold readOk; rw [h]; rfl
    have h2 : readI l = zeroI := by unfold readI; rw [h1]; rfl
    have h3 : readN l = 0 := by unfold readN; rw [h1]; rfl
    rw [h1, h2, h3]
    exact (rread_no v l w hv h).mono fun e w' ⟨he, hB⟩ => ⟨_, he, MadeB.nil_ hB⟩
  · exact rread_yes v l w hv h
end Go.Proofs.Ytkfgegdnpinbdaa

namespace Go.Proofs.Ytkfgegdnpinbdaa
open Go.RowKit

set_option maxRecDepth 100000 in
set_option maxHeartbeats 1000000 in
/-- (*dev.heap).clone. -/
theorem hclone_any (g gh o r : Nat) (L : List UInt8) (v : Value) (l : List UInt8) (lo hi : Nat) (w : World) (hrow : RowB w g 5 L) (hbox : w.heap[gh]? = some (.cells #[.slice (some ⟨g, o, none⟩) r r] 127 (0, 0)))
    (hne : g ≠ gh) (hv : Bytes w lo hi v l) (hl : l.length ≤ r) (hr : o + r ≤ L.length) :
    Calls Try.prog 91 #[.pointer (some ⟨gh, 0, none⟩), v] w fun e w' => e = .returned (.slice (some ⟨g, o, none⟩) l.length l.length) ∧ RowB w' g 5 (splice L o l) ∧
      (∃ o', (l.length < r → o' = o + l.length) ∧ o' ≤ L.length ∧ w'.heap[gh]? = some (.cells #[.slice (some ⟨g, o', none⟩) (r - l.length) (r - l.length)] 127 (0, 0))) ∧ Below (min g gh) w w' ∧ w'.heap.size = w.heap.size ∧ ∀ k, k ≠ g → k ≠ gh → w'.heap[k]? = w.heap[k]? := by
  have c0 := blk_cell hbox 0
  simp at c0
  go_enter Try.func91, Try.ntmps91
  go_upto_region 2 with (refine wpList_copyF rfl (.tmp 9) (.tmp 10) 127 26 rfl 5 Try.underlying127 info_u8 g o r r rfl L hrow lo hi v l rfl hv hl (by omega) ?_; intro w1 hrow1 hO)
  have hbox1 := (hO.2.2 gh (Ne.symm hne)).trans hbox
  have c1 := blk_cell hbox1 0
  have f1 := blk_frozen hbox1 0
  simp at c1
  have hw : ∀ x : Int, 0 ≤ x → x < 9223372036854775808 → IntKind.i64.wrap x = x := fun x h1 h2 => IntWalk.i64_in x (by omega)
  have HO := Lib.hid (And.intro hrow1 (And.intro hO hbox1))
  have e1 : (l.length : Int) ≤ r := by omega
  clear hw hrow1 hO hbox1 hrow hbox c0
  have hfin : ∀ u, RowB (w1.setCell ⟨gh, 0, none⟩ u) g 5 (splice L o l) ∧ (w1.setCell ⟨gh, 0, none⟩ u).heap[gh]? = some (.cells #[u] 127 (0, 0)) ∧ Below (min g gh) w (w1.setCell ⟨gh, 0, none⟩ u) ∧ (w1.setCell ⟨gh, 0, none⟩ u).heap.size = w.heap.size ∧ ∀ k, k ≠ g → k ≠ gh → (w1.setCell ⟨gh, 0, none⟩ u).heap[k]? = w.heap[k]? := by
    intro u
    obtain ⟨h1, ⟨h2, h3, h4⟩, h5⟩ := HO.out
    have hb : Below (min g gh) w (w1.setCell ⟨gh, 0, none⟩ u) := (h2.mono (Nat.min_le_left _ _)).setCell (p := ⟨gh, 0, none⟩) (Nat.min_le_right _ _) _
    have hoth : ∀ k, k ≠ gh → (w1.setCell ⟨gh, 0, none⟩ u).heap[k]? = w1.heap[k]? := fun k hk => by
      simp [World.setCell, Array.getElem?_modify, Ne.symm hk]
    refine ⟨(hoth g hne).trans h1, by rw [set_block h5]; rfl, hb, by rw [World.size_setCell]; exact h3, fun k k1 k2 => (hoth k k2).trans (h4 k k1)⟩
  have HF := Lib.hid hfin
  clear hfin HO
  rcases Nat.eq_or_lt_of_le hl with he | he
  · subst he
    go_wp2
    go_ret
    obtain ⟨q1, q2, q3, q4, q5⟩ := HF.out _
    exact ⟨rfl, q1, ⟨o, fun h => absurd h (Nat.lt_irrefl _), by omega, by simpa using q2⟩, q3, q4, q5⟩
  · have hne2 : ¬ r = l.length := by omega
    go_wp2
    go_ret
    obtain ⟨q1, q2, q3, q4, q5⟩ := HF.out _
    exact ⟨rfl, q1, ⟨o + l.length, fun _ => rfl, by omega, q2⟩, q3, q4, q5⟩

end Go.Proofs.Ytkfgegdnpinbdaa

namespace Go.Proofs.Ytkfgegdnpinbdaa
open Go.RowKit

theorem thawed_kept {w w' : World} {lo hi : Nat} {v : Value} {l : List UInt8} (h : Bytes w lo hi v l) (ht : Thawed w v) (hk : Kp lo hi w w') : Thawed w' v := by
  intro b off n c e i hi'
  obtain ⟨a, c', e', h1, h2, h3, h4⟩ := h
  subst e
  cases e'
  obtain ⟨b', off', ea, hlo, hhi, _⟩ := h3 (by omega)
  cases ea
  exact ((hk b (off + i) hlo hhi).2).trans (ht _ _ _ _ rfl i hi')
def rBytesT : Rd (List UInt8) where
  n := 1
  R w lo hi x f := ∃ v, f 0 = some v ∧ Bytes w lo hi v x ∧ Thawed w v
  keep hk h := by obtain ⟨v, h1, h2, h3⟩ := h; exact ⟨v, h1, h2.kept hk, thawed_kept h2 h3 hk⟩
  more h1 h2 h := by obtain ⟨v, g1, g2, g3⟩ := h; exact ⟨v, g1, g2.more h1 h2, g3⟩
  ext he h := by obtain ⟨v, g1, g2, g3⟩ := h; exact ⟨v, (he 0 (by decide)) ▸ g1, g2, g3⟩
def rWriteT : Rd WrL where
  n := 2
  R w lo hi x f := f 0 = some (.int .i64 x.at_) ∧ (Lit.int .i64 x.at_).wf = true ∧ ∃ v, f 1 = some v ∧ Bytes w lo hi v x.data ∧ Thawed w v
  keep hk h := by obtain ⟨g0, g1, v, h1, h2, h3⟩ := h; exact ⟨g0, g1, v, h1, h2.kept hk, thawed_kept h2 h3 hk⟩
  more h1 h2 h := by obtain ⟨g0, g1, v, k1, k2, k3⟩ := h; exact ⟨g0, g1, v, k1, k2.more h1 h2, k3⟩
  ext he h := by obtain ⟨g0, g1, v, k1, k2, k3⟩ := h; exact ⟨(he 0 (by decide)) ▸ g0, g1, v, (he 1 (by decide)) ▸ k1, k2, k3⟩
theorem Sl.imp {α : Type} {r r' : Rd α} {w : World} {lo hi : Nat} {v : Value} {l : List α} (h : Sl r w lo hi v l) (hn : r'.n = r.n) (hi' : ∀ x f, r.R w lo hi x f → r'.R w lo hi x f) : Sl r' w lo hi v l := by
  obtain ⟨a, c, e, h1, h2, h3, h4⟩ := h
  refine ⟨a, c, e, h1, h2, fun hp => ?_, h4⟩
  obtain ⟨b, off, ea, hlo, hhi, hc⟩ := h3 hp
  exact ⟨b, off, ea, hlo, hhi, fun i x hx => by rw [hn]; exact hi' _ _ (hc i x hx)⟩
/-- A disk whose bytes may be written. -/
def DiskT (w : World) (lo hi : Nat) (b u : Value) (d : DiskL) : Prop := Sl rBytesT w lo hi b d.blocks ∧ Sl rWriteT w lo hi u d.waits
theorem DiskT.v {w : World} {lo hi : Nat} {b u : Value} {d : DiskL} (h : DiskT w lo hi b u d) : DiskV w lo hi b u d :=
  ⟨h.1.imp rfl fun _ _ ⟨v, g1, g2, _⟩ => ⟨v, g1, g2⟩, h.2.imp rfl fun _ _ ⟨g0, g1, v, g2, g3, _⟩ => ⟨g0, g1, v, g2, g3⟩⟩
theorem DiskV.step {w w' : World} {lo : Nat} {b u : Value} {d : DiskL} (h : DiskV w lo w.heap.size b u d) (hb : Below w.heap.size w w') : DiskV w' lo w'.heap.size b u d := ⟨h.1.step hb, h.2.step hb⟩
theorem DiskT.below {w w' : World} {lo hi B : Nat} {b u : Value} {d : DiskL} (h : DiskT w lo hi b u d) (hb : Below B w w') (hB : hi ≤ B) : DiskT w' lo hi b u d := ⟨h.1.below hb hB, h.2.below hb hB⟩
theorem DiskT.more {w : World} {lo hi lo' hi' : Nat} {b u : Value} {d : DiskL} (h : DiskT w lo hi b u d) (h1 : lo' ≤ lo) (h2 : hi ≤ hi') : DiskT w lo' hi' b u d := ⟨h.1.more h1 h2, h.2.more h1 h2⟩
theorem DiskV.more {w : World} {lo hi lo' hi' : Nat} {b u : Value} {d : DiskL} (h : DiskV w lo hi b u d) (h1 : lo' ≤ lo) (h2 : hi ≤ hi') : DiskV w lo' hi' b u d := ⟨h.1.more h1 h2, h.2.more h1 h2⟩
theorem DiskV.nil_ (w : World) (lo hi : Nat) : DiskV w lo hi (.slice none 0 0) (.slice none 0 0) ⟨[], []⟩ := ⟨Sl.nil_ _ _ _, Sl.nil_ _ _ _⟩
theorem DiskT.nil_ (w : World) (lo hi : Nat) : DiskT w lo hi (.slice none 0 0) (.slice none 0 0) ⟨[], []⟩ := ⟨Sl.nil_ _ _ _, Sl.nil_ _ _ _⟩
/-- A disk that a call made. -/
structure MadeD (w w' : World) (b u : Value) (d : DiskL) : Prop where
  disk : DiskT w' w.heap.size w'.heap.size b u d
  below : Below w.heap.size w w'
theorem MadeD.nil_ {w w' : World} (h : Below w.heap.size w w') : MadeD w w' (.slice none 0 0) (.slice none 0 0) ⟨[], []⟩ := ⟨DiskT.nil_ _ _ _, h⟩
theorem MadeD.v0 {w w' : World} {b u : Value} {d : DiskL} (h : MadeD w w' b u d) : DiskV w' 0 w'.heap.size b u d := h.disk.v.more (Nat.zero_le _) (Nat.le_refl _)

theorem named_w {B : Nat} {a w : World} (_ : Below B a w) : ∃ v, v = w := ⟨_, rfl⟩

/-- Where the k-th list begins. -/
def posD (D : List (List UInt8)) (k : Nat) : Nat := (D.take k).flatten.length
/-- What is laid when k lists are laid. -/
def laid (D : List (List UInt8)) (k : Nat) : List UInt8 := (D.take k).flatten ++ List.replicate (D.flatten.length - posD D k) 0
theorem flat_split (D : List (List UInt8)) (k : Nat) : D.flatten = (D.take k).flatten ++ (D.drop k).flatten := by
  rw [← List.flatten_append, List.take_append_drop]
theorem flat_succ (D : List (List UInt8)) (k : Nat) (h : k < D.length) : (D.take (k + 1)).flatten = (D.take k).flatten ++ D.getD k [] := by
  rw [List.take_add_one, List.flatten_append]
  simp [h]
theorem posD_zero (D : List (List UInt8)) : posD D 0 = 0 := by simp [posD]
theorem posD_succ (D : List (List UInt8)) (k : Nat) (h : k < D.length) : posD D (k + 1) = posD D k + (D.getD k []).length := by
  unfold posD
  rw [flat_succ D k h, List.length_append]
theorem posD_le (D : List (List UInt8)) (k : Nat) : posD D k ≤ D.flatten.length := by
  have := congrArg List.length (flat_split D k)
  rw [List.length_append] at this
  unfold posD
  omega
theorem posD_all (D : List (List UInt8)) : posD D D.length = D.flatten.length := by simp [posD]
theorem laid_zero (D : List (List UInt8)) : laid D 0 = List.replicate D.flatten.length 0 := by simp [laid, posD]
theorem laid_length (D : List (List UInt8)) (k : Nat) : (laid D k).length = D.flatten.length := by
  have := posD_le D k
  unfold laid
  rw [List.length_append, List.length_replicate]
  unfold posD at *
  omega
theorem laid_all (D : List (List UInt8)) : laid D D.length = D.flatten := by simp [laid, posD_all]
theorem splice_laid (D : List (List UInt8)) (k o : Nat) (h : k < D.length) (ho : posD D k < D.flatten.length → o = posD D k) : splice (laid D k) o (D.getD k []) = laid D (k + 1) := by
  have h1 := posD_succ D k h
  have h2 := flat_succ D k h
  have h3 := posD_le D (k + 1)
  rcases Nat.eq_zero_or_pos (D.getD k []).length with h0 | h0
  · have e : D.getD k [] = [] := List.eq_nil_of_length_eq_zero h0
    rw [e] at h1 h2 ⊢
    simp only [List.length_nil, Nat.add_zero, List.append_nil] at h1 h2
    unfold laid
    rw [h1, h2]
    simp [splice]
  · obtain rfl := ho (by omega)
    unfold laid splice
    rw [h2, h1]
    have e1 : (D.take k).flatten.length = posD D k := rfl
    rw [List.take_left' e1, List.drop_append, e1, show posD D k + (D.getD k []).length - posD D k = (D.getD k []).length by omega, List.drop_eq_nil_of_le (by omega), List.nil_append, List.drop_replicate, List.append_assoc]
    congr 3
    omega
theorem cut_laid (D : List (List UInt8)) (j : Nat) (h : j < D.length) : (D.flatten.drop (posD D j)).take (D.getD j []).length = D.getD j [] := by
  rw [flat_split D j, show posD D j = (D.take j).flatten.length from rfl, List.drop_left]
  have e : D.getD j [] = D[j] := by simp [h]
  rw [List.drop_eq_getElem_cons h, List.flatten_cons, e, List.take_left]
/-- All the bytes of a disk. -/
def datD (d : DiskL) : List (List UInt8) := d.blocks ++ d.waits.map WrL.data
theorem datD_length (d : DiskL) : (datD d).length = d.blocks.length + d.waits.length := by simp [datD]
theorem datD_b (d : DiskL) (k : Nat) (h : k < d.blocks.length) : (datD d).getD k [] = d.blocks.getD k [] := by
  simp [datD, List.getElem?_append_left h]
theorem datD_w (d : DiskL) (k : Nat) (h : k < d.waits.length) : (datD d).getD (d.blocks.length + k) [] = (d.waits.getD k ⟨0, []⟩).data := by
  simp [datD, h]

/-- But for three blocks all that was there is as it was. -/
def Oth3 (a b c : Nat) (w w' : World) : Prop := w.heap.size ≤ w'.heap.size ∧ ∀ k, k < w.heap.size → k ≠ a → k ≠ b → k ≠ c → w'.heap[k]? = w.heap[k]?
theorem Oth3.refl (a b c : Nat) (w : World) : Oth3 a b c w w := ⟨Nat.le_refl _, fun _ _ _ _ _ => rfl⟩
theorem Oth3.trans {a b c : Nat} {w w1 w2 : World} (h : Oth3 a b c w w1) (k : Oth3 a b c w1 w2) : Oth3 a b c w w2 := ⟨Nat.le_trans h.1 k.1, fun x h0 h1 h2 h3 => (k.2 x (Nat.lt_of_lt_of_le h0 h.1) h1 h2 h3).trans (h.2 x h0 h1 h2 h3)⟩
theorem Oth3.of2 {a b c : Nat} {w w1 : World} (h : w1.heap.size = w.heap.size) (k : ∀ x, x ≠ a → x ≠ b → w1.heap[x]? = w.heap[x]?) : Oth3 a b c w w1 := ⟨Nat.le_of_eq h.symm, fun x _ h1 h2 _ => k x h1 h2⟩
theorem Oth3.ofB {a b c : Nat} {w w1 : World} (h : Below w.heap.size w w1) : Oth3 a b c w w1 := ⟨h.size, fun x h0 _ _ _ => h.block x h0⟩
theorem set_other (w : World) (c o : Nat) (u : Value) (k : Nat) (h : k ≠ c) : (w.setCell ⟨c, o, none⟩ u).heap[k]? = w.heap[k]? := by
  simp [World.setCell, Array.getElem?_modify, Ne.symm h]
theorem Oth3.set_ {a b c : Nat} (w : World) (o : Nat) (u : Value) : Oth3 a b c w (w.setCell ⟨c, o, none⟩ u) := ⟨Nat.le_of_eq (World.size_setCell _ _ _).symm, fun k _ _ _ h => set_other w c o u k h⟩
theorem heap_cell {w w' : World} {b : Nat} (h : w'.heap[b]? = w.heap[b]?) (o : Nat) : w'.cell? ⟨b, o, none⟩ = w.cell? ⟨b, o, none⟩ := by
  unfold World.cell?
  simp [h]
theorem heap_frozen {w w' : World} {b : Nat} (h : w'.heap[b]? = w.heap[b]?) (o : Nat) : w'.frozen? ⟨b, o, none⟩ = w.frozen? ⟨b, o, none⟩ := by
  unfold World.frozen?
  simp [h]
end Go.Proofs.Ytkfgegdnpinbdaa

