/- The contracts of Bytes, Write, Check, Same, Twin of the reference of layer 5. -/
import Derived.Test.YtldidclnfkmonaaRefI
import Derived.Deep.DeepCutAuto
namespace Go.Proofs.Ytldidclnfkmonaa
open Go.RowKit

theorem OwnB.step {base : Nat} {e : TypeId} {w w' : World} {v : Value} {l : List UInt8} (h : OwnB base e w v l) (hb : Below w.heap.size w w') : OwnB base e w' v l := by
  obtain ⟨h1, h2⟩ := h
  refine ⟨h1, ?_⟩
  rcases h2 with h2 | ⟨g, cap, cur, hv, hg, hh, r⟩
  · exact .inl h2
  · exact .inr ⟨g, cap, cur, hv, hg, (hb.block g (Array.getElem?_eq_some_iff.1 hh).1).trans hh, r⟩
theorem OwnB.le {base base' : Nat} {e : TypeId} {w : World} {v : Value} {l : List UInt8} (h : OwnB base e w v l) (hb : base' ≤ base) : OwnB base' e w v l :=
  ⟨h.1, h.2.elim Or.inl (fun ⟨g, cap, cur, hv, hg, r⟩ => Or.inr ⟨g, cap, cur, hv, Nat.le_trans hb hg, r⟩)⟩
theorem OwnB.one (w : World) (base : Nat) (e : TypeId) (h : base ≤ w.heap.size) (n : Int) (x : UInt8) (hx : Value.int .u8 n = bV x) : OwnB base e (w.alloc (.cells #[.int .u8 n] e)) (.slice (some ⟨w.heap.size, 0, none⟩) 1 1) [x] := by
  rw [hx]
  exact ⟨rfl, .inr ⟨w.heap.size, 1, _, rfl, h, World.alloc_heap_new w _, Nat.le_refl _, by unfold maxLen; omega, rfl, rfl⟩⟩
theorem one_new (w : World) (t : TypeId) (n : Int) (x : UInt8) (hx : Value.int .u8 n = bV x) : Bytes (w.alloc (.cells #[.int .u8 n] t)) w.heap.size (w.heap.size + 1) (.slice (some ⟨w.heap.size, 0, none⟩) 1 1) [x] := by
  rw [hx]
  exact Bytes.new w t [x] (by simp [maxLen]) (0, 0)
theorem one_block (w : World) (o : Obj) (W' : World) (h : Below (w.alloc o).heap.size (w.alloc o) W') : W'.heap[w.heap.size]? = some o :=
  (h.block w.heap.size (by simp)).trans (World.alloc_heap_new w o)
/-- The bytes of an item. -/
def itemB (x : ItemL) : List UInt8 := [x.key.kind] ++ fourL x.key.id.toNat ++ fourL x.key.off.toNat ++ twoL x.ref.toNat ++ [UInt8.ofNat x.val.length] ++ x.val
theorem itemB_length (x : ItemL) : (itemB x).length = 12 + x.val.length := by simp [itemB, fourL, twoL]; omega

set_option maxRecDepth 100000 in
set_option maxHeartbeats 1000000 in
theorem rbytes_any (x : ItemL) (v : Value) (w : World) (hv : Bytes w 0 w.heap.size v x.val) (h0 : 0 ≤ x.ref) (h1 : x.ref < 256) (hl : x.val.length ≤ 10000) :
    Calls Try.prog 63 #[itemV x v] w fun e w' => ∃ u, e = .returned u ∧ OwnB w.heap.size 5 w' u (itemB x) ∧ Below w.heap.size w w' := by
  have hB := (Below.refl w.heap.size w).alloc (Nat.le_refl _) (.cells #[bV x.key.kind, wV x.key.id, wV x.key.off, .int .i64 x.ref, v] 30)
  have hblk := one_block w (.cells #[bV x.key.kind, wV x.key.id, wV x.key.off, .int .i64 x.ref, v] 30)
  have hv0 := hv.step hB
  obtain ⟨W, hW⟩ : ∃ W, w.alloc (.cells #[bV x.key.kind, wV x.key.id, wV x.key.off, .int .i64 x.ref, v] 30) = W := ⟨_, rfl⟩
  have hfin : itemB x = [x.key.kind] ++ fourL x.key.id.toNat ++ fourL x.key.off.toNat ++ twoL x.ref.toNat ++ [UInt8.ofNat x.val.length] ++ x.val := rfl
  rw [hW] at hB hblk hv0
  have hz : W.heap.size = w.heap.size + 1 := by rw [← hW]; simp
  obtain ⟨a, c, rfl, g1, g2, -, -⟩ := hv
  obtain ⟨⟨k, i, o⟩, r, l⟩ := x
  obtain ⟨r, rfl⟩ := Int.eq_ofNat_of_zero_le h0
  simp only at *
  generalize itemB ⟨⟨k, i, o⟩, (r : Int), l⟩ = out at *
  simp only [itemV, bV, wV] at *
  have hc : ∀ W', Below W.heap.size W W' → W'.cell? ⟨w.heap.size, 0, none⟩ = some (.int .u8 k.toNat) ∧ W'.cell? ⟨w.heap.size, 1, none⟩ = some (.int .u32 i.toNat) ∧ W'.cell? ⟨w.heap.size, 2, none⟩ = some (.int .u32 o.toNat) ∧
      W'.cell? ⟨w.heap.size, 3, none⟩ = some (.int .i64 r) ∧ W'.cell? ⟨w.heap.size, 4, none⟩ = some (.slice a l.length c) := fun W' h =>
    ⟨blk_cell (hblk W' h) 0, blk_cell (hblk W' h) 1, blk_cell (hblk W' h) 2, blk_cell (hblk W' h) 3, blk_cell (hblk W' h) 4⟩
  have HC := Lib.hid (And.intro hc (And.intro hW (And.intro hz hfin)))
  have HV := Lib.hid hv0
  have HB := Lib.hid hB
  have hi := i.toNat_lt
  have ho := o.toNat_lt
  clear hc hW hfin hblk hz h0 hv0 hB
  obtain ⟨c0, c1, c2, c3, c4⟩ := HC.out.1 W (Below.refl _ _)
  have hB0 := (Below.refl W.heap.size W)
  go_enter Try.func63, Try.ntmps63
  go_upto_region 1 with (fail)
  rw [HC.out.2.1]
  go_upto_region 2 with (fail)
  have own1 := OwnB.one W W.heap.size 5 (Nat.le_refl _) k.toNat k rfl
  have hB1 : Below W.heap.size W (W.alloc (.cells #[.int .u8 (k.toNat : Int)] 5)) := hB0.alloc (Nat.le_refl _) _
  clear c0 c1 c2 c3 c4 hB0
  generalize W.alloc (.cells #[.int .u8 (k.toNat : Int)] 5) = w1 at *
  obtain ⟨-, c1, -, -, -⟩ := HC.out.1 w1 hB1
  go_wp2_with fail
  refine (rfour_own _ w1 (by omega)).mono ?_
  rintro e w2 ⟨v2, rfl, hown, hb2⟩
  have own2 := own1.step hb2
  have hB2 := hB1.trans (hb2.mono hB1.size)
  have src := hown.bytes.all0
  clear own1 hown hb2 hB1 c1
  obtain ⟨Li, hLi⟩ : ∃ x, fourL i.toNat = x := ⟨_, rfl⟩
  obtain ⟨Lo, hLo⟩ : ∃ x, fourL o.toNat = x := ⟨_, rfl⟩
  obtain ⟨Lr, hLr⟩ : ∃ x, twoL r = x := ⟨_, rfl⟩
  have HL := Lib.hid (And.intro hLi (And.intro hLo hLr))
  have HH := Lib.hid (And.intro (show Li.length = 4 by rw [← hLi]; rfl) (And.intro (show Lo.length = 4 by rw [← hLo]; rfl) (show Lr.length = 2 by rw [← hLr]; rfl)))
  rw [hLi] at src
  clear hLi hLo hLr
  obtain ⟨va, vc, rfl, -, -⟩ := src.form HH.out.1
  go_wp2_with (at_builtin; refine wpList_appB rfl _ _ 28 rfl W.heap.size 5 Try.underlying28 info_u8 _ [k] rfl own2 0 w2.heap.size _ Li rfl src (by have := HH.out.1; simp; omega) hB2.size ?_; intro v3 w3 own3 hb3; have hB3 := hB2.trans hb3; obtain ⟨-, -, c2, -, -⟩ := HC.out.1 w3 hB3; clear own2 src hb3 hB2)
  have hc4 := rfour_own o.toNat w3 (by omega)
  rw [HL.out.2.1] at hc4
  refine hc4.mono ?_
  clear hc4
  rintro e w4 ⟨v4, rfl, hown, hb4⟩
  have own4 := own3.step hb4
  have hB4 := hB3.trans (hb4.mono hB3.size)
  have src := hown.bytes.all0
  clear own3 hown hb4 hB3 c2
  obtain ⟨va, vc, rfl, -, -⟩ := src.form HH.out.2.1
  go_wp2_with (at_builtin; refine wpList_appB rfl _ _ 28 rfl W.heap.size 5 Try.underlying28 info_u8 _ ([k] ++ Li) rfl own4 0 w4.heap.size _ Lo rfl src (by have := HH.out; simp; omega) hB4.size ?_; intro v5 w5 own5 hb5; have hB5 := hB4.trans hb5; obtain ⟨-, -, -, c3, -⟩ := HC.out.1 w5 hB5; clear own4 src hb5 hB4)
  have hc6 := bytes_own r 2 w5 (by omega) (by omega)
  rw [bytesL_two, HL.out.2.2] at hc6
  refine hc6.mono ?_
  clear hc6
  rintro e w6 ⟨v6, rfl, hown, hb6⟩
  have own6 := own5.step hb6
  have hB6 := hB5.trans (hb6.mono hB5.size)
  have src := hown.bytes.all0
  clear own5 hown hb6 hB5 c3
  obtain ⟨va, vc, rfl, -, -⟩ := src.form HH.out.2.2
  go_upto_region 5 with (at_builtin; refine wpList_appB rfl _ _ 28 rfl W.heap.size 5 Try.underlying28 info_u8 _ ([k] ++ Li ++ Lo) rfl own6 0 w6.heap.size _ Lr rfl src (by have := HH.out; simp; omega) hB6.size ?_; intro v7 w7 own7 hb7; have hB7 := hB6.trans hb7; obtain ⟨-, -, -, -, c4⟩ := HC.out.1 w7 hB7; clear own6 src hb7 hB6)
  have hlen : Value.int .u8 ((l.length : Int) % 256) = bV (UInt8.ofNat l.length) := by simp [bV]
  have Hlen := Lib.hid hlen
  clear hlen
  go_upto_region 6 with (at_builtin; refine wpList_appB rfl _ _ 28 rfl W.heap.size 5 Try.underlying28 info_u8 _ ([k] ++ Li ++ Lo ++ Lr) rfl (own7.alloc _) w7.heap.size (w7.heap.size + 1) _ [UInt8.ofNat l.length] rfl (one_new w7 _ _ _ Hlen.out) (by have := HH.out; simp; omega) (by have := hB7.size; simp; omega) ?_; intro v8 w8 own8 hb8; have hB8 := (hB7.alloc hB7.size _).trans hb8; obtain ⟨-, -, -, -, c4⟩ := HC.out.1 w8 hB8; clear own7 hB7 hb8)
  have hv8 := HV.out.below hB8 (Nat.le_refl _)
  go_wp2_with (at_builtin; refine wpList_appB rfl _ _ 28 rfl W.heap.size 5 Try.underlying28 info_u8 _ ([k] ++ Li ++ Lo ++ Lr ++ [UInt8.ofNat l.length]) rfl own8 0 W.heap.size _ l rfl hv8 (by have := HH.out; simp; omega) hB8.size ?_; intro v9 w9 own9 hb9)
  go_ret
  refine ⟨_, rfl, ?_, HB.out.trans ((hB8.trans hb9).mono HB.out.size)⟩
  have hf := HC.out.2.2.2
  rw [HL.out.1, HL.out.2.1, Int.toNat_natCast, HL.out.2.2] at hf
  rw [hf]
  exact own9.le HB.out.size
end Go.Proofs.Ytldidclnfkmonaa
