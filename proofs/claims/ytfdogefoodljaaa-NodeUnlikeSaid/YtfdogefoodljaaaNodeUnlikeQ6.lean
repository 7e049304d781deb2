/- NodeUnlike: the words and contracts, part 6. -/
import Derived.Test.YtfdogefoodljaaaNodeUnlikeQ1
import Derived.Test.YtfdogefoodljaaaNodeUnlikeQ2
import Derived.Test.YtfdogefoodljaaaNodeUnlikeQ3
import Derived.Test.YtfdogefoodljaaaNodeUnlikeQ4
import Derived.Test.YtfdogefoodljaaaNodeUnlikeQ5
import Derived.Test.YtfdogefoodljaaaChecked
import Derived.WalkKit
import Derived.WalkLawsBesides
import Derived.WalkSpells
import Derived.Lib.Hide
import Derived.Laws.Rows
import Derived.Laws.AppendOwnNone
import Derived.Maps.AppendAt
import Derived.ProofKit
import Derived.Deep.Slices
import Derived.WideShapes
import Derived.OpenShut
import Derived.RangeFuncNested
import Derived.RangeFuncBound
import Derived.RangeFuncCalls
import Derived.RangeFuncLeaves
import Derived.RangeFuncBox
import Derived.Shelf.Abstract
import Derived.Shelf.RegionOpen
import Derived.OwnWalkIn
import Derived.TacticsInMore
import Derived.LoopNIn
import Derived.LoopIn
import Derived.OrdersHeld
import Derived.Deep.QuietTactic
import Derived.BigQuiet
import Derived.StillTailTactics
import Derived.Lib.SliceRun
import Derived.Lib.AppendZerosOnto
import Derived.Lib.Walk
import Derived.Deep.LoopGhost
import Derived.Laws.CopyOwn
namespace Go.Proofs.Ytfdogefoodljaaa
open Go.RowKit Go.ChangeShapes Go.WideShapes Go.Deep

/-- The fields of a struct: where each begins, and its type. -/
def fieldsOf (P : Program) (t : TypeId) : Option (List (Nat × TypeId)) :=
  match P.underlying t with
  | some (.struct fs) => some (fs.toList.map fun f => (f.offset, f.type))
  | _ => none

section
variable {H : Type} {enc : TypeId × Value → H} {P : Program} {w : World} {base : Nat} {spare : Nat → Bool} {held : Bool} {fuel : Nat} {t : TypeId} {cs : List Value} {x : DataW H × List MemPlace}
theorem trod_parts {l : List (Nat × TypeId)} (ht : fieldsOf P t = some l) (h : DataW.trod enc P w base spare held fuel t cs = some x) :
    cs.length = P.cellsOf t ∧ ∃ n, ∀ f ∈ l, ∃ y, DataW.trod enc P w base spare held n f.2 ((cs.drop f.1).take (P.cellsOf f.2)) = some y := by
  unfold fieldsOf at ht
  split at ht
  · rename_i fs hu
    cases ht
    obtain ⟨h1, n, h2⟩ := trod_fields hu h
    refine ⟨h1, n, fun f hf => ?_⟩
    obtain ⟨g, hg, rfl⟩ := List.mem_map.1 hf
    exact h2 g hg
  · cases ht
theorem okW_struct {r : Reach} {v : Value} {l : List (Nat × TypeId)} (ht : fieldsOf P t = some l) (h : Value.okWide P w r base t v) : ∃ cs, v = .agg cs ∧ cs.size = P.cellsOf t := by
  unfold fieldsOf at ht
  split at ht
  · rename_i fs hu
    exact okWide_struct hu h
  · cases ht
end

def rU8 : Rd UInt8 where
  n := 1
  R _ _ _ x f := f 0 = some (bV x)
  keep _ h := h
  more _ _ h := h
  ext he h := (he 0 (by decide)) ▸ h
theorem Sl.bytes {w : World} {lo hi : Nat} {v : Value} {l : List UInt8} (h : Sl rU8 w lo hi v l) : Bytes w lo hi v l := by
  obtain ⟨a, c, e, h1, h2, h3, h4⟩ := h
  refine ⟨a, c, e, h1, h2, fun hp => ?_, h4⟩
  obtain ⟨b, off, ea, hlo, hhi, hc⟩ := h3 hp
  refine ⟨b, off, ea, hlo, hhi, fun i x hx => ?_⟩
  have := hc i x hx
  simpa [rU8] using this
theorem u8_of {n : Int} (h : (Lit.int .u8 n).wf = true) : ∃ x : UInt8, Value.int .u8 n = bV x := by
  obtain ⟨h1, h2⟩ := bounds_u8 h
  refine ⟨UInt8.ofNat n.toNat, ?_⟩
  simp [bV]
  omega
theorem u32_of {n : Int} (h : (Lit.int .u32 n).wf = true) : ∃ x : UInt32, Value.int .u32 n = wV x := by
  obtain ⟨h1, h2⟩ := bounds_u32 h
  refine ⟨UInt32.ofNat n.toNat, ?_⟩
  simp [wV]
  omega

section
variable {P : Program} {e : TypeId}
theorem opens_u8 (he : P.underlying e = some (.int .u8)) : Opens P e rU8 := fun h _ => by
  obtain ⟨n, rfl, _, hw⟩ := DataW.trod_int he h
  obtain ⟨x, hx⟩ := u8_of hw
  exact ⟨x, by rw [hx]; rfl⟩
variable {H : Type} {enc : TypeId × Value → H} {w : World} {base : Nat} {spare : Nat → Bool} {held : Bool} {fuel : Nat} {t : TypeId} {cs : List Value} {x : DataW H × List MemPlace}
theorem open_bytes (ht : P.underlying t = some (.slice e)) (he : P.underlying e = some (.int .u8)) (hc : P.cellsOf e = 1) (h : DataW.trod enc P w base spare held fuel t cs = some x) :
    ∃ v l, cs = [v] ∧ Bytes w 0 w.heap.size v l := by
  obtain ⟨v, l, h1, h2⟩ := open_sl (r := rU8) ht hc (by decide) (opens_u8 he) h
  exact ⟨v, l, h1, h2.bytes⟩
theorem open_key {tk t8 t32 : TypeId} (ht : fieldsOf P tk = some [(0, t8), (1, t32), (2, t32)]) (h8 : P.underlying t8 = some (.int .u8)) (h32 : P.underlying t32 = some (.int .u32)) (c8 : P.cellsOf t8 = 1) (c32 : P.cellsOf t32 = 1) (ck : P.cellsOf tk = 3)
    (h : DataW.trod enc P w base spare held fuel tk cs = some x) : ∃ k : KeyL, cs = [bV k.kind, wV k.id, wV k.off] := by
  obtain ⟨hl, n, hf⟩ := trod_parts ht h
  obtain ⟨y0, h0⟩ := hf (0, t8) (by simp)
  obtain ⟨y1, h1⟩ := hf (1, t32) (by simp)
  obtain ⟨y2, h2⟩ := hf (2, t32) (by simp)
  dsimp only at h0 h1 h2
  rw [c8] at h0
  rw [c32] at h1 h2
  rw [ck] at hl
  obtain ⟨k0, e0, _, w0⟩ := DataW.trod_int h8 h0
  obtain ⟨k1, e1, _, w1⟩ := DataW.trod_int h32 h1
  obtain ⟨k2, e2, _, w2⟩ := DataW.trod_int h32 h2
  obtain ⟨x0, g0⟩ := u8_of w0
  obtain ⟨x1, g1⟩ := u32_of w1
  obtain ⟨x2, g2⟩ := u32_of w2
  match cs, hl with
  | [c0, c1, c2], _ =>
    simp at e0 e1 e2
    subst e0 e1 e2
    rw [g0, g1, g2]
    exact ⟨⟨x0, x1, x2⟩, rfl⟩
theorem open_item {tk t8 t32 ti tb u : TypeId} (ht : fieldsOf P e = some [(0, tk), (3, ti), (4, tb)]) (hk : fieldsOf P tk = some [(0, t8), (1, t32), (2, t32)]) (h8 : P.underlying t8 = some (.int .u8)) (h32 : P.underlying t32 = some (.int .u32)) (c8 : P.cellsOf t8 = 1) (c32 : P.cellsOf t32 = 1) (ck : P.cellsOf tk = 3)
    (hi : P.underlying ti = some (.int .i64)) (hci : P.cellsOf ti = 1) (hcb : P.cellsOf tb = 1) (ce : P.cellsOf e = 5)
    (hb : P.underlying tb = some (.slice u)) (hu : P.underlying u = some (.int .u8)) (hc : P.cellsOf u = 1) (h : DataW.trod enc P w base spare held fuel e cs = some x) :
    ∃ (k : KeyL) (n : Int) (v : Value) (l : List UInt8), cs = [bV k.kind, wV k.id, wV k.off, .int .i64 n, v] ∧ (Lit.int .i64 n).wf = true ∧ Bytes w 0 w.heap.size v l := by
  obtain ⟨hl, n, hf⟩ := trod_parts ht h
  obtain ⟨y0, h0⟩ := hf (0, tk) (by simp)
  obtain ⟨y1, h1⟩ := hf (3, ti) (by simp)
  obtain ⟨y2, h2⟩ := hf (4, tb) (by simp)
  dsimp only at h0 h1 h2
  rw [ck] at h0
  rw [hci] at h1
  rw [hcb] at h2
  rw [ce] at hl
  obtain ⟨k, e0⟩ := open_key hk h8 h32 c8 c32 ck h0
  obtain ⟨m, e1, _, hw⟩ := DataW.trod_int hi h1
  obtain ⟨v, l, e2, hB⟩ := open_bytes hb hu hc h2
  match cs, hl with
  | [c0, c1, c2, c3, c4], _ =>
    simp at e0 e1 e2
    obtain ⟨rfl, rfl, rfl⟩ := e0
    subst e1 e2
    exact ⟨k, m, _, l, rfl, hw, hB⟩
theorem opens_item {tk t8 t32 ti tb u : TypeId} (ht : fieldsOf P e = some [(0, tk), (3, ti), (4, tb)]) (hk : fieldsOf P tk = some [(0, t8), (1, t32), (2, t32)]) (h8 : P.underlying t8 = some (.int .u8)) (h32 : P.underlying t32 = some (.int .u32)) (c8 : P.cellsOf t8 = 1) (c32 : P.cellsOf t32 = 1) (ck : P.cellsOf tk = 3)
    (hi : P.underlying ti = some (.int .i64)) (hci : P.cellsOf ti = 1) (hcb : P.cellsOf tb = 1) (ce : P.cellsOf e = 5)
    (hb : P.underlying tb = some (.slice u)) (hu : P.underlying u = some (.int .u8)) (hc : P.cellsOf u = 1) : Opens P e rItem := fun h _ => by
  obtain ⟨k, n, v, l, rfl, hw, hB⟩ := open_item ht hk h8 h32 c8 c32 ck hi hci hcb ce hb hu hc h
  exact ⟨⟨k, n, l⟩, rfl, rfl, rfl, rfl, hw, v, rfl, hB⟩
end
end Go.Proofs.Ytfdogefoodljaaa

namespace Go.Proofs.Ytfdogefoodljaaa
open Go.RowKit

theorem OwnB.empty (w : World) (base : Nat) (e : TypeId) (h : base ≤ w.heap.size) : OwnB base e (w.alloc (.cells #[] e)) (.slice (some ⟨w.heap.size, 0, none⟩) 0 0) [] :=
  ⟨rfl, .inr ⟨w.heap.size, 0, #[], rfl, h, World.alloc_heap_new w _, Nat.le_refl _, Nat.zero_le _, rfl, rfl⟩⟩
set_option maxRecDepth 100000 in
/-- bytes.Clone. -/
theorem bclone_any (v : Value) (l : List UInt8) (w : World) (hI : Bytes w 0 w.heap.size v l) (hl : l.length ≤ 1000000000) :
    Calls Try.prog 90 #[v] w fun e w' => ∃ u, e = .returned u ∧ MadeB w w' u l := by
  obtain ⟨a, c, rfl, g1, g2, g3, g4⟩ := id hI
  clear g3
  have hnil := fun (w : World) (a : Option Addr) (n c n' c' : Nat) => Lib.run_eql_slice_nil (P := Try.prog) w 22 5 a n c n' c' Try.underlying22
  rcases a with _ | a
  · have hc := g4 rfl
    subst hc
    have : l = [] := List.eq_nil_of_length_eq_zero (by omega)
    subst this
    go_enter Try.func90, Try.ntmps90
    go_wp2
    go_ret
    exact ⟨_, rfl, MadeB.nil_ (Below.refl _ _)⟩
  · have hI1 := hI.step ((Below.refl w.heap.size w).alloc (Nat.le_refl _) (.cells #[] 5))
    have hown := OwnB.empty w w.heap.size 5 (Nat.le_refl _)
    go_enter Try.func90, Try.ntmps90
    go_wp2_with (at_builtin; refine wpList_appB rfl _ _ 22 rfl w.heap.size 5 Try.underlying22 info_u8 _ [] rfl hown _ _ _ l rfl hI1 (by simp; omega) (by simp) ?_; intro v1 w1 hown1 hB1)
    go_ret
    exact ⟨_, rfl, hown1.made (((Below.refl w.heap.size w).alloc (Nat.le_refl _) _).trans hB1)⟩
theorem cv_of {w : World} {lo hi : Nat} {v : Value} {l : List UInt8} (h : Bytes w lo hi v l) : (convert 22 9 v).run Try.prog w = .ok (.string ⟨l.toArray⟩) w :=
  conv_bytes (P := Try.prog) h 22 9 5 Try.underlying22 Try.underlying5 Try.underlying9
/-- bytes.Equal. -/
theorem bequal_any (v u : Value) (l m : List UInt8) (w : World) (lo hi lo' hi' : Nat) (hv : Bytes w lo hi v l) (hu : Bytes w lo' hi' u m) :
    Calls Try.prog 103 #[v, u] w fun e w' => e = .returned (.bool (decide (l = m))) ∧ w' = w := by
  have c1 := cv_of hv
  have c2 := cv_of hu
  have hq : (l == m) = decide (l = m) := by rw [Bool.eq_iff_iff]; simp
  have Hq := Lib.hid hq
  clear hq
  obtain ⟨a, c, rfl, _⟩ := hv
  obtain ⟨a', c', rfl, _⟩ := hu
  go_enter Try.func103, Try.ntmps103
  go_wp2
  go_ret
  exact ⟨by rw [← Hq.out]; rfl, rfl⟩

theorem eq_key (a b : KeyL) (w : World) : (Op.equalIn 10000 65 (keyV a) (keyV b)).run Try.prog w = .ok (decide (a = b)) w := by
  have u3 := Try.underlying5
  have a3 := Try.isAgg5
  have z3 := Try.sizeOf5
  have u4 := Try.underlying42
  have a4 := Try.isAgg42
  have z4 := Try.sizeOf42
  have hS : Try.prog.underlying 65 = some (.struct (Try.prog.fieldsOf 65)) := by kernel_rfl
  have hp : Try.prog.stoodInHeld 65 = false := by kernel_rfl
  obtain ⟨k1, i1, o1⟩ := a
  obtain ⟨k2, i2, o2⟩ := b
  simp only [keyV, bV, wV]
  rw [show (10000 : Nat) = 9999 + 1 from rfl, run_equalIn_agg w 9999 65 _ _ hS hp]
  simp only [Program.fieldsOf, Try.underlying65]
  go_simp
  have hx : ∀ (a b : UInt32), ((a.toNat : Int) = b.toNat) = (a = b) := fun a b => propext ⟨fun h => UInt32.toNat_inj.1 (by omega), fun h => by rw [h]⟩
  have hy : ∀ (a b : UInt8), ((a.toNat : Int) = b.toNat) = (a = b) := fun a b => propext ⟨fun h => UInt8.toNat_inj.1 (by omega), fun h => by rw [h]⟩
  simp only [hx, hy]
  by_cases h1 : k1 = k2 <;> by_cases h2 : i1 = i2 <;> by_cases h3 : o1 = o2 <;> simp [h1, h2, h3]

def itemV (x : ItemL) (v : Value) : Value := .agg #[bV x.key.kind, wV x.key.id, wV x.key.off, .int .i64 x.ref, v]
def mayI (x : ItemL) : Bool := decide ((x.ref = 0 ∨ (8 ≤ x.ref ∧ x.ref < 256)) ∧ x.val.length ≤ 12)
def mayE (b : Bool) : Int := if b then 0 else 8

set_option maxRecDepth 100000 in
set_option maxHeartbeats 400000 in
theorem icheck_any (x : ItemL) (v : Value) (w : World) (hv : Bytes w 0 w.heap.size v x.val) :
    Calls Try.prog 69 #[itemV x v] w fun e w' => e = .returned (.int .i64 (mayE (mayI x))) ∧ Below w.heap.size w w' := by
  obtain ⟨a, c, rfl, g1, g2, _, _⟩ := hv
  obtain ⟨⟨k, i, o⟩, r, l⟩ := x
  simp only [itemV, bV, wV] at *
  have hb := (Below.refl w.heap.size w).alloc (Nat.le_refl _) (.cells #[.int .u8 (k.toNat : Int), .int .u32 (i.toNat : Int), .int .u32 (o.toNat : Int), .int .i64 r, .slice a l.length c] 73)
  by_cases h0 : r = 0
  · subst h0
    by_cases hl : 12 < l.length
    · have hm : mayE (mayI ⟨⟨k, i, o⟩, 0, l⟩) = 8 := by unfold mayE mayI; rw [if_neg]; simp; omega
      rw [hm]
      go_enter Try.func69, Try.ntmps69
      go_wp2
      go_ret
      exact ⟨rfl, hb⟩
    · have hm : mayE (mayI ⟨⟨k, i, o⟩, 0, l⟩) = 0 := by unfold mayE mayI; rw [if_pos]; simp; omega
      rw [hm]
      go_enter Try.func69, Try.ntmps69
      go_wp2
      go_ret
      exact ⟨rfl, hb⟩
  · by_cases h8 : r < 8
    · have hm : mayE (mayI ⟨⟨k, i, o⟩, r, l⟩) = 8 := by unfold mayE mayI; rw [if_neg]; simp; omega
      rw [hm]
      go_enter Try.func69, Try.ntmps69
      go_wp2
      go_ret
      exact ⟨rfl, hb⟩
    · by_cases h9 : 256 ≤ r
      · have hm : mayE (mayI ⟨⟨k, i, o⟩, r, l⟩) = 8 := by unfold mayE mayI; rw [if_neg]; simp; omega
        rw [hm]
        go_enter Try.func69, Try.ntmps69
        go_wp2
        go_ret
        exact ⟨rfl, hb⟩
      · by_cases hl : 12 < l.length
        · have hm : mayE (mayI ⟨⟨k, i, o⟩, r, l⟩) = 8 := by unfold mayE mayI; rw [if_neg]; simp; omega
          rw [hm]
          go_enter Try.func69, Try.ntmps69
          go_wp2
          go_ret
          exact ⟨rfl, hb⟩
        · have hm : mayE (mayI ⟨⟨k, i, o⟩, r, l⟩) = 0 := by unfold mayE mayI; rw [if_pos]; simp; omega
          rw [hm]
          go_enter Try.func69, Try.ntmps69
          go_wp2
          go_ret
          exact ⟨rfl, hb⟩

set_option maxRecDepth 100000 in
set_option maxHeartbeats 400000 in
theorem isame_any (x y : ItemL) (v u : Value) (w : World) (hv : Bytes w 0 w.heap.size v x.val) (hu : Bytes w 0 w.heap.size u y.val) :
    Calls Try.prog 74 #[itemV x v, itemV y u] w fun e w' => e = .returned (.bool (decide (x = y))) ∧ Below w.heap.size w w' := by
  have hb1 := (Below.refl w.heap.size w).alloc (Nat.le_refl _) (.cells #[bV x.key.kind, wV x.key.id, wV x.key.off, .int .i64 x.ref, v] 73)
  have hb2 := hb1.alloc (by simp) (.cells #[bV y.key.kind, wV y.key.id, wV y.key.off, .int .i64 y.ref, u] 73)
  have hv2 := hv.step hb2
  have hu2 := hu.step hb2
  have hq := bequal_any _ _ _ _ _ _ _ _ _ hv2 hu2
  have hk := fun w => eq_key x.key y.key w
  have hg : Try.prog.eqGuardType Try.prog.depth 65 = false := by kernel_rfl
  obtain ⟨a, c, rfl, g1, g2, _, _⟩ := hv
  obtain ⟨a', c', rfl, g1', g2', _, _⟩ := hu
  obtain ⟨kx, r, l⟩ := x
  obtain ⟨ky, s, m⟩ := y
  simp only at *
  clear hv2 hu2
  by_cases h1 : kx = ky
  · subst h1
    rw [decide_eq_true rfl] at hk
    by_cases h2 : r = s
    · subst h2
      have hfin : decide ((⟨kx, r, l⟩ : ItemL) = ⟨kx, r, m⟩) = decide (l = m) := by simp
      rw [hfin]
      have Hq := Lib.hid hq
      clear hq hfin
      obtain ⟨k, i, o⟩ := kx
      simp only [itemV, keyV, bV, wV] at *
      go_enter Try.func74, Try.ntmps74
      go_wp2_with fail
      refine Hq.out.mono ?_
      rintro e w1 ⟨rfl, rfl⟩
      go_wp2
      go_ret
      exact ⟨rfl, hb2⟩
    · have hfin : decide ((⟨kx, r, l⟩ : ItemL) = ⟨kx, s, m⟩) = false := by simp [h2]
      have h2' : (r == s) = false := by simp [h2]
      rw [hfin]
      clear hq hfin
      obtain ⟨k, i, o⟩ := kx
      simp only [itemV, keyV, bV, wV] at *
      go_enter Try.func74, Try.ntmps74
      go_wp2
      go_ret
      exact ⟨rfl, hb2⟩
  · have hfin : decide ((⟨kx, r, l⟩ : ItemL) = ⟨ky, s, m⟩) = false := by simp [h1]
    rw [decide_eq_false h1] at hk
    rw [hfin]
    clear hq hfin h1
    obtain ⟨k, i, o⟩ := kx
    obtain ⟨k', i', o'⟩ := ky
    simp only [itemV, keyV, bV, wV] at *
    go_enter Try.func74, Try.ntmps74
    go_wp2
    go_ret
    exact ⟨rfl, hb2⟩
end Go.Proofs.Ytfdogefoodljaaa

namespace Go.Proofs.Ytfdogefoodljaaa
open Go.RowKit

set_option maxRecDepth 100000 in
set_option maxHeartbeats 2000000 in
/-- slices.Grow(nil, n). -/
theorem grow_nil (n : Nat) (w : World) (hn : n ≤ 1000000) :
    Calls Try.prog 92 #[.slice none 0 0, .int .i64 n] w fun e w' => ∃ v, e = .returned v ∧ OwnB w.heap.size 5 w' v [] ∧ Below w.heap.size w w' := by
  rcases Nat.eq_zero_or_pos n with rfl | hp
  · go_enter Try.func92, Try.ntmps92
    go_wp2
    go_ret
    exact ⟨_, rfl, OwnB.nil_ _ _ _, Below.refl _ _⟩
  · obtain ⟨i0, hi0, hz0, hz1, hz2⟩ := info_parts info_u8
    have hold : (Builtin.firstCells i0.size 0 (.slice none 0 0)).run Try.prog w.drew = .ok ([] : List Value).toArray w.drew := run_firstCells_none w.drew i0.size 0 0 0
    have hrz : ∀ ty, (Builtin.append_ #[22, 3] ty #[.slice none 0 0, .int .i64 (n : Int)]).run Try.prog w =
        .ok (.slice (some ⟨w.heap.size, 0, none⟩) n (grownCap w n 0 5)) (w.drew.alloc (.cells (([] : List Value).toArray ++ Builtin.zeroCells (Value.int .u8 0).cells n ++ Builtin.zeroCells (Value.int .u8 0).cells (grownCap w n 0 5 - n)) 5)) := fun ty => by
      have h := Lib.run_append_grow_zeros w 22 3 ty 5 i0 (.int .u8 0) .i64 .i64 Try.underlying22 Try.underlying3 hi0 hz0 none 0 0 [] hold n (by omega) (by omega) (by omega) (by omega)
        (by rw [hz2]; omega) (by rw [Nat.zero_add]; exact growslice_fits (by omega) (by rw [hz2]; omega))
      rw [Nat.zero_add] at h
      exact h
    have hG := grownCap_ge w n 0 5
    have hG2 := grownCap_le_maxLen w n 0 5 (by unfold maxLen; omega)
    generalize grownCap w n 0 5 = G at *
    have hG3 : G ≤ 9223372036854775807 := by unfold maxLen at hG2; omega
    have HG2 := Lib.hid hG2
    clear hG2 hold
    go_enter Try.func92, Try.ntmps92
    go_wp2_with (at_builtin; refine Lib.wpList_append_run _ rfl _ _ _ _ rfl _ _ rfl rfl _ _ (hrz _) ?_)
    go_ret
    refine ⟨_, rfl, ⟨by simp, .inr ⟨w.heap.size, G, _, rfl, Nat.le_refl _, World.alloc_heap_new w _, Nat.zero_le _, HG2.out, ?_, by simp⟩⟩, ((Below.refl _ _).alloc (Nat.le_refl _) _).drew⟩
    simp [Builtin.zeroCells]
    omega

end Go.Proofs.Ytfdogefoodljaaa

namespace Go.Proofs.Ytfdogefoodljaaa
open Go.RowKit

/-- Some lists one behind the other. -/
def catL (ps : List (Value × List UInt8)) : List UInt8 := (ps.map (·.2)).flatten
theorem catL_snoc (ps : List (Value × List UInt8)) (k : Nat) (p : Value × List UInt8) (h : ps[k]? = some p) : catL (ps.take (k + 1)) = catL (ps.take k) ++ p.2 := by
  have hk : k < ps.length := (List.getElem?_eq_some_iff.1 h).1
  have hp : ps[k] = p := (List.getElem?_eq_some_iff.1 h).2
  rw [List.take_succ_eq_append_getElem hk, hp]
  simp [catL]
theorem catL_le (ps : List (Value × List UInt8)) (k : Nat) : (catL (ps.take k)).length ≤ (catL ps).length := by
  have e : ∀ a b : List (Value × List UInt8), catL (a ++ b) = catL a ++ catL b := fun a b => by simp [catL]
  have h := e (ps.take k) (ps.drop k)
  rw [List.take_append_drop] at h
  rw [h, List.length_append]
  omega

set_option maxRecDepth 100000 in
set_option maxHeartbeats 2000000 in
/-- slices.Concat. -/
theorem concat_any (ps : List (Value × List UInt8)) (b off c : Nat) (w : World) (hb : b < w.heap.size) (hcell : ∀ i p, ps[i]? = some p → w.cell? ⟨b, off + i, none⟩ = some p.1)
    (hB : ∀ p ∈ ps, Bytes w 0 w.heap.size p.1 p.2) (hc : ps.length ≤ c) (hcm : c ≤ 1000000) (ht : (catL ps).length ≤ 1000000) :
    Calls Try.prog 57 #[.slice (some ⟨b, off, none⟩) ps.length c] w fun e w' => ∃ u, e = .returned u ∧ MadeB w w' u (catL ps) := by
  have HC := Lib.hid hcell
  have HB := Lib.hid hB
  clear hcell hB
  go_enter Try.func57, Try.ntmps57
  go_wp2
  go_loop [3, 11] (fun n i => ∃ k : Nat, k ≤ ps.length ∧ i = .int .i64 k ∧ n = .int .i64 (catL (ps.take k)).length) (fun _ i => ps.length - (intOf i).toNat)
  case atStart => exact ⟨0, Nat.zero_le _, rfl, rfl⟩
  case round =>
    obtain ⟨k, hk, rfl, rfl⟩ := hrel
    by_cases hlt : k < ps.length
    · obtain ⟨p, hp⟩ : ∃ p, ps[k]? = some p := ⟨ps[k], by simp [hlt]⟩
      have hx := HC.out k p hp
      have hy := HB.out p (List.mem_of_getElem? hp)
      have hs := congrArg List.length (catL_snoc ps k p hp)
      rw [List.length_append] at hs
      have hle := catL_le ps (k + 1)
      have HS := Lib.hid hs
      rw [hs] at hle
      clear hs
      generalize (catL (ps.take k)).length = q at *
      obtain ⟨pv, pl⟩ := p
      dsimp only at hx hle hy
      obtain ⟨pa, pc, rfl, _, _, _, _⟩ := hy
      clear hp
      go_wp2
      go_round
      case rel => exact ⟨k + 1, by omega, by go_num, by rw [HS.out]; go_num⟩
      case measure => simp [intOf]; omega
    · obtain rfl : k = ps.length := by omega
      rw [List.take_length]
      have HT := Lib.hid ht
      go_wp2_with fail
      refine (grow_nil _ _ (by omega)).mono ?_
      rintro e w1 ⟨gv, rfl, hown, hb1⟩
      have hown' : OwnB w.heap.size 5 w1 gv (catL (ps.take 0)) := hown
      clear hown
      go_wp2
      go_loopw [6, 27] (fun v i wr => ∃ k : Nat, k ≤ ps.length ∧ i = .int .i64 k ∧ OwnB w.heap.size 5 wr v (catL (ps.take k)) ∧ Below w.heap.size w wr) (fun _ i _ => ps.length - (intOf i).toNat)
      case atStart => exact ⟨0, Nat.zero_le _, rfl, hown', hb1⟩
      case round =>
        obtain ⟨k, hk, rfl, hown, hbr⟩ := hrel
        by_cases hlt : k < ps.length
        · obtain ⟨p, hp⟩ : ∃ p, ps[k]? = some p := ⟨ps[k], by simp [hlt]⟩
          have hx := (hbr.cell (p := ⟨b, off + k, none⟩) hb).trans (HC.out k p hp)
          have hy := HB.out p (List.mem_of_getElem? hp)
          have hs := catL_snoc ps k p hp
          have hle := catL_le ps (k + 1)
          rw [hs, List.length_append] at hle
          have HS := Lib.hid hs
          clear hs hp hown'
          generalize catL (ps.take k) = q at *
          obtain ⟨pv, pl⟩ := p
          dsimp only at hx hle hy
          have hy2 := hy.below hbr (Nat.le_refl _)
          obtain ⟨pa, pc, rfl, _, _, _, _⟩ := id hy
          clear hy
          go_wp2_with (at_builtin; refine wpList_appB rfl _ _ 22 rfl w.heap.size 5 Try.underlying22 info_u8 _ q rfl hown _ _ _ pl rfl hy2 (by have := HT.out; omega) hbr.size ?_; intro u w2 hown2 hB2)
          go_roundw
          case rel => exact ⟨k + 1, by omega, by go_num, by rw [HS.out]; exact hown2, hbr.trans hB2⟩
          case measure => simp [intOf]; omega
        · obtain rfl : k = ps.length := by omega
          rw [List.take_length] at hown
          go_wp2
          go_ret
          exact ⟨_, rfl, hown.made hbr⟩

end Go.Proofs.Ytfdogefoodljaaa

