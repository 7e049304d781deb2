/- FindAll: the words and contracts, part 3. -/
import Derived.Test.YtcibihakjcenaaaFindAllQ1
import Derived.Test.YtcibihakjcenaaaFindAllQ2
import Derived.Test.YtcibihakjcenaaaChecked
import Derived.WalkKit
import Derived.WalkLawsBesides
import Derived.WalkSpells
import Derived.Lib.Hide
import Derived.Laws.Rows
import Derived.Laws.AppendOwnNone
import Derived.Maps.AppendAt
import Derived.ProofKit
import Derived.Deep.Slices
import Derived.WideShapes
import Derived.OpenShut
import Derived.RangeFuncNested
import Derived.RangeFuncBound
import Derived.RangeFuncCalls
import Derived.RangeFuncLeaves
import Derived.RangeFuncBox
import Derived.Shelf.Abstract
import Derived.Shelf.RegionOpen
import Derived.OwnWalkIn
import Derived.TacticsInMore
import Derived.LoopNIn
import Derived.LoopIn
import Derived.OrdersHeld
import Derived.Deep.QuietTactic
import Derived.BigQuiet
import Derived.StillTailTactics
import Derived.Lib.SliceRun
import Derived.Lib.AppendZerosOnto
import Derived.Lib.Walk
import Derived.Deep.LoopGhost
import Derived.Laws.CopyOwn
import Derived.Laws.CopyRow
import Derived.Deep.DeepCutAuto
namespace Go.Proofs.Ytcibihakjcenaaa
open Go.RowKit Go.ChangeShapes Go.WideShapes Go.Deep

/-- The fields of a struct: where each begins, and its type. -/
def fieldsOf (P : Program) (t : TypeId) : Option (List (Nat × TypeId)) :=
  match P.underlying t with
  | some (.struct fs) => some (fs.toList.map fun f => (f.offset, f.type))
  | _ => none

section
variable {H : Type} {enc : TypeId × Value → H} {P : Program} {w : World} {base : Nat} {spare : Nat → Bool} {held : Bool} {fuel : Nat} {t : TypeId} {cs : List Value} {x : DataW H × List MemPlace}
theorem trod_parts {l : List (Nat × TypeId)} (ht : fieldsOf P t = some l) (h : DataW.trod enc P w base spare held fuel t cs = some x) :
    cs.length = P.cellsOf t ∧ ∃ n, ∀ f ∈ l, ∃ y, DataW.trod enc P w base spare held n f.2 ((cs.drop f.1).take (P.cellsOf f.2)) = some y := by
  unfold fieldsOf at ht
  split at ht
  · rename_i fs hu
    cases ht
    obtain ⟨h1, n, h2⟩ := trod_fields hu h
    refine ⟨h1, n, fun f hf => ?_⟩
    obtain ⟨g, hg, rfl⟩ := List.mem_map.1 hf
    exact h2 g hg
  · cases ht
theorem okW_struct {r : Reach} {v : Value} {l : List (Nat × TypeId)} (ht : fieldsOf P t = some l) (h : Value.okWide P w r base t v) : ∃ cs, v = .agg cs ∧ cs.size = P.cellsOf t := by
  unfold fieldsOf at ht
  split at ht
  · rename_i fs hu
    exact okWide_struct hu h
  · cases ht
end

def rU8 : Rd UInt8 where
  n := 1
  R _ _ _ x f := f 0 = some (bV x)
  keep _ h := h
  more _ _ h := h
  ext he h := (he 0 (by decide)) ▸ h
theorem Sl.bytes {w : World} {lo hi : Nat} {v : Value} {l : List UInt8} (h : Sl rU8 w lo hi v l) : Bytes w lo hi v l := by
  obtain ⟨a, c, e, h1, h2, h3, h4⟩ := h
  refine ⟨a, c, e, h1, h2, fun hp => ?_, h4⟩
  obtain ⟨b, off, ea, hlo, hhi, hc⟩ := h3 hp
  refine ⟨b, off, ea, hlo, hhi, fun i x hx => ?_⟩
  have := hc i x hx
  simpa [rU8] using this
theorem u8_of {n : Int} (h : (Lit.int .u8 n).wf = true) : ∃ x : UInt8, Value.int .u8 n = bV x := by
  obtain ⟨h1, h2⟩ := bounds_u8 h
  refine ⟨UInt8.ofNat n.toNat, ?_⟩
  simp [bV]
  omega
theorem u32_of {n : Int} (h : (Lit.int .u32 n).wf = true) : ∃ x : UInt32, Value.int .u32 n = wV x := by
  obtain ⟨h1, h2⟩ := bounds_u32 h
  refine ⟨UInt32.ofNat n.toNat, ?_⟩
  simp [wV]
  omega

section
variable {P : Program} {e : TypeId}
theorem opens_u8 (he : P.underlying e = some (.int .u8)) : Opens P e rU8 := fun h _ => by
  obtain ⟨n, rfl, _, hw⟩ := DataW.trod_int he h
  obtain ⟨x, hx⟩ := u8_of hw
  exact ⟨x, by rw [hx]; rfl⟩
variable {H : Type} {enc : TypeId × Value → H} {w : World} {base : Nat} {spare : Nat → Bool} {held : Bool} {fuel : Nat} {t : TypeId} {cs : List Value} {x : DataW H × List MemPlace}
theorem open_bytes (ht : P.underlying t = some (.slice e)) (he : P.underlying e = some (.int .u8)) (hc : P.cellsOf e = 1) (h : DataW.trod enc P w base spare held fuel t cs = some x) :
    ∃ v l, cs = [v] ∧ Bytes w 0 w.heap.size v l := by
  obtain ⟨v, l, h1, h2⟩ := open_sl (r := rU8) ht hc (by decide) (opens_u8 he) h
  exact ⟨v, l, h1, h2.bytes⟩
theorem opens_bytes {u : TypeId} (ht : P.underlying e = some (.slice u)) (he : P.underlying u = some (.int .u8)) (hc : P.cellsOf u = 1) : Opens P e rBytes := fun h _ => by
  obtain ⟨v, l, rfl, h2⟩ := open_bytes ht he hc h
  exact ⟨l, v, rfl, h2⟩
theorem opens_write {ti tb u : TypeId} (ht : fieldsOf P e = some [(0, ti), (1, tb)]) (hi : P.underlying ti = some (.int .i64)) (hci : P.cellsOf ti = 1) (hcb : P.cellsOf tb = 1)
    (hb : P.underlying tb = some (.slice u)) (hu : P.underlying u = some (.int .u8)) (hc : P.cellsOf u = 1) : Opens P e rWrite := fun {H enc w base spare held fuel cs x} h hl => by
  obtain ⟨_, n, hf⟩ := trod_parts ht h
  obtain ⟨y0, h0⟩ := hf (0, ti) (by simp)
  obtain ⟨y1, h1⟩ := hf (1, tb) (by simp)
  dsimp only at h0 h1
  rw [hci] at h0
  rw [hcb] at h1
  obtain ⟨k, e0, _, hw⟩ := DataW.trod_int hi h0
  obtain ⟨v, l, e1, hB⟩ := open_bytes hb hu hc h1
  match cs, hl with
  | [c0, c1], _ =>
    simp at e0 e1
    subst e0 e1
    exact ⟨⟨k, l⟩, rfl, hw, _, rfl, hB⟩
theorem open_key {tk t8 t32 : TypeId} (ht : fieldsOf P tk = some [(0, t8), (1, t32), (2, t32)]) (h8 : P.underlying t8 = some (.int .u8)) (h32 : P.underlying t32 = some (.int .u32)) (c8 : P.cellsOf t8 = 1) (c32 : P.cellsOf t32 = 1) (ck : P.cellsOf tk = 3)
    (h : DataW.trod enc P w base spare held fuel tk cs = some x) : ∃ k : KeyL, cs = [bV k.kind, wV k.id, wV k.off] := by
  obtain ⟨hl, n, hf⟩ := trod_parts ht h
  obtain ⟨y0, h0⟩ := hf (0, t8) (by simp)
  obtain ⟨y1, h1⟩ := hf (1, t32) (by simp)
  obtain ⟨y2, h2⟩ := hf (2, t32) (by simp)
  dsimp only at h0 h1 h2
  rw [c8] at h0
  rw [c32] at h1 h2
  rw [ck] at hl
  obtain ⟨k0, e0, _, w0⟩ := DataW.trod_int h8 h0
  obtain ⟨k1, e1, _, w1⟩ := DataW.trod_int h32 h1
  obtain ⟨k2, e2, _, w2⟩ := DataW.trod_int h32 h2
  obtain ⟨x0, g0⟩ := u8_of w0
  obtain ⟨x1, g1⟩ := u32_of w1
  obtain ⟨x2, g2⟩ := u32_of w2
  match cs, hl with
  | [c0, c1, c2], _ =>
    simp at e0 e1 e2
    subst e0 e1 e2
    rw [g0, g1, g2]
    exact ⟨⟨x0, x1, x2⟩, rfl⟩
theorem open_disk {tbs tws tw ti tb u : TypeId} (ht : fieldsOf P e = some [(0, tbs), (1, tws)]) (hbs : P.underlying tbs = some (.slice tb)) (hws : P.underlying tws = some (.slice tw)) (cbs : P.cellsOf tbs = 1) (cws : P.cellsOf tws = 1)
    (htw : fieldsOf P tw = some [(0, ti), (1, tb)]) (cw : P.cellsOf tw = 2) (hi : P.underlying ti = some (.int .i64)) (hci : P.cellsOf ti = 1) (hcb : P.cellsOf tb = 1) (ce : P.cellsOf e = 2)
    (hb : P.underlying tb = some (.slice u)) (hu : P.underlying u = some (.int .u8)) (hc : P.cellsOf u = 1) (h : DataW.trod enc P w base spare held fuel e cs = some x) :
    ∃ (b v : Value) (d : DiskL), cs = [b, v] ∧ DiskV w 0 w.heap.size b v d := by
  obtain ⟨hl, n, hf⟩ := trod_parts ht h
  obtain ⟨y0, h0⟩ := hf (0, tbs) (by simp)
  obtain ⟨y1, h1⟩ := hf (1, tws) (by simp)
  dsimp only at h0 h1
  rw [cbs] at h0
  rw [cws] at h1
  rw [ce] at hl
  obtain ⟨v0, l0, e0, B0⟩ := open_sl (r := rBytes) hbs hcb (by decide) (opens_bytes hb hu hc) h0
  obtain ⟨v1, l1, e1, B1⟩ := open_sl (r := rWrite) hws cw (by decide) (opens_write htw hi hci hcb hb hu hc) h1
  match cs, hl with
  | [c0, c1], _ =>
    simp at e0 e1
    subst e0 e1
    exact ⟨_, _, ⟨l0, l1⟩, rfl, B0, B1⟩
end
end Go.Proofs.Ytcibihakjcenaaa

namespace Go.Proofs.Ytcibihakjcenaaa
open Go.RowKit

theorem OwnB.empty (w : World) (base : Nat) (e : TypeId) (h : base ≤ w.heap.size) : OwnB base e (w.alloc (.cells #[] e)) (.slice (some ⟨w.heap.size, 0, none⟩) 0 0) [] :=
  ⟨rfl, .inr ⟨w.heap.size, 0, #[], rfl, h, World.alloc_heap_new w _, Nat.le_refl _, Nat.zero_le _, rfl, rfl⟩⟩
set_option maxRecDepth 100000 in
/-- bytes.Clone. -/
theorem bclone_any (v : Value) (l : List UInt8) (w : World) (hI : Bytes w 0 w.heap.size v l) (hl : l.length ≤ 1000000000) :
    Calls Try.prog 86 #[v] w fun e w' => ∃ u, e = .returned u ∧ MadeB w w' u l := by
  obtain ⟨a, c, rfl, g1, g2, g3, g4⟩ := id hI
  clear g3
  have hnil := fun (w : World) (a : Option Addr) (n c n' c' : Nat) => Lib.run_eql_slice_nil (P := Try.prog) w 26 5 a n c n' c' Try.underlying26
  rcases a with _ | a
  · have hc := g4 rfl
    subst hc
    have : l = [] := List.eq_nil_of_length_eq_zero (by omega)
    subst this
    go_enter Try.func86, Try.ntmps86
    go_wp2
    go_ret
    exact ⟨_, rfl, MadeB.nil_ (Below.refl _ _)⟩
  · have hI1 := hI.step ((Below.refl w.heap.size w).alloc (Nat.le_refl _) (.cells #[] 5))
    have hown := OwnB.empty w w.heap.size 5 (Nat.le_refl _)
    go_enter Try.func86, Try.ntmps86
    go_wp2_with (at_builtin; refine wpList_appB rfl _ _ 26 rfl w.heap.size 5 Try.underlying26 info_u8 _ [] rfl hown _ _ _ l rfl hI1 (by simp; omega) (by simp) ?_; intro v1 w1 hown1 hB1)
    go_ret
    exact ⟨_, rfl, hown1.made (((Below.refl w.heap.size w).alloc (Nat.le_refl _) _).trans hB1)⟩
theorem cv_of {w : World} {lo hi : Nat} {v : Value} {l : List UInt8} (h : Bytes w lo hi v l) : (convert 26 9 v).run Try.prog w = .ok (.string ⟨l.toArray⟩) w :=
  conv_bytes (P := Try.prog) h 26 9 5 Try.underlying26 Try.underlying5 Try.underlying9
/-- bytes.Equal. -/
theorem bequal_any (v u : Value) (l m : List UInt8) (w : World) (lo hi lo' hi' : Nat) (hv : Bytes w lo hi v l) (hu : Bytes w lo' hi' u m) :
    Calls Try.prog 62 #[v, u] w fun e w' => e = .returned (.bool (decide (l = m))) ∧ w' = w := by
  have c1 := cv_of hv
  have c2 := cv_of hu
  have hq : (l == m) = decide (l = m) := by rw [Bool.eq_iff_iff]; simp
  have Hq := Lib.hid hq
  clear hq
  obtain ⟨a, c, rfl, _⟩ := hv
  obtain ⟨a', c', rfl, _⟩ := hu
  go_enter Try.func62, Try.ntmps62
  go_wp2
  go_ret
  exact ⟨by rw [← Hq.out]; rfl, rfl⟩

theorem eq_key (a b : KeyL) (w : World) : (Op.equalIn 10000 48 (keyV a) (keyV b)).run Try.prog w = .ok (decide (a = b)) w := by
  have u3 := Try.underlying5
  have a3 := Try.isAgg5
  have z3 := Try.sizeOf5
  have u4 := Try.underlying22
  have a4 := Try.isAgg22
  have z4 := Try.sizeOf22
  have hS : Try.prog.underlying 48 = some (.struct (Try.prog.fieldsOf 48)) := by kernel_rfl
  have hp : Try.prog.stoodInHeld 48 = false := by kernel_rfl
  obtain ⟨k1, i1, o1⟩ := a
  obtain ⟨k2, i2, o2⟩ := b
  simp only [keyV, bV, wV]
  rw [show (10000 : Nat) = 9999 + 1 from rfl, run_equalIn_agg w 9999 48 _ _ hS hp]
  simp only [Program.fieldsOf, Try.underlying48]
  go_simp
  have hx : ∀ (a b : UInt32), ((a.toNat : Int) = b.toNat) = (a = b) := fun a b => propext ⟨fun h => UInt32.toNat_inj.1 (by omega), fun h => by rw [h]⟩
  have hy : ∀ (a b : UInt8), ((a.toNat : Int) = b.toNat) = (a = b) := fun a b => propext ⟨fun h => UInt8.toNat_inj.1 (by omega), fun h => by rw [h]⟩
  simp only [hx, hy]
  by_cases h1 : k1 = k2 <;> by_cases h2 : i1 = i2 <;> by_cases h3 : o1 = o2 <;> simp [h1, h2, h3]

def itemV (x : ItemL) (v : Value) : Value := .agg #[bV x.key.kind, wV x.key.id, wV x.key.off, .int .i64 x.ref, v]
def mayI (x : ItemL) : Bool := decide ((x.ref = 0 ∨ (8 ≤ x.ref ∧ x.ref < 256)) ∧ x.val.length ≤ 12)
def mayE (b : Bool) : Int := if b then 0 else 8

set_option maxRecDepth 100000 in
set_option maxHeartbeats 400000 in
theorem icheck_any (x : ItemL) (v : Value) (w : World) (hv : Bytes w 0 w.heap.size v x.val) :
    Calls Try.prog 144 #[itemV x v] w fun e w' => e = .returned (.int .i64 (mayE (mayI x))) ∧ Below w.heap.size w w' := by
  obtain ⟨a, c, rfl, g1, g2, _, _⟩ := hv
  obtain ⟨⟨k, i, o⟩, r, l⟩ := x
  simp only [itemV, bV, wV] at *
  have hb := (Below.refl w.heap.size w).alloc (Nat.le_refl _) (.cells #[.int .u8 (k.toNat : Int), .int .u32 (i.toNat : Int), .int .u32 (o.toNat : Int), .int .i64 r, .slice a l.length c] 56)
  by_cases h0 : r = 0
  · subst h0
    by_cases hl : 12 < l.length
    · have hm : mayE (mayI ⟨⟨k, i, o⟩, 0, l⟩) = 8 := by unfold mayE mayI; rw [if_neg]; simp; omega
      rw [hm]
      go_enter Try.func144, Try.ntmps144
      go_wp2
      go_ret
      exact ⟨rfl, hb⟩
    · have hm : mayE (mayI ⟨⟨k, i, o⟩, 0, l⟩) = 0 := by unfold mayE mayI; rw [if_pos]; simp; omega
      rw [hm]
      go_enter Try.func144, Try.ntmps144
      go_wp2
      go_ret
      exact ⟨rfl, hb⟩
  · by_cases h8 : r < 8
    · have hm : mayE (mayI ⟨⟨k, i, o⟩, r, l⟩) = 8 := by unfold mayE mayI; rw [if_neg]; simp; omega
      rw [hm]
      go_enter Try.func144, Try.ntmps144
      go_wp2
      go_ret
      exact ⟨rfl, hb⟩
    · by_cases h9 : 256 ≤ r
      · have hm : mayE (mayI ⟨⟨k, i, o⟩, r, l⟩) = 8 := by unfold mayE mayI; rw [if_neg]; simp; omega
        rw [hm]
        go_enter Try.func144, Try.ntmps144
        go_wp2
        go_ret
        exact ⟨rfl, hb⟩
      · by_cases hl : 12 < l.length
        · have hm : mayE (mayI ⟨⟨k, i, o⟩, r, l⟩) = 8 := by unfold mayE mayI; rw [if_neg]; simp; omega
          rw [hm]
          go_enter Try.func144, Try.ntmps144
          go_wp2
          go_ret
          exact ⟨rfl, hb⟩
        · have hm : mayE (mayI ⟨⟨k, i, o⟩, r, l⟩) = 0 := by unfold mayE mayI; rw [if_pos]; simp; omega
          rw [hm]
          go_enter Try.func144, Try.ntmps144
          go_wp2
          go_ret
          exact ⟨rfl, hb⟩

set_option maxRecDepth 100000 in
set_option maxHeartbeats 400000 in
theorem isame_any (x y : ItemL) (v u : Value) (w : World) (hv : Bytes w 0 w.heap.size v x.val) (hu : Bytes w 0 w.heap.size u y.val) :
    Calls Try.prog 38 #[itemV x v, itemV y u] w fun e w' => e = .returned (.bool (decide (x = y))) ∧ Below w.heap.size w w' := by
  have hb1 := (Below.refl w.heap.size w).alloc (Nat.le_refl _) (.cells #[bV x.key.kind, wV x.key.id, wV x.key.off, .int .i64 x.ref, v] 56)
  have hb2 := hb1.alloc (by simp) (.cells #[bV y.key.kind, wV y.key.id, wV y.key.off, .int .i64 y.ref, u] 56)
  have hv2 := hv.step hb2
  have hu2 := hu.step hb2
  have hq := bequal_any _ _ _ _ _ _ _ _ _ hv2 hu2
  have hk := fun w => eq_key x.key y.key w
  have hg : Try.prog.eqGuardType Try.prog.depth 48 = false := by kernel_rfl
  obtain ⟨a, c, rfl, g1, g2, _, _⟩ := hv
  obtain ⟨a', c', rfl, g1', g2', _, _⟩ := hu
  obtain ⟨kx, r, l⟩ := x
  obtain ⟨ky, s, m⟩ := y
  simp only at *
  clear hv2 hu2
  by_cases h1 : kx = ky
  · subst h1
    rw [decide_eq_true rfl] at hk
    by_cases h2 : r = s
    · subst h2
      have hfin : decide ((⟨kx, r, l⟩ : ItemL) = ⟨kx, r, m⟩) = decide (l = m) := by simp
      rw [hfin]
      have Hq := Lib.hid hq
      clear hq hfin
      obtain ⟨k, i, o⟩ := kx
      simp only [itemV, keyV, bV, wV] at *
      go_enter Try.func38, Try.ntmps38
      go_wp2_with fail
      refine Hq.out.mono ?_
      rintro e w1 ⟨rfl, rfl⟩
      go_wp2
      go_ret
      exact ⟨rfl, hb2⟩
    · have hfin : decide ((⟨kx, r, l⟩ : ItemL) = ⟨kx, s, m⟩) = false := by simp [h2]
      have h2' : (r == s) = false := by simp [h2]
      rw [hfin]
      clear hq hfin
      obtain ⟨k, i, o⟩ := kx
      simp only [itemV, keyV, bV, wV] at *
      go_enter Try.func38, Try.ntmps38
      go_wp2
      go_ret
      exact ⟨rfl, hb2⟩
  · have hfin : decide ((⟨kx, r, l⟩ : ItemL) = ⟨ky, s, m⟩) = false := by simp [h1]
    rw [decide_eq_false h1] at hk
    rw [hfin]
    clear hq hfin h1
    obtain ⟨k, i, o⟩ := kx
    obtain ⟨k', i', o'⟩ := ky
    simp only [itemV, keyV, bV, wV] at *
    go_enter Try.func38, Try.ntmps38
    go_wp2
    go_ret
    exact ⟨rfl, hb2⟩
end Go.Proofs.Ytcibihakjcenaaa

namespace Go.Proofs.Ytcibihakjcenaaa
open Go.RowKit

set_option maxRecDepth 100000 in
set_option maxHeartbeats 2000000 in
/-- slices.Grow(nil, n). -/
theorem grow_nil (n : Nat) (w : World) (hn : n ≤ 1000000) :
    Calls Try.prog 100 #[.slice none 0 0, .int .i64 n] w fun e w' => ∃ v, e = .returned v ∧ OwnB w.heap.size 5 w' v [] ∧ Below w.heap.size w w' := by
  rcases Nat.eq_zero_or_pos n with rfl | hp
  · go_enter Try.func100, Try.ntmps100
    go_wp2
    go_ret
    exact ⟨_, rfl, OwnB.nil_ _ _ _, Below.refl _ _⟩
  · obtain ⟨i0, hi0, hz0, hz1, hz2⟩ := info_parts info_u8
    have hold : (Builtin.firstCells i0.size 0 (.slice none 0 0)).run Try.prog w.drew = .ok ([] : List Value).toArray w.drew := run_firstCells_none w.drew i0.size 0 0 0
    have hrz : ∀ ty, (Builtin.append_ #[26, 3] ty #[.slice none 0 0, .int .i64 (n : Int)]).run Try.prog w =
        .ok (.slice (some ⟨w.heap.size, 0, none⟩) n (grownCap w n 0 5)) (w.drew.alloc (.cells (([] : List Value).toArray ++ Builtin.zeroCells (Value.int .u8 0).cells n ++ Builtin.zeroCells (Value.int .u8 0).cells (grownCap w n 0 5 - n)) 5)) := fun ty => by
      have h := Lib.run_append_grow_zeros w 26 3 ty 5 i0 (.int .u8 0) .i64 .i64 Try.underlying26 Try.underlying3 hi0 hz0 none 0 0 [] hold n (by omega) (by omega) (by omega) (by omega)
        (by rw [hz2]; omega) (by rw [Nat.zero_add]; exact growslice_fits (by omega) (by rw [hz2]; omega))
      rw [Nat.zero_add] at h
      exact h
    have hG := grownCap_ge w n 0 5
    have hG2 := grownCap_le_maxLen w n 0 5 (by unfold maxLen; omega)
    generalize grownCap w n 0 5 = G at *
    have hG3 : G ≤ 9223372036854775807 := by unfold maxLen at hG2; omega
    have HG2 := Lib.hid hG2
    clear hG2 hold
    go_enter Try.func100, Try.ntmps100
    go_wp2_with (at_builtin; refine Lib.wpList_append_run _ rfl _ _ _ _ rfl _ _ rfl rfl _ _ (hrz _) ?_)
    go_ret
    refine ⟨_, rfl, ⟨by simp, .inr ⟨w.heap.size, G, _, rfl, Nat.le_refl _, World.alloc_heap_new w _, Nat.zero_le _, HG2.out, ?_, by simp⟩⟩, ((Below.refl _ _).alloc (Nat.le_refl _) _).drew⟩
    simp [Builtin.zeroCells]
    omega

end Go.Proofs.Ytcibihakjcenaaa

namespace Go.Proofs.Ytcibihakjcenaaa
open Go.RowKit

/-- Some lists one behind the other. -/
def catL (ps : List (Value × List UInt8)) : List UInt8 := (ps.map (·.2)).flatten
theorem catL_snoc (ps : List (Value × List UInt8)) (k : Nat) (p : Value × List UInt8) (h : ps[k]? = some p) : catL (ps.take (k + 1)) = catL (ps.take k) ++ p.2 := by
  have hk : k < ps.length := (List.getElem?_eq_some_iff.1 h).1
  have hp : ps[k] = p := (List.getElem?_eq_some_iff.1 h).2
  rw [List.take_succ_eq_append_getElem hk, hp]
  simp [catL]
theorem catL_le (ps : List (Value × List UInt8)) (k : Nat) : (catL (ps.take k)).length ≤ (catL ps).length := by
  have e : ∀ a b : List (Value × List UInt8), catL (a ++ b) = catL a ++ catL b := fun a b => by simp [catL]
  have h := e (ps.take k) (ps.drop k)
  rw [List.take_append_drop] at h
  rw [h, List.length_append]
  omega

set_option maxRecDepth 100000 in
set_option maxHeartbeats 2000000 in
/-- slices.Concat. -/
theorem concat_any (ps : List (Value × List UInt8)) (b off c : Nat) (w : World) (hb : b < w.heap.size) (hcell : ∀ i p, ps[i]? = some p → w.cell? ⟨b, off + i, none⟩ = some p.1)
    (hB : ∀ p ∈ ps, Bytes w 0 w.heap.size p.1 p.2) (hc : ps.length ≤ c) (hcm : c ≤ 1000000) (ht : (catL ps).length ≤ 1000000) :
    Calls Try.prog 54 #[.slice (some ⟨b, off, none⟩) ps.length c] w fun e w' => ∃ u, e = .returned u ∧ MadeB w w' u (catL ps) := by
  have HC := Lib.hid hcell
  have HB := Lib.hid hB
  clear hcell hB
  go_enter Try.func54, Try.ntmps54
  go_wp2
  go_loop [3, 11] (fun n i => ∃ k : Nat, k ≤ ps.length ∧ i = .int .i64 k ∧ n = .int .i64 (catL (ps.take k)).length) (fun _ i => ps.length - (intOf i).toNat)
  case atStart => exact ⟨0, Nat.zero_le _, rfl, rfl⟩
  case round =>
    obtain ⟨k, hk, rfl, rfl⟩ := hrel
    by_cases hlt : k < ps.length
    · obtain ⟨p, hp⟩ : ∃ p, ps[k]? = some p := ⟨ps[k], by simp [hlt]⟩
      have hx := HC.out k p hp
      have hy := HB.out p (List.mem_of_getElem? hp)
      have hs := congrArg List.length (catL_snoc ps k p hp)
      rw [List.length_append] at hs
      have hle := catL_le ps (k + 1)
      have HS := Lib.hid hs
      rw [hs] at hle
      clear hs
      generalize (catL (ps.take k)).length = q at *
      obtain ⟨pv, pl⟩ := p
      dsimp only at hx hle hy
      obtain ⟨pa, pc, rfl, _, _, _, _⟩ := hy
      clear hp
      go_wp2
      go_round
      case rel => exact ⟨k + 1, by omega, by go_num, by rw [HS.out]; go_num⟩
      case measure => simp [intOf]; omega
    · obtain rfl : k = ps.length := by omega
      rw [List.take_length]
      have HT := Lib.hid ht
      go_wp2_with fail
      refine (grow_nil _ _ (by omega)).mono ?_
      rintro e w1 ⟨gv, rfl, hown, hb1⟩
      have hown' : OwnB w.heap.size 5 w1 gv (catL (ps.take 0)) := hown
      clear hown
      go_wp2
      go_loopw [6, 27] (fun v i wr => ∃ k : Nat, k ≤ ps.length ∧ i = .int .i64 k ∧ OwnB w.heap.size 5 wr v (catL (ps.take k)) ∧ Below w.heap.size w wr) (fun _ i _ => ps.length - (intOf i).toNat)
      case atStart => exact ⟨0, Nat.zero_le _, rfl, hown', hb1⟩
      case round =>
        obtain ⟨k, hk, rfl, hown, hbr⟩ := hrel
        by_cases hlt : k < ps.length
        · obtain ⟨p, hp⟩ : ∃ p, ps[k]? = some p := ⟨ps[k], by simp [hlt]⟩
          have hx := (hbr.cell (p := ⟨b, off + k, none⟩) hb).trans (HC.out k p hp)
          have hy := HB.out p (List.mem_of_getElem? hp)
          have hs := catL_snoc ps k p hp
          have hle := catL_le ps (k + 1)
          rw [hs, List.length_append] at hle
          have HS := Lib.hid hs
          clear hs hp hown'
          generalize catL (ps.take k) = q at *
          obtain ⟨pv, pl⟩ := p
          dsimp only at hx hle hy
          have hy2 := hy.below hbr (Nat.le_refl _)
          obtain ⟨pa, pc, rfl, _, _, _, _⟩ := id hy
          clear hy
          go_wp2_with (at_builtin; refine wpList_appB rfl _ _ 26 rfl w.heap.size 5 Try.underlying26 info_u8 _ q rfl hown _ _ _ pl rfl hy2 (by have := HT.out; omega) hbr.size ?_; intro u w2 hown2 hB2)
          go_roundw
          case rel => exact ⟨k + 1, by omega, by go_num, by rw [HS.out]; exact hown2, hbr.trans hB2⟩
          case measure => simp [intOf]; omega
        · obtain rfl : k = ps.length := by omega
          rw [List.take_length] at hown
          go_wp2
          go_ret
          exact ⟨_, rfl, hown.made hbr⟩

end Go.Proofs.Ytcibihakjcenaaa

namespace Go.Proofs.Ytcibihakjcenaaa
open Go.RowKit

theorem blk_cell {w : World} {g : Nat} {cs : Array Value} {t : TypeId} {f : Nat × Nat} (h : w.heap[g]? = some (.cells cs t f)) (i : Nat) : w.cell? ⟨g, i, none⟩ = cs[i]? := by simp [World.cell?, h]
theorem blk_frozen {w : World} {g : Nat} {cs : Array Value} {t : TypeId} (h : w.heap[g]? = some (.cells cs t (0, 0))) (i : Nat) : w.frozen? ⟨g, i, none⟩ = false := by simp [World.frozen?, h]

theorem two_new (w : World) (o1 o2 : Obj) : ((w.alloc o1).alloc o2).heap[w.heap.size]? = some o1 ∧ ((w.alloc o1).alloc o2).heap[w.heap.size + 1]? = some o2 := by
  refine ⟨?_, ?_⟩
  · rw [Below.heap_alloc (w.alloc o1) o2 w.heap.size (by simp), World.alloc_heap_new]
  · have := World.alloc_heap_new (w.alloc o1) o2
    simpa using this
theorem Bytes.setOff {w : World} {lo hi g i : Nat} {v u : Value} {l : List UInt8} (h : Bytes w lo hi v l) (hg : g < lo ∨ hi ≤ g) : Bytes (w.setCell ⟨g, i, none⟩ u) lo hi v l :=
  h.keep fun b o h1 h2 => World.cell?_setCell_other _ _ _ _ (by intro h; injection h; omega)

set_option maxRecDepth 100000 in
set_option maxHeartbeats 400000 in
theorem itwin_any (x : ItemL) (v : Value) (w : World) (hv : Bytes w 0 w.heap.size v x.val) (hl : x.val.length ≤ 1000000000) :
    Calls Try.prog 158 #[itemV x v] w fun e w' => ∃ u, e = .returned (itemV x u) ∧ MadeB w w' u x.val := by
  have hb1 := (Below.refl w.heap.size w).alloc (Nat.le_refl _) (.cells #[bV x.key.kind, wV x.key.id, wV x.key.off, .int .i64 x.ref, v] 56)
  have hb2 := hb1.alloc (by simp) (.cells #[.int .u8 0, .int .u32 0, .int .u32 0, .int .i64 0, .slice none 0 0] 56)
  have hv2 := hv.step hb2
  have hc := bclone_any _ _ _ hv2 hl
  obtain ⟨W, hW⟩ : ∃ W, (w.alloc (.cells #[bV x.key.kind, wV x.key.id, wV x.key.off, .int .i64 x.ref, v] 56)).alloc (.cells #[.int .u8 0, .int .u32 0, .int .u32 0, .int .i64 0, .slice none 0 0] 56) = W := ⟨_, rfl⟩
  have hz : W.heap.size = w.heap.size + 2 := by rw [← hW]; simp
  have q1 : W.heap[w.heap.size]? = some (.cells #[bV x.key.kind, wV x.key.id, wV x.key.off, .int .i64 x.ref, v] 56 (0, 0)) := by rw [← hW]; exact (two_new _ _ _).1
  have q2 : W.heap[w.heap.size + 1]? = some (.cells #[.int .u8 0, .int .u32 0, .int .u32 0, .int .i64 0, .slice none 0 0] 56 (0, 0)) := by rw [← hW]; exact (two_new _ _ _).2
  rw [hW] at hc hb2
  obtain ⟨a, c, rfl, g1, g2, _, _⟩ := hv
  obtain ⟨⟨k, i, o⟩, r, l⟩ := x
  have Hc := Lib.hid hc
  have Hq := Lib.hid (And.intro q1 (And.intro q2 (And.intro hW hz)))
  clear hv2 hb1 hc q1 q2 hW hz
  simp only [itemV, bV, wV] at *
  go_enter Try.func158, Try.ntmps158
  go_wp2_with fail
  rw [Hq.out.2.2.1]
  refine Hc.out.mono ?_
  rintro e w1 ⟨u, rfl, hm⟩
  obtain ⟨q1, q2, _, hz⟩ := Hq.out
  have p1 := (hm.below.block w.heap.size (by omega)).trans q1
  have p2 := (hm.below.block (w.heap.size + 1) (by omega)).trans q2
  have hB := below_step hb2 hb2.size hm.below
  obtain ⟨ua, uc, rfl, u1, u2⟩ := hm.bytes.form rfl
  have c0 := blk_cell p1 0
  have c1 := blk_cell p1 1
  have c2 := blk_cell p1 2
  have c3 := blk_cell p1 3
  have c4 := blk_cell p1 4
  have f4 := blk_frozen p1 4
  have d0 := blk_cell p2 0
  have d1 := blk_cell p2 1
  have d2 := blk_cell p2 2
  have d3 := blk_cell p2 3
  have d4 := blk_cell p2 4
  have e0 := blk_frozen p2 0
  have e1 := blk_frozen p2 1
  have e2 := blk_frozen p2 2
  have e3 := blk_frozen p2 3
  have e4 := blk_frozen p2 4
  simp at c0 c1 c2 c3 c4 d0 d1 d2 d3 d4
  have Hm := Lib.hid hm
  have HB := Lib.hid (And.intro hB hz)
  clear p1 p2 q1 q2 hm hB hz hb2
  go_wp2_with fail
  refine bodyPost_ret (v := .agg #[.int .u8 (k.toNat : Int), .int .u32 (i.toNat : Int), .int .u32 (o.toNat : Int), .int .i64 r, .slice ua l.length uc]) (by simp [results, Try.results158, go_sem, d0, d1, d2, d3, d4]) rfl ⟨_, rfl, ?_⟩
  obtain ⟨hB, hz⟩ := HB.out
  have hm := Hm.out
  have s1 : w.heap.size < W.heap.size := by omega
  have s2 : w.heap.size + 1 < W.heap.size := by omega
  refine ⟨?_, ?_, ?_⟩
  · refine Bytes.more (lo := W.heap.size) (hi := w1.heap.size) ?_ (by omega) (by simp)
    exact (((((hm.bytes.setOff (.inl s1)).setOff (.inl s2)).setOff (.inl s2)).setOff (.inl s2)).setOff (.inl s2)).setOff (.inl s2)
  · exact (((((hm.thawed.set _ _).set _ _).set _ _).set _ _).set _ _).set _ _
  · exact (((((hB.setCell (p := ⟨w.heap.size, 4, none⟩) (Nat.le_refl _) _).setCell (p := ⟨w.heap.size + 1, 0, none⟩) (Nat.le_succ _) _).setCell (p := ⟨w.heap.size + 1, 1, none⟩) (Nat.le_succ _) _).setCell (p := ⟨w.heap.size + 1, 2, none⟩) (Nat.le_succ _) _).setCell (p := ⟨w.heap.size + 1, 3, none⟩) (Nat.le_succ _) _).setCell (p := ⟨w.heap.size + 1, 4, none⟩) (Nat.le_succ _) _
end Go.Proofs.Ytcibihakjcenaaa

namespace Go.Proofs.Ytcibihakjcenaaa
open Go.RowKit

/-- P holds, wherever the blocks from lo on, below hi, are as they are here. -/
def Lv (lo hi : Nat) (P : World → Prop) (V : World) : Prop := hi ≤ V.heap.size ∧ ∀ V' : World, (∀ k, lo ≤ k → k < hi → V'.heap[k]? = V.heap[k]?) → P V'
section
variable {lo hi : Nat} {P : World → Prop} {V V' : World}
theorem Lv.get (h : Lv lo hi P V) : P V := h.2 V fun _ _ _ => rfl
theorem Lv.hi_le (h : Lv lo hi P V) : hi ≤ V.heap.size := h.1
theorem Lv.step (h : Lv lo hi P V) (hb : Below V.heap.size V V') : Lv lo hi P V' :=
  ⟨Nat.le_trans h.1 hb.size, fun W hW => h.2 W fun k h1 h2 => (hW k h1 h2).trans (hb.block k (Nat.lt_of_lt_of_le h2 h.1))⟩
/-- Blocks from n0 on, below h0, have turned, and no other ones. -/
theorem Lv.out {n0 h0 : Nat} (h : Lv lo hi P V) (hs : V.heap.size ≤ V'.heap.size) (hf : ∀ x, x < V.heap.size → (x < n0 ∨ h0 ≤ x) → V'.heap[x]? = V.heap[x]?) (hd : hi ≤ n0 ∨ h0 ≤ lo) : Lv lo hi P V' :=
  ⟨Nat.le_trans h.1 hs, fun W hW => h.2 W fun k h1 h2 => (hW k h1 h2).trans (hf k (Nat.lt_of_lt_of_le h2 h.1) (by omega))⟩
theorem Lv.mk' (h : hi ≤ V.heap.size) (hk : ∀ V', Kp lo hi V V' → P V') : Lv lo hi P V := ⟨h, fun W hW => hk W fun b o h1 h2 => ⟨heap_cell (hW b h1 h2) o, heap_frozen (hW b h1 h2) o⟩⟩
theorem Lv.imp {Q : World → Prop} (h : Lv lo hi P V) (hi' : ∀ W, P W → Q W) : Lv lo hi Q V := ⟨h.1, fun W hW => hi' W (h.2 W hW)⟩
theorem Lv.and {Q : World → Prop} (h : Lv lo hi P V) (k : Lv lo hi Q V) : Lv lo hi (fun W => P W ∧ Q W) V := ⟨h.1, fun W hW => ⟨h.2 W hW, k.2 W hW⟩⟩
theorem Lv.more {lo' hi' : Nat} (h : Lv lo hi P V) (h1 : lo' ≤ lo) (h2 : hi ≤ hi') (h3 : hi' ≤ V.heap.size) : Lv lo' hi' P V := ⟨h3, fun W hW => h.2 W fun k g1 g2 => hW k (by omega) (by omega)⟩
end
/-- A known block. -/
def LK (g : Nat) (o : Obj) (V : World) : Prop := Lv g (g + 1) (fun W => W.heap[g]? = some o) V
theorem LK.of {V : World} {g : Nat} {o : Obj} (h : V.heap[g]? = some o) : LK g o V := ⟨(Array.getElem?_eq_some_iff.1 h).1, fun _ hW => (hW g (Nat.le_refl _) (Nat.lt_succ_self _)).trans h⟩
theorem LK.new (w : World) (o : Obj) : LK w.heap.size o (w.alloc o) := LK.of (World.alloc_heap_new w o)
theorem LK.blk {V : World} {g : Nat} {o : Obj} (h : LK g o V) : V.heap[g]? = some o := Lv.get h
theorem LK.lt {V : World} {g : Nat} {o : Obj} (h : LK g o V) : g < V.heap.size := Lv.hi_le h
theorem LK.step {V V' : World} {g : Nat} {o : Obj} (h : LK g o V) (hb : Below V.heap.size V V') : LK g o V' := Lv.step h hb
theorem LK.out {V V' : World} {g n0 h0 : Nat} {o : Obj} (h : LK g o V) (hs : V.heap.size ≤ V'.heap.size) (hf : ∀ x, x < V.heap.size → (x < n0 ∨ h0 ≤ x) → V'.heap[x]? = V.heap[x]?) (hd : g < n0 ∨ h0 ≤ g) : LK g o V' := Lv.out h hs hf (by omega)
theorem LK.cell {V : World} {g : Nat} {cs : Array Value} {t : TypeId} {f : Nat × Nat} (h : LK g (.cells cs t f) V) (i : Nat) : V.cell? ⟨g, i, none⟩ = cs[i]? := blk_cell h.blk i
theorem LK.frozen {V : World} {g : Nat} {cs : Array Value} {t : TypeId} (h : LK g (.cells cs t (0, 0)) V) (i : Nat) : V.frozen? ⟨g, i, none⟩ = false := blk_frozen h.blk i
/-- A disk that lies from lo on, below hi. -/
def LD (lo hi : Nat) (b u : Value) (d : DiskL) (V : World) : Prop := Lv lo hi (fun W => DiskV W lo hi b u d) V
theorem LD.of {V : World} {lo hi : Nat} {b u : Value} {d : DiskL} (h : DiskV V lo hi b u d) (hh : hi ≤ V.heap.size) : LD lo hi b u d V := Lv.mk' hh fun _ hk => ⟨Sl.keep h.1 hk, Sl.keep h.2 hk⟩
theorem LD.v {V : World} {lo hi : Nat} {b u : Value} {d : DiskL} (h : LD lo hi b u d V) : DiskV V 0 V.heap.size b u d := DiskV.more (Lv.get h) (Nat.zero_le _) (Lv.hi_le h)
theorem LD.step {V V' : World} {lo hi : Nat} {b u : Value} {d : DiskL} (h : LD lo hi b u d V) (hb : Below V.heap.size V V') : LD lo hi b u d V' := Lv.step h hb
theorem LD.out {V V' : World} {lo hi n0 h0 : Nat} {b u : Value} {d : DiskL} (h : LD lo hi b u d V) (hs : V.heap.size ≤ V'.heap.size) (hf : ∀ x, x < V.heap.size → (x < n0 ∨ h0 ≤ x) → V'.heap[x]? = V.heap[x]?) (hd : hi ≤ n0 ∨ h0 ≤ lo) : LD lo hi b u d V' := Lv.out h hs hf hd
/-- The same, and it may be written. -/
def LT (lo hi : Nat) (b u : Value) (d : DiskL) (V : World) : Prop := Lv lo hi (fun W => DiskT W lo hi b u d) V
theorem DiskT.kept {w w' : World} {lo hi : Nat} {b u : Value} {d : DiskL} (h : DiskT w lo hi b u d) (hk : Kp lo hi w w') : DiskT w' lo hi b u d := ⟨Sl.keep h.1 hk, Sl.keep h.2 hk⟩
theorem LT.of {V V' : World} {b u : Value} {d : DiskL} (h : MadeD V V' b u d) : LT V.heap.size V'.heap.size b u d V' := Lv.mk' (Nat.le_refl _) fun _ hk => h.disk.kept hk
theorem LT.t {V : World} {lo hi : Nat} {b u : Value} {d : DiskL} (h : LT lo hi b u d V) : DiskT V lo hi b u d := Lv.get h
theorem LT.d {V : World} {lo hi : Nat} {b u : Value} {d : DiskL} (h : LT lo hi b u d V) : LD lo hi b u d V := Lv.imp h fun _ k => k.v
theorem LT.v {V : World} {lo hi : Nat} {b u : Value} {d : DiskL} (h : LT lo hi b u d V) : DiskV V 0 V.heap.size b u d := h.d.v
theorem LT.step {V V' : World} {lo hi : Nat} {b u : Value} {d : DiskL} (h : LT lo hi b u d V) (hb : Below V.heap.size V V') : LT lo hi b u d V' := Lv.step h hb
theorem LT.out {V V' : World} {lo hi n0 h0 : Nat} {b u : Value} {d : DiskL} (h : LT lo hi b u d V) (hs : V.heap.size ≤ V'.heap.size) (hf : ∀ x, x < V.heap.size → (x < n0 ∨ h0 ≤ x) → V'.heap[x]? = V.heap[x]?) (hd : hi ≤ n0 ∨ h0 ≤ lo) : LT lo hi b u d V' := Lv.out h hs hf hd
/-- Bytes that lie from lo on, below hi. -/
def LB (lo hi : Nat) (v : Value) (l : List UInt8) (V : World) : Prop := Lv lo hi (fun W => Bytes W lo hi v l) V
theorem LB.of {V : World} {lo hi : Nat} {v : Value} {l : List UInt8} (h : Bytes V lo hi v l) (hh : hi ≤ V.heap.size) : LB lo hi v l V := Lv.mk' hh fun _ hk => h.kept hk
theorem LB.v {V : World} {lo hi : Nat} {v : Value} {l : List UInt8} (h : LB lo hi v l V) : Bytes V 0 V.heap.size v l := Bytes.more (Lv.get h) (Nat.zero_le _) (Lv.hi_le h)
theorem LB.step {V V' : World} {lo hi : Nat} {v : Value} {l : List UInt8} (h : LB lo hi v l V) (hb : Below V.heap.size V V') : LB lo hi v l V' := Lv.step h hb
theorem LB.out {V V' : World} {lo hi n0 h0 : Nat} {v : Value} {l : List UInt8} (h : LB lo hi v l V) (hs : V.heap.size ≤ V'.heap.size) (hf : ∀ x, x < V.heap.size → (x < n0 ∨ h0 ≤ x) → V'.heap[x]? = V.heap[x]?) (hd : hi ≤ n0 ∨ h0 ≤ lo) : LB lo hi v l V' := Lv.out h hs hf hd
/-- The same, and they may be written. -/
def LM (lo hi : Nat) (v : Value) (l : List UInt8) (V : World) : Prop := Lv lo hi (fun W => Bytes W lo hi v l ∧ Thawed W v) V
theorem LM.of {V V' : World} {v : Value} {l : List UInt8} (h : MadeB V V' v l) : LM V.heap.size V'.heap.size v l V' := Lv.mk' (Nat.le_refl _) fun _ hk => ⟨h.bytes.kept hk, thawed_kept h.bytes h.thawed hk⟩
theorem LM.b {V : World} {lo hi : Nat} {v : Value} {l : List UInt8} (h : LM lo hi v l V) : LB lo hi v l V := Lv.imp h fun _ k => k.1
theorem LM.v {V : World} {lo hi : Nat} {v : Value} {l : List UInt8} (h : LM lo hi v l V) : Bytes V 0 V.heap.size v l := h.b.v
theorem LM.m {V : World} {lo hi : Nat} {v : Value} {l : List UInt8} (h : LM lo hi v l V) : Bytes V lo hi v l ∧ Thawed V v := Lv.get h
theorem LM.step {V V' : World} {lo hi : Nat} {v : Value} {l : List UInt8} (h : LM lo hi v l V) (hb : Below V.heap.size V V') : LM lo hi v l V' := Lv.step h hb
theorem LM.out {V V' : World} {lo hi n0 h0 : Nat} {v : Value} {l : List UInt8} (h : LM lo hi v l V) (hs : V.heap.size ≤ V'.heap.size) (hf : ∀ x, x < V.heap.size → (x < n0 ∨ h0 ≤ x) → V'.heap[x]? = V.heap[x]?) (hd : hi ≤ n0 ∨ h0 ≤ lo) : LM lo hi v l V' := Lv.out h hs hf hd
theorem LM.set {V : World} {lo hi b off n c : Nat} {L : List UInt8} (h : LM lo hi (.slice (some ⟨b, off, none⟩) n c) L V) (j : Nat) (x : UInt8) (hj : j < L.length) : LM lo hi (.slice (some ⟨b, off, none⟩) n c) (L.set j x) (V.setCell ⟨b, off + j, none⟩ (bV x)) :=
  Lv.mk' (by rw [World.size_setCell]; exact Lv.hi_le h) fun _ hk => ⟨(h.m.1.set j x hj).kept hk, thawed_kept (h.m.1.set j x hj) (h.m.2.set _ _) hk⟩
/-- A slice that lies from lo on, below hi. -/
def LS {α : Type} (r : Rd α) (lo hi : Nat) (v : Value) (l : List α) (V : World) : Prop := Lv lo hi (fun W => Sl r W lo hi v l) V
theorem LS.of {α : Type} {r : Rd α} {V : World} {lo hi : Nat} {v : Value} {l : List α} (h : Sl r V lo hi v l) (hh : hi ≤ V.heap.size) : LS r lo hi v l V := Lv.mk' hh fun _ hk => h.keep hk
theorem LS.v {α : Type} {r : Rd α} {V : World} {lo hi : Nat} {v : Value} {l : List α} (h : LS r lo hi v l V) : Sl r V 0 V.heap.size v l := Sl.more (Lv.get h) (Nat.zero_le _) (Lv.hi_le h)
theorem LS.step {α : Type} {r : Rd α} {V V' : World} {lo hi : Nat} {v : Value} {l : List α} (h : LS r lo hi v l V) (hb : Below V.heap.size V V') : LS r lo hi v l V' := Lv.step h hb
theorem LS.out {α : Type} {r : Rd α} {V V' : World} {lo hi n0 h0 : Nat} {v : Value} {l : List α} (h : LS r lo hi v l V) (hs : V.heap.size ≤ V'.heap.size) (hf : ∀ x, x < V.heap.size → (x < n0 ∨ h0 ≤ x) → V'.heap[x]? = V.heap[x]?) (hd : hi ≤ n0 ∨ h0 ≤ lo) : LS r lo hi v l V' := Lv.out h hs hf hd
/-- Nothing below w has turned. -/
def LW (w V : World) : Prop := Below w.heap.size w V
theorem LW.step {w V V' : World} (h : LW w V) (hb : Below V.heap.size V V') : LW w V' := below_step h (Below.size h) hb
theorem LW.outB {w V V' : World} {n0 : Nat} (h : LW w V) (hb : Below n0 V V') (hn : w.heap.size ≤ n0) : LW w V' := Below.trans h (hb.mono hn)
end Go.Proofs.Ytcibihakjcenaaa

namespace Go.Proofs.Ytcibihakjcenaaa
open Go.RowKit

set_option maxHeartbeats 1000000 in
/-- slices.Clone. -/
theorem clone_any (v : Value) (l : List UInt8) (w : World) (hI : Bytes w 0 w.heap.size v l) (hl : l.length ≤ 1000000) :
    Calls Try.prog 106 #[v] w fun e w' => ∃ u, e = .returned u ∧ MadeB w w' u l := by
  obtain ⟨a, c, rfl, g1, g2, g3, g4⟩ := id hI
  have hnil := fun (w : World) (a : Option Addr) (n c n' c' : Nat) => Lib.run_eql_slice_nil (P := Try.prog) w 26 5 a n c n' c' Try.underlying26
  cases a with
  | none =>
    have hc := g4 rfl
    subst hc
    have h0 : l = [] := List.eq_nil_of_length_eq_zero (by omega)
    subst h0
    go_enter Try.func106, Try.ntmps106
    go_wp2
    go_ret
    exact ⟨_, rfl, MadeB.nil_ (Below.refl _ _)⟩
  | some ad =>
    clear g3 g4
    have hown : OwnB w.heap.size 5 (w.alloc (.cells #[] 5)) (.slice (some ⟨w.heap.size, 0, none⟩) 0 0) [] := ⟨by simp, .inr ⟨w.heap.size, 0, #[], rfl, Nat.le_refl _, World.alloc_heap_new w _, Nat.le_refl _, Nat.zero_le _, rfl, rfl⟩⟩
    have hb0 := (Below.refl w.heap.size w).alloc (Nat.le_refl _) (.cells #[] 5)
    have hI1 := hI.step hb0
    go_enter Try.func106, Try.ntmps106
    go_wp2_with (at_builtin; refine wpList_appB rfl _ _ 26 rfl w.heap.size 5 Try.underlying26 info_u8 _ [] rfl hown _ _ _ l rfl hI1 (by simp; omega) (by simp) ?_; intro u w1 hown1 hB1)
    go_ret
    exact ⟨_, rfl, hown1.made (hb0.trans hB1)⟩

end Go.Proofs.Ytcibihakjcenaaa

namespace Go.Proofs.Ytcibihakjcenaaa
open Go.RowKit

/-- The greatest byte. -/
def maxL (l : List UInt8) : Nat := l.foldl (fun m x => max m x.toNat) 0
theorem maxL_step (l : List UInt8) (k : Nat) (hk : k < l.length) : maxL (l.take (k + 1)) = max (maxL (l.take k)) (l.getD k 0).toNat := by
  unfold maxL
  rw [List.take_succ_eq_append_getElem hk, List.foldl_append]
  simp [hk]
/-- A table may be. -/
def mayT (l : List UInt8) : Bool := l.length == 256 && maxL (l.take 8) == 0
def errT (l : List UInt8) (at_ : Int) (e : UInt8) : Int :=
  if mayT l then (if at_ < 8 ∨ 256 ≤ at_ then 2 else if l.getD at_.toNat 0 = e then 70 else 0) else 8
def outT (l : List UInt8) (at_ : Int) (b e : UInt8) : List UInt8 :=
  if errT l at_ e = 0 then l.set at_.toNat (l.getD at_.toNat 0 + b) else []
theorem mayT_len {l : List UInt8} (h : mayT l = true) : l.length = 256 := by
  unfold mayT at h
  simp at h
  exact h.1
theorem mayT_set (l : List UInt8) (i : Nat) (x : UInt8) (h : 8 ≤ i) : mayT (l.set i x) = mayT l := by
  unfold mayT
  rw [List.length_set, List.take_set_of_le h]

set_option maxHeartbeats 1000000 in
/-- slices.Max. -/
theorem max_any (v : Value) (l : List UInt8) (w : World) (hI : Bytes w 0 w.heap.size v l) (h0 : 0 < l.length) :
    Calls Try.prog 138 #[v] w fun e w' => e = .returned (.int .u8 (maxL l : Nat)) ∧ w' = w := by
  obtain ⟨a, c, rfl, g1, g2, g3, -⟩ := hI
  unfold maxLen at g2
  obtain ⟨b, off, rfl, _, _, hc⟩ := g3 h0
  have hc' : ∀ j, j < l.length → w.cell? ⟨b, off + j, none⟩ = some (.int .u8 ((l.getD j 0).toNat : Int)) := fun j hj => hc j (l.getD j 0) (by simp [hj])
  have hc0 : w.cell? ⟨b, off, none⟩ = some (.int .u8 ((l.getD 0 0).toNat : Int)) := by simpa using hc' 0 h0
  clear hc g3
  go_enter Try.func138, Try.ntmps138
  go_wp2
  go_loopg [3, 4] l.length (fun g m i wr => ∃ k : Nat, 0 < k ∧ k ≤ l.length ∧ l.length - k ≤ g ∧ i = .int .i64 k ∧ m = .int .u8 (maxL (l.take k) : Nat) ∧ wr = w)
  case atStart => exact ⟨1, Nat.one_pos, h0, by omega, rfl, by rw [maxL_step l 0 h0]; simp [maxL, h0], rfl⟩
  case round =>
    obtain ⟨k, hk0, hk, hg, rfl, rfl, rfl⟩ := hrel
    by_cases hlt : k < l.length
    · have ck := hc' k hlt
      have S := Lib.hid (maxL_step l k hlt)
      clear hc' hc0
      generalize maxL (l.take k) = mm at *
      go_wp2
      go_roundg (l.length - (k + 1))
      case measure => omega
      case rel => exact ⟨k + 1, Nat.succ_pos k, by omega, Nat.le_refl _, by go_num, by rw [S.out]; simp [hlt]; omega, rfl⟩
    · have hkl : k = l.length := by omega
      subst hkl
      clear hc' hc0
      rw [List.take_length]
      go_wp2
      go_ret
      exact ⟨rfl, rfl⟩

set_option maxHeartbeats 1000000 in
/-- count.New. -/
theorem cnew_any (w : World) :
    Calls Try.prog 123 #[] w fun e w' => ∃ u, e = .returned u ∧ MadeB w w' u (List.replicate 256 0) := by
  go_enter Try.func123, Try.ntmps123
  go_wp2_with (refine wpList_makeB rfl (.const (.int .i64 256)) (.const (.int .i64 256)) 26 rfl 5 Try.underlying26 info_u8 256 rfl rfl (by omega) ?_; intro w1 hrow hb)
  go_ret
  have h1 := hrow.bytes (by rw [List.length_replicate]; unfold maxLen; omega)
  rw [List.length_replicate] at h1
  exact ⟨_, rfl, h1.more (Nat.le_refl _) (by have := hrow.lt; omega), hrow.thawed _ _, hb⟩

set_option maxHeartbeats 1000000 in
/-- count.Check. -/
theorem ccheck_any (v : Value) (l : List UInt8) (w : World) (hI : Bytes w 0 w.heap.size v l) :
    Calls Try.prog 112 #[v] w fun e w' => e = .returned (.int .i64 (if mayT l then 0 else 8)) ∧ w' = w := by
  by_cases h : l.length = 256
  · obtain ⟨b, off, c, rfl, -, hc2, hc3, hc4, -⟩ := hI.at_n h (by omega)
    unfold maxLen at hc4
    have hm := max_any (.slice (some ⟨b, off, none⟩) 8 c) (l.take 8) w (hI.pre 8 (by omega)) (by simp; omega)
    have hM : mayT l = (maxL (l.take 8) == 0) := by unfold mayT; simp [h]
    rw [hM]
    clear hM
    generalize maxL (l.take 8) = m at *
    go_enter Try.func112, Try.ntmps112
    go_wp2_with fail
    refine hm.mono ?_
    rintro e w1 ⟨rfl, rfl⟩
    by_cases h1 : m = 0
    · subst h1
      go_wp2
      go_ret
      exact ⟨rfl, rfl⟩
    · have h2 : ¬ (m == 0) = true := by simp [h1]
      go_wp2
      go_ret
      exact ⟨rfl, rfl⟩
  · have hM : mayT l = false := by unfold mayT; simp [h]
    obtain ⟨a, c, rfl, g1, g2, -, -⟩ := hI
    rw [hM]
    have h1 : ¬ (l.length : Int) = 256 := by omega
    go_enter Try.func112, Try.ntmps112
    go_wp2
    go_ret
    exact ⟨rfl, rfl⟩

end Go.Proofs.Ytcibihakjcenaaa

namespace Go.Proofs.Ytcibihakjcenaaa

theorem u8_inj {x y : UInt8} (h : x.toNat = y.toNat) : x = y := UInt8.toNat_inj.1 h
theorem u8_up {x : UInt8} (h : x ≠ 255) : (x + 1).toNat = x.toNat + 1 := by
  have h1 : x.toNat ≠ 255 := fun e => h (u8_inj e)
  have h2 := UInt8.toNat_lt x
  rw [UInt8.toNat_add, show (1 : UInt8).toNat = 1 from rfl]
  omega
theorem u8_down {x : UInt8} (h : x ≠ 0) : (x + 255).toNat = x.toNat - 1 := by
  have h1 : x.toNat ≠ 0 := fun e => h (u8_inj e)
  have h2 := UInt8.toNat_lt x
  rw [UInt8.toNat_add, show (255 : UInt8).toNat = 255 from rfl]
  omega
theorem u8_up0 {x : UInt8} (h : x ≠ 255) : x + 1 ≠ 0 := fun e => by
  have := u8_up h
  rw [e, show (0 : UInt8).toNat = 0 from rfl] at this
  omega
theorem u8_down0 {x : UInt8} (h : x ≠ 0) : x + 255 ≠ 255 := fun e => by
  have := u8_down h
  have h2 := UInt8.toNat_lt x
  rw [e, show (255 : UInt8).toNat = 255 from rfl] at this
  omega
theorem u8_both (x : UInt8) : x + 1 + 255 = x := by
  apply u8_inj
  have h2 := UInt8.toNat_lt x
  rw [UInt8.toNat_add, UInt8.toNat_add, show (1 : UInt8).toNat = 1 from rfl, show (255 : UInt8).toNat = 255 from rfl]
  omega
theorem u8_both' (x : UInt8) : x + 255 + 1 = x := by
  apply u8_inj
  have h2 := UInt8.toNat_lt x
  rw [UInt8.toNat_add, UInt8.toNat_add, show (1 : UInt8).toNat = 1 from rfl, show (255 : UInt8).toNat = 255 from rfl]
  omega

theorem errT_zero {l : List UInt8} {p : Int} {e : UInt8} : errT l p e = 0 ↔ mayT l = true ∧ 8 ≤ p ∧ p < 256 ∧ l.getD p.toNat 0 ≠ e := by
  unfold errT
  split
  · rename_i h
    split
    · rename_i h1
      constructor
      · intro h2; cases h2
      · rintro ⟨_, h2, h3, _⟩; omega
    · rename_i h1
      split
      · rename_i h2
        constructor
        · intro h3; cases h3
        · rintro ⟨_, _, _, h3⟩; exact absurd h2 h3
      · rename_i h2
        exact ⟨fun _ => ⟨h, by omega, by omega, h2⟩, fun _ => rfl⟩
  · rename_i h
    constructor
    · intro h2; cases h2
    · rintro ⟨h2, _⟩; exact absurd h2 h

theorem cgetD_set_self (l : List UInt8) (i : Nat) (x : UInt8) (h : i < l.length) : (l.set i x).getD i 0 = x := by simp [h]
theorem bget_set_ne (l : List UInt8) (i j : Nat) (x : UInt8) (h : i ≠ j) : (l.set i x).getD j 0 = l.getD j 0 := by simp [List.getElem?_set_ne h]
theorem set_getD (l : List UInt8) (i : Nat) (h : i < l.length) : l.set i (l.getD i 0) = l := by simp [h]

theorem down_up {l : List UInt8} {p : Int} (h : errT l p 255 = 0) : errT (outT l p 1 255) p 0 = 0 ∧ outT (outT l p 1 255) p 255 0 = l := by
  obtain ⟨h1, h2, h3, h4⟩ := errT_zero.1 h
  have hl := mayT_len h1
  have e1 : outT l p 1 255 = l.set p.toNat (l.getD p.toNat 0 + 1) := by unfold outT; rw [if_pos h]
  have g1 : (l.set p.toNat (l.getD p.toNat 0 + 1)).getD p.toNat 0 = l.getD p.toNat 0 + 1 := cgetD_set_self _ _ _ (by omega)
  have hz : errT (outT l p 1 255) p 0 = 0 := by
    rw [e1]
    refine errT_zero.2 ⟨by rw [mayT_set _ _ _ (by omega)]; exact h1, h2, h3, ?_⟩
    rw [g1]
    exact u8_up0 h4
  refine ⟨hz, ?_⟩
  unfold outT at hz ⊢
  rw [if_pos h] at hz ⊢
  rw [if_pos hz, g1, List.set_set, u8_both, set_getD _ _ (by omega)]

/-- Counts of two blocks are turned in either order. -/
theorem apart {l : List UInt8} {p q : Int} (h : errT l p 255 = 0) (k : errT l q 0 = 0) :
    errT (outT l p 1 255) q 0 = 0 ∧ errT (outT l q 255 0) p 255 = 0 ∧ outT (outT l p 1 255) q 255 0 = outT (outT l q 255 0) p 1 255 ∧ (p = q → outT (outT l p 1 255) q 255 0 = l) := by
  by_cases e : p = q
  · subst e
    obtain ⟨h1, h2, h3, h4⟩ := errT_zero.1 h
    obtain ⟨_, _, _, k4⟩ := errT_zero.1 k
    have hl := mayT_len h1
    obtain ⟨d1, d2⟩ := down_up h
    have e1 : outT l p 255 0 = l.set p.toNat (l.getD p.toNat 0 + 255) := by unfold outT; rw [if_pos k]
    have g1 : (l.set p.toNat (l.getD p.toNat 0 + 255)).getD p.toNat 0 = l.getD p.toNat 0 + 255 := cgetD_set_self _ _ _ (by omega)
    have hz : errT (outT l p 255 0) p 255 = 0 := by
      rw [e1]
      refine errT_zero.2 ⟨by rw [mayT_set _ _ _ (by omega)]; exact h1, h2, h3, ?_⟩
      rw [g1]
      exact u8_down0 k4
    refine ⟨d1, hz, ?_, fun _ => d2⟩
    rw [d2]
    unfold outT at hz ⊢
    rw [if_pos k] at hz ⊢
    rw [if_pos hz, g1, List.set_set, u8_both', set_getD _ _ (by omega)]
  · obtain ⟨h1, h2, h3, h4⟩ := errT_zero.1 h
    obtain ⟨_, k2, k3, k4⟩ := errT_zero.1 k
    have hl := mayT_len h1
    have hne : p.toNat ≠ q.toNat := by omega
    have e1 : outT l p 1 255 = l.set p.toNat (l.getD p.toNat 0 + 1) := by unfold outT; rw [if_pos h]
    have e2 : outT l q 255 0 = l.set q.toNat (l.getD q.toNat 0 + 255) := by unfold outT; rw [if_pos k]
    have z1 : errT (outT l p 1 255) q 0 = 0 := by
      rw [e1]
      refine errT_zero.2 ⟨by rw [mayT_set _ _ _ (by omega)]; exact h1, k2, k3, ?_⟩
      rw [bget_set_ne _ _ _ _ hne]
      exact k4
    have z2 : errT (outT l q 255 0) p 255 = 0 := by
      rw [e2]
      refine errT_zero.2 ⟨by rw [mayT_set _ _ _ (by omega)]; exact h1, h2, h3, ?_⟩
      rw [bget_set_ne _ _ _ _ (Ne.symm hne)]
      exact h4
    refine ⟨z1, z2, ?_, fun h => absurd h e⟩
    rw [e1] at z1 ⊢
    rw [e2] at z2 ⊢
    unfold outT
    rw [if_pos z1, if_pos z2, bget_set_ne _ _ _ _ hne, bget_set_ne _ _ _ _ (Ne.symm hne), List.set_comm _ _ hne]

end Go.Proofs.Ytcibihakjcenaaa

namespace Go.Proofs.Ytcibihakjcenaaa
open Go.RowKit
theorem numOf_fourL (n : Nat) (h : n < 4294967296) : numOf (fourL n) = n := by
  simp [numOf, fourL, UInt8.toNat_ofNat']
  omega
theorem numOf_twoL (n : Nat) (h : n < 65536) : numOf (twoL n) = n := by
  simp [numOf, twoL, UInt8.toNat_ofNat']
  omega
theorem two_of (l : List UInt8) (k : Nat) (h : k + 2 ≤ l.length) : twoL (numOf ((l.drop k).take 2)) = (l.drop k).take 2 := by
  have hk : (l.drop k).length = l.length - k := by simp
  match (l.drop k), hk with
  | a :: b :: r, _ =>
    have ha := a.toNat_lt
    have hb := b.toNat_lt
    simp only [List.take_succ_cons, List.take_zero, numOf, twoL, List.cons.injEq, and_true]
    refine ⟨?_, ?_⟩ <;> (apply UInt8.toNat_inj.1; simp only [UInt8.toNat_ofNat']; omega)
  | [], hk => simp at hk; omega
  | [a], hk => simp at hk; omega
theorem four_of (l : List UInt8) (k : Nat) (h : k + 4 ≤ l.length) : fourL (numOf ((l.drop k).take 4)) = (l.drop k).take 4 := by
  have hk : (l.drop k).length = l.length - k := by simp
  match (l.drop k), hk with
  | a :: b :: c :: d :: r, _ =>
    have ha := a.toNat_lt
    have hb := b.toNat_lt
    have hc := c.toNat_lt
    have hd := d.toNat_lt
    simp only [List.take_succ_cons, List.take_zero, numOf, fourL, List.cons.injEq, and_true]
    refine ⟨?_, ?_, ?_, ?_⟩ <;> (apply UInt8.toNat_inj.1; simp only [UInt8.toNat_ofNat']; omega)
  | [], hk => simp at hk; omega
  | [a], hk => simp at hk; omega
  | [a, b], hk => simp at hk; omega
  | [a, b, c], hk => simp at hk; omega
theorem get_yes' (l : List UInt8) (k many : Nat) (h : k + many ≤ l.length) : getN l (k : Int) many = numOf ((l.drop k).take many) ∧ getE l (k : Int) many = 0 := by
  have h' : 0 ≤ (k : Int) ∧ (k : Int).toNat + many ≤ l.length := by omega
  unfold getN getE
  rw [if_pos h', if_pos h']
  simp
theorem getN_zero (l : List UInt8) (h : 4 ≤ l.length) : getN l 0 4 = numOf (l.take 4) := by
  have := (get_yes' l 0 4 (by omega)).1
  simpa using this
end Go.Proofs.Ytcibihakjcenaaa

namespace Go.Proofs.Ytcibihakjcenaaa
open Go.RowKit

theorem OwnB.step {base : Nat} {e : TypeId} {w w' : World} {v : Value} {l : List UInt8} (h : OwnB base e w v l) (hb : Below w.heap.size w w') : OwnB base e w' v l := by
  obtain ⟨h1, h2⟩ := h
  refine ⟨h1, ?_⟩
  rcases h2 with h2 | ⟨g, cap, cur, hv, hg, hh, r⟩
  · exact .inl h2
  · exact .inr ⟨g, cap, cur, hv, hg, (hb.block g (Array.getElem?_eq_some_iff.1 hh).1).trans hh, r⟩
theorem OwnB.le {base base' : Nat} {e : TypeId} {w : World} {v : Value} {l : List UInt8} (h : OwnB base e w v l) (hb : base' ≤ base) : OwnB base' e w v l :=
  ⟨h.1, h.2.elim Or.inl (fun ⟨g, cap, cur, hv, hg, r⟩ => Or.inr ⟨g, cap, cur, hv, Nat.le_trans hb hg, r⟩)⟩
theorem one_new (w : World) (t : TypeId) (n : Int) (x : UInt8) (hx : Value.int .u8 n = bV x) : Bytes (w.alloc (.cells #[.int .u8 n] t)) w.heap.size (w.heap.size + 1) (.slice (some ⟨w.heap.size, 0, none⟩) 1 1) [x] := by
  rw [hx]
  exact Bytes.new w t [x] (by simp [maxLen]) (0, 0)
theorem one_block (w : World) (o : Obj) (W' : World) (h : Below (w.alloc o).heap.size (w.alloc o) W') : W'.heap[w.heap.size]? = some o :=
  (h.block w.heap.size (by simp)).trans (World.alloc_heap_new w o)
/-- The bytes of an item. -/
def itemB (x : ItemL) : List UInt8 := [x.key.kind] ++ fourL x.key.id.toNat ++ fourL x.key.off.toNat ++ twoL x.ref.toNat ++ [UInt8.ofNat x.val.length] ++ x.val
theorem itemB_length (x : ItemL) : (itemB x).length = 12 + x.val.length := by simp [itemB, fourL, twoL]; omega

end Go.Proofs.Ytcibihakjcenaaa

namespace Go.Proofs.Ytcibihakjcenaaa
open Go.RowKit

/-- What the walk knows of an item that was laid into a block. -/
theorem item_box (x : ItemL) (v : Value) (w : World) (hv : Bytes w 0 w.heap.size v x.val) : ∃ W, w.alloc (.cells #[bV x.key.kind, wV x.key.id, wV x.key.off, .int .i64 x.ref, v] 56) = W ∧ Below w.heap.size w W ∧ Bytes W 0 W.heap.size v x.val ∧ W.heap.size = w.heap.size + 1 ∧
    ∀ W', Below W.heap.size W W' → W'.heap[w.heap.size]? = some (.cells #[bV x.key.kind, wV x.key.id, wV x.key.off, .int .i64 x.ref, v] 56 (0, 0)) := by
  have hB := (Below.refl w.heap.size w).alloc (Nat.le_refl _) (.cells #[bV x.key.kind, wV x.key.id, wV x.key.off, .int .i64 x.ref, v] 56)
  exact ⟨_, rfl, hB, hv.step hB, by simp, one_block _ _⟩
def wrI (x : ItemL) : List UInt8 := if mayI x then itemB x else []
theorem may_ref {x : ItemL} (h : mayI x = true) : 0 ≤ x.ref ∧ x.ref < 256 ∧ x.val.length ≤ 12 := by
  unfold mayI at h
  simp only [decide_eq_true_eq] at h
  omega

end Go.Proofs.Ytcibihakjcenaaa

