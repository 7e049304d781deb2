/- NodeUnlike: the words and contracts, part 11. -/
import Derived.Test.YtfdogefoodljaaaNodeUnlikeQ1
import Derived.Test.YtfdogefoodljaaaNodeUnlikeQ2
import Derived.Test.YtfdogefoodljaaaNodeUnlikeQ3
import Derived.Test.YtfdogefoodljaaaNodeUnlikeQ4
import Derived.Test.YtfdogefoodljaaaNodeUnlikeQ5
import Derived.Test.YtfdogefoodljaaaNodeUnlikeQ6
import Derived.Test.YtfdogefoodljaaaNodeUnlikeQ7
import Derived.Test.YtfdogefoodljaaaNodeUnlikeQ8
import Derived.Test.YtfdogefoodljaaaNodeUnlikeQ9
import Derived.Test.YtfdogefoodljaaaNodeUnlikeQ10
import Derived.WalkKit
import Derived.WalkLawsBesides
import Derived.WalkSpells
import Derived.Lib.Hide
import Derived.Laws.Rows
import Derived.Laws.AppendOwnNone
import Derived.Maps.AppendAt
import Derived.RangeFuncNested
import Derived.RangeFuncBound
import Derived.RangeFuncCalls
import Derived.RangeFuncLeaves
import Derived.RangeFuncBox
import Derived.Shelf.Abstract
import Derived.Shelf.RegionOpen
import Derived.OwnWalkIn
import Derived.TacticsInMore
import Derived.LoopNIn
import Derived.LoopIn
import Derived.ProofKit
import Derived.Deep.Slices
import Derived.WideShapes
import Derived.OrdersHeld
import Derived.Deep.QuietTactic
import Derived.BigQuiet
import Derived.StillTailTactics
import Derived.OpenShut
import Derived.Lib.SliceRun
import Derived.Lib.AppendZerosOnto
import Derived.Lib.Walk
import Derived.Deep.LoopGhost
import Derived.Laws.CopyOwn
import Derived.Deep.DeepCutAuto
import Derived.Laws.CopyRow
import Derived.Laws.MakeOwn
import Derived.Deep.RegionHeld
namespace Go.Proofs.Ytfdogefoodljaaa
open Go.RowKit

theorem TwinAt.bytes {B : Nat} {w : World} {gb gw g : Nat} {cur : Array Value} {d : DiskL} (h : TwinAt B w gb gw g cur d) (hT : (datD d).flatten.length ≤ 100000000) (j o : Nat) (hj : j < (datD d).length) (ho : 0 < ((datD d).getD j []).length → o = posD (datD d) j) :
    Bytes w g (g + 1) (.slice (some ⟨g, o, none⟩) ((datD d).getD j []).length ((datD d).getD j []).length) ((datD d).getD j []) ∧ Thawed w (.slice (some ⟨g, o, none⟩) ((datD d).getD j []).length ((datD d).getD j []).length) := by
  refine ⟨?_, fun b off m c he i _ => by cases he; exact h.row.frozen _⟩
  have hle : ((datD d).getD j []).length ≤ maxLen := by
    have := posD_succ (datD d) j hj
    have := posD_le (datD d) (j + 1)
    unfold maxLen
    omega
  refine ⟨_, _, rfl, Nat.le_refl _, hle, fun hp => ⟨g, o, rfl, Nat.le_refl _, Nat.lt_succ_self _, fun i x hx => ?_⟩, fun h => by cases h⟩
  rw [h.row.cell, ho hp]
  have hc := cut_laid (datD d) j hj
  rw [← hc, List.getElem?_take] at hx
  split at hx
  · rw [List.getElem?_drop] at hx
    rw [hx]; rfl
  · cases hx
theorem TwinAt.bl' {B : Nat} {w : World} {gb gw g : Nat} {cur : Array Value} {d : DiskL} (h : TwinAt B w gb gw g cur d) (hT : (datD d).flatten.length ≤ 100000000) (hn : d.blocks.length ≤ 100000) :
    Sl rBytesT w B w.heap.size (.slice (some ⟨gb, 0, none⟩) d.blocks.length d.blocks.length) d.blocks := by
  refine ⟨_, _, rfl, Nat.le_refl _, by unfold maxLen; omega, fun hp => ⟨gb, 0, rfl, h.lo.2.1, h.hi.2.1, fun i x hx => ?_⟩, fun h => by cases h⟩
  have hi : i < d.blocks.length := (List.getElem?_eq_some_iff.1 hx).1
  rw [get_l d.blocks [] i hi] at hx
  cases hx
  obtain ⟨o, h1, h2⟩ := h.bl i hi
  have hb := h.bytes hT i o (by rw [datD_length]; omega) (by rw [datD_b d i hi]; exact h2)
  rw [datD_b d i hi] at hb
  exact ⟨_, by simpa [rBytesT] using h1, hb.1.more h.lo.1 h.hi.1, hb.2⟩
theorem TwinAt.wt' {B : Nat} {w : World} {gb gw g : Nat} {cur : Array Value} {d : DiskL} (h : TwinAt B w gb gw g cur d) (hT : (datD d).flatten.length ≤ 100000000) (i : Nat) (hi : i < d.waits.length) :
    cur[i * 2]? = some (.int .i64 (d.waits.getD i ⟨0, []⟩).at_) ∧ ∃ v, cur[i * 2 + 1]? = some v ∧ Bytes w g (g + 1) v (d.waits.getD i ⟨0, []⟩).data ∧ Thawed w v := by
  obtain ⟨h0, o, h1, h2⟩ := h.wt i hi
  have hb := h.bytes hT (d.blocks.length + i) o (by rw [datD_length]; omega) (by rw [datD_w d i hi]; exact h2)
  rw [datD_w d i hi] at hb
  exact ⟨h0, _, h1, hb⟩
theorem TwinAt.disk {B : Nat} {w : World} {gb gw g : Nat} {cur : Array Value} {d : DiskL} (h : TwinAt B w gb gw g cur d) (hT : (datD d).flatten.length ≤ 100000000) (hn : d.blocks.length ≤ 100000) (hn2 : d.waits.length ≤ 100000) :
    DiskT w B w.heap.size (.slice (some ⟨gb, 0, none⟩) d.blocks.length d.blocks.length) (.slice (some ⟨gw, 0, none⟩) d.waits.length (d.waits.length + 1)) d := by
  refine ⟨h.bl' hT hn, _, _, rfl, Nat.le_succ _, by unfold maxLen; omega, fun hp => ⟨gw, 0, rfl, h.lo.2.2, h.hi.2.2, fun i x hx => ?_⟩, fun h => by cases h⟩
  have hi : i < d.waits.length := (List.getElem?_eq_some_iff.1 hx).1
  rw [get_l d.waits ⟨0, []⟩ i hi] at hx
  cases hx
  obtain ⟨h0, v, h1, h2, h3⟩ := h.wt' hT i hi
  refine ⟨?_, h.wf i hi, v, ?_, h2.more h.lo.1 h.hi.1, h3⟩
  · show w.cell? ⟨gw, 0 + i * 2 + 0, none⟩ = _
    rw [blk_cell h.wcur, Nat.zero_add, Nat.add_zero]
    exact h0
  · show w.cell? ⟨gw, 0 + i * 2 + 1, none⟩ = _
    rw [blk_cell h.wcur, Nat.zero_add]
    exact h1
end Go.Proofs.Ytfdogefoodljaaa

namespace Go.Proofs.Ytfdogefoodljaaa
open Go.RowKit Go.Shelf
attribute [local go_sem] Oper.semAt_some

/-- What is in cells stays. -/
def CK (W W' : World) : Prop := W.heap.size ≤ W'.heap.size ∧ ∀ a v, W.cell? a = some v → W'.cell? a = some v ∧ W'.frozen? a = W.frozen? a
theorem CK.refl (W : World) : CK W W := ⟨Nat.le_refl _, fun _ _ h => ⟨h, rfl⟩⟩
theorem CK.bytes {W W' : World} (h : CK W W') {lo hi : Nat} {v : Value} {l : List UInt8} (hb : Bytes W lo hi v l) : Bytes W' lo hi v l := by
  obtain ⟨a, c, e, h1, h2, h3, h4⟩ := hb
  refine ⟨a, c, e, h1, h2, fun hp => ?_, h4⟩
  obtain ⟨b, off, ea, hlo, hhi, hc⟩ := h3 hp
  exact ⟨b, off, ea, hlo, hhi, fun i x hx => (h.2 _ _ (hc i x hx)).1⟩
theorem CK.thawed {W W' : World} (h : CK W W') {lo hi : Nat} {v : Value} {l : List UInt8} (hb : Bytes W lo hi v l) (ht : Thawed W v) : Thawed W' v := by
  intro b off n c e i hi'
  obtain ⟨a, c', e', h1, h2, h3, h4⟩ := hb
  subst e
  cases e'
  obtain ⟨b', off', ea, hlo, hhi, hc⟩ := h3 (by omega)
  cases ea
  have := hc i (l[i]'hi') (by simp)
  exact (h.2 _ _ this).2.trans (ht _ _ _ _ rfl i hi')
end Go.Proofs.Ytfdogefoodljaaa

namespace Go.Proofs.Ytfdogefoodljaaa
open Go.RowKit

theorem if_yes {c : Prop} [Decidable c] {p q : Prop} (hc : c) (hp : p) : if c then p else q := by rw [if_pos hc]; exact hp
end Go.Proofs.Ytfdogefoodljaaa

namespace Go.Proofs.Ytfdogefoodljaaa
open Go.RowKit

theorem DiskT.keep {w w' : World} {lo hi : Nat} {b u : Value} {d : DiskL} (h : DiskT w lo hi b u d) (hk : Kp lo hi w w') : DiskT w' lo hi b u d := ⟨Sl.keep h.1 hk, Sl.keep h.2 hk⟩

end Go.Proofs.Ytfdogefoodljaaa

namespace Go.Proofs.Ytfdogefoodljaaa
open Go.RowKit

/-- A row of the call's own that holds writes. -/
def OwnW (base : Nat) (W w : World) (v : Value) (l : List WrL) : Prop := ∃ xs, w.ownsRow base 54 2 v l.length xs ∧ ∀ j x, l[j]? = some x → (xs[j * 2]? = some (.int .i64 x.at_) ∧ (Lit.int .i64 x.at_).wf = true) ∧ ∃ y, xs[j * 2 + 1]? = some y ∧ Bytes W 0 W.heap.size y x.data
theorem OwnW.nil_ (base : Nat) (W w : World) : OwnW base W w (.slice none 0 0) [] := ⟨[], World.ownsRow_nil _ _ _ _, fun j x h => by simp at h⟩
theorem OwnW.sl {base : Nat} {W w : World} {v : Value} {l : List WrL} (h : OwnW base W w v l) (hB : Below W.heap.size W w) : Sl rWrite w 0 w.heap.size v l := by
  obtain ⟨xs, ⟨hl, hrow⟩, hx⟩ := h
  rcases hrow with ⟨rfl, h0⟩ | ⟨g, cap, cur, rfl, hg, hh, h1, h2, h3, h4⟩
  · have : l = [] := List.eq_nil_of_length_eq_zero (by omega)
    subst this
    exact Sl.nil_ _ _ _
  · refine ⟨_, _, rfl, h1, h2, fun _ => ⟨g, 0, rfl, Nat.zero_le _, (Array.getElem?_eq_some_iff.1 hh).1, fun i x hxi => ?_⟩, fun h => by cases h⟩
    have hi : i < l.length := (List.getElem?_eq_some_iff.1 hxi).1
    obtain ⟨⟨e1, e2⟩, y, e3, e4⟩ := hx i x hxi
    have hc : ∀ j u, xs[j]? = some u → w.cell? ⟨g, j, none⟩ = some u := by
      intro j u hj
      rw [blk_cell hh, ← hj, ← h4, List.getElem?_take, if_pos]
      · simp
      · have := (List.getElem?_eq_some_iff.1 hj).1
        rw [hl] at this
        exact this
    refine ⟨?_, e2, y, ?_, (e4.below hB (Nat.le_refl _)).more (Nat.le_refl _) hB.size⟩
    · show w.cell? ⟨g, 0 + i * 2 + 0, none⟩ = _
      rw [Nat.zero_add, Nat.add_zero]
      exact hc _ _ e1
    · show w.cell? ⟨g, 0 + i * 2 + 1, none⟩ = _
      rw [Nat.zero_add]
      exact hc _ _ e3

end Go.Proofs.Ytfdogefoodljaaa

namespace Go.Proofs.Ytfdogefoodljaaa
open Go.RowKit

theorem ext_getD {α : Type} (l m : List α) (d : α) (hl : l.length = m.length) (h : ∀ j, j < l.length → l.getD j d = m.getD j d) : l = m := by
  apply List.ext_getElem? 
  intro j
  rcases Nat.lt_or_ge j l.length with hj | hj
  · rw [get_l l d j hj, get_l m d j (by omega), h j hj]
  · rw [List.getElem?_eq_none hj, List.getElem?_eq_none (by omega)]

end Go.Proofs.Ytfdogefoodljaaa

namespace Go.Proofs.Ytfdogefoodljaaa
open Go.RowKit

set_option maxRecDepth 100000 in
set_option maxHeartbeats 2000000 in
theorem eqi_any (v u : Value) (l m : List ItemL) (w : World) (hv : Sl rItem w 0 w.heap.size v l) (hu : Sl rItem w 0 w.heap.size u m) :
    Calls Try.prog 73 #[v, u, .func (.func 74) #[] #[]] w fun e w' => e = .returned (.bool (decide (l = m))) ∧ Below w.heap.size w w' := by
  have HV := Lib.hid hv
  have HU := Lib.hid hu
  obtain ⟨av, cv, rfl, g1, g2, -, -⟩ := hv
  obtain ⟨au, cu, rfl, g1', g2', -, -⟩ := hu
  unfold maxLen at g2 g2'
  obtain ⟨r, hr⟩ : ∃ r, decide (l = m) = r := ⟨_, rfl⟩
  rw [hr]
  have HR := Lib.hid hr
  clear hr
  go_enter Try.func73, Try.ntmps73
  by_cases hl : l.length = m.length
  case neg =>
    obtain rfl : r = false := by
      rw [← HR.out]
      exact decide_eq_false (fun e => hl (by rw [e]))
    have i1 : ¬ (l.length : Int) = m.length := by omega
    go_wp2
    go_ret
    exact ⟨rfl, Below.refl _ _⟩
  have i1 : ((l.length : Int) != m.length) = false := by simp; omega
  have HL := Lib.hid hl
  have hlm : l.length ≤ m.length := by omega
  clear hl
  go_wp2_with fail
  go_loopw [17] (fun i wr => ∃ k : Nat, k ≤ l.length ∧ i = .int .i64 k ∧ Below w.heap.size w wr ∧ ∀ j, j < k → l.getD j nokI = m.getD j nokI) (fun i _ => l.length - (intOf i).toNat)
  case atStart => exact ⟨0, Nat.zero_le _, rfl, Below.refl _ _, fun j hj => absurd hj (Nat.not_lt_zero _)⟩
  case round =>
  obtain ⟨k, hk, rfl, hB, hall⟩ := hrel
  by_cases hlt : k < l.length
  · obtain ⟨b1, o1, c1, e1, -, hz1, -, z3, hb1⟩ := HV.out.at_ (by omega)
    injection e1 with ea _ ec
    subst ea ec
    obtain ⟨b2, o2, c2, e2, -, hz2, -, z3', hb2⟩ := HU.out.at_ (by omega)
    injection e2 with ea _ ec
    subst ea ec
    obtain ⟨f0, f1, f2, f3, -, x, f4, hxb⟩ := hb1 k (l.getD k nokI) (get_l _ _ _ hlt)
    obtain ⟨h0, h1, h2, h3, -, y, h4, hyb⟩ := hb2 k (m.getD k nokI) (get_l _ _ _ (by omega))
    obtain ⟨X, hX⟩ : ∃ X, l.getD k nokI = X := ⟨_, rfl⟩
    obtain ⟨Y, hY⟩ : ∃ Y, m.getD k nokI = Y := ⟨_, rfl⟩
    rw [hX] at f0 f1 f2 f3 hxb
    rw [hY] at h0 h1 h2 h3 hyb
    obtain ⟨xn, hxn⟩ : ∃ xn, X.val.length = xn := ⟨_, rfl⟩
    obtain ⟨yn, hyn⟩ : ∃ yn, Y.val.length = yn := ⟨_, rfl⟩
    obtain ⟨a1, k1, rfl, -, -⟩ := hxb.form hxn
    obtain ⟨a2, k2, rfl, -, -⟩ := hyb.form hyn
    have hz1b := Nat.lt_of_lt_of_le hz1 hB.size
    have hz2b := Nat.lt_of_lt_of_le hz2 hB.size
    have hn5 : rItem.n = 5 := rfl
    rw [hn5] at f0 f1 f2 f3 f4 h0 h1 h2 h3 h4
    simp only [bV, wV, Nat.add_zero] at f0 f1 f2 f3 f4 h0 h1 h2 h3 h4
    replace f0 := (hB.cell (p := ⟨b1, o1 + k * 5, none⟩) hz1).trans f0
    replace f1 := (hB.cell (p := ⟨b1, o1 + k * 5 + 1, none⟩) hz1).trans f1
    replace f2 := (hB.cell (p := ⟨b1, o1 + k * 5 + 2, none⟩) hz1).trans f2
    replace f3 := (hB.cell (p := ⟨b1, o1 + k * 5 + 3, none⟩) hz1).trans f3
    replace f4 := (hB.cell (p := ⟨b1, o1 + k * 5 + 4, none⟩) hz1).trans f4
    replace h0 := (hB.cell (p := ⟨b2, o2 + k * 5, none⟩) hz2).trans h0
    replace h1 := (hB.cell (p := ⟨b2, o2 + k * 5 + 1, none⟩) hz2).trans h1
    replace h2 := (hB.cell (p := ⟨b2, o2 + k * 5 + 2, none⟩) hz2).trans h2
    replace h3 := (hB.cell (p := ⟨b2, o2 + k * 5 + 3, none⟩) hz2).trans h3
    replace h4 := (hB.cell (p := ⟨b2, o2 + k * 5 + 4, none⟩) hz2).trans h4
    have hkm : k < m.length := by omega
    unfold maxLen at z3 z3'
    have hxb' := hxb.below hB (Nat.le_refl _)
    have hyb' := hyb.below hB (Nat.le_refl _)
    have HP := Lib.hid (And.intro hall (And.intro hB (And.intro hxb' (And.intro hyb' (And.intro hX hY)))))
    clear hall hB hxb hyb hxb' hyb' hX hY hb1 hb2 hxn hyn hn5
    go_upto_region 7 with (fail)
    have hq := two_new wr (.cells #[.int .u8 (X.key.kind.toNat : Int), .int .u32 (X.key.id.toNat : Int), .int .u32 (X.key.off.toNat : Int), .int .i64 X.ref, .slice a1 xn k1] 73) (.cells #[.int .u8 (Y.key.kind.toNat : Int), .int .u32 (Y.key.id.toNat : Int), .int .u32 (Y.key.off.toNat : Int), .int .i64 Y.ref, .slice a2 yn k2] 73)
    have hst := ((Below.refl wr.heap.size wr).alloc (Nat.le_refl _) (.cells #[.int .u8 (X.key.kind.toNat : Int), .int .u32 (X.key.id.toNat : Int), .int .u32 (X.key.off.toNat : Int), .int .i64 X.ref, .slice a1 xn k1] 73)).alloc (by simp) (.cells #[.int .u8 (Y.key.kind.toNat : Int), .int .u32 (Y.key.id.toNat : Int), .int .u32 (Y.key.off.toNat : Int), .int .i64 Y.ref, .slice a2 yn k2] 73)
    obtain ⟨w2, hw2⟩ : ∃ w2, (wr.alloc (.cells #[.int .u8 (X.key.kind.toNat : Int), .int .u32 (X.key.id.toNat : Int), .int .u32 (X.key.off.toNat : Int), .int .i64 X.ref, .slice a1 xn k1] 73)).alloc (.cells #[.int .u8 (Y.key.kind.toNat : Int), .int .u32 (Y.key.id.toNat : Int), .int .u32 (Y.key.off.toNat : Int), .int .i64 Y.ref, .slice a2 yn k2] 73) = w2 := ⟨_, rfl⟩
    rw [hw2] at hq hst ⊢
    clear hw2 f0 f1 f2 f3 f4 h0 h1 h2 h3 h4
    have hB2 := Lib.hid (below_step HP.out.2.1 HP.out.2.1.size hst)
    have hX2 := Lib.hid (((HP.out.2.2.1.below hst HP.out.2.1.size)).more (Nat.le_refl 0) (hB2.out.size))
    have hY2 := Lib.hid (((HP.out.2.2.2.1.below hst HP.out.2.1.size)).more (Nat.le_refl 0) (hB2.out.size))
    clear hst
    generalize wr.heap.size = gx at *
    have x0 := blk_cell hq.1 0
    have x1 := blk_cell hq.1 1
    have x2 := blk_cell hq.1 2
    have x3 := blk_cell hq.1 3
    have x4 := blk_cell hq.1 4
    have y0 := blk_cell hq.2 0
    have y1 := blk_cell hq.2 1
    have y2 := blk_cell hq.2 2
    have y3 := blk_cell hq.2 3
    have y4 := blk_cell hq.2 4
    simp at x0 x1 x2 x3 x4 y0 y1 y2 y3 y4
    have ks := isame_any X Y (.slice a1 xn k1) (.slice a2 yn k2) w2 hX2.out hY2.out
    simp only [itemV, bV, wV] at ks
    have KS := Lib.hid ks
    clear ks
    go_wp2_with fail
    refine KS.out.mono ?_
    rintro e w3 ⟨rfl, hst3⟩
    have hfin := below_step hB2.out hB2.out.size hst3
    clear hst3 x0 x1 x2 x3 x4 y0 y1 y2 y3 y4
    by_cases he : X = Y
    · rw [decide_eq_true he]
      have HE := Lib.hid (show l.getD k nokI = m.getD k nokI by rw [HP.out.2.2.2.2.1, HP.out.2.2.2.2.2, he])
      clear he
      go_wp2
      go_roundw
      case rel => exact ⟨k + 1, by omega, by go_num, hfin, fun j hj => by
        rcases Nat.lt_succ_iff_lt_or_eq.1 hj with hj | rfl
        · exact HP.out.1 j hj
        · exact HE.out⟩
      case measure => simp [intOf]; omega
    · rw [decide_eq_false he]
      obtain rfl : r = false := by
        rw [← HR.out]
        exact decide_eq_false (fun e => he (by rw [← HP.out.2.2.2.2.1, ← HP.out.2.2.2.2.2, e]))
      clear he
      go_wp2
      go_ret
      exact ⟨rfl, hfin⟩
  obtain rfl : k = l.length := by omega
  obtain rfl : r = true := by
    rw [← HR.out]
    exact decide_eq_true (ext_getD l m nokI HL.out hall)
  clear hall
  go_wp2
  go_ret
  exact ⟨rfl, hB⟩

set_option maxRecDepth 100000 in
set_option maxHeartbeats 2000000 in
/-- node.Same. -/
theorem nsame_any (n m : NodeL) (v u : Value) (w : World) (h : Sl rItem w 0 w.heap.size v n.items) (h' : Sl rItem w 0 w.heap.size u m.items) :
    Calls Try.prog 42 #[.agg #[.int .i64 n.level, v], .agg #[.int .i64 m.level, u]] w fun e w' => e = .returned (.bool (decide (n = m))) ∧ Below w.heap.size w w' := by
  have hst := ((Below.refl w.heap.size w).alloc (Nat.le_refl _) (.cells #[.int .i64 n.level, v] 62)).alloc (by simp) (.cells #[.int .i64 m.level, u] 62)
  have hq := two_new w (.cells #[.int .i64 n.level, v] 62) (.cells #[.int .i64 m.level, u] 62)
  have k1 := eqi_any v u n.items m.items _ (h.step hst) (h'.step hst)
  obtain ⟨av, cv, rfl, g1, g2, -, -⟩ := h
  obtain ⟨au, cu, rfl, g1', g2', -, -⟩ := h'
  obtain ⟨V, hV⟩ : ∃ V, (w.alloc (.cells #[.int .i64 n.level, .slice av n.items.length cv] 62)).alloc (.cells #[.int .i64 m.level, .slice au m.items.length cu] 62) = V := ⟨_, rfl⟩
  rw [hV] at hst hq k1
  have c0 := blk_cell hq.1 0
  have c1 := blk_cell hq.1 1
  have c2 := blk_cell hq.2 0
  have c3 := blk_cell hq.2 1
  simp at c0 c1 c2 c3
  have hnm : decide (n = m) = (decide (n.level = m.level) && decide (n.items = m.items)) := by
    cases n
    cases m
    simp [Bool.decide_and]
  rw [hnm]
  have K1 := Lib.hid k1
  obtain ⟨bi, hbi⟩ : ∃ bi, decide (n.items = m.items) = bi := ⟨_, rfl⟩
  rw [hbi] at K1 ⊢
  clear k1 hbi hq hnm
  have HB := Lib.hid hst
  clear hst
  by_cases hl : n.level = m.level
  · have e1 : (n.level == m.level) = true := by simp [hl]
    rw [decide_eq_true hl]
    clear hl
    go_enter Try.func42, Try.ntmps42
    go_wp2_with fail
    refine K1.out.mono ?_
    rintro e w1 ⟨rfl, hst⟩
    go_wp2
    go_ret
    exact ⟨by simp, below_step HB.out HB.out.size hst⟩
  · have e1 : (n.level == m.level) = false := by simp [hl]
    rw [decide_eq_false hl]
    clear hl
    go_enter Try.func42, Try.ntmps42
    go_wp2
    go_ret
    exact ⟨by simp, HB.out⟩
end Go.Proofs.Ytfdogefoodljaaa

namespace Go.Proofs.Ytfdogefoodljaaa

def half (s : BitVec 32) : BitVec 32 := (s >>> 1) ^^^ (if s.getLsbD 0 then 0xedb88320#32 else 0#32)
def halves : Nat → BitVec 32 → BitVec 32
  | 0, s => s
  | n + 1, s => half (halves n s)
theorem halves_add (s : BitVec 32) (n : Nat) : ∀ m, halves (n + m) s = halves m (halves n s)
  | 0 => rfl
  | m + 1 => by rw [← Nat.add_assoc, halves, halves_add s n m, halves]

theorem half_xor (a b : BitVec 32) : half (a ^^^ b) = half a ^^^ half b := by
  unfold half
  rw [BitVec.ushiftRight_xor_distrib, BitVec.getLsbD_xor]
  cases ha : a.getLsbD 0 <;> cases hb : b.getLsbD 0
  · simp
  · simp [BitVec.xor_assoc]
  · simp only [Bool.xor_false, if_true, if_false, Bool.false_eq_true, BitVec.xor_zero]
    ac_rfl
  · simp only [Bool.xor_true, Bool.not_true, if_true, if_false, Bool.false_eq_true, BitVec.xor_zero]
    have e : (a >>> 1 ^^^ 3988292384#32) ^^^ (b >>> 1 ^^^ 3988292384#32) = a >>> 1 ^^^ b >>> 1 ^^^ (3988292384#32 ^^^ 3988292384#32) := by ac_rfl
    rw [e]; simp
theorem halves_xor (a b : BitVec 32) : ∀ n, halves n (a ^^^ b) = halves n a ^^^ halves n b
  | 0 => rfl
  | n + 1 => by rw [halves, halves_xor a b n, half_xor]; rfl
/-- What is even is only moved. -/
theorem halves_even (s : BitVec 32) : ∀ n, (∀ i, i < n → s.getLsbD i = false) → halves n s = s >>> n
  | 0, _ => by simp [halves]
  | n + 1, h => by
    rw [halves, halves_even s n (fun i hi => h i (by omega)), half]
    have h0 : (s >>> n).getLsbD 0 = false := by rw [BitVec.getLsbD_ushiftRight]; simpa using h n (by omega)
    rw [h0]
    simp [BitVec.shiftRight_add]
/-- A table of four bits serves. -/
theorem halves_four (s : BitVec 32) : halves 4 s = (s >>> 4) ^^^ halves 4 (s &&& 15#32) := by
  have e : s = (s &&& 0xfffffff0#32) ^^^ (s &&& 15#32) := by
    apply BitVec.eq_of_getLsbD_eq
    intro i hi
    rw [BitVec.getLsbD_xor, BitVec.getLsbD_and, BitVec.getLsbD_and]
    have hk : ∀ k : Fin 32, ((0xfffffff0#32).getLsbD k.val ^^ (15#32).getLsbD k.val) = true := by decide
    have := hk ⟨i, hi⟩
    cases h1 : (0xfffffff0#32).getLsbD i <;> cases h2 : (15#32).getLsbD i <;> simp_all
  have h1 : halves 4 (s &&& 0xfffffff0#32) = (s &&& 0xfffffff0#32) >>> 4 := by
    apply halves_even
    intro i hi
    rw [BitVec.getLsbD_and]
    have : (0xfffffff0#32).getLsbD i = false := by
      match i, hi with
      | 0, _ => decide
      | 1, _ => decide
      | 2, _ => decide
      | 3, _ => decide
    rw [this]; simp
  have h2 : (s &&& 0xfffffff0#32) >>> 4 = s >>> 4 := by
    apply BitVec.eq_of_getLsbD_eq
    intro i hi
    rw [BitVec.getLsbD_ushiftRight, BitVec.getLsbD_ushiftRight, BitVec.getLsbD_and]
    by_cases h : 4 + i < 32
    · have : (0xfffffff0#32).getLsbD (4 + i) = true := by
        have hk : ∀ k : Fin 28, (0xfffffff0#32).getLsbD (4 + k.val) = true := by decide
        exact hk ⟨i, by omega⟩
      rw [this]; simp
    · rw [BitVec.getLsbD_of_ge s (4 + i) (by omega)]; simp
  conv => lhs; rw [e, halves_xor, h1, h2]

def b32 (x : UInt8) : BitVec 32 := BitVec.ofNat 32 x.toNat
def stepB (s : BitVec 32) (x : UInt8) : BitVec 32 := halves 8 (s ^^^ b32 x)
def crcS (s : BitVec 32) (l : List UInt8) : BitVec 32 := l.foldl stepB s
def crc (l : List UInt8) : BitVec 32 := ~~~ (crcS (BitVec.allOnes 32) l)
theorem crcS_append (s : BitVec 32) (a b : List UInt8) : crcS s (a ++ b) = crcS (crcS s a) b := by simp [crcS]
theorem stepB_four (s : BitVec 32) (x : UInt8) : stepB s x = halves 4 (halves 4 (s ^^^ b32 x)) := halves_add _ 4 4
open Go in
theorem xor_u32 (a b : BitVec 32) : bits .xor .u32 (a.toNat : Int) (b.toNat : Int) = ((a ^^^ b).toNat : Int) := by
  simp only [bits, IntKind.bits]
  rw [BitVec.ofInt_natCast, BitVec.ofInt_natCast, BitVec.ofNat_toNat, BitVec.ofNat_toNat]
  simp only [BitVec.setWidth_eq]
  rw [IntKind.wrap_u32]
  have := (a ^^^ b).isLt
  show ((a ^^^ b).toNat : Int) % 4294967296 = _
  omega
open Go in
theorem and_u32 (a b : BitVec 32) : bits .and .u32 (a.toNat : Int) (b.toNat : Int) = ((a &&& b).toNat : Int) := by
  simp only [bits, IntKind.bits]
  rw [BitVec.ofInt_natCast, BitVec.ofInt_natCast, BitVec.ofNat_toNat, BitVec.ofNat_toNat]
  simp only [BitVec.setWidth_eq]
  rw [IntKind.wrap_u32]
  have := (a &&& b).isLt
  show ((a &&& b).toNat : Int) % 4294967296 = _
  omega
theorem b32_nat (x : UInt8) : (b32 x).toNat = x.toNat := by
  have := x.toNat_lt
  simp only [b32, BitVec.toNat_ofNat]
  omega
theorem shr_nat (a : BitVec 32) (n : Nat) : (a >>> n).toNat = a.toNat / 2 ^ n := by rw [BitVec.toNat_ushiftRight, Nat.shiftRight_eq_div_pow]
end Go.Proofs.Ytfdogefoodljaaa

