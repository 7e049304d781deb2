/- CountTables: the words and contracts, part 3. -/
import Derived.Test.YthealkfpflkipaaCountTablesQ1
import Derived.Test.YthealkfpflkipaaCountTablesQ2
import Derived.Test.YthealkfpflkipaaChecked
import Derived.WalkKit
import Derived.WalkLawsBesides
import Derived.WalkSpells
import Derived.Lib.Hide
import Derived.Laws.Rows
import Derived.Laws.AppendOwnNone
import Derived.Maps.AppendAt
import Derived.RangeFuncNested
import Derived.RangeFuncBound
import Derived.RangeFuncCalls
import Derived.RangeFuncLeaves
import Derived.RangeFuncBox
import Derived.Shelf.Abstract
import Derived.Shelf.RegionOpen
import Derived.OwnWalkIn
import Derived.TacticsInMore
import Derived.LoopNIn
import Derived.LoopIn
import Derived.ProofKit
import Derived.Deep.Slices
import Derived.WideShapes
import Derived.OrdersHeld
import Derived.Deep.QuietTactic
import Derived.BigQuiet
import Derived.StillTailTactics
import Derived.OpenShut
import Derived.Lib.SliceRun
import Derived.Lib.AppendZerosOnto
import Derived.Lib.Walk
import Derived.Deep.LoopGhost
import Derived.Laws.CopyOwn
import Derived.Deep.DeepCutAuto
import Derived.Laws.CopyRow
namespace Go.Proofs.Ythealkfpflkipaa
open Go.RowKit

theorem OwnB.empty (w : World) (base : Nat) (e : TypeId) (h : base ≤ w.heap.size) : OwnB base e (w.alloc (.cells #[] e)) (.slice (some ⟨w.heap.size, 0, none⟩) 0 0) [] :=
  ⟨rfl, .inr ⟨w.heap.size, 0, #[], rfl, h, World.alloc_heap_new w _, Nat.le_refl _, Nat.zero_le _, rfl, rfl⟩⟩
set_option maxRecDepth 100000 in
/-- bytes.Clone. -/
theorem bclone_any (v : Value) (l : List UInt8) (w : World) (hI : Bytes w 0 w.heap.size v l) (hl : l.length ≤ 1000000000) :
    Calls Try.prog 75 #[v] w fun e w' => ∃ u, e = .returned u ∧ MadeB w w' u l := by
  obtain ⟨a, c, rfl, g1, g2, g3, g4⟩ := id hI
  clear g3
  have hnil := fun (w : World) (a : Option Addr) (n c n' c' : Nat) => Lib.run_eql_slice_nil (P := Try.prog) w 22 5 a n c n' c' Try.underlying22
  rcases a with _ | a
  · have hc := g4 rfl
    subst hc
    have : l = [] := List.eq_nil_of_length_eq_zero (by omega)
    subst this
    go_enter Try.func75, Try.ntmps75
    go_wp2
    go_ret
    exact ⟨_, rfl, MadeB.nil_ (Below.refl _ _)⟩
  · have hI1 := hI.step ((Below.refl w.heap.size w).alloc (Nat.le_refl _) (.cells #[] 5))
    have hown := OwnB.empty w w.heap.size 5 (Nat.le_refl _)
    go_enter Try.func75, Try.ntmps75
    go_wp2_with (at_builtin; refine wpList_appB rfl _ _ 22 rfl w.heap.size 5 Try.underlying22 info_u8 _ [] rfl hown _ _ _ l rfl hI1 (by simp; omega) (by simp) ?_; intro v1 w1 hown1 hB1)
    go_ret
    exact ⟨_, rfl, hown1.made (((Below.refl w.heap.size w).alloc (Nat.le_refl _) _).trans hB1)⟩
theorem cv_of {w : World} {lo hi : Nat} {v : Value} {l : List UInt8} (h : Bytes w lo hi v l) : (convert 22 9 v).run Try.prog w = .ok (.string ⟨l.toArray⟩) w :=
  conv_bytes (P := Try.prog) h 22 9 5 Try.underlying22 Try.underlying5 Try.underlying9
end Go.Proofs.Ythealkfpflkipaa

namespace Go.Proofs.Ythealkfpflkipaa
open Go.RowKit

set_option maxRecDepth 100000 in
set_option maxHeartbeats 2000000 in
/-- slices.Grow(nil, n). -/
theorem grow_nil (n : Nat) (w : World) (hn : n ≤ 1000000) :
    Calls Try.prog 78 #[.slice none 0 0, .int .i64 n] w fun e w' => ∃ v, e = .returned v ∧ OwnB w.heap.size 5 w' v [] ∧ Below w.heap.size w w' := by
  rcases Nat.eq_zero_or_pos n with rfl | hp
  · go_enter Try.func78, Try.ntmps78
    go_wp2
    go_ret
    exact ⟨_, rfl, OwnB.nil_ _ _ _, Below.refl _ _⟩
  · obtain ⟨i0, hi0, hz0, hz1, hz2⟩ := info_parts info_u8
    have hold : (Builtin.firstCells i0.size 0 (.slice none 0 0)).run Try.prog w.drew = .ok ([] : List Value).toArray w.drew := run_firstCells_none w.drew i0.size 0 0 0
    have hrz : ∀ ty, (Builtin.append_ #[22, 3] ty #[.slice none 0 0, .int .i64 (n : Int)]).run Try.prog w =
        .ok (.slice (some ⟨w.heap.size, 0, none⟩) n (grownCap w n 0 5)) (w.drew.alloc (.cells (([] : List Value).toArray ++ Builtin.zeroCells (Value.int .u8 0).cells n ++ Builtin.zeroCells (Value.int .u8 0).cells (grownCap w n 0 5 - n)) 5)) := fun ty => by
      have h := Lib.run_append_grow_zeros w 22 3 ty 5 i0 (.int .u8 0) .i64 .i64 Try.underlying22 Try.underlying3 hi0 hz0 none 0 0 [] hold n (by omega) (by omega) (by omega) (by omega)
        (by rw [hz2]; omega) (by rw [Nat.zero_add]; exact growslice_fits (by omega) (by rw [hz2]; omega))
      rw [Nat.zero_add] at h
      exact h
    have hG := grownCap_ge w n 0 5
    have hG2 := grownCap_le_maxLen w n 0 5 (by unfold maxLen; omega)
    generalize grownCap w n 0 5 = G at *
    have hG3 : G ≤ 9223372036854775807 := by unfold maxLen at hG2; omega
    have HG2 := Lib.hid hG2
    clear hG2 hold
    go_enter Try.func78, Try.ntmps78
    go_wp2_with (at_builtin; refine Lib.wpList_append_run _ rfl _ _ _ _ rfl _ _ rfl rfl _ _ (hrz _) ?_)
    go_ret
    refine ⟨_, rfl, ⟨by simp, .inr ⟨w.heap.size, G, _, rfl, Nat.le_refl _, World.alloc_heap_new w _, Nat.zero_le _, HG2.out, ?_, by simp⟩⟩, ((Below.refl _ _).alloc (Nat.le_refl _) _).drew⟩
    simp [Builtin.zeroCells]
    omega

end Go.Proofs.Ythealkfpflkipaa

namespace Go.Proofs.Ythealkfpflkipaa
open Go.RowKit

/-- Some lists one behind the other. -/
def catL (ps : List (Value × List UInt8)) : List UInt8 := (ps.map (·.2)).flatten
theorem catL_snoc (ps : List (Value × List UInt8)) (k : Nat) (p : Value × List UInt8) (h : ps[k]? = some p) : catL (ps.take (k + 1)) = catL (ps.take k) ++ p.2 := by
  have hk : k < ps.length := (List.getElem?_eq_some_iff.1 h).1
  have hp : ps[k] = p := (List.getElem?_eq_some_iff.1 h).2
  rw [List.take_succ_eq_append_getElem hk, hp]
  simp [catL]
theorem catL_le (ps : List (Value × List UInt8)) (k : Nat) : (catL (ps.take k)).length ≤ (catL ps).length := by
  have e : ∀ a b : List (Value × List UInt8), catL (a ++ b) = catL a ++ catL b := fun a b => by simp [catL]
  have h := e (ps.take k) (ps.drop k)
  rw [List.take_append_drop] at h
  rw [h, List.length_append]
  omega

set_option maxRecDepth 100000 in
set_option maxHeartbeats 2000000 in
/-- slices.Concat. -/
theorem concat_any (ps : List (Value × List UInt8)) (b off c : Nat) (w : World) (hb : b < w.heap.size) (hcell : ∀ i p, ps[i]? = some p → w.cell? ⟨b, off + i, none⟩ = some p.1)
    (hB : ∀ p ∈ ps, Bytes w 0 w.heap.size p.1 p.2) (hc : ps.length ≤ c) (hcm : c ≤ 1000000) (ht : (catL ps).length ≤ 1000000) :
    Calls Try.prog 47 #[.slice (some ⟨b, off, none⟩) ps.length c] w fun e w' => ∃ u, e = .returned u ∧ MadeB w w' u (catL ps) := by
  have HC := Lib.hid hcell
  have HB := Lib.hid hB
  clear hcell hB
  go_enter Try.func47, Try.ntmps47
  go_wp2
  go_loop [3, 11] (fun n i => ∃ k : Nat, k ≤ ps.length ∧ i = .int .i64 k ∧ n = .int .i64 (catL (ps.take k)).length) (fun _ i => ps.length - (intOf i).toNat)
  case atStart => exact ⟨0, Nat.zero_le _, rfl, rfl⟩
  case round =>
    obtain ⟨k, hk, rfl, rfl⟩ := hrel
    by_cases hlt : k < ps.length
    · obtain ⟨p, hp⟩ : ∃ p, ps[k]? = some p := ⟨ps[k], by simp [hlt]⟩
      have hx := HC.out k p hp
      have hy := HB.out p (List.mem_of_getElem? hp)
      have hs := congrArg List.length (catL_snoc ps k p hp)
      rw [List.length_append] at hs
      have hle := catL_le ps (k + 1)
      have HS := Lib.hid hs
      rw [hs] at hle
      clear hs
      generalize (catL (ps.take k)).length = q at *
      obtain ⟨pv, pl⟩ := p
      dsimp only at hx hle hy
      obtain ⟨pa, pc, rfl, _, _, _, _⟩ := hy
      clear hp
      go_wp2
      go_round
      case rel => exact ⟨k + 1, by omega, by go_num, by rw [HS.out]; go_num⟩
      case measure => simp [intOf]; omega
    · obtain rfl : k = ps.length := by omega
      rw [List.take_length]
      have HT := Lib.hid ht
      go_wp2_with fail
      refine (grow_nil _ _ (by omega)).mono ?_
      rintro e w1 ⟨gv, rfl, hown, hb1⟩
      have hown' : OwnB w.heap.size 5 w1 gv (catL (ps.take 0)) := hown
      clear hown
      go_wp2
      go_loopw [6, 27] (fun v i wr => ∃ k : Nat, k ≤ ps.length ∧ i = .int .i64 k ∧ OwnB w.heap.size 5 wr v (catL (ps.take k)) ∧ Below w.heap.size w wr) (fun _ i _ => ps.length - (intOf i).toNat)
      case atStart => exact ⟨0, Nat.zero_le _, rfl, hown', hb1⟩
      case round =>
        obtain ⟨k, hk, rfl, hown, hbr⟩ := hrel
        by_cases hlt : k < ps.length
        · obtain ⟨p, hp⟩ : ∃ p, ps[k]? = some p := ⟨ps[k], by simp [hlt]⟩
          have hx := (hbr.cell (p := ⟨b, off + k, none⟩) hb).trans (HC.out k p hp)
          have hy := HB.out p (List.mem_of_getElem? hp)
          have hs := catL_snoc ps k p hp
          have hle := catL_le ps (k + 1)
          rw [hs, List.length_append] at hle
          have HS := Lib.hid hs
          clear hs hp hown'
          generalize catL (ps.take k) = q at *
          obtain ⟨pv, pl⟩ := p
          dsimp only at hx hle hy
          have hy2 := hy.below hbr (Nat.le_refl _)
          obtain ⟨pa, pc, rfl, _, _, _, _⟩ := id hy
          clear hy
          go_wp2_with (at_builtin; refine wpList_appB rfl _ _ 22 rfl w.heap.size 5 Try.underlying22 info_u8 _ q rfl hown _ _ _ pl rfl hy2 (by have := HT.out; omega) hbr.size ?_; intro u w2 hown2 hB2)
          go_roundw
          case rel => exact ⟨k + 1, by omega, by go_num, by rw [HS.out]; exact hown2, hbr.trans hB2⟩
          case measure => simp [intOf]; omega
        · obtain rfl : k = ps.length := by omega
          rw [List.take_length] at hown
          go_wp2
          go_ret
          exact ⟨_, rfl, hown.made hbr⟩

end Go.Proofs.Ythealkfpflkipaa

namespace Go.Proofs.Ythealkfpflkipaa
open Go.RowKit

theorem blk_cell {w : World} {g : Nat} {cs : Array Value} {t : TypeId} {f : Nat × Nat} (h : w.heap[g]? = some (.cells cs t f)) (i : Nat) : w.cell? ⟨g, i, none⟩ = cs[i]? := by simp [World.cell?, h]
theorem blk_frozen {w : World} {g : Nat} {cs : Array Value} {t : TypeId} (h : w.heap[g]? = some (.cells cs t (0, 0))) (i : Nat) : w.frozen? ⟨g, i, none⟩ = false := by simp [World.frozen?, h]

theorem two_new (w : World) (o1 o2 : Obj) : ((w.alloc o1).alloc o2).heap[w.heap.size]? = some o1 ∧ ((w.alloc o1).alloc o2).heap[w.heap.size + 1]? = some o2 := by
  refine ⟨?_, ?_⟩
  · rw [Below.heap_alloc (w.alloc o1) o2 w.heap.size (by simp), World.alloc_heap_new]
  · have := World.alloc_heap_new (w.alloc o1) o2
    simpa using this
theorem Bytes.setOff {w : World} {lo hi g i : Nat} {v u : Value} {l : List UInt8} (h : Bytes w lo hi v l) (hg : g < lo ∨ hi ≤ g) : Bytes (w.setCell ⟨g, i, none⟩ u) lo hi v l :=
  h.keep fun b o h1 h2 => World.cell?_setCell_other _ _ _ _ (by intro h; injection h; omega)

end Go.Proofs.Ythealkfpflkipaa

namespace Go.Proofs.Ythealkfpflkipaa
open Go.RowKit

theorem OwnB.step {base : Nat} {e : TypeId} {w w' : World} {v : Value} {l : List UInt8} (h : OwnB base e w v l) (hb : Below w.heap.size w w') : OwnB base e w' v l := by
  obtain ⟨h1, h2⟩ := h
  refine ⟨h1, ?_⟩
  rcases h2 with h2 | ⟨g, cap, cur, hv, hg, hh, r⟩
  · exact .inl h2
  · exact .inr ⟨g, cap, cur, hv, hg, (hb.block g (Array.getElem?_eq_some_iff.1 hh).1).trans hh, r⟩
theorem OwnB.le {base base' : Nat} {e : TypeId} {w : World} {v : Value} {l : List UInt8} (h : OwnB base e w v l) (hb : base' ≤ base) : OwnB base' e w v l :=
  ⟨h.1, h.2.elim Or.inl (fun ⟨g, cap, cur, hv, hg, r⟩ => Or.inr ⟨g, cap, cur, hv, Nat.le_trans hb hg, r⟩)⟩
theorem OwnB.one (w : World) (base : Nat) (e : TypeId) (h : base ≤ w.heap.size) (n : Int) (x : UInt8) (hx : Value.int .u8 n = bV x) : OwnB base e (w.alloc (.cells #[.int .u8 n] e)) (.slice (some ⟨w.heap.size, 0, none⟩) 1 1) [x] := by
  rw [hx]
  exact ⟨rfl, .inr ⟨w.heap.size, 1, _, rfl, h, World.alloc_heap_new w _, Nat.le_refl _, by unfold maxLen; omega, rfl, rfl⟩⟩
end Go.Proofs.Ythealkfpflkipaa

namespace Go.Proofs.Ythealkfpflkipaa
open Go.RowKit

def okW (x : WrL) : Bool := decide (0 ≤ x.at_) && decide (x.at_ < 256) && x.data.length == 128
def mayD (d : DiskL) : Bool := d.blocks.length == 256 && decide (d.waits.length ≤ 4096) && d.blocks.all (fun b => b.length == 128) && d.waits.all okW

theorem get_l {α : Type} (l : List α) (d : α) (i : Nat) (h : i < l.length) : l[i]? = some (l.getD i d) := by simp [h]

set_option maxRecDepth 100000 in
set_option maxHeartbeats 1000000 in
/-- dev.Check. -/
theorem dcheck_any (b u : Value) (d : DiskL) (w : World) (h : DiskV w 0 w.heap.size b u d) :
    Calls Try.prog 71 #[.agg #[b, u]] w fun e w' => e = .returned (.int .i64 (if mayD d then 0 else 8)) ∧ Below w.heap.size w w' := by
  have hB := (Below.refl w.heap.size w).alloc (Nat.le_refl _) (.cells #[b, u] 26)
  have hb := h.1.step hB
  have hu := h.2.step hB
  have hq := World.alloc_heap_new w (.cells #[b, u] 26)
  obtain ⟨ab, cb, rfl, g1, g2, -, -⟩ := h.1
  obtain ⟨au, cu, rfl, g1', g2', -, -⟩ := h.2
  unfold maxLen at g2 g2'
  obtain ⟨bl, wl⟩ := d
  clear h
  simp only at *
  obtain ⟨W, hW⟩ : ∃ W, w.alloc (.cells #[.slice ab bl.length cb, .slice au wl.length cu] 26) = W := ⟨_, rfl⟩
  rw [hW] at hB hb hu hq
  have HM := Lib.hid (show mayD ⟨bl, wl⟩ = (bl.length == 256 && decide (wl.length ≤ 4096) && bl.all (fun b => b.length == 128) && wl.all okW) from rfl)
  generalize mayD ⟨bl, wl⟩ = md at *
  have HQ := Lib.hid (And.intro hq (And.intro hb (And.intro hu (And.intro hW hB))))
  clear hq hb hu hW hB
  go_enter Try.func71, Try.ntmps71
  go_upto_region 1 with (fail)
  rw [HQ.out.2.2.2.1]
  have c0 := blk_cell HQ.out.1 0
  have c1 := blk_cell HQ.out.1 1
  simp at c0 c1
  by_cases h1 : ¬ bl.length = 256
  · have i1 : ¬ (bl.length : Int) = 256 := by omega
    have hm : md = false := by rw [HM.out]; simp [h1]
    subst hm
    go_wp2
    go_ret
    exact ⟨rfl, HQ.out.2.2.2.2⟩
  have hbl : bl.length = 256 := by omega
  clear h1
  by_cases h2 : 4096 < wl.length
  · have i1 : (4096 : Int) < wl.length := by omega
    have hm : md = false := by rw [HM.out]; simp [hbl]; omega
    subst hm
    go_wp2
    go_ret
    exact ⟨rfl, HQ.out.2.2.2.2⟩
  have i2 : decide ((4096 : Int) < wl.length) = false := by simp; omega
  have HM2 := Lib.hid (show md = (bl.all (fun b => b.length == 128) && wl.all okW) by rw [HM.out, hbl]; simp [show wl.length ≤ 4096 by omega])
  clear HM
  have hb := HQ.out.2.1
  obtain ⟨bb, bo, cb', e', -, z1, z2, z3, hbe⟩ := hb.at_ (by omega)
  injection e' with ea _ ec
  subst ea ec
  have HBE := Lib.hid hbe
  unfold maxLen at z3
  clear hbe hb
  rw [hbl] at HQ g1 z2 c0 ⊢
  go_wp2_with fail
  go_loopw [20] (fun i wr => ∃ k : Nat, k ≤ 256 ∧ i = .int .i64 k ∧ wr = W ∧ ∀ j, j < k → (bl.getD j []).length = 128) (fun i _ => 256 - (intOf i).toNat)
  case atStart => exact ⟨0, Nat.zero_le _, rfl, rfl, fun j hj => absurd hj (Nat.not_lt_zero _)⟩
  case round =>
  obtain ⟨k, hk, rfl, rfl, hall⟩ := hrel
  by_cases hlt : k < 256
  · obtain ⟨v, hv, hvb⟩ := HBE.out k (bl.getD k []) (get_l _ _ _ (by omega))
    obtain ⟨av, cv, rfl, -, hcv⟩ := hvb.form rfl
    unfold maxLen at hcv
    have hv' : wr.cell? ⟨bb, bo + k, none⟩ = some (.slice av (bl.getD k []).length cv) := by simpa [rBytes] using hv
    obtain ⟨y, hy⟩ : ∃ y, bl.getD k [] = y := ⟨_, rfl⟩
    rw [hy] at hv'
    have HY := Lib.hid (And.intro hy hall)
    clear hv hvb hy hall
    by_cases h5 : y.length = 128
    · rw [h5] at hv'
      go_wp2
      go_roundw
      case rel => exact ⟨k + 1, by omega, by go_num, trivial, fun j hj => by
        by_cases e : j = k
        · subst e; rw [HY.out.1]; exact h5
        · exact HY.out.2 j (by omega)⟩
      case measure => simp [intOf]; omega
    · have i5 : ¬ (y.length : Int) = 128 := by omega
      have hm : md = false := by
        rw [HM2.out]
        have : bl.all (fun b => b.length == 128) = false := by
          rw [List.all_eq_false]
          refine ⟨y, ?_, by simp [h5]⟩
          rw [← HY.out.1]
          exact List.mem_of_getElem? (get_l _ _ _ (by omega))
        rw [this]; rfl
      subst hm
      go_wp2
      go_ret
      exact ⟨rfl, HQ.out.2.2.2.2⟩
  obtain rfl : k = 256 := by omega
  have hall2 : bl.all (fun b => b.length == 128) = true := by
    rw [List.all_eq_true]
    intro x hx
    obtain ⟨j, hj⟩ := List.mem_iff_getElem?.1 hx
    have hjl : j < bl.length := (List.getElem?_eq_some_iff.1 hj).1
    rw [get_l bl [] j hjl] at hj
    cases hj
    exact beq_iff_eq.2 (hall j (by omega))
  obtain ⟨V, hV⟩ : ∃ V, V = wr := ⟨_, rfl⟩
  subst hV
  have HM3 := Lib.hid (show md = wl.all okW by rw [HM2.out, hall2]; rfl)
  clear HM2 hall hall2 hlt hk HBE i2
  go_wp2_with fail
  go_loopw [31] (fun i wx => ∃ k : Nat, k ≤ wl.length ∧ i = .int .i64 k ∧ Below V.heap.size V wx ∧ ∀ j, j < k → okW (wl.getD j ⟨0, []⟩) = true) (fun i _ => wl.length - (intOf i).toNat)
  case atStart => exact ⟨0, Nat.zero_le _, rfl, Below.refl _ _, fun j hj => absurd hj (Nat.not_lt_zero _)⟩
  case round =>
  obtain ⟨k, hk, rfl, hB, hall⟩ := hrel
  by_cases hlt : k < wl.length
  · obtain ⟨wb, wo, wc, e', -, y1, y2, y3, hwe⟩ := (HQ.out.2.2.1.step hB).at_ (by omega)
    injection e' with ea _ ec
    subst ea ec
    unfold maxLen at y3
    obtain ⟨f0, f1, v, f2, f3⟩ := hwe k (wl.getD k ⟨0, []⟩) (get_l _ _ _ hlt)
    obtain ⟨av, cv, rfl, -, hcv⟩ := f3.form rfl
    unfold maxLen at hcv
    obtain ⟨y, hy⟩ : ∃ y, wl.getD k ⟨0, []⟩ = y := ⟨_, rfl⟩
    rw [hy] at f0 f1 f2
    have HY := Lib.hid (And.intro hy (And.intro hall hB))
    clear hwe f3 hy hall hB
    obtain ⟨at_, dt⟩ := y
    simp [rWrite] at f0 f2
    have hokw : okW ⟨at_, dt⟩ = (decide (0 ≤ at_) && decide (at_ < 256) && dt.length == 128) := rfl
    have hfin := Lib.hid (below_step HQ.out.2.2.2.2 HQ.out.2.2.2.2.size (HY.out.2.2.alloc HY.out.2.2.size (.cells #[.int .i64 at_, .slice av dt.length cv] 50)))
    have hbad : okW ⟨at_, dt⟩ = false → md = false := fun h => by
      rw [HM3.out, List.all_eq_false]
      refine ⟨⟨at_, dt⟩, ?_, by rw [h]; decide⟩
      rw [← HY.out.1]
      exact List.mem_of_getElem? (get_l _ _ _ hlt)
    have HBD := Lib.hid hbad
    clear hbad
    by_cases a1 : at_ < 0
    · have hm := HBD.out (by rw [hokw]; simp; omega)
      subst hm
      clear hokw
      go_wp2
      go_ret
      exact ⟨rfl, hfin.out⟩
    have d1 : decide (at_ < 0) = false := by simp; omega
    by_cases a2 : 256 ≤ at_
    · have hm := HBD.out (by rw [hokw]; simp; omega)
      subst hm
      clear hokw
      go_wp2
      go_ret
      exact ⟨rfl, hfin.out⟩
    have d2 : decide (256 ≤ at_) = false := by simp; omega
    by_cases a3 : dt.length = 128
    · have HOK := Lib.hid (show okW ⟨at_, dt⟩ = true by rw [hokw]; simp [a3]; omega)
      clear hokw
      go_wp2
      go_roundw
      case rel => exact ⟨k + 1, by omega, by go_num, HY.out.2.2.alloc HY.out.2.2.size _, fun j hj => by
        by_cases e : j = k
        · subst e; rw [HY.out.1]; exact HOK.out
        · exact HY.out.2.1 j (by omega)⟩
      case measure => simp [intOf]; omega
    · have i5 : ¬ (dt.length : Int) = 128 := by omega
      have hm := HBD.out (by rw [hokw]; simp [a3])
      subst hm
      clear hokw
      go_wp2
      go_ret
      exact ⟨rfl, hfin.out⟩
  obtain rfl : k = wl.length := by omega
  have hm : md = true := by
    rw [HM3.out, List.all_eq_true]
    intro x hx
    obtain ⟨j, hj⟩ := List.mem_iff_getElem?.1 hx
    have hjl : j < wl.length := (List.getElem?_eq_some_iff.1 hj).1
    rw [get_l wl ⟨0, []⟩ j hjl] at hj
    cases hj
    exact hall j hjl
  subst hm
  have c1' := (hB.cell (p := ⟨w.heap.size, 1, none⟩) (Array.getElem?_eq_some_iff.1 HQ.out.1).1).trans c1
  have hfin := below_step HQ.out.2.2.2.2 HQ.out.2.2.2.2.size hB
  clear hall hB
  go_wp2
  go_ret
  exact ⟨rfl, hfin⟩

end Go.Proofs.Ythealkfpflkipaa

namespace Go.Proofs.Ythealkfpflkipaa
open Go.RowKit

def errA (d : DiskL) (p : Int) : Int := if mayD d then (if p < 0 ∨ 256 ≤ p then 2 else 0) else 8

set_option maxRecDepth 100000 in
set_option maxHeartbeats 1000000 in
/-- dev.asked. -/
theorem dasked_any (b u : Value) (d : DiskL) (p : Int) (w : World) (h : DiskV w 0 w.heap.size b u d) :
    Calls Try.prog 73 #[.agg #[b, u], .int .i64 p] w fun e w' => e = .returned (.int .i64 (errA d p)) ∧ Below w.heap.size w w' := by
  have hB := (Below.refl w.heap.size w).alloc (Nat.le_refl _) (.cells #[b, u] 26)
  have hb := h.1.step hB
  have hu := h.2.step hB
  have hq := World.alloc_heap_new w (.cells #[b, u] 26)
  have hck := fun V hh => dcheck_any b u d V hh
  obtain ⟨ab, cb, rfl, g1, g2, -, -⟩ := h.1
  obtain ⟨au, cu, rfl, g1', g2', -, -⟩ := h.2
  unfold maxLen at g2 g2'
  clear h
  obtain ⟨W, hW⟩ : ∃ W, w.alloc (.cells #[.slice ab d.blocks.length cb, .slice au d.waits.length cu] 26) = W := ⟨_, rfl⟩
  rw [hW] at hB hb hu hq
  have hE : (mayD d = true ∧ (if mayD d then (0 : Int) else 8) = 0 ∧ errA d p = (if p < 0 ∨ 256 ≤ p then 2 else 0)) ∨ ((if mayD d then (0 : Int) else 8) = 8 ∧ errA d p = 8) := by
    unfold errA
    cases mayD d
    · exact .inr ⟨rfl, rfl⟩
    · exact .inl ⟨rfl, rfl, rfl⟩
  generalize (if mayD d then (0 : Int) else 8) = er at *
  generalize errA d p = ea at *
  have HE := Lib.hid hE
  have HC := Lib.hid hck
  have HQ := Lib.hid (And.intro hq (And.intro (And.intro hb hu) (And.intro hW hB)))
  clear hq hb hu hW hB hE hck
  go_enter Try.func73, Try.ntmps73
  go_upto_region 1 with (fail)
  rw [HQ.out.2.2.1]
  have c0 := blk_cell HQ.out.1 0
  have c1 := blk_cell HQ.out.1 1
  simp at c0 c1
  go_wp2_with fail
  refine (HC.out W HQ.out.2.1).mono ?_
  rintro e w1 ⟨rfl, hst⟩
  have hfin := below_step HQ.out.2.2.2 HQ.out.2.2.2.size hst
  clear c0 c1
  rcases HE.out with ⟨-, rfl, hx⟩ | ⟨rfl, rfl⟩
  · by_cases h1 : p < 0
    · have hm : ea = 2 := by rw [hx]; simp [h1]
      subst hm
      clear hx HE
      go_wp2
      go_ret
      exact ⟨rfl, hfin⟩
    have d1 : decide (p < 0) = false := by simp; omega
    by_cases h2 : 256 ≤ p
    · have hm : ea = 2 := by rw [hx]; simp [h2]
      subst hm
      clear hx HE
      go_wp2
      go_ret
      exact ⟨rfl, hfin⟩
    · have d2 : decide (256 ≤ p) = false := by simp; omega
      have hm : ea = 0 := by rw [hx]; simp [h1]; omega
      subst hm
      clear hx HE
      go_wp2
      go_ret
      exact ⟨rfl, hfin⟩
  · go_wp2
    go_ret
    exact ⟨rfl, hfin⟩

end Go.Proofs.Ythealkfpflkipaa

namespace Go.Proofs.Ythealkfpflkipaa
open Go.RowKit

/-- Block g alone may have turned. -/
def OnlyAt (g : Nat) (w w' : World) : Prop := Below g w w' ∧ w'.heap.size = w.heap.size ∧ ∀ k, k ≠ g → w'.heap[k]? = w.heap[k]?
theorem OnlyAt.refl (g : Nat) (w : World) : OnlyAt g w w := ⟨Below.refl _ _, rfl, fun _ _ => rfl⟩

theorem wpList_copyF {P : Program} {w : World} {ops : Array Oper} {rest : List Oper} {o : Oper} {a : Act} {Q : Exit → Act → World → Prop} (hgd : o.guard = none) (d s : Operand) (dT sT : TypeId)
    (ho : o.op = .call { callee := .builtin .copy, args := #[d, s], argTypes := #[dT, sT] }) (e : TypeId) (hu : P.underlying dT = some (.slice e))
    (hi : (P.info? e).map (fun i => (i.zero, i.size, i.bytes)) = some (some (.int .u8 0), 1, 1)) (g off dLen dCap : Nat) (hd : a.eval d = .slice (some ⟨g, off, none⟩) dLen dCap)
    (L : List UInt8) (hrow : RowB w g e L) (lo hi' : Nat) (sv : Value) (bs : List UInt8) (hs : a.eval s = sv) (hr : Bytes w lo hi' sv bs) (hfit : bs.length ≤ dLen) (hfit2 : off + bs.length ≤ L.length)
    (h : ∀ w', RowB w' g e (splice L off bs) → OnlyAt g w w' → wpList P ops Q rest (a.put o.dst (goInt ((bs.length : Nat) : Int))) w') : wpList P ops Q (o :: rest) a w := by
  obtain ⟨i0, hi0, hz0, hz1, hz2⟩ := info_parts hi
  obtain ⟨sp, sc, rfl, h1, h2, h3, h4⟩ := hr
  have hmin : Nat.min bs.length dLen = bs.length := Nat.min_eq_left hfit
  have hsz : (P.info? e).map (·.size) = some 1 := by rw [hi0]; simp [hz1]
  by_cases h0 : bs.length = 0
  · obtain rfl : bs = [] := List.eq_nil_of_length_eq_zero h0
    refine wpList_copy_nothing hgd d s dT sT ho e hu hsz _ _ _ _ _ _ hd hs hmin ?_
    exact h w (by simpa [splice] using hrow) (OnlyAt.refl _ _)
  · obtain ⟨b, o2, rfl, _, _, hc⟩ := h3 (by omega)
    refine wpList_copy_own hgd d s dT sT ho e hu hsz g off dLen dCap _ _ _ hd hs (L.map bV).toArray e hrow (bs.map bV) (by rw [List.length_map, hmin]) ?_ (by simpa using hfit2) ?_ ?_
    · intro j v hj
      have e2 : (⟨b, o2, none⟩ : Addr).add j = ⟨b, o2 + j, none⟩ := by unfold Addr.add; split <;> simp_all
      rw [List.getElem?_map] at hj
      cases hx : bs[j]? with
      | none => rw [hx] at hj; cases hj
      | some x =>
        rw [hx] at hj
        cases hj
        rw [e2]
        exact hc j x hx
    · intro u hu
      obtain ⟨y, _, rfl⟩ := List.mem_map.1 hu
      rfl
    · rw [List.length_map]
      refine h _ ?_ ⟨below_setRow (Below.refl _ _) (Nat.le_refl _) _, by simp [World.setRow], fun k hk => setRow_other w g k _ (by omega)⟩
      unfold RowB
      rw [setRow_heap w g (L.map bV).toArray _ e (0, 0) hrow]
      simp [splice, List.map_take, List.map_drop]
end Go.Proofs.Ythealkfpflkipaa

namespace Go.Proofs.Ythealkfpflkipaa
open Go.RowKit

theorem set_block {w : World} {g : Nat} {cs : Array Value} {t : TypeId} {f : Nat × Nat} (h : w.heap[g]? = some (.cells cs t f)) (i : Nat) (v : Value) : (w.setCell ⟨g, i, none⟩ v).heap[g]? = some (.cells (cs.setIfInBounds i v) t f) := by
  simp [World.setCell, Array.getElem?_modify, h]

end Go.Proofs.Ythealkfpflkipaa

namespace Go.Proofs.Ythealkfpflkipaa
open Go.RowKit

set_option maxRecDepth 100000 in
set_option maxHeartbeats 1000000 in
/-- (*dev.heap).clone. -/
theorem hclone_any (g gh o r : Nat) (L : List UInt8) (v : Value) (l : List UInt8) (lo hi : Nat) (w : World) (hrow : RowB w g 5 L) (hbox : w.heap[gh]? = some (.cells #[.slice (some ⟨g, o, none⟩) r r] 126 (0, 0)))
    (hne : g ≠ gh) (hv : Bytes w lo hi v l) (hl : l.length ≤ r) (hr : o + r ≤ L.length) :
    Calls Try.prog 94 #[.pointer (some ⟨gh, 0, none⟩), v] w fun e w' => e = .returned (.slice (some ⟨g, o, none⟩) l.length l.length) ∧ RowB w' g 5 (splice L o l) ∧
      (∃ o', (l.length < r → o' = o + l.length) ∧ o' ≤ L.length ∧ w'.heap[gh]? = some (.cells #[.slice (some ⟨g, o', none⟩) (r - l.length) (r - l.length)] 126 (0, 0))) ∧ Below (min g gh) w w' ∧ w'.heap.size = w.heap.size ∧ ∀ k, k ≠ g → k ≠ gh → w'.heap[k]? = w.heap[k]? := by
  have c0 := blk_cell hbox 0
  simp at c0
  go_enter Try.func94, Try.ntmps94
  go_upto_region 2 with (refine wpList_copyF rfl (.tmp 9) (.tmp 10) 126 22 rfl 5 Try.underlying126 info_u8 g o r r rfl L hrow lo hi v l rfl hv hl (by omega) ?_; intro w1 hrow1 hO)
  have hbox1 := (hO.2.2 gh (Ne.symm hne)).trans hbox
  have c1 := blk_cell hbox1 0
  have f1 := blk_frozen hbox1 0
  simp at c1
  have hw : ∀ x : Int, 0 ≤ x → x < 9223372036854775808 → IntKind.i64.wrap x = x := fun x h1 h2 => IntWalk.i64_in x (by omega)
  have HO := Lib.hid (And.intro hrow1 (And.intro hO hbox1))
  have e1 : (l.length : Int) ≤ r := by omega
  clear hw hrow1 hO hbox1 hrow hbox c0
  have hfin : ∀ u, RowB (w1.setCell ⟨gh, 0, none⟩ u) g 5 (splice L o l) ∧ (w1.setCell ⟨gh, 0, none⟩ u).heap[gh]? = some (.cells #[u] 126 (0, 0)) ∧ Below (min g gh) w (w1.setCell ⟨gh, 0, none⟩ u) ∧ (w1.setCell ⟨gh, 0, none⟩ u).heap.size = w.heap.size ∧ ∀ k, k ≠ g → k ≠ gh → (w1.setCell ⟨gh, 0, none⟩ u).heap[k]? = w.heap[k]? := by
    intro u
    obtain ⟨h1, ⟨h2, h3, h4⟩, h5⟩ := HO.out
    have hb : Below (min g gh) w (w1.setCell ⟨gh, 0, none⟩ u) := (h2.mono (Nat.min_le_left _ _)).setCell (p := ⟨gh, 0, none⟩) (Nat.min_le_right _ _) _
    have hoth : ∀ k, k ≠ gh → (w1.setCell ⟨gh, 0, none⟩ u).heap[k]? = w1.heap[k]? := fun k hk => by
      simp [World.setCell, Array.getElem?_modify, Ne.symm hk]
    refine ⟨(hoth g hne).trans h1, by rw [set_block h5]; rfl, hb, by rw [World.size_setCell]; exact h3, fun k k1 k2 => (hoth k k2).trans (h4 k k1)⟩
  have HF := Lib.hid hfin
  clear hfin HO
  rcases Nat.eq_or_lt_of_le hl with he | he
  · subst he
    go_wp2
    go_ret
    obtain ⟨q1, q2, q3, q4, q5⟩ := HF.out _
    exact ⟨rfl, q1, ⟨o, fun h => absurd h (Nat.lt_irrefl _), by omega, by simpa using q2⟩, q3, q4, q5⟩
  · have hne2 : ¬ r = l.length := by omega
    go_wp2
    go_ret
    obtain ⟨q1, q2, q3, q4, q5⟩ := HF.out _
    exact ⟨rfl, q1, ⟨o + l.length, fun _ => rfl, by omega, q2⟩, q3, q4, q5⟩

end Go.Proofs.Ythealkfpflkipaa

