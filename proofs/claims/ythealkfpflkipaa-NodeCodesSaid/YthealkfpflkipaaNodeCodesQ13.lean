/- NodeCodes: the words and contracts, part 13. -/
import Derived.Test.YthealkfpflkipaaNodeCodesQ1
import Derived.Test.YthealkfpflkipaaNodeCodesQ2
import Derived.Test.YthealkfpflkipaaNodeCodesQ3
import Derived.Test.YthealkfpflkipaaNodeCodesQ4
import Derived.Test.YthealkfpflkipaaNodeCodesQ5
import Derived.Test.YthealkfpflkipaaNodeCodesQ6
import Derived.Test.YthealkfpflkipaaNodeCodesQ7
import Derived.Test.YthealkfpflkipaaNodeCodesQ8
import Derived.Test.YthealkfpflkipaaNodeCodesQ9
import Derived.Test.YthealkfpflkipaaNodeCodesQ10
import Derived.Test.YthealkfpflkipaaNodeCodesQ11
import Derived.Test.YthealkfpflkipaaNodeCodesQ12
import Derived.WalkKit
import Derived.WalkLawsBesides
import Derived.WalkSpells
import Derived.Lib.Hide
import Derived.Laws.Rows
import Derived.Laws.AppendOwnNone
import Derived.Maps.AppendAt
import Derived.ProofKit
import Derived.Deep.Slices
import Derived.WideShapes
import Derived.RangeFuncNested
import Derived.RangeFuncBound
import Derived.RangeFuncCalls
import Derived.RangeFuncLeaves
import Derived.RangeFuncBox
import Derived.Shelf.Abstract
import Derived.Shelf.RegionOpen
import Derived.OwnWalkIn
import Derived.TacticsInMore
import Derived.LoopNIn
import Derived.LoopIn
import Derived.Lib.AppendZerosOnto
import Derived.Lib.SliceRun
import Derived.Lib.Walk
import Derived.Deep.LoopGhost
import Derived.Laws.CopyOwn
import Derived.Laws.CopyRow
import Derived.OrdersHeld
import Derived.Deep.QuietTactic
import Derived.BigQuiet
import Derived.StillTailTactics
import Derived.OpenShut
import Derived.Deep.DeepCutAuto
import Derived.Deep.RegionHeld
import Derived.Laws.MakeOwn
import Derived.KernelRfl
namespace Go.Proofs.Ythealkfpflkipaa
open Go.RowKit

/-- A row of k items whose Ref may be written and whose Val is a row of bytes that may be written. -/
def SpI (w : World) (lo hi : Nat) (s : Value) (k : Nat) : Prop := ∃ a c, s = .slice a k c ∧ k ≤ c ∧ c ≤ maxLen ∧
  (0 < k → ∃ b off, a = some ⟨b, off, none⟩ ∧ lo ≤ b ∧ b < hi ∧ ∀ i, i < k → ∃ x c m r, w.cell? ⟨b, off + i * 5 + 4, none⟩ = some (.slice x m c) ∧ SpoB w lo hi (.slice x m c) m ∧ w.cell? ⟨b, off + i * 5 + 3, none⟩ = some (.int .i64 r) ∧ w.frozen? ⟨b, off + i * 5 + 3, none⟩ = false)
theorem SpI.of {w w' : World} {v : Value} {l : List ItemL} (h : MadeN w w' v l) : SpI w' w.heap.size w'.heap.size v l.length := by
  obtain ⟨hs, hr, -⟩ := h
  obtain ⟨a, c, rfl, h1, h2, h3, -⟩ := hs
  refine ⟨a, c, rfl, h1, h2, fun hp => ?_⟩
  obtain ⟨b, off, rfl, hlo, hhi, hc⟩ := h3 hp
  refine ⟨b, off, rfl, hlo, hhi, fun i hi => ?_⟩
  obtain ⟨-, -, -, g3, -, v, g4, g5, g6⟩ := hc i l[i] (by simp [hi])
  have hs := SpoB.of g5 g6
  obtain ⟨x, k, rfl, -⟩ := hs.form
  exact ⟨x, k, _, _, g4, hs, g3, hr b _ rfl⟩
theorem SpI.set {w : World} {lo hi : Nat} {s : Value} {k : Nat} (h : SpI w lo hi s k) (p : Addr) (x y : UInt8) (hp : w.cell? p = some (bV x)) : SpI (w.setCell p (bV y)) lo hi s k := by
  obtain ⟨a, c, e, h1, h2, h3⟩ := h
  refine ⟨a, c, e, h1, h2, fun hn => ?_⟩
  obtain ⟨b, off, ea, hlo, hhi, hc⟩ := h3 hn
  refine ⟨b, off, ea, hlo, hhi, fun i hi => ?_⟩
  obtain ⟨u, c2, m, r, g1, g2, g3, g4⟩ := hc i hi
  exact ⟨u, c2, m, r, spo_other hp g1 (fun z e => by cases e), g2.set p x y hp, spo_other hp g3 (fun z e => by cases e), by rw [World.frozen?_setCell]; exact g4⟩
/-- A Ref is stored where there was one: bytes stay bytes. -/
theorem spoB_ref {w : World} {lo hi : Nat} {v : Value} {n : Nat} (h : SpoB w lo hi v n) (p : Addr) (r s : Int) (hp : w.cell? p = some (.int .i64 r)) : SpoB (w.setCell p (.int .i64 s)) lo hi v n := by
  obtain ⟨a, c, e, h1, h2, h3⟩ := h
  refine ⟨a, c, e, h1, h2, fun hn => ?_⟩
  obtain ⟨b, off, ea, hlo, hhi, hc⟩ := h3 hn
  refine ⟨b, off, ea, hlo, hhi, fun i hi => ?_⟩
  obtain ⟨z, hz, hf⟩ := hc i hi
  refine ⟨z, ?_, by rw [World.frozen?_setCell]; exact hf⟩
  rw [World.cell?_setCell_other _ _ _ _ (fun e => ?_)]
  · exact hz
  · subst e
    rw [hp] at hz
    cases hz
theorem SpI.ref {w : World} {lo hi : Nat} {s : Value} {k : Nat} (h : SpI w lo hi s k) (p : Addr) (r q : Int) (hp : w.cell? p = some (.int .i64 r)) : SpI (w.setCell p (.int .i64 q)) lo hi s k := by
  obtain ⟨a, c, e, h1, h2, h3⟩ := h
  refine ⟨a, c, e, h1, h2, fun hn => ?_⟩
  obtain ⟨b, off, ea, hlo, hhi, hc⟩ := h3 hn
  refine ⟨b, off, ea, hlo, hhi, fun i hi => ?_⟩
  obtain ⟨u, c2, m, r2, g1, g2, g3, g4⟩ := hc i hi
  have g1' : (w.setCell p (.int .i64 q)).cell? ⟨b, off + i * 5 + 4, none⟩ = some (.slice u m c2) := by
    rw [World.cell?_setCell_other _ _ _ _ (fun e => ?_)]
    · exact g1
    · subst e
      rw [hp] at g1
      cases g1
  have g4' : (w.setCell p (.int .i64 q)).frozen? ⟨b, off + i * 5 + 3, none⟩ = false := by rw [World.frozen?_setCell]; exact g4
  by_cases e : p = ⟨b, off + i * 5 + 3, none⟩
  · subst e
    exact ⟨u, c2, m, q, g1', spoB_ref g2 _ _ q hp, World.cell?_setCell_same' _ _ _ (by rw [g3]; rfl), g4'⟩
  · exact ⟨u, c2, m, r2, g1', spoB_ref g2 _ _ q hp, by rw [World.cell?_setCell_other _ _ _ _ e]; exact g3, g4'⟩
theorem SpI.below {w w' : World} {lo hi B : Nat} {s : Value} {k : Nat} (h : SpI w lo hi s k) (hb : Below B w w') (hB : hi ≤ B) : SpI w' lo hi s k := by
  obtain ⟨a, c, e, h1, h2, h3⟩ := h
  refine ⟨a, c, e, h1, h2, fun hn => ?_⟩
  obtain ⟨b, off, ea, hlo, hhi, hc⟩ := h3 hn
  refine ⟨b, off, ea, hlo, hhi, fun i hi => ?_⟩
  obtain ⟨u, c2, m, r, g1, g2, g3, g4⟩ := hc i hi
  exact ⟨u, c2, m, r, (hb.cell (p := ⟨b, off + i * 5 + 4, none⟩) (by show b < B; omega)).trans g1, g2.below hb hB, (hb.cell (p := ⟨b, off + i * 5 + 3, none⟩) (by show b < B; omega)).trans g3, (hb.frozen (p := ⟨b, off + i * 5 + 3, none⟩) (by show b < B; omega)).trans g4⟩

theorem SpoB.kept {w w' : World} {lo hi : Nat} {v : Value} {n : Nat} (h : SpoB w lo hi v n) (hk : Kp lo hi w w') : SpoB w' lo hi v n := by
  obtain ⟨a, c, e, h1, h2, h3⟩ := h
  refine ⟨a, c, e, h1, h2, fun hn => ?_⟩
  obtain ⟨b, off, ea, hlo, hhi, hc⟩ := h3 hn
  refine ⟨b, off, ea, hlo, hhi, fun i hi => ?_⟩
  obtain ⟨z, hz, hf⟩ := hc i hi
  exact ⟨z, (hk b _ hlo hhi).1.trans hz, (hk b _ hlo hhi).2.trans hf⟩
theorem SpI.kept {w w' : World} {lo hi : Nat} {s : Value} {k : Nat} (h : SpI w lo hi s k) (hk : Kp lo hi w w') : SpI w' lo hi s k := by
  obtain ⟨a, c, e, h1, h2, h3⟩ := h
  refine ⟨a, c, e, h1, h2, fun hn => ?_⟩
  obtain ⟨b, off, ea, hlo, hhi, hc⟩ := h3 hn
  refine ⟨b, off, ea, hlo, hhi, fun i hi => ?_⟩
  obtain ⟨u, c2, m, r, g1, g2, g3, g4⟩ := hc i hi
  exact ⟨u, c2, m, r, (hk b _ hlo hhi).1.trans g1, g2.kept hk, (hk b _ hlo hhi).1.trans g3, (hk b _ hlo hhi).2.trans g4⟩
/-- Such a row, as a fact that a walk carries. -/
def LI (lo hi : Nat) (v : Value) (n : Nat) (V : World) : Prop := Lv lo hi (fun W => SpI W lo hi v n) V
theorem LI.of {V V' : World} {v : Value} {l : List ItemL} (h : MadeN V V' v l) : LI V.heap.size V'.heap.size v l.length V' := Lv.mk' (Nat.le_refl _) fun _ hk => (SpI.of h).kept hk
theorem LI.sp {V : World} {lo hi n : Nat} {v : Value} (h : LI lo hi v n V) : SpI V lo hi v n := Lv.get h
theorem LI.step {V V' : World} {lo hi n : Nat} {v : Value} (h : LI lo hi v n V) (hb : Below V.heap.size V V') : LI lo hi v n V' := Lv.step h hb
theorem LI.out {V V' : World} {lo hi n n0 h0 : Nat} {v : Value} (h : LI lo hi v n V) (hs : V.heap.size ≤ V'.heap.size) (hf : ∀ x, x < V.heap.size → (x < n0 ∨ h0 ≤ x) → V'.heap[x]? = V.heap[x]?) (hd : hi ≤ n0 ∨ h0 ≤ lo) : LI lo hi v n V' := Lv.out h hs hf hd

set_option maxRecDepth 100000 in
set_option maxHeartbeats 2000000 in
theorem spoil6_any (lv : Int) (u : Value) (nu : Nat) (w : World) (n0 hi : Nat) (hhi : hi ≤ w.heap.size) (hn : n0 ≤ hi) (h2 : SpI w n0 hi u nu) :
    Calls Try.prog 35 #[.agg #[.int .i64 lv, u]] w fun e w' => (∃ v, e = .returned v) ∧ Below n0 w w' ∧ ∀ x, x < w.heap.size → (x < n0 ∨ hi ≤ x) → w'.heap[x]? = w.heap[x]? := by
  have hst0 := (Below.refl w.heap.size w).alloc (Nat.le_refl _) (.cells #[.int .i64 lv, u] 54)
  have hq := World.alloc_heap_new w (.cells #[.int .i64 lv, u] 54)
  obtain ⟨au, cu, rfl, g3, g4, hu1⟩ := id h2
  unfold maxLen at g4
  obtain ⟨W, hW⟩ : ∃ W, w.alloc (.cells #[.int .i64 lv, .slice au nu cu] 54) = W := ⟨_, rfl⟩
  rw [hW] at hst0 hq
  have hB : Below n0 w W := hst0.mono (Nat.le_trans hn hhi)
  have HS := Lib.hid (And.intro (h2.below hst0 hhi) (And.intro hB hq))
  have HWE := Lib.hid hW
  have HF := Lib.hid (show ∀ x, x < w.heap.size → x < W.heap.size ∧ W.heap[x]? = w.heap[x]? from fun x hx => ⟨Nat.lt_of_lt_of_le hx hst0.size, hst0.block x hx⟩)
  clear h2 hst0 hq hB hu1 hW
  go_enter Try.func35, Try.ntmps35
  go_upto_region 1 with (fail)
  rw [HWE.out]
  clear HWE
  have q1 := blk_cell HS.out.2.2 1
  simp at q1
  go_wp2_with fail
  go_loopw [2] (fun i wr => ∃ k : Nat, k ≤ nu ∧ i = .int .i64 k ∧ SpI wr n0 hi (.slice au nu cu) nu ∧ (Below n0 w wr ∧ (∀ x, x < W.heap.size → (x < n0 ∨ hi ≤ x) → wr.heap[x]? = W.heap[x]?)) ∧ wr.heap[w.heap.size]? = some (.cells #[.int .i64 lv, .slice au nu cu] 54 (0, 0))) (fun i _ => nu - (intOf i).toNat)
  case atStart => exact ⟨0, Nat.zero_le _, rfl, HS.out.1, ⟨HS.out.2.1, fun _ _ _ => rfl⟩, HS.out.2.2⟩
  case round =>
  obtain ⟨k, hk, rfl, hs2, hBw, hq⟩ := hrel
  clear q1
  have q1 := blk_cell hq 1
  simp at q1
  by_cases hlt : k < nu
  · obtain ⟨a', c', e', -, z2, z3⟩ := id hs2
    obtain ⟨bb, bo, ea, zl, zh, zc⟩ := z3 (by omega)
    cases e'
    subst ea
    obtain ⟨sa, sc, m, ref, hcell, hsp, hrf, hrz⟩ := zc k hlt
    obtain ⟨pa, pc, e2, y1, y2, y3⟩ := id hsp
    cases e2
    have hcell0 : wr.cell? ⟨bb, bo + k * 5 + 4, none⟩ = some (.slice sa m sc) := by simpa using hcell
    unfold maxLen at z2 y2
    obtain ⟨wo, hwo⟩ : ∃ wo, wo = wr := ⟨_, rfl⟩
    subst hwo
    have HK := Lib.hid (And.intro hs2 (And.intro hBw (And.intro hq (And.intro hsp hcell))))
    clear hs2 hBw hq hsp hcell z3 zc y3 hrf hrz
    go_wp2_with fail
    go_loopw [3] (fun i wx => ∃ j : Nat, j ≤ m ∧ i = .int .i64 j ∧ SpI wx n0 hi (.slice (some ⟨bb, bo, none⟩) nu cu) nu ∧ (Below n0 w wx ∧ (∀ x, x < W.heap.size → (x < n0 ∨ hi ≤ x) → wx.heap[x]? = W.heap[x]?)) ∧ wx.heap[w.heap.size]? = some (.cells #[.int .i64 lv, .slice (some ⟨bb, bo, none⟩) nu cu] 54 (0, 0)) ∧ SpoB wx n0 hi (.slice sa m sc) m ∧ wx.cell? ⟨bb, bo + k * 5 + 4, none⟩ = some (.slice sa m sc)) (fun i _ => m - (intOf i).toNat)
    case atStart => exact ⟨0, Nat.zero_le _, rfl, HK.out.1, HK.out.2.1, HK.out.2.2.1, HK.out.2.2.2.1, HK.out.2.2.2.2⟩
    case round =>
    obtain ⟨j, hj, rfl, hs2, hBw, hq, hsp, hcell⟩ := hrel
    clear q1 hcell0
    have q1 := blk_cell hq 1
    simp at q1
    have hcell0 : wr.cell? ⟨bb, bo + k * 5 + 4, none⟩ = some (.slice sa m sc) := by simpa using hcell
    by_cases hjm : j < m
    · obtain ⟨pa, pc, e2, y1, y2, y3⟩ := id hsp
      cases e2
      obtain ⟨sb, so, ea, t1, t2, t3⟩ := y3 (by omega)
      subst ea
      obtain ⟨x, hx, hxf⟩ := t3 j hjm
      have hx0 : wr.cell? ⟨sb, so + j, none⟩ = some (.int .u8 (x.toNat : Int)) := hx
      have hx1 : (x.toNat : Int) < 256 := by have := x.toNat_lt; omega
      have HJ := Lib.hid (And.intro hs2 (And.intro hBw (And.intro hq (And.intro hsp (And.intro hcell (And.intro hx (spo_add x)))))))
      clear hs2 hBw hq hsp hcell hx y3 t3
      unfold maxLen at y2
      go_wp2_with fail
      go_still_tail 18, (by kernel_rfl)
      go_wp2
      go_roundw
      case rel =>
        obtain ⟨hs2, hBw, hq, hsp, hcell, hx, hadd⟩ := HJ.out
        rw [hadd]
        have hsb : w.heap.size ≠ sb := by omega
        exact ⟨j + 1, by omega, by go_num, SpI.set (w := wr) hs2 _ _ (x + 1) hx, ⟨hBw.1.drew.setCell (p := ⟨sb, so + j, none⟩) t1 _, fun x h1 h2 => (set_other wr sb (so + j) _ x (by omega)).trans (hBw.2 x h1 h2)⟩, (set_other wr sb (so + j) _ _ hsb).trans hq, SpoB.set (w := wr) hsp _ _ (x + 1) hx, spo_other (w := wr) (y := x + 1) hx hcell (fun z e => by cases e)⟩
      case measure => simp [intOf]; omega
    obtain rfl : m = j := by omega
    obtain ⟨a', c', e', -, -, z3⟩ := id hs2
    obtain ⟨bb', bo', ea, -, -, zc⟩ := z3 (by omega)
    cases e'
    cases ea
    obtain ⟨-, -, -, ref, -, -, hrf, hrz⟩ := zc k hlt
    have HJ := Lib.hid (And.intro hs2 (And.intro hBw (And.intro hq hrf)))
    have hrf0 : wr.cell? ⟨bb, bo + k * 5 + 3, none⟩ = some (.int .i64 ref) := by simpa using hrf
    clear hs2 hBw hq hsp hcell hj hjm z3 zc hrf
    go_wp2
    go_roundw
    case rel =>
      obtain ⟨hs2, hBw, hq, hrf⟩ := HJ.out
      have hsb : w.heap.size ≠ bb := by omega
      exact ⟨k + 1, by omega, by go_num, SpI.ref (w := wr) hs2 _ _ 7 hrf, ⟨hBw.1.setCell (p := ⟨bb, bo + k * 5 + 3, none⟩) zl _, fun x h1 h2 => (set_other wr bb (bo + k * 5 + 3) _ x (by omega)).trans (hBw.2 x h1 h2)⟩, (set_other wr bb (bo + k * 5 + 3) _ _ hsb).trans hq⟩
    case measure => simp [intOf]; omega
  obtain rfl : nu = k := by omega
  have hBf := hBw
  clear hs2 hBw hq
  go_wp2
  go_end0
  exact ⟨⟨_, rfl⟩, hBf.1, fun x h1 h2 => (hBf.2 x (HF.out x h1).1 h2).trans (HF.out x h1).2⟩
end Go.Proofs.Ythealkfpflkipaa

