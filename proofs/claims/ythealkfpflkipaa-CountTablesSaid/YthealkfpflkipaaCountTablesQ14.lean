/- CountTables: the words and contracts, part 14. -/
import Derived.Test.YthealkfpflkipaaCountTablesQ1
import Derived.Test.YthealkfpflkipaaCountTablesQ2
import Derived.Test.YthealkfpflkipaaCountTablesQ3
import Derived.Test.YthealkfpflkipaaCountTablesQ4
import Derived.Test.YthealkfpflkipaaCountTablesQ5
import Derived.Test.YthealkfpflkipaaCountTablesQ6
import Derived.Test.YthealkfpflkipaaCountTablesQ7
import Derived.Test.YthealkfpflkipaaCountTablesQ8
import Derived.Test.YthealkfpflkipaaCountTablesQ9
import Derived.Test.YthealkfpflkipaaCountTablesQ12
import Derived.Test.YthealkfpflkipaaCountTablesQ13
import Derived.WalkKit
import Derived.WalkLawsBesides
import Derived.WalkSpells
import Derived.Lib.Hide
import Derived.Laws.Rows
import Derived.Laws.AppendOwnNone
import Derived.Maps.AppendAt
import Derived.RangeFuncNested
import Derived.RangeFuncBound
import Derived.RangeFuncCalls
import Derived.RangeFuncLeaves
import Derived.RangeFuncBox
import Derived.Shelf.Abstract
import Derived.Shelf.RegionOpen
import Derived.OwnWalkIn
import Derived.TacticsInMore
import Derived.LoopNIn
import Derived.LoopIn
import Derived.ProofKit
import Derived.Deep.Slices
import Derived.WideShapes
import Derived.OrdersHeld
import Derived.Deep.QuietTactic
import Derived.BigQuiet
import Derived.StillTailTactics
import Derived.OpenShut
import Derived.Lib.SliceRun
import Derived.Lib.AppendZerosOnto
import Derived.Lib.Walk
import Derived.Deep.LoopGhost
import Derived.Laws.CopyOwn
import Derived.Deep.DeepCutAuto
import Derived.Laws.CopyRow
import Derived.Laws.MakeOwn
import Derived.Deep.RegionHeld
namespace Go.Proofs.Ythealkfpflkipaa
open Go.RowKit

theorem CKc.below {w w' : World} (h : Below w.heap.size w w') : CKc w w' := fun a _v e => ⟨(h.cell (p := a) (cell_lt' e)).trans e, h.frozen (p := a) (cell_lt' e)⟩
theorem SrcW.ck {T w w' : World} {sv : Value} {l : List WrL} (h : SrcW T w sv l) (hc : CKc w w') : SrcW T w' sv l := by
  obtain ⟨a, c, e, h1, bs, h2, h3, h4⟩ := h
  exact ⟨a, c, e, h1, bs, h2, h3, fun ad ha j u hu => (hc _ _ (h4 ad ha j u hu)).1⟩
theorem SrcW.ofT {T w : World} {sv : Value} {l : List WrL} (h : Sl rWrite T 0 T.heap.size sv l) (hc : CKc T w) : SrcW T w sv l := (SrcW.of h (Below.refl _ _)).ck hc
theorem OwnW.slC {base : Nat} {T w : World} {v : Value} {l : List WrL} (h : OwnW base T w v l) (hk : CKc T w) (hs : T.heap.size ≤ w.heap.size) : Sl rWrite w 0 w.heap.size v l := by
  obtain ⟨xs, ⟨hl, hrow⟩, hx⟩ := h
  rcases hrow with ⟨rfl, h0⟩ | ⟨g, cap, cur, rfl, hg, hh, h1, h2, h3, h4⟩
  · have : l = [] := List.eq_nil_of_length_eq_zero (by omega)
    subst this
    exact Sl.nil_ _ _ _
  · refine ⟨_, _, rfl, h1, h2, fun _ => ⟨g, 0, rfl, Nat.zero_le _, (Array.getElem?_eq_some_iff.1 hh).1, fun i x hxi => ?_⟩, fun h => by cases h⟩
    obtain ⟨⟨e1, e2⟩, y, e3, e4⟩ := hx i x hxi
    have hc : ∀ j u, xs[j]? = some u → w.cell? ⟨g, j, none⟩ = some u := by
      intro j u hj
      rw [blk_cell hh, ← hj, ← h4, List.getElem?_take, if_pos]
      · simp
      · have := (List.getElem?_eq_some_iff.1 hj).1
        rw [hl] at this
        exact this
    refine ⟨?_, e2, y, ?_, (e4.ck hk).more (Nat.le_refl _) hs⟩
    · show w.cell? ⟨g, 0 + i * 2 + 0, none⟩ = _
      rw [Nat.zero_add, Nat.add_zero]
      exact hc _ _ e1
    · show w.cell? ⟨g, 0 + i * 2 + 1, none⟩ = _
      rw [Nat.zero_add]
      exact hc _ _ e3

theorem diskT_at {T w : World} {b u : Value} {d : DiskL} (hc : CKc T w) (hs : T.heap.size ≤ w.heap.size) (h : DiskV T 0 T.heap.size b u d) : DiskV w 0 w.heap.size b u d :=
  ⟨(h.1.ck rBytes_ck hc).more (Nat.le_refl _) hs, (h.2.ck rWrite_ck hc).more (Nat.le_refl _) hs⟩
theorem bytesT_at {T w : World} {v : Value} {l : List UInt8} (hc : CKc T w) (hs : T.heap.size ≤ w.heap.size) (h : Bytes T 0 T.heap.size v l) : Bytes w 0 w.heap.size v l := (h.ck hc).more (Nat.le_refl _) hs
/-- A disk whose data lies in T, or in what was made from w on. -/
structure GotT (T w w' : World) (b u : Value) (d : DiskL) : Prop where
  disk : ∀ W : World, w'.heap.size ≤ W.heap.size → CKc T W → (∀ k, w.heap.size ≤ k → k < w'.heap.size → W.heap[k]? = w'.heap[k]?) → DiskV W 0 W.heap.size b u d
  below : Below w.heap.size w w'
theorem GotT.got {T w w' : World} {b u : Value} {d : DiskL} (h : GotT T w w' b u d) (hc : CKc T w) : GotD w w' b u d := ⟨h.disk w' (Nat.le_refl _) (hc.trans (CKc.below h.below)) (fun _ _ _ => rfl), h.below⟩
theorem GotT.nil_ {T w w' : World} (h : Below w.heap.size w w') : GotT T w w' (.slice none 0 0) (.slice none 0 0) ⟨[], []⟩ := ⟨fun _ _ _ _ => ⟨Sl.nil_ _ _ _, Sl.nil_ _ _ _⟩, h⟩

set_option maxRecDepth 100000 in
set_option maxHeartbeats 1000000 in
/-- The reference's With. -/
theorem rwithT (b u : Value) (d : DiskL) (p : Int) (v : Value) (l : List UInt8) (w T : World) (hck : CKc T w) (hsT : T.heap.size ≤ w.heap.size) (h : DiskV T 0 T.heap.size b u d) (hv : Bytes T 0 T.heap.size v l) (hp : (Lit.int .i64 p).wf = true) (hn : d.waits.length ≤ 5000) :
    Calls Try.prog 76 #[.agg #[b, u], .int .i64 p, v] w fun e w' => ∃ b' u', e = .returned (.agg #[b', u']) ∧ GotT T w w' b' u' ⟨d.blocks, d.waits ++ [⟨p, l⟩]⟩ := by
  have hB := ((Below.refl w.heap.size w).alloc (Nat.le_refl _) (.cells #[b, u] 26)).alloc (by simp) (.cells #[.slice none 0 0, .slice none 0 0] 26)
  have hD : DiskV _ 0 _ b u d := (diskT_at hck hsT h).step hB
  have hv0 := (bytesT_at hck hsT hv).step hB
  have hT := h
  have hvT := hv
  have hq := two_new w (.cells #[b, u] 26) (.cells #[.slice none 0 0, .slice none 0 0] 26)
  obtain ⟨ab, cb, rfl, g1, g2, -, -⟩ := h.1
  obtain ⟨au, cu, rfl, g3, g4, -, -⟩ := h.2
  obtain ⟨av, cv, rfl, y1, y2⟩ := hv.form rfl
  unfold maxLen at g2 g4 y2
  have HD0 := Lib.hid (And.intro hT (And.intro hvT (And.intro hck hsT)))
  clear hT hvT hck
  clear h hv
  obtain ⟨W, hW⟩ : ∃ W, (w.alloc (.cells #[.slice ab d.blocks.length cb, .slice au d.waits.length cu] 26)).alloc (.cells #[.slice none 0 0, .slice none 0 0] 26) = W := ⟨_, rfl⟩
  rw [hW] at hB hD hq hv0
  have c0 := blk_cell hq.1 0
  have c1 := blk_cell hq.1 1
  simp at c0 c1
  have HQ := Lib.hid (And.intro hD (And.intro hv0 (And.intro hB hq)))
  clear hB hD hq hv0
  go_enter Try.func76, Try.ntmps76
  go_upto_region 2 with (fail)
  have h7 := World.alloc_heap_new W (.cells #[.slice ab d.blocks.length cb, .slice none 0 0] 26)
  have hst := (Below.refl W.heap.size W).alloc (Nat.le_refl _) (.cells #[.slice ab d.blocks.length cb, .slice none 0 0] 26)
  have n0 := (Array.getElem?_eq_some_iff.1 HQ.out.2.2.2.2).1
  obtain ⟨w1, hw1⟩ : ∃ w1, W.alloc (.cells #[.slice ab d.blocks.length cb, .slice none 0 0] 26) = w1 := ⟨_, rfl⟩
  rw [hw1] at h7 hst ⊢
  clear hw1
  have q1 := (hst.block _ (Array.getElem?_eq_some_iff.1 HQ.out.2.2.2.2).1).trans HQ.out.2.2.2.2
  have d0 := (hst.cell (p := ⟨w.heap.size, 0, none⟩) (cell_lt' c0)).trans c0
  have d1 := (hst.cell (p := ⟨w.heap.size, 1, none⟩) (cell_lt' c1)).trans c1
  have hBw1 := below_step HQ.out.2.2.1 HQ.out.2.2.1.size hst
  generalize hg7 : W.heap.size = g7 at *
  have HG7 := Lib.hid hg7
  clear hg7
  have e0 := blk_cell h7 0
  have e1 := blk_cell h7 1
  have f1 := blk_frozen h7 1
  simp at e0 e1
  have hsrc : SrcW T w1 (.slice au d.waits.length cu) d.waits := SrcW.ofT HD0.out.1.2 (HD0.out.2.2.1.trans (CKc.below hBw1))
  have hown0 : OwnW w1.heap.size T w1 (.slice none 0 0) [] := OwnW.nil_ _ _ _
  have HS := Lib.hid (And.intro hsrc (And.intro hown0 (And.intro h7 (And.intro q1 (And.intro hst hBw1)))))
  clear c0 c1 hsrc hown0 h7 q1 hst hBw1
  go_upto_region 3 with (at_builtin; refine wpList_appW rfl (.tmp 12) (.tmp 14) rfl w1.heap.size T _ _ [] d.waits rfl rfl HS.out.2.1 HS.out.1 (by simp; omega) (Nat.le_refl _) ?_; intro a2 c2 w2 hown2 hB2; rw [List.nil_append] at hown2 ⊢; have k7 := (hB2.block _ (Array.getElem?_eq_some_iff.1 HS.out.2.2.1).1).trans HS.out.2.2.1; have k0 := blk_cell k7 0; have k1 := blk_cell k7 1; have kf := blk_frozen k7 1; simp at k0 k1; have HO := Lib.hid (And.intro hown2 (And.intro hB2 k7)); clear hown2 hB2 k7)
  have hown3 := HO.out.1.set g7 1 (.slice a2 d.waits.length c2) (Array.getElem?_eq_some_iff.1 HS.out.2.2.1).1
  have k73 := set_block HO.out.2.2 1 (.slice a2 d.waits.length c2)
  have hg1 : w.heap.size + 1 ≠ g7 := by have := (Array.getElem?_eq_some_iff.1 HQ.out.2.2.2.2).1; have := HG7.out; omega
  have q3 := (set_other w2 g7 1 (.slice a2 d.waits.length c2) (w.heap.size + 1) hg1).trans ((HO.out.2.1.block _ (Array.getElem?_eq_some_iff.1 HS.out.2.2.2.1).1).trans HS.out.2.2.2.1)
  have hgw : w.heap.size ≤ g7 := by have := HQ.out.2.2.1.size; have := HG7.out; omega
  have hBw : Below w.heap.size w w2 := below_step HS.out.2.2.2.2.2 HS.out.2.2.2.2.2.size HO.out.2.1
  have hBw3 := hBw.setCell (p := ⟨g7, 1, none⟩) hgw (.slice a2 d.waits.length c2)
  have hsz3 : w1.heap.size ≤ (w2.setCell ⟨g7, 1, none⟩ (.slice a2 d.waits.length c2)).heap.size := by rw [World.size_setCell]; exact HO.out.2.1.size
  obtain ⟨w3, hw3⟩ : ∃ w3, w2.setCell ⟨g7, 1, none⟩ (.slice a2 d.waits.length c2) = w3 := ⟨_, rfl⟩
  rw [hw3] at hown3 k73 q3 hBw3 hsz3 ⊢
  clear hw3 k0 k1 kf hBw
  have k0 := blk_cell k73 0
  have k1 := blk_cell k73 1
  have kf := blk_frozen k73 1
  simp at k0 k1
  have hone := SrcW.one (W := T) (w := w3) (p := p) hp HD0.out.2.1
  have hownA := hown3.alloc (.cells #[.int .i64 p, .slice av l.length cv] 50)
  have hBA := (Below.refl w3.heap.size w3).alloc (Nat.le_refl _) (.cells #[.int .i64 p, .slice av l.length cv] 50)
  have HO3 := Lib.hid (And.intro hone (And.intro hownA (And.intro k73 (And.intro q3 (And.intro hBw3 (And.intro hBA hgw))))))
  have hl7 := (Array.getElem?_eq_some_iff.1 k73).1
  have hszA : w1.heap.size ≤ (w3.alloc (.cells #[.int .i64 p, .slice av l.length cv] 50)).heap.size := Nat.le_trans hsz3 hBA.size
  clear hone hown3 hownA k73 q3 hBw3 hBA d0 d1 e0 e1 f1
  go_upto_region 4 with (at_builtin; refine wpList_appW rfl (.tmp 18) (.tmp 22) rfl w1.heap.size T _ _ d.waits [⟨p, l⟩] rfl rfl HO3.out.2.1 HO3.out.1 (by simp; omega) hszA ?_; intro a4 c4 w4 hown4 hB4; rw [show (d.waits ++ [(⟨p, l⟩ : WrL)]).length = d.waits.length + 1 by simp] at hown4; have k74 := (hB4.block g7 (Array.getElem?_eq_some_iff.1 HS.out.2.2.1).1).trans ((HO3.out.2.2.2.2.2.1.block g7 hl7).trans HO3.out.2.2.1); have j0 := blk_cell k74 0; have j1 := blk_cell k74 1; have jf := blk_frozen k74 1; simp at j0 j1; have HO4 := Lib.hid (And.intro hown4 (And.intro hB4 k74)); clear hown4 hB4 k74)
  have hBA := HO3.out.2.2.2.2.2.1
  have hB4 := HO4.out.2.1
  have hl71 : g7 < w1.heap.size := (Array.getElem?_eq_some_iff.1 HS.out.2.2.1).1
  have hq1l : w.heap.size + 1 < w1.heap.size := (Array.getElem?_eq_some_iff.1 HS.out.2.2.2.1).1
  have hl31 : w.heap.size + 1 < w3.heap.size := (Array.getElem?_eq_some_iff.1 HO3.out.2.2.2.1).1
  have hg1 : w.heap.size + 1 ≠ g7 := Nat.ne_of_lt n0
  have q4 := (hB4.block (w.heap.size + 1) hq1l).trans ((hBA.block _ hl31).trans HO3.out.2.2.2.1)
  have hgw := HO3.out.2.2.2.2.2.2
  have hBw5 := ((HO3.out.2.2.2.2.1.trans (hBA.mono HO3.out.2.2.2.2.1.size)).trans (hB4.mono (Nat.le_trans hgw (Nat.le_of_lt hl71)))).setCell (p := ⟨g7, 1, none⟩) hgw (.slice a4 (d.waits.length + 1) c4)
  have hown5 := HO4.out.1.set g7 1 (.slice a4 (d.waits.length + 1) c4) hl71
  have k75 := set_block HO4.out.2.2 1 (.slice a4 (d.waits.length + 1) c4)
  have q5 := (set_other w4 g7 1 (.slice a4 (d.waits.length + 1) c4) (w.heap.size + 1) hg1).trans q4
  have hsz5 : w1.heap.size ≤ (w4.setCell ⟨g7, 1, none⟩ (.slice a4 (d.waits.length + 1) c4)).heap.size := by rw [World.size_setCell]; exact Nat.le_trans hszA hB4.size
  obtain ⟨w5, hw5⟩ : ∃ w5, w4.setCell ⟨g7, 1, none⟩ (.slice a4 (d.waits.length + 1) c4) = w5 := ⟨_, rfl⟩
  rw [hw5] at hBw5 hown5 k75 q5 hsz5 ⊢
  have m0 := blk_cell k75 0
  have m1 := blk_cell k75 1
  have r0 := blk_cell q5 0
  have r1 := blk_cell q5 1
  have z0 := blk_frozen q5 0
  have z1 := blk_frozen q5 1
  simp at m0 m1 r0 r1
  have HF := Lib.hid (And.intro hBw5 (And.intro hown5 hsz5))
  clear hBw5 hown5 k75 q5 q4 hsz5 hw5 hBA hB4 j0 j1 jf k0 k1 kf
  go_wp2
  refine bodyPost_ret (v := .agg #[.slice ab d.blocks.length cb, .slice a4 (d.waits.length + 1) c4]) (by simp [results, Try.results76, go_sem, r0, r1]) rfl ?_
  obtain ⟨hBw5, hown5, hsz5⟩ := HF.out
  have hBf := (hBw5.setCell (p := ⟨w.heap.size + 1, 0, none⟩) (Nat.le_succ _) (.slice ab d.blocks.length cb)).setCell (p := ⟨w.heap.size + 1, 1, none⟩) (Nat.le_succ _) (.slice a4 (d.waits.length + 1) c4)
  have hown6 := (hown5.set (w.heap.size + 1) 0 (.slice ab d.blocks.length cb) hq1l).set (w.heap.size + 1) 1 (.slice a4 (d.waits.length + 1) c4) hq1l
  have hww1 : w.heap.size ≤ w1.heap.size := HS.out.2.2.2.2.2.size
  refine ⟨_, _, rfl, fun W hs hcT hk => ?_, hBf⟩
  have hTs : T.heap.size ≤ W.heap.size := Nat.le_trans HD0.out.2.2.2 (Nat.le_trans hBf.size hs)
  exact ⟨(HD0.out.1.1.ck rBytes_ck hcT).more (Nat.le_refl _) hTs, (hown6.same fun k h1 o h2 => (hk k (by omega) (Array.getElem?_eq_some_iff.1 h2).1).trans h2).slC hcT hTs⟩

set_option maxRecDepth 100000 in
set_option maxHeartbeats 1000000 in
/-- The reference's Write. -/
theorem rdwriteT (b u : Value) (d : DiskL) (p : Int) (v : Value) (l : List UInt8) (w T : World) (hcT : CKc T w) (hsT : T.heap.size ≤ w.heap.size) (h1 : DiskV T 0 T.heap.size b u d) (hv1 : Bytes T 0 T.heap.size v l) :
    Calls Try.prog 45 #[.agg #[b, u], .int .i64 p, v] w fun e w' => ∃ b' u', e = .returned (.tuple #[.agg #[b', u'], .int .i64 (errW d p l)]) ∧ GotT T w w' b' u' (writeD d p l) := by
  have h : DiskV w 0 w.heap.size b u d := diskT_at hcT hsT h1
  have hv := bytesT_at hcT hsT hv1
  have hB := ((Below.refl w.heap.size w).alloc (Nat.le_refl _) (.cells #[b, u] 26)).alloc (by simp) (.cells #[.slice none 0 0, .slice none 0 0] 26)
  have hD : DiskV _ 0 _ b u d := h.step hB
  have hv0 := hv.step hB
  have hq := two_new w (.cells #[b, u] 26) (.cells #[.slice none 0 0, .slice none 0 0] 26)
  have hck := fun V hh => rmayd_any b u d V hh
  have htw := fun V hc hs (hp : (Lit.int .i64 p).wf = true) (hn : d.waits.length ≤ 5000) => rwithT b u d p v l V T hc hs h1 hv1 hp hn
  obtain ⟨ab, cb, rfl, g1, g2, -, -⟩ := h.1
  obtain ⟨au, cu, rfl, g1', g2', -, -⟩ := h.2
  obtain ⟨av, cv, rfl, y1, y2⟩ := hv.form rfl
  have HV := Lib.hid hv
  unfold maxLen at g2 g2' y2
  have HD0 := Lib.hid (And.intro hcT hsT)
  clear h hv h1 hv1 hcT
  obtain ⟨W, hW⟩ : ∃ W, (w.alloc (.cells #[.slice ab d.blocks.length cb, .slice au d.waits.length cu] 26)).alloc (.cells #[.slice none 0 0, .slice none 0 0] 26) = W := ⟨_, rfl⟩
  rw [hW] at hB hD hq hv0
  have c0 := blk_cell hq.1 0
  have c1 := blk_cell hq.1 1
  simp at c0 c1
  have HQ := Lib.hid (And.intro hD (And.intro hv0 (And.intro hB hq)))
  obtain ⟨ea, hea⟩ : ∃ ea, errA d p = ea := ⟨_, rfl⟩
  have HC := Lib.hid (And.intro hck htw)
  have HEA := Lib.hid hea
  obtain ⟨ew, hew⟩ : ∃ ew, errW d p l = ew := ⟨_, rfl⟩
  obtain ⟨wd, hwd⟩ : ∃ wd, writeD d p l = wd := ⟨_, rfl⟩
  rw [hew, hwd]
  have HE := Lib.hid (And.intro hew hwd)
  clear hB hD hq hck htw hea hew hwd hv0
  go_enter Try.func45, Try.ntmps45
  go_wp2_with fail
  refine (HC.out.1 W HQ.out.1).mono ?_
  rintro e w1 ⟨rfl, hst⟩
  obtain ⟨hD, hv0, hB, q0, q1⟩ := HQ.out
  replace q0 := (hst.block _ (Array.getElem?_eq_some_iff.1 q0).1).trans q0
  replace q1 := (hst.block _ (Array.getElem?_eq_some_iff.1 q1).1).trans q1
  replace hD := hD.step hst
  replace hv0 := hv0.step hst
  replace hB := below_step hB hB.size hst
  clear c0 c1
  have c0 := blk_cell q0 0
  have c1 := blk_cell q0 1
  have r0 := blk_cell q1 0
  have r1 := blk_cell q1 1
  have f0 := blk_frozen q1 0
  have f1 := blk_frozen q1 1
  simp at c0 c1 r0 r1
  have HQ1 := Lib.hid (And.intro hD (And.intro hB (And.intro hv0 (And.intro q0 q1))))
  clear hD hB q0 q1 hst HQ hv0
  have hfail : ∀ W : World, Below w.heap.size w W → Below w.heap.size w ((W.setCell ⟨w.heap.size + 1, 0, none⟩ (.slice none 0 0)).setCell ⟨w.heap.size + 1, 1, none⟩ (.slice none 0 0)) := fun W h =>
    (h.setCell (p := ⟨w.heap.size + 1, 0, none⟩) (Nat.le_succ _) _).setCell (p := ⟨w.heap.size + 1, 1, none⟩) (Nat.le_succ _) _
  have HF := Lib.hid hfail
  clear hfail
  have hbad : ∀ n : Int, ea = n → n ≠ 0 → ew = n ∧ wd = ⟨[], []⟩ := by
    intro n hn h0
    obtain ⟨h1, h2⟩ := HE.out
    have he := HEA.out
    have e1 : ew = n := by rw [← h1]; unfold errW; rw [he, hn, if_pos h0]
    refine ⟨e1, ?_⟩
    rw [← h2]
    unfold writeD
    rw [h1, e1, if_neg h0]
  have HBAD := Lib.hid hbad
  clear hbad
  cases hmay : mayD d
  case false =>
    obtain rfl : ea = 8 := by rw [← HEA.out]; unfold errA; rw [hmay]; rfl
    obtain ⟨rfl, rfl⟩ := HBAD.out 8 rfl (by decide)
    clear hmay
    go_wp2
    refine bodyPost_ret (v := .tuple #[.agg #[.slice none 0 0, .slice none 0 0], .int .i64 8]) (by simp [results, Try.results45, go_sem, r0, r1]) rfl ⟨_, _, rfl, GotT.nil_ (HF.out _ HQ1.out.2.1)⟩
  have hea2 : ea = if p < 0 ∨ 256 ≤ p then 2 else 0 := by rw [← HEA.out, errA_may p hmay]
  have HEA2 := Lib.hid hea2
  have HMM := Lib.hid hmay
  clear hea2 hmay
  by_cases p0 : p < 0
  · obtain rfl : ea = 2 := by rw [HEA2.out, if_pos (.inl p0)]
    obtain ⟨rfl, rfl⟩ := HBAD.out 2 rfl (by decide)
    go_wp2
    refine bodyPost_ret (v := .tuple #[.agg #[.slice none 0 0, .slice none 0 0], .int .i64 2]) (by simp [results, Try.results45, go_sem, r0, r1]) rfl ⟨_, _, rfl, GotT.nil_ (HF.out _ HQ1.out.2.1)⟩
  have q0 : decide (p < 0) = false := by simp; omega
  by_cases p2 : 256 ≤ p
  · obtain rfl : ea = 2 := by rw [HEA2.out, if_pos (.inr p2)]
    obtain ⟨rfl, rfl⟩ := HBAD.out 2 rfl (by decide)
    go_wp2
    refine bodyPost_ret (v := .tuple #[.agg #[.slice none 0 0, .slice none 0 0], .int .i64 2]) (by simp [results, Try.results45, go_sem, r0, r1]) rfl ⟨_, _, rfl, GotT.nil_ (HF.out _ HQ1.out.2.1)⟩
  have q1 : decide (256 ≤ p) = false := by simp; omega
  obtain rfl : ea = 0 := by rw [HEA2.out, if_neg (by omega)]
  have HM' := Lib.hid (errA_zero HEA.out)
  by_cases hl : l.length = 128
  case neg =>
    have hw : ew = 3 ∧ wd = ⟨[], []⟩ := by
      obtain ⟨h1, h2⟩ := HE.out
      have h0 := HEA.out
      have e1 : ew = 3 := by rw [← h1]; unfold errW; rw [h0, if_neg (by simp), if_pos hl]
      refine ⟨e1, ?_⟩
      rw [← h2]
      unfold writeD
      rw [h1, e1, if_neg (by decide)]
    obtain ⟨rfl, rfl⟩ := hw
    have i1 : ¬ (l.length : Int) = 128 := by omega
    go_wp2
    refine bodyPost_ret (v := .tuple #[.agg #[.slice none 0 0, .slice none 0 0], .int .i64 3]) (by simp [results, Try.results45, go_sem, r0, r1]) rfl ⟨_, _, rfl, GotT.nil_ (HF.out _ HQ1.out.2.1)⟩
  have dl : ((l.length : Int) != 128) = false := by simp; omega
  by_cases hm : d.waits.length = 4096
  case pos =>
    have hw : ew = 9 ∧ wd = ⟨[], []⟩ := by
      obtain ⟨h1, h2⟩ := HE.out
      have h0 := HEA.out
      have e1 : ew = 9 := by rw [← h1]; unfold errW; rw [h0, if_neg (by simp), if_neg (by simpa using hl), if_pos hm]
      refine ⟨e1, ?_⟩
      rw [← h2]
      unfold writeD
      rw [h1, e1, if_neg (by decide)]
    obtain ⟨rfl, rfl⟩ := hw
    have i2 : (4096 : Int) ≤ d.waits.length := by omega
    have hl' := Lib.hid hl
    have hm' := Lib.hid hm
    clear hl hm
    go_wp2
    refine bodyPost_ret (v := .tuple #[.agg #[.slice none 0 0, .slice none 0 0], .int .i64 9]) (by simp [results, Try.results45, go_sem, r0, r1]) rfl ⟨_, _, rfl, GotT.nil_ (HF.out _ HQ1.out.2.1)⟩
  have hw : ew = 0 ∧ wd = ⟨d.blocks, d.waits ++ [⟨p, l⟩]⟩ := by
    obtain ⟨h1, h2⟩ := HE.out
    have h0 := HEA.out
    have e1 : ew = 0 := by rw [← h1]; unfold errW; rw [h0, if_neg (by simp), if_neg (by simpa using hl), if_neg hm]
    refine ⟨e1, ?_⟩
    rw [← h2]
    unfold writeD
    rw [h1, e1, if_pos rfl]
  obtain ⟨rfl, rfl⟩ := hw
  have hm2 := (may_len HMM.out).2.1
  have dm : decide ((4096 : Int) ≤ d.waits.length) = false := by simp; omega
  have HL := Lib.hid (And.intro hl hm2)
  clear hl hm hm2
  go_wp2_with fail
  refine (HC.out.2 w1 (HD0.out.1.trans (CKc.below HQ1.out.2.1)) (Nat.le_trans HD0.out.2 HQ1.out.2.1.size) (WalkArith.wf_i64 (by omega)) (by have := HL.out.2; omega)).mono ?_
  rintro e z ⟨b', u', rfl, hgd⟩
  obtain ⟨ab', cb', rfl, -, -, -, -⟩ := (hgd.got (HD0.out.1.trans (CKc.below HQ1.out.2.1))).disk.1
  obtain ⟨au', cu', rfl, -, -, -, -⟩ := (hgd.got (HD0.out.1.trans (CKc.below HQ1.out.2.1))).disk.2
  have hst := hgd.below
  have q1l := (Array.getElem?_eq_some_iff.1 HQ1.out.2.2.2.2).1
  have p1 := (hst.block _ q1l).trans HQ1.out.2.2.2.2
  have r0' := blk_cell p1 0
  have r1' := blk_cell p1 1
  have f0' := blk_frozen p1 0
  have f1' := blk_frozen p1 1
  simp at r0' r1'
  have HT := Lib.hid hgd
  clear r0 r1 c0 c1 f0 f1 hst p1 hgd
  generalize (DiskL.mk d.blocks (d.waits ++ [⟨p, l⟩])).blocks.length = n1 at *
  generalize (DiskL.mk d.blocks (d.waits ++ [⟨p, l⟩])).waits.length = n2 at *
  go_wp2
  refine bodyPost_ret (v := .tuple #[.agg #[.slice ab' n1 cb', .slice au' n2 cu'], .int .i64 0]) (by simp [results, Try.results45, go_sem, r0', r1']) rfl ?_
  have hB := HQ1.out.2.1
  have hBf := ((below_step hB hB.size HT.out.below).setCell (p := ⟨w.heap.size + 1, 0, none⟩) (Nat.le_succ _) (.slice ab' n1 cb')).setCell (p := ⟨w.heap.size + 1, 1, none⟩) (Nat.le_succ _) (.slice au' n2 cu')
  have hsz : ((z.setCell ⟨w.heap.size + 1, 0, none⟩ (.slice ab' n1 cb')).setCell ⟨w.heap.size + 1, 1, none⟩ (.slice au' n2 cu')).heap.size = z.heap.size := by rw [World.size_setCell, World.size_setCell]
  have hq1w := (Array.getElem?_eq_some_iff.1 HQ1.out.2.2.2.2).1
  exact ⟨_, _, rfl, fun X hs hcX hkX => HT.out.disk X (by rw [← hsz]; exact hs) hcX (fun k h1 h2 => (hkX k (Nat.le_trans hB.size h1) (by rw [hsz]; exact h2)).trans ((set_other _ _ _ _ k (by omega)).trans (set_other z _ _ _ k (by omega)))), hBf⟩
end Go.Proofs.Ythealkfpflkipaa

