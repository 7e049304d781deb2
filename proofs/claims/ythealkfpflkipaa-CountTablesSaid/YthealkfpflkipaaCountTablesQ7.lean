/- CountTables: the words and contracts, part 7. -/
import Derived.Test.YthealkfpflkipaaCountTablesQ1
import Derived.Test.YthealkfpflkipaaCountTablesQ2
import Derived.Test.YthealkfpflkipaaCountTablesQ3
import Derived.Test.YthealkfpflkipaaCountTablesQ4
import Derived.Test.YthealkfpflkipaaCountTablesQ5
import Derived.Test.YthealkfpflkipaaCountTablesQ6
import Derived.WalkKit
import Derived.WalkLawsBesides
import Derived.WalkSpells
import Derived.Lib.Hide
import Derived.Laws.Rows
import Derived.Laws.AppendOwnNone
import Derived.Maps.AppendAt
import Derived.RangeFuncNested
import Derived.RangeFuncBound
import Derived.RangeFuncCalls
import Derived.RangeFuncLeaves
import Derived.RangeFuncBox
import Derived.Shelf.Abstract
import Derived.Shelf.RegionOpen
import Derived.OwnWalkIn
import Derived.TacticsInMore
import Derived.LoopNIn
import Derived.LoopIn
import Derived.ProofKit
import Derived.Deep.Slices
import Derived.WideShapes
import Derived.OrdersHeld
import Derived.Deep.QuietTactic
import Derived.BigQuiet
import Derived.StillTailTactics
import Derived.OpenShut
import Derived.Lib.SliceRun
import Derived.Lib.AppendZerosOnto
import Derived.Lib.Walk
import Derived.Deep.LoopGhost
import Derived.Laws.CopyOwn
import Derived.Deep.DeepCutAuto
import Derived.Laws.CopyRow
import Derived.Laws.MakeOwn
namespace Go.Proofs.Ythealkfpflkipaa
open Go.RowKit Go.Shelf
attribute [local go_sem] Oper.semAt_some

/-- A block as it is seen. -/
def lastW : List WrL → Int → Option WrL
  | [], _ => none
  | x :: l, p => match lastW l p with
    | some y => some y
    | none => if x.at_ = p then some x else none
def seenD (d : DiskL) (p : Int) : List UInt8 :=
  match lastW d.waits p with
  | some x => x.data
  | none => d.blocks.getD p.toNat []
def readB (d : DiskL) (p : Int) : List UInt8 := if errA d p = 0 then seenD d p else []
theorem lastW_none (l : List WrL) (p : Int) (h : ∀ x ∈ l, x.at_ ≠ p) : lastW l p = none := by
  induction l with
  | nil => rfl
  | cons y l ih =>
    rw [lastW, ih (fun x hx => h x (List.mem_cons_of_mem _ hx))]
    simp [h y (List.mem_cons_self ..)]
theorem lastW_at (l : List WrL) (p : Int) (m : Nat) (hm : m < l.length) (h1 : (l.getD m ⟨0, []⟩).at_ = p) (h2 : ∀ j, m < j → j < l.length → (l.getD j ⟨0, []⟩).at_ ≠ p) : lastW l p = some (l.getD m ⟨0, []⟩) := by
  induction l generalizing m with
  | nil => simp at hm
  | cons y l ih =>
    cases m with
    | zero =>
      have hn : lastW l p = none := lastW_none l p (fun x hx => by
        obtain ⟨j, hj⟩ := List.mem_iff_getElem?.1 hx
        have hjl := (List.getElem?_eq_some_iff.1 hj).1
        have := h2 (j + 1) (by omega) (by simp; omega)
        rw [List.getD_cons_succ, List.getD_eq_getElem?_getD, hj] at this
        exact this)
      rw [lastW, hn]
      simp at h1
      simp [h1]
    | succ m =>
      rw [lastW, ih m (by simpa using hm) (by simpa using h1) (fun j hj hjl => by
        have := h2 (j + 1) (by omega) (by simp; omega)
        simpa using this)]
      simp

/-- What is in cells stays. -/
def CK (W W' : World) : Prop := W.heap.size ≤ W'.heap.size ∧ ∀ a v, W.cell? a = some v → W'.cell? a = some v ∧ W'.frozen? a = W.frozen? a
theorem CK.refl (W : World) : CK W W := ⟨Nat.le_refl _, fun _ _ h => ⟨h, rfl⟩⟩
theorem CK.bytes {W W' : World} (h : CK W W') {lo hi : Nat} {v : Value} {l : List UInt8} (hb : Bytes W lo hi v l) : Bytes W' lo hi v l := by
  obtain ⟨a, c, e, h1, h2, h3, h4⟩ := hb
  refine ⟨a, c, e, h1, h2, fun hp => ?_, h4⟩
  obtain ⟨b, off, ea, hlo, hhi, hc⟩ := h3 hp
  exact ⟨b, off, ea, hlo, hhi, fun i x hx => (h.2 _ _ (hc i x hx)).1⟩
theorem CK.thawed {W W' : World} (h : CK W W') {lo hi : Nat} {v : Value} {l : List UInt8} (hb : Bytes W lo hi v l) (ht : Thawed W v) : Thawed W' v := by
  intro b off n c e i hi'
  obtain ⟨a, c', e', h1, h2, h3, h4⟩ := hb
  subst e
  cases e'
  obtain ⟨b', off', ea, hlo, hhi, hc⟩ := h3 (by omega)
  cases ea
  have := hc i (l[i]'hi') (by simp)
  exact (h.2 _ _ this).2.trans (ht _ _ _ _ rfl i hi')
theorem ck_own {β : Type} (p : β → World → Prop) : Own (fun (s : β) W => ∃ Wx, p s Wx ∧ CK Wx W) := fun _ _ _ _ ⟨Wx, h1, h2⟩ hg hr =>
  ⟨Wx, h1, Nat.le_trans h2.1 hg.size, fun a v h =>
    have h3 := h2.2 a v h
    ⟨cell_kept h3.1 hg hr, (frozen_kept h3.1 hg hr).trans h3.2⟩⟩
theorem four_new (w : World) (o1 o2 o3 o4 : Obj) : ((((w.alloc o1).alloc o2).alloc o3).alloc o4).heap[w.heap.size]? = some o1 ∧ ((((w.alloc o1).alloc o2).alloc o3).alloc o4).heap[w.heap.size + 1]? = some o2 ∧
    ((((w.alloc o1).alloc o2).alloc o3).alloc o4).heap[w.heap.size + 2]? = some o3 ∧ ((((w.alloc o1).alloc o2).alloc o3).alloc o4).heap[w.heap.size + 3]? = some o4 := by
  have h := three_new w o1 o2 o3
  refine ⟨?_, ?_, ?_, ?_⟩
  · rw [Below.heap_alloc _ o4 w.heap.size (by simp; omega)]; exact h.1
  · rw [Below.heap_alloc _ o4 (w.heap.size + 1) (by simp)]; exact h.2.1
  · rw [Below.heap_alloc _ o4 (w.heap.size + 2) (by simp)]; exact h.2.2
  · have := World.alloc_heap_new (((w.alloc o1).alloc o2).alloc o3) o4
    simpa using this

set_option maxRecDepth 100000 in
set_option maxHeartbeats 1000000 in
/-- dev.Read, refused. -/
theorem dread_no (b u : Value) (d : DiskL) (p : Int) (w : World) (h : DiskV w 0 w.heap.size b u d) (he : errA d p ≠ 0) :
    Calls Try.prog 46 #[.agg #[b, u], .int .i64 p] w fun e w' => e = .returned (.tuple #[.slice none 0 0, .int .i64 (errA d p)]) ∧ Below w.heap.size w w' := by
  have hq := four_new w (.cells #[b, u] 26) (.cells #[.int .i64 p] 3) (.cells #[.slice none 0 0] 22) (.cells #[.int .i64 0] 29)
  have hB : Below w.heap.size w ((((w.alloc (.cells #[b, u] 26)).alloc (.cells #[.int .i64 p] 3)).alloc (.cells #[.slice none 0 0] 22)).alloc (.cells #[.int .i64 0] 29)) :=
    ((((Below.refl _ w).alloc (Nat.le_refl _) _).alloc (by simp) _).alloc (by simp; omega) _).alloc (by simp; omega) _
  have hD : DiskV _ 0 _ b u d := (h.step hB)
  have hck := fun V hh => dasked_any b u d p V hh
  obtain ⟨ab, cb, rfl, g1, g2, -, -⟩ := h.1
  obtain ⟨au, cu, rfl, g1', g2', -, -⟩ := h.2
  unfold maxLen at g2 g2'
  clear h
  obtain ⟨W, hW⟩ : ∃ W, ((((w.alloc (.cells #[.slice ab d.blocks.length cb, .slice au d.waits.length cu] 26)).alloc (.cells #[.int .i64 p] 3)).alloc (.cells #[.slice none 0 0] 22)).alloc (.cells #[.int .i64 0] 29)) = W := ⟨_, rfl⟩
  rw [hW] at hB hD hq
  generalize errA d p = ea at *
  have HC := Lib.hid hck
  have HQ := Lib.hid (And.intro hD (And.intro hB hq))
  have c0 := blk_cell hq.1 0
  have c1 := blk_cell hq.1 1
  have c2 := blk_cell hq.2.1 0
  simp at c0 c1 c2
  clear hD hB hq hck
  go_enter Try.func46, Try.ntmps46
  go_wp2_with fail
  refine (HC.out W HQ.out.1).mono ?_
  rintro e w1 ⟨rfl, hst⟩
  obtain ⟨-, hB, q0, q1, q2, q3⟩ := HQ.out
  have d2 := blk_cell ((hst.block _ (Array.getElem?_eq_some_iff.1 q2).1).trans q2) 0
  have f2 := blk_frozen ((hst.block _ (Array.getElem?_eq_some_iff.1 q2).1).trans q2) 0
  have d3 := blk_cell ((hst.block _ (Array.getElem?_eq_some_iff.1 q3).1).trans q3) 0
  have f3 := blk_frozen ((hst.block _ (Array.getElem?_eq_some_iff.1 q3).1).trans q3) 0
  simp at d2 d3
  have HB := Lib.hid (below_step hB hB.size hst)
  clear c0 c1 c2 hB q0 q1 q2 q3 hst
  go_wp2
  refine bodyPost_ret (v := .tuple #[.slice none 0 0, .int .i64 ea]) (by simp [results, Try.results46, go_sem, d2, d3]) rfl ⟨rfl, (HB.out.setCell (p := ⟨w.heap.size + 2, 0, none⟩) (by show w.heap.size ≤ w.heap.size + 2; omega) _).setCell (p := ⟨w.heap.size + 3, 0, none⟩) (by show w.heap.size ≤ w.heap.size + 3; omega) _⟩

/-- The writes of a disk as values: places, and slices. -/
theorem writes_of {w : World} {lo hi n c : Nat} {a : Option Addr} {l : List WrL} (h : Sl rWrite w lo hi (.slice a n c) l) : ∃ bs : List (Int × Value), bs.length = l.length ∧
    (∀ i x, bs[i]? = some x → x.1 = (l.getD i ⟨0, []⟩).at_ ∧ Bytes w lo hi x.2 (l.getD i ⟨0, []⟩).data) ∧
    (0 < bs.length → ∃ b off, a = some ⟨b, off, none⟩ ∧ b < hi ∧ ∀ i x, bs[i]? = some x → w.cell? ⟨b, off + i * 2, none⟩ = some (.int .i64 x.1) ∧ w.cell? ⟨b, off + i * 2 + 1, none⟩ = some x.2) := by
  obtain ⟨a', c', e, h1, h2, h3, h4⟩ := h
  cases e
  obtain ⟨bs, hbl, hba⟩ := list_of (n := l.length) (p := fun i (x : Int × Value) => x.1 = (l.getD i ⟨0, []⟩).at_ ∧ Bytes w lo hi x.2 (l.getD i ⟨0, []⟩).data ∧ ∀ b off, a = some ⟨b, off, none⟩ → w.cell? ⟨b, off + i * 2, none⟩ = some (.int .i64 x.1) ∧ w.cell? ⟨b, off + i * 2 + 1, none⟩ = some x.2) (fun i hi => by
    obtain ⟨b, off, rfl, hlo, hhi, hc⟩ := h3 (by omega)
    obtain ⟨f0, f1, v, f2, f3⟩ := hc i _ (get_l l ⟨0, []⟩ i hi)
    refine ⟨((l.getD i ⟨0, []⟩).at_, v), rfl, f3, fun b' off' e => ?_⟩
    cases e
    exact ⟨f0, f2⟩)
  refine ⟨bs, hbl, fun i x hx => ⟨(hba i x hx).1, (hba i x hx).2.1⟩, fun hp => ?_⟩
  obtain ⟨b, off, ea, hlo, hhi, hc⟩ := h3 (by omega)
  exact ⟨b, off, ea, hhi, fun i x hx => (hba i x hx).2.2 b off ea⟩

set_option maxRecDepth 100000 in
set_option maxHeartbeats 400000 in
/-- dev.Read, answered. -/
theorem dread_yes (b u : Value) (d : DiskL) (p : Int) (w : World) (h : DiskV w 0 w.heap.size b u d) (he : errA d p = 0) :
    Calls Try.prog 46 #[.agg #[b, u], .int .i64 p] w fun e w' => ∃ v, e = .returned (.tuple #[v, .int .i64 0]) ∧ MadeB w w' v (seenD d p) := by
  have hp : mayD d = true ∧ 0 ≤ p ∧ p < 256 := by
    unfold errA at he
    split at he
    · rename_i hm
      split at he
      · cases he
      · exact ⟨hm, by omega, by omega⟩
    · cases he
  have HM := Lib.hid (may_len hp.1)
  obtain ⟨pn, rfl⟩ : ∃ pn : Nat, p = pn := ⟨p.toNat, by omega⟩
  have hpn : pn < d.blocks.length := by have := HM.out.1; omega
  have hq := four_new w (.cells #[b, u] 26) (.cells #[.int .i64 pn] 3) (.cells #[.slice none 0 0] 22) (.cells #[.int .i64 0] 29)
  have hB : Below w.heap.size w ((((w.alloc (.cells #[b, u] 26)).alloc (.cells #[.int .i64 pn] 3)).alloc (.cells #[.slice none 0 0] 22)).alloc (.cells #[.int .i64 0] 29)) :=
    ((((Below.refl _ w).alloc (Nat.le_refl _) _).alloc (by simp) _).alloc (by simp; omega) _).alloc (by simp; omega) _
  have hD : DiskV _ 0 _ b u d := (h.step hB)
  have hck := fun V hh => dasked_any b u d pn V hh
  rw [he] at hck
  obtain ⟨ab, cb, rfl, g1, g2, -, -⟩ := h.1
  obtain ⟨au, cu, rfl, g1', g2', -, -⟩ := h.2
  have HD0 := Lib.hid h
  clear h
  obtain ⟨W, hW⟩ : ∃ W, ((((w.alloc (.cells #[.slice ab d.blocks.length cb, .slice au d.waits.length cu] 26)).alloc (.cells #[.int .i64 pn] 3)).alloc (.cells #[.slice none 0 0] 22)).alloc (.cells #[.int .i64 0] 29)) = W := ⟨_, rfl⟩
  rw [hW] at hB hD hq
  have HC := Lib.hid hck
  have HQ := Lib.hid (And.intro hD (And.intro hB hq))
  have c0 := blk_cell hq.1 0
  have c1 := blk_cell hq.1 1
  have c2 := blk_cell hq.2.1 0
  simp at c0 c1 c2
  clear hD hB hq hck he hp
  refine (callsIn_wide (n := 4)).1 ?_
  refine callsIn_of_wp_marks Try.func46 rfl trivial ?_ rfl
  simp only [Try.ntmps46, List.size_toArray, List.length_cons, List.length_nil, Nat.reduceAdd, Nat.reduceSub, Array.replicate_succ, Array.replicate_zero, List.push_toArray, List.append_toArray, List.nil_append, List.cons_append]
  gi_wp2_with (refine ⟨trivial, ?_⟩; gi_at_call 73; refine (callsIn_wide.2 (HC.out W HQ.out.1)).mono ?_; rintro e w1 ⟨rfl, hst⟩; obtain ⟨-, hB, q0, q1, q2, q3⟩ := HQ.out; replace q0 := (hst.block _ (Array.getElem?_eq_some_iff.1 q0).1).trans q0; replace q1 := (hst.block _ (Array.getElem?_eq_some_iff.1 q1).1).trans q1; replace q2 := (hst.block _ (Array.getElem?_eq_some_iff.1 q2).1).trans q2; replace q3 := (hst.block _ (Array.getElem?_eq_some_iff.1 q3).1).trans q3; replace hB := below_step hB hB.size hst; have e0 := blk_cell q0 0; have e1 := blk_cell q0 1; have e2 := blk_cell q1 0; simp at e0 e1 e2; have HQ2 := Lib.hid (And.intro q0 (And.intro q1 (And.intro q2 (And.intro q3 hB)))); clear c0 c1 c2 hB q0 q1 q2 q3 hst)
  refine ⟨trivial, ?_⟩
  gi_at_call 77
  refine (backw_in Fence.wide _ trivial rfl _ _ _ _).mono ?_
  rintro e w' ⟨rfl, rfl⟩
  have hbx := cell_new_l w1 (.slice au d.waits.length cu) 24
  have hBV : Below w.heap.size w (w1.alloc (.cells #[.slice au d.waits.length cu] 24)) := below_step HQ2.out.2.2.2.2 HQ2.out.2.2.2.2.size ((Below.refl w1.heap.size w1).alloc (Nat.le_refl _) _)
  have hst1 : Below w1.heap.size w1 (w1.alloc (.cells #[.slice au d.waits.length cu] 24)) := (Below.refl w1.heap.size w1).alloc (Nat.le_refl _) _
  have hsV : w1.heap.size < (w1.alloc (.cells #[.slice au d.waits.length cu] 24)).heap.size := by simp
  obtain ⟨V, hV⟩ : ∃ V, w1.alloc (.cells #[.slice au d.waits.length cu] 24) = V := ⟨_, rfl⟩
  rw [hV] at hbx hBV hst1 hsV ⊢
  obtain ⟨q0, q1, q2, q3, hB1⟩ := HQ2.out
  have hl3 := (Array.getElem?_eq_some_iff.1 q3).1
  replace q0 := (hst1.block _ (Array.getElem?_eq_some_iff.1 q0).1).trans q0
  replace q1 := (hst1.block _ (Array.getElem?_eq_some_iff.1 q1).1).trans q1
  replace q2 := (hst1.block _ (Array.getElem?_eq_some_iff.1 q2).1).trans q2
  replace q3 := (hst1.block _ (Array.getElem?_eq_some_iff.1 q3).1).trans q3
  obtain ⟨bs, hbl, hba, hbc⟩ := writes_of (HD0.out.2.below hBV (Nat.le_refl _))
  have HX := Lib.hid (And.intro q0 (And.intro q1 (And.intro q2 (And.intro q3 (And.intro hBV (And.intro hbx (And.intro hsV hl3)))))))
  have HA := Lib.hid (And.intro hbl (And.intro hba hbc))
  generalize w1.heap.size = gb at *
  clear hV hst1 q0 q1 q2 q3 hBV hbx hsV hl3 hbl hba hbc HQ2 HQ HC e0 e1 e2 hW hB1
  gi_wp2_with fail
  refine wpIn_rangeFunc_ownH rfl (by omega) (gf := 95) (lb := #[.pointer (some ⟨gb, 0, none⟩)]) rfl trivial (enters_of Try.func95 (by kernel_rfl) rfl)
    (backw_stops Fence.wide 3 trivial rfl (by omega) gb w.heap.size au cu bs V HX.out.2.2.2.2.2.2.1 HX.out.2.2.2.2.1.size (by rw [HA.out.1]; exact HX.out.2.2.2.2.2.1.1) (by rw [HA.out.1]; exact g1') g2' HA.out.2.2) KeepB.trans (keepB_b HX.out.2.2.2.2.1.size HX.out.2.2.2.2.2.2.1) (Below.refl _ _) (fun _ => rfl)
    (fun pre W => (∀ i ∈ pre, bs[i.1].1 ≠ (pn : Int)) ∧ Below V.heap.size V W)
    (fun c pre W => (∃ Wx, (c = .ret ∧ ∃ pre' x, pre = pre' ++ [x] ∧ (∀ i ∈ pre', bs[i.1].1 ≠ (pn : Int)) ∧ bs[x.1].1 = (pn : Int) ∧ ∃ u1, Bytes Wx w.heap.size Wx.heap.size u1 (d.waits.getD x.1 ⟨0, []⟩).data ∧ Thawed Wx u1 ∧ Wx.cell? ⟨w.heap.size + 2, 0, none⟩ = some u1 ∧ Wx.cell? ⟨w.heap.size + 3, 0, none⟩ = some (.int .i64 0)) ∧ CK Wx W) ∧ Below w.heap.size w W)
    ((ownFrom_pure _ _).and (ownFrom_below (Nat.le_refl _) (Nat.le_refl _)))
    (fun c => ((ck_own _).from _).and (ownFrom_below (Nat.le_refl _) HX.out.2.2.2.2.1.size))
    ⟨fun _ h => (by cases h), Below.refl _ _⟩
    (fun x a' W => ∃ bx, a' = ({ tmps := #[.agg #[.slice ab d.blocks.length cb, .slice au d.waits.length cu], .int .i64 pn, .pointer (some ⟨w.heap.size, 0, none⟩), .pointer (some ⟨w.heap.size + 1, 0, none⟩), .pointer (some ⟨w.heap.size + 1 + 1, 0, none⟩), .pointer (some ⟨w.heap.size + 1 + 1 + 1, 0, none⟩), .int .i64 0, undef, .pointer (some ⟨bx, 0, none⟩), .agg #[.slice ab d.blocks.length cb, .slice au d.waits.length cu], .int .i64 pn, .int .i64 0, .int .i64 0, .bool false, undef, .pointer (some ⟨w.heap.size, 1, none⟩), .slice au d.waits.length cu, .func (.func 95) #[] #[.pointer (some ⟨gb, 0, none⟩)], .int .i64 (x.1 : Int), .agg #[.int .i64 bs[x.1].1, bs[x.1].2], undef, undef, undef, undef, undef, undef, undef, undef, undef, undef, undef, undef, undef], defers := [] } : Act) ∧ V.heap.size ≤ bx ∧ W.heap[bx]? = some (.cells #[.int .i64 bs[x.1].1, bs[x.1].2] 50 (0, 0)))
    ?hax ?assign ?body ?done ?stop
  case hax =>
    intro x a' s W W' row h hg hr
    obtain ⟨bx, h1, h2, h3⟩ := h
    refine ⟨bx, h1, h2, ?_⟩
    refine (hg.block bx (Array.getElem?_eq_some_iff.1 h3).1 (fun e => ?_)).trans h3
    obtain ⟨-, o, ho, hc⟩ := hr bx e.symm
    rw [h3] at ho
    cases ho
    cases hc
  case assign =>
    rintro l pre x W K ⟨hU, hBW⟩ hK
    obtain ⟨e1, e2⟩ := HA.out.2.1 x.1 bs[x.1] (by simp)
    have hnew := World.alloc_heap_new W (.cells #[.int .i64 bs[x.1].1, bs[x.1].2] 50)
    have hfr := (Below.refl W.heap.size W).alloc (Nat.le_refl _) (.cells #[.int .i64 bs[x.1].1, bs[x.1].2] 50)
    have hHK := hK
    obtain ⟨av, cv, hv, -, -⟩ := e2.form rfl
    rw [hv] at hnew hfr ⊢
    have HV := Lib.hid hv
    generalize (d.waits.getD x.1 ⟨0, []⟩).data.length = dl at *
    have HK := Lib.hid hHK
    clear hHK hK e1 e2 hv
    gi_wp2
    refine HK.out _ _ ⟨hfr.size, fun k o _ hko _ => (hfr.block k (Array.getElem?_eq_some_iff.1 hko).1).trans hko⟩ ⟨hfr.mono (Nat.le_trans HX.out.2.2.2.2.1.size hBW.size), hfr.cell (p := ⟨gb, 0, none⟩) (Nat.lt_of_lt_of_le HX.out.2.2.2.2.2.2.1 hBW.size)⟩ ⟨hU, below_step hBW hBW.size hfr⟩ ⟨W.heap.size, ?_, hBW.size, by rw [HV.out]; exact hnew⟩
    rw [HV.out]
  case body =>
    rintro l pre x a' W hl - ⟨hU, hBW⟩ ⟨bx, rfl, hbx, hcell⟩ hlen
    obtain ⟨e1, e2⟩ := HA.out.2.1 x.1 bs[x.1] (by simp)
    have e3 := e2.below hBW HX.out.2.2.2.2.1.size
    have hlx : (d.waits.getD x.1 ⟨0, []⟩).data.length = 128 := (HM.out.2.2.2 _ (List.mem_of_getElem? (get_l d.waits ⟨0, []⟩ x.1 (by have := HA.out.1; omega)))).2.2
    obtain ⟨q0, q1, q2, q3, hBV, hbx2, hsV, hl3⟩ := HX.out
    have p1 := (hBW.block _ (Array.getElem?_eq_some_iff.1 q1).1).trans q1
    have p2 := (hBW.block _ (Array.getElem?_eq_some_iff.1 q2).1).trans q2
    have p3 := (hBW.block _ (Array.getElem?_eq_some_iff.1 q3).1).trans q3
    have m1 := blk_cell p1 0
    have b0 := blk_cell hcell 0
    have b1 := blk_cell hcell 1
    simp at m1 b0 b1
    have hBw := below_step hBV hBV.size hBW
    obtain ⟨dat, hdat⟩ : ∃ dat, (d.waits.getD x.1 ⟨0, []⟩).data = dat := ⟨_, rfl⟩
    rw [hdat] at e3 hlx
    have HDT := Lib.hid hdat
    have HP := Lib.hid (And.intro p2 (And.intro p3 (And.intro e3 (And.intro hlx (And.intro hBw (And.intro hU hBW))))))
    clear q0 q1 q2 q3 hBV hbx2 hsV hl3 p1 p2 p3 e1 e2 e3 hlx hBw hU hBW hcell hdat
    obtain ⟨xa, hxa⟩ : ∃ xa, bs[x.1].1 = xa := ⟨_, rfl⟩
    obtain ⟨xv, hxv⟩ : ∃ xv, bs[x.1].2 = xv := ⟨_, rfl⟩
    rw [hxa] at b0
    rw [hxv] at b1
    rw [hxa, hxv]
    have HXA := Lib.hid (And.intro hxa hxv)
    clear hxa hxv
    by_cases hat : xa = (pn : Int)
    · have dt : (xa == (pn : Int)) = true := by simp [hat]
      gi_wp2_with (refine ⟨trivial, ?_⟩; gi_at_call 75; refine (CallsIn.inRound l (callsIn_wide.2 (bclone_any xv dat W (by have := HP.out.2.2.1; rw [HXA.out.2] at this; exact this.more (Nat.le_refl _) HP.out.2.2.2.2.1.size) (by have := HP.out.2.2.2.1; omega)))).mono ?_; rintro e z ⟨u1, rfl, hm⟩; obtain ⟨ua, uc, rfl, -, -⟩ := hm.bytes.form rfl; have r2 := (hm.below.block _ (Array.getElem?_eq_some_iff.1 HP.out.1).1).trans HP.out.1; have r3 := (hm.below.block _ (Array.getElem?_eq_some_iff.1 HP.out.2.1).1).trans HP.out.2.1; have y2 := blk_cell r2 0; have z2 := blk_frozen r2 0; have y3 := blk_cell r3 0; have z3 := blk_frozen r3 0; simp at y2 y3; have HMm := Lib.hid (And.intro hm (And.intro r2 r3)); clear hm r2 r3)
      obtain ⟨hm, r2, r3⟩ := HMm.out
      obtain ⟨p2, p3, e3, hlx, hBw, hU, hBW⟩ := HP.out
      obtain ⟨q0, q1, q2, q3, hBV, hbx2, hsV, hl3⟩ := HX.out
      have hoth : ∀ k, k ≠ w.heap.size + 2 → k ≠ w.heap.size + 3 → ((z.setCell ⟨w.heap.size + 1 + 1, 0, none⟩ (.slice ua dat.length uc)).setCell ⟨w.heap.size + 1 + 1 + 1, 0, none⟩ (.int .i64 0)).heap[k]? = z.heap[k]? := fun k h1 h2 => (set_other _ _ _ _ k h2).trans (set_other z _ _ _ k h1)
      have hszz : ((z.setCell ⟨w.heap.size + 1 + 1, 0, none⟩ (.slice ua dat.length uc)).setCell ⟨w.heap.size + 1 + 1 + 1, 0, none⟩ (.int .i64 0)).heap.size = z.heap.size := by rw [World.size_setCell, World.size_setCell]
      have hVW := hBW.size
      refine ⟨⟨by rw [hszz]; exact hm.below.size, fun k o hVk hk _ => (hoth k (by omega) (by omega)).trans ((hm.below.block k (Array.getElem?_eq_some_iff.1 hk).1).trans hk)⟩, ⟨_, ⟨rfl, pre, x, rfl, hU, by rw [HXA.out.1]; exact hat, .slice ua dat.length uc, ?_, ?_, ?_, ?_⟩, CK.refl _⟩, ?_⟩
      · rw [HDT.out, hszz]
        exact (((hm.bytes.setOff (.inl (show w.heap.size + 1 + 1 < W.heap.size by omega))).setOff (.inl (show w.heap.size + 1 + 1 + 1 < W.heap.size by omega)))).more (by omega) (Nat.le_refl _)
      · exact (hm.thawed.set _ _).set _ _
      · rw [World.cell?_setCell_other _ _ _ _ (by simp)]
        exact World.cell?_setCell_same' _ _ _ (by rw [blk_cell r2]; rfl)
      · exact World.cell?_setCell_same' _ _ _ (by rw [blk_cell (set_other z _ _ _ _ (by omega) |>.trans r3)]; rfl)
      · exact ((below_step hBw hBw.size hm.below).setCell (p := ⟨w.heap.size + 1 + 1, 0, none⟩) (by show w.heap.size ≤ w.heap.size + 1 + 1; omega) _).setCell (p := ⟨w.heap.size + 1 + 1 + 1, 0, none⟩) (by show w.heap.size ≤ w.heap.size + 1 + 1 + 1; omega) _
    · have dt : (xa == (pn : Int)) = false := by simp [hat]
      gi_wp2
      refine ⟨KeepsFrom.refl _ _, KeepB.refl _ _ _, fun i hi => ?_, HP.out.2.2.2.2.2.2⟩
      rcases List.mem_append.1 hi with hi | hi
      · exact HP.out.2.2.2.2.2.1 i hi
      · obtain rfl := List.mem_singleton.1 hi
        rw [HXA.out.1]
        exact hat
  case done =>
    rintro D xs W hD rfl ⟨hU, hBW⟩ hK
    obtain ⟨q0, q1, q2, q3, hBV, hbx2, hsV, hl3⟩ := HX.out
    have p0 := (hBW.block _ (Array.getElem?_eq_some_iff.1 q0).1).trans q0
    have p1 := (hBW.block _ (Array.getElem?_eq_some_iff.1 q1).1).trans q1
    have p2 := (hBW.block _ (Array.getElem?_eq_some_iff.1 q2).1).trans q2
    have p3 := (hBW.block _ (Array.getElem?_eq_some_iff.1 q3).1).trans q3
    have hBw := below_step hBV hBV.size hBW
    obtain ⟨bb, bo, cb', e', -, z1, z2, z3, hbe⟩ := (HD0.out.1.below hBw (Nat.le_refl _)).at_ (by omega)
    injection e' with ea _ ec
    subst ea ec
    obtain ⟨v, hv, hvb⟩ := hbe pn (d.blocks.getD pn []) (get_l _ _ _ hpn)
    have hlx : (d.blocks.getD pn []).length = 128 := HM.out.2.2.1 _ (List.mem_of_getElem? (get_l d.blocks [] pn hpn))
    have hseen : seenD d pn = d.blocks.getD pn [] := by
      unfold seenD
      rw [lastW_none d.waits pn (fun y hy => by
        obtain ⟨j, hj⟩ := List.mem_iff_getElem?.1 hy
        have hjl := (List.getElem?_eq_some_iff.1 hj).1
        have hjb : j < bs.length := by have := HA.out.1; omega
        have := hU ⟨j, hjb⟩ ((backF_mem _ _ _).2 (by omega))
        rw [(HA.out.2.1 j bs[j] (by simp [hjb])).1, List.getD_eq_getElem?_getD, hj] at this
        exact this)]
      rfl
    have HS := Lib.hid hseen
    obtain ⟨dat, hdat⟩ : ∃ dat, d.blocks.getD pn [] = dat := ⟨_, rfl⟩
    rw [hdat] at hvb hlx HS
    obtain ⟨xa, xc, rfl, -, -⟩ := hvb.form rfl
    have hv' : W.cell? ⟨bb, bo + pn, none⟩ = some (.slice xa dat.length xc) := by simpa [rBytes] using hv
    have m0 := blk_cell p0 0
    have m1 := blk_cell p1 0
    simp at m0 m1
    have HP := Lib.hid (And.intro p2 (And.intro p3 (And.intro hvb (And.intro hlx (And.intro hBw (And.intro hBW hK))))))
    unfold maxLen at z3
    clear q0 q1 q2 q3 hBV hbx2 hsV p0 p1 p2 p3 hBw hbe hv hvb hlx hseen hdat hU hBW hK
    gi_wp2_with (refine ⟨trivial, ?_⟩; gi_at_call 75; refine (callsIn_wide.2 (bclone_any (.slice xa dat.length xc) dat W (HP.out.2.2.1.more (Nat.le_refl _) HP.out.2.2.2.2.1.size) (by have := HP.out.2.2.2.1; omega))).mono ?_; rintro e z ⟨u1, rfl, hm⟩; obtain ⟨ua, uc, rfl, -, -⟩ := hm.bytes.form rfl; have r2 := (hm.below.block _ (Array.getElem?_eq_some_iff.1 HP.out.1).1).trans HP.out.1; have r3 := (hm.below.block _ (Array.getElem?_eq_some_iff.1 HP.out.2.1).1).trans HP.out.2.1; have y2 := blk_cell r2 0; have z2 := blk_frozen r2 0; have y3 := blk_cell r3 0; have z3 := blk_frozen r3 0; simp at y2 y3; have HMm := Lib.hid (And.intro hm (And.intro r2 r3)); clear hm r2 r3)
    obtain ⟨hm, r2, r3⟩ := HMm.out
    obtain ⟨p2, p3, hvb, hlx, hBw, hBW, hK⟩ := HP.out
    have hVW := hBW.size
    have hDl := (Array.getElem?_eq_some_iff.1 hK).1
    have hszz : ((z.setCell ⟨w.heap.size + 1 + 1, 0, none⟩ (.slice ua dat.length uc)).setCell ⟨w.heap.size + 1 + 1 + 1, 0, none⟩ (.int .i64 0)).heap.size = z.heap.size := by rw [World.size_setCell, World.size_setCell]
    have hVn := HX.out.2.2.2.2.2.2.1
    have hK2 : ((z.setCell ⟨w.heap.size + 1 + 1, 0, none⟩ (.slice ua dat.length uc)).setCell ⟨w.heap.size + 1 + 1 + 1, 0, none⟩ (.int .i64 0)).heap[D]? = some (.deferred (some [])) :=
      (set_other _ _ _ _ D (by omega)).trans ((set_other z _ _ _ D (by omega)).trans ((hm.below.block D hDl).trans hK))
    have hbb : Bytes ((z.setCell ⟨w.heap.size + 1 + 1, 0, none⟩ (.slice ua dat.length uc)).setCell ⟨w.heap.size + 1 + 1 + 1, 0, none⟩ (.int .i64 0)) w.heap.size z.heap.size (.slice ua dat.length uc) dat :=
      (((hm.bytes.setOff (.inl (show w.heap.size + 1 + 1 < W.heap.size by omega))).setOff (.inl (show w.heap.size + 1 + 1 + 1 < W.heap.size by omega)))).more (by omega) (Nat.le_refl _)
    have htt : Thawed ((z.setCell ⟨w.heap.size + 1 + 1, 0, none⟩ (.slice ua dat.length uc)).setCell ⟨w.heap.size + 1 + 1 + 1, 0, none⟩ (.int .i64 0)) (.slice ua dat.length uc) := (hm.thawed.set _ _).set _ _
    have hc2 : ((z.setCell ⟨w.heap.size + 1 + 1, 0, none⟩ (.slice ua dat.length uc)).setCell ⟨w.heap.size + 1 + 1 + 1, 0, none⟩ (.int .i64 0)).cell? ⟨w.heap.size + 2, 0, none⟩ = some (.slice ua dat.length uc) := by
      rw [World.cell?_setCell_other _ _ _ _ (by simp)]
      exact World.cell?_setCell_same' _ _ _ (by rw [blk_cell r2]; rfl)
    have hc3 : ((z.setCell ⟨w.heap.size + 1 + 1, 0, none⟩ (.slice ua dat.length uc)).setCell ⟨w.heap.size + 1 + 1 + 1, 0, none⟩ (.int .i64 0)).cell? ⟨w.heap.size + 3, 0, none⟩ = some (.int .i64 0) :=
      World.cell?_setCell_same' _ _ _ (by rw [blk_cell (set_other z _ _ _ _ (by omega) |>.trans r3)]; rfl)
    have hBf := ((below_step hBw hBw.size hm.below).setCell (p := ⟨w.heap.size + 1 + 1, 0, none⟩) (by show w.heap.size ≤ w.heap.size + 1 + 1; omega) (.slice ua dat.length uc)).setCell (p := ⟨w.heap.size + 1 + 1 + 1, 0, none⟩) (by show w.heap.size ≤ w.heap.size + 1 + 1 + 1; omega) (.int .i64 0)
    refine ⟨by simp, .inl ⟨_, _, rfl, run_takeDeferred hK2, ?_⟩⟩
    have HS' := HS.out
    clear HS
    generalize ((z.setCell ⟨w.heap.size + 1 + 1, 0, none⟩ (.slice ua dat.length uc)).setCell ⟨w.heap.size + 1 + 1 + 1, 0, none⟩ (.int .i64 0)) = zf at *
    have hB2 := (belowK_b (w := w) (Nat.le_refl _) zf D (.deferred (some [])) (.deferred none) (by have := HX.out.2.2.2.2.1.size; omega) hK2 rfl rfl)
    have hck2 : CK zf (zf.putObj D (.deferred none)) := ⟨by simp, fun a v h => ⟨cell_kept h (grownBy_putObj' zf D (.deferred none)) (fun r e => by cases e; exact ⟨_, hK2, rfl⟩), frozen_kept h (grownBy_putObj' zf D (.deferred none)) (fun r e => by cases e; exact ⟨_, hK2, rfl⟩)⟩⟩
    have s2 := (hck2.2 _ _ hc2).1
    have s3 := (hck2.2 _ _ hc3).1
    refine ⟨.tuple #[.slice ua dat.length uc, .int .i64 0], by simp [results, Try.results46, go_sem, s2, s3], _, rfl, ?_⟩
    rw [HS']
    exact ⟨(hck2.bytes hbb).more (Nat.le_refl _) (by have := hck2.1; omega), hck2.thawed hbb htt, hBf.trans hB2⟩
  case stop =>
    rintro D c pre W hD ⟨k, hk, hpre⟩ ⟨⟨Wx, ⟨rfl, pre', x, rfl, hU, hx, u1, hb, ht, hc2, hc3⟩, hck⟩, hB⟩ hK
    have hseen : seenD d pn = (d.waits.getD x.1 ⟨0, []⟩).data := by
      cases k with
      | zero => simp [backF] at hpre
      | succ k =>
        rw [backF_succ _ k (bs.length - 1 - k) (by omega) (by omega)] at hpre
        obtain ⟨h1, h2⟩ := List.append_inj' hpre rfl
        have h3 := List.cons.inj h2
        have hx1 : x.1 = bs.length - 1 - k := by rw [h3.1]
        unfold seenD
        rw [lastW_at d.waits pn x.1 (by have := HA.out.1; omega) (by rw [← (HA.out.2.1 x.1 bs[x.1] (by simp)).1]; exact hx) (fun j hj hjl => by
          have hjb : j < bs.length := by have := HA.out.1; omega
          rw [← (HA.out.2.1 j bs[j] (by simp [hjb])).1]
          exact hU ⟨j, hjb⟩ (by rw [h1]; exact (backF_mem _ _ _).2 (by show bs.length ≤ j + k; omega)))]
    have hB2 := (belowK_b (w := w) (Nat.le_refl _) W D (.deferred (some [])) (.deferred none) (by have := HX.out.2.2.2.2.1.size; omega) hK rfl rfl)
    have hck2 : CK W (W.putObj D (.deferred none)) := ⟨by simp, fun a v h => ⟨cell_kept h (grownBy_putObj' W D (.deferred none)) (fun r e => by cases e; exact ⟨_, hK, rfl⟩), frozen_kept h (grownBy_putObj' W D (.deferred none)) (fun r e => by cases e; exact ⟨_, hK, rfl⟩)⟩⟩
    have s2 := (hck2.2 _ _ (hck.2 _ _ hc2).1).1
    have s3 := (hck2.2 _ _ (hck.2 _ _ hc3).1).1
    gi_wp2
    refine ⟨by simp, .inl ⟨_, _, rfl, run_takeDeferred hK, ?_⟩⟩
    refine ⟨.tuple #[u1, .int .i64 0], by simp [results, Try.results46, go_sem, s2, s3], u1, rfl, ?_⟩
    rw [hseen]
    exact ⟨(hck2.bytes (hck.bytes hb)).more (Nat.le_refl _) (by have := hck.1; have := hck2.1; omega), hck2.thawed (hck.bytes hb) (hck.thawed hb ht), hB.trans hB2⟩

/-- dev.Read. -/
theorem dread_any (b u : Value) (d : DiskL) (p : Int) (w : World) (h : DiskV w 0 w.heap.size b u d) :
    Calls Try.prog 46 #[.agg #[b, u], .int .i64 p] w fun e w' => ∃ v, e = .returned (.tuple #[v, .int .i64 (errA d p)]) ∧ MadeB w w' v (readB d p) := by
  unfold readB
  by_cases he : errA d p = 0
  · rw [if_pos he, he]
    exact dread_yes b u d p w h he
  · rw [if_neg he]
    exact (dread_no b u d p w h he).mono fun e w' ⟨h1, h2⟩ => ⟨_, h1, MadeB.nil_ h2⟩
end Go.Proofs.Ythealkfpflkipaa

