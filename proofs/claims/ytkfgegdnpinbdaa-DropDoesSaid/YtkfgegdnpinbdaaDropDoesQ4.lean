/- DropDoes: the words and contracts, part 4. -/
import Derived.Test.YtkfgegdnpinbdaaDropDoesQ1
import Derived.Test.YtkfgegdnpinbdaaDropDoesQ2
import Derived.Test.YtkfgegdnpinbdaaDropDoesQ3
import Derived.WalkKit
import Derived.WalkLawsBesides
import Derived.WalkSpells
import Derived.Lib.Hide
import Derived.Laws.Rows
import Derived.Laws.AppendOwnNone
import Derived.Maps.AppendAt
import Derived.OrdersHeld
import Derived.Deep.QuietTactic
import Derived.BigQuiet
import Derived.StillTailTactics
import Derived.RangeFuncNested
import Derived.RangeFuncBound
import Derived.RangeFuncCalls
import Derived.RangeFuncLeaves
import Derived.RangeFuncBox
import Derived.Shelf.Abstract
import Derived.Shelf.RegionOpen
import Derived.OwnWalkIn
import Derived.TacticsInMore
import Derived.LoopNIn
import Derived.LoopIn
import Derived.ProofKit
import Derived.Deep.Slices
import Derived.WideShapes
import Derived.OpenShut
import Derived.Lib.SliceRun
import Derived.Lib.AppendZerosOnto
import Derived.Lib.Walk
import Derived.Deep.LoopGhost
import Derived.Laws.CopyOwn
import Derived.Deep.DeepCutAuto
import Derived.Laws.CopyRow
import Derived.Laws.MakeOwn
namespace Go.Proofs.Ytkfgegdnpinbdaa
open Go.RowKit

/-- A world of which Pr holds: W itself, if it holds of that. -/
noncomputable def selW (Pr : World → Prop) (w0 W : World) : World := by
  classical exact if Pr W then W else w0
theorem selW_pr {Pr : World → Prop} {w0 : World} (h : Pr w0) (W : World) : Pr (selW Pr w0 W) := by
  unfold selW
  split
  · assumption
  · exact h
theorem selW_of {Pr : World → Prop} {w0 W : World} (h : Pr W) : selW Pr w0 W = W := by
  unfold selW
  rw [if_pos h]
def Kl (Pr : World → Prop) (w0 w' : World) : Prop := ∃ W, w' = selW Pr w0 W
attribute [go_sem] Kl
theorem Kl.of {Pr : World → Prop} {w0 w' : World} (h : Pr w') : Kl Pr w0 w' := ⟨w', (selW_of h).symm⟩

/-- Whatever comes up, in whatever order; but for number z, the world behind it is of the class. -/
def wpAnyL (P : Program) (md : Region.Mode) (ops : Array Oper) (Q : Exit → Act → World → Prop) (S : World → Prop) (z : Nat) : Nat → Array Bool → Act → World → Prop
  | 0, listed, a, w => Region.ready md ops listed = [] ∧ Q .normal a w
  | n + 1, listed, a, w => (Region.ready md ops listed = [] → Q .normal a w) ∧ ∀ i ∈ Region.ready md ops listed,
      wpOp P ops Q i (fun a' w' => (i = z ∨ S w') ∧ wpAnyL P md ops Q S z n (listed.setIfInBounds i true) a' w') a w

/-- Each operation but z is waited for by a later one; and where one is listed, so is what it waits for. -/
def lastOk (md : Region.Mode) (ops : Array Oper) (z : Nat) (listed : Array Bool) : Bool :=
  (decide (listed.size = ops.size) && (List.range ops.size).all fun j => j == z || (List.range ops.size).any fun k => decide (j < k) && ((ops[k]?).map fun o => o.after.any fun e => Region.binds md e && e.on == j).getD false) &&
  (List.range ops.size).all fun k => !(listed.getD k true) || ((ops[k]?).map fun o => o.after.all fun e => !Region.binds md e || listed.getD e.on false).getD false

section
variable {P : Program} {ops : Array Oper} {Q : Exit → Act → World → Prop} {md : Region.Mode} {S : World → Prop} {z : Nat}

theorem wpAny_ofL : ∀ (n : Nat) (listed : Array Bool) (a : Act) (w : World), wpAnyL P md ops Q S z n listed a w → wpAny P md ops Q n listed a w
  | 0, _, _, _, h => h
  | n + 1, _, _, _, h => ⟨h.1, fun i hi => wpOp_mono (fun a' w' h' => wpAny_ofL n _ a' w' h'.2) (h.2 i hi)⟩

structure Down (md : Region.Mode) (ops : Array Oper) (z : Nat) (listed : Array Bool) : Prop where
  size : listed.size = ops.size
  wait : ∀ j, j < ops.size → j ≠ z → ∃ k o e, j < k ∧ ops[k]? = some o ∧ e ∈ o.after ∧ Region.binds md e = true ∧ e.on = j
  down : ∀ k o e, ops[k]? = some o → listed.getD k true = true → e ∈ o.after → Region.binds md e = true → listed.getD e.on false = true
theorem Down.of {listed : Array Bool} (h : lastOk md ops z listed = true) : Down md ops z listed := by
  simp only [lastOk, Bool.and_eq_true, List.all_eq_true, List.mem_range, Bool.or_eq_true, beq_iff_eq, List.any_eq_true, decide_eq_true_eq] at h
  obtain ⟨⟨h0, h1⟩, h2⟩ := h
  refine ⟨h0, fun j hj hz => ?_, fun k o e hk hl he hb => ?_⟩
  · rcases h1 j hj with h | ⟨k, hk, hjk, hx⟩
    · exact absurd h hz
    · simp only [Array.getElem?_eq_getElem hk, Option.map_some, Option.getD_some, Array.any_eq_true', Bool.and_eq_true, beq_iff_eq] at hx
      obtain ⟨e, he, hb, ho⟩ := hx
      exact ⟨k, ops[k], e, hjk, by simp [hk], he, hb, ho⟩
  · have hk' := (Array.getElem?_eq_some_iff.1 hk).1
    have := h2 k hk'
    simp only [hl, Bool.not_true, Bool.false_eq_true, false_or, hk, Option.map_some, Option.getD_some, Array.all_eq_true'] at this
    have := this e he
    simpa [hb] using this
theorem Down.set_ {listed : Array Bool} (h : Down md ops z listed) {i : Nat} (hi : i ∈ Region.ready md ops listed) : Down md ops z (listed.setIfInBounds i true) := by
  refine ⟨by simp [h.size], h.wait, fun k o e hk hl he hb => ?_⟩
  rcases Decidable.em (i = k) with rfl | hik
  · obtain ⟨_, o', ho', hall⟩ := mem_ready.1 hi
    rw [hk] at ho'; cases ho'
    exact getD_set_true (hall e he hb)
  · rw [getD_set_ne true hik] at hl
    exact getD_set_true (h.down k o e hk hl he hb)
/-- Where z may come up, nothing else may. -/
theorem Down.last {listed : Array Bool} (h : Down md ops z listed) (hz : z ∈ Region.ready md ops listed) : ∀ j, listed.getD j true = false → j < ops.size → j = z := by
  obtain ⟨hzu, oz, hoz, hall⟩ := mem_ready.1 hz
  have key : ∀ n j, ops.size - j ≤ n → listed.getD j true = false → j < ops.size → j = z := by
    intro n
    induction n with
    | zero => intro j hn _ hlt; omega
    | succ n ih =>
      intro j hn hu hlt
      rcases Decidable.em (j = z) with rfl | hjz
      · rfl
      · exfalso
        obtain ⟨k, o, e, hjk, hk, he, hb, ho⟩ := h.wait j hlt hjz
        have hk' := (Array.getElem?_eq_some_iff.1 hk).1
        have hju : listed.getD j false = false := by rw [getD_any listed j false true (by rw [h.size]; exact hlt)]; exact hu
        cases hku : listed.getD k true with
        | true =>
          have := h.down k o e hk hku he hb
          rw [ho, hju] at this
          cases this
        | false =>
          have := ih k (by omega) hku hk'
          subst this
          rw [hk] at hoz; cases hoz
          have := hall e he hb
          rw [ho, hju] at this
          cases this
  exact fun j => key _ j (Nat.le_refl _)

theorem unlisted {listed : Array Bool} {i j : Nat} (hj : j ∈ Region.ready md ops listed) (hi : i ∈ Region.ready md ops listed) :
    ∀ oj, ops[j]? = some oj → ∀ e ∈ oj.after, Region.binds md e = true → e.on ≠ i := by
  intro oj hoj e he hb heq
  obtain ⟨_, o, ho, hall⟩ := mem_ready.1 hj
  rw [hoj] at ho
  cases ho
  have h1 := hall e he hb
  have h0 := (mem_ready.1 hi).1
  rw [heq] at h1
  rcases Nat.lt_or_ge i listed.size with h | h
  · rw [getD_any listed i true false h, h1] at h0; cases h0
  · simp [Array.getD, Nat.not_lt.2 h] at h1

theorem wpAnyL_first {i : Nat} {oi : Oper} {v : Value} (hi : ops[i]? = some oi) (hiz : i ≠ z) (hsel : ∀ (j : Nat) (o : Oper) cs b, ops[j]? = some o → o.op ≠ .select cs b)
    (hQ : ∀ c a w, Q (.panic c) (a.put oi.dst v) w → Q (.panic c) a w) (n : Nat) : ∀ (listed : Array Bool) (a : Act) (w : World), Down md ops z listed →
      (∀ j oj, ops[j]? = some oj → j ≠ i → listed.getD j true = false → (∀ e ∈ oj.after, Region.binds md e = true → e.on ≠ i) → oi.apart ops oj = true) →
      i ∈ Region.ready md ops listed → YieldsIf P ops S oi v a → S w →
      wpAnyL P md ops Q S z n (listed.setIfInBounds i true) (a.put oi.dst v) w → wpAnyL P md ops Q S z (n + 1) listed a w := by
  induction n with
  | zero =>
    intro listed a w _ _ hr hy hS H
    refine ⟨fun h => (by rw [h] at hr; cases hr), fun j hj => ?_⟩
    rcases Decidable.em (j = i) with rfl | hji
    · exact hy.wpOp hi hS ⟨.inr hS, H⟩
    · have := ready_mono hj hji
      rw [H.1] at this
      cases this
  | succ n ih =>
    intro listed a w hd hfree hr hy hS H
    refine ⟨fun h => (by rw [h] at hr; cases hr), fun j hj => ?_⟩
    rcases Decidable.em (j = i) with rfl | hji
    · exact hy.wpOp hi hS ⟨.inr hS, H⟩
    · obtain ⟨hjun, oj, hoj, -⟩ := mem_ready.1 hj
      have hjz : j ≠ z := by
        rintro rfl
        obtain ⟨h0, o, ho, _⟩ := mem_ready.1 hr
        exact hiz (hd.last hj i h0 (Array.getElem?_eq_some_iff.1 ho).1)
      refine wpOp_mono (fun a' w' h3 => ?_) (wpOp_putIf hoj (hfree j oj hoj hji hjun (unlisted hj hr oj hoj)) (fun cs b => hsel i oi cs b hi) (fun cs b => hsel j oj cs b hoj) hQ hy (H.2 j (ready_mono hj hji)))
      obtain ⟨hy', hS' | hS', H'⟩ := h3
      · exact absurd hS' hjz
      refine ⟨.inr hS', ih (listed.setIfInBounds j true) a' w' (hd.set_ hj) (fun k ok hk hki hun hno => ?_) (ready_mono hr (Ne.symm hji)) hy' hS' ?_⟩
      · refine hfree k ok hk hki ?_ hno
        rcases Decidable.em (j = k) with rfl | hjk
        · exact hjun
        · rwa [getD_set_ne true hjk] at hun
      · rw [Array.setIfInBounds_comm _ _ hji]
        exact H'

theorem wpAnyL_seg (hs : Region.noSelect ops = true) (hQ : ∀ c (d : Option Tmp) (v : Value) (a : Act) w, Q (.panic c) (a.put d v) w → Q (.panic c) a w) {fuel : Nat} {w : World} (hS : S w) :
    ∀ (q : List Nat) (n : Nat) (listed : Array Bool) (a : Act), lastOk md ops z listed = true → segOk md ops q listed = true → q.contains z = false → n = q.length + fuel →
      wpQuiet P ops S (fun a' => wpAnyL P md ops Q S z fuel (listAll q listed) a' w) (opsOf ops q) a → wpAnyL P md ops Q S z n listed a w := by
  suffices hD : ∀ (q : List Nat) (n : Nat) (listed : Array Bool) (a : Act), Down md ops z listed → segOk md ops q listed = true → q.contains z = false → n = q.length + fuel →
      wpQuiet P ops S (fun a' => wpAnyL P md ops Q S z fuel (listAll q listed) a' w) (opsOf ops q) a → wpAnyL P md ops Q S z n listed a w from fun q n listed a h => hD q n listed a (Down.of h)
  intro q
  induction q with
  | nil =>
    intro n listed a _ _ _ hn h
    subst hn
    simpa [opsOf, wpQuiet, listAll] using h
  | cons i q ih =>
    intro n listed a hd hok hz hn h
    simp only [segOk, Bool.and_eq_true] at hok
    simp only [List.contains_cons, Bool.or_eq_false_iff, beq_eq_false_iff_ne, ne_eq] at hz
    obtain ⟨⟨⟨hr, hf⟩, hc⟩, hok'⟩ := hok
    cases hoi : ops[i]? with
    | none => simp [hoi] at hc
    | some o =>
      simp only [hoi, Option.map_some, Option.getD_some] at hc
      have hl' : opsOf ops (i :: q) = o :: opsOf ops q := by rw [opsOf_cons, hoi, consOp_some]
      rw [hl'] at h
      obtain rfl : n = (q.length + fuel) + 1 := by simp at hn; omega
      have hri : i ∈ Region.ready md ops listed := by simpa using hr
      simp only [wpQuiet] at h
      split at h
      · rename_i hw
        obtain ⟨v, hv, hK⟩ := h
        exact wpAnyL_first hoi (Ne.symm hz.1) (Region.noSelect_spec hs) (fun c a w => hQ c _ _ a w) _ listed a w hd (Region.free_spec hoi hf) hri (.inl ⟨hw, fun w' hw' => calm_val hc (hv w' hw')⟩) hS (ih _ _ _ (hd.set_ hri) hok' hz.2 rfl hK)
      · rename_i hw
        exact wpAnyL_first hoi (Ne.symm hz.1) (Region.noSelect_spec hs) (fun c a w => hQ c _ _ a w) _ listed a w hd (Region.free_spec hoi hf) hri (.inr ⟨by simpa using hw, rfl⟩) hS (ih _ _ _ (hd.set_ hri) hok' hz.2 rfl h)

/-- What is still to come behind operation i. -/
def AfterL (P : Program) (md : Region.Mode) (ops : Array Oper) (Q : Exit → Act → World → Prop) (S : World → Prop) (z fuel : Nat) (listed : Array Bool) (i : Nat) (K : Act → World → Prop) : Prop :=
  ∀ a w, (i = z ∨ S w) → wpAnyL P md ops Q S z fuel (listed.setIfInBounds i true) a w → K a w
theorem AfterL.out {fuel : Nat} {listed : Array Bool} {i : Nat} {K : Act → World → Prop} (h : AfterL P md ops Q S z fuel listed i K) {a : Act} {w : World} (hS : i = z ∨ S w) (hW : wpAnyL P md ops Q S z fuel (listed.setIfInBounds i true) a w) : K a w := h a w hS hW
/-- Each of those that may come up now. -/
def EachL (P : Program) (md : Region.Mode) (ops : Array Oper) (Q : Exit → Act → World → Prop) (S : World → Prop) (z fuel : Nat) (listed : Array Bool) (a : Act) (w : World) (rs : List Nat) : Prop :=
  ∀ i ∈ rs, wpOp P ops Q i (fun a' w' => (i = z ∨ S w') ∧ wpAnyL P md ops Q S z fuel (listed.setIfInBounds i true) a' w') a w
theorem EachL.nil {fuel : Nat} {listed : Array Bool} {a : Act} {w : World} : EachL P md ops Q S z fuel listed a w [] := fun _ h => by cases h
theorem EachL.cons {fuel : Nat} {listed : Array Bool} {a : Act} {w : World} {i : Nat} {rs : List Nat} (o : Oper) (ho : ops[i]? = some o)
    (h : ∀ K' : Act → World → Prop, AfterL P md ops Q S z fuel listed i K' → if Region.wanted o (yielded ops a.tmps) = true then Oper.wp P o a w K' Q else K' (a.put o.dst undef) w)
    (hs : EachL P md ops Q S z fuel listed a w rs) : EachL P md ops Q S z fuel listed a w (i :: rs) := fun j hj => by
  rcases List.mem_cons.1 hj with rfl | hj
  · exact wpOp_step ho (fun K' hK => h K' (fun a w hS hW => hK a w ⟨hS, hW⟩))
  · exact hs j hj
theorem wpAnyL_each {n fuel : Nat} {listed : Array Bool} {a : Act} {w : World} (rs : List Nat) (hr : Region.ready md ops listed = rs) (hne : rs ≠ []) (hn : n = fuel + 1)
    (h : EachL P md ops Q S z fuel listed a w rs) : wpAnyL P md ops Q S z n listed a w := by
  subst hn
  exact ⟨fun h0 => absurd (hr ▸ h0) hne, hr ▸ h⟩
theorem wpAnyL_done {listed : Array Bool} {a : Act} {w : World} (hr : Region.ready md ops listed = []) (h : Q .normal a w) : ∀ n, wpAnyL P md ops Q S z n listed a w
  | 0 => ⟨hr, h⟩
  | _ + 1 => ⟨fun _ => h, by rw [hr]; simp⟩
theorem wp_region_L {id : Nat} {a : Act} {w : World} (z : Nat) (hm : P.follows .mixedOrders = true) (hS : S w.drew)
    (h : S w.drew → wpAnyL P .any ops Q S z ops.size (Array.replicate ops.size false) a w.drew) : (Code.region id ops true).wp P Q a w :=
  wp_region_any hm (wpAny_ofL _ _ _ _ (h hS))
end
end Go.Proofs.Ytkfgegdnpinbdaa

namespace Go.Proofs.Ytkfgegdnpinbdaa
open Go.RowKit

/-- What dev.Twin made: where it lies. -/
structure TwinAt (B : Nat) (w : World) (gb gw g : Nat) (cur : Array Value) (d : DiskL) : Prop where
  row : RowB w g 5 (datD d).flatten
  bl : ∀ i, i < d.blocks.length → ∃ o, w.cell? ⟨gb, i, none⟩ = some (.slice (some ⟨g, o, none⟩) (d.blocks.getD i []).length (d.blocks.getD i []).length) ∧ (0 < (d.blocks.getD i []).length → o = posD (datD d) i)
  wcur : w.heap[gw]? = some (.cells cur 92 (0, 0))
  wsz : cur.size = (d.waits.length + 1) * 2
  wt : ∀ i, i < d.waits.length → cur[i * 2]? = some (.int .i64 (d.waits.getD i ⟨0, []⟩).at_) ∧ ∃ o, cur[i * 2 + 1]? = some (.slice (some ⟨g, o, none⟩) (d.waits.getD i ⟨0, []⟩).data.length (d.waits.getD i ⟨0, []⟩).data.length) ∧ (0 < (d.waits.getD i ⟨0, []⟩).data.length → o = posD (datD d) (d.blocks.length + i))
  wf : ∀ i, i < d.waits.length → (Lit.int .i64 (d.waits.getD i ⟨0, []⟩).at_).wf = true
  lo : B ≤ g ∧ B ≤ gb ∧ B ≤ gw
  hi : g < w.heap.size ∧ gb < w.heap.size ∧ gw < w.heap.size
  ne : g ≠ gb ∧ g ≠ gw ∧ gb ≠ gw

/-- Where the two copying loops stand: k lists are laid into block g; gh is the heap's box, c the block of slices that is being filled. -/
structure TwR (B g gh c : Nat) (D : List (List UInt8)) (k : Nat) (te : TypeId) (cur : Array Value) (w w3 wr : World) : Prop where
  row : RowB wr g 5 (laid D k)
  box : ∃ o, (posD D k < D.flatten.length → o = posD D k) ∧ o + (D.flatten.length - posD D k) ≤ D.flatten.length ∧ wr.heap[gh]? = some (.cells #[.slice (some ⟨g, o, none⟩) (D.flatten.length - posD D k) (D.flatten.length - posD D k)] 127 (0, 0))
  cur : wr.heap[c]? = some (.cells cur te (0, 0))
  oth : Oth3 g gh c w3 wr
  bel : Below B w wr

theorem run_makeN {P : Program} (t e : TypeId) (z : Value) (zc : Array Value) (size bytes : Nat) (ht : P.underlying t = some (.slice e)) (hinfo : (P.info? e).map (fun i => (i.zero, i.size, i.bytes)) = some (some z, size, bytes)) (hz : z.cells = zc)
    (n c : Nat) (ci : Int) (hci : ci = c) (hnc : n ≤ c) (hb : bytes * c ≤ 281474976710656) (h63 : c ≤ 100000000) (W : World) :
    (Instr.makeSlice t (.int .i64 (n : Int)) (.int .i64 ci)).run P W = .ok (.slice (some ⟨W.heap.size, 0, none⟩) n c) (W.alloc (.cells (madeCells zc (c * size)) e)) := by
  obtain ⟨i0, hi0, hz0, hz1, hz2⟩ := info_parts hinfo
  have hb' : (i0.bytes : Int) * (c : Int) ≤ 281474976710656 := by
    have h : ((i0.bytes * c : Nat) : Int) ≤ 281474976710656 := by rw [hz2]; omega
    rwa [Int.natCast_mul] at h
  subst hci
  have := run_make (P := P) W t e i0 z ht hi0 hz0 .i64 .i64 n c (by omega) (by omega) hb' (by omega)
  rw [this, hz1, hz]
  simp
theorem three_new (w : World) (o1 o2 o3 : Obj) : (((w.alloc o1).alloc o2).alloc o3).heap[w.heap.size]? = some o1 ∧ (((w.alloc o1).alloc o2).alloc o3).heap[w.heap.size + 1]? = some o2 ∧ (((w.alloc o1).alloc o2).alloc o3).heap[w.heap.size + 2]? = some o3 := by
  have h := two_new w o1 o2
  refine ⟨?_, ?_, ?_⟩
  · rw [Below.heap_alloc _ o3 w.heap.size (by simp; omega)]; exact h.1
  · rw [Below.heap_alloc _ o3 (w.heap.size + 1) (by simp)]; exact h.2
  · have := World.alloc_heap_new ((w.alloc o1).alloc o2) o3
    simpa using this
theorem below3 (w : World) (o1 o2 o3 : Obj) : Below w.heap.size w (((w.alloc o1).alloc o2).alloc o3).drew := ((((Below.refl _ w).alloc (Nat.le_refl _) _).alloc (by simp) _).alloc (by simp; omega) _).drew

set_option maxRecDepth 100000 in
set_option maxHeartbeats 1000000 in
/-- dev.Twin. -/
theorem dtwin_any (b u : Value) (d : DiskL) (w : World) (h : DiskV w 0 w.heap.size b u d) (hn1 : d.blocks.length ≤ 100000) (hn2 : d.waits.length ≤ 100000) (hT : (datD d).flatten.length ≤ 100000000) :
    Calls Try.prog 59 #[.agg #[b, u]] w fun e w' => ∃ gb gw g cur, e = .returned (.agg #[.slice (some ⟨gb, 0, none⟩) d.blocks.length d.blocks.length, .slice (some ⟨gw, 0, none⟩) d.waits.length (d.waits.length + 1)]) ∧
      TwinAt w.heap.size w' gb gw g cur d ∧ Below w.heap.size w w' := by
  have HD0 := Lib.hid h
  have hB := ((Below.refl w.heap.size w).alloc (Nat.le_refl _) (.cells #[b, u] 25)).alloc (by simp) (.cells #[.slice none 0 0, .slice none 0 0] 25)
  have hD := h.step ((Below.refl w.heap.size w).alloc (Nat.le_refl _) (.cells #[b, u] 25))
  have hD := hD.step ((Below.refl _ (w.alloc (.cells #[b, u] 25))).alloc (Nat.le_refl _) (.cells #[.slice none 0 0, .slice none 0 0] 25))
  have hq := two_new w (.cells #[b, u] 25) (.cells #[.slice none 0 0, .slice none 0 0] 25)
  obtain ⟨ab, cb, rfl, g1, g2, -, -⟩ := h.1
  obtain ⟨au, cu, rfl, g1', g2', -, -⟩ := h.2
  unfold maxLen at g2 g2'
  clear h
  obtain ⟨W, hW⟩ : ∃ W, (w.alloc (.cells #[.slice ab d.blocks.length cb, .slice au d.waits.length cu] 25)).alloc (.cells #[.slice none 0 0, .slice none 0 0] 25) = W := ⟨_, rfl⟩
  rw [hW] at hB hD hq
  go_enter Try.func59, Try.ntmps59
  go_upto_region 1 with (fail)
  have c0 := blk_cell hq.1 0
  have c1 := blk_cell hq.1 1
  simp at c0 c1
  obtain ⟨D, hDD⟩ : ∃ D, datD d = D := ⟨_, rfl⟩
  have HL := Lib.hid (show D.length = d.blocks.length + d.waits.length by rw [← hDD, datD_length])
  have HDB := Lib.hid (show ∀ k, k < d.blocks.length → D.getD k [] = d.blocks.getD k [] from fun k hk => by rw [← hDD]; exact datD_b d k hk)
  have HDW := Lib.hid (show ∀ k, k < d.waits.length → D.getD (d.blocks.length + k) [] = (d.waits.getD k ⟨0, []⟩).data from fun k hk => by rw [← hDD]; exact datD_w d k hk)
  rw [hDD] at hT
  have HDD := Lib.hid hDD
  have HT := Lib.hid (show ∀ k, posD D k ≤ 100000000 from fun k => Nat.le_trans (posD_le D k) hT)
  have HQ := Lib.hid (And.intro hq (And.intro hD hB))
  have HW := Lib.hid hW
  clear hq hD hB hDD hW
  go_wp2_with fail
  go_loopw [3, 17] (fun v i wr => ∃ k : Nat, k ≤ d.blocks.length ∧ i = .int .i64 k ∧ v = .int .i64 (posD D k) ∧ wr = W) (fun _ i _ => d.blocks.length - (intOf i).toNat)
  case atStart => exact ⟨0, Nat.zero_le _, rfl, by rw [posD_zero]; rfl, rfl⟩
  case round =>
    obtain ⟨k, hk, rfl, rfl, rfl⟩ := hrel
    by_cases hlt : k < d.blocks.length
    · obtain ⟨bb, bo, cb', e', -, z1, z2, z3, hbe⟩ := HQ.out.2.1.1.at_ (by omega)
      injection e' with ea _ ec
      subst ea ec
      obtain ⟨v, hv, hvb⟩ := hbe k (d.blocks.getD k []) (get_l _ _ _ hlt)
      obtain ⟨av, cv, rfl, -, hcv⟩ := hvb.form rfl
      unfold maxLen at hcv z3
      have hv' : wr.cell? ⟨bb, bo + k, none⟩ = some (.slice av (d.blocks.getD k []).length cv) := by simpa [rBytes] using hv
      have hps : posD D (k + 1) = posD D k + (d.blocks.getD k []).length := by rw [posD_succ D k (by have := HL.out; omega), HDB.out k hlt]
      have hpt := HT.out (k + 1)
      rw [hps] at hpt
      have HPS := Lib.hid hps
      clear hps hv hvb hbe
      generalize (d.blocks.getD k []).length = y at *
      generalize posD D k = pk at *
      go_wp2
      go_roundw
      case rel => exact ⟨k + 1, by omega, by go_num, by rw [HPS.out]; go_num, trivial⟩
      case measure => simp [intOf]; omega
    · obtain rfl : k = d.blocks.length := by omega
      clear hk hlt
      obtain ⟨V, hV⟩ : ∃ V, V = wr := ⟨_, rfl⟩
      subst hV
      go_wp2_with fail
      go_loopw [3, 29] (fun v i wx => ∃ k : Nat, k ≤ d.waits.length ∧ i = .int .i64 k ∧ v = .int .i64 (posD D (d.blocks.length + k)) ∧ Below V.heap.size V wx) (fun _ i _ => d.waits.length - (intOf i).toNat)
      case atStart => exact ⟨0, Nat.zero_le _, rfl, rfl, Below.refl _ _⟩
      case round =>
        obtain ⟨k, hk, rfl, rfl, hB⟩ := hrel
        by_cases hlt : k < d.waits.length
        · obtain ⟨bb, bo, cb', e', -, z1, z2, z3, hbe⟩ := (HQ.out.2.1.2.step hB).at_ (by omega)
          injection e' with ea _ ec
          subst ea ec
          obtain ⟨f0, f1, v, f2, f3⟩ := hbe k (d.waits.getD k ⟨0, []⟩) (get_l _ _ _ hlt)
          obtain ⟨av, cv, rfl, -, hcv⟩ := f3.form rfl
          unfold maxLen at hcv z3
          have hps : posD D (d.blocks.length + (k + 1)) = posD D (d.blocks.length + k) + (d.waits.getD k ⟨0, []⟩).data.length := by
            rw [← Nat.add_assoc, posD_succ D (d.blocks.length + k) (by have := HL.out; omega), HDW.out k hlt]
          have hpt := HT.out (d.blocks.length + (k + 1))
          rw [hps] at hpt
          have HPS := Lib.hid (And.intro hps hB)
          clear hps f3 hbe hB
          obtain ⟨y, hy⟩ : ∃ y, d.waits.getD k ⟨0, []⟩ = y := ⟨_, rfl⟩
          rw [hy] at f0 f1 f2 hpt HPS
          clear hy
          obtain ⟨at_, dt⟩ := y
          simp only at hpt HPS
          simp [rWrite] at f0 f2
          generalize posD D (d.blocks.length + k) = pk at *
          go_wp2
          go_roundw
          case rel => exact ⟨k + 1, by omega, by go_num, by rw [HPS.out.1]; go_num, HPS.out.2.alloc HPS.out.2.size _⟩
          case measure => simp [intOf]; omega
        · obtain rfl : k = d.waits.length := by omega
          clear hk hlt
          have hall : posD D (d.blocks.length + d.waits.length) = D.flatten.length := by rw [← HL.out, posD_all]
          rw [hall]
          clear hall
          have c0' := blk_cell ((hB.block w.heap.size (Array.getElem?_eq_some_iff.1 HQ.out.1.1).1).trans HQ.out.1.1) 0
          have c1' := blk_cell ((hB.block w.heap.size (Array.getElem?_eq_some_iff.1 HQ.out.1.1).1).trans HQ.out.1.1) 1
          simp at c0' c1'
          clear c0 c1
          generalize hN : D.flatten.length = N at *
          have HB := Lib.hid hB
          clear hB
          go_upto_region 13 with (refine wpList_makeB rfl (.tmp 39) (.tmp 39) 127 rfl 5 Try.underlying127 info_u8 N rfl rfl (by omega) ?_; intro w1 hrow1 hB1)
          have hbox := World.alloc_heap_new w1 (.cells #[.slice (some ⟨wr.heap.size, 0, none⟩) N N] 127)
          have hB2 := (Below.refl w1.heap.size w1).alloc (Nat.le_refl _) (.cells #[.slice (some ⟨wr.heap.size, 0, none⟩) N N] 127)
          have hsz2 := World.size_alloc w1 (.cells #[.slice (some ⟨wr.heap.size, 0, none⟩) N N] 127)
          have hrow2 := hrow1.step hB2
          have hVr := HB.out.size
          have hB12 := below_step hB1 hB1.size hB2
          have hBV2 := below_step HB.out HB.out.size hB12
          have hq1 := (hBV2.block w.heap.size (Array.getElem?_eq_some_iff.1 HQ.out.1.1).1).trans HQ.out.1.1
          have hq2 := (hBV2.block (w.heap.size + 1) (Array.getElem?_eq_some_iff.1 HQ.out.1.2).1).trans HQ.out.1.2
          have hBw2 := below_step HQ.out.2.2 HQ.out.2.2.size hBV2
          have hlg : w.heap.size + 1 < wr.heap.size := by
            have := (Array.getElem?_eq_some_iff.1 HQ.out.1.2).1
            omega
          have hgg : wr.heap.size < w1.heap.size := hrow1.lt
          clear hB12 hBV2 hVr HB hrow1 hB2 hB1 c0' c1' HQ HW
          obtain ⟨w2, hw2⟩ : ∃ w2, w1.alloc (.cells #[.slice (some ⟨wr.heap.size, 0, none⟩) N N] 127) = w2 := ⟨_, rfl⟩
          rw [hw2] at hbox hrow2 hq1 hq2 hBw2 hsz2 ⊢
          clear hw2
          generalize w1.heap.size = gh at *
          generalize wr.heap.size = g at *
          have hm1 := run_makeN (P := Try.prog) 22 26 (.slice none 0 0) #[.slice none 0 0] 1 24 Try.underlying22 (by kernel_rfl) rfl d.blocks.length d.blocks.length d.blocks.length rfl (Nat.le_refl _) (by omega) (by omega)
          have hm2 := run_makeN (P := Try.prog) 23 92 (.agg #[.int .i64 0, .slice none 0 0]) #[.int .i64 0, .slice none 0 0] 2 32 Try.underlying23 (by kernel_rfl) (by rfl) d.waits.length (d.waits.length + 1) ((d.waits.length : Int) + 1) (by omega) (by omega) (by omega) (by omega)
          have c0 := blk_cell hq1 0
          have c1 := blk_cell hq1 1
          simp at c0 c1
          have hl0 := (Array.getElem?_eq_some_iff.1 hq1).1
          have HX := Lib.hid (And.intro hq2 (And.intro hBw2 (And.intro hsz2 (And.intro hlg (And.intro hgg (And.intro hrow2 (And.intro hbox hq1)))))))
          have HN := Lib.hid hN
          clear hq2 hBw2 hsz2 hlg hgg hrow2 hbox hq1 hN
          go_cut [9] (fun s9 wx => ∃ g9 gb gw : Nat, s9 = .pointer (some ⟨g9, 0, none⟩) ∧ wx.heap[g9]? = some (.cells #[.slice (some ⟨gb, 0, none⟩) d.blocks.length d.blocks.length, .slice (some ⟨gw, 0, none⟩) d.waits.length (d.waits.length + 1)] 25 (0, 0)) ∧
            wx.heap[gb]? = some (.cells (madeCells #[.slice none 0 0] d.blocks.length) 26 (0, 0)) ∧ wx.heap[gw]? = some (.cells (madeCells #[.int .i64 0, .slice none 0 0] ((d.waits.length + 1) * 2)) 92 (0, 0)) ∧
            (g9 ≠ gb ∧ g9 ≠ gw ∧ gb ≠ gw) ∧ (w2.heap.size ≤ g9 ∧ w2.heap.size ≤ gb ∧ w2.heap.size ≤ gw) ∧ Below w2.heap.size w2 wx)
          case first =>
            go_region
            all_goals
              go_wp2
              go_meet
              clear HX HD0
              first
                | exact ⟨_, _, _, rfl, (three_new _ _ _ _).1, (three_new _ _ _ _).2.1, (three_new _ _ _ _).2.2, ⟨by omega, by omega, by omega⟩, ⟨by omega, by omega, by omega⟩, below3 _ _ _ _⟩
                | exact ⟨_, _, _, rfl, (three_new _ _ _ _).1, (three_new _ _ _ _).2.2, (three_new _ _ _ _).2.1, ⟨by omega, by omega, by omega⟩, ⟨by omega, by omega, by omega⟩, below3 _ _ _ _⟩
                | exact ⟨_, _, _, rfl, (three_new _ _ _ _).2.1, (three_new _ _ _ _).1, (three_new _ _ _ _).2.2, ⟨by omega, by omega, by omega⟩, ⟨by omega, by omega, by omega⟩, below3 _ _ _ _⟩
                | exact ⟨_, _, _, rfl, (three_new _ _ _ _).2.1, (three_new _ _ _ _).2.2, (three_new _ _ _ _).1, ⟨by omega, by omega, by omega⟩, ⟨by omega, by omega, by omega⟩, below3 _ _ _ _⟩
                | exact ⟨_, _, _, rfl, (three_new _ _ _ _).2.2, (three_new _ _ _ _).1, (three_new _ _ _ _).2.1, ⟨by omega, by omega, by omega⟩, ⟨by omega, by omega, by omega⟩, below3 _ _ _ _⟩
                | exact ⟨_, _, _, rfl, (three_new _ _ _ _).2.2, (three_new _ _ _ _).2.1, (three_new _ _ _ _).1, ⟨by omega, by omega, by omega⟩, ⟨by omega, by omega, by omega⟩, below3 _ _ _ _⟩
          case rest =>
          obtain ⟨g9, gb, gw, rfl, h9, hgb, hgw, hne, hge, hst⟩ := hcut
          obtain ⟨w3, hw3⟩ := named_w hst
          subst hw3
          obtain ⟨q2, qB, qsz, qlg, qgg, qrow, qbox, q1⟩ := HX.out
          have hl9 := (Array.getElem?_eq_some_iff.1 h9).1
          have hlb := (Array.getElem?_eq_some_iff.1 hgb).1
          have hlw := (Array.getElem?_eq_some_iff.1 hgw).1
          have hNE : (g9 ≠ g ∧ g9 ≠ gh ∧ g9 ≠ gb ∧ gb ≠ g ∧ gb ≠ gh ∧ g9 ≠ gw) ∧ (gw ≠ g ∧ gw ≠ gh ∧ gw ≠ gb) ∧ w.heap.size + 1 < g ∧ w.heap.size + 1 < gh ∧ w.heap.size + 1 < gb ∧ w.heap.size + 1 < gw ∧ w.heap.size + 1 < g9 := by omega
          replace q2 := (hst.block (w.heap.size + 1) (Array.getElem?_eq_some_iff.1 q2).1).trans q2
          replace q1 := (hst.block w.heap.size (Array.getElem?_eq_some_iff.1 q1).1).trans q1
          replace qrow := qrow.step hst
          replace qbox := (hst.block gh (Array.getElem?_eq_some_iff.1 qbox).1).trans qbox
          replace qB := below_step qB qB.size hst
          have d0 := blk_cell q1 0
          have d1 := blk_cell q1 1
          simp at d0 d1
          have HH := Lib.hid (And.intro h9 (And.intro hgb (And.intro hgw (And.intro hNE (And.intro qrow (And.intro qbox (And.intro qB (And.intro q2 q1))))))))
          clear h9 hgb hgw hne hge hst q2 qB qsz qrow qbox q1 hm1 hm2 c0 c1 hl0 qlg qgg
          have HNE := Lib.hid hNE.1
          have HLT := Lib.hid (And.intro hl9 (And.intro hlb hlw))
          have HLO := Lib.hid hNE.2.2
          have HNW := Lib.hid hNE.2.1
          clear hNE hl9 hlb hlw
          go_wp2_with fail
          go_loopw [57] (fun i wr => ∃ k : Nat, k ≤ d.blocks.length ∧ i = .int .i64 k ∧ ∃ cur, TwR w.heap.size g gh gb D k 26 cur w w3 wr ∧ cur.size = d.blocks.length ∧ ∀ j, j < k → ∃ o, cur[j]? = some (.slice (some ⟨g, o, none⟩) (d.blocks.getD j []).length (d.blocks.getD j []).length) ∧ (0 < (d.blocks.getD j []).length → o = posD D j)) (fun i _ => d.blocks.length - (intOf i).toNat)
          case atStart =>
            obtain ⟨h9, hgb, hgw, hNE, qrow, qbox, qB, q2, q1⟩ := HH.out
            refine ⟨0, Nat.zero_le _, rfl, _, ⟨by rw [laid_zero, HN.out]; exact qrow, ⟨0, fun _ => (posD_zero D).symm, by omega, ?_⟩, hgb, Oth3.refl _ _ _ _, qB⟩, size_madeCells _ _, fun j hj => absurd hj (Nat.not_lt_zero _)⟩
            rw [posD_zero, HN.out]
            exact qbox
          case round =>
          obtain ⟨k, hk, rfl, cur, hR, hcsz, hcj⟩ := hrel
          by_cases hlt : k < d.blocks.length
          · obtain ⟨bb, bo, cb', e', -, z1, z2, z3, hbe⟩ := (HD0.out.1.below hR.bel (Nat.le_refl _)).at_ (by omega)
            injection e' with ea _ ec
            subst ea ec
            obtain ⟨v, hv, hvb⟩ := hbe k (d.blocks.getD k []) (get_l _ _ _ hlt)
            obtain ⟨av, cv, rfl, -, hcv⟩ := hvb.form rfl
            unfold maxLen at hcv z3
            have hv' : wr.cell? ⟨bb, bo + k, none⟩ = some (.slice av (d.blocks.getD k []).length cv) := by simpa [rBytes] using hv
            have hkD : k < D.length := by have := HL.out; omega
            have hps : posD D (k + 1) = posD D k + (d.blocks.getD k []).length := by rw [posD_succ D k hkD, HDB.out k hlt]
            have hpl := posD_le D (k + 1)
            have hsp := splice_laid D k
            rw [HDB.out k hlt] at hsp
            obtain ⟨o, ho1, ho2, hbx⟩ := hR.box
            have hcond : k < cur.size := by omega
            have hold : cur[k]? = some cur[k] := by simp [hcond]
            have h9 := (hR.oth.2 g9 HLT.out.1 HNE.out.1 HNE.out.2.1 HNE.out.2.2.1).trans HH.out.1
            obtain ⟨Pr, hPr⟩ : ∃ Pr : World → Prop, ∀ W, Pr W ↔ W.heap[g9]? = some (.cells #[.slice (some ⟨gb, 0, none⟩) d.blocks.length d.blocks.length, .slice (some ⟨gw, 0, none⟩) d.waits.length (d.waits.length + 1)] 25 (0, 0)) := ⟨_, fun _ => Iff.rfl⟩
            have hp0 : Pr wr.drew := (hPr _).2 h9
            have c9 := fun X => blk_cell ((hPr _).1 (selW_pr hp0 X)) 0
            simp at c9
            have hHY := And.intro True.intro (And.intro hvb (And.intro (show (d.blocks.getD k []).length ≤ D.flatten.length - posD D k by omega) (And.intro hps hsp)))
            obtain ⟨y, hy⟩ : ∃ y, d.blocks.getD k [] = y := ⟨_, rfl⟩
            rw [hy] at hv' hHY
            have HE := Lib.hid hy
            have HY := Lib.hid hHY
            have HR := Lib.hid hR
            have HC := Lib.hid (And.intro hcsz (And.intro hcj ho1))
            generalize cur[k] = old at *
            clear hHY hy hR hcsz hcj hv hvb hbe h9 hpl hsp hps hcond ho1
            go_wp2_with fail
            refine wp_region_L (S := Kl Pr wr.drew) 6 (by kernel_rfl) (Kl.of hp0) (fun hCl => ?_)
            refine wpAnyL_seg (fuel := 3) (by kernel_rfl) (fun _ d _ _ _ h => by cases d <;> exact h) hCl [0, 1, 2, 3] _ _ _ (by kernel_rfl) (by kernel_rfl) (by kernel_rfl) (by kernel_rfl) ?_
            simp only [opsOf_cons, opsOf_nil, consOp_some, List.getElem?_toArray, List.getElem?_cons_succ, List.getElem?_cons_zero]
            repeat (first | go_big_quiet_step (fail) | quiet_step (fail))
            refine wpQuiet_nil ?_
            refine wpAnyL_each (fuel := 2) [4] (by kernel_rfl) (by simp) (by kernel_rfl) ?_
            refine EachL.cons _ rfl (fun K' hK => ?_) EachL.nil
            go_simp
            refine (hclone_any g gh o (D.flatten.length - posD D (k)) (laid D (k)) _ y 0 w.heap.size wr.drew HR.out.row hbx (Nat.ne_of_lt HX.out.2.2.2.2.1) HY.out.2.1 HY.out.2.2.1 (by rw [laid_length]; exact ho2)).mono ?_
            rintro e z1 ⟨rfl, hrow', hob, hB', hsz', hoth'⟩
            have hst : Pr z1 := (hPr _).2 ((hoth' g9 HNE.out.1 HNE.out.2.1).trans ((hPr _).1 hp0))
            have hcg := (hoth' gb HNE.out.2.2.2.1 HNE.out.2.2.2.2.1).trans HR.out.cur
            have HZ := Lib.hid (And.intro hrow' (And.intro hob (And.intro hB' (And.intro hsz' (And.intro hoth' hcg)))))
            have cz := (blk_cell hcg k).trans hold
            have fz := blk_frozen hcg k
            clear hrow' hob hB' hsz' hoth' hcg hold
            have hCl : Kl Pr wr.drew _ := Kl.of hst
            refine hK.out (.inr hCl) ?_
            clear hK K'
            refine wpAnyL_seg (fuel := 1) (by kernel_rfl) (fun _ d _ _ _ h => by cases d <;> exact h) hCl [5] _ _ _ (by kernel_rfl) (by kernel_rfl) (by kernel_rfl) (by kernel_rfl) ?_
            simp only [opsOf_cons, opsOf_nil, consOp_some, List.getElem?_toArray, List.getElem?_cons_succ, List.getElem?_cons_zero]
            repeat (first | go_big_quiet_step (fail) | quiet_step (fail))
            refine wpQuiet_nil ?_
            refine wpAnyL_each (fuel := 0) [6] (by kernel_rfl) (by simp) (by kernel_rfl) ?_
            refine EachL.cons _ rfl (fun K' hK => ?_) EachL.nil
            go_simp
            refine hK.out (.inl rfl) ?_
            clear hK K'
            refine wpAnyL_done (by kernel_rfl) ?_ _
            go_wp2
            go_roundw
            case rel =>
              obtain ⟨hrow', ⟨o', ho1', ho2', hbx'⟩, hB', hsz', hoth', hcg⟩ := HZ.out
              obtain ⟨-, hvb, hle, hps, hsp⟩ := HY.out
              have hy := HE.out
              obtain ⟨hcsz, hcj, ho1⟩ := HC.out
              have hset := set_block hcg k (.slice (some ⟨g, o, none⟩) y.length y.length)
              have hot := ((HR.out.oth).trans (Oth3.of2 hsz' hoth')).trans (Oth3.set_ (a := g) (b := gh) (c := gb) z1 k (.slice (some ⟨g, o, none⟩) y.length y.length))
              have hgs := set_other z1 gb k (.slice (some ⟨g, o, none⟩) y.length y.length)
              have hBn := (below_step HR.out.bel HR.out.bel.size (Below.refl _ wr).drew).trans (hB'.mono (by have := HLO.out; omega))
              refine ⟨k + 1, by omega, by go_num, cur.setIfInBounds k (.slice (some ⟨g, o, none⟩) y.length y.length), ⟨?_, ⟨o', ?_, ?_, ?_⟩, hset, hot, hBn.setCell (p := ⟨gb, k, none⟩) (by have := HLO.out; show w.heap.size ≤ gb; omega) _⟩, by rw [Array.size_setIfInBounds]; exact hcsz, ?_⟩
              · rw [← hsp o (by have := HL.out; omega) ho1]
                exact (hgs g (Ne.symm HNE.out.2.2.2.1)).trans hrow'
              · intro hlt2
                rw [hps] at hlt2 ⊢
                rw [ho1' (by omega), ho1 (by omega)]
              · rw [laid_length] at ho2'
                rw [hps]
                rcases Nat.lt_or_ge y.length (D.flatten.length - posD D k) with h | h
                · have e1 := ho1' h
                  have e2 := ho1 (by omega)
                  have := posD_le D (k + 1)
                  omega
                · omega
              · rw [hps, ← Nat.sub_sub]
                exact (hgs gh (Ne.symm HNE.out.2.2.2.2.1)).trans hbx'
              · intro j hj
                rcases Nat.lt_succ_iff_lt_or_eq.1 hj with hj | rfl
                · obtain ⟨oj, h1, h2⟩ := hcj j hj
                  refine ⟨oj, ?_, h2⟩
                  rw [Array.getElem?_setIfInBounds_ne (by omega)]
                  exact h1
                · rw [hy]
                  refine ⟨o, by rw [Array.getElem?_setIfInBounds_self_of_lt (by omega)], fun hp => ho1 (by omega)⟩
            case measure => simp [intOf]; omega
          obtain rfl : k = d.blocks.length := by omega
          clear hk hlt
          obtain ⟨V4, hV4⟩ : ∃ V4, V4 = wr := ⟨_, rfl⟩
          subst hV4
          have e9 := (hR.oth.2 g9 HLT.out.1 HNE.out.1 HNE.out.2.1 HNE.out.2.2.1).trans HH.out.1
          have ew := (hR.oth.2 gw HLT.out.2.2 HNW.out.1 HNW.out.2.1 HNW.out.2.2).trans HH.out.2.2.1
          have hl1 := (Array.getElem?_eq_some_iff.1 HH.out.2.2.2.2.2.2.2.1).1
          have eq1 := (hR.oth.2 w.heap.size (by omega) (by have := HLO.out; omega) (by have := HLO.out; omega) (by have := HLO.out; omega)).trans HH.out.2.2.2.2.2.2.2.2
          have eq2 := (hR.oth.2 (w.heap.size + 1) hl1 (by have := HLO.out; omega) (by have := HLO.out; omega) (by have := HLO.out; omega)).trans HH.out.2.2.2.2.2.2.2.1
          have HLV := Lib.hid (And.intro (Nat.lt_of_lt_of_le HLT.out.1 hR.oth.1) (And.intro (Nat.lt_of_lt_of_le HLT.out.2.1 hR.oth.1) (And.intro (Nat.lt_of_lt_of_le HLT.out.2.2 hR.oth.1) (Nat.lt_of_lt_of_le hl1 hR.oth.1))))
          clear d0 d1 hl1
          have d0 := blk_cell eq1 0
          have d1 := blk_cell eq1 1
          simp at d0 d1
          have H4 := Lib.hid (And.intro e9 (And.intro ew (And.intro eq1 (And.intro eq2 (And.intro hR (And.intro hcsz hcj))))))
          clear e9 ew eq1 eq2 hR hcsz hcj
          go_wp2_with fail
          go_loopw [72] (fun i wr => ∃ k : Nat, k ≤ d.waits.length ∧ i = .int .i64 k ∧ ∃ cw, TwR w.heap.size g gh gw D (d.blocks.length + k) 92 cw w V4 wr ∧ cw.size = (d.waits.length + 1) * 2 ∧ ∀ j, j < k → cw[j * 2]? = some (.int .i64 (d.waits.getD j ⟨0, []⟩).at_) ∧ ∃ o, cw[j * 2 + 1]? = some (.slice (some ⟨g, o, none⟩) (d.waits.getD j ⟨0, []⟩).data.length (d.waits.getD j ⟨0, []⟩).data.length) ∧ (0 < (d.waits.getD j ⟨0, []⟩).data.length → o = posD D (d.blocks.length + j))) (fun i _ => d.waits.length - (intOf i).toNat)
          case atStart =>
            obtain ⟨e9, ew, eq1, eq2, hR, hcsz, hcj⟩ := H4.out
            exact ⟨0, Nat.zero_le _, rfl, _, ⟨hR.row, hR.box, ew, Oth3.refl _ _ _ _, hR.bel⟩, size_madeCells _ _, fun j hj => absurd hj (Nat.not_lt_zero _)⟩
          case round =>
          obtain ⟨k, hk, rfl, cw, hR, hcsz, hcj⟩ := hrel
          by_cases hlt : k < d.waits.length
          · obtain ⟨bb, bo, cb', e', -, z1, z2, z3, hbe⟩ := (HD0.out.2.below hR.bel (Nat.le_refl _)).at_ (by omega)
            injection e' with ea _ ec
            subst ea ec
            obtain ⟨f0, f1, v, f2, hvb⟩ := hbe k (d.waits.getD k ⟨0, []⟩) (get_l _ _ _ hlt)
            obtain ⟨av, cv, rfl, -, hcv⟩ := hvb.form rfl
            unfold maxLen at hcv z3
            have hkD : d.blocks.length + k < D.length := by have := HL.out; omega
            have hps : posD D (d.blocks.length + (k + 1)) = posD D (d.blocks.length + k) + (d.waits.getD k ⟨0, []⟩).data.length := by rw [← Nat.add_assoc, posD_succ D _ hkD, HDW.out k hlt]
            have hpl := posD_le D (d.blocks.length + (k + 1))
            have hsp := splice_laid D (d.blocks.length + k)
            rw [HDW.out k hlt] at hsp
            have h9 := (hR.oth.2 g9 HLV.out.1 HNE.out.1 HNE.out.2.1 HNE.out.2.2.2.2.2).trans H4.out.1
            have hHY := And.intro True.intro (And.intro (hvb.below (Below.refl _ _) (Nat.le_refl _)) (And.intro (show (d.waits.getD k ⟨0, []⟩).data.length ≤ D.flatten.length - posD D (d.blocks.length + k) by omega) (And.intro hps hsp)))
            have hHC := And.intro hcsz hcj
            obtain ⟨y, hy⟩ : ∃ y, d.waits.getD k ⟨0, []⟩ = y := ⟨_, rfl⟩
            rw [hy] at f0 f1 f2 hHY hps
            have HE := Lib.hid hy
            obtain ⟨at_, y⟩ := y
            simp [rWrite] at f0 f2
            clear hvb hbe hsp hy hcsz hcj
            have HY := Lib.hid hHY
            have HC := Lib.hid hHC
            have HR := Lib.hid hR
            have HP := Lib.hid (And.intro h9 (And.intro hpl hps))
            clear hHY hHC hR h9 hpl hps
            go_upto_region 22 with (fail)
            have hgy := World.alloc_heap_new wr (.cells #[.int .i64 at_, .slice av y.length cv] 92)
            have hst := (Below.refl wr.heap.size wr).alloc (Nat.le_refl _) (.cells #[.int .i64 at_, .slice av y.length cv] 92)
            have hRy : TwR w.heap.size g gh gw D (d.blocks.length + k) 92 cw w V4 (wr.alloc (.cells #[.int .i64 at_, .slice av y.length cv] 92)) := by
              obtain ⟨r1, ⟨o, r2, r3, r4⟩, r5, r6, r7⟩ := HR.out
              exact ⟨r1.step hst, ⟨o, r2, r3, (hst.block gh (Array.getElem?_eq_some_iff.1 r4).1).trans r4⟩, (hst.block gw (Array.getElem?_eq_some_iff.1 r5).1).trans r5, r6.trans (Oth3.ofB hst), below_step r7 r7.size hst⟩
            have h9 := (hst.block g9 (Array.getElem?_eq_some_iff.1 HP.out.1).1).trans HP.out.1
            have hny : wr.heap.size ≠ g ∧ wr.heap.size ≠ gh := by
              obtain ⟨r1, ⟨o, r2, r3, r4⟩, r5, r6, r7⟩ := HR.out
              have := r1.lt
              have := (Array.getElem?_eq_some_iff.1 r4).1
              omega
            have HNY := Lib.hid hny
            have hvy : Bytes (wr.alloc (.cells #[.int .i64 at_, .slice av y.length cv] 92)) 0 w.heap.size (.slice av y.length cv) y := HY.out.2.1.below hst HR.out.bel.size
            obtain ⟨wy, hwy⟩ : ∃ wy, wr.alloc (.cells #[.int .i64 at_, .slice av y.length cv] 92) = wy := ⟨_, rfl⟩
            rw [hwy] at hgy hRy h9 hvy ⊢
            have HVB := Lib.hid hvy
            clear hst hwy hny hvy
            generalize wr.heap.size = gy at *
            have HR := Lib.hid hRy
            obtain ⟨o, ho1, ho2, hbx⟩ := hRy.box
            obtain ⟨old, old2, hold⟩ : ∃ u u2, cw[k * 2]? = some u ∧ cw[k * 2 + 1]? = some u2 := ⟨_, _, Array.getElem?_eq_getElem (by have := HC.out.1; omega), Array.getElem?_eq_getElem (by have := HC.out.1; omega)⟩
            obtain ⟨Pr, hPr⟩ : ∃ Pr : World → Prop, ∀ W, Pr W ↔ W.heap[g9]? = some (.cells #[.slice (some ⟨gb, 0, none⟩) d.blocks.length d.blocks.length, .slice (some ⟨gw, 0, none⟩) d.waits.length (d.waits.length + 1)] 25 (0, 0)) ∧ W.heap[gy]? = some (.cells #[.int .i64 at_, .slice av y.length cv] 92 (0, 0)) := ⟨_, fun _ => Iff.rfl⟩
            have hp0 : Pr wy.drew := (hPr _).2 ⟨h9, hgy⟩
            have c9 := fun X => blk_cell ((hPr _).1 (selW_pr hp0 X)).1 1
            have cy0 := fun X => blk_cell ((hPr _).1 (selW_pr hp0 X)).2 0
            have cy1 := fun X => blk_cell ((hPr _).1 (selW_pr hp0 X)).2 1
            simp at c9 cy0 cy1
            have HO := Lib.hid (And.intro ho1 ho2)
            clear hRy h9 hgy ho1
            refine wp_region_L (S := Kl Pr wy.drew) 10 (by kernel_rfl) (Kl.of hp0) (fun hCl => ?_)
            refine wpAnyL_seg (fuel := 4) (by kernel_rfl) (fun _ d _ _ _ h => by cases d <;> exact h) hCl [0, 1, 2, 3, 4, 5, 6] _ _ _ (by kernel_rfl) (by kernel_rfl) (by kernel_rfl) (by kernel_rfl) ?_
            simp only [opsOf_cons, opsOf_nil, consOp_some, List.getElem?_toArray, List.getElem?_cons_succ, List.getElem?_cons_zero]
            repeat (first | go_big_quiet_step (fail) | quiet_step (fail))
            refine wpQuiet_nil ?_
            refine wpAnyL_each (fuel := 3) [7] (by kernel_rfl) (by simp) (by kernel_rfl) ?_
            refine EachL.cons _ rfl (fun K' hK => ?_) EachL.nil
            go_simp
            refine (hclone_any g gh o (D.flatten.length - posD D (d.blocks.length + k)) (laid D (d.blocks.length + k)) _ y 0 w.heap.size wy.drew HR.out.row hbx (Nat.ne_of_lt HX.out.2.2.2.2.1) HVB.out HY.out.2.2.1 (by rw [laid_length]; exact ho2)).mono ?_
            rintro e z1 ⟨rfl, hrow', hob, hB', hsz', hoth'⟩
            have hst : Pr z1 := (hPr _).2 ⟨(hoth' g9 HNE.out.1 HNE.out.2.1).trans ((hPr _).1 hp0).1, (hoth' gy HNY.out.1 HNY.out.2).trans ((hPr _).1 hp0).2⟩
            have hcg := (hoth' gw HNW.out.1 HNW.out.2.1).trans HR.out.cur
            have HZ := Lib.hid (And.intro hrow' (And.intro hob (And.intro hB' (And.intro hsz' (And.intro hoth' hcg)))))
            have cz := (blk_cell hcg (k * 2)).trans hold.1
            have fz := blk_frozen hcg (k * 2)
            have cz2 := (blk_cell hcg (k * 2 + 1)).trans hold.2
            have fz2 := blk_frozen hcg (k * 2 + 1)
            clear hrow' hob hB' hsz' hoth' hcg hold
            have hCl : Kl Pr wy.drew _ := Kl.of hst
            refine hK.out (.inr hCl) ?_
            clear hK K'
            refine wpAnyL_each (fuel := 2) [8] (by kernel_rfl) (by simp) (by kernel_rfl) ?_
            refine EachL.cons _ rfl (fun K' hK => ?_) EachL.nil
            go_simp
            have hCl : Kl Pr wy.drew _ := Kl.of hst
            refine hK.out (.inr hCl) ?_
            clear hK K'
            refine wpAnyL_seg (fuel := 1) (by kernel_rfl) (fun _ d _ _ _ h => by cases d <;> exact h) hCl [9] _ _ _ (by kernel_rfl) (by kernel_rfl) (by kernel_rfl) (by kernel_rfl) ?_
            simp only [opsOf_cons, opsOf_nil, consOp_some, List.getElem?_toArray, List.getElem?_cons_succ, List.getElem?_cons_zero]
            repeat (first | go_big_quiet_step (fail) | quiet_step (fail))
            refine wpQuiet_nil ?_
            refine wpAnyL_each (fuel := 0) [10] (by kernel_rfl) (by simp) (by kernel_rfl) ?_
            refine EachL.cons _ rfl (fun K' hK => ?_) EachL.nil
            go_simp
            refine hK.out (.inl rfl) ?_
            clear hK K'
            refine wpAnyL_done (by kernel_rfl) ?_ _
            go_wp2
            go_roundw
            case rel =>
              obtain ⟨hrow', ⟨o', ho1', ho2', hbx'⟩, hB', hsz', hoth', hcg⟩ := HZ.out
              obtain ⟨-, hvb, hle, hps, hsp⟩ := HY.out
              have hy := HE.out
              obtain ⟨hcsz, hcj⟩ := HC.out
              obtain ⟨ho1, -⟩ := HO.out
              simp only at hle hps hsp
              have hsa := set_block hcg (k * 2) (.int .i64 at_)
              have hset := set_block hsa (k * 2 + 1) (.slice (some ⟨g, o, none⟩) y.length y.length)
              have hot := (((HR.out.oth).trans (Oth3.of2 hsz' hoth')).trans (Oth3.set_ (a := g) (b := gh) (c := gw) z1 (k * 2) (.int .i64 at_))).trans (Oth3.set_ (a := g) (b := gh) (c := gw) _ (k * 2 + 1) (.slice (some ⟨g, o, none⟩) y.length y.length))
              have hgs : ∀ x, x ≠ gw → ((z1.setCell ⟨gw, k * 2, none⟩ (.int .i64 at_)).setCell ⟨gw, k * 2 + 1, none⟩ (.slice (some ⟨g, o, none⟩) y.length y.length)).heap[x]? = z1.heap[x]? := fun x hx => (set_other _ gw _ _ x hx).trans (set_other z1 gw _ _ x hx)
              have hBn := (below_step HR.out.bel HR.out.bel.size (Below.refl _ wy).drew).trans (hB'.mono (by have := HLO.out; omega))
              refine ⟨k + 1, by omega, by go_num, (cw.setIfInBounds (k * 2) (.int .i64 at_)).setIfInBounds (k * 2 + 1) (.slice (some ⟨g, o, none⟩) y.length y.length), ⟨?_, ⟨o', ?_, ?_, ?_⟩, hset, hot, (hBn.setCell (p := ⟨gw, k * 2, none⟩) (by have := HLO.out; show w.heap.size ≤ gw; omega) _).setCell (p := ⟨gw, k * 2 + 1, none⟩) (by have := HLO.out; show w.heap.size ≤ gw; omega) _⟩, by rw [Array.size_setIfInBounds, Array.size_setIfInBounds]; exact hcsz, ?_⟩
              · have e := hsp o (by have := HL.out; omega) ho1
                rw [Nat.add_assoc] at e
                rw [← e]
                exact (hgs g (Ne.symm HNW.out.1)).trans hrow'
              · intro hlt2
                rw [hps] at hlt2 ⊢
                rw [ho1' (by omega), ho1 (by omega)]
              · rw [laid_length] at ho2'
                have hple := HP.out.2.1
                rw [hps] at hple ⊢
                rcases Nat.lt_or_ge y.length (D.flatten.length - posD D (d.blocks.length + k)) with h | h
                · have e1 := ho1' h
                  have e2 := ho1 (by omega)
                  omega
                · omega
              · rw [hps, ← Nat.sub_sub]
                exact (hgs gh (Ne.symm HNW.out.2.1)).trans hbx'
              · intro j hj
                rcases Nat.lt_succ_iff_lt_or_eq.1 hj with hj | rfl
                · obtain ⟨h0, oj, h1, h2⟩ := hcj j hj
                  refine ⟨?_, oj, ?_, h2⟩
                  · rw [Array.getElem?_setIfInBounds_ne (by omega), Array.getElem?_setIfInBounds_ne (by omega)]
                    exact h0
                  · rw [Array.getElem?_setIfInBounds_ne (by omega), Array.getElem?_setIfInBounds_ne (by omega)]
                    exact h1
                · rw [hy]
                  refine ⟨by rw [Array.getElem?_setIfInBounds_ne (by omega), Array.getElem?_setIfInBounds_self_of_lt (by omega)], o, by rw [Array.getElem?_setIfInBounds_self_of_lt (by rw [Array.size_setIfInBounds]; omega)], fun hp => ho1 (by simp only at hp; omega)⟩
            case measure => simp [intOf]; omega
          obtain rfl : k = d.waits.length := by omega
          clear hk hlt
          have hq2 := (hR.oth.2 (w.heap.size + 1) HLV.out.2.2.2 (by have := HLO.out; omega) (by have := HLO.out; omega) (by have := HLO.out; omega)).trans H4.out.2.2.2.1
          have hq9 := (hR.oth.2 g9 HLV.out.1 HNE.out.1 HNE.out.2.1 HNE.out.2.2.2.2.2).trans H4.out.1
          have r0 := blk_cell hq2 0
          have r1 := blk_cell hq2 1
          have s0 := blk_frozen hq2 0
          have s1 := blk_frozen hq2 1
          have t0 := blk_cell hq9 0
          have t1 := blk_cell hq9 1
          simp at r0 r1 t0 t1
          have HR := Lib.hid (And.intro hR (And.intro hcsz hcj))
          clear hR hcsz hcj hq2 hq9 d0 d1
          go_wp2
          refine bodyPost_ret (v := .agg #[.slice (some ⟨gb, 0, none⟩) d.blocks.length d.blocks.length, .slice (some ⟨gw, 0, none⟩) d.waits.length (d.waits.length + 1)]) (by simp [results, Try.results59, go_sem, r0, r1]) rfl ?_
          obtain ⟨hR, hcsz, hcj⟩ := HR.out
          obtain ⟨-, -, -, -, hR4, hcsz4, hcj4⟩ := H4.out
          have hs : ∀ x, x ≠ w.heap.size + 1 → ((wr.setCell ⟨w.heap.size + 1, 0, none⟩ (.slice (some ⟨gb, 0, none⟩) d.blocks.length d.blocks.length)).setCell ⟨w.heap.size + 1, 1, none⟩ (.slice (some ⟨gw, 0, none⟩) d.waits.length (d.waits.length + 1))).heap[x]? = wr.heap[x]? := fun x hx => (set_other _ _ _ _ x hx).trans (set_other wr _ _ _ x hx)
          have hz : ((wr.setCell ⟨w.heap.size + 1, 0, none⟩ (.slice (some ⟨gb, 0, none⟩) d.blocks.length d.blocks.length)).setCell ⟨w.heap.size + 1, 1, none⟩ (.slice (some ⟨gw, 0, none⟩) d.waits.length (d.waits.length + 1))).heap.size = wr.heap.size := by rw [World.size_setCell, World.size_setCell]
          have hDD := HDD.out
          have hLO := HLO.out
          have hLV := HLV.out
          have hgb := (hR.oth.2 gb hLV.2.1 HNE.out.2.2.2.1 HNE.out.2.2.2.2.1 (Ne.symm HNW.out.2.2)).trans hR4.cur
          refine ⟨gb, gw, g, cw, rfl, ⟨?_, fun i hi => ?_, (hs gw (by omega)).trans hR.cur, hcsz, fun i hi => ?_, fun i hi => ?_, ⟨by omega, by omega, by omega⟩, ?_, ⟨Ne.symm HNE.out.2.2.2.1, Ne.symm HNW.out.1, Ne.symm HNW.out.2.2⟩⟩, (hR.bel.setCell (p := ⟨w.heap.size + 1, 0, none⟩) (Nat.le_succ _) _).setCell (p := ⟨w.heap.size + 1, 1, none⟩) (Nat.le_succ _) _⟩
          · rw [hDD, ← laid_all D, HL.out]
            exact (hs g (by omega)).trans hR.row
          · obtain ⟨o, h1, h2⟩ := hcj4 i hi
            rw [hDD]
            exact ⟨o, by rw [heap_cell (hs gb (by omega)), blk_cell hgb]; exact h1, h2⟩
          · rw [hDD]
            exact hcj i hi
          · have hv := HD0.out.2
            obtain ⟨bb, bo, cb', e', -, z1, z2, z3, hbe⟩ := hv.at_ (by omega)
            exact (hbe i _ (get_l _ _ _ hi)).2.1
          · rw [hz]
            exact ⟨by have := hR.oth.1; have := hR.row.lt; omega, by have := hR.oth.1; omega, by have := hR.oth.1; omega⟩
end Go.Proofs.Ytkfgegdnpinbdaa

namespace Go.Proofs.Ytkfgegdnpinbdaa
open Go.RowKit

theorem TwinAt.bytes {B : Nat} {w : World} {gb gw g : Nat} {cur : Array Value} {d : DiskL} (h : TwinAt B w gb gw g cur d) (hT : (datD d).flatten.length ≤ 100000000) (j o : Nat) (hj : j < (datD d).length) (ho : 0 < ((datD d).getD j []).length → o = posD (datD d) j) :
    Bytes w g (g + 1) (.slice (some ⟨g, o, none⟩) ((datD d).getD j []).length ((datD d).getD j []).length) ((datD d).getD j []) ∧ Thawed w (.slice (some ⟨g, o, none⟩) ((datD d).getD j []).length ((datD d).getD j []).length) := by
  refine ⟨?_, fun b off m c he i _ => by cases he; exact h.row.frozen _⟩
  have hle : ((datD d).getD j []).length ≤ maxLen := by
    have := posD_succ (datD d) j hj
    have := posD_le (datD d) (j + 1)
    unfold maxLen
    omega
  refine ⟨_, _, rfl, Nat.le_refl _, hle, fun hp => ⟨g, o, rfl, Nat.le_refl _, Nat.lt_succ_self _, fun i x hx => ?_⟩, fun h => by cases h⟩
  rw [h.row.cell, ho hp]
  have hc := cut_laid (datD d) j hj
  rw [← hc, List.getElem?_take] at hx
  split at hx
  · rw [List.getElem?_drop] at hx
    rw [hx]; rfl
  · cases hx
theorem TwinAt.bl' {B : Nat} {w : World} {gb gw g : Nat} {cur : Array Value} {d : DiskL} (h : TwinAt B w gb gw g cur d) (hT : (datD d).flatten.length ≤ 100000000) (hn : d.blocks.length ≤ 100000) :
    Sl rBytesT w B w.heap.size (.slice (some ⟨gb, 0, none⟩) d.blocks.length d.blocks.length) d.blocks := by
  refine ⟨_, _, rfl, Nat.le_refl _, by unfold maxLen; omega, fun hp => ⟨gb, 0, rfl, h.lo.2.1, h.hi.2.1, fun i x hx => ?_⟩, fun h => by cases h⟩
  have hi : i < d.blocks.length := (List.getElem?_eq_some_iff.1 hx).1
  rw [get_l d.blocks [] i hi] at hx
  cases hx
  obtain ⟨o, h1, h2⟩ := h.bl i hi
  have hb := h.bytes hT i o (by rw [datD_length]; omega) (by rw [datD_b d i hi]; exact h2)
  rw [datD_b d i hi] at hb
  exact ⟨_, by simpa [rBytesT] using h1, hb.1.more h.lo.1 h.hi.1, hb.2⟩
theorem TwinAt.wt' {B : Nat} {w : World} {gb gw g : Nat} {cur : Array Value} {d : DiskL} (h : TwinAt B w gb gw g cur d) (hT : (datD d).flatten.length ≤ 100000000) (i : Nat) (hi : i < d.waits.length) :
    cur[i * 2]? = some (.int .i64 (d.waits.getD i ⟨0, []⟩).at_) ∧ ∃ v, cur[i * 2 + 1]? = some v ∧ Bytes w g (g + 1) v (d.waits.getD i ⟨0, []⟩).data ∧ Thawed w v := by
  obtain ⟨h0, o, h1, h2⟩ := h.wt i hi
  have hb := h.bytes hT (d.blocks.length + i) o (by rw [datD_length]; omega) (by rw [datD_w d i hi]; exact h2)
  rw [datD_w d i hi] at hb
  exact ⟨h0, _, h1, hb⟩
theorem TwinAt.disk {B : Nat} {w : World} {gb gw g : Nat} {cur : Array Value} {d : DiskL} (h : TwinAt B w gb gw g cur d) (hT : (datD d).flatten.length ≤ 100000000) (hn : d.blocks.length ≤ 100000) (hn2 : d.waits.length ≤ 100000) :
    DiskT w B w.heap.size (.slice (some ⟨gb, 0, none⟩) d.blocks.length d.blocks.length) (.slice (some ⟨gw, 0, none⟩) d.waits.length (d.waits.length + 1)) d := by
  refine ⟨h.bl' hT hn, _, _, rfl, Nat.le_succ _, by unfold maxLen; omega, fun hp => ⟨gw, 0, rfl, h.lo.2.2, h.hi.2.2, fun i x hx => ?_⟩, fun h => by cases h⟩
  have hi : i < d.waits.length := (List.getElem?_eq_some_iff.1 hx).1
  rw [get_l d.waits ⟨0, []⟩ i hi] at hx
  cases hx
  obtain ⟨h0, v, h1, h2, h3⟩ := h.wt' hT i hi
  refine ⟨?_, h.wf i hi, v, ?_, h2.more h.lo.1 h.hi.1, h3⟩
  · show w.cell? ⟨gw, 0 + i * 2 + 0, none⟩ = _
    rw [blk_cell h.wcur, Nat.zero_add, Nat.add_zero]
    exact h0
  · show w.cell? ⟨gw, 0 + i * 2 + 1, none⟩ = _
    rw [blk_cell h.wcur, Nat.zero_add]
    exact h1
/-- The bytes of a disk that may be are few. -/
theorem may_len {d : DiskL} (h : mayD d = true) : d.blocks.length = 256 ∧ d.waits.length ≤ 4096 ∧ (∀ x ∈ d.blocks, x.length = 128) ∧ (∀ x ∈ d.waits, 0 ≤ x.at_ ∧ x.at_ < 256 ∧ x.data.length = 128) := by
  unfold mayD okW at h
  simp only [Bool.and_eq_true, beq_iff_eq, decide_eq_true_eq, List.all_eq_true] at h
  obtain ⟨⟨⟨h1, h2⟩, h3⟩, h4⟩ := h
  exact ⟨h1, h2, h3, fun x hx => ⟨(h4 x hx).1.1, (h4 x hx).1.2, (h4 x hx).2⟩⟩
theorem flat_le (L : List (List UInt8)) (n : Nat) (h : ∀ x ∈ L, x.length ≤ n) : L.flatten.length ≤ L.length * n := by
  induction L with
  | nil => simp
  | cons a l ih =>
    have h1 := h a (List.mem_cons_self ..)
    have h2 := ih (fun x hx => h x (List.mem_cons_of_mem _ hx))
    rw [List.flatten_cons, List.length_append, List.length_cons, Nat.succ_mul]
    omega
theorem dat_le {d : DiskL} (h1 : d.blocks.length ≤ 300) (h2 : d.waits.length ≤ 5000) (h3 : ∀ x ∈ d.blocks, x.length ≤ 128) (h4 : ∀ x ∈ d.waits, x.data.length ≤ 128) : (datD d).flatten.length ≤ 100000000 := by
  have := flat_le (datD d) 128 (fun x hx => by
    rcases List.mem_append.1 hx with h | h
    · exact h3 x h
    · obtain ⟨y, hy, rfl⟩ := List.mem_map.1 h
      exact h4 y hy)
  rw [datD_length] at this
  omega
end Go.Proofs.Ytkfgegdnpinbdaa

