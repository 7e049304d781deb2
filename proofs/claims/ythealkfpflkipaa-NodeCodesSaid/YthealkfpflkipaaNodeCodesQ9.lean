/- NodeCodes: the words and contracts, part 9. -/
import Derived.Test.YthealkfpflkipaaNodeCodesQ1
import Derived.Test.YthealkfpflkipaaNodeCodesQ2
import Derived.Test.YthealkfpflkipaaNodeCodesQ3
import Derived.Test.YthealkfpflkipaaNodeCodesQ4
import Derived.Test.YthealkfpflkipaaNodeCodesQ5
import Derived.Test.YthealkfpflkipaaNodeCodesQ6
import Derived.Test.YthealkfpflkipaaNodeCodesQ7
import Derived.Test.YthealkfpflkipaaNodeCodesQ8
import Derived.WalkKit
import Derived.WalkLawsBesides
import Derived.WalkSpells
import Derived.Lib.Hide
import Derived.Laws.Rows
import Derived.Laws.AppendOwnNone
import Derived.Maps.AppendAt
import Derived.OrdersHeld
import Derived.Deep.QuietTactic
import Derived.BigQuiet
import Derived.StillTailTactics
import Derived.RangeFuncNested
import Derived.RangeFuncBound
import Derived.RangeFuncCalls
import Derived.RangeFuncLeaves
import Derived.RangeFuncBox
import Derived.Shelf.Abstract
import Derived.Shelf.RegionOpen
import Derived.OwnWalkIn
import Derived.TacticsInMore
import Derived.LoopNIn
import Derived.LoopIn
import Derived.ProofKit
import Derived.Deep.Slices
import Derived.WideShapes
import Derived.OpenShut
import Derived.Lib.SliceRun
import Derived.Lib.AppendZerosOnto
import Derived.Lib.Walk
import Derived.Deep.LoopGhost
import Derived.Laws.CopyOwn
import Derived.Deep.DeepCutAuto
import Derived.Laws.CopyRow
import Derived.Laws.MakeOwn
import Derived.Deep.RegionHeld
namespace Go.Proofs.Ythealkfpflkipaa
open Go.RowKit

/-- A world of which Pr holds: W itself, if it holds of that. -/
noncomputable def selW (Pr : World → Prop) (w0 W : World) : World := by
  classical exact if Pr W then W else w0
theorem selW_pr {Pr : World → Prop} {w0 : World} (h : Pr w0) (W : World) : Pr (selW Pr w0 W) := by
  unfold selW
  split
  · assumption
  · exact h
theorem selW_of {Pr : World → Prop} {w0 W : World} (h : Pr W) : selW Pr w0 W = W := by
  unfold selW
  rw [if_pos h]
def Kl (Pr : World → Prop) (w0 w' : World) : Prop := ∃ W, w' = selW Pr w0 W
attribute [go_sem] Kl
theorem Kl.of {Pr : World → Prop} {w0 w' : World} (h : Pr w') : Kl Pr w0 w' := ⟨w', (selW_of h).symm⟩

/-- Whatever comes up, in whatever order; but for number z, the world behind it is of the class. -/
def wpAnyL (P : Program) (md : Region.Mode) (ops : Array Oper) (Q : Exit → Act → World → Prop) (S : World → Prop) (z : Nat) : Nat → Array Bool → Act → World → Prop
  | 0, listed, a, w => Region.ready md ops listed = [] ∧ Q .normal a w
  | n + 1, listed, a, w => (Region.ready md ops listed = [] → Q .normal a w) ∧ ∀ i ∈ Region.ready md ops listed,
      wpOp P ops Q i (fun a' w' => (i = z ∨ S w') ∧ wpAnyL P md ops Q S z n (listed.setIfInBounds i true) a' w') a w

/-- Each operation but z is waited for by a later one; and where one is listed, so is what it waits for. -/
def lastOk (md : Region.Mode) (ops : Array Oper) (z : Nat) (listed : Array Bool) : Bool :=
  (decide (listed.size = ops.size) && (List.range ops.size).all fun j => j == z || (List.range ops.size).any fun k => decide (j < k) && ((ops[k]?).map fun o => o.after.any fun e => Region.binds md e && e.on == j).getD false) &&
  (List.range ops.size).all fun k => !(listed.getD k true) || ((ops[k]?).map fun o => o.after.all fun e => !Region.binds md e || listed.getD e.on false).getD false

section
variable {P : Program} {ops : Array Oper} {Q : Exit → Act → World → Prop} {md : Region.Mode} {S : World → Prop} {z : Nat}

theorem wpAny_ofL : ∀ (n : Nat) (listed : Array Bool) (a : Act) (w : World), wpAnyL P md ops Q S z n listed a w → wpAny P md ops Q n listed a w
  | 0, _, _, _, h => h
  | n + 1, _, _, _, h => ⟨h.1, fun i hi => wpOp_mono (fun a' w' h' => wpAny_ofL n _ a' w' h'.2) (h.2 i hi)⟩

structure Down (md : Region.Mode) (ops : Array Oper) (z : Nat) (listed : Array Bool) : Prop where
  size : listed.size = ops.size
  wait : ∀ j, j < ops.size → j ≠ z → ∃ k o e, j < k ∧ ops[k]? = some o ∧ e ∈ o.after ∧ Region.binds md e = true ∧ e.on = j
  down : ∀ k o e, ops[k]? = some o → listed.getD k true = true → e ∈ o.after → Region.binds md e = true → listed.getD e.on false = true
theorem Down.of {listed : Array Bool} (h : lastOk md ops z listed = true) : Down md ops z listed := by
  simp only [lastOk, Bool.and_eq_true, List.all_eq_true, List.mem_range, Bool.or_eq_true, beq_iff_eq, List.any_eq_true, decide_eq_true_eq] at h
  obtain ⟨⟨h0, h1⟩, h2⟩ := h
  refine ⟨h0, fun j hj hz => ?_, fun k o e hk hl he hb => ?_⟩
  · rcases h1 j hj with h | ⟨k, hk, hjk, hx⟩
    · exact absurd h hz
    · simp only [Array.getElem?_eq_getElem hk, Option.map_some, Option.getD_some, Array.any_eq_true', Bool.and_eq_true, beq_iff_eq] at hx
      obtain ⟨e, he, hb, ho⟩ := hx
      exact ⟨k, ops[k], e, hjk, by simp [hk], he, hb, ho⟩
  · have hk' := (Array.getElem?_eq_some_iff.1 hk).1
    have := h2 k hk'
    simp only [hl, Bool.not_true, Bool.false_eq_true, false_or, hk, Option.map_some, Option.getD_some, Array.all_eq_true'] at this
    have := this e he
    simpa [hb] using this
theorem Down.set_ {listed : Array Bool} (h : Down md ops z listed) {i : Nat} (hi : i ∈ Region.ready md ops listed) : Down md ops z (listed.setIfInBounds i true) := by
  refine ⟨by simp [h.size], h.wait, fun k o e hk hl he hb => ?_⟩
  rcases Decidable.em (i = k) with rfl | hik
  · obtain ⟨_, o', ho', hall⟩ := mem_ready.1 hi
    rw [hk] at ho'; cases ho'
    exact getD_set_true (hall e he hb)
  · rw [getD_set_ne true hik] at hl
    exact getD_set_true (h.down k o e hk hl he hb)
/-- Where z may come up, nothing else may. -/
theorem Down.last {listed : Array Bool} (h : Down md ops z listed) (hz : z ∈ Region.ready md ops listed) : ∀ j, listed.getD j true = false → j < ops.size → j = z := by
  obtain ⟨hzu, oz, hoz, hall⟩ := mem_ready.1 hz
  have key : ∀ n j, ops.size - j ≤ n → listed.getD j true = false → j < ops.size → j = z := by
    intro n
    induction n with
    | zero => intro j hn _ hlt; omega
    | succ n ih =>
      intro j hn hu hlt
      rcases Decidable.em (j = z) with rfl | hjz
      · rfl
      · exfalso
        obtain ⟨k, o, e, hjk, hk, he, hb, ho⟩ := h.wait j hlt hjz
        have hk' := (Array.getElem?_eq_some_iff.1 hk).1
        have hju : listed.getD j false = false := by rw [getD_any listed j false true (by rw [h.size]; exact hlt)]; exact hu
        cases hku : listed.getD k true with
        | true =>
          have := h.down k o e hk hku he hb
          rw [ho, hju] at this
          cases this
        | false =>
          have := ih k (by omega) hku hk'
          subst this
          rw [hk] at hoz; cases hoz
          have := hall e he hb
          rw [ho, hju] at this
          cases this
  exact fun j => key _ j (Nat.le_refl _)

theorem unlisted {listed : Array Bool} {i j : Nat} (hj : j ∈ Region.ready md ops listed) (hi : i ∈ Region.ready md ops listed) :
    ∀ oj, ops[j]? = some oj → ∀ e ∈ oj.after, Region.binds md e = true → e.on ≠ i := by
  intro oj hoj e he hb heq
  obtain ⟨_, o, ho, hall⟩ := mem_ready.1 hj
  rw [hoj] at ho
  cases ho
  have h1 := hall e he hb
  have h0 := (mem_ready.1 hi).1
  rw [heq] at h1
  rcases Nat.lt_or_ge i listed.size with h | h
  · rw [getD_any listed i true false h, h1] at h0; cases h0
  · simp [Array.getD, Nat.not_lt.2 h] at h1

theorem wpAnyL_first {i : Nat} {oi : Oper} {v : Value} (hi : ops[i]? = some oi) (hiz : i ≠ z) (hsel : ∀ (j : Nat) (o : Oper) cs b, ops[j]? = some o → o.op ≠ .select cs b)
    (hQ : ∀ c a w, Q (.panic c) (a.put oi.dst v) w → Q (.panic c) a w) (n : Nat) : ∀ (listed : Array Bool) (a : Act) (w : World), Down md ops z listed →
      (∀ j oj, ops[j]? = some oj → j ≠ i → listed.getD j true = false → (∀ e ∈ oj.after, Region.binds md e = true → e.on ≠ i) → oi.apart ops oj = true) →
      i ∈ Region.ready md ops listed → YieldsIf P ops S oi v a → S w →
      wpAnyL P md ops Q S z n (listed.setIfInBounds i true) (a.put oi.dst v) w → wpAnyL P md ops Q S z (n + 1) listed a w := by
  induction n with
  | zero =>
    intro listed a w _ _ hr hy hS H
    refine ⟨fun h => (by rw [h] at hr; cases hr), fun j hj => ?_⟩
    rcases Decidable.em (j = i) with rfl | hji
    · exact hy.wpOp hi hS ⟨.inr hS, H⟩
    · have := ready_mono hj hji
      rw [H.1] at this
      cases this
  | succ n ih =>
    intro listed a w hd hfree hr hy hS H
    refine ⟨fun h => (by rw [h] at hr; cases hr), fun j hj => ?_⟩
    rcases Decidable.em (j = i) with rfl | hji
    · exact hy.wpOp hi hS ⟨.inr hS, H⟩
    · obtain ⟨hjun, oj, hoj, -⟩ := mem_ready.1 hj
      have hjz : j ≠ z := by
        rintro rfl
        obtain ⟨h0, o, ho, _⟩ := mem_ready.1 hr
        exact hiz (hd.last hj i h0 (Array.getElem?_eq_some_iff.1 ho).1)
      refine wpOp_mono (fun a' w' h3 => ?_) (wpOp_putIf hoj (hfree j oj hoj hji hjun (unlisted hj hr oj hoj)) (fun cs b => hsel i oi cs b hi) (fun cs b => hsel j oj cs b hoj) hQ hy (H.2 j (ready_mono hj hji)))
      obtain ⟨hy', hS' | hS', H'⟩ := h3
      · exact absurd hS' hjz
      refine ⟨.inr hS', ih (listed.setIfInBounds j true) a' w' (hd.set_ hj) (fun k ok hk hki hun hno => ?_) (ready_mono hr (Ne.symm hji)) hy' hS' ?_⟩
      · refine hfree k ok hk hki ?_ hno
        rcases Decidable.em (j = k) with rfl | hjk
        · exact hjun
        · rwa [getD_set_ne true hjk] at hun
      · rw [Array.setIfInBounds_comm _ _ hji]
        exact H'

theorem wpAnyL_seg (hs : Region.noSelect ops = true) (hQ : ∀ c (d : Option Tmp) (v : Value) (a : Act) w, Q (.panic c) (a.put d v) w → Q (.panic c) a w) {fuel : Nat} {w : World} (hS : S w) :
    ∀ (q : List Nat) (n : Nat) (listed : Array Bool) (a : Act), lastOk md ops z listed = true → segOk md ops q listed = true → q.contains z = false → n = q.length + fuel →
      wpQuiet P ops S (fun a' => wpAnyL P md ops Q S z fuel (listAll q listed) a' w) (opsOf ops q) a → wpAnyL P md ops Q S z n listed a w := by
  suffices hD : ∀ (q : List Nat) (n : Nat) (listed : Array Bool) (a : Act), Down md ops z listed → segOk md ops q listed = true → q.contains z = false → n = q.length + fuel →
      wpQuiet P ops S (fun a' => wpAnyL P md ops Q S z fuel (listAll q listed) a' w) (opsOf ops q) a → wpAnyL P md ops Q S z n listed a w from fun q n listed a h => hD q n listed a (Down.of h)
  intro q
  induction q with
  | nil =>
    intro n listed a _ _ _ hn h
    subst hn
    simpa [opsOf, wpQuiet, listAll] using h
  | cons i q ih =>
    intro n listed a hd hok hz hn h
    simp only [segOk, Bool.and_eq_true] at hok
    simp only [List.contains_cons, Bool.or_eq_false_iff, beq_eq_false_iff_ne, ne_eq] at hz
    obtain ⟨⟨⟨hr, hf⟩, hc⟩, hok'⟩ := hok
    cases hoi : ops[i]? with
    | none => simp [hoi] at hc
    | some o =>
      simp only [hoi, Option.map_some, Option.getD_some] at hc
      have hl' : opsOf ops (i :: q) = o :: opsOf ops q := by rw [opsOf_cons, hoi, consOp_some]
      rw [hl'] at h
      obtain rfl : n = (q.length + fuel) + 1 := by simp at hn; omega
      have hri : i ∈ Region.ready md ops listed := by simpa using hr
      simp only [wpQuiet] at h
      split at h
      · rename_i hw
        obtain ⟨v, hv, hK⟩ := h
        exact wpAnyL_first hoi (Ne.symm hz.1) (Region.noSelect_spec hs) (fun c a w => hQ c _ _ a w) _ listed a w hd (Region.free_spec hoi hf) hri (.inl ⟨hw, fun w' hw' => calm_val hc (hv w' hw')⟩) hS (ih _ _ _ (hd.set_ hri) hok' hz.2 rfl hK)
      · rename_i hw
        exact wpAnyL_first hoi (Ne.symm hz.1) (Region.noSelect_spec hs) (fun c a w => hQ c _ _ a w) _ listed a w hd (Region.free_spec hoi hf) hri (.inr ⟨by simpa using hw, rfl⟩) hS (ih _ _ _ (hd.set_ hri) hok' hz.2 rfl h)

/-- What is still to come behind operation i. -/
def AfterL (P : Program) (md : Region.Mode) (ops : Array Oper) (Q : Exit → Act → World → Prop) (S : World → Prop) (z fuel : Nat) (listed : Array Bool) (i : Nat) (K : Act → World → Prop) : Prop :=
  ∀ a w, (i = z ∨ S w) → wpAnyL P md ops Q S z fuel (listed.setIfInBounds i true) a w → K a w
theorem AfterL.out {fuel : Nat} {listed : Array Bool} {i : Nat} {K : Act → World → Prop} (h : AfterL P md ops Q S z fuel listed i K) {a : Act} {w : World} (hS : i = z ∨ S w) (hW : wpAnyL P md ops Q S z fuel (listed.setIfInBounds i true) a w) : K a w := h a w hS hW
/-- Each of those that may come up now. -/
def EachL (P : Program) (md : Region.Mode) (ops : Array Oper) (Q : Exit → Act → World → Prop) (S : World → Prop) (z fuel : Nat) (listed : Array Bool) (a : Act) (w : World) (rs : List Nat) : Prop :=
  ∀ i ∈ rs, wpOp P ops Q i (fun a' w' => (i = z ∨ S w') ∧ wpAnyL P md ops Q S z fuel (listed.setIfInBounds i true) a' w') a w
theorem EachL.nil {fuel : Nat} {listed : Array Bool} {a : Act} {w : World} : EachL P md ops Q S z fuel listed a w [] := fun _ h => by cases h
theorem EachL.cons {fuel : Nat} {listed : Array Bool} {a : Act} {w : World} {i : Nat} {rs : List Nat} (o : Oper) (ho : ops[i]? = some o)
    (h : ∀ K' : Act → World → Prop, AfterL P md ops Q S z fuel listed i K' → if Region.wanted o (yielded ops a.tmps) = true then Oper.wp P o a w K' Q else K' (a.put o.dst undef) w)
    (hs : EachL P md ops Q S z fuel listed a w rs) : EachL P md ops Q S z fuel listed a w (i :: rs) := fun j hj => by
  rcases List.mem_cons.1 hj with rfl | hj
  · exact wpOp_step ho (fun K' hK => h K' (fun a w hS hW => hK a w ⟨hS, hW⟩))
  · exact hs j hj
theorem wpAnyL_each {n fuel : Nat} {listed : Array Bool} {a : Act} {w : World} (rs : List Nat) (hr : Region.ready md ops listed = rs) (hne : rs ≠ []) (hn : n = fuel + 1)
    (h : EachL P md ops Q S z fuel listed a w rs) : wpAnyL P md ops Q S z n listed a w := by
  subst hn
  exact ⟨fun h0 => absurd (hr ▸ h0) hne, hr ▸ h⟩
theorem wpAnyL_done {listed : Array Bool} {a : Act} {w : World} (hr : Region.ready md ops listed = []) (h : Q .normal a w) : ∀ n, wpAnyL P md ops Q S z n listed a w
  | 0 => ⟨hr, h⟩
  | _ + 1 => ⟨fun _ => h, by rw [hr]; simp⟩
theorem wp_region_L {id : Nat} {a : Act} {w : World} (z : Nat) (hm : P.follows .mixedOrders = true) (hS : S w.drew)
    (h : S w.drew → wpAnyL P .any ops Q S z ops.size (Array.replicate ops.size false) a w.drew) : (Code.region id ops true).wp P Q a w :=
  wp_region_any hm (wpAny_ofL _ _ _ _ (h hS))
end
end Go.Proofs.Ythealkfpflkipaa

namespace Go.Proofs.Ythealkfpflkipaa
open Go.RowKit

/-- What dev.Twin made: where it lies. -/
structure TwinAt (B : Nat) (w : World) (gb gw g : Nat) (cur : Array Value) (d : DiskL) : Prop where
  row : RowB w g 5 (datD d).flatten
  bl : ∀ i, i < d.blocks.length → ∃ o, w.cell? ⟨gb, i, none⟩ = some (.slice (some ⟨g, o, none⟩) (d.blocks.getD i []).length (d.blocks.getD i []).length) ∧ (0 < (d.blocks.getD i []).length → o = posD (datD d) i)
  wcur : w.heap[gw]? = some (.cells cur 50 (0, 0))
  wsz : cur.size = (d.waits.length + 1) * 2
  wt : ∀ i, i < d.waits.length → cur[i * 2]? = some (.int .i64 (d.waits.getD i ⟨0, []⟩).at_) ∧ ∃ o, cur[i * 2 + 1]? = some (.slice (some ⟨g, o, none⟩) (d.waits.getD i ⟨0, []⟩).data.length (d.waits.getD i ⟨0, []⟩).data.length) ∧ (0 < (d.waits.getD i ⟨0, []⟩).data.length → o = posD (datD d) (d.blocks.length + i))
  wf : ∀ i, i < d.waits.length → (Lit.int .i64 (d.waits.getD i ⟨0, []⟩).at_).wf = true
  lo : B ≤ g ∧ B ≤ gb ∧ B ≤ gw
  hi : g < w.heap.size ∧ gb < w.heap.size ∧ gw < w.heap.size
  ne : g ≠ gb ∧ g ≠ gw ∧ gb ≠ gw

theorem three_new (w : World) (o1 o2 o3 : Obj) : (((w.alloc o1).alloc o2).alloc o3).heap[w.heap.size]? = some o1 ∧ (((w.alloc o1).alloc o2).alloc o3).heap[w.heap.size + 1]? = some o2 ∧ (((w.alloc o1).alloc o2).alloc o3).heap[w.heap.size + 2]? = some o3 := by
  have h := two_new w o1 o2
  refine ⟨?_, ?_, ?_⟩
  · rw [Below.heap_alloc _ o3 w.heap.size (by simp; omega)]; exact h.1
  · rw [Below.heap_alloc _ o3 (w.heap.size + 1) (by simp)]; exact h.2
  · have := World.alloc_heap_new ((w.alloc o1).alloc o2) o3
    simpa using this
end Go.Proofs.Ythealkfpflkipaa

namespace Go.Proofs.Ythealkfpflkipaa
open Go.RowKit

theorem TwinAt.bytes {B : Nat} {w : World} {gb gw g : Nat} {cur : Array Value} {d : DiskL} (h : TwinAt B w gb gw g cur d) (hT : (datD d).flatten.length ≤ 100000000) (j o : Nat) (hj : j < (datD d).length) (ho : 0 < ((datD d).getD j []).length → o = posD (datD d) j) :
    Bytes w g (g + 1) (.slice (some ⟨g, o, none⟩) ((datD d).getD j []).length ((datD d).getD j []).length) ((datD d).getD j []) ∧ Thawed w (.slice (some ⟨g, o, none⟩) ((datD d).getD j []).length ((datD d).getD j []).length) := by
  refine ⟨?_, fun b off m c he i _ => by cases he; exact h.row.frozen _⟩
  have hle : ((datD d).getD j []).length ≤ maxLen := by
    have := posD_succ (datD d) j hj
    have := posD_le (datD d) (j + 1)
    unfold maxLen
    omega
  refine ⟨_, _, rfl, Nat.le_refl _, hle, fun hp => ⟨g, o, rfl, Nat.le_refl _, Nat.lt_succ_self _, fun i x hx => ?_⟩, fun h => by cases h⟩
  rw [h.row.cell, ho hp]
  have hc := cut_laid (datD d) j hj
  rw [← hc, List.getElem?_take] at hx
  split at hx
  · rw [List.getElem?_drop] at hx
    rw [hx]; rfl
  · cases hx
theorem TwinAt.bl' {B : Nat} {w : World} {gb gw g : Nat} {cur : Array Value} {d : DiskL} (h : TwinAt B w gb gw g cur d) (hT : (datD d).flatten.length ≤ 100000000) (hn : d.blocks.length ≤ 100000) :
    Sl rBytesT w B w.heap.size (.slice (some ⟨gb, 0, none⟩) d.blocks.length d.blocks.length) d.blocks := by
  refine ⟨_, _, rfl, Nat.le_refl _, by unfold maxLen; omega, fun hp => ⟨gb, 0, rfl, h.lo.2.1, h.hi.2.1, fun i x hx => ?_⟩, fun h => by cases h⟩
  have hi : i < d.blocks.length := (List.getElem?_eq_some_iff.1 hx).1
  rw [get_l d.blocks [] i hi] at hx
  cases hx
  obtain ⟨o, h1, h2⟩ := h.bl i hi
  have hb := h.bytes hT i o (by rw [datD_length]; omega) (by rw [datD_b d i hi]; exact h2)
  rw [datD_b d i hi] at hb
  exact ⟨_, by simpa [rBytesT] using h1, hb.1.more h.lo.1 h.hi.1, hb.2⟩
theorem TwinAt.wt' {B : Nat} {w : World} {gb gw g : Nat} {cur : Array Value} {d : DiskL} (h : TwinAt B w gb gw g cur d) (hT : (datD d).flatten.length ≤ 100000000) (i : Nat) (hi : i < d.waits.length) :
    cur[i * 2]? = some (.int .i64 (d.waits.getD i ⟨0, []⟩).at_) ∧ ∃ v, cur[i * 2 + 1]? = some v ∧ Bytes w g (g + 1) v (d.waits.getD i ⟨0, []⟩).data ∧ Thawed w v := by
  obtain ⟨h0, o, h1, h2⟩ := h.wt i hi
  have hb := h.bytes hT (d.blocks.length + i) o (by rw [datD_length]; omega) (by rw [datD_w d i hi]; exact h2)
  rw [datD_w d i hi] at hb
  exact ⟨h0, _, h1, hb⟩
theorem TwinAt.disk {B : Nat} {w : World} {gb gw g : Nat} {cur : Array Value} {d : DiskL} (h : TwinAt B w gb gw g cur d) (hT : (datD d).flatten.length ≤ 100000000) (hn : d.blocks.length ≤ 100000) (hn2 : d.waits.length ≤ 100000) :
    DiskT w B w.heap.size (.slice (some ⟨gb, 0, none⟩) d.blocks.length d.blocks.length) (.slice (some ⟨gw, 0, none⟩) d.waits.length (d.waits.length + 1)) d := by
  refine ⟨h.bl' hT hn, _, _, rfl, Nat.le_succ _, by unfold maxLen; omega, fun hp => ⟨gw, 0, rfl, h.lo.2.2, h.hi.2.2, fun i x hx => ?_⟩, fun h => by cases h⟩
  have hi : i < d.waits.length := (List.getElem?_eq_some_iff.1 hx).1
  rw [get_l d.waits ⟨0, []⟩ i hi] at hx
  cases hx
  obtain ⟨h0, v, h1, h2, h3⟩ := h.wt' hT i hi
  refine ⟨?_, h.wf i hi, v, ?_, h2.more h.lo.1 h.hi.1, h3⟩
  · show w.cell? ⟨gw, 0 + i * 2 + 0, none⟩ = _
    rw [blk_cell h.wcur, Nat.zero_add, Nat.add_zero]
    exact h0
  · show w.cell? ⟨gw, 0 + i * 2 + 1, none⟩ = _
    rw [blk_cell h.wcur, Nat.zero_add]
    exact h1
end Go.Proofs.Ythealkfpflkipaa

namespace Go.Proofs.Ythealkfpflkipaa
open Go.RowKit Go.Shelf
attribute [local go_sem] Oper.semAt_some

/-- What is in cells stays. -/
def CK (W W' : World) : Prop := W.heap.size ≤ W'.heap.size ∧ ∀ a v, W.cell? a = some v → W'.cell? a = some v ∧ W'.frozen? a = W.frozen? a
theorem CK.refl (W : World) : CK W W := ⟨Nat.le_refl _, fun _ _ h => ⟨h, rfl⟩⟩
theorem CK.bytes {W W' : World} (h : CK W W') {lo hi : Nat} {v : Value} {l : List UInt8} (hb : Bytes W lo hi v l) : Bytes W' lo hi v l := by
  obtain ⟨a, c, e, h1, h2, h3, h4⟩ := hb
  refine ⟨a, c, e, h1, h2, fun hp => ?_, h4⟩
  obtain ⟨b, off, ea, hlo, hhi, hc⟩ := h3 hp
  exact ⟨b, off, ea, hlo, hhi, fun i x hx => (h.2 _ _ (hc i x hx)).1⟩
theorem CK.thawed {W W' : World} (h : CK W W') {lo hi : Nat} {v : Value} {l : List UInt8} (hb : Bytes W lo hi v l) (ht : Thawed W v) : Thawed W' v := by
  intro b off n c e i hi'
  obtain ⟨a, c', e', h1, h2, h3, h4⟩ := hb
  subst e
  cases e'
  obtain ⟨b', off', ea, hlo, hhi, hc⟩ := h3 (by omega)
  cases ea
  have := hc i (l[i]'hi') (by simp)
  exact (h.2 _ _ this).2.trans (ht _ _ _ _ rfl i hi')
end Go.Proofs.Ythealkfpflkipaa

namespace Go.Proofs.Ythealkfpflkipaa
open Go.RowKit

theorem if_yes {c : Prop} [Decidable c] {p q : Prop} (hc : c) (hp : p) : if c then p else q := by rw [if_pos hc]; exact hp
end Go.Proofs.Ythealkfpflkipaa

namespace Go.Proofs.Ythealkfpflkipaa
open Go.RowKit

theorem DiskT.keep {w w' : World} {lo hi : Nat} {b u : Value} {d : DiskL} (h : DiskT w lo hi b u d) (hk : Kp lo hi w w') : DiskT w' lo hi b u d := ⟨Sl.keep h.1 hk, Sl.keep h.2 hk⟩

end Go.Proofs.Ythealkfpflkipaa

namespace Go.Proofs.Ythealkfpflkipaa
open Go.RowKit

/-- A row of the call's own that holds writes. -/
def OwnW (base : Nat) (W w : World) (v : Value) (l : List WrL) : Prop := ∃ xs, w.ownsRow base 50 2 v l.length xs ∧ ∀ j x, l[j]? = some x → (xs[j * 2]? = some (.int .i64 x.at_) ∧ (Lit.int .i64 x.at_).wf = true) ∧ ∃ y, xs[j * 2 + 1]? = some y ∧ Bytes W 0 W.heap.size y x.data
theorem OwnW.nil_ (base : Nat) (W w : World) : OwnW base W w (.slice none 0 0) [] := ⟨[], World.ownsRow_nil _ _ _ _, fun j x h => by simp at h⟩
theorem OwnW.sl {base : Nat} {W w : World} {v : Value} {l : List WrL} (h : OwnW base W w v l) (hB : Below W.heap.size W w) : Sl rWrite w 0 w.heap.size v l := by
  obtain ⟨xs, ⟨hl, hrow⟩, hx⟩ := h
  rcases hrow with ⟨rfl, h0⟩ | ⟨g, cap, cur, rfl, hg, hh, h1, h2, h3, h4⟩
  · have : l = [] := List.eq_nil_of_length_eq_zero (by omega)
    subst this
    exact Sl.nil_ _ _ _
  · refine ⟨_, _, rfl, h1, h2, fun _ => ⟨g, 0, rfl, Nat.zero_le _, (Array.getElem?_eq_some_iff.1 hh).1, fun i x hxi => ?_⟩, fun h => by cases h⟩
    have hi : i < l.length := (List.getElem?_eq_some_iff.1 hxi).1
    obtain ⟨⟨e1, e2⟩, y, e3, e4⟩ := hx i x hxi
    have hc : ∀ j u, xs[j]? = some u → w.cell? ⟨g, j, none⟩ = some u := by
      intro j u hj
      rw [blk_cell hh, ← hj, ← h4, List.getElem?_take, if_pos]
      · simp
      · have := (List.getElem?_eq_some_iff.1 hj).1
        rw [hl] at this
        exact this
    refine ⟨?_, e2, y, ?_, (e4.below hB (Nat.le_refl _)).more (Nat.le_refl _) hB.size⟩
    · show w.cell? ⟨g, 0 + i * 2 + 0, none⟩ = _
      rw [Nat.zero_add, Nat.add_zero]
      exact hc _ _ e1
    · show w.cell? ⟨g, 0 + i * 2 + 1, none⟩ = _
      rw [Nat.zero_add]
      exact hc _ _ e3

end Go.Proofs.Ythealkfpflkipaa

namespace Go.Proofs.Ythealkfpflkipaa
open Go.RowKit

theorem ext_getD {α : Type} (l m : List α) (d : α) (hl : l.length = m.length) (h : ∀ j, j < l.length → l.getD j d = m.getD j d) : l = m := by
  apply List.ext_getElem? 
  intro j
  rcases Nat.lt_or_ge j l.length with hj | hj
  · rw [get_l l d j hj, get_l m d j (by omega), h j hj]
  · rw [List.getElem?_eq_none hj, List.getElem?_eq_none (by omega)]

end Go.Proofs.Ythealkfpflkipaa

namespace Go.Proofs.Ythealkfpflkipaa
open Go.RowKit

set_option maxRecDepth 100000 in
set_option maxHeartbeats 2000000 in
theorem eqi_any (v u : Value) (l m : List ItemL) (w : World) (hv : Sl rItem w 0 w.heap.size v l) (hu : Sl rItem w 0 w.heap.size u m) :
    Calls Try.prog 64 #[v, u, .func (.func 65) #[] #[]] w fun e w' => e = .returned (.bool (decide (l = m))) ∧ Below w.heap.size w w' := by
  have HV := Lib.hid hv
  have HU := Lib.hid hu
  obtain ⟨av, cv, rfl, g1, g2, -, -⟩ := hv
  obtain ⟨au, cu, rfl, g1', g2', -, -⟩ := hu
  unfold maxLen at g2 g2'
  obtain ⟨r, hr⟩ : ∃ r, decide (l = m) = r := ⟨_, rfl⟩
  rw [hr]
  have HR := Lib.hid hr
  clear hr
  go_enter Try.func64, Try.ntmps64
  by_cases hl : l.length = m.length
  case neg =>
    obtain rfl : r = false := by
      rw [← HR.out]
      exact decide_eq_false (fun e => hl (by rw [e]))
    have i1 : ¬ (l.length : Int) = m.length := by omega
    go_wp2
    go_ret
    exact ⟨rfl, Below.refl _ _⟩
  have i1 : ((l.length : Int) != m.length) = false := by simp; omega
  have HL := Lib.hid hl
  have hlm : l.length ≤ m.length := by omega
  clear hl
  go_wp2_with fail
  go_loopw [17] (fun i wr => ∃ k : Nat, k ≤ l.length ∧ i = .int .i64 k ∧ Below w.heap.size w wr ∧ ∀ j, j < k → l.getD j nokI = m.getD j nokI) (fun i _ => l.length - (intOf i).toNat)
  case atStart => exact ⟨0, Nat.zero_le _, rfl, Below.refl _ _, fun j hj => absurd hj (Nat.not_lt_zero _)⟩
  case round =>
  obtain ⟨k, hk, rfl, hB, hall⟩ := hrel
  by_cases hlt : k < l.length
  · obtain ⟨b1, o1, c1, e1, -, hz1, -, z3, hb1⟩ := HV.out.at_ (by omega)
    injection e1 with ea _ ec
    subst ea ec
    obtain ⟨b2, o2, c2, e2, -, hz2, -, z3', hb2⟩ := HU.out.at_ (by omega)
    injection e2 with ea _ ec
    subst ea ec
    obtain ⟨f0, f1, f2, f3, -, x, f4, hxb⟩ := hb1 k (l.getD k nokI) (get_l _ _ _ hlt)
    obtain ⟨h0, h1, h2, h3, -, y, h4, hyb⟩ := hb2 k (m.getD k nokI) (get_l _ _ _ (by omega))
    obtain ⟨X, hX⟩ : ∃ X, l.getD k nokI = X := ⟨_, rfl⟩
    obtain ⟨Y, hY⟩ : ∃ Y, m.getD k nokI = Y := ⟨_, rfl⟩
    rw [hX] at f0 f1 f2 f3 hxb
    rw [hY] at h0 h1 h2 h3 hyb
    obtain ⟨xn, hxn⟩ : ∃ xn, X.val.length = xn := ⟨_, rfl⟩
    obtain ⟨yn, hyn⟩ : ∃ yn, Y.val.length = yn := ⟨_, rfl⟩
    obtain ⟨a1, k1, rfl, -, -⟩ := hxb.form hxn
    obtain ⟨a2, k2, rfl, -, -⟩ := hyb.form hyn
    have hz1b := Nat.lt_of_lt_of_le hz1 hB.size
    have hz2b := Nat.lt_of_lt_of_le hz2 hB.size
    have hn5 : rItem.n = 5 := rfl
    rw [hn5] at f0 f1 f2 f3 f4 h0 h1 h2 h3 h4
    simp only [bV, wV, Nat.add_zero] at f0 f1 f2 f3 f4 h0 h1 h2 h3 h4
    replace f0 := (hB.cell (p := ⟨b1, o1 + k * 5, none⟩) hz1).trans f0
    replace f1 := (hB.cell (p := ⟨b1, o1 + k * 5 + 1, none⟩) hz1).trans f1
    replace f2 := (hB.cell (p := ⟨b1, o1 + k * 5 + 2, none⟩) hz1).trans f2
    replace f3 := (hB.cell (p := ⟨b1, o1 + k * 5 + 3, none⟩) hz1).trans f3
    replace f4 := (hB.cell (p := ⟨b1, o1 + k * 5 + 4, none⟩) hz1).trans f4
    replace h0 := (hB.cell (p := ⟨b2, o2 + k * 5, none⟩) hz2).trans h0
    replace h1 := (hB.cell (p := ⟨b2, o2 + k * 5 + 1, none⟩) hz2).trans h1
    replace h2 := (hB.cell (p := ⟨b2, o2 + k * 5 + 2, none⟩) hz2).trans h2
    replace h3 := (hB.cell (p := ⟨b2, o2 + k * 5 + 3, none⟩) hz2).trans h3
    replace h4 := (hB.cell (p := ⟨b2, o2 + k * 5 + 4, none⟩) hz2).trans h4
    have hkm : k < m.length := by omega
    unfold maxLen at z3 z3'
    have hxb' := hxb.below hB (Nat.le_refl _)
    have hyb' := hyb.below hB (Nat.le_refl _)
    have HP := Lib.hid (And.intro hall (And.intro hB (And.intro hxb' (And.intro hyb' (And.intro hX hY)))))
    clear hall hB hxb hyb hxb' hyb' hX hY hb1 hb2 hxn hyn hn5
    go_upto_region 7 with (fail)
    have hq := two_new wr (.cells #[.int .u8 (X.key.kind.toNat : Int), .int .u32 (X.key.id.toNat : Int), .int .u32 (X.key.off.toNat : Int), .int .i64 X.ref, .slice a1 xn k1] 85) (.cells #[.int .u8 (Y.key.kind.toNat : Int), .int .u32 (Y.key.id.toNat : Int), .int .u32 (Y.key.off.toNat : Int), .int .i64 Y.ref, .slice a2 yn k2] 85)
    have hst := ((Below.refl wr.heap.size wr).alloc (Nat.le_refl _) (.cells #[.int .u8 (X.key.kind.toNat : Int), .int .u32 (X.key.id.toNat : Int), .int .u32 (X.key.off.toNat : Int), .int .i64 X.ref, .slice a1 xn k1] 85)).alloc (by simp) (.cells #[.int .u8 (Y.key.kind.toNat : Int), .int .u32 (Y.key.id.toNat : Int), .int .u32 (Y.key.off.toNat : Int), .int .i64 Y.ref, .slice a2 yn k2] 85)
    obtain ⟨w2, hw2⟩ : ∃ w2, (wr.alloc (.cells #[.int .u8 (X.key.kind.toNat : Int), .int .u32 (X.key.id.toNat : Int), .int .u32 (X.key.off.toNat : Int), .int .i64 X.ref, .slice a1 xn k1] 85)).alloc (.cells #[.int .u8 (Y.key.kind.toNat : Int), .int .u32 (Y.key.id.toNat : Int), .int .u32 (Y.key.off.toNat : Int), .int .i64 Y.ref, .slice a2 yn k2] 85) = w2 := ⟨_, rfl⟩
    rw [hw2] at hq hst ⊢
    clear hw2 f0 f1 f2 f3 f4 h0 h1 h2 h3 h4
    have hB2 := Lib.hid (below_step HP.out.2.1 HP.out.2.1.size hst)
    have hX2 := Lib.hid (((HP.out.2.2.1.below hst HP.out.2.1.size)).more (Nat.le_refl 0) (hB2.out.size))
    have hY2 := Lib.hid (((HP.out.2.2.2.1.below hst HP.out.2.1.size)).more (Nat.le_refl 0) (hB2.out.size))
    clear hst
    generalize wr.heap.size = gx at *
    have x0 := blk_cell hq.1 0
    have x1 := blk_cell hq.1 1
    have x2 := blk_cell hq.1 2
    have x3 := blk_cell hq.1 3
    have x4 := blk_cell hq.1 4
    have y0 := blk_cell hq.2 0
    have y1 := blk_cell hq.2 1
    have y2 := blk_cell hq.2 2
    have y3 := blk_cell hq.2 3
    have y4 := blk_cell hq.2 4
    simp at x0 x1 x2 x3 x4 y0 y1 y2 y3 y4
    have ks := isame_any X Y (.slice a1 xn k1) (.slice a2 yn k2) w2 hX2.out hY2.out
    simp only [itemV, bV, wV] at ks
    have KS := Lib.hid ks
    clear ks
    go_wp2_with fail
    refine KS.out.mono ?_
    rintro e w3 ⟨rfl, hst3⟩
    have hfin := below_step hB2.out hB2.out.size hst3
    clear hst3 x0 x1 x2 x3 x4 y0 y1 y2 y3 y4
    by_cases he : X = Y
    · rw [decide_eq_true he]
      have HE := Lib.hid (show l.getD k nokI = m.getD k nokI by rw [HP.out.2.2.2.2.1, HP.out.2.2.2.2.2, he])
      clear he
      go_wp2
      go_roundw
      case rel => exact ⟨k + 1, by omega, by go_num, hfin, fun j hj => by
        rcases Nat.lt_succ_iff_lt_or_eq.1 hj with hj | rfl
        · exact HP.out.1 j hj
        · exact HE.out⟩
      case measure => simp [intOf]; omega
    · rw [decide_eq_false he]
      obtain rfl : r = false := by
        rw [← HR.out]
        exact decide_eq_false (fun e => he (by rw [← HP.out.2.2.2.2.1, ← HP.out.2.2.2.2.2, e]))
      clear he
      go_wp2
      go_ret
      exact ⟨rfl, hfin⟩
  obtain rfl : k = l.length := by omega
  obtain rfl : r = true := by
    rw [← HR.out]
    exact decide_eq_true (ext_getD l m nokI HL.out hall)
  clear hall
  go_wp2
  go_ret
  exact ⟨rfl, hB⟩

set_option maxRecDepth 100000 in
set_option maxHeartbeats 2000000 in
/-- node.Same. -/
theorem nsame_any (n m : NodeL) (v u : Value) (w : World) (h : Sl rItem w 0 w.heap.size v n.items) (h' : Sl rItem w 0 w.heap.size u m.items) :
    Calls Try.prog 32 #[.agg #[.int .i64 n.level, v], .agg #[.int .i64 m.level, u]] w fun e w' => e = .returned (.bool (decide (n = m))) ∧ Below w.heap.size w w' := by
  have hst := ((Below.refl w.heap.size w).alloc (Nat.le_refl _) (.cells #[.int .i64 n.level, v] 54)).alloc (by simp) (.cells #[.int .i64 m.level, u] 54)
  have hq := two_new w (.cells #[.int .i64 n.level, v] 54) (.cells #[.int .i64 m.level, u] 54)
  have k1 := eqi_any v u n.items m.items _ (h.step hst) (h'.step hst)
  obtain ⟨av, cv, rfl, g1, g2, -, -⟩ := h
  obtain ⟨au, cu, rfl, g1', g2', -, -⟩ := h'
  obtain ⟨V, hV⟩ : ∃ V, (w.alloc (.cells #[.int .i64 n.level, .slice av n.items.length cv] 54)).alloc (.cells #[.int .i64 m.level, .slice au m.items.length cu] 54) = V := ⟨_, rfl⟩
  rw [hV] at hst hq k1
  have c0 := blk_cell hq.1 0
  have c1 := blk_cell hq.1 1
  have c2 := blk_cell hq.2 0
  have c3 := blk_cell hq.2 1
  simp at c0 c1 c2 c3
  have hnm : decide (n = m) = (decide (n.level = m.level) && decide (n.items = m.items)) := by
    cases n
    cases m
    simp [Bool.decide_and]
  rw [hnm]
  have K1 := Lib.hid k1
  obtain ⟨bi, hbi⟩ : ∃ bi, decide (n.items = m.items) = bi := ⟨_, rfl⟩
  rw [hbi] at K1 ⊢
  clear k1 hbi hq hnm
  have HB := Lib.hid hst
  clear hst
  by_cases hl : n.level = m.level
  · have e1 : (n.level == m.level) = true := by simp [hl]
    rw [decide_eq_true hl]
    clear hl
    go_enter Try.func32, Try.ntmps32
    go_wp2_with fail
    refine K1.out.mono ?_
    rintro e w1 ⟨rfl, hst⟩
    go_wp2
    go_ret
    exact ⟨by simp, below_step HB.out HB.out.size hst⟩
  · have e1 : (n.level == m.level) = false := by simp [hl]
    rw [decide_eq_false hl]
    clear hl
    go_enter Try.func32, Try.ntmps32
    go_wp2
    go_ret
    exact ⟨by simp, HB.out⟩
end Go.Proofs.Ythealkfpflkipaa

namespace Go.Proofs.Ythealkfpflkipaa

def half (s : BitVec 32) : BitVec 32 := (s >>> 1) ^^^ (if s.getLsbD 0 then 0xedb88320#32 else 0#32)
def halves : Nat → BitVec 32 → BitVec 32
  | 0, s => s
  | n + 1, s => half (halves n s)
theorem halves_add (s : BitVec 32) (n : Nat) : ∀ m, halves (n + m) s = halves m (halves n s)
  | 0 => rfl
  | m + 1 => by rw [← Nat.add_assoc, halves, halves_add s n m, halves]

theorem half_xor (a b : BitVec 32) : half (a ^^^ b) = half a ^^^ half b := by
  unfold half
  rw [BitVec.ushiftRight_xor_distrib, BitVec.getLsbD_xor]
  cases ha : a.getLsbD 0 <;> cases hb : b.getLsbD 0
  · simp
  · simp [BitVec.xor_assoc]
  · simp only [Bool.xor_false, if_true, if_false, Bool.false_eq_true, BitVec.xor_zero]
    ac_rfl
  · simp only [Bool.xor_true, Bool.not_true, if_true, if_false, Bool.false_eq_true, BitVec.xor_zero]
    have e : (a >>> 1 ^^^ 3988292384#32) ^^^ (b >>> 1 ^^^ 3988292384#32) = a >>> 1 ^^^ b >>> 1 ^^^ (3988292384#32 ^^^ 3988292384#32) := by ac_rfl
    rw [e]; simp
theorem halves_xor (a b : BitVec 32) : ∀ n, halves n (a ^^^ b) = halves n a ^^^ halves n b
  | 0 => rfl
  | n + 1 => by rw [halves, halves_xor a b n, half_xor]; rfl
/-- What is even is only moved. -/
theorem halves_even (s : BitVec 32) : ∀ n, (∀ i, i < n → s.getLsbD i = false) → halves n s = s >>> n
  | 0, _ => by simp [halves]
  | n + 1, h => by
    rw [halves, halves_even s n (fun i hi => h i (by omega)), half]
    have h0 : (s >>> n).getLsbD 0 = false := by rw [BitVec.getLsbD_ushiftRight]; simpa using h n (by omega)
    rw [h0]
    simp [BitVec.shiftRight_add]
/-- A table of four bits serves. -/
theorem halves_four (s : BitVec 32) : halves 4 s = (s >>> 4) ^^^ halves 4 (s &&& 15#32) := by
  have e : s = (s &&& 0xfffffff0#32) ^^^ (s &&& 15#32) := by
    apply BitVec.eq_of_getLsbD_eq
    intro i hi
    rw [BitVec.getLsbD_xor, BitVec.getLsbD_and, BitVec.getLsbD_and]
    have hk : ∀ k : Fin 32, ((0xfffffff0#32).getLsbD k.val ^^ (15#32).getLsbD k.val) = true := by decide
    have := hk ⟨i, hi⟩
    cases h1 : (0xfffffff0#32).getLsbD i <;> cases h2 : (15#32).getLsbD i <;> simp_all
  have h1 : halves 4 (s &&& 0xfffffff0#32) = (s &&& 0xfffffff0#32) >>> 4 := by
    apply halves_even
    intro i hi
    rw [BitVec.getLsbD_and]
    have : (0xfffffff0#32).getLsbD i = false := by
      match i, hi with
      | 0, _ => decide
      | 1, _ => decide
      | 2, _ => decide
      | 3, _ => decide
    rw [this]; simp
  have h2 : (s &&& 0xfffffff0#32) >>> 4 = s >>> 4 := by
    apply BitVec.eq_of_getLsbD_eq
    intro i hi
    rw [BitVec.getLsbD_ushiftRight, BitVec.getLsbD_ushiftRight, BitVec.getLsbD_and]
    by_cases h : 4 + i < 32
    · have : (0xfffffff0#32).getLsbD (4 + i) = true := by
        have hk : ∀ k : Fin 28, (0xfffffff0#32).getLsbD (4 + k.val) = true := by decide
        exact hk ⟨i, by omega⟩
      rw [this]; simp
    · rw [BitVec.getLsbD_of_ge s (4 + i) (by omega)]; simp
  conv => lhs; rw [e, halves_xor, h1, h2]

def b32 (x : UInt8) : BitVec 32 := BitVec.ofNat 32 x.toNat
def stepB (s : BitVec 32) (x : UInt8) : BitVec 32 := halves 8 (s ^^^ b32 x)
def crcS (s : BitVec 32) (l : List UInt8) : BitVec 32 := l.foldl stepB s
def crc (l : List UInt8) : BitVec 32 := ~~~ (crcS (BitVec.allOnes 32) l)
theorem crcS_append (s : BitVec 32) (a b : List UInt8) : crcS s (a ++ b) = crcS (crcS s a) b := by simp [crcS]
theorem stepB_four (s : BitVec 32) (x : UInt8) : stepB s x = halves 4 (halves 4 (s ^^^ b32 x)) := halves_add _ 4 4
open Go in
theorem xor_u32 (a b : BitVec 32) : bits .xor .u32 (a.toNat : Int) (b.toNat : Int) = ((a ^^^ b).toNat : Int) := by
  simp only [bits, IntKind.bits]
  rw [BitVec.ofInt_natCast, BitVec.ofInt_natCast, BitVec.ofNat_toNat, BitVec.ofNat_toNat]
  simp only [BitVec.setWidth_eq]
  rw [IntKind.wrap_u32]
  have := (a ^^^ b).isLt
  show ((a ^^^ b).toNat : Int) % 4294967296 = _
  omega
open Go in
theorem and_u32 (a b : BitVec 32) : bits .and .u32 (a.toNat : Int) (b.toNat : Int) = ((a &&& b).toNat : Int) := by
  simp only [bits, IntKind.bits]
  rw [BitVec.ofInt_natCast, BitVec.ofInt_natCast, BitVec.ofNat_toNat, BitVec.ofNat_toNat]
  simp only [BitVec.setWidth_eq]
  rw [IntKind.wrap_u32]
  have := (a &&& b).isLt
  show ((a &&& b).toNat : Int) % 4294967296 = _
  omega
theorem b32_nat (x : UInt8) : (b32 x).toNat = x.toNat := by
  have := x.toNat_lt
  simp only [b32, BitVec.toNat_ofNat]
  omega
theorem shr_nat (a : BitVec 32) (n : Nat) : (a >>> n).toNat = a.toNat / 2 ^ n := by rw [BitVec.toNat_ushiftRight, Nat.shiftRight_eq_div_pow]
end Go.Proofs.Ythealkfpflkipaa

