/- NodeFound: the words and contracts, part 18. -/
import Derived.Test.YtfdogefoodljaaaNodeFoundQ1
import Derived.Test.YtfdogefoodljaaaNodeFoundQ2
import Derived.Test.YtfdogefoodljaaaNodeFoundQ3
import Derived.Test.YtfdogefoodljaaaNodeFoundQ4
import Derived.Test.YtfdogefoodljaaaNodeFoundQ5
import Derived.Test.YtfdogefoodljaaaNodeFoundQ6
import Derived.Test.YtfdogefoodljaaaNodeFoundQ7
import Derived.Test.YtfdogefoodljaaaNodeFoundQ8
import Derived.Test.YtfdogefoodljaaaNodeFoundQ9
import Derived.Test.YtfdogefoodljaaaNodeFoundQ10
import Derived.Test.YtfdogefoodljaaaNodeFoundQ11
import Derived.Test.YtfdogefoodljaaaNodeFoundQ12
import Derived.Test.YtfdogefoodljaaaNodeFoundQ13
import Derived.WalkKit
import Derived.WalkLawsBesides
import Derived.WalkSpells
import Derived.Lib.Hide
import Derived.Laws.Rows
import Derived.Laws.AppendOwnNone
import Derived.Maps.AppendAt
import Derived.ProofKit
import Derived.Deep.Slices
import Derived.WideShapes
import Derived.RangeFuncNested
import Derived.RangeFuncBound
import Derived.RangeFuncCalls
import Derived.RangeFuncLeaves
import Derived.RangeFuncBox
import Derived.Shelf.Abstract
import Derived.Shelf.RegionOpen
import Derived.OwnWalkIn
import Derived.TacticsInMore
import Derived.LoopNIn
import Derived.LoopIn
import Derived.Lib.AppendZerosOnto
import Derived.Lib.SliceRun
import Derived.Lib.Walk
import Derived.Deep.LoopGhost
import Derived.Laws.CopyOwn
import Derived.Laws.CopyRow
import Derived.OrdersHeld
import Derived.Deep.QuietTactic
import Derived.BigQuiet
import Derived.StillTailTactics
import Derived.OpenShut
import Derived.Deep.DeepCutAuto
import Derived.Deep.RegionHeld
import Derived.Laws.MakeOwn
import Derived.KernelRfl
namespace Go.Proofs.Ytfdogefoodljaaa

theorem cnt_sorted (K : KeyL) : ∀ (l : List ItemL), l.Pairwise (fun x y => lessK x.key y.key = true) → ∀ i, i < l.length → lessK (l.getD i nokI).key K = decide (i < cntN l K)
  | [], _, i, hi => by cases hi
  | a :: l, hp, i, hi => by
    obtain ⟨h1, h2⟩ := List.pairwise_cons.1 hp
    have ih := cnt_sorted K l h2
    unfold cntN at ih ⊢
    cases ha : lessK a.key K with
    | true =>
      rw [List.filter_cons_of_pos (by simpa using ha), List.length_cons]
      cases i with
      | zero => simp [ha]
      | succ i =>
        have := ih i (by simpa using hi)
        simp only [List.getD_cons_succ]
        rw [this]
        simp
    | false =>
      have hall : ∀ x ∈ l, lessK x.key K = false := fun x hx => by
        cases hx2 : lessK x.key K with
        | false => rfl
        | true => rw [lessK_trans (h1 x hx) hx2] at ha; cases ha
      have he : (a :: l).filter (fun x => lessK x.key K) = [] := by
        rw [List.filter_eq_nil_iff]
        intro x hx
        rcases List.mem_cons.1 hx with rfl | hx
        · simp [ha]
        · simp [hall x hx]
      rw [he]
      cases i with
      | zero => simp [ha]
      | succ i =>
        simp only [List.getD_cons_succ]
        have hm : l.getD i nokI ∈ l := by
          have hi2 : i < l.length := by simpa using hi
          rw [List.getD_eq_getElem?_getD, List.getElem?_eq_getElem hi2]
          exact List.getElem_mem hi2
        rw [hall _ hm]
        simp
theorem pair_of : ∀ (l : List ItemL), (∀ i, i + 1 < l.length → lessK (l.getD i nokI).key (l.getD (i + 1) nokI).key = true) → l.Pairwise (fun x y => lessK x.key y.key = true)
  | [], _ => List.Pairwise.nil
  | [a], _ => by simp
  | a :: b :: l, h => by
    have ih := pair_of (b :: l) (fun i hi => by have := h (i + 1) (by simpa using hi); simpa using this)
    refine List.pairwise_cons.2 ⟨fun y hy => ?_, ih⟩
    have h0 : lessK a.key b.key = true := by have := h 0 (by simp); simpa using this
    rcases List.mem_cons.1 hy with rfl | hy
    · exact h0
    · exact lessK_trans h0 ((List.pairwise_cons.1 ih).1 y hy)
theorem mayN_pair {n : NodeL} (h : mayN n = true) : n.items.Pairwise (fun x y => lessK x.key y.key = true) := by
  refine pair_of _ fun i hi => ?_
  have := (mayN_all h).2.2.2 (i + 1) hi
  unfold stepN at this
  simp only [Bool.and_eq_true, Bool.or_eq_true, Nat.add_sub_cancel] at this
  rcases this.1.2 with h1 | h1
  · simp at h1
  · exact h1
theorem mayN_cnt {n : NodeL} (h : mayN n = true) (K : KeyL) {i : Nat} (hi : i < n.items.length) : lessK (n.items.getD i nokI).key K = decide (i < cntN n.items K) := cnt_sorted K _ (mayN_pair h) i hi
theorem pair_get {l : List ItemL} (h : l.Pairwise (fun x y => lessK x.key y.key = true)) {i j : Nat} (hij : i < j) (hj : j < l.length) : lessK (l.getD i nokI).key (l.getD j nokI).key = true := by
  have := List.pairwise_iff_getElem.1 h i j (by omega) hj hij
  rw [List.getD_eq_getElem?_getD, List.getD_eq_getElem?_getD, List.getElem?_eq_getElem hj, List.getElem?_eq_getElem (Nat.lt_trans hij hj)]
  exact this
theorem cnt_own {n : NodeL} (h : mayN n = true) {j : Nat} (hj : j < n.items.length) : cntN n.items (n.items.getD j nokI).key = j := by
  have h1 := mayN_cnt h (n.items.getD j nokI).key hj
  rw [lessK_self] at h1
  have h2 : ¬ j < cntN n.items (n.items.getD j nokI).key := by simpa using h1.symm
  rcases Nat.eq_zero_or_pos j with rfl | hp
  · omega
  · have h3 := mayN_cnt h (n.items.getD j nokI).key (i := j - 1) (by omega)
    rw [pair_get (mayN_pair h) (by omega) hj] at h3
    have h4 : j - 1 < cntN n.items (n.items.getD j nokI).key := by simpa using h3.symm
    omega
theorem is_own {n : NodeL} (h : mayN n = true) {j : Nat} (hj : j < n.items.length) : isN n.items (n.items.getD j nokI).key = true := by
  unfold isN
  rw [cnt_own h hj]
  simp [hj]
/-- Has one of the first j items the key? -/
def thN (l : List ItemL) (a : KeyL) (j : Nat) : Bool := (l.take j).any fun x => decide (x.key = a)
theorem thN_succ (l : List ItemL) (a : KeyL) (j : Nat) (h : j < l.length) : thN l a (j + 1) = (thN l a j || decide ((l.getD j nokI).key = a)) := by
  unfold thN
  rw [List.take_succ_eq_append_getElem h, List.any_append]
  simp [h]
theorem thN_all {n : NodeL} (h : mayN n = true) (a : KeyL) : thN n.items a n.items.length = isN n.items a := by
  unfold thN
  rw [List.take_length]
  rw [Bool.eq_iff_iff]
  constructor
  · intro h1
    obtain ⟨x, hx, h2⟩ := List.any_eq_true.1 h1
    obtain ⟨i, hi, rfl⟩ := mem_getD (d := nokI) hx
    rw [← of_decide_eq_true h2]
    exact is_own h hi
  · intro h1
    unfold isN at h1
    rw [Bool.and_eq_true, decide_eq_true_eq] at h1
    refine List.any_eq_true.2 ⟨n.items.getD (cntN n.items a) nokI, ?_, h1.2⟩
    rw [List.getD_eq_getElem?_getD, List.getElem?_eq_getElem h1.1]
    exact List.getElem_mem h1.1
theorem cnt_mono (l : List ItemL) {a b : KeyL} (h : lessK a b = true) : cntN l a ≤ cntN l b := by
  unfold cntN
  induction l with
  | nil => exact Nat.le_refl _
  | cons x l ih =>
    cases h1 : lessK x.key a with
    | true =>
      rw [List.filter_cons_of_pos (by simpa using h1), List.filter_cons_of_pos (by simpa using lessK_trans h1 h)]
      simpa using ih
    | false =>
      rw [List.filter_cons_of_neg (by simp [h1])]
      refine Nat.le_trans ih ?_
      rw [List.filter_cons]
      split
      · simp
      · exact Nat.le_refl _
end Go.Proofs.Ytfdogefoodljaaa

