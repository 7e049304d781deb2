/- FindAll: the words and contracts, part 12. -/
import Derived.Test.YtcibihakjcenaaaFindAllQ1
import Derived.Test.YtcibihakjcenaaaFindAllQ2
import Derived.Test.YtcibihakjcenaaaFindAllQ3
import Derived.Test.YtcibihakjcenaaaFindAllQ4
import Derived.Test.YtcibihakjcenaaaFindAllQ5
import Derived.Test.YtcibihakjcenaaaFindAllQ6
import Derived.Test.YtcibihakjcenaaaFindAllQ7
import Derived.Test.YtcibihakjcenaaaFindAllQ8
import Derived.Test.YtcibihakjcenaaaFindAllQ9
import Derived.Test.YtcibihakjcenaaaFindAllQ10
import Derived.Test.YtcibihakjcenaaaFindAllQ11
import Derived.WalkKit
import Derived.WalkLawsBesides
import Derived.WalkSpells
import Derived.Lib.Hide
import Derived.Laws.Rows
import Derived.Laws.AppendOwnNone
import Derived.Maps.AppendAt
import Derived.ProofKit
import Derived.Deep.Slices
import Derived.WideShapes
import Derived.RangeFuncNested
import Derived.RangeFuncBound
import Derived.RangeFuncCalls
import Derived.RangeFuncLeaves
import Derived.RangeFuncBox
import Derived.Shelf.Abstract
import Derived.Shelf.RegionOpen
import Derived.OwnWalkIn
import Derived.TacticsInMore
import Derived.LoopNIn
import Derived.LoopIn
import Derived.Lib.AppendZerosOnto
import Derived.Lib.SliceRun
import Derived.Lib.Walk
import Derived.Deep.LoopGhost
import Derived.Laws.CopyOwn
import Derived.Laws.CopyRow
import Derived.OrdersHeld
import Derived.Deep.QuietTactic
import Derived.BigQuiet
import Derived.StillTailTactics
import Derived.OpenShut
import Derived.Deep.DeepCutAuto
import Derived.Laws.MakeOwn
import Derived.Deep.RegionHeld
import Derived.KernelRfl
import Derived.BigFrameIn
import Derived.OrdersIn
namespace Go.Proofs.Ytcibihakjcenaaa
open Go.RowKit

/-- A key lies above what came ahead. -/
def accOk (acc : Option (KeyL × KeyL)) (k : KeyL) : Bool := match acc with | none => true | some la => lessK la.2 k
/-- A node's items, gone through: the first key and the last one; none: it may not be in a tree. -/
def wkGo (f : ItemL → Option (KeyL × KeyL)) : Option (KeyL × KeyL) → List ItemL → Option (KeyL × KeyL)
  | acc, [] => acc
  | acc, x :: l => match f x with
    | none => none
    | some ab => if ab.1 = x.key ∧ accOk acc ab.1 = true then wkGo f (some ((acc.getD ab).1, ab.2)) l else none
/-- An item of a node of a level: the first key, and the last one, of what it refers to. -/
def oneW (s : StoreL) : Nat → ItemL → Option (KeyL × KeyL)
  | 0, x => if x.ref = 0 ∨ s.now.getD x.ref.toNat 0 ≠ 0 then some (x.key, x.key) else none
  | l + 1, x => if errBn s x.ref.toNat = 0 ∧ (nodeB s x.ref.toNat).level = (l : Int) ∧ (nodeB s x.ref.toNat).items ≠ [] then wkGo (oneW s l) none (nodeB s x.ref.toNat).items else none
/-- The items of the leaves below items of a level. -/
def allW (s : StoreL) : Nat → List ItemL → List ItemL
  | 0, its => its
  | l + 1, its => (its.map fun x => allW s l (nodeB s x.ref.toNat).items).flatten
/-- The item of a key. -/
def fndW (s : StoreL) : Nat → NodeL → KeyL → Option ItemL
  | 0, n, k => if isN n.items k then some (n.items.getD (cntN n.items k) nokI) else none
  | l + 1, n, k => if isN n.items k then fndW s l (nodeB s (n.items.getD (cntN n.items k) nokI).ref.toNat) k
    else if cntN n.items k = 0 then none else fndW s l (nodeB s (n.items.getD (cntN n.items k - 1) nokI).ref.toNat) k
def Ris (L : List ItemL) : Prop := L.Pairwise fun x y => lessK x.key y.key = true
/-- Items that rise, from a key up to another one. -/
structure From (L : List ItemL) (a b : KeyL) : Prop where
  ris : Ris L
  first : ∃ x r, L = x :: r ∧ x.key = a
  last : ∃ r x, L = r ++ [x] ∧ x.key = b
theorem From.lo {L : List ItemL} {a b : KeyL} (h : From L a b) : ∀ x ∈ L, x.key = a ∨ lessK a x.key = true := by
  obtain ⟨x, r, rfl, e⟩ := h.first
  intro y hy
  rcases List.mem_cons.1 hy with rfl | hy
  · exact .inl e
  · exact .inr (e ▸ (List.pairwise_cons.1 h.ris).1 y hy)
theorem From.hi {L : List ItemL} {a b : KeyL} (h : From L a b) : ∀ x ∈ L, x.key = b ∨ lessK x.key b = true := by
  obtain ⟨r, x, rfl, e⟩ := h.last
  intro y hy
  rcases List.mem_append.1 hy with hy | hy
  · exact .inr (e ▸ (List.pairwise_append.1 h.ris).2.2 y hy x (List.mem_singleton.2 rfl))
  · rw [List.mem_singleton.1 hy]; exact .inl e
theorem From.app {L M : List ItemL} {a b c d : KeyL} (h : From L a b) (k : From M c d) (hl : lessK b c = true) : From (L ++ M) a d := by
  refine ⟨List.pairwise_append.2 ⟨h.ris, k.ris, fun x hx y hy => ?_⟩, ?_, ?_⟩
  · have h1 : lessK x.key c = true := by
      rcases h.hi x hx with e | e
      · rw [e]; exact hl
      · exact lessK_trans e hl
    rcases k.lo y hy with e | e
    · rw [e]; exact h1
    · exact lessK_trans h1 e
  · obtain ⟨x, r, rfl, e⟩ := h.first
    exact ⟨x, r ++ M, rfl, e⟩
  · obtain ⟨r, x, rfl, e⟩ := k.last
    exact ⟨L ++ r, x, by rw [List.append_assoc], e⟩
/-- The parts of a node's items: each rises from its own key, and all behind one another. -/
theorem wkGo_is (f : ItemL → Option (KeyL × KeyL)) (g : ItemL → List ItemL) (hf : ∀ x a b, f x = some (a, b) → From (g x) a b) :
    ∀ (its : List ItemL) (acc : Option (KeyL × KeyL)) (P : List ItemL) (r : KeyL × KeyL), (∀ ab, acc = some ab → From P ab.1 ab.2) → (acc = none → P = []) → wkGo f acc its = some r →
      (P ++ (its.map g).flatten = [] ∨ From (P ++ (its.map g).flatten) r.1 r.2) ∧ ∀ x ∈ its, ∃ b, From (g x) x.key b
  | [], acc, P, r, h1, _, h => by
    rw [wkGo] at h
    refine ⟨.inr ?_, fun x hx => by cases hx⟩
    simpa using h1 r h
  | x :: l, acc, P, r, h1, h2, h => by
    rw [wkGo] at h
    cases hx : f x with
    | none => rw [hx] at h; cases h
    | some ab =>
      rw [hx] at h
      dsimp only at h
      by_cases hc : ab.1 = x.key ∧ accOk acc ab.1 = true
      case neg => rw [if_neg hc] at h; cases h
      rw [if_pos hc] at h
      have hg := hf x ab.1 ab.2 hx
      have hP : From (P ++ g x) (acc.getD ab).1 ab.2 := by
        cases acc with
        | none => rw [h2 rfl, List.nil_append]; exact hg
        | some la => exact (h1 la rfl).app hg hc.2
      obtain ⟨i1, i2⟩ := wkGo_is f g hf l _ (P ++ g x) r (fun ab' e => by cases e; exact hP) (fun e => by cases e) h
      rw [List.map_cons, List.flatten_cons, ← List.append_assoc]
      refine ⟨i1, fun y hy => ?_⟩
      rcases List.mem_cons.1 hy with rfl | hy
      · exact ⟨ab.2, hc.1 ▸ hg⟩
      · exact i2 y hy
theorem nodeB_may {s : StoreL} {p : Nat} (h : errBn s p = 0) : mayN (nodeB s p) = true := by
  unfold nodeB
  rw [if_pos h]
  unfold errBn at h
  split at h
  · cases h
  · split at h
    · rename_i h2; exact (back2 h2).1
    · cases h
/-- What an item of a node of a level refers to. -/
def partW (s : StoreL) : Nat → ItemL → List ItemL
  | 0, x => [x]
  | l + 1, x => allW s l (nodeB s x.ref.toNat).items
theorem allW_parts (s : StoreL) (l : Nat) (its : List ItemL) : allW s l its = (its.map (partW s l)).flatten := by
  cases l with
  | zero =>
    induction its with
    | nil => rfl
    | cons a L ih =>
      rw [List.map_cons, List.flatten_cons, ← ih]
      rfl
  | succ l => rfl
/-- What an item refers to rises. -/
theorem oneW_from (s : StoreL) : ∀ (l : Nat) (x : ItemL) (a b : KeyL), oneW s l x = some (a, b) → From (partW s l x) a b
  | 0, x, a, b, h => by
    rw [oneW] at h
    split at h
    · cases h
      exact ⟨List.pairwise_singleton _ _, ⟨x, [], rfl, rfl⟩, ⟨[], x, rfl, rfl⟩⟩
    · cases h
  | l + 1, x, a, b, h => by
    rw [oneW] at h
    by_cases hc : errBn s x.ref.toNat = 0 ∧ (nodeB s x.ref.toNat).level = (l : Int) ∧ (nodeB s x.ref.toNat).items ≠ []
    case neg => rw [if_neg hc] at h; cases h
    rw [if_pos hc] at h
    obtain ⟨i, i2⟩ := wkGo_is (oneW s l) (partW s l) (fun y c d hy => oneW_from s l y c d hy) _ none [] (a, b) (fun ab e => by cases e) (fun _ => rfl) h
    show From (allW s l (nodeB s x.ref.toNat).items) a b
    rw [allW_parts]
    rw [List.nil_append] at i
    rcases i with i | i
    · exfalso
      cases hi : (nodeB s x.ref.toNat).items with
      | nil => exact hc.2.2 hi
      | cons y r =>
        rw [hi] at i i2
        obtain ⟨c, hf⟩ := i2 y (List.mem_cons_self ..)
        obtain ⟨z, r2, hz, -⟩ := hf.first
        rw [List.map_cons, List.flatten_cons] at i
        have := (List.append_eq_nil_iff.1 i).1
        rw [hz] at this
        cases this
    · exact i
/-- A tree's top: its items rise, and each part begins with its own key. -/
theorem top_from {s : StoreL} {l : Nat} {its : List ItemL} {r : KeyL × KeyL} (h : wkGo (oneW s l) none its = some r) : (allW s l its = [] ∨ From (allW s l its) r.1 r.2) ∧ ∀ x ∈ its, ∃ b, From (partW s l x) x.key b := by
  obtain ⟨i, i2⟩ := wkGo_is (oneW s l) (partW s l) (fun y c d hy => oneW_from s l y c d hy) _ none [] r (fun ab e => by cases e) (fun _ => rfl) h
  rw [allW_parts]
  exact ⟨i, i2⟩
/-- Each item of a node above that may be in a tree refers to a node that may be in one. -/
theorem wkGo_each (f : ItemL → Option (KeyL × KeyL)) : ∀ (its : List ItemL) (acc : Option (KeyL × KeyL)) (r : KeyL × KeyL), wkGo f acc its = some r → ∀ x ∈ its, ∃ ab, f x = some ab
  | [], _, _, _, _, hx => by cases hx
  | y :: l, acc, r, h, x, hx => by
    rw [wkGo] at h
    cases hy : f y with
    | none => rw [hy] at h; cases h
    | some ab =>
      rw [hy] at h
      dsimp only at h
      by_cases hc : ab.1 = y.key ∧ accOk acc ab.1 = true
      case neg => rw [if_neg hc] at h; cases h
      rw [if_pos hc] at h
      rcases List.mem_cons.1 hx with rfl | hx
      · exact ⟨ab, hy⟩
      · exact wkGo_each f l _ r h x hx
theorem oneW_succ {s : StoreL} {l : Nat} {x : ItemL} {ab : KeyL × KeyL} (h : oneW s (l + 1) x = some ab) : errBn s x.ref.toNat = 0 ∧ (nodeB s x.ref.toNat).level = (l : Int) ∧ (nodeB s x.ref.toNat).items ≠ [] ∧ wkGo (oneW s l) none (nodeB s x.ref.toNat).items = some ab := by
  rw [oneW] at h
  by_cases hc : errBn s x.ref.toNat = 0 ∧ (nodeB s x.ref.toNat).level = (l : Int) ∧ (nodeB s x.ref.toNat).items ≠ []
  · rw [if_pos hc] at h; exact ⟨hc.1, hc.2.1, hc.2.2, h⟩
  · rw [if_neg hc] at h; cases h
/-- What is found is one of the items below, and has the key. -/
theorem fndW_mem (s : StoreL) : ∀ (l : Nat) (n : NodeL) (k : KeyL) (y : ItemL), fndW s l n k = some y → y ∈ allW s l n.items ∧ y.key = k
  | 0, n, k, y, h => by
    rw [fndW] at h
    by_cases hi : isN n.items k = true
    case neg => rw [if_neg hi] at h; cases h
    rw [if_pos hi] at h
    cases h
    unfold isN at hi
    rw [Bool.and_eq_true, decide_eq_true_eq, decide_eq_true_eq] at hi
    refine ⟨?_, hi.2⟩
    rw [allW, List.getD_eq_getElem?_getD, List.getElem?_eq_getElem hi.1]
    exact List.getElem_mem hi.1
  | l + 1, n, k, y, h => by
    have key : ∀ j, j < n.items.length → fndW s l (nodeB s (n.items.getD j nokI).ref.toNat) k = some y → y ∈ allW s (l + 1) n.items ∧ y.key = k := fun j hj h => by
      obtain ⟨h1, h2⟩ := fndW_mem s l _ k y h
      refine ⟨?_, h2⟩
      rw [allW]
      refine List.mem_flatten.2 ⟨_, List.mem_map.2 ⟨n.items.getD j nokI, ?_, rfl⟩, h1⟩
      rw [List.getD_eq_getElem?_getD, List.getElem?_eq_getElem hj]
      exact List.getElem_mem hj
    rw [fndW] at h
    by_cases hi : isN n.items k = true
    · rw [if_pos hi] at h
      unfold isN at hi
      rw [Bool.and_eq_true, decide_eq_true_eq] at hi
      exact key _ hi.1 h
    · rw [if_neg hi] at h
      by_cases h0 : cntN n.items k = 0
      · rw [if_pos h0] at h; cases h
      · rw [if_neg h0] at h
        exact key _ (by have := cntN_le n.items k; omega) h
/-- Each item below is found by its own key. -/
theorem fndW_own (s : StoreL) : ∀ (l : Nat) (n : NodeL) (r : KeyL × KeyL) (y : ItemL), mayN n = true → wkGo (oneW s l) none n.items = some r → y ∈ allW s l n.items → fndW s l n y.key = some y
  | 0, n, r, y, hm, _, hy => by
    rw [allW] at hy
    obtain ⟨i, hi, rfl⟩ := mem_getD (d := nokI) hy
    rw [fndW, if_pos (is_own hm hi), cnt_own hm hi]
  | l + 1, n, r, y, hm, hw, hy => by
    obtain ⟨hall, hpart⟩ := top_from hw
    have hy0 := hy
    rw [allW] at hy
    obtain ⟨L, hL, hyL⟩ := List.mem_flatten.1 hy
    obtain ⟨x, hx, rfl⟩ := List.mem_map.1 hL
    obtain ⟨j, hj, rfl⟩ := mem_getD (d := nokI) hx
    obtain ⟨ab, ho⟩ := wkGo_each _ _ _ _ hw _ hx
    obtain ⟨e1, -, -, e4⟩ := oneW_succ ho
    have ih := fndW_own s l _ ab y (nodeB_may e1) e4 hyL
    obtain ⟨b, hf⟩ := hpart _ hx
    have hyP : y ∈ partW s (l + 1) (n.items.getD j nokI) := hyL
    rcases hf.lo y hyP with e | e
    · have hi := is_own hm hj
      have hc := cnt_own hm hj
      rw [← e] at hi hc
      rw [fndW, if_pos hi, hc]
      exact ih
    · have hrs : Ris (allW s (l + 1) n.items) := by
        rcases hall with h | h
        · rw [h]; exact List.Pairwise.nil
        · exact h.ris
      have hnx : ∀ i, i = j + 1 → i < n.items.length → lessK y.key (n.items.getD i nokI).key = true := fun i hij hi => by
        unfold Ris at hrs
        rw [allW, List.pairwise_flatten] at hrs
        have h2 := List.pairwise_iff_getElem.1 hrs.2 j i (by simpa using hj) (by simpa using hi) (by omega)
        have hxi : n.items.getD i nokI ∈ n.items := by
          rw [List.getD_eq_getElem?_getD, List.getElem?_eq_getElem hi]
          exact List.getElem_mem hi
        obtain ⟨c, hfi⟩ := hpart _ hxi
        obtain ⟨z, q, hz, hzk⟩ := hfi.first
        rw [← hzk]
        refine h2 y ?_ z ?_
        · rw [List.getElem_map]
          rw [List.getD_eq_getElem?_getD, List.getElem?_eq_getElem hj] at hyL
          exact hyL
        · rw [List.getElem_map]
          have hz2 : z ∈ partW s (l + 1) (n.items.getD i nokI) := by rw [hz]; exact List.mem_cons_self ..
          rw [List.getD_eq_getElem?_getD, List.getElem?_eq_getElem hi] at hz2
          exact hz2
      have hjc : j < cntN n.items y.key := by
        have := mayN_cnt hm y.key hj
        rw [e] at this
        exact of_decide_eq_true this.symm
      have hle := cntN_le n.items y.key
      have hcn : cntN n.items y.key = j + 1 := by
        by_cases hlt : j + 1 < cntN n.items y.key
        case neg => omega
        exfalso
        have h3 := mayN_cnt hm y.key (i := j + 1) (by omega)
        have h4 := hnx (j + 1) rfl (by omega)
        rw [decide_eq_true hlt] at h3
        have := lessK_trans h3 h4
        rw [lessK_self] at this
        cases this
      have hin : ¬ isN n.items y.key = true := fun h => by
        unfold isN at h
        rw [Bool.and_eq_true, decide_eq_true_eq, decide_eq_true_eq, hcn] at h
        have h4 := hnx (j + 1) rfl h.1
        rw [h.2, lessK_self] at h4
        cases h4
      rw [fndW, if_neg hin, if_neg (by omega), hcn]
      exact ih
/-- Nothing of a key below: nothing is found. -/
theorem fndW_none {s : StoreL} {l : Nat} {n : NodeL} {k : KeyL} (h : ∀ y ∈ allW s l n.items, y.key ≠ k) : fndW s l n k = none := by
  cases he : fndW s l n k with
  | none => rfl
  | some y =>
    obtain ⟨h1, h2⟩ := fndW_mem s l n k y he
    exact absurd h2 (h y h1)
/-- How many items lie below a node. -/
theorem allW_len (s : StoreL) : ∀ (l : Nat) (its : List ItemL) (r : KeyL × KeyL), wkGo (oneW s l) none its = some r → its.length ≤ 5 → (allW s l its).length ≤ 5 ^ (l + 1)
  | 0, its, _, _, h => by rw [allW]; simpa using h
  | l + 1, its, r, hw, h => by
    rw [allW, List.length_flatten]
    have hb : ∀ x ∈ its, (allW s l (nodeB s x.ref.toNat).items).length ≤ 5 ^ (l + 1) := fun x hx => by
      obtain ⟨ab, ho⟩ := wkGo_each _ _ _ _ hw _ hx
      obtain ⟨e1, -, -, e4⟩ := oneW_succ ho
      exact allW_len s l _ ab e4 (mayN_all (nodeB_may e1)).2.1
    have hs : ∀ L : List ItemL, (∀ x ∈ L, (allW s l (nodeB s x.ref.toNat).items).length ≤ 5 ^ (l + 1)) → ((L.map fun x => allW s l (nodeB s x.ref.toNat).items).map List.length).sum ≤ L.length * 5 ^ (l + 1) := by
      intro L hL
      induction L with
      | nil => simp
      | cons a L ih =>
        have h1 := hL a (List.mem_cons_self ..)
        have h2 := ih fun x hx => hL x (List.mem_cons_of_mem _ hx)
        rw [List.map_cons, List.map_cons, List.sum_cons, List.length_cons, Nat.add_mul, Nat.one_mul]
        omega
    have h3 := hs its hb
    have h4 : its.length * 5 ^ (l + 1) ≤ 5 * 5 ^ (l + 1) := Nat.mul_le_mul_right _ h
    rw [Nat.pow_succ 5 (l + 1)]
    omega
end Go.Proofs.Ytcibihakjcenaaa

namespace Go.Proofs.Ytcibihakjcenaaa
open Go.RowKit

/-- All places of items are shared, in order; the first that is refused ends it. -/
def shE : StoreL → List ItemL → Int
  | _, [] => 0
  | s, x :: l => if x.ref = 0 then shE s l else if errBs s x.ref.toNat = 0 then shE (upS s x.ref.toNat) l else errBs s x.ref.toNat
def shS : StoreL → List ItemL → StoreL
  | s, [] => s
  | s, x :: l => if x.ref = 0 then shS s l else if errBs s x.ref.toNat = 0 then shS (upS s x.ref.toNat) l else s
theorem shS_app (s : StoreL) (l m : List ItemL) (h : shE s l = 0) : shS s (l ++ m) = shS (shS s l) m ∧ shE s (l ++ m) = shE (shS s l) m := by
  induction l generalizing s with
  | nil => exact ⟨rfl, rfl⟩
  | cons x l ih =>
    simp only [shE, shS, List.cons_append] at h ⊢
    split
    · rename_i h0
      rw [if_pos h0] at h
      exact ih s h
    · rename_i h0
      rw [if_neg h0] at h
      split
      · rename_i h1
        rw [if_pos h1] at h
        exact ih _ h
      · rename_i h1
        rw [if_neg h1] at h
        exact absurd h h1
theorem up_share {s : StoreL} {p : Nat} (hm : mayS s = true) (h8 : 8 ≤ p) (h9 : p < 256) (h : errBs s p = 0) : errSh s (p : Int) = 0 ∧ upS s p = shareS s (p : Int) := by
  have hs : errSh s (p : Int) = 0 := by
    rcases up_cases s p with ⟨_, h2, _⟩ | ⟨_, h2, _⟩ | ⟨h1, h2, _, _⟩
    · rw [h] at h2; cases h2
    · rw [h] at h2; cases h2
    · have hA : errAs s (p : Int) = 0 := by
        unfold errAs
        rw [if_pos hm, if_neg (by omega), Int.toNat_natCast, if_neg h1]
      unfold errSh
      rw [hA, if_neg (by decide), Int.toNat_natCast, if_neg h2]
  refine ⟨hs, ?_⟩
  rw [(share_is hs).1]
  unfold upS
  rw [if_pos h, Int.toNat_natCast]
/-- All that is so of a store whose blocks were shared. -/
theorem shS_is (s : StoreL) (l : List ItemL) (hm : mayS s = true) (hr : ∀ x ∈ l, x.ref = 0 ∨ (8 ≤ x.ref ∧ x.ref < 256)) :
    mayS (shS s l) = true ∧ (shS s l).disk = s.disk ∧ (shS s l).last = s.last ∧ freeS (shS s l) = freeS s := by
  induction l generalizing s with
  | nil => exact ⟨hm, rfl, rfl, rfl⟩
  | cons x l ih =>
    simp only [shS]
    have hr' := fun y hy => hr y (List.mem_cons_of_mem _ hy)
    split
    · exact ih s hm hr'
    · rename_i h0
      split
      · rename_i h1
        obtain h | ⟨h8, h9⟩ := hr x (List.mem_cons_self ..)
        · exact absurd h h0
        · obtain ⟨e1, e2⟩ := up_share hm (by omega) (by omega) h1
          obtain ⟨i1, i2, -, -, -, -, i7⟩ := share_is e1
          rw [← e2] at i1 i2 i7
          obtain ⟨j1, j2, j3, j4⟩ := ih _ i2 hr'
          exact ⟨j1, by rw [j2, i1], by rw [j3, i1], j4.trans i7⟩
      · exact ⟨hm, rfl, rfl, rfl⟩
theorem shE_next (s : StoreL) (l : List ItemL) (j : Nat) (hj : j < l.length) (h : shE s (l.take j) = 0) :
    ((l.getD j nokI).ref = 0 → shE s (l.take (j + 1)) = 0 ∧ shS s (l.take (j + 1)) = shS s (l.take j)) ∧
    ((l.getD j nokI).ref ≠ 0 → errBs (shS s (l.take j)) (l.getD j nokI).ref.toNat = 0 → shE s (l.take (j + 1)) = 0 ∧ shS s (l.take (j + 1)) = upS (shS s (l.take j)) (l.getD j nokI).ref.toNat) ∧
    ((l.getD j nokI).ref ≠ 0 → errBs (shS s (l.take j)) (l.getD j nokI).ref.toNat ≠ 0 → shE s l = errBs (shS s (l.take j)) (l.getD j nokI).ref.toNat) := by
  have e1 : l.take (j + 1) = l.take j ++ [l.getD j nokI] := by rw [List.take_add_one, get_l l nokI j hj]; rfl
  have e2 : l = l.take j ++ (l.getD j nokI :: l.drop (j + 1)) := by
    have e3 := List.take_append_drop (j + 1) l
    rw [e1, List.append_assoc] at e3
    exact e3.symm
  obtain ⟨a1, a2⟩ := shS_app s (l.take j) [l.getD j nokI] h
  obtain ⟨b1, b2⟩ := shS_app s (l.take j) (l.getD j nokI :: l.drop (j + 1)) h
  rw [← e1] at a1 a2
  rw [← e2] at b1 b2
  refine ⟨fun h0 => ?_, fun h0 h1 => ?_, fun h0 h1 => ?_⟩
  · rw [a1, a2]; simp only [shS, shE]; rw [if_pos h0, if_pos h0]; exact ⟨rfl, rfl⟩
  · rw [a1, a2]; simp only [shS, shE]; rw [if_neg h0, if_neg h0, if_pos h1, if_pos h1]; exact ⟨rfl, rfl⟩
  · rw [b2]; simp only [shE]; rw [if_neg h0, if_neg h1]
def errMk (s : StoreL) (n : NodeL) : Int := if mayN n then (if shE s n.items = 0 then errTk (shS s n.items) (blockN n) else shE s n.items) else 8
def mkS (s : StoreL) (n : NodeL) : StoreL := takeS (shS s n.items) (blockN n)
def atMk (s : StoreL) (n : NodeL) : Int := if errMk s n = 0 then headS (shS s n.items) else 0
theorem may_refs {n : NodeL} (h : mayN n = true) : ∀ y ∈ n.items, y.ref = 0 ∨ (8 ≤ y.ref ∧ y.ref < 256) := by
  intro y hy
  have h := mayN_items h y hy
  unfold mayI at h
  simp at h
  omega
/-- What Make comes to, behind all is shared. -/
theorem mk_cases {s : StoreL} {n : NodeL} (hs : mayS s = true) (hm : mayN n = true) (h0 : shE s n.items = 0) (hb : (blockN n).length = 128) :
    (shS s n.items).disk = s.disk ∧ (shS s n.items).last = s.last ∧ mayT (shS s n.items).now = true ∧
    (freeS (shS s n.items) = [] → errMk s n = 9 ∧ atMk s n = 0) ∧ ∀ k r, freeS (shS s n.items) = k :: r →
      (s.disk.waits.length = 4096 → errMk s n = 9 ∧ atMk s n = 0) ∧ (s.disk.waits.length ≠ 4096 → errMk s n = 0 ∧ atMk s n = k ∧ mkS s n = ⟨⟨s.disk.blocks, s.disk.waits ++ [⟨(k : Int), blockN n⟩]⟩, (shS s n.items).now.set k 1, s.last⟩) := by
  obtain ⟨i1, i2, i3, i4⟩ := shS_is s n.items hs (may_refs hm)
  have hE : errMk s n = errTk (shS s n.items) (blockN n) := by unfold errMk; rw [hm, if_pos rfl, if_pos h0]
  have hmd := (mayS_iff.1 i1).1
  refine ⟨i2, i3, (mayS_iff.1 i1).2.1, fun hf => ?_, fun k r hf => ?_⟩
  · have : errMk s n = 9 := by rw [hE]; unfold errTk; rw [i1, if_pos rfl, if_pos hb, hf]
    exact ⟨this, by unfold atMk; rw [this]; rfl⟩
  · have hh : headS (shS s n.items) = k := by unfold headS; rw [hf]; rfl
    obtain ⟨p1, p2, -, -⟩ := head_free (s := shS s n.items) (r := r) (by rw [hh]; exact hf)
    have hA : errA (shS s n.items).disk (k : Int) = 0 := by unfold errA; rw [hmd, if_pos rfl, if_neg (by omega)]
    have hW : errTk (shS s n.items) (blockN n) = if s.disk.waits.length = 4096 then 9 else 0 := by
      unfold errTk
      rw [i1, if_pos rfl, if_pos hb, hf]
      show errW (shS s n.items).disk (k : Int) (blockN n) = _
      unfold errW
      rw [hA, if_neg (by decide), if_neg (by omega), i2]
    refine ⟨fun hw => ?_, fun hw => ?_⟩
    · have : errMk s n = 9 := by rw [hE, hW, if_pos hw]
      exact ⟨this, by unfold atMk; rw [this]; rfl⟩
    · rw [if_neg hw] at hW
      have : errMk s n = 0 := by rw [hE, hW]
      refine ⟨this, by unfold atMk; rw [if_pos this, hh], ?_⟩
      unfold mkS
      rw [(take_is hW).1, hh, i2, i3]
/-- Nothing turned below lo. -/
def LU (lo : Nat) (w V : World) : Prop := lo ≤ V.heap.size ∧ Below lo w V
theorem LU.step {lo : Nat} {w V V' : World} (h : LU lo w V) (hb : Below V.heap.size V V') : LU lo w V' := ⟨Nat.le_trans h.1 hb.size, h.2.trans (hb.mono h.1)⟩
theorem LU.outB {lo n0 : Nat} {w V V' : World} (h : LU lo w V) (hb : Below n0 V V') (hn : lo ≤ n0) : LU lo w V' := ⟨Nat.le_trans h.1 hb.size, h.2.trans (hb.mono hn)⟩
/-- A row of writes of the call's own, behind one was appended to a full row. -/
theorem waits_row {W : World} {nb g n : Nat} {a : Option Addr} {l : List WrL} (h : Sl rWrite (hideW W (hidN nb g)) 0 W.heap.size (.slice a n n) l) (hnb : nb < W.heap.size) (hg : g < W.heap.size) :
    ∃ olds : List Value, olds.length = n * 2 ∧ (∀ b, a = some b → ∀ j u, olds[j]? = some u → W.cell? (b.add j) = some u) ∧ (a = none → n = 0 ∧ n = 0) ∧
      ∀ (Z : World) (T : TypeId) (v' : Value) (k : Int) (v : Value) (d : List UInt8), W.grownBy Z none → Z.ownsRow W.heap.size T 2 v' (n + 1) (olds ++ [.int .i64 k, v]) → (Lit.int .i64 k).wf = true →
        Bytes (hideW Z (hidN nb g)) 0 Z.heap.size v d → Sl rWrite (hideW Z (hidN nb g)) 0 Z.heap.size v' (l ++ [⟨k, d⟩]) := by
  obtain ⟨bs, hbl, hba, hbc⟩ := writes_of h
  obtain ⟨a', c', e, h1, h2, h3, h4⟩ := h
  injection e with e1 e2 e3
  subst e1 e3
  have hn : l.length = n := e2.symm
  have hS : ∀ k, W.heap.size ≤ k → hidN nb g k = false := fun k hk => by simp [hidN]; omega
  refine ⟨(List.range (n * 2)).map fun j => if j % 2 = 0 then .int .i64 (l.getD (j / 2) ⟨0, []⟩).at_ else (bs.getD (j / 2) (0, undef)).2, by simp, ?_, fun e => ⟨h4 e, h4 e⟩, ?_⟩
  · intro b hb j u hu
    rw [List.getElem?_map] at hu
    rcases Nat.lt_or_ge j (n * 2) with hj | hj
    · rw [List.getElem?_range hj] at hu
      injection hu with hu
      dsimp only at hu
      obtain ⟨b', off, ea, -, hc⟩ := hbc (by omega)
      rw [hb] at ea
      injection ea with ea
      subst ea
      have hi : j / 2 < bs.length := by omega
      obtain ⟨c0, c1⟩ := hc (j / 2) _ (get_l bs (0, undef) _ hi)
      have e0 := (hba (j / 2) _ (get_l bs (0, undef) _ hi)).1
      rw [Addr.add_lit]
      rcases Nat.mod_two_eq_zero_or_one j with hm | hm
      · rw [if_pos hm] at hu
        rw [← hu, ← e0, show off + j = off + j / 2 * 2 by omega]
        exact (hideW_out W _ _ _ c0).1
      · rw [if_neg (by omega)] at hu
        rw [← hu, show off + j = off + j / 2 * 2 + 1 by omega]
        exact (hideW_out W _ _ _ c1).1
    · rw [List.getElem?_eq_none (by simpa using hj)] at hu
      cases hu
  · intro Z T v' k v d hgr hown hwf hv
    have hck : CKc (hideW W (hidN nb g)) (hideW Z (hidN nb g)) := hideW_ck fun k hk hS => ⟨hS, hgr.block k hk (fun e => by cases e)⟩
    have hsz : W.heap.size ≤ Z.heap.size := hgr.size
    rcases hown.2 with ⟨rfl, h0⟩ | ⟨g', cap, cur, rfl, hg', hh, q1, q2, q3, q4⟩
    · omega
    · have hgl : g' < Z.heap.size := (Array.getElem?_eq_some_iff.1 hh).1
      have hcell : ∀ j u, ((List.range (n * 2)).map (fun j => if j % 2 = 0 then Value.int .i64 (l.getD (j / 2) ⟨0, []⟩).at_ else (bs.getD (j / 2) (0, undef)).2) ++ [.int .i64 k, v])[j]? = some u → (hideW Z (hidN nb g)).cell? ⟨g', 0 + j, none⟩ = some u := by
        intro j u hu
        rw [hideW_cell _ _ _ (hS g' hg'), cell_of_row Z g' (0 + j) cur T (0, 0) hh, ← hu, ← q4, List.getElem?_take, if_pos]
        · simp
        · have := (List.getElem?_eq_some_iff.1 hu).1
          simp at this
          omega
      refine ⟨some ⟨g', 0, none⟩, cap, by rw [List.length_append, hn]; rfl, by rw [List.length_append, hn]; exact q1, q2, fun _ => ⟨g', 0, rfl, Nat.zero_le _, hgl, fun i x hx => ?_⟩, fun e => by cases e⟩
      rcases Nat.lt_or_ge i n with hi | hi
      · rw [List.getElem?_append_left (by omega)] at hx
        obtain ⟨b', off, ea, -, -, hc⟩ := h3 (by omega)
        obtain ⟨f0, f1, vx, f2, f3⟩ := hc i x hx
        have hbx := hba i _ (get_l bs (0, undef) i (by omega))
        have hx2 : l.getD i ⟨0, []⟩ = x := by rw [List.getD_eq_getElem?_getD, hx]; rfl
        rw [hx2] at hbx
        refine ⟨hcell (i * 2 + 0) _ ?_, f1, (bs.getD i (0, undef)).2, hcell (i * 2 + 1) _ ?_, (hbx.2.ck hck).more (Nat.le_refl _) hsz⟩
        · rw [List.getElem?_append_left (by simp; omega), List.getElem?_map, List.getElem?_range (by omega)]
          simp only [Option.map_some]
          rw [if_pos (by omega), show (i * 2 + 0) / 2 = i by omega, hx2]
        · rw [List.getElem?_append_left (by simp; omega), List.getElem?_map, List.getElem?_range (by omega)]
          simp only [Option.map_some]
          rw [if_neg (by omega), show (i * 2 + 1) / 2 = i by omega]
      · have hil : i = n := by
          have := (List.getElem?_eq_some_iff.1 hx).1
          simp at this
          omega
        subst hil
        rw [List.getElem?_append_right (by omega), hn, Nat.sub_self] at hx
        injection hx with hx
        subst hx
        refine ⟨hcell (i * 2 + 0) _ ?_, hwf, v, hcell (i * 2 + 1) _ ?_, hv⟩
        · rw [List.getElem?_append_right (by simp)]
          simp
        · rw [List.getElem?_append_right (by simp)]
          simp [show i * 2 + 1 - i * 2 = 1 by omega]
end Go.Proofs.Ytcibihakjcenaaa

