/- FindDoes: the words and contracts, part 14. -/
import Derived.Test.YtcibihakjcenaaaFindDoesQ1
import Derived.Test.YtcibihakjcenaaaFindDoesQ2
import Derived.Test.YtcibihakjcenaaaFindDoesQ3
import Derived.Test.YtcibihakjcenaaaFindDoesQ4
import Derived.Test.YtcibihakjcenaaaFindDoesQ5
import Derived.Test.YtcibihakjcenaaaFindDoesQ6
import Derived.Test.YtcibihakjcenaaaFindDoesQ7
import Derived.Test.YtcibihakjcenaaaFindDoesQ8
import Derived.Test.YtcibihakjcenaaaFindDoesQ9
import Derived.Test.YtcibihakjcenaaaFindDoesQ10
import Derived.Test.YtcibihakjcenaaaFindDoesQ11
import Derived.Test.YtcibihakjcenaaaFindDoesQ12
import Derived.Test.YtcibihakjcenaaaFindDoesQ13
import Derived.WalkKit
import Derived.WalkLawsBesides
import Derived.WalkSpells
import Derived.Lib.Hide
import Derived.Laws.Rows
import Derived.Laws.AppendOwnNone
import Derived.Maps.AppendAt
import Derived.RangeFuncNested
import Derived.RangeFuncBound
import Derived.RangeFuncCalls
import Derived.RangeFuncLeaves
import Derived.RangeFuncBox
import Derived.Shelf.Abstract
import Derived.Shelf.RegionOpen
import Derived.OwnWalkIn
import Derived.TacticsInMore
import Derived.LoopNIn
import Derived.LoopIn
import Derived.ProofKit
import Derived.Deep.Slices
import Derived.WideShapes
import Derived.OrdersHeld
import Derived.Deep.QuietTactic
import Derived.BigQuiet
import Derived.StillTailTactics
import Derived.OpenShut
import Derived.Lib.SliceRun
import Derived.Lib.AppendZerosOnto
import Derived.Lib.Walk
import Derived.Deep.LoopGhost
import Derived.Laws.CopyOwn
import Derived.Deep.DeepCutAuto
import Derived.Laws.CopyRow
import Derived.Laws.MakeOwn
import Derived.Deep.RegionHeld
import Derived.KernelRfl
import Derived.BigFrameIn
import Derived.OrdersIn
namespace Go.Proofs.Ytcibihakjcenaaa
open Go.RowKit

/-- May the node of a block, of a level, be in a tree, from a key up to another one? -/
def rgtW (f : List ItemL → KeyL → Bool → Bool) (s : StoreL) (l : Nat) (p : Int) (fr tk : KeyL) (ends : Bool) : Bool :=
  isR s p && (decide ((rdR s p).level = (l : Int)) && (!(rdR s p).items.isEmpty && (decide (((rdR s p).items.getD 0 nokI).key = fr) && ((!ends || lessK ((rdR s p).items.getD ((rdR s p).items.length - 1) nokI).key tk) && f (rdR s p).items tk ends))))
def leafR (s : StoreL) (x : ItemL) : Bool := x.ref == 0 || s.now.getD x.ref.toNat 0 != 0
/-- Items one after the other, each up to the next one's key. -/
def innL (g : ItemL → KeyL → Bool → Bool) : List ItemL → KeyL → Bool → Bool
  | [], _, _ => true
  | [x], tk, ends => g x tk ends
  | x :: y :: l, tk, ends => g x y.key true && innL g (y :: l) tk ends
/-- May a node's items be in a tree? -/
def innerR (s : StoreL) : Nat → List ItemL → KeyL → Bool → Bool
  | 0, its, _, _ => its.all (leafR s)
  | l + 1, its, tk, ends => innL (fun x t e => rgtW (innerR s l) s l x.ref x.key t e) its tk ends
/-- What the key behind the i-th one is. -/
def nxtK (its : List ItemL) (i : Nat) (tk : KeyL) : KeyL := if i + 1 < its.length then (its.getD (i + 1) nokI).key else tk
def nxtB (its : List ItemL) (i : Nat) (ends : Bool) : Bool := decide (i + 1 < its.length) || ends
theorem innL_all (g : ItemL → KeyL → Bool → Bool) (tk : KeyL) (ends : Bool) : ∀ its : List ItemL, innL g its tk ends = true ↔ ∀ i, i < its.length → g (its.getD i nokI) (nxtK its i tk) (nxtB its i ends) = true
  | [] => by simp [innL]
  | [x] => by
    simp only [innL, List.length_singleton]
    constructor
    · intro h i hi
      obtain rfl : i = 0 := by omega
      simpa [nxtK, nxtB] using h
    · intro h
      simpa [nxtK, nxtB] using h 0 (by omega)
  | x :: y :: l => by
    have ih := innL_all g tk ends (y :: l)
    rw [innL, Bool.and_eq_true, ih]
    constructor
    · rintro ⟨h1, h2⟩ i hi
      cases i with
      | zero => simpa [nxtK, nxtB] using h1
      | succ i =>
        have := h2 i (by simpa using hi)
        simpa [nxtK, nxtB] using this
    · intro h
      refine ⟨by simpa [nxtK, nxtB] using h 0 (by simp), fun i hi => ?_⟩
      have := h (i + 1) (by simpa using hi)
      simpa [nxtK, nxtB] using this
theorem innL_no {g : ItemL → KeyL → Bool → Bool} {its : List ItemL} {tk : KeyL} {ends : Bool} {i : Nat} (hi : i < its.length) (h : g (its.getD i nokI) (nxtK its i tk) (nxtB its i ends) = false) : innL g its tk ends = false := by
  rw [Bool.eq_false_iff]
  intro e
  rw [(innL_all g tk ends its).1 e i hi] at h
  cases h
/-- What one step says, all steps say. -/
theorem innL_walk {f : ItemL → Option (KeyL × KeyL)} {g : ItemL → KeyL → Bool → Bool} (tk : KeyL) (ends : Bool) : ∀ (l : List ItemL) (x : ItemL) (acc : Option (KeyL × KeyL)),
    (∀ y ∈ x :: l, ∀ t e, g y t e = true ↔ ∃ ab, f y = some ab ∧ ab.1 = y.key ∧ (e = true → lessK ab.2 t = true)) → accOk acc x.key = true →
    (innL g (x :: l) tk ends = true ↔ ∃ r, wkGo f acc (x :: l) = some r ∧ (ends = true → lessK r.2 tk = true))
  | [], x, acc, hg, ha => by
    rw [innL, hg x (List.mem_cons_self ..)]
    constructor
    · rintro ⟨ab, h1, h2, h3⟩
      refine ⟨((acc.getD ab).1, ab.2), ?_, h3⟩
      rw [wkGo, h1]
      dsimp only
      rw [if_pos ⟨h2, by rw [h2]; exact ha⟩, wkGo]
    · rintro ⟨r, h1, h2⟩
      rw [wkGo] at h1
      cases hx : f x with
      | none => rw [hx] at h1; cases h1
      | some ab =>
        rw [hx] at h1
        dsimp only at h1
        by_cases hc : ab.1 = x.key ∧ accOk acc ab.1 = true
        case neg => rw [if_neg hc] at h1; cases h1
        rw [if_pos hc, wkGo] at h1
        cases h1
        exact ⟨ab, rfl, hc.1, h2⟩
  | y :: l, x, acc, hg, ha => by
    have ih := fun acc' h => innL_walk tk ends l y acc' (fun z hz => hg z (List.mem_cons_of_mem _ hz)) h
    rw [innL, Bool.and_eq_true, hg x (List.mem_cons_self ..)]
    constructor
    · rintro ⟨⟨ab, h1, h2, h3⟩, h4⟩
      obtain ⟨r, h5, h6⟩ := (ih (some ((acc.getD ab).1, ab.2)) (h3 rfl)).1 h4
      refine ⟨r, ?_, h6⟩
      rw [wkGo, h1]
      dsimp only
      rw [if_pos ⟨h2, by rw [h2]; exact ha⟩]
      exact h5
    · rintro ⟨r, h1, h2⟩
      rw [wkGo] at h1
      cases hx : f x with
      | none => rw [hx] at h1; cases h1
      | some ab =>
        rw [hx] at h1
        dsimp only at h1
        by_cases hc : ab.1 = x.key ∧ accOk acc ab.1 = true
        case neg => rw [if_neg hc] at h1; cases h1
        rw [if_pos hc] at h1
        have hy : lessK ab.2 y.key = true := by
          have h3 := h1
          rw [wkGo] at h3
          cases hfy : f y with
          | none => rw [hfy] at h3; cases h3
          | some cd =>
            rw [hfy] at h3
            dsimp only at h3
            by_cases hd : cd.1 = y.key ∧ accOk (some ((acc.getD ab).1, ab.2)) cd.1 = true
            case neg => rw [if_neg hd] at h3; cases h3
            rw [← hd.1]
            exact hd.2
        exact ⟨⟨ab, rfl, hc.1, fun _ => hy⟩, (ih (some ((acc.getD ab).1, ab.2)) hy).2 ⟨r, h1, h2⟩⟩
/-- The first key stays. -/
theorem wkGo_first {f : ItemL → Option (KeyL × KeyL)} : ∀ (its : List ItemL) (acc r : KeyL × KeyL), wkGo f (some acc) its = some r → r.1 = acc.1
  | [], acc, r, h => by rw [wkGo] at h; cases h; rfl
  | x :: l, acc, r, h => by
    rw [wkGo] at h
    cases hx : f x with
    | none => rw [hx] at h; cases h
    | some ab =>
      rw [hx] at h
      dsimp only at h
      by_cases hc : ab.1 = x.key ∧ accOk (some acc) ab.1 = true
      case neg => rw [if_neg hc] at h; cases h
      rw [if_pos hc] at h
      have h2 := wkGo_first l _ r h
      exact h2
theorem wkGo_head {f : ItemL → Option (KeyL × KeyL)} {x : ItemL} {l : List ItemL} {r : KeyL × KeyL} (h : wkGo f none (x :: l) = some r) : r.1 = x.key := by
  rw [wkGo] at h
  cases hx : f x with
  | none => rw [hx] at h; cases h
  | some ab =>
    rw [hx] at h
    dsimp only at h
    by_cases hc : ab.1 = x.key ∧ accOk none ab.1 = true
    case neg => rw [if_neg hc] at h; cases h
    rw [if_pos hc] at h
    rw [wkGo_first l _ r h]
    exact hc.1
/-- Items that rise. -/
theorem leaf_all {s : StoreL} (tk : KeyL) (ends : Bool) : ∀ (l : List ItemL) (x : ItemL), (x :: l).Pairwise (fun a b => lessK a.key b.key = true) →
    (((x :: l).all (leafR s) = true ∧ (ends = true → lessK ((x :: l).getD ((x :: l).length - 1) nokI).key tk = true)) ↔ innL (fun y t e => leafR s y && (!e || lessK y.key t)) (x :: l) tk ends = true)
  | [], x, _ => by
    cases ends <;> simp [innL]
  | y :: l, x, hp => by
    have hp2 := List.pairwise_cons.1 hp
    have ih := leaf_all (s := s) tk ends l y hp2.2
    have hxy := hp2.1 y (List.mem_cons_self ..)
    rw [innL, Bool.and_eq_true, ← ih, List.all_cons, Bool.and_eq_true]
    have hl : (x :: y :: l).getD ((x :: y :: l).length - 1) nokI = (y :: l).getD ((y :: l).length - 1) nokI := by
      simp [List.getD_eq_getElem?_getD]
    rw [hl, hxy]
    simp only [Bool.not_true, Bool.false_or, Bool.and_true]
    constructor
    · rintro ⟨⟨h1, h2⟩, h3⟩; exact ⟨h1, h2, h3⟩
    · rintro ⟨h1, h2, h3⟩; exact ⟨⟨h1, h2⟩, h3⟩
theorem inner_iff {s : StoreL} (hm : mayS s = true) : ∀ (l : Nat) (x : ItemL) (its : List ItemL), mayN ⟨(l : Int), x :: its⟩ = true → ∀ (tk : KeyL) (ends : Bool),
    (innerR s l (x :: its) tk ends = true ∧ (ends = true → lessK ((x :: its).getD ((x :: its).length - 1) nokI).key tk = true)) ↔ ∃ r, wkGo (oneW s l) none (x :: its) = some r ∧ (ends = true → lessK r.2 tk = true)
  | 0, x, its, hn, tk, ends => by
    rw [innerR, leaf_all tk ends its x (mayN_pair hn)]
    refine innL_walk tk ends its x none (fun y _ t e => ?_) rfl
    unfold leafR oneW
    by_cases hc : y.ref = 0 ∨ s.now.getD y.ref.toNat 0 ≠ 0
    · rw [if_pos hc]
      have hb : (y.ref == 0 || s.now.getD y.ref.toNat 0 != 0) = true := by simpa using hc
      rw [hb, Bool.true_and]
      constructor
      · intro h
        exact ⟨_, rfl, rfl, fun he => by subst he; simpa using h⟩
      · rintro ⟨ab, h1, h2, h3⟩
        cases h1
        cases e with
        | false => rfl
        | true => simpa using h3 rfl
    · rw [if_neg hc]
      have hb : (y.ref == 0 || s.now.getD y.ref.toNat 0 != 0) = false := by
        rw [Bool.eq_false_iff]
        intro h
        exact hc (by simpa using h)
      rw [hb]
      simp
  | l + 1, x, its, hn, tk, ends => by
    have hG : ∀ y ∈ x :: its, ∀ t e, rgtW (innerR s l) s l y.ref y.key t e = true ↔ ∃ ab, oneW s (l + 1) y = some ab ∧ ab.1 = y.key ∧ (e = true → lessK ab.2 t = true) := fun y hy t e => by
      have href := may_refs hn y hy
      constructor
      · intro h
        unfold rgtW at h
        rw [Bool.and_eq_true, Bool.and_eq_true, Bool.and_eq_true, Bool.and_eq_true, Bool.and_eq_true, decide_eq_true_eq, decide_eq_true_eq] at h
        obtain ⟨h1, h2, h3, h4, h5, h6⟩ := h
        have hr : rdR s y.ref = nodeB s y.ref.toNat := by unfold rdR; rw [h1]; rfl
        unfold isR at h1
        rw [decide_eq_true_eq] at h1
        rw [hr] at h2 h3 h4 h5 h6
        have hne : (nodeB s y.ref.toNat).items ≠ [] := fun e => by rw [e] at h3; cases h3
        have hmb := nodeB_may h1.2.2
        rw [oneW, if_pos ⟨h1.2.2, h2, hne⟩]
        cases hi : (nodeB s y.ref.toNat).items with
        | nil => exact absurd hi hne
        | cons z L =>
          rw [hi] at h4 h5 h6
          have hmb2 : mayN ⟨(l : Int), z :: L⟩ = true := by
            rw [← hi, ← h2]; exact hmb
          obtain ⟨r, hr1, hr2⟩ := (inner_iff hm l z L hmb2 t e).1 ⟨h6, fun he => by subst he; simpa using h5⟩
          exact ⟨r, hr1, (wkGo_head hr1).trans h4, hr2⟩
      · rintro ⟨ab, h1, h2, h3⟩
        obtain ⟨e1, e2, e3, e4⟩ := oneW_succ h1
        obtain ⟨r1, r2⟩ := ref_of hm h1 href
        have h0 : isR s y.ref = true := by unfold isR; rw [decide_eq_true_eq]; exact ⟨r1, r2, e1⟩
        have hr : rdR s y.ref = nodeB s y.ref.toNat := by unfold rdR; rw [h0]; rfl
        have hmb := nodeB_may e1
        unfold rgtW
        rw [h0, hr]
        cases hi : (nodeB s y.ref.toNat).items with
        | nil => exact absurd hi e3
        | cons z L =>
          rw [hi] at e4
          have hmb2 : mayN ⟨(l : Int), z :: L⟩ = true := by
            rw [← hi, ← e2]; exact hmb
          obtain ⟨i1, i2⟩ := (inner_iff hm l z L hmb2 t e).2 ⟨ab, e4, h3⟩
          have hf := wkGo_head e4
          rw [Bool.and_eq_true, Bool.and_eq_true, Bool.and_eq_true, Bool.and_eq_true, Bool.and_eq_true, decide_eq_true_eq, decide_eq_true_eq]
          refine ⟨rfl, e2, rfl, ?_, ?_, i1⟩
          · show z.key = y.key
            rw [← hf, h2]
          · cases e with
            | false => rfl
            | true => simpa using i2 rfl
    rw [innerR]
    have hw := innL_walk (g := fun x t e => rgtW (innerR s l) s l x.ref x.key t e) tk ends its x none hG rfl
    rw [← hw]
    refine ⟨fun h => h.1, fun h => ⟨h, fun he => ?_⟩⟩
    subst he
    have hla := (innL_all _ tk true (x :: its)).1 h ((x :: its).length - 1) (by simp)
    have hn1 : nxtK (x :: its) ((x :: its).length - 1) tk = tk := by unfold nxtK; rw [if_neg (by simp)]
    have hn2 : nxtB (x :: its) ((x :: its).length - 1) true = true := by unfold nxtB; simp
    rw [hn1, hn2] at hla
    have hin : (x :: its).getD ((x :: its).length - 1) nokI ∈ x :: its := by
      rw [List.getD_eq_getElem?_getD, List.getElem?_eq_getElem (by simp)]
      exact List.getElem_mem _
    obtain ⟨ab, h1, h2, h3⟩ := (hG _ hin tk true).1 hla
    have hf := oneW_from s (l + 1) _ ab.1 ab.2 h1
    obtain ⟨z, q, hq, hz⟩ := hf.first
    rcases hf.hi z (by rw [hq]; exact List.mem_cons_self ..) with e | e
    · rw [← h2, ← hz, e]; exact h3 rfl
    · rw [← h2, ← hz]; exact lessK_trans e (h3 rfl)
/-- A tree, as the document says it. -/
theorem top_iff {s : StoreL} (hm : mayS s = true) {l : Nat} {its : List ItemL} (hn : mayN ⟨(l : Int), its⟩ = true) (tk : KeyL) : innerR s l its tk false = (its.isEmpty || (wkGo (oneW s l) none its).isSome) := by
  rw [Bool.eq_iff_iff]
  cases its with
  | nil =>
    have : l = 0 := by
      obtain ⟨-, -, h4, -⟩ := mayN_all hn
      rcases h4 with h4 | h4
      · simp only at h4; omega
      · exact absurd rfl h4
    subst this
    simp [innerR]
  | cons x its =>
    have h := inner_iff hm l x its hn tk false
    simp only [Bool.false_eq_true, false_implies, and_true] at h
    rw [h]
    simp only [List.isEmpty_cons, Bool.false_or, Option.isSome_iff_exists]
/-- The item of a key, looked for from the last one on. -/
def lastI (p : ItemL → Bool) : List ItemL → Option ItemL
  | [] => none
  | x :: l => match lastI p l with
    | some y => some y
    | none => if p x then some x else none
def oneR (s : StoreL) : Nat → List ItemL → KeyL → Option ItemL
  | 0, its, k => lastI (fun x => decide (x.key = k)) its
  | l + 1, its, k => match lastI (fun x => !lessK k x.key) its with
    | none => none
    | some x => oneR s l (nodeB s x.ref.toNat).items k
theorem lastI_no {p : ItemL → Bool} : ∀ (l : List ItemL), (∀ j, j < l.length → p (l.getD j nokI) = false) → lastI p l = none
  | [], _ => rfl
  | x :: l, h => by
    rw [lastI, lastI_no l fun j hj => by simpa using h (j + 1) (by simpa using hj)]
    have : p x = false := h 0 (by simp)
    simp [this]
theorem lastI_at {p : ItemL → Bool} : ∀ (l : List ItemL) (i : Nat), i < l.length → p (l.getD i nokI) = true → (∀ j, i < j → j < l.length → p (l.getD j nokI) = false) → lastI p l = some (l.getD i nokI)
  | [], _, h, _, _ => absurd h (Nat.not_lt_zero _)
  | x :: l, 0, _, hp, hj => by
    have hn : lastI p l = none := lastI_no l fun j h => by simpa using hj (j + 1) (by omega) (by simpa using h)
    rw [lastI, hn]
    have hp2 : p x = true := hp
    simp [hp2]
  | x :: l, i + 1, h, hp, hj => by
    have h2 := lastI_at l i (by simpa using h) (by simpa using hp) (fun j h1 h2 => by simpa using hj (j + 1) (by omega) (by simpa using h2))
    rw [lastI, h2]
    simp
/-- Found as the document says. -/
theorem one_is {s : StoreL} : ∀ (l : Nat) (n : NodeL) (k : KeyL), mayN n = true → (l = 0 ∨ ∃ r, wkGo (oneW s l) none n.items = some r) → oneR s l n.items k = fndW s l n k
  | 0, n, k, hm, _ => by
    rw [oneR, fndW]
    by_cases hi : isN n.items k = true
    · rw [if_pos hi]
      have hi2 := hi
      unfold isN at hi2
      rw [Bool.and_eq_true, decide_eq_true_eq, decide_eq_true_eq] at hi2
      refine lastI_at _ _ hi2.1 (decide_eq_true hi2.2) fun j h1 h2 => ?_
      rw [decide_eq_false_iff_not]
      intro e
      have := pair_get (mayN_pair hm) h1 h2
      rw [hi2.2, e, lessK_self] at this
      cases this
    · rw [if_neg hi]
      refine lastI_no _ fun j hj => ?_
      rw [decide_eq_false_iff_not]
      intro e
      have := is_own hm hj
      rw [e] at this
      exact hi this
  | l + 1, n, k, hm, ht => by
    obtain ⟨r, hr⟩ := ht.resolve_left (by omega)
    have key : ∀ j, j < n.items.length → oneR s l (nodeB s (n.items.getD j nokI).ref.toNat).items k = fndW s l (nodeB s (n.items.getD j nokI).ref.toNat) k := fun j hj => by
      have hx : n.items.getD j nokI ∈ n.items := by
        rw [List.getD_eq_getElem?_getD, List.getElem?_eq_getElem hj]
        exact List.getElem_mem hj
      obtain ⟨ab, ho⟩ := wkGo_each _ _ _ _ hr _ hx
      obtain ⟨e1, e2, e3, e4⟩ := oneW_succ ho
      exact one_is l _ k (nodeB_may e1) (.inr ⟨ab, e4⟩)
    rw [oneR, fndW]
    have habove : ∀ j, cntN n.items k ≤ j → j < n.items.length → (n.items.getD j nokI).key ≠ k → lessK k (n.items.getD j nokI).key = true := fun j h1 h2 h3 => by
      have h4 := mayN_cnt hm k h2
      rw [decide_eq_false (by omega)] at h4
      rcases lessK_ne h3 with h | h
      · rw [h4] at h; cases h.1
      · exact h.2
    by_cases hi : isN n.items k = true
    · rw [if_pos hi]
      have hi2 := hi
      unfold isN at hi2
      rw [Bool.and_eq_true, decide_eq_true_eq, decide_eq_true_eq] at hi2
      have h1 : lastI (fun x => !lessK k x.key) n.items = some (n.items.getD (cntN n.items k) nokI) := lastI_at _ _ hi2.1 (by rw [hi2.2, lessK_self]; rfl) fun j h1 h2 => by
        have := pair_get (mayN_pair hm) h1 h2
        rw [hi2.2] at this
        rw [this]; rfl
      rw [h1]
      exact key _ hi2.1
    · rw [if_neg hi]
      have hne : ∀ j, j < n.items.length → (n.items.getD j nokI).key ≠ k := fun j hj e => by
        have := is_own hm hj
        rw [e] at this
        exact hi this
      by_cases h0 : cntN n.items k = 0
      · rw [if_pos h0, lastI_no _ fun j hj => by rw [habove j (by omega) hj (hne j hj)]; rfl]
      · rw [if_neg h0]
        have hle := cntN_le n.items k
        have h1 : lastI (fun x => !lessK k x.key) n.items = some (n.items.getD (cntN n.items k - 1) nokI) := lastI_at _ _ (by omega) (by
          have h4 := mayN_cnt hm k (show cntN n.items k - 1 < n.items.length by omega)
          rw [decide_eq_true (by omega)] at h4
          rw [lessK_asymm h4]; rfl) fun j h1 h2 => by
            rw [habove j (by omega) h2 (hne j h2)]; rfl
        rw [h1]
        exact key _ (by omega)
/-- A tree is refused, as the document says. -/
theorem check_is {s : StoreL} {p : Int} (to_ : KeyL) (hm : mayS s = true) (h8 : 8 ≤ p) (h9 : p < 256) (h0 : s.now.getD p.toNat 0 ≠ 0) :
    errCk s p = (if isR s p = true ∧ innerR s (rdR s p).level.toNat (rdR s p).items to_ false = true then 0 else 8) ∧ (errCk s p = 0 → heiC s p = (rdR s p).level + 1) := by
  have h1 : errAs s p = 0 := by
    unfold errAs
    rw [if_pos hm, if_neg (by omega), if_neg h0]
  obtain ⟨q, rfl⟩ : ∃ q : Nat, p = q := ⟨p.toNat, by omega⟩
  rw [Int.toNat_natCast] at h0
  have hb : errBn s q = if errNd (seenD s.disk q) = 0 then 0 else 8 := by unfold errBn; rw [if_neg h0]
  obtain ⟨i1, i2⟩ := isR_nat (s := s) (q := q) (by omega) (by omega) h0
  have hE : errCk s (q : Int) = if errBn s q ≠ 0 then errBn s q else if topOk s (nodeB s q) then 0 else 8 := by
    unfold errCk
    rw [if_neg (by simp [h1]), Int.toNat_natCast]
  have hH : errCk s (q : Int) = 0 → heiC s (q : Int) = (nodeB s q).level + 1 := fun h => by unfold heiC; rw [if_pos h, Int.toNat_natCast]
  by_cases he : errNd (seenD s.disk q) = 0
  · rw [if_pos he] at hb
    have hr : rdR s (q : Int) = nodeB s q := by rw [i2]; unfold nodeB; rw [if_pos hb]
    have hmb := nodeB_may hb
    obtain ⟨⟨m1, m2⟩, -⟩ := mayN_all hmb
    have hl : (nodeB s q).level = ((nodeB s q).level.toNat : Int) := by omega
    have hmb2 : mayN ⟨((nodeB s q).level.toNat : Int), (nodeB s q).items⟩ = true := by rw [← hl]; exact hmb
    rw [i1, decide_eq_true he, hr, top_iff hm hmb2 to_]
    refine ⟨?_, hH⟩
    rw [hE, if_neg (by simp [hb])]
    show (if topOk s (nodeB s q) = true then (0 : Int) else 8) = _
    unfold topOk
    simp
  · rw [if_neg he] at hb
    rw [i1, decide_eq_false he]
    refine ⟨?_, fun h => ?_⟩
    · rw [hE, hb]; simp
    · rw [hE, hb] at h; simp at h
end Go.Proofs.Ytcibihakjcenaaa

