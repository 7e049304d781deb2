/- FindAlone: the words and contracts, part 7. -/
import Derived.Test.YtcibihakjcenaaaFindAloneQ1
import Derived.Test.YtcibihakjcenaaaFindAloneQ2
import Derived.Test.YtcibihakjcenaaaFindAloneQ3
import Derived.Test.YtcibihakjcenaaaFindAloneQ4
import Derived.Test.YtcibihakjcenaaaFindAloneQ5
import Derived.Test.YtcibihakjcenaaaFindAloneQ6
import Derived.WalkKit
import Derived.WalkLawsBesides
import Derived.WalkSpells
import Derived.Lib.Hide
import Derived.Laws.Rows
import Derived.Laws.AppendOwnNone
import Derived.Maps.AppendAt
import Derived.OrdersHeld
import Derived.Deep.QuietTactic
import Derived.BigQuiet
import Derived.StillTailTactics
import Derived.OrdersIn
import Derived.ProofKit
import Derived.Deep.Slices
import Derived.WideShapes
import Derived.RangeFuncNested
import Derived.RangeFuncBound
import Derived.RangeFuncCalls
import Derived.RangeFuncLeaves
import Derived.RangeFuncBox
import Derived.Shelf.Abstract
import Derived.Shelf.RegionOpen
import Derived.OwnWalkIn
import Derived.TacticsInMore
import Derived.LoopNIn
import Derived.LoopIn
import Derived.Lib.AppendZerosOnto
import Derived.Lib.SliceRun
import Derived.Lib.Walk
import Derived.Deep.LoopGhost
import Derived.Laws.CopyOwn
import Derived.Laws.CopyRow
import Derived.OpenShut
import Derived.Deep.DeepCutAuto
import Derived.Laws.MakeOwn
import Derived.Deep.RegionHeld
import Derived.KernelRfl
import Derived.BigFrameIn
namespace Go.Proofs.Ytcibihakjcenaaa
open Go.RowKit

section
variable {F : Fence} {n : Nat} {P : Program} {ops : Array Oper} {Q : Exit → Act → World → Prop} {md : Region.Mode}

/-- The operations but z. -/
def OpsQ (F : Fence) (n : Nat) (P : Program) (ops : Array Oper) (Q : Exit → Act → World → Prop) (z : Nat) (deps : Nat → List Nat) (f : Nat → Value → Value → Prop) (Gz : Value → World → Prop) (W0 : World) (is : List Nat) (a0 : Act) (l : List Nat) : Prop :=
  ∀ i ∈ l, i ≠ z → ∀ o, ops[i]? = some o → ∀ (vs : Nat → Value) (W : World), (∀ j ∈ deps i, j ≠ z → f j (vs j) (vs z)) → ((deps i).contains z = true → Gz (vs z) W) → ((deps i).contains z = false → W = W0) → ∀ K : Act → World → Prop,
    (∀ v, f i v (vs z) → K ((putAll ops vs is a0).put o.dst v) W) →
    if Region.wanted o (yielded ops (putAll ops vs is a0).tmps) = true then Oper.wpIn F n P o (putAll ops vs is a0) W K Q else (∀ g, o.about P W (putAll ops vs is a0).eval = some g → F.fn g) ∧ K ((putAll ops vs is a0).put o.dst undef) W
/-- The operation z. -/
def OpZ (F : Fence) (n : Nat) (P : Program) (ops : Array Oper) (Q : Exit → Act → World → Prop) (z : Nat) (deps : Nat → List Nat) (f : Nat → Value → Value → Prop) (Gz : Value → World → Prop) (W0 : World) (is : List Nat) (a0 : Act) : Prop :=
  ∀ o, ops[z]? = some o → ∀ (vs : Nat → Value) (W : World), W = W0 → (∀ j ∈ deps z, j ≠ z → f j (vs j) (vs z)) → ∀ K : Act → World → Prop,
    (∀ v W', Gz v W' → K ((putAll ops vs is a0).put o.dst v) W') →
    if Region.wanted o (yielded ops (putAll ops vs is a0).tmps) = true then Oper.wpIn F n P o (putAll ops vs is a0) W K Q else (∀ g, o.about P W (putAll ops vs is a0).eval = some g → F.fn g) ∧ K ((putAll ops vs is a0).put o.dst undef) W
theorem OpsQ.nil {z : Nat} {deps : Nat → List Nat} {f : Nat → Value → Value → Prop} {Gz : Value → World → Prop} {W0 : World} {is : List Nat} {a0 : Act} : OpsQ F n P ops Q z deps f Gz W0 is a0 [] := fun _ h => by cases h
/-- It is the same for each. -/
theorem OpsQ.cons {z : Nat} {deps : Nat → List Nat} {f : Nat → Value → Value → Prop} {Gz : Value → World → Prop} {W0 : World} {is : List Nat} {a0 : Act} {i : Nat} {l : List Nat} (o : Oper) (ho : ops[i]? = some o)
    (h : ∀ (vs : Nat → Value) (W : World), (∀ j ∈ deps i, j ≠ z → f j (vs j) (vs z)) → ((deps i).contains z = true → Gz (vs z) W) → ((deps i).contains z = false → W = W0) → ∀ K : Act → World → Prop,
      (∀ v, f i v (vs z) → K ((putAll ops vs is a0).put o.dst v) W) →
      if Region.wanted o (yielded ops (putAll ops vs is a0).tmps) = true then Oper.wpIn F n P o (putAll ops vs is a0) W K Q else (∀ g, o.about P W (putAll ops vs is a0).eval = some g → F.fn g) ∧ K ((putAll ops vs is a0).put o.dst undef) W)
    (hs : OpsQ F n P ops Q z deps f Gz W0 is a0 l) : OpsQ F n P ops Q z deps f Gz W0 is a0 (i :: l) := fun j hj hne o' ho' => by
  rcases List.mem_cons.1 hj with rfl | hj
  · rw [ho] at ho'; cases ho'; exact h
  · exact hs j hj hne o' ho'
theorem OpsQ.skip {z : Nat} {deps : Nat → List Nat} {f : Nat → Value → Value → Prop} {Gz : Value → World → Prop} {W0 : World} {is : List Nat} {a0 : Act} {l : List Nat}
    (hs : OpsQ F n P ops Q z deps f Gz W0 is a0 l) : OpsQ F n P ops Q z deps f Gz W0 is a0 (z :: l) := fun j hj hne o' ho' => by
  rcases List.mem_cons.1 hj with rfl | hj
  · exact absurd rfl hne
  · exact hs j hj hne o' ho'

theorem wpAnyIn_inv (z : Nat) (is : List Nat) (deps : Nat → List Nat) (f : Nat → Value → Value → Prop) (Gz : Value → World → Prop) (W0 : World) (L0 : Array Bool) (a0 : Act)
    (hds : dsOk ops is = true) (hchk : invOk md ops L0 is deps = true) (hz : (is.all fun i => i == z || ((deps z).contains i || (deps i).contains z)) = true) (hzi : z ∈ is) (hf : ∀ i, (deps i).contains z = false → ∀ v a b, f i v a → f i v b)
    (hops : OpsQ F n P ops Q z deps f Gz W0 is a0 is) (hopz : OpZ F n P ops Q z deps f Gz W0 is a0)
    (hend : ∀ (vs : Nat → Value) (W : World), Gz (vs z) W → (∀ i ∈ is, i ≠ z → f i (vs i) (vs z)) → Q .normal (putAll ops vs is a0) W) :
    ∀ (fuel : Nat) (L : Array Bool) (vs : Nat → Value) (W : World), L.size = L0.size → (∀ j, j ∉ is → L.getD j true = L0.getD j true) →
      (∀ i ∈ is, L.getD i true = true → (i ≠ z → f i (vs i) (vs z)) ∧ ∀ j ∈ deps i, L.getD j true = true) → ((L.getD z true = true → Gz (vs z) W) ∧ (L.getD z true = false → W = W0)) → (is.filter fun i => !L.getD i true).length ≤ fuel →
      wpAnyIn F n P md ops Q fuel L (putAll ops vs is a0) W := by
  simp only [invOk, Bool.and_eq_true, List.all_eq_true, List.mem_range, Bool.or_eq_true, List.contains_iff_mem, decide_eq_true_eq] at hchk
  obtain ⟨hall, hone⟩ := hchk
  have hlist : ∀ (L : Array Bool), L.size = L0.size → (∀ j, j ∉ is → L.getD j true = L0.getD j true) → ∀ i, i ∈ Region.ready md ops L → i ∈ is ∧ L.getD i true = false := by
    intro L hsz hL i hi
    obtain ⟨h1, o, ho, _⟩ := mem_ready.1 hi
    refine ⟨?_, h1⟩
    have hlt : i < ops.size := (Array.getElem?_eq_some_iff.1 ho).1
    rcases hall i hlt with h | h
    · by_cases hm : i ∈ is
      · exact hm
      · rw [hL i hm, h] at h1; cases h1
    · exact h
  have hready : ∀ (L : Array Bool), L.size = L0.size → (∀ j, j ∉ is → L.getD j true = L0.getD j true) → Region.ready md ops L = [] → ∀ i ∈ is, L.getD i true = true := by
    intro L hsz hL hr
    have hind : ∀ i, i < ops.size → L.getD i true = true := by
      intro i
      induction i using Nat.strongRecOn with
      | _ i ih =>
        intro hlt
        cases hx : L.getD i true with
        | true => rfl
        | false =>
          exfalso
          have hm : i ∈ is := by
            rcases hall i hlt with h | h
            · by_cases hm : i ∈ is
              · exact hm
              · rw [← hL i hm, hx] at h; cases h
            · exact h
          obtain ⟨⟨⟨h1, h2⟩, h3⟩, _⟩ := hone i hm
          have hmem : i ∈ Region.ready md ops L := by
            refine mem_ready.2 ⟨hx, ops[i], by simp [hlt], fun e he hb => ?_⟩
            simp only [Array.getElem?_eq_getElem hlt, Option.map_some, Option.getD_some, Array.all_eq_true'] at h3
            have h4 := h3 e he
            simp only [hb, Bool.not_true, Bool.false_or, decide_eq_true_eq] at h4
            have h5 := ih e.on h4 (by omega)
            rw [getD_any L e.on false true (by omega)]
            exact h5
          rw [hr] at hmem
          cases hmem
    intro i hi
    exact hind i (hone i hi).1.1.2
  have hcount : ∀ (i : Nat) (L : Array Bool) {fuel : Nat}, i ∈ is → L.getD i true = false → L.size = L0.size → (is.filter fun i => !L.getD i true).length ≤ fuel + 1 → (is.filter fun k => !(L.setIfInBounds i true).getD k true).length ≤ fuel := by
    intro i L fuel him hun hsz hf
    have hi1 := (hone i him).1.1.1
    have hlt : (is.filter fun k => !(L.setIfInBounds i true).getD k true).length < (is.filter fun k => !L.getD k true).length := by
      have key : ∀ l : List Nat, (l.filter fun k => !(L.setIfInBounds i true).getD k true).length ≤ (l.filter fun k => !L.getD k true).length ∧
          (i ∈ l → (l.filter fun k => !(L.setIfInBounds i true).getD k true).length < (l.filter fun k => !L.getD k true).length) := by
        intro l
        induction l with
        | nil => exact ⟨Nat.le_refl _, fun h => by cases h⟩
        | cons x l ihl =>
          by_cases e : i = x
          · subst e
            have h1 : (!(L.setIfInBounds i true).getD i true) = false := by rw [getD_set_self L i true (by omega)]; rfl
            have h2 : (!L.getD i true) = true := by rw [hun]; rfl
            rw [List.filter_cons_of_neg (by rw [h1]; decide), List.filter_cons_of_pos (by rw [h2])]
            simp only [List.length_cons]
            exact ⟨by omega, fun _ => by omega⟩
          · have h1 : (L.setIfInBounds i true).getD x true = L.getD x true := getD_set_ne true e
            simp only [List.filter_cons, h1]
            split
            · simp only [List.length_cons]
              exact ⟨by omega, fun hm => by
                rcases List.mem_cons.1 hm with h | h
                · exact absurd h e
                · have := ihl.2 h; omega⟩
            · exact ⟨ihl.1, fun hm => by
                rcases List.mem_cons.1 hm with h | h
                · exact absurd h e
                · exact ihl.2 h⟩
      exact (key is).2 him
    omega
  intro fuel
  induction fuel with
  | zero =>
    intro L vs W hsz hL hI hZ hf
    have hnil : (is.filter fun i => !L.getD i true) = [] := List.eq_nil_of_length_eq_zero (by omega)
    have hdone : ∀ i ∈ is, L.getD i true = true := fun i hi => by
      cases hx : L.getD i true with
      | true => rfl
      | false =>
        have : i ∈ (is.filter fun i => !L.getD i true) := List.mem_filter.2 ⟨hi, by simp only [hx, Bool.not_false]⟩
        rw [hnil] at this
        cases this
    refine ⟨?_, hend vs W ((hZ).1 (hdone z hzi)) (fun i hi => (hI i hi (hdone i hi)).1)⟩
    cases hr : Region.ready md ops L with
    | nil => rfl
    | cons x xs =>
      obtain ⟨h1, h2⟩ := hlist L hsz hL x (by rw [hr]; exact List.mem_cons_self ..)
      rw [hdone x h1] at h2
      cases h2
  | succ fuel ih =>
    intro L vs W hsz hL hI hZ hf
    refine ⟨fun hr => ?_, fun i hi => ?_⟩
    · have hdone := hready L hsz hL hr
      exact hend vs W ((hZ).1 (hdone z hzi)) (fun i hi => (hI i hi (hdone i hi)).1)
    · obtain ⟨him, hun⟩ := hlist L hsz hL i hi
      obtain ⟨_, o, ho, hbind⟩ := mem_ready.1 hi
      obtain ⟨⟨⟨hi1, hi2⟩, _⟩, hdep⟩ := hone i him
      have hdeps : ∀ j ∈ deps i, j ∈ is ∧ L.getD j true = true := by
        intro j hj
        obtain ⟨hjm, hx⟩ := hdep j hj
        refine ⟨hjm, ?_⟩
        simp only [ho, Option.map_some, Option.getD_some, Array.any_eq_true'] at hx
        obtain ⟨e, he, hx⟩ := hx
        simp only [Bool.and_eq_true, Bool.or_eq_true, beq_iff_eq, List.contains_iff_mem] at hx
        obtain ⟨hb, hx⟩ := hx
        have hl := hbind e he hb
        have hl' : L.getD e.on true = true := by
          rcases Nat.lt_or_ge e.on L.size with h | h
          · rw [getD_any L e.on true false h]; exact hl
          · simp [Array.getD, Nat.not_lt.2 h]
        rcases hx with rfl | ⟨hem, hej⟩
        · exact hl'
        · exact (hI e.on hem hl').2 j hej
      have hd : o.dst = dstOf ops i := by simp [dstOf, ho]
      have hgo : ∀ v W', (i ≠ z → f i v (updV vs i v z)) → (∀ k ∈ is, L.getD k true = true → k ≠ z → f k (vs k) (updV vs i v z)) → ((L.setIfInBounds i true).getD z true = true → Gz (updV vs i v z) W') → ((L.setIfInBounds i true).getD z true = false → W' = W0) → wpAnyIn F n P md ops Q fuel (L.setIfInBounds i true) ((putAll ops vs is a0).put o.dst v) W' := by
        intro v W' hGv hkeep hz1 hz2
        rw [hd, putAll_put vs i v is a0 hds him]
        refine ih _ _ _ (by simp [hsz]) (fun j hj => ?_) (fun k hk hlk => ?_) ⟨hz1, hz2⟩ ?_
        · have : i ≠ j := fun h => hj (h ▸ him)
          rw [getD_set_ne true this]; exact hL j hj
        · by_cases e : i = k
          · subst e
            refine ⟨fun hne => by simpa [updV] using hGv hne, fun j hj => ?_⟩
            by_cases e2 : i = j
            · subst e2; exact getD_set_self L i true (by omega)
            · rw [getD_set_ne true e2]; exact (hdeps j hj).2
          · rw [getD_set_ne true e] at hlk
            obtain ⟨h1, h2⟩ := hI k hk hlk
            refine ⟨fun hne => ?_, fun j hj => ?_⟩
            · have : updV vs i v k = vs k := by simp [updV, Ne.symm e]
              rw [this]
              exact hkeep k hk hlk hne
            · by_cases e2 : i = j
              · subst e2; exact getD_set_self L i true (by omega)
              · rw [getD_set_ne true e2]; exact h2 j hj
        · exact hcount i L him hun hsz hf
      unfold wpOpIn
      simp only [ho]
      by_cases e : i = z
      · subst e
        refine hopz o ho vs W (hZ.2 hun) (fun j hj hne => (hI j (hdeps j hj).1 (hdeps j hj).2).1 hne) _ (fun v W' hg => ?_)
        exact hgo v W' (fun h => absurd rfl h) (fun k hk hlk hne => hf k (by
          cases hx : (deps k).contains i with
          | false => rfl
          | true =>
            have := (hI k hk hlk).2 i (List.contains_iff_mem.1 hx)
            rw [hun] at this
            cases this) _ _ _ ((hI k hk hlk).1 hne)) (fun _ => by simpa [updV] using hg) (fun h => by rw [getD_set_self L i true (by omega)] at h; cases h)
      · have hzz : (L.setIfInBounds i true).getD z true = L.getD z true := getD_set_ne true e
        refine hops i him e o ho vs W (fun j hj hne => (hI j (hdeps j hj).1 (hdeps j hj).2).1 hne) (fun hc => ?_) (fun hc => ?_) _ (fun v hv => ?_)
        · exact hZ.1 (hdeps z (List.contains_iff_mem.1 hc)).2
        · have hzd := List.all_eq_true.1 hz i him
          simp only [Bool.or_eq_true, beq_iff_eq, hc, Bool.false_eq_true, or_false] at hzd
          have him2 : i ∈ deps z := by
            rcases hzd with h | h
            · exact absurd h e
            · exact List.contains_iff_mem.1 h
          refine hZ.2 ?_
          cases hx : L.getD z true with
          | false => rfl
          | true =>
            have := (hI z hzi hx).2 i him2
            rw [hun] at this
            cases this
        · have hvz : updV vs i v z = vs z := by simp [updV, Ne.symm e]
          refine hgo v W (fun _ => by rw [hvz]; exact hv) (fun k hk hlk hne => by rw [hvz]; exact (hI k hk hlk).1 hne) (fun h => ?_) (fun h => ?_)
          · rw [hzz] at h
            have : updV vs i v z = vs z := by simp [updV, Ne.symm e]
            rw [this]
            exact hZ.1 h
          · rw [hzz] at h
            exact hZ.2 h

/-- A whole region. -/
theorem wpIn_region_inv {id : Nat} {a : Act} {w : World} (hm : P.follows .mixedOrders = true) (z : Nat) (is : List Nat) (deps : Nat → List Nat) (f : Nat → Value → Value → Prop) (Gz : Value → World → Prop)
    (hlen : is.length ≤ ops.size) (hds : dsOk ops is = true) (hchk : invOk .any ops (Array.replicate ops.size false) is deps = true) (hz : (is.all fun i => i == z || ((deps z).contains i || (deps i).contains z)) = true) (hzi : z ∈ is) (hf : ∀ i, (deps i).contains z = false → ∀ v a b, f i v a → f i v b)
    (hops : OpsQ F n P ops Q z deps f Gz w.drew is a is) (hopz : OpZ F n P ops Q z deps f Gz w.drew is a)
    (hend : ∀ (vs : Nat → Value) (W : World), Gz (vs z) W → (∀ i ∈ is, i ≠ z → f i (vs i) (vs z)) → Q .normal (putAll ops vs is a) W) : (Code.region id ops true).wpIn F n P Q a w := by
  refine wpIn_region_any hm ?_
  have hfalse : ∀ i, i ∈ is → (Array.replicate ops.size false).getD i true = false := by
    intro i hi
    simp only [invOk, Bool.and_eq_true, List.all_eq_true, decide_eq_true_eq] at hchk
    have := (hchk.2 i hi).1.1.2
    simp [Array.getD, this]
  have hcnt : (is.filter fun i => !(Array.replicate ops.size false).getD i true).length ≤ ops.size := Nat.le_trans (List.length_filter_le _ _) hlen
  have := wpAnyIn_inv (F := F) (n := n) (P := P) (md := .any) (Q := Q) z is deps f Gz w.drew (Array.replicate ops.size false) a hds hchk hz hzi hf hops hopz hend ops.size (Array.replicate ops.size false) (fun i => ownV a (dstOf ops i)) w.drew rfl (fun _ _ => rfl)
    (fun i hi hx => by rw [hfalse i hi] at hx; cases hx) ⟨fun hx => (by rw [hfalse z hzi] at hx; cases hx), fun _ => rfl⟩ hcnt
  rw [putAll_self] at this
  exact this
end
end Go.Proofs.Ytcibihakjcenaaa

namespace Go.Proofs.Ytcibihakjcenaaa
open Go.RowKit Go.Shelf
attribute [local go_sem] Oper.semAt_some

theorem or_u8 (a b : UInt8) : bits .or .u8 (a.toNat : Int) (b.toNat : Int) = ((a ||| b).toNat : Int) := by
  simp only [bits, IntKind.bits]
  rw [BitVec.ofInt_natCast, BitVec.ofInt_natCast]
  have ha := a.toNat_lt
  have hb := b.toNat_lt
  rw [IntKind.wrap_u8]
  have e : ((BitVec.ofNat 8 a.toNat ||| BitVec.ofNat 8 b.toNat).toNat) = (a ||| b).toNat := by
    rw [BitVec.toNat_or, BitVec.toNat_ofNat, BitVec.toNat_ofNat, UInt8.toNat_or, Nat.mod_eq_of_lt ha, Nat.mod_eq_of_lt hb]
  have h2 := (a ||| b).toNat_lt
  show (((BitVec.ofNat 8 a.toNat ||| BitVec.ofNat 8 b.toNat).toNat : Nat) : Int) % 256 = _
  rw [e]
  omega
theorem or_zero_iff (a b : UInt8) : (a ||| b).toNat = 0 ↔ a = 0 ∧ b = 0 := by
  rw [UInt8.toNat_or]
  constructor
  · intro h
    have h1 := Nat.left_le_or (n := a.toNat) (m := b.toNat)
    have h2 := Nat.right_le_or (n := a.toNat) (m := b.toNat)
    exact ⟨u8_inj (by show a.toNat = 0; omega), u8_inj (by show b.toNat = 0; omega)⟩
  · rintro ⟨rfl, rfl⟩
    rfl

/-- What the iterator has given when k places are over. -/
def freeF (s : StoreL) (k : Nat) : List (Fin 256) := (List.range k).filterMap fun j => if h : j < 256 then (if noneAt s j then some ⟨j, h⟩ else none) else none
theorem freeF_succ (s : StoreL) (k : Nat) (hk : k < 256) : freeF s (k + 1) = if noneAt s k then freeF s k ++ [⟨k, hk⟩] else freeF s k := by
  unfold freeF
  rw [List.range_succ, List.filterMap_append]
  cases h : noneAt s k <;> simp [h, hk]
theorem freeF_map (s : StoreL) (k : Nat) (hk : k ≤ 256) : (freeF s k).map (·.1) = freeN s k := by
  induction k with
  | zero => rfl
  | succ k ih =>
    rw [freeF_succ s k (by omega), freeN_succ, ← ih (by omega)]
    split
    · simp
    · rfl
theorem freeF_eight (s : StoreL) : freeF s 8 = [] := by
  have h := freeF_map s 8 (by omega)
  rw [freeN_eight] at h
  exact List.map_eq_nil_iff.1 h
theorem freeF_len (s : StoreL) (k : Nat) (hk : k ≤ 256) : (freeF s k).length ≤ k := by
  have h := congrArg List.length (freeF_map s k hk)
  rw [List.length_map] at h
  rw [h]
  have := List.length_filter_le (noneAt s) (List.range k)
  rw [List.length_range] at this
  exact this

/-- What the rounds must keep: all below n0, and the block Bs. -/
def KeepF (n₀ Bs : Nat) (A B : World) : Prop := Below n₀ A B ∧ B.heap[Bs]? = A.heap[Bs]?
theorem KeepF.refl (n₀ Bs : Nat) (A : World) : KeepF n₀ Bs A A := ⟨Below.refl _ _, rfl⟩
theorem KeepF.trans {n₀ Bs : Nat} {A B C : World} (h : KeepF n₀ Bs A B) (k : KeepF n₀ Bs B C) : KeepF n₀ Bs A C := ⟨h.1.trans k.1, k.2.trans h.2⟩
theorem keepF_b {w : World} {n₀ Bs : Nat} (hn : n₀ ≤ w.heap.size) (hB : Bs < w.heap.size) : ∀ (W : World) (l : Nat) (o o' : Obj), w.heap.size ≤ l → W.heap[l]? = some o → o.isCells = false → o.isWalk = false → KeepF n₀ Bs W (W.putObj l o') :=
  fun W l o o' h1 h2 h3 h4 => ⟨belowK_b hn W l o o' h1 h2 h3 h4, (belowK_b (w := w) (n₀ := Bs + 1) (by omega) W l o o' h1 h2 h3 h4).block Bs (Nat.lt_succ_self _)⟩
def encF (x : Fin 256) : Array Value := #[.int .i64 (x.1 : Int)]

set_option maxRecDepth 100000 in
set_option maxHeartbeats 2000000 in
theorem free1_in (n : Nat) (hn : 1 ≤ n) (l Bs n₀ nb no nc lb lo lc : Nat) (b0 u0 : Value) (T : TypeId) (s : StoreL) (hnl : s.now.length = 256) (hll : s.last.length = 256)
    (_hnc : 256 ≤ nc) (_hncm : nc ≤ maxLen) (_hlc : 256 ≤ lc) (_hlcm : lc ≤ maxLen) (hnb : nb < n₀) (hlb : lb < n₀) (J Jx : List (Fin 256) → World → Prop) (hJd : ∀ s W, J s W → J s W.drew)
    (hY : ∀ pre x W, J pre W → pre.length < 256 → YieldAt Fence.wide (n - 1) Try.prog l (encF x) W fun e W' =>
      (e = .returned (.bool true) ∧ J (pre ++ [x]) W' ∧ KeepF n₀ Bs W W') ∨ (e = .returned (.bool false) ∧ Jx (pre ++ [x]) W'))
    (W : World) (hBs : W.heap[Bs]? = some (.cells #[b0, u0, .slice (some ⟨nb, no, none⟩) 256 nc, .slice (some ⟨lb, lo, none⟩) 256 lc] T (0, 0)))
    (hc1 : ∀ i x, s.now[i]? = some x → W.cell? ⟨nb, no + i, none⟩ = some (bV x)) (hc2 : ∀ i x, s.last[i]? = some x → W.cell? ⟨lb, lo + i, none⟩ = some (bV x)) (h0 : J [] W) :
    CallsIn Fence.wide n Try.prog 127 #[.func (.yield l) #[] #[], .pointer (some ⟨Bs, 0, none⟩)] W fun e W' => (∃ v, e = .returned v) ∧
      ((∃ ys, ys = freeF s 256 ∧ J ys W') ∨ (∃ pre, (∃ k, k ≤ 256 ∧ pre = freeF s k) ∧ Jx pre W')) := by
  unfold maxLen at _hncm _hlcm
  refine callsIn_of_wp Try.func127 rfl trivial ?_ rfl
  simp only [Try.ntmps127, List.size_toArray, List.length_cons, List.length_nil, Nat.reduceAdd, Nat.reduceSub, Array.replicate_succ, Array.replicate_zero, List.push_toArray, List.append_toArray, List.nil_append, List.cons_append]
  gi_wp2
  gi_loopw [3] (fun i wr => ∃ k : Nat, 8 ≤ k ∧ k ≤ 256 ∧ i = .int .i64 (k : Int) ∧ J (freeF s k) wr ∧ KeepF n₀ Bs W wr) (fun i _ => (256 - intOf i).toNat)
  case atStart => exact ⟨8, Nat.le_refl _, by omega, rfl, by rw [freeF_eight]; exact h0, KeepF.refl _ _ _⟩
  case round =>
    obtain ⟨k, hk8, hk, rfl, hJs, hnx⟩ := hrel
    have hbx : wr.heap[Bs]? = some (.cells #[b0, u0, .slice (some ⟨nb, no, none⟩) 256 nc, .slice (some ⟨lb, lo, none⟩) 256 lc] T (0, 0)) := hnx.2.trans hBs
    by_cases hlt : k < 256
    · have y2 := blk_cell hbx 2
      have y3 := blk_cell hbx 3
      simp at y2 y3
      have e1 : wr.cell? ⟨nb, no + k, none⟩ = some (bV (s.now.getD k 0)) := (hnx.1.cell (p := ⟨nb, no + k, none⟩) hnb).trans (hc1 k _ (get_l _ _ _ (by omega)))
      have e2 : wr.cell? ⟨lb, lo + k, none⟩ = some (bV (s.last.getD k 0)) := (hnx.1.cell (p := ⟨lb, lo + k, none⟩) hlb).trans (hc2 k _ (get_l _ _ _ (by omega)))
      have hsucc := freeF_succ s k hlt
      have hor := or_u8 (s.now.getD k 0) (s.last.getD k 0)
      have hoz := or_zero_iff (s.now.getD k 0) (s.last.getD k 0)
      have hna : noneAt s k = true ↔ s.now.getD k 0 = 0 ∧ s.last.getD k 0 = 0 := by rw [noneAt_iff]; exact ⟨fun h => h.2, fun h => ⟨hk8, h⟩⟩
      simp only [bV] at e1 e2
      generalize ((s.now.getD k 0) ||| (s.last.getD k 0)).toNat = oq at *
      rw [← hoz] at hna
      clear hoz
      generalize ((s.now.getD k 0).toNat : Int) = q1 at *
      generalize ((s.last.getD k 0).toNat : Int) = q2 at *
      have f2 : wr.drew.cell? ⟨Bs, 2, none⟩ = some (.slice (some ⟨nb, no, none⟩) 256 nc) := y2
      have f3 : wr.drew.cell? ⟨Bs, 3, none⟩ = some (.slice (some ⟨lb, lo, none⟩) 256 lc) := y3
      have f4 : wr.drew.cell? ⟨nb, no + k, none⟩ = some (.int .u8 q1) := e1
      have f5 : wr.drew.cell? ⟨lb, lo + k, none⟩ = some (.int .u8 q2) := e2
      have i9 : ¬ ((256 : Int) ≤ k) := by omega
      cases hnone : noneAt s k
      case false =>
        rw [hnone] at hsucc hna
        have hq : ¬ (oq : Int) = 0 := fun e => by have := hna.2 (by omega); cases this
        have HS := Lib.hid hsucc
        have HJ := Lib.hid (And.intro hJs hnx)
        clear hsucc hna hnone hJs hnx hY hbx
        have hq' : ((oq : Int) == 0) = false := by simp only [beq_eq_false_iff_ne]; exact hq
        gi_wp2
        obtain ⟨fv, hfv⟩ : ∃ fv : List (Option Value), fv = ([some (.pointer (some ⟨Bs, 2, none⟩)), some (.slice (some ⟨nb, no, none⟩) 256 nc), some (.int .i64 (k : Int)), some (.pointer (some ⟨nb, no + k, none⟩)), some (.int .u8 q1), some (.pointer (some ⟨Bs, 3, none⟩)), some (.slice (some ⟨lb, lo, none⟩) 256 lc), some (.int .i64 (k : Int)), some (.pointer (some ⟨lb, lo + k, none⟩)), some (.int .u8 q2), some (.int .u8 (oq : Int)), some (.bool false), some (.bool false), some (undef), some (undef), some (undef), some (undef)] : List (Option Value)) := ⟨_, rfl⟩
        have g0 : fv.getD 0 none = some (.pointer (some ⟨Bs, 2, none⟩)) := by rw [hfv]; rfl
        have g1 : fv.getD 1 none = some (.slice (some ⟨nb, no, none⟩) 256 nc) := by rw [hfv]; rfl
        have g2 : fv.getD 2 none = some (.int .i64 (k : Int)) := by rw [hfv]; rfl
        have g3 : fv.getD 3 none = some (.pointer (some ⟨nb, no + k, none⟩)) := by rw [hfv]; rfl
        have g4 : fv.getD 4 none = some (.int .u8 q1) := by rw [hfv]; rfl
        have g5 : fv.getD 5 none = some (.pointer (some ⟨Bs, 3, none⟩)) := by rw [hfv]; rfl
        have g6 : fv.getD 6 none = some (.slice (some ⟨lb, lo, none⟩) 256 lc) := by rw [hfv]; rfl
        have g7 : fv.getD 7 none = some (.int .i64 (k : Int)) := by rw [hfv]; rfl
        have g8 : fv.getD 8 none = some (.pointer (some ⟨lb, lo + k, none⟩)) := by rw [hfv]; rfl
        have g9 : fv.getD 9 none = some (.int .u8 q2) := by rw [hfv]; rfl
        have g10 : fv.getD 10 none = some (.int .u8 (oq : Int)) := by rw [hfv]; rfl
        have g11 : fv.getD 11 none = some (.bool false) := by rw [hfv]; rfl
        have g12 : fv.getD 12 none = some (.bool false) := by rw [hfv]; rfl
        have g13 : fv.getD 13 none = some (undef) := by rw [hfv]; rfl
        have g14 : fv.getD 14 none = some (undef) := by rw [hfv]; rfl
        have g15 : fv.getD 15 none = some (undef) := by rw [hfv]; rfl
        have g16 : fv.getD 16 none = some (undef) := by rw [hfv]; rfl
        clear hfv
        refine wpIn_region_inv (by kernel_rfl) 17 [0, 1, 2, 3, 4, 5, 6, 7, 8, 9, 10, 11, 12, 13, 14, 15, 16, 17] (fun i => ([[], [0], [], [0, 1, 2], [0, 1, 2, 3], [], [5], [], [5, 6, 7], [5, 6, 7, 8], [0, 1, 2, 3, 4, 5, 6, 7, 8, 9], [0, 1, 2, 3, 4, 5, 6, 7, 8, 9, 10], [0, 1, 2, 3, 4, 5, 6, 7, 8, 9, 10, 11], [0, 1, 2, 3, 4, 5, 6, 7, 8, 9, 10, 11, 12], [0, 1, 2, 3, 4, 5, 6, 7, 8, 9, 10, 11, 12], [0, 1, 2, 3, 4, 5, 6, 7, 8, 9, 10, 11, 12, 13, 14], [0, 1, 2, 3, 4, 5, 6, 7, 8, 9, 10, 11, 12, 13, 14, 15], [0, 1, 2, 3, 4, 5, 6, 7, 8, 9, 10, 11, 12, 13, 14, 15, 16]] : List (List Nat)).getD i []) (fun i v _ => ∀ u, fv.getD i none = some u → v = u) (fun v W3 => v = .bool false ∧ W3 = wr.drew)
          (by decide) (by kernel_rfl) (by kernel_rfl) (by kernel_rfl) (by decide) (fun i hc v a b h => h) ?hqA ?hqB ?hqC
        case hqA =>
          refine OpsQ.cons _ (by simp only [List.getElem?_toArray, List.getElem?_cons_zero]; rfl) (fun vs V hd h1 h2 K hK => ?_) ?_
          · simp only [putAll, dstOf, List.getElem?_toArray, List.getElem?_cons_succ, List.getElem?_cons_zero, Option.bind_some, Act.put, List.setIfInBounds_toArray, List.set_cons_succ, List.set_cons_zero] at hK ⊢
            obtain rfl := h2 rfl
            go_simp
            exact hK _ (fun u hu => by rw [g0] at hu; cases hu; rfl)
          refine OpsQ.cons _ (by simp only [List.getElem?_toArray, List.getElem?_cons_succ, List.getElem?_cons_zero]; rfl) (fun vs V hd h1 h2 K hK => ?_) ?_
          · simp only [putAll, dstOf, List.getElem?_toArray, List.getElem?_cons_succ, List.getElem?_cons_zero, Option.bind_some, Act.put, List.setIfInBounds_toArray, List.set_cons_succ, List.set_cons_zero] at hK ⊢
            obtain rfl := h2 rfl
            have e0 := (hd 0 (by simp) (by decide)) _ g0
            simp only [e0] at hK ⊢
            go_simp
            exact hK _ (fun u hu => by rw [g1] at hu; cases hu; rfl)
          refine OpsQ.cons _ (by simp only [List.getElem?_toArray, List.getElem?_cons_succ, List.getElem?_cons_zero]; rfl) (fun vs V hd h1 h2 K hK => ?_) ?_
          · simp only [putAll, dstOf, List.getElem?_toArray, List.getElem?_cons_succ, List.getElem?_cons_zero, Option.bind_some, Act.put, List.setIfInBounds_toArray, List.set_cons_succ, List.set_cons_zero] at hK ⊢
            obtain rfl := h2 rfl
            go_simp
            exact hK _ (fun u hu => by rw [g2] at hu; cases hu; rfl)
          refine OpsQ.cons _ (by simp only [List.getElem?_toArray, List.getElem?_cons_succ, List.getElem?_cons_zero]; rfl) (fun vs V hd h1 h2 K hK => ?_) ?_
          · simp only [putAll, dstOf, List.getElem?_toArray, List.getElem?_cons_succ, List.getElem?_cons_zero, Option.bind_some, Act.put, List.setIfInBounds_toArray, List.set_cons_succ, List.set_cons_zero] at hK ⊢
            obtain rfl := h2 rfl
            have e1 := (hd 1 (by simp) (by decide)) _ g1
            have e2 := (hd 2 (by simp) (by decide)) _ g2
            simp only [e1, e2] at hK ⊢
            go_simp
            exact hK _ (fun u hu => by rw [g3] at hu; cases hu; rfl)
          refine OpsQ.cons _ (by simp only [List.getElem?_toArray, List.getElem?_cons_succ, List.getElem?_cons_zero]; rfl) (fun vs V hd h1 h2 K hK => ?_) ?_
          · simp only [putAll, dstOf, List.getElem?_toArray, List.getElem?_cons_succ, List.getElem?_cons_zero, Option.bind_some, Act.put, List.setIfInBounds_toArray, List.set_cons_succ, List.set_cons_zero] at hK ⊢
            obtain rfl := h2 rfl
            have e3 := (hd 3 (by simp) (by decide)) _ g3
            simp only [e3] at hK ⊢
            go_simp
            exact hK _ (fun u hu => by rw [g4] at hu; cases hu; rfl)
          refine OpsQ.cons _ (by simp only [List.getElem?_toArray, List.getElem?_cons_succ, List.getElem?_cons_zero]; rfl) (fun vs V hd h1 h2 K hK => ?_) ?_
          · simp only [putAll, dstOf, List.getElem?_toArray, List.getElem?_cons_succ, List.getElem?_cons_zero, Option.bind_some, Act.put, List.setIfInBounds_toArray, List.set_cons_succ, List.set_cons_zero] at hK ⊢
            obtain rfl := h2 rfl
            go_simp
            exact hK _ (fun u hu => by rw [g5] at hu; cases hu; rfl)
          refine OpsQ.cons _ (by simp only [List.getElem?_toArray, List.getElem?_cons_succ, List.getElem?_cons_zero]; rfl) (fun vs V hd h1 h2 K hK => ?_) ?_
          · simp only [putAll, dstOf, List.getElem?_toArray, List.getElem?_cons_succ, List.getElem?_cons_zero, Option.bind_some, Act.put, List.setIfInBounds_toArray, List.set_cons_succ, List.set_cons_zero] at hK ⊢
            obtain rfl := h2 rfl
            have e5 := (hd 5 (by simp) (by decide)) _ g5
            simp only [e5] at hK ⊢
            go_simp
            exact hK _ (fun u hu => by rw [g6] at hu; cases hu; rfl)
          refine OpsQ.cons _ (by simp only [List.getElem?_toArray, List.getElem?_cons_succ, List.getElem?_cons_zero]; rfl) (fun vs V hd h1 h2 K hK => ?_) ?_
          · simp only [putAll, dstOf, List.getElem?_toArray, List.getElem?_cons_succ, List.getElem?_cons_zero, Option.bind_some, Act.put, List.setIfInBounds_toArray, List.set_cons_succ, List.set_cons_zero] at hK ⊢
            obtain rfl := h2 rfl
            go_simp
            exact hK _ (fun u hu => by rw [g7] at hu; cases hu; rfl)
          refine OpsQ.cons _ (by simp only [List.getElem?_toArray, List.getElem?_cons_succ, List.getElem?_cons_zero]; rfl) (fun vs V hd h1 h2 K hK => ?_) ?_
          · simp only [putAll, dstOf, List.getElem?_toArray, List.getElem?_cons_succ, List.getElem?_cons_zero, Option.bind_some, Act.put, List.setIfInBounds_toArray, List.set_cons_succ, List.set_cons_zero] at hK ⊢
            obtain rfl := h2 rfl
            have e6 := (hd 6 (by simp) (by decide)) _ g6
            have e7 := (hd 7 (by simp) (by decide)) _ g7
            simp only [e6, e7] at hK ⊢
            go_simp
            exact hK _ (fun u hu => by rw [g8] at hu; cases hu; rfl)
          refine OpsQ.cons _ (by simp only [List.getElem?_toArray, List.getElem?_cons_succ, List.getElem?_cons_zero]; rfl) (fun vs V hd h1 h2 K hK => ?_) ?_
          · simp only [putAll, dstOf, List.getElem?_toArray, List.getElem?_cons_succ, List.getElem?_cons_zero, Option.bind_some, Act.put, List.setIfInBounds_toArray, List.set_cons_succ, List.set_cons_zero] at hK ⊢
            obtain rfl := h2 rfl
            have e8 := (hd 8 (by simp) (by decide)) _ g8
            simp only [e8] at hK ⊢
            go_simp
            exact hK _ (fun u hu => by rw [g9] at hu; cases hu; rfl)
          refine OpsQ.cons _ (by simp only [List.getElem?_toArray, List.getElem?_cons_succ, List.getElem?_cons_zero]; rfl) (fun vs V hd h1 h2 K hK => ?_) ?_
          · simp only [putAll, dstOf, List.getElem?_toArray, List.getElem?_cons_succ, List.getElem?_cons_zero, Option.bind_some, Act.put, List.setIfInBounds_toArray, List.set_cons_succ, List.set_cons_zero] at hK ⊢
            obtain rfl := h2 rfl
            have e4 := (hd 4 (by simp) (by decide)) _ g4
            have e9 := (hd 9 (by simp) (by decide)) _ g9
            simp only [e4, e9] at hK ⊢
            go_simp
            exact hK _ (fun u hu => by rw [g10] at hu; cases hu; rfl)
          refine OpsQ.cons _ (by simp only [List.getElem?_toArray, List.getElem?_cons_succ, List.getElem?_cons_zero]; rfl) (fun vs V hd h1 h2 K hK => ?_) ?_
          · simp only [putAll, dstOf, List.getElem?_toArray, List.getElem?_cons_succ, List.getElem?_cons_zero, Option.bind_some, Act.put, List.setIfInBounds_toArray, List.set_cons_succ, List.set_cons_zero] at hK ⊢
            obtain rfl := h2 rfl
            have e10 := (hd 10 (by simp) (by decide)) _ g10
            simp only [e10] at hK ⊢
            go_simp
            exact hK _ (fun u hu => by rw [g11] at hu; cases hu; rfl)
          refine OpsQ.cons _ (by simp only [List.getElem?_toArray, List.getElem?_cons_succ, List.getElem?_cons_zero]; rfl) (fun vs V hd h1 h2 K hK => ?_) ?_
          · simp only [putAll, dstOf, List.getElem?_toArray, List.getElem?_cons_succ, List.getElem?_cons_zero, Option.bind_some, Act.put, List.setIfInBounds_toArray, List.set_cons_succ, List.set_cons_zero] at hK ⊢
            obtain rfl := h2 rfl
            have e11 := (hd 11 (by simp) (by decide)) _ g11
            simp only [e11] at hK ⊢
            go_simp
            exact hK _ (fun u hu => by rw [g12] at hu; cases hu; rfl)
          refine OpsQ.cons _ (by simp only [List.getElem?_toArray, List.getElem?_cons_succ, List.getElem?_cons_zero]; rfl) (fun vs V hd h1 h2 K hK => ?_) ?_
          · simp only [putAll, dstOf, List.getElem?_toArray, List.getElem?_cons_succ, List.getElem?_cons_zero, Option.bind_some, Act.put, List.setIfInBounds_toArray, List.set_cons_succ, List.set_cons_zero] at hK ⊢
            obtain rfl := h2 rfl
            have e12 := (hd 12 (by simp) (by decide)) _ g12
            simp only [e12] at hK ⊢
            go_simp
            exact hK _ (fun u hu => by rw [g13] at hu; cases hu; rfl)
          refine OpsQ.cons _ (by simp only [List.getElem?_toArray, List.getElem?_cons_succ, List.getElem?_cons_zero]; rfl) (fun vs V hd h1 h2 K hK => ?_) ?_
          · simp only [putAll, dstOf, List.getElem?_toArray, List.getElem?_cons_succ, List.getElem?_cons_zero, Option.bind_some, Act.put, List.setIfInBounds_toArray, List.set_cons_succ, List.set_cons_zero] at hK ⊢
            obtain rfl := h2 rfl
            have e12 := (hd 12 (by simp) (by decide)) _ g12
            simp only [e12] at hK ⊢
            go_simp
            exact hK _ (fun u hu => by rw [g14] at hu; cases hu; rfl)
          refine OpsQ.cons _ (by simp only [List.getElem?_toArray, List.getElem?_cons_succ, List.getElem?_cons_zero]; rfl) (fun vs V hd h1 h2 K hK => ?_) ?_
          · simp only [putAll, dstOf, List.getElem?_toArray, List.getElem?_cons_succ, List.getElem?_cons_zero, Option.bind_some, Act.put, List.setIfInBounds_toArray, List.set_cons_succ, List.set_cons_zero] at hK ⊢
            obtain rfl := h2 rfl
            have e12 := (hd 12 (by simp) (by decide)) _ g12
            have e13 := (hd 13 (by simp) (by decide)) _ g13
            have e14 := (hd 14 (by simp) (by decide)) _ g14
            simp only [e12, e13, e14] at hK ⊢
            go_simp
            exact ⟨fun _ _ => trivial, hK _ (fun u hu => by rw [g15] at hu; cases hu; rfl)⟩
          refine OpsQ.cons _ (by simp only [List.getElem?_toArray, List.getElem?_cons_succ, List.getElem?_cons_zero]; rfl) (fun vs V hd h1 h2 K hK => ?_) ?_
          · simp only [putAll, dstOf, List.getElem?_toArray, List.getElem?_cons_succ, List.getElem?_cons_zero, Option.bind_some, Act.put, List.setIfInBounds_toArray, List.set_cons_succ, List.set_cons_zero] at hK ⊢
            obtain rfl := h2 rfl
            have e12 := (hd 12 (by simp) (by decide)) _ g12
            simp only [e12] at hK ⊢
            go_simp
            exact hK _ (fun u hu => by rw [g16] at hu; cases hu; rfl)
          refine OpsQ.skip ?_
          exact OpsQ.nil
        case hqB =>
          intro o ho vs V hV hd K hK
          simp only [List.getElem?_toArray, List.getElem?_cons_succ, List.getElem?_cons_zero, Option.some.injEq] at ho
          subst ho
          subst hV
          simp only [putAll, dstOf, List.getElem?_toArray, List.getElem?_cons_succ, List.getElem?_cons_zero, Option.bind_some, Act.put, List.setIfInBounds_toArray, List.set_cons_succ, List.set_cons_zero] at hK ⊢
          have e12 := (hd 12 (by simp) (by decide)) _ g12
          have e16 := (hd 16 (by simp) (by decide)) _ g16
          simp only [e12, e16] at hK ⊢
          go_simp
          exact hK _ _ ⟨rfl, rfl⟩
        case hqC =>
        intro vs W3 hz hfs
        obtain ⟨e17, rfl⟩ := hz
        simp only [putAll, dstOf, List.getElem?_toArray, List.getElem?_cons_succ, List.getElem?_cons_zero, Option.bind_some, Act.put, List.setIfInBounds_toArray, List.set_cons_succ, List.set_cons_zero]
        simp only [e17]
        gi_wp2
        go_roundw
        case rel => exact ⟨k + 1, by omega, by omega, by go_num, by rw [HS.out]; exact hJd _ _ HJ.out.1, HJ.out.2.trans ⟨(Below.refl _ _).drew, rfl⟩⟩
        case measure => (simp [intOf]; omega)
      case true =>
        rw [hnone] at hsucc hna
        obtain rfl : oq = 0 := hna.1 rfl
        obtain ⟨fn, tmps, assign, body, hy, hR⟩ := hY _ ⟨k, hlt⟩ wr.drew (hJd _ _ hJs) (by have := freeF_len s k hk; omega)
        have hy' : (Instr.yield l #[.int .i64 (k : Int)]).run Try.prog wr.drew = .ok (.round l fn tmps assign body) wr.drew := hy
        have HS := Lib.hid hsucc
        have HJ := Lib.hid hnx
        have z0 : ((0 : Nat) : Int) = 0 := rfl
        rw [z0] at hor
        clear hsucc hna hnone hJs hnx hY hbx hy z0
        have hR2 := hR.mono (fun e W3 h => (show ∃ b : Bool, e = .returned (.bool b) ∧ ((b = true ∧ J (freeF s k ++ [⟨k, hlt⟩]) W3 ∧ KeepF n₀ Bs wr.drew W3) ∨ (b = false ∧ Jx (freeF s k ++ [⟨k, hlt⟩]) W3)) from
          h.elim (fun h => ⟨true, h.1, .inl ⟨rfl, h.2⟩⟩) (fun h => ⟨false, h.1, .inr ⟨rfl, h.2⟩⟩)))
        have HR := Lib.hid hR2
        clear hR hR2
        gi_wp2
        obtain ⟨fv, hfv⟩ : ∃ fv : List (Option Value), fv = ([some (.pointer (some ⟨Bs, 2, none⟩)), some (.slice (some ⟨nb, no, none⟩) 256 nc), some (.int .i64 (k : Int)), some (.pointer (some ⟨nb, no + k, none⟩)), some (.int .u8 q1), some (.pointer (some ⟨Bs, 3, none⟩)), some (.slice (some ⟨lb, lo, none⟩) 256 lc), some (.int .i64 (k : Int)), some (.pointer (some ⟨lb, lo + k, none⟩)), some (.int .u8 q2), some (.int .u8 0), some (.bool true), some (.bool true), some (.func (.yield l) #[] #[]), some (.int .i64 (k : Int))] : List (Option Value)) := ⟨_, rfl⟩
        have g0 : fv.getD 0 none = some (.pointer (some ⟨Bs, 2, none⟩)) := by rw [hfv]; rfl
        have g1 : fv.getD 1 none = some (.slice (some ⟨nb, no, none⟩) 256 nc) := by rw [hfv]; rfl
        have g2 : fv.getD 2 none = some (.int .i64 (k : Int)) := by rw [hfv]; rfl
        have g3 : fv.getD 3 none = some (.pointer (some ⟨nb, no + k, none⟩)) := by rw [hfv]; rfl
        have g4 : fv.getD 4 none = some (.int .u8 q1) := by rw [hfv]; rfl
        have g5 : fv.getD 5 none = some (.pointer (some ⟨Bs, 3, none⟩)) := by rw [hfv]; rfl
        have g6 : fv.getD 6 none = some (.slice (some ⟨lb, lo, none⟩) 256 lc) := by rw [hfv]; rfl
        have g7 : fv.getD 7 none = some (.int .i64 (k : Int)) := by rw [hfv]; rfl
        have g8 : fv.getD 8 none = some (.pointer (some ⟨lb, lo + k, none⟩)) := by rw [hfv]; rfl
        have g9 : fv.getD 9 none = some (.int .u8 q2) := by rw [hfv]; rfl
        have g10 : fv.getD 10 none = some (.int .u8 0) := by rw [hfv]; rfl
        have g11 : fv.getD 11 none = some (.bool true) := by rw [hfv]; rfl
        have g12 : fv.getD 12 none = some (.bool true) := by rw [hfv]; rfl
        have g13 : fv.getD 13 none = some (.func (.yield l) #[] #[]) := by rw [hfv]; rfl
        have g14 : fv.getD 14 none = some (.int .i64 (k : Int)) := by rw [hfv]; rfl
        have g15 : ∀ i, 15 ≤ i → fv.getD i none = none := fun i hi => by rw [hfv, List.getD_eq_getElem?_getD, List.getElem?_eq_none (by simpa using hi)]; rfl
        clear hfv
        refine wpIn_region_inv (by kernel_rfl) 15 [0, 1, 2, 3, 4, 5, 6, 7, 8, 9, 10, 11, 12, 13, 14, 15, 16, 17] (fun i => ([[], [0], [], [0, 1, 2], [0, 1, 2, 3], [], [5], [], [5, 6, 7], [5, 6, 7, 8], [0, 1, 2, 3, 4, 5, 6, 7, 8, 9], [0, 1, 2, 3, 4, 5, 6, 7, 8, 9, 10], [0, 1, 2, 3, 4, 5, 6, 7, 8, 9, 10, 11], [0, 1, 2, 3, 4, 5, 6, 7, 8, 9, 10, 11, 12], [0, 1, 2, 3, 4, 5, 6, 7, 8, 9, 10, 11, 12], [0, 1, 2, 3, 4, 5, 6, 7, 8, 9, 10, 11, 12, 13, 14], [0, 1, 2, 3, 4, 5, 6, 7, 8, 9, 10, 11, 12, 13, 14, 15], [0, 1, 2, 3, 4, 5, 6, 7, 8, 9, 10, 11, 12, 13, 14, 15, 16]] : List (List Nat)).getD i []) (fun i v zv => (∀ u, fv.getD i none = some u → v = u) ∧ (i = 16 → ∀ b : Bool, zv = .bool b → v = .bool (!b)) ∧ (i = 17 → ∀ b : Bool, zv = .bool b → v = .bool (!b)))
          (fun v W3 => ∃ b : Bool, v = .bool b ∧ ((b = true ∧ J (freeF s k ++ [⟨k, hlt⟩]) W3 ∧ KeepF n₀ Bs wr.drew W3) ∨ (b = false ∧ Jx (freeF s k ++ [⟨k, hlt⟩]) W3)))
          (by decide) (by kernel_rfl) (by kernel_rfl) (by kernel_rfl) (by decide) (fun i hc v a b h => ⟨h.1, fun e => by subst e; exact absurd hc (by decide), fun e => by subst e; exact absurd hc (by decide)⟩) ?hqA ?hqB ?hqC
        case hqA =>
          refine OpsQ.cons _ (by simp only [List.getElem?_toArray, List.getElem?_cons_zero]; rfl) (fun vs V hd h1 h2 K hK => ?_) ?_
          · simp only [putAll, dstOf, List.getElem?_toArray, List.getElem?_cons_succ, List.getElem?_cons_zero, Option.bind_some, Act.put, List.setIfInBounds_toArray, List.set_cons_succ, List.set_cons_zero] at hK ⊢
            obtain rfl := h2 rfl
            go_simp
            exact hK _ ⟨fun u hu => (by rw [g0] at hu; cases hu; rfl), fun e => (by cases e), fun e => (by cases e)⟩
          refine OpsQ.cons _ (by simp only [List.getElem?_toArray, List.getElem?_cons_succ, List.getElem?_cons_zero]; rfl) (fun vs V hd h1 h2 K hK => ?_) ?_
          · simp only [putAll, dstOf, List.getElem?_toArray, List.getElem?_cons_succ, List.getElem?_cons_zero, Option.bind_some, Act.put, List.setIfInBounds_toArray, List.set_cons_succ, List.set_cons_zero] at hK ⊢
            obtain rfl := h2 rfl
            have e0 := (hd 0 (by simp) (by decide)).1 _ g0
            simp only [e0] at hK ⊢
            go_simp
            exact hK _ ⟨fun u hu => (by rw [g1] at hu; cases hu; rfl), fun e => (by cases e), fun e => (by cases e)⟩
          refine OpsQ.cons _ (by simp only [List.getElem?_toArray, List.getElem?_cons_succ, List.getElem?_cons_zero]; rfl) (fun vs V hd h1 h2 K hK => ?_) ?_
          · simp only [putAll, dstOf, List.getElem?_toArray, List.getElem?_cons_succ, List.getElem?_cons_zero, Option.bind_some, Act.put, List.setIfInBounds_toArray, List.set_cons_succ, List.set_cons_zero] at hK ⊢
            obtain rfl := h2 rfl
            go_simp
            exact hK _ ⟨fun u hu => (by rw [g2] at hu; cases hu; rfl), fun e => (by cases e), fun e => (by cases e)⟩
          refine OpsQ.cons _ (by simp only [List.getElem?_toArray, List.getElem?_cons_succ, List.getElem?_cons_zero]; rfl) (fun vs V hd h1 h2 K hK => ?_) ?_
          · simp only [putAll, dstOf, List.getElem?_toArray, List.getElem?_cons_succ, List.getElem?_cons_zero, Option.bind_some, Act.put, List.setIfInBounds_toArray, List.set_cons_succ, List.set_cons_zero] at hK ⊢
            obtain rfl := h2 rfl
            have e1 := (hd 1 (by simp) (by decide)).1 _ g1
            have e2 := (hd 2 (by simp) (by decide)).1 _ g2
            simp only [e1, e2] at hK ⊢
            go_simp
            exact hK _ ⟨fun u hu => (by rw [g3] at hu; cases hu; rfl), fun e => (by cases e), fun e => (by cases e)⟩
          refine OpsQ.cons _ (by simp only [List.getElem?_toArray, List.getElem?_cons_succ, List.getElem?_cons_zero]; rfl) (fun vs V hd h1 h2 K hK => ?_) ?_
          · simp only [putAll, dstOf, List.getElem?_toArray, List.getElem?_cons_succ, List.getElem?_cons_zero, Option.bind_some, Act.put, List.setIfInBounds_toArray, List.set_cons_succ, List.set_cons_zero] at hK ⊢
            obtain rfl := h2 rfl
            have e3 := (hd 3 (by simp) (by decide)).1 _ g3
            simp only [e3] at hK ⊢
            go_simp
            exact hK _ ⟨fun u hu => (by rw [g4] at hu; cases hu; rfl), fun e => (by cases e), fun e => (by cases e)⟩
          refine OpsQ.cons _ (by simp only [List.getElem?_toArray, List.getElem?_cons_succ, List.getElem?_cons_zero]; rfl) (fun vs V hd h1 h2 K hK => ?_) ?_
          · simp only [putAll, dstOf, List.getElem?_toArray, List.getElem?_cons_succ, List.getElem?_cons_zero, Option.bind_some, Act.put, List.setIfInBounds_toArray, List.set_cons_succ, List.set_cons_zero] at hK ⊢
            obtain rfl := h2 rfl
            go_simp
            exact hK _ ⟨fun u hu => (by rw [g5] at hu; cases hu; rfl), fun e => (by cases e), fun e => (by cases e)⟩
          refine OpsQ.cons _ (by simp only [List.getElem?_toArray, List.getElem?_cons_succ, List.getElem?_cons_zero]; rfl) (fun vs V hd h1 h2 K hK => ?_) ?_
          · simp only [putAll, dstOf, List.getElem?_toArray, List.getElem?_cons_succ, List.getElem?_cons_zero, Option.bind_some, Act.put, List.setIfInBounds_toArray, List.set_cons_succ, List.set_cons_zero] at hK ⊢
            obtain rfl := h2 rfl
            have e5 := (hd 5 (by simp) (by decide)).1 _ g5
            simp only [e5] at hK ⊢
            go_simp
            exact hK _ ⟨fun u hu => (by rw [g6] at hu; cases hu; rfl), fun e => (by cases e), fun e => (by cases e)⟩
          refine OpsQ.cons _ (by simp only [List.getElem?_toArray, List.getElem?_cons_succ, List.getElem?_cons_zero]; rfl) (fun vs V hd h1 h2 K hK => ?_) ?_
          · simp only [putAll, dstOf, List.getElem?_toArray, List.getElem?_cons_succ, List.getElem?_cons_zero, Option.bind_some, Act.put, List.setIfInBounds_toArray, List.set_cons_succ, List.set_cons_zero] at hK ⊢
            obtain rfl := h2 rfl
            go_simp
            exact hK _ ⟨fun u hu => (by rw [g7] at hu; cases hu; rfl), fun e => (by cases e), fun e => (by cases e)⟩
          refine OpsQ.cons _ (by simp only [List.getElem?_toArray, List.getElem?_cons_succ, List.getElem?_cons_zero]; rfl) (fun vs V hd h1 h2 K hK => ?_) ?_
          · simp only [putAll, dstOf, List.getElem?_toArray, List.getElem?_cons_succ, List.getElem?_cons_zero, Option.bind_some, Act.put, List.setIfInBounds_toArray, List.set_cons_succ, List.set_cons_zero] at hK ⊢
            obtain rfl := h2 rfl
            have e6 := (hd 6 (by simp) (by decide)).1 _ g6
            have e7 := (hd 7 (by simp) (by decide)).1 _ g7
            simp only [e6, e7] at hK ⊢
            go_simp
            exact hK _ ⟨fun u hu => (by rw [g8] at hu; cases hu; rfl), fun e => (by cases e), fun e => (by cases e)⟩
          refine OpsQ.cons _ (by simp only [List.getElem?_toArray, List.getElem?_cons_succ, List.getElem?_cons_zero]; rfl) (fun vs V hd h1 h2 K hK => ?_) ?_
          · simp only [putAll, dstOf, List.getElem?_toArray, List.getElem?_cons_succ, List.getElem?_cons_zero, Option.bind_some, Act.put, List.setIfInBounds_toArray, List.set_cons_succ, List.set_cons_zero] at hK ⊢
            obtain rfl := h2 rfl
            have e8 := (hd 8 (by simp) (by decide)).1 _ g8
            simp only [e8] at hK ⊢
            go_simp
            exact hK _ ⟨fun u hu => (by rw [g9] at hu; cases hu; rfl), fun e => (by cases e), fun e => (by cases e)⟩
          refine OpsQ.cons _ (by simp only [List.getElem?_toArray, List.getElem?_cons_succ, List.getElem?_cons_zero]; rfl) (fun vs V hd h1 h2 K hK => ?_) ?_
          · simp only [putAll, dstOf, List.getElem?_toArray, List.getElem?_cons_succ, List.getElem?_cons_zero, Option.bind_some, Act.put, List.setIfInBounds_toArray, List.set_cons_succ, List.set_cons_zero] at hK ⊢
            obtain rfl := h2 rfl
            have e4 := (hd 4 (by simp) (by decide)).1 _ g4
            have e9 := (hd 9 (by simp) (by decide)).1 _ g9
            simp only [e4, e9] at hK ⊢
            go_simp
            exact hK _ ⟨fun u hu => (by rw [g10] at hu; cases hu; rfl), fun e => (by cases e), fun e => (by cases e)⟩
          refine OpsQ.cons _ (by simp only [List.getElem?_toArray, List.getElem?_cons_succ, List.getElem?_cons_zero]; rfl) (fun vs V hd h1 h2 K hK => ?_) ?_
          · simp only [putAll, dstOf, List.getElem?_toArray, List.getElem?_cons_succ, List.getElem?_cons_zero, Option.bind_some, Act.put, List.setIfInBounds_toArray, List.set_cons_succ, List.set_cons_zero] at hK ⊢
            obtain rfl := h2 rfl
            have e10 := (hd 10 (by simp) (by decide)).1 _ g10
            simp only [e10] at hK ⊢
            go_simp
            exact hK _ ⟨fun u hu => (by rw [g11] at hu; cases hu; rfl), fun e => (by cases e), fun e => (by cases e)⟩
          refine OpsQ.cons _ (by simp only [List.getElem?_toArray, List.getElem?_cons_succ, List.getElem?_cons_zero]; rfl) (fun vs V hd h1 h2 K hK => ?_) ?_
          · simp only [putAll, dstOf, List.getElem?_toArray, List.getElem?_cons_succ, List.getElem?_cons_zero, Option.bind_some, Act.put, List.setIfInBounds_toArray, List.set_cons_succ, List.set_cons_zero] at hK ⊢
            obtain rfl := h2 rfl
            have e11 := (hd 11 (by simp) (by decide)).1 _ g11
            simp only [e11] at hK ⊢
            go_simp
            exact hK _ ⟨fun u hu => (by rw [g12] at hu; cases hu; rfl), fun e => (by cases e), fun e => (by cases e)⟩
          refine OpsQ.cons _ (by simp only [List.getElem?_toArray, List.getElem?_cons_succ, List.getElem?_cons_zero]; rfl) (fun vs V hd h1 h2 K hK => ?_) ?_
          · simp only [putAll, dstOf, List.getElem?_toArray, List.getElem?_cons_succ, List.getElem?_cons_zero, Option.bind_some, Act.put, List.setIfInBounds_toArray, List.set_cons_succ, List.set_cons_zero] at hK ⊢
            obtain rfl := h2 rfl
            have e12 := (hd 12 (by simp) (by decide)).1 _ g12
            simp only [e12] at hK ⊢
            go_simp
            exact hK _ ⟨fun u hu => (by rw [g13] at hu; cases hu; rfl), fun e => (by cases e), fun e => (by cases e)⟩
          refine OpsQ.cons _ (by simp only [List.getElem?_toArray, List.getElem?_cons_succ, List.getElem?_cons_zero]; rfl) (fun vs V hd h1 h2 K hK => ?_) ?_
          · simp only [putAll, dstOf, List.getElem?_toArray, List.getElem?_cons_succ, List.getElem?_cons_zero, Option.bind_some, Act.put, List.setIfInBounds_toArray, List.set_cons_succ, List.set_cons_zero] at hK ⊢
            obtain rfl := h2 rfl
            have e12 := (hd 12 (by simp) (by decide)).1 _ g12
            simp only [e12] at hK ⊢
            go_simp
            exact hK _ ⟨fun u hu => (by rw [g14] at hu; cases hu; rfl), fun e => (by cases e), fun e => (by cases e)⟩
          refine OpsQ.skip ?_
          refine OpsQ.cons _ (by simp only [List.getElem?_toArray, List.getElem?_cons_succ, List.getElem?_cons_zero]; rfl) (fun vs V hd h1 h2 K hK => ?_) ?_
          · simp only [putAll, dstOf, List.getElem?_toArray, List.getElem?_cons_succ, List.getElem?_cons_zero, Option.bind_some, Act.put, List.setIfInBounds_toArray, List.set_cons_succ, List.set_cons_zero] at hK ⊢
            obtain ⟨b, hb, -⟩ := h1 rfl
            have e12 := (hd 12 (by simp) (by decide)).1 _ g12
            simp only [e12, hb] at hK ⊢
            go_simp
            exact hK _ ⟨fun u hu => (by rw [g15 16 (by decide)] at hu; cases hu), fun e b2 hb2 => (by first | (cases hb2; rfl) | (exact absurd e (by decide))), fun e b2 hb2 => (by first | (cases hb2; rfl) | (exact absurd e (by decide)))⟩
          refine OpsQ.cons _ (by simp only [List.getElem?_toArray, List.getElem?_cons_succ, List.getElem?_cons_zero]; rfl) (fun vs V hd h1 h2 K hK => ?_) ?_
          · simp only [putAll, dstOf, List.getElem?_toArray, List.getElem?_cons_succ, List.getElem?_cons_zero, Option.bind_some, Act.put, List.setIfInBounds_toArray, List.set_cons_succ, List.set_cons_zero] at hK ⊢
            obtain ⟨b, hb, -⟩ := h1 rfl
            have e12 := (hd 12 (by simp) (by decide)).1 _ g12
            have e16 := (hd 16 (by simp) (by decide)).2.1 rfl b hb
            simp only [e12, e16, hb] at hK ⊢
            go_simp
            exact hK _ ⟨fun u hu => (by rw [g15 17 (by decide)] at hu; cases hu), fun e b2 hb2 => (by first | (cases hb2; rfl) | (exact absurd e (by decide))), fun e b2 hb2 => (by first | (cases hb2; rfl) | (exact absurd e (by decide)))⟩
          exact OpsQ.nil
        case hqB =>
          intro o ho vs V hV hd K hK
          simp only [List.getElem?_toArray, List.getElem?_cons_succ, List.getElem?_cons_zero, Option.some.injEq] at ho
          subst ho
          subst hV
          simp only [putAll, dstOf, List.getElem?_toArray, List.getElem?_cons_succ, List.getElem?_cons_zero, Option.bind_some, Act.put, List.setIfInBounds_toArray, List.set_cons_succ, List.set_cons_zero] at hK ⊢
          have e12 := (hd 12 (by simp) (by decide)).1 _ g12
          have e13 := (hd 13 (by simp) (by decide)).1 _ g13
          have e14 := (hd 14 (by simp) (by decide)).1 _ g14
          simp only [e12, e13, e14] at hK ⊢
          go_simp
          refine HR.out.mono ?_
          rintro e W3 ⟨b, rfl, hb3⟩
          exact hK _ _ ⟨b, rfl, hb3⟩
        case hqC =>
        intro vs W3 hz hfs
        obtain ⟨b, hb, hb3⟩ := hz
        have e17 := (hfs 17 (by simp) (by decide)).2.2 rfl b hb
        simp only [putAll, dstOf, List.getElem?_toArray, List.getElem?_cons_succ, List.getElem?_cons_zero, Option.bind_some, Act.put, List.setIfInBounds_toArray, List.set_cons_succ, List.set_cons_zero]
        simp only [e17]
        rcases hb3 with ⟨rfl, hJ3, hk3⟩ | ⟨rfl, hJx3⟩
        · gi_wp2
          go_roundw
          case rel => exact ⟨k + 1, by omega, by omega, by go_num, by rw [HS.out]; exact hJ3, (HJ.out.trans ⟨(Below.refl _ _).drew, rfl⟩).trans hk3⟩
          case measure => (simp [intOf]; omega)
        · gi_wp2
          refine bodyPost_ret (results_none rfl _ _ _) rfl ?_
          exact ⟨⟨_, rfl⟩, .inr ⟨_, ⟨k + 1, by omega, HS.out.symm⟩, hJx3⟩⟩
    · obtain rfl : k = 256 := by omega
      gi_wp2
      go_end0
      exact ⟨⟨_, rfl⟩, .inl ⟨_, rfl, hJs⟩⟩

theorem free_stops (n : Nat) (hn : 1 ≤ n) (Bs n₀ nb no nc lb lo lc : Nat) (b0 u0 : Value) (T : TypeId) (s : StoreL) (hnl : s.now.length = 256) (hll : s.last.length = 256)
    (hnc : 256 ≤ nc) (hncm : nc ≤ maxLen) (hlc : 256 ≤ lc) (hlcm : lc ≤ maxLen) (hnb : nb < n₀) (hlb : lb < n₀) (w : World) (hn₀ : n₀ ≤ w.heap.size)
    (hBs : w.heap[Bs]? = some (.cells #[b0, u0, .slice (some ⟨nb, no, none⟩) 256 nc, .slice (some ⟨lb, lo, none⟩) 256 lc] T (0, 0)))
    (hc1 : ∀ i x, s.now[i]? = some x → w.cell? ⟨nb, no + i, none⟩ = some (bV x)) (hc2 : ∀ i x, s.last[i]? = some x → w.cell? ⟨lb, lo + i, none⟩ = some (bV x)) :
    SeqStopsK Fence.wide n Try.prog 127 #[.pointer (some ⟨Bs, 0, none⟩)] encF (KeepF n₀ Bs) (fun ys => ys = freeF s 256) (fun pre => ∃ k, k ≤ 256 ∧ pre = freeF s k) 256 w :=
  fun l J Jx W hW hJ _ hY h0 => free1_in n hn l Bs n₀ nb no nc lb lo lc b0 u0 T s hnl hll hnc hncm hlc hlcm hnb hlb J Jx (fun s W h => hJ s W W.drew none h ⟨rfl, rfl, rfl, Nat.le_refl _, fun _ _ _ => rfl⟩ (fun r e => by cases e)) hY W
    ((hW.block Bs (Array.getElem?_eq_some_iff.1 hBs).1).trans hBs) (fun i x hx => (hW.cell (p := ⟨nb, no + i, none⟩) (by show nb < w.heap.size; omega)).trans (hc1 i x hx)) (fun i x hx => (hW.cell (p := ⟨lb, lo + i, none⟩) (by show lb < w.heap.size; omega)).trans (hc2 i x hx)) h0
set_option maxRecDepth 100000 in
set_option maxHeartbeats 1000000 in
theorem free_in (n : Nat) (b u x y : Value) (w : World) :
    CallsIn Fence.wide n Try.prog 85 #[.agg #[b, u, x, y]] w fun e w' => e = .returned (.func (.func 127) #[] #[.pointer (some ⟨w.heap.size, 0, none⟩)]) ∧ w' = w.alloc (.cells #[b, u, x, y] 46) := by
  refine callsIn_of_wp Try.func85 rfl trivial ?_ rfl
  simp only [Try.ntmps85, List.size_toArray, List.length_cons, List.length_nil, Nat.reduceAdd, Nat.reduceSub, Array.replicate_succ, Array.replicate_zero, List.push_toArray, List.append_toArray, List.nil_append, List.cons_append]
  gi_wp2
  go_ret
  exact ⟨rfl, rfl⟩
end Go.Proofs.Ytcibihakjcenaaa

namespace Go.Proofs.Ytcibihakjcenaaa
open Go.RowKit

section
variable {P : Program} {ops : Array Oper} {Q : Exit → Act → World → Prop} {md : Region.Mode} {l n : Nat}

theorem wpIn_round {o : Oper} {a : Act} {w : World} {K : Act → World → Prop} (hd : ∀ c, o.op ≠ .defer c) (h : o.wp P a w K Q) : o.wpIn (Fence.wide.inRound l) n P a w K Q := by
  refine ⟨fun _ _ => trivial, ?_⟩
  rw [Oper.semAt_eq _ _ _ hd]
  unfold Oper.wp at h
  revert h
  cases hr : (execOp a.eval o).run P w with
  | ok x w' =>
    cases x with
    | value v => exact fun h => h
    | skip => exact fun h => h
    | defer d => exact fun h => h
    | enter f args => exact fun h => ⟨fun h => (by cases h), CallsIn.inRound l (callsIn_wide.2 h)⟩
    | row row args => exact fun h => ⟨fun h => (by cases h), fun c cs _ => let ⟨v, w2, r, s⟩ := h c cs; ⟨v, w2, r, stepsIn_wide.2 s⟩⟩
    | _ => exact fun h => h.elim
  | halt x w' =>
    cases x with
    | panic v => exact fun h => h
    | _ => exact fun h => h.elim
/-- No operation defers. -/
def noDefer (ops : Array Oper) : Bool := ops.toList.all fun o => match o.op with | .defer _ => false | _ => true
theorem noDefer_at (h : noDefer ops = true) {i : Nat} {o : Oper} (ho : ops[i]? = some o) : ∀ c, o.op ≠ .defer c := by
  intro c e
  have := List.all_eq_true.1 h o (by
    obtain ⟨h1, h2⟩ := Array.getElem?_eq_some_iff.1 ho
    rw [← h2]
    exact Array.getElem_mem_toList h1)
  rw [e] at this
  cases this
theorem wpAnyIn_of (hQ : ¬ LetsOut Q) (hd : noDefer ops = true) : ∀ (fuel : Nat) (listed : Array Bool) (a : Act) (w : World), wpAny P md ops Q fuel listed a w → wpAnyIn (Fence.wide.inRound l) n P md ops Q fuel listed a w
  | 0, _, _, _, h => h
  | fuel + 1, listed, a, w, h => ⟨h.1, fun i hi => by
      have h2 := h.2 i hi
      unfold wpOp at h2
      unfold wpOpIn
      cases ho : ops[i]? with
      | none =>
        rw [ho] at h2
        exact wpAnyIn_of hQ hd fuel _ _ _ h2
      | some o =>
        rw [ho] at h2
        simp only at h2 ⊢
        split at h2
        · rename_i hw
          rw [if_pos hw]
          rcases h2 with h2 | ⟨_, h2⟩
          · exact wpIn_round (noDefer_at hd ho) (Oper.wp_mono (fun a w h => wpAnyIn_of hQ hd fuel _ _ _ h) h2)
          · exact absurd h2 hQ
        · rename_i hw
          rw [if_neg hw]
          exact ⟨fun _ _ => trivial, wpAnyIn_of hQ hd fuel _ _ _ h2⟩⟩
theorem wpIn_region_L {id : Nat} {a : Act} {w : World} {S : World → Prop} (z : Nat) (hm : P.follows .mixedOrders = true) (hd : noDefer ops = true) (hQ : ¬ LetsOut Q) (hS : S w.drew)
    (h : S w.drew → wpAnyL P .any ops Q S z ops.size (Array.replicate ops.size false) a w.drew) : (Code.region id ops true).wpIn (Fence.wide.inRound l) n P Q a w :=
  wpIn_region_any hm (wpAnyIn_of hQ hd _ _ _ _ (wpAny_ofL _ _ _ _ (h hS)))
end
end Go.Proofs.Ytcibihakjcenaaa

