/- NodeUnlike: the words and contracts, part 5. -/
import Derived.Test.YtfdogefoodljaaaNodeUnlikeQ1
import Derived.Test.YtfdogefoodljaaaNodeUnlikeQ2
import Derived.Test.YtfdogefoodljaaaNodeUnlikeQ3
import Derived.Test.YtfdogefoodljaaaNodeUnlikeQ4
import Derived.WalkKit
import Derived.WalkLawsBesides
import Derived.WalkSpells
import Derived.Lib.Hide
import Derived.Laws.Rows
import Derived.Laws.AppendOwnNone
import Derived.Maps.AppendAt
import Derived.OrdersHeld
import Derived.Deep.QuietTactic
import Derived.BigQuiet
import Derived.StillTailTactics
import Derived.RangeFuncNested
import Derived.RangeFuncBound
import Derived.RangeFuncCalls
import Derived.RangeFuncLeaves
import Derived.RangeFuncBox
import Derived.Shelf.Abstract
import Derived.Shelf.RegionOpen
import Derived.OwnWalkIn
import Derived.TacticsInMore
import Derived.LoopNIn
import Derived.LoopIn
import Derived.ProofKit
import Derived.Deep.Slices
import Derived.WideShapes
namespace Go.Proofs.Ytfdogefoodljaaa
open Go.RowKit

def dstOf (ops : Array Oper) (i : Nat) : Option Tmp := (ops[i]?).bind (·.dst)
/-- The values of some operations, put where they belong. -/
def putAll (ops : Array Oper) (vs : Nat → Value) : List Nat → Act → Act
  | [], a => a
  | i :: is, a => putAll ops vs is (a.put (dstOf ops i) (vs i))
def dsOk (ops : Array Oper) : List Nat → Bool
  | [] => true
  | i :: is => (is.all fun j => dstOf ops i == none || dstOf ops j != dstOf ops i) && dsOk ops is
def updV (vs : Nat → Value) (k : Nat) (v : Value) : Nat → Value := fun i => if i = k then v else vs i

section
variable {ops : Array Oper}
theorem put_same (a : Act) (x : Option Tmp) (u v : Value) : (a.put x u).put x v = a.put x v := by
  cases x with
  | none => rfl
  | some d => simp [Act.put, Array.setIfInBounds_setIfInBounds]
def ownV (a : Act) : Option Tmp → Value
  | some d => a.tmps.getD d undef
  | none => undef
theorem put_self (a : Act) (x : Option Tmp) : a.put x (ownV a x) = a := by
  cases x with
  | none => rfl
  | some d =>
    obtain ⟨t, ds⟩ := a
    simp only [Act.put, ownV]
    congr 1
    apply Array.ext_getElem?
    intro i
    rw [Array.getElem?_setIfInBounds]
    split
    · rename_i h
      subst h
      split
      · rename_i h2; simp [h2]
      · rename_i h2; simp [h2]
    · rfl
theorem putAll_self (a : Act) : ∀ is, putAll ops (fun i => ownV a (dstOf ops i)) is a = a
  | [] => rfl
  | i :: is => by rw [putAll, put_self, putAll_self a is]
theorem putAll_comm (vs : Nat → Value) (x : Option Tmp) (v : Value) : ∀ (is : List Nat) (a : Act), (∀ j ∈ is, x = none ∨ dstOf ops j ≠ x) → (putAll ops vs is a).put x v = putAll ops vs is (a.put x v)
  | [], _, _ => rfl
  | i :: is, a, h => by
    rw [putAll, putAll, putAll_comm vs x v is _ (fun j hj => h j (List.mem_cons_of_mem _ hj))]
    congr 1
    rcases h i (List.mem_cons_self ..) with rfl | hne
    · rfl
    · exact Act.put_comm a _ _ (fun d hd hx => hne (hd.trans hx.symm))
theorem putAll_congr {vs vs' : Nat → Value} : ∀ (is : List Nat) (a : Act), (∀ j ∈ is, vs j = vs' j ∨ dstOf ops j = none) → putAll ops vs is a = putAll ops vs' is a
  | [], _, _ => rfl
  | i :: is, a, h => by
    rw [putAll, putAll, putAll_congr is _ (fun j hj => h j (List.mem_cons_of_mem _ hj))]
    rcases h i (List.mem_cons_self ..) with e | e <;> rw [e] <;> rfl
theorem putAll_put (vs : Nat → Value) (k : Nat) (v : Value) : ∀ (is : List Nat) (a : Act), dsOk ops is = true → k ∈ is → (putAll ops vs is a).put (dstOf ops k) v = putAll ops (updV vs k v) is a
  | [], _, _, hk => by cases hk
  | i :: is, a, hd, hk => by
    simp only [dsOk, Bool.and_eq_true, List.all_eq_true, Bool.or_eq_true, beq_iff_eq, bne_iff_ne, ne_eq] at hd
    obtain ⟨h1, h2⟩ := hd
    by_cases e : k = i
    · subst e
      rw [putAll, putAll_comm vs _ v is _ h1, put_same, putAll]
      have : updV vs k v k = v := by simp [updV]
      rw [this]
      refine putAll_congr is _ (fun j hj => ?_)
      by_cases ej : j = k
      · subst ej
        rcases h1 j hj with h | h
        · exact .inr h
        · exact absurd rfl h
      · left; simp [updV, ej]
    · have hk' : k ∈ is := by
        rcases List.mem_cons.1 hk with h | h
        · exact absurd h e
        · exact h
      rw [putAll, putAll_put vs k v is _ h2 hk', putAll]
      have : updV vs k v i = vs i := by simp [updV, Ne.symm e]
      rw [this]
end

/-- Are the operations told whole, and does each wait for what it is said to wait for? -/
def invOk (md : Region.Mode) (ops : Array Oper) (L : Array Bool) (is : List Nat) (deps : Nat → List Nat) : Bool :=
  ((List.range ops.size).all fun i => L.getD i true || is.contains i) &&
  is.all fun i => decide (i < L.size) && decide (i < ops.size) &&
    (((ops[i]?).map fun o => o.after.all fun e => !Region.binds md e || decide (e.on < i)).getD false) &&
    ((deps i).all fun j => is.contains j && (((ops[i]?).map fun o => o.after.any fun e => Region.binds md e && (e.on == j || (is.contains e.on && (deps e.on).contains j))).getD false))

section
variable {P : Program} {ops : Array Oper} {Q : Exit → Act → World → Prop} {md : Region.Mode} {S : World → Prop}

/-- Each operation of some: with what it waits for being good. -/
def OpsI (P : Program) (ops : Array Oper) (Q : Exit → Act → World → Prop) (S : World → Prop) (G : Nat → Value → World → Prop) (deps : Nat → List Nat) (is : List Nat) (a0 : Act) (l : List Nat) : Prop :=
  ∀ i ∈ l, ∀ o, ops[i]? = some o → ∀ (vs : Nat → Value) (W : World), S W → (∀ j ∈ deps i, G j (vs j) W) → ∀ K : Act → World → Prop,
    (∀ v W', G i v W' → Below W.heap.size W W' → K ((putAll ops vs is a0).put o.dst v) W') →
    if Region.wanted o (yielded ops (putAll ops vs is a0).tmps) = true then Oper.wp P o (putAll ops vs is a0) W K Q else K ((putAll ops vs is a0).put o.dst undef) W
theorem OpsI.nil {G : Nat → Value → World → Prop} {deps : Nat → List Nat} {is : List Nat} {a0 : Act} : OpsI P ops Q S G deps is a0 [] := fun _ h => by cases h
theorem OpsI.cons {G : Nat → Value → World → Prop} {deps : Nat → List Nat} {is : List Nat} {a0 : Act} {i : Nat} {l : List Nat} (o : Oper) (ho : ops[i]? = some o)
    (h : ∀ (vs : Nat → Value) (W : World), S W → (∀ j ∈ deps i, G j (vs j) W) → ∀ K : Act → World → Prop,
      (∀ v W', G i v W' → Below W.heap.size W W' → K ((putAll ops vs is a0).put o.dst v) W') →
      if Region.wanted o (yielded ops (putAll ops vs is a0).tmps) = true then Oper.wp P o (putAll ops vs is a0) W K Q else K ((putAll ops vs is a0).put o.dst undef) W)
    (hs : OpsI P ops Q S G deps is a0 l) : OpsI P ops Q S G deps is a0 (i :: l) := fun j hj o' ho' => by
  rcases List.mem_cons.1 hj with rfl | hj
  · rw [ho] at ho'; cases ho'; exact h
  · exact hs j hj o' ho'

theorem getD_set_self (L : Array Bool) (i : Nat) (d : Bool) (h : i < L.size) : (L.setIfInBounds i true).getD i d = true := by simp [Array.getD, h]
theorem getD_any (L : Array Bool) (i : Nat) (d e : Bool) (h : i < L.size) : L.getD i d = L.getD i e := by simp [Array.getD, h]

theorem wpAnyH_inv (is : List Nat) (deps : Nat → List Nat) (G : Nat → Value → World → Prop) (L0 : Array Bool) (a0 : Act)
    (hcl : ∀ W W', S W → Below W.heap.size W W' → S W') (hG : ∀ i v W W', G i v W → Below W.heap.size W W' → G i v W')
    (hds : dsOk ops is = true) (hchk : invOk md ops L0 is deps = true)
    (hops : OpsI P ops Q S G deps is a0 is)
    (hend : ∀ (vs : Nat → Value) (W : World), S W → (∀ i ∈ is, G i (vs i) W) → Q .normal (putAll ops vs is a0) W) :
    ∀ (fuel : Nat) (L : Array Bool) (vs : Nat → Value) (W : World), S W → L.size = L0.size → (∀ j, j ∉ is → L.getD j true = L0.getD j true) →
      (∀ i ∈ is, L.getD i true = true → G i (vs i) W ∧ ∀ j ∈ deps i, L.getD j true = true) → (is.filter fun i => !L.getD i true).length ≤ fuel →
      wpAnyH P md ops Q S fuel L (putAll ops vs is a0) W := by
  simp only [invOk, Bool.and_eq_true, List.all_eq_true, List.mem_range, Bool.or_eq_true, List.contains_iff_mem, decide_eq_true_eq] at hchk
  obtain ⟨hall, hone⟩ := hchk
  have hlist : ∀ (L : Array Bool), L.size = L0.size → (∀ j, j ∉ is → L.getD j true = L0.getD j true) → ∀ i, i ∈ Region.ready md ops L → i ∈ is ∧ L.getD i true = false := by
    intro L hsz hL i hi
    obtain ⟨h1, o, ho, _⟩ := mem_ready.1 hi
    refine ⟨?_, h1⟩
    have hlt : i < ops.size := (Array.getElem?_eq_some_iff.1 ho).1
    rcases hall i hlt with h | h
    · by_cases hm : i ∈ is
      · exact hm
      · rw [hL i hm, h] at h1; cases h1
    · exact h
  have hready : ∀ (L : Array Bool), L.size = L0.size → (∀ j, j ∉ is → L.getD j true = L0.getD j true) → Region.ready md ops L = [] → ∀ i ∈ is, L.getD i true = true := by
    intro L hsz hL hr
    have hind : ∀ i, i < ops.size → L.getD i true = true := by
      intro i
      induction i using Nat.strongRecOn with
      | _ i ih =>
        intro hlt
        cases hx : L.getD i true with
        | true => rfl
        | false =>
          exfalso
          have hm : i ∈ is := by
            rcases hall i hlt with h | h
            · by_cases hm : i ∈ is
              · exact hm
              · rw [← hL i hm, hx] at h; cases h
            · exact h
          obtain ⟨⟨⟨h1, h2⟩, h3⟩, _⟩ := hone i hm
          have hmem : i ∈ Region.ready md ops L := by
            refine mem_ready.2 ⟨hx, ops[i], by simp [hlt], fun e he hb => ?_⟩
            simp only [Array.getElem?_eq_getElem hlt, Option.map_some, Option.getD_some, Array.all_eq_true'] at h3
            have h4 := h3 e he
            simp only [hb, Bool.not_true, Bool.false_or, decide_eq_true_eq] at h4
            have h5 := ih e.on h4 (by omega)
            rw [getD_any L e.on false true (by omega)]
            exact h5
          rw [hr] at hmem
          cases hmem
    intro i hi
    exact hind i (hone i hi).1.1.2
  intro fuel
  induction fuel with
  | zero =>
    intro L vs W hS hsz hL hI hf
    have hnil : (is.filter fun i => !L.getD i true) = [] := List.eq_nil_of_length_eq_zero (by omega)
    have hdone : ∀ i ∈ is, L.getD i true = true := fun i hi => by
      cases hx : L.getD i true with
      | true => rfl
      | false =>
        have : i ∈ (is.filter fun i => !L.getD i true) := List.mem_filter.2 ⟨hi, by simp only [hx, Bool.not_false]⟩
        rw [hnil] at this
        cases this
    refine ⟨?_, hend vs W hS (fun i hi => (hI i hi (hdone i hi)).1)⟩
    cases hr : Region.ready md ops L with
    | nil => rfl
    | cons x xs =>
      obtain ⟨h1, h2⟩ := hlist L hsz hL x (by rw [hr]; exact List.mem_cons_self ..)
      rw [hdone x h1] at h2
      cases h2
  | succ fuel ih =>
    intro L vs W hS hsz hL hI hf
    refine ⟨fun hr => ?_, fun i hi => ?_⟩
    · have hdone := hready L hsz hL hr
      exact hend vs W hS (fun i hi => (hI i hi (hdone i hi)).1)
    · obtain ⟨him, hun⟩ := hlist L hsz hL i hi
      obtain ⟨_, o, ho, hbind⟩ := mem_ready.1 hi
      obtain ⟨⟨⟨hi1, hi2⟩, _⟩, hdep⟩ := hone i him
      have hdeps : ∀ j ∈ deps i, j ∈ is ∧ L.getD j true = true := by
        intro j hj
        obtain ⟨hjm, hx⟩ := hdep j hj
        refine ⟨hjm, ?_⟩
        simp only [ho, Option.map_some, Option.getD_some, Array.any_eq_true'] at hx
        obtain ⟨e, he, hx⟩ := hx
        simp only [Bool.and_eq_true, Bool.or_eq_true, beq_iff_eq, List.contains_iff_mem] at hx
        obtain ⟨hb, hx⟩ := hx
        have hl := hbind e he hb
        have hl' : L.getD e.on true = true := by
          rcases Nat.lt_or_ge e.on L.size with h | h
          · rw [getD_any L e.on true false h]; exact hl
          · simp [Array.getD, Nat.not_lt.2 h]
        rcases hx with rfl | ⟨hem, hej⟩
        · exact hl'
        · exact (hI e.on hem hl').2 j hej
      refine wpOp_step ho (fun K' hK => ?_)
      refine hops i him o ho vs W hS (fun j hj => (hI j (hdeps j hj).1 (hdeps j hj).2).1) K' (fun v W' hGv hB => ?_)
      have hd : o.dst = dstOf ops i := by simp [dstOf, ho]
      rw [hd, putAll_put vs i v is a0 hds him]
      refine hK _ _ ⟨hcl W W' hS hB, ?_⟩
      refine ih _ _ _ (hcl W W' hS hB) (by simp [hsz]) (fun j hj => ?_) (fun k hk hlk => ?_) ?_
      · have : i ≠ j := fun h => hj (h ▸ him)
        rw [getD_set_ne true this]; exact hL j hj
      · by_cases e : i = k
        · subst e
          refine ⟨by simpa [updV] using hGv, fun j hj => ?_⟩
          by_cases e2 : i = j
          · subst e2; exact getD_set_self L i true (by omega)
          · rw [getD_set_ne true e2]; exact (hdeps j hj).2
        · rw [getD_set_ne true e] at hlk
          obtain ⟨h1, h2⟩ := hI k hk hlk
          refine ⟨?_, fun j hj => ?_⟩
          · have : updV vs i v k = vs k := by simp [updV, Ne.symm e]
            rw [this]
            exact hG k _ W W' h1 hB
          · by_cases e2 : i = j
            · subst e2; exact getD_set_self L i true (by omega)
            · rw [getD_set_ne true e2]; exact h2 j hj
      · have hlt : (is.filter fun k => !(L.setIfInBounds i true).getD k true).length < (is.filter fun k => !L.getD k true).length := by
          have key : ∀ l : List Nat, (l.filter fun k => !(L.setIfInBounds i true).getD k true).length ≤ (l.filter fun k => !L.getD k true).length ∧
              (i ∈ l → (l.filter fun k => !(L.setIfInBounds i true).getD k true).length < (l.filter fun k => !L.getD k true).length) := by
            intro l
            induction l with
            | nil => exact ⟨Nat.le_refl _, fun h => by cases h⟩
            | cons x l ihl =>
              by_cases e : i = x
              · subst e
                have h1 : (!(L.setIfInBounds i true).getD i true) = false := by rw [getD_set_self L i true (by omega)]; rfl
                have h2 : (!L.getD i true) = true := by rw [hun]; rfl
                rw [List.filter_cons_of_neg (by rw [h1]; decide), List.filter_cons_of_pos (by rw [h2])]
                simp only [List.length_cons]
                exact ⟨by omega, fun _ => by omega⟩
              · have h1 : (L.setIfInBounds i true).getD x true = L.getD x true := getD_set_ne true e
                simp only [List.filter_cons, h1]
                split
                · simp only [List.length_cons]
                  exact ⟨by omega, fun hm => by
                    rcases List.mem_cons.1 hm with h | h
                    · exact absurd h e
                    · have := ihl.2 h; omega⟩
                · exact ⟨ihl.1, fun hm => by
                    rcases List.mem_cons.1 hm with h | h
                    · exact absurd h e
                    · exact ihl.2 h⟩
          exact (key is).2 him
        omega

/-- From where the walk stands. -/
theorem wpAnyH_inv0 (is : List Nat) (deps : Nat → List Nat) (G : Nat → Value → World → Prop) {L0 : Array Bool} {a0 : Act} {W0 : World} {fuel : Nat} (hS : S W0)
    (hcl : ∀ W W', S W → Below W.heap.size W W' → S W') (hG : ∀ i v W W', G i v W → Below W.heap.size W W' → G i v W')
    (hds : dsOk ops is = true) (hchk : invOk md ops L0 is deps = true) (hun : (is.all fun i => !L0.getD i true) = true) (hlen : is.length ≤ fuel)
    (hops : OpsI P ops Q S G deps is a0 is)
    (hend : ∀ (vs : Nat → Value) (W : World), S W → (∀ i ∈ is, G i (vs i) W) → Q .normal (putAll ops vs is a0) W) : wpAnyH P md ops Q S fuel L0 a0 W0 := by
  have h := wpAnyH_inv (P := P) (md := md) (Q := Q) (S := S) is deps G L0 a0 hcl hG hds hchk hops hend fuel L0 (fun i => ownV a0 (dstOf ops i)) W0 hS rfl (fun _ _ => rfl)
    (fun i hi hx => by
      have := List.all_eq_true.1 hun i hi
      rw [hx] at this
      cases this) (Nat.le_trans (List.length_filter_le _ _) hlen)
  rw [putAll_self] at h
  exact h
theorem cls_step (w : World) : ∀ W W', Cls w W → Below W.heap.size W W' → Cls w W' := fun _ _ h hb => Cls.of (below_step h.below h.below.size hb)
attribute [go_sem] putAll dstOf

/-- All but the last ones, in one forced order, only read. -/
theorem wp_region_tail {id : Nat} {Q : Exit → Act → World → Prop} {a : Act} {w : World} {l : List Oper} (n : Nat) (hm : P.follows .mixedOrders = true) (hB : Region.lexTailB .any l.toArray n = true)
    (h : wpStill P l.toArray w.drew (fun a' => wpList P l.toArray Q (l.drop n) a' w.drew) (l.take n) a) : (Code.region id l.toArray true).wp P Q a w := wp_region_still_tail n hm hB h
end
end Go.Proofs.Ytfdogefoodljaaa

namespace Go.Proofs.Ytfdogefoodljaaa
open Go.RowKit

def cmpI (x y : Int) : Int := if x < y then -1 else if y < x then 1 else 0
def orI (a b c : Int) : Int := if a = 0 then (if b = 0 then c else b) else a

theorem isNaN8 (x : Int) (w : World) : Calls Try.prog 101 #[.int .u8 x] w fun e w' => e = .returned (.bool false) ∧ w' = w := by
  go_enter Try.func101, Try.ntmps101
  go_wp2
  go_ret
  exact ⟨rfl, rfl⟩
theorem isNaN32 (x : Int) (w : World) : Calls Try.prog 102 #[.int .u32 x] w fun e w' => e = .returned (.bool false) ∧ w' = w := by
  go_enter Try.func102, Try.ntmps102
  go_wp2
  go_ret
  exact ⟨rfl, rfl⟩
theorem compare8 (x y : Int) (w : World) : Calls Try.prog 71 #[.int .u8 x, .int .u8 y] w fun e w' => e = .returned (.int .i64 (cmpI x y)) ∧ w' = w := by
  unfold cmpI
  by_cases h1 : x < y
  · rw [if_pos h1]
    go_enter Try.func71, Try.ntmps71
    go_wp2_with (go_at_call 101; refine (isNaN8 _ _).mono ?_; rintro e w' ⟨rfl, rfl⟩)
    go_ret
    exact ⟨rfl, rfl⟩
  · rw [if_neg h1]
    by_cases h2 : y < x
    · rw [if_pos h2]
      go_enter Try.func71, Try.ntmps71
      go_wp2_with (go_at_call 101; refine (isNaN8 _ _).mono ?_; rintro e w' ⟨rfl, rfl⟩)
      go_ret
      exact ⟨rfl, rfl⟩
    · rw [if_neg h2]
      go_enter Try.func71, Try.ntmps71
      go_wp2_with (go_at_call 101; refine (isNaN8 _ _).mono ?_; rintro e w' ⟨rfl, rfl⟩)
      go_ret
      exact ⟨rfl, rfl⟩
theorem compare32 (x y : Int) (w : World) : Calls Try.prog 72 #[.int .u32 x, .int .u32 y] w fun e w' => e = .returned (.int .i64 (cmpI x y)) ∧ w' = w := by
  unfold cmpI
  by_cases h1 : x < y
  · rw [if_pos h1]
    go_enter Try.func72, Try.ntmps72
    go_wp2_with (go_at_call 102; refine (isNaN32 _ _).mono ?_; rintro e w' ⟨rfl, rfl⟩)
    go_ret
    exact ⟨rfl, rfl⟩
  · rw [if_neg h1]
    by_cases h2 : y < x
    · rw [if_pos h2]
      go_enter Try.func72, Try.ntmps72
      go_wp2_with (go_at_call 102; refine (isNaN32 _ _).mono ?_; rintro e w' ⟨rfl, rfl⟩)
      go_ret
      exact ⟨rfl, rfl⟩
    · rw [if_neg h2]
      go_enter Try.func72, Try.ntmps72
      go_wp2_with (go_at_call 102; refine (isNaN32 _ _).mono ?_; rintro e w' ⟨rfl, rfl⟩)
      go_ret
      exact ⟨rfl, rfl⟩

set_option maxHeartbeats 400000 in
theorem or3 (b off : Nat) (a0 a1 a2 : Int) (w : World) (h0 : w.cell? ⟨b, off, none⟩ = some (.int .i64 a0)) (h1 : w.cell? ⟨b, off + 1, none⟩ = some (.int .i64 a1)) (h2 : w.cell? ⟨b, off + 2, none⟩ = some (.int .i64 a2)) :
    Calls Try.prog 70 #[.slice (some ⟨b, off, none⟩) 3 3] w fun e w' => e = .returned (.int .i64 (orI a0 a1 a2)) ∧ w' = w := by
  have H := Lib.hid (And.intro h0 (And.intro h1 h2))
  clear h0 h1 h2
  go_enter Try.func70, Try.ntmps70
  go_wp2
  go_loop [8] (fun i => ∃ k : Nat, k ≤ 3 ∧ i = .int .i64 k ∧ (0 < k → a0 = 0) ∧ (1 < k → a1 = 0) ∧ (2 < k → a2 = 0)) (fun i => 3 - (intOf i).toNat)
  case atStart => exact ⟨0, by omega, rfl, by omega, by omega, by omega⟩
  case round =>
    obtain ⟨k, hk, rfl, e0, e1, e2⟩ := hrel
    have hor : orI a0 a1 a2 = if k = 0 then orI a0 a1 a2 else if k = 1 then orI 0 a1 a2 else if k = 2 then orI 0 0 a2 else 0 := by
      unfold orI
      repeat' split
      all_goals omega
    have HO := Lib.hid hor
    by_cases hlt : k < 3
    · obtain ⟨x, hx, hx2, hx3⟩ : ∃ x, w.cell? ⟨b, off + k, none⟩ = some (.int .i64 x) ∧ (x = 0 → (0 < k + 1 → a0 = 0) ∧ (1 < k + 1 → a1 = 0) ∧ (2 < k + 1 → a2 = 0)) ∧ (x ≠ 0 → orI a0 a1 a2 = x) := by
        obtain ⟨h0, h1, h2⟩ := H.out
        unfold orI
        rcases (by omega : k = 0 ∨ k = 1 ∨ k = 2) with rfl | rfl | rfl
        · exact ⟨a0, h0, fun h => ⟨fun _ => h, by omega, by omega⟩, fun h => by rw [if_neg h]⟩
        · exact ⟨a1, h1, fun h => ⟨fun _ => e0 (by omega), fun _ => h, by omega⟩, fun h => by rw [if_pos (e0 (by omega)), if_neg h]⟩
        · exact ⟨a2, h2, fun h => ⟨fun _ => e0 (by omega), fun _ => e1 (by omega), fun _ => h⟩, fun h => by rw [if_pos (e0 (by omega)), if_pos (e1 (by omega))]⟩
      have HX := Lib.hid (And.intro hx2 hx3)
      clear hor HO hx2 hx3 e0 e1 e2
      by_cases hz : x = 0
      · have hz2 := HX.out.1 hz
        have HZ := Lib.hid hz2
        subst hz
        clear hz2
        go_wp2
        go_round
        case rel => exact ⟨k + 1, by omega, by go_num, HZ.out.1, HZ.out.2.1, HZ.out.2.2⟩
        case measure => simp [intOf]; omega
      · go_wp2
        go_ret
        exact ⟨by rw [HX.out.2 hz]; rfl, rfl⟩
    · obtain rfl : k = 3 := by omega
      clear hor e0 e1 e2
      go_wp2
      go_ret
      exact ⟨by rw [HO.out]; rfl, rfl⟩

def keyV (k : KeyL) : Value := .agg #[bV k.kind, wV k.id, wV k.off]
/-- Does a key stand ahead of another one? -/
def lessK (a b : KeyL) : Bool :=
  if a.kind = b.kind then (if a.id = b.id then decide (a.off.toNat < b.off.toNat) else decide (a.id.toNat < b.id.toNat)) else decide (a.kind.toNat < b.kind.toNat)
theorem cmp_eq0 (x y : Nat) : cmpI x y = 0 ↔ x = y := by unfold cmpI; split <;> (try split) <;> omega
theorem cmp_lt0 (x y : Nat) : cmpI x y < 0 ↔ x < y := by unfold cmpI; split <;> (try split) <;> omega
theorem less_or (a b : KeyL) : decide (orI (cmpI a.kind.toNat b.kind.toNat) (cmpI a.id.toNat b.id.toNat) (cmpI a.off.toNat b.off.toNat) < 0) = lessK a b := by
  unfold orI lessK
  simp only [cmp_eq0, ← UInt8.toNat_inj, ← UInt32.toNat_inj]
  split
  · split
    · simp only [cmp_lt0]
    · simp only [cmp_lt0]
  · simp only [cmp_lt0]
set_option maxHeartbeats 1000000 in
set_option maxRecDepth 100000 in
theorem less_any (a b : KeyL) (w : World) : Calls Try.prog 41 #[keyV a, keyV b] w fun e w' => e = .returned (.bool (lessK a b)) ∧ Below w.heap.size w w' := by
  have hb := less_or a b
  have Hb := Lib.hid hb
  obtain ⟨k1, i1, o1⟩ := a
  obtain ⟨k2, i2, o2⟩ := b
  simp only [keyV, bV, wV] at *
  clear hb
  go_enter Try.func41, Try.ntmps41
  go_wp2_with fail
  refine wp_region_tail 15 (by kernel_rfl) (by kernel_rfl) ?_
  simp only [List.take_succ_cons, List.take_zero, List.drop_succ_cons, List.drop_zero]
  repeat still_step
  still_call (compare8 _ _ _)
  repeat still_step
  still_call (compare32 _ _ _)
  repeat still_step
  still_call (compare32 _ _ _)
  refine wpStill_nil ?_
  have hW : Below w.heap.size w ((w.alloc (.cells #[.int .u8 (k1.toNat : Int), .int .u32 (i1.toNat : Int), .int .u32 (o1.toNat : Int)] 65)).alloc (.cells #[.int .u8 (k2.toNat : Int), .int .u32 (i2.toNat : Int), .int .u32 (o2.toNat : Int)] 65)).drew :=
    (((Below.refl _ _).alloc (Nat.le_refl _) _).alloc (by simp) _).drew
  generalize ((w.alloc (.cells #[.int .u8 (k1.toNat : Int), .int .u32 (i1.toNat : Int), .int .u32 (o1.toNat : Int)] 65)).alloc (.cells #[.int .u8 (k2.toNat : Int), .int .u32 (i2.toNat : Int), .int .u32 (o2.toNat : Int)] 65)).drew = W at *
  generalize cmpI (k1.toNat : Int) k2.toNat = c0 at *
  generalize cmpI (i1.toNat : Int) i2.toNat = c1 at *
  generalize cmpI (o1.toNat : Int) o2.toNat = c2 at *
  go_wp2_with fail
  refine (or3 W.heap.size 0 c0 c1 c2 _ (by rw [World.cell?_alloc_new]; rfl) (by rw [World.cell?_alloc_new]; rfl) (by rw [World.cell?_alloc_new]; rfl)).mono ?_
  rintro e w' ⟨rfl, rfl⟩
  go_wp2
  go_ret
  exact ⟨by rw [← Hb.out]; rfl, hW.alloc hW.size _⟩
end Go.Proofs.Ytfdogefoodljaaa

