/- DropDoes: the words and contracts, part 2. -/
import Derived.Test.YtkfgegdnpinbdaaDropDoesQ1
import Derived.Test.YtkfgegdnpinbdaaChecked
import Derived.WalkKit
import Derived.WalkLawsBesides
import Derived.WalkSpells
import Derived.Lib.Hide
import Derived.Laws.Rows
import Derived.Laws.AppendOwnNone
import Derived.Maps.AppendAt
import Derived.OrdersHeld
import Derived.Deep.QuietTactic
import Derived.BigQuiet
import Derived.StillTailTactics
import Derived.RangeFuncNested
import Derived.RangeFuncBound
import Derived.RangeFuncCalls
import Derived.RangeFuncLeaves
import Derived.RangeFuncBox
import Derived.Shelf.Abstract
import Derived.Shelf.RegionOpen
import Derived.OwnWalkIn
import Derived.TacticsInMore
import Derived.LoopNIn
import Derived.LoopIn
import Derived.ProofKit
import Derived.Deep.Slices
import Derived.WideShapes
import Derived.OpenShut
import Derived.Lib.SliceRun
import Derived.Lib.AppendZerosOnto
import Derived.Lib.Walk
import Derived.Deep.LoopGhost
import Derived.Laws.CopyOwn
namespace Go.Proofs.Ytkfgegdnpinbdaa
open Go.RowKit

def dstOf (ops : Array Oper) (i : Nat) : Option Tmp := (ops[i]?).bind (·.dst)
/-- The values of some operations, put where they belong. -/
def putAll (ops : Array Oper) (vs : Nat → Value) : List Nat → Act → Act
  | [], a => a
  | i :: is, a => putAll ops vs is (a.put (dstOf ops i) (vs i))
def dsOk (ops : Array Oper) : List Nat → Bool
  | [] => true
  | i :: is => (is.all fun j => dstOf ops i == none || dstOf ops j != dstOf ops i) && dsOk ops is
def updV (vs : Nat → Value) (k : Nat) (v : Value) : Nat → Value := fun i => if i = k then v else vs i

section
variable {ops : Array Oper}
theorem put_same (a : Act) (x : Option Tmp) (u v : Value) : (a.put x u).put x v = a.put x v := by
  cases x with
  | none => rfl
  | some d => simp [Act.put, Array.setIfInBounds_setIfInBounds]
def ownV (a : Act) : Option Tmp → Value
  | some d => a.tmps.getD d undef
  | none => undef
theorem put_self (a : Act) (x : Option Tmp) : a.put x (ownV a x) = a := by
  cases x with
  | none => rfl
  | some d =>
    obtain ⟨t, ds⟩ := a
    simp only [Act.put, ownV]
    congr 1
    apply Array.ext_getElem?
    intro i
    rw [Array.getElem?_setIfInBounds]
    split
    · rename_i h
      subst h
      split
      · rename_i h2; simp [h2]
      · rename_i h2; simp [h2]
    · rfl
theorem putAll_self (a : Act) : ∀ is, putAll ops (fun i => ownV a (dstOf ops i)) is a = a
  | [] => rfl
  | i :: is => by rw [putAll, put_self, putAll_self a is]
theorem putAll_comm (vs : Nat → Value) (x : Option Tmp) (v : Value) : ∀ (is : List Nat) (a : Act), (∀ j ∈ is, x = none ∨ dstOf ops j ≠ x) → (putAll ops vs is a).put x v = putAll ops vs is (a.put x v)
  | [], _, _ => rfl
  | i :: is, a, h => by
    rw [putAll, putAll, putAll_comm vs x v is _ (fun j hj => h j (List.mem_cons_of_mem _ hj))]
    congr 1
    rcases h i (List.mem_cons_self ..) with rfl | hne
    · rfl
    · exact Act.put_comm a _ _ (fun d hd hx => hne (hd.trans hx.symm))
theorem putAll_congr {vs vs' : Nat → Value} : ∀ (is : List Nat) (a : Act), (∀ j ∈ is, vs j = vs' j ∨ dstOf ops j = none) → putAll ops vs is a = putAll ops vs' is a
  | [], _, _ => rfl
  | i :: is, a, h => by
    rw [putAll, putAll, putAll_congr is _ (fun j hj => h j (List.mem_cons_of_mem _ hj))]
    rcases h i (List.mem_cons_self ..) with e | e <;> rw [e] <;> rfl
theorem putAll_put (vs : Nat → Value) (k : Nat) (v : Value) : ∀ (is : List Nat) (a : Act), dsOk ops is = true → k ∈ is → (putAll ops vs is a).put (dstOf ops k) v = putAll ops (updV vs k v) is a
  | [], _, _, hk => by cases hk
  | i :: is, a, hd, hk => by
    simp only [dsOk, Bool.and_eq_true, List.all_eq_true, Bool.or_eq_true, beq_iff_eq, bne_iff_ne, ne_eq] at hd
    obtain ⟨h1, h2⟩ := hd
    by_cases e : k = i
    · subst e
      rw [putAll, putAll_comm vs _ v is _ h1, put_same, putAll]
      have : updV vs k v k = v := by simp [updV]
      rw [this]
      refine putAll_congr is _ (fun j hj => ?_)
      by_cases ej : j = k
      · subst ej
        rcases h1 j hj with h | h
        · exact .inr h
        · exact absurd rfl h
      · left; simp [updV, ej]
    · have hk' : k ∈ is := by
        rcases List.mem_cons.1 hk with h | h
        · exact absurd h e
        · exact h
      rw [putAll, putAll_put vs k v is _ h2 hk', putAll]
      have : updV vs k v i = vs i := by simp [updV, Ne.symm e]
      rw [this]
end

/-- Are the operations told whole, and does each wait for what it is said to wait for? -/
def invOk (md : Region.Mode) (ops : Array Oper) (L : Array Bool) (is : List Nat) (deps : Nat → List Nat) : Bool :=
  ((List.range ops.size).all fun i => L.getD i true || is.contains i) &&
  is.all fun i => decide (i < L.size) && decide (i < ops.size) &&
    (((ops[i]?).map fun o => o.after.all fun e => !Region.binds md e || decide (e.on < i)).getD false) &&
    ((deps i).all fun j => is.contains j && (((ops[i]?).map fun o => o.after.any fun e => Region.binds md e && (e.on == j || (is.contains e.on && (deps e.on).contains j))).getD false))

section
variable {P : Program} {ops : Array Oper} {Q : Exit → Act → World → Prop} {md : Region.Mode} {S : World → Prop}

/-- Each operation of some: with what it waits for being good. -/
def OpsI (P : Program) (ops : Array Oper) (Q : Exit → Act → World → Prop) (S : World → Prop) (G : Nat → Value → World → Prop) (deps : Nat → List Nat) (is : List Nat) (a0 : Act) (l : List Nat) : Prop :=
  ∀ i ∈ l, ∀ o, ops[i]? = some o → ∀ (vs : Nat → Value) (W : World), S W → (∀ j ∈ deps i, G j (vs j) W) → ∀ K : Act → World → Prop,
    (∀ v W', G i v W' → Below W.heap.size W W' → K ((putAll ops vs is a0).put o.dst v) W') →
    if Region.wanted o (yielded ops (putAll ops vs is a0).tmps) = true then Oper.wp P o (putAll ops vs is a0) W K Q else K ((putAll ops vs is a0).put o.dst undef) W
theorem OpsI.nil {G : Nat → Value → World → Prop} {deps : Nat → List Nat} {is : List Nat} {a0 : Act} : OpsI P ops Q S G deps is a0 [] := fun _ h => by cases h
theorem OpsI.cons {G : Nat → Value → World → Prop} {deps : Nat → List Nat} {is : List Nat} {a0 : Act} {i : Nat} {l : List Nat} (o : Oper) (ho : ops[i]? = some o)
    (h : ∀ (vs : Nat → Value) (W : World), S W → (∀ j ∈ deps i, G j (vs j) W) → ∀ K : Act → World → Prop,
      (∀ v W', G i v W' → Below W.heap.size W W' → K ((putAll ops vs is a0).put o.dst v) W') →
      if Region.wanted o (yielded ops (putAll ops vs is a0).tmps) = true then Oper.wp P o (putAll ops vs is a0) W K Q else K ((putAll ops vs is a0).put o.dst undef) W)
    (hs : OpsI P ops Q S G deps is a0 l) : OpsI P ops Q S G deps is a0 (i :: l) := fun j hj o' ho' => by
  rcases List.mem_cons.1 hj with rfl | hj
  · rw [ho] at ho'; cases ho'; exact h
  · exact hs j hj o' ho'

theorem getD_set_self (L : Array Bool) (i : Nat) (d : Bool) (h : i < L.size) : (L.setIfInBounds i true).getD i d = true := by simp [Array.getD, h]
theorem getD_any (L : Array Bool) (i : Nat) (d e : Bool) (h : i < L.size) : L.getD i d = L.getD i e := by simp [Array.getD, h]

theorem wpAnyH_inv (is : List Nat) (deps : Nat → List Nat) (G : Nat → Value → World → Prop) (L0 : Array Bool) (a0 : Act)
    (hcl : ∀ W W', S W → Below W.heap.size W W' → S W') (hG : ∀ i v W W', G i v W → Below W.heap.size W W' → G i v W')
    (hds : dsOk ops is = true) (hchk : invOk md ops L0 is deps = true)
    (hops : OpsI P ops Q S G deps is a0 is)
    (hend : ∀ (vs : Nat → Value) (W : World), S W → (∀ i ∈ is, G i (vs i) W) → Q .normal (putAll ops vs is a0) W) :
    ∀ (fuel : Nat) (L : Array Bool) (vs : Nat → Value) (W : World), S W → L.size = L0.size → (∀ j, j ∉ is → L.getD j true = L0.getD j true) →
      (∀ i ∈ is, L.getD i true = true → G i (vs i) W ∧ ∀ j ∈ deps i, L.getD j true = true) → (is.filter fun i => !L.getD i true).length ≤ fuel →
      wpAnyH P md ops Q S fuel L (putAll ops vs is a0) W := by
  simp only [invOk, Bool.and_eq_true, List.all_eq_true, List.mem_range, Bool.or_eq_true, List.contains_iff_mem, decide_eq_true_eq] at hchk
  obtain ⟨hall, hone⟩ := hchk
  have hlist : ∀ (L : Array Bool), L.size = L0.size → (∀ j, j ∉ is → L.getD j true = L0.getD j true) → ∀ i, i ∈ Region.ready md ops L → i ∈ is ∧ L.getD i true = false := by
    intro L hsz hL i hi
    obtain ⟨h1, o, ho, _⟩ := mem_ready.1 hi
    refine ⟨?_, h1⟩
    have hlt : i < ops.size := (Array.getElem?_eq_some_iff.1 ho).1
    rcases hall i hlt with h | h
    · by_cases hm : i ∈ is
      · exact hm
      · rw [hL i hm, h] at h1; cases h1
    · exact h
  have hready : ∀ (L : Array Bool), L.size = L0.size → (∀ j, j ∉ is → L.getD j true = L0.getD j true) → Region.ready md ops L = [] → ∀ i ∈ is, L.getD i true = true := by
    intro L hsz hL hr
    have hind : ∀ i, i < ops.size → L.getD i true = true := by
      intro i
      induction i using Nat.strongRecOn with
      | _ i ih =>
        intro hlt
        cases hx : L.getD i true with
        | true => rfl
        | false =>
          exfalso
          have hm : i ∈ is := by
            rcases hall i hlt with h | h
            · by_cases hm : i ∈ is
              · exact hm
              · rw [← hL i hm, hx] at h; cases h
            · exact h
          obtain ⟨⟨⟨h1, h2⟩, h3⟩, _⟩ := hone i hm
          have hmem : i ∈ Region.ready md ops L := by
            refine mem_ready.2 ⟨hx, ops[i], by simp [hlt], fun e he hb => ?_⟩
            simp only [Array.getElem?_eq_getElem hlt, Option.map_some, Option.getD_some, Array.all_eq_true'] at h3
            have h4 := h3 e he
            simp only [hb, Bool.not_true, Bool.false_or, decide_eq_true_eq] at h4
            have h5 := ih e.on h4 (by omega)
            rw [getD_any L e.on false true (by omega)]
            exact h5
          rw [hr] at hmem
          cases hmem
    intro i hi
    exact hind i (hone i hi).1.1.2
  intro fuel
  induction fuel with
  | zero =>
    intro L vs W hS hsz hL hI hf
    have hnil : (is.filter fun i => !L.getD i true) = [] := List.eq_nil_of_length_eq_zero (by omega)
    have hdone : ∀ i ∈ is, L.getD i true = true := fun i hi => by
      cases hx : L.getD i true with
      | true => rfl
      | false =>
        have : i ∈ (is.filter fun i => !L.getD i true) := List.mem_filter.2 ⟨hi, by simp only [hx, Bool.not_false]⟩
        rw [hnil] at this
        cases this
    refine ⟨?_, hend vs W hS (fun i hi => (hI i hi (hdone i hi)).1)⟩
    cases hr : Region.ready md ops L with
    | nil => rfl
    | cons x xs =>
      obtain ⟨h1, h2⟩ := hlist L hsz hL x (by rw [hr]; exact List.mem_cons_self ..)
      rw [hdone x h1] at h2
      cases h2
  | succ fuel ih =>
    intro L vs W hS hsz hL hI hf
    refine ⟨fun hr => ?_, fun i hi => ?_⟩
    · have hdone := hready L hsz hL hr
      exact hend vs W hS (fun i hi => (hI i hi (hdone i hi)).1)
    · obtain ⟨him, hun⟩ := hlist L hsz hL i hi
      obtain ⟨_, o, ho, hbind⟩ := mem_ready.1 hi
      obtain ⟨⟨⟨hi1, hi2⟩, _⟩, hdep⟩ := hone i him
      have hdeps : ∀ j ∈ deps i, j ∈ is ∧ L.getD j true = true := by
        intro j hj
        obtain ⟨hjm, hx⟩ := hdep j hj
        refine ⟨hjm, ?_⟩
        simp only [ho, Option.map_some, Option.getD_some, Array.any_eq_true'] at hx
        obtain ⟨e, he, hx⟩ := hx
        simp only [Bool.and_eq_true, Bool.or_eq_true, beq_iff_eq, List.contains_iff_mem] at hx
        obtain ⟨hb, hx⟩ := hx
        have hl := hbind e he hb
        have hl' : L.getD e.on true = true := by
          rcases Nat.lt_or_ge e.on L.size with h | h
          · rw [getD_any L e.on true false h]; exact hl
          · simp [Array.getD, Nat.not_lt.2 h]
        rcases hx with rfl | ⟨hem, hej⟩
        · exact hl'
        · exact (hI e.on hem hl').2 j hej
      refine wpOp_step ho (fun K' hK => ?_)
      refine hops i him o ho vs W hS (fun j hj => (hI j (hdeps j hj).1 (hdeps j hj).2).1) K' (fun v W' hGv hB => ?_)
      have hd : o.dst = dstOf ops i := by simp [dstOf, ho]
      rw [hd, putAll_put vs i v is a0 hds him]
      refine hK _ _ ⟨hcl W W' hS hB, ?_⟩
      refine ih _ _ _ (hcl W W' hS hB) (by simp [hsz]) (fun j hj => ?_) (fun k hk hlk => ?_) ?_
      · have : i ≠ j := fun h => hj (h ▸ him)
        rw [getD_set_ne true this]; exact hL j hj
      · by_cases e : i = k
        · subst e
          refine ⟨by simpa [updV] using hGv, fun j hj => ?_⟩
          by_cases e2 : i = j
          · subst e2; exact getD_set_self L i true (by omega)
          · rw [getD_set_ne true e2]; exact (hdeps j hj).2
        · rw [getD_set_ne true e] at hlk
          obtain ⟨h1, h2⟩ := hI k hk hlk
          refine ⟨?_, fun j hj => ?_⟩
          · have : updV vs i v k = vs k := by simp [updV, Ne.symm e]
            rw [this]
            exact hG k _ W W' h1 hB
          · by_cases e2 : i = j
            · subst e2; exact getD_set_self L i true (by omega)
            · rw [getD_set_ne true e2]; exact h2 j hj
      · have hlt : (is.filter fun k => !(L.setIfInBounds i true).getD k true).length < (is.filter fun k => !L.getD k true).length := by
          have key : ∀ l : List Nat, (l.filter fun k => !(L.setIfInBounds i true).getD k true).length ≤ (l.filter fun k => !L.getD k true).length ∧
              (i ∈ l → (l.filter fun k => !(L.setIfInBounds i true).getD k true).length < (l.filter fun k => !L.getD k true).length) := by
            intro l
            induction l with
            | nil => exact ⟨Nat.le_refl _, fun h => by cases h⟩
            | cons x l ihl =>
              by_cases e : i = x
              · subst e
                have h1 : (!(L.setIfInBounds i true).getD i true) = false := by rw [getD_set_self L i true (by omega)]; rfl
                have h2 : (!L.getD i true) = true := by rw [hun]; rfl
                rw [List.filter_cons_of_neg (by rw [h1]; decide), List.filter_cons_of_pos (by rw [h2])]
                simp only [List.length_cons]
                exact ⟨by omega, fun _ => by omega⟩
              · have h1 : (L.setIfInBounds i true).getD x true = L.getD x true := getD_set_ne true e
                simp only [List.filter_cons, h1]
                split
                · simp only [List.length_cons]
                  exact ⟨by omega, fun hm => by
                    rcases List.mem_cons.1 hm with h | h
                    · exact absurd h e
                    · have := ihl.2 h; omega⟩
                · exact ⟨ihl.1, fun hm => by
                    rcases List.mem_cons.1 hm with h | h
                    · exact absurd h e
                    · exact ihl.2 h⟩
          exact (key is).2 him
        omega

/-- From where the walk stands. -/
theorem wpAnyH_inv0 (is : List Nat) (deps : Nat → List Nat) (G : Nat → Value → World → Prop) {L0 : Array Bool} {a0 : Act} {W0 : World} {fuel : Nat} (hS : S W0)
    (hcl : ∀ W W', S W → Below W.heap.size W W' → S W') (hG : ∀ i v W W', G i v W → Below W.heap.size W W' → G i v W')
    (hds : dsOk ops is = true) (hchk : invOk md ops L0 is deps = true) (hun : (is.all fun i => !L0.getD i true) = true) (hlen : is.length ≤ fuel)
    (hops : OpsI P ops Q S G deps is a0 is)
    (hend : ∀ (vs : Nat → Value) (W : World), S W → (∀ i ∈ is, G i (vs i) W) → Q .normal (putAll ops vs is a0) W) : wpAnyH P md ops Q S fuel L0 a0 W0 := by
  have h := wpAnyH_inv (P := P) (md := md) (Q := Q) (S := S) is deps G L0 a0 hcl hG hds hchk hops hend fuel L0 (fun i => ownV a0 (dstOf ops i)) W0 hS rfl (fun _ _ => rfl)
    (fun i hi hx => by
      have := List.all_eq_true.1 hun i hi
      rw [hx] at this
      cases this) (Nat.le_trans (List.length_filter_le _ _) hlen)
  rw [putAll_self] at h
  exact h
theorem cls_step (w : World) : ∀ W W', Cls w W → Below W.heap.size W W' → Cls w W' := fun _ _ h hb => Cls.of (below_step h.below h.below.size hb)
attribute [go_sem] putAll dstOf

/-- All but the last ones, in one forced order, only read. -/
theorem wp_region_tail {id : Nat} {Q : Exit → Act → World → Prop} {a : Act} {w : World} {l : List Oper} (n : Nat) (hm : P.follows .mixedOrders = true) (hB : Region.lexTailB .any l.toArray n = true)
    (h : wpStill P l.toArray w.drew (fun a' => wpList P l.toArray Q (l.drop n) a' w.drew) (l.take n) a) : (Code.region id l.toArray true).wp P Q a w := wp_region_still_tail n hm hB h
end
end Go.Proofs.Ytkfgegdnpinbdaa

namespace Go.Proofs.Ytkfgegdnpinbdaa
open Go.RowKit

def cmpI (x y : Int) : Int := if x < y then -1 else if y < x then 1 else 0
def orI (a b c : Int) : Int := if a = 0 then (if b = 0 then c else b) else a

theorem isNaN8 (x : Int) (w : World) : Calls Try.prog 128 #[.int .u8 x] w fun e w' => e = .returned (.bool false) ∧ w' = w := by
  go_enter Try.func128, Try.ntmps128
  go_wp2
  go_ret
  exact ⟨rfl, rfl⟩
theorem isNaN32 (x : Int) (w : World) : Calls Try.prog 129 #[.int .u32 x] w fun e w' => e = .returned (.bool false) ∧ w' = w := by
  go_enter Try.func129, Try.ntmps129
  go_wp2
  go_ret
  exact ⟨rfl, rfl⟩
theorem compare8 (x y : Int) (w : World) : Calls Try.prog 115 #[.int .u8 x, .int .u8 y] w fun e w' => e = .returned (.int .i64 (cmpI x y)) ∧ w' = w := by
  unfold cmpI
  by_cases h1 : x < y
  · rw [if_pos h1]
    go_enter Try.func115, Try.ntmps115
    go_wp2_with (go_at_call 128; refine (isNaN8 _ _).mono ?_; rintro e w' ⟨rfl, rfl⟩)
    go_ret
    exact ⟨rfl, rfl⟩
  · rw [if_neg h1]
    by_cases h2 : y < x
    · rw [if_pos h2]
      go_enter Try.func115, Try.ntmps115
      go_wp2_with (go_at_call 128; refine (isNaN8 _ _).mono ?_; rintro e w' ⟨rfl, rfl⟩)
      go_ret
      exact ⟨rfl, rfl⟩
    · rw [if_neg h2]
      go_enter Try.func115, Try.ntmps115
      go_wp2_with (go_at_call 128; refine (isNaN8 _ _).mono ?_; rintro e w' ⟨rfl, rfl⟩)
      go_ret
      exact ⟨rfl, rfl⟩
theorem compare32 (x y : Int) (w : World) : Calls Try.prog 116 #[.int .u32 x, .int .u32 y] w fun e w' => e = .returned (.int .i64 (cmpI x y)) ∧ w' = w := by
  unfold cmpI
  by_cases h1 : x < y
  · rw [if_pos h1]
    go_enter Try.func116, Try.ntmps116
    go_wp2_with (go_at_call 129; refine (isNaN32 _ _).mono ?_; rintro e w' ⟨rfl, rfl⟩)
    go_ret
    exact ⟨rfl, rfl⟩
  · rw [if_neg h1]
    by_cases h2 : y < x
    · rw [if_pos h2]
      go_enter Try.func116, Try.ntmps116
      go_wp2_with (go_at_call 129; refine (isNaN32 _ _).mono ?_; rintro e w' ⟨rfl, rfl⟩)
      go_ret
      exact ⟨rfl, rfl⟩
    · rw [if_neg h2]
      go_enter Try.func116, Try.ntmps116
      go_wp2_with (go_at_call 129; refine (isNaN32 _ _).mono ?_; rintro e w' ⟨rfl, rfl⟩)
      go_ret
      exact ⟨rfl, rfl⟩

set_option maxHeartbeats 400000 in
theorem or3 (b off : Nat) (a0 a1 a2 : Int) (w : World) (h0 : w.cell? ⟨b, off, none⟩ = some (.int .i64 a0)) (h1 : w.cell? ⟨b, off + 1, none⟩ = some (.int .i64 a1)) (h2 : w.cell? ⟨b, off + 2, none⟩ = some (.int .i64 a2)) :
    Calls Try.prog 114 #[.slice (some ⟨b, off, none⟩) 3 3] w fun e w' => e = .returned (.int .i64 (orI a0 a1 a2)) ∧ w' = w := by
  have H := Lib.hid (And.intro h0 (And.intro h1 h2))
  clear h0 h1 h2
  go_enter Try.func114, Try.ntmps114
  go_wp2
  go_loop [8] (fun i => ∃ k : Nat, k ≤ 3 ∧ i = .int .i64 k ∧ (0 < k → a0 = 0) ∧ (1 < k → a1 = 0) ∧ (2 < k → a2 = 0)) (fun i => 3 - (intOf i).toNat)
  case atStart => exact ⟨0, by omega, rfl, by omega, by omega, by omega⟩
  case round =>
    obtain ⟨k, hk, rfl, e0, e1, e2⟩ := hrel
    have hor : orI a0 a1 a2 = if k = 0 then orI a0 a1 a2 else if k = 1 then orI 0 a1 a2 else if k = 2 then orI 0 0 a2 else 0 := by
      unfold orI
      repeat' split
      all_goals omega
    have HO := Lib.hid hor
    by_cases hlt : k < 3
    · obtain ⟨x, hx, hx2, hx3⟩ : ∃ x, w.cell? ⟨b, off + k, none⟩ = some (.int .i64 x) ∧ (x = 0 → (0 < k + 1 → a0 = 0) ∧ (1 < k + 1 → a1 = 0) ∧ (2 < k + 1 → a2 = 0)) ∧ (x ≠ 0 → orI a0 a1 a2 = x) := by
        obtain ⟨h0, h1, h2⟩ := H.out
        unfold orI
        rcases (by omega : k = 0 ∨ k = 1 ∨ k = 2) with rfl | rfl | rfl
        · exact ⟨a0, h0, fun h => ⟨fun _ => h, by omega, by omega⟩, fun h => by rw [if_neg h]⟩
        · exact ⟨a1, h1, fun h => ⟨fun _ => e0 (by omega), fun _ => h, by omega⟩, fun h => by rw [if_pos (e0 (by omega)), if_neg h]⟩
        · exact ⟨a2, h2, fun h => ⟨fun _ => e0 (by omega), fun _ => e1 (by omega), fun _ => h⟩, fun h => by rw [if_pos (e0 (by omega)), if_pos (e1 (by omega))]⟩
      have HX := Lib.hid (And.intro hx2 hx3)
      clear hor HO hx2 hx3 e0 e1 e2
      by_cases hz : x = 0
      · have hz2 := HX.out.1 hz
        have HZ := Lib.hid hz2
        subst hz
        clear hz2
        go_wp2
        go_round
        case rel => exact ⟨k + 1, by omega, by go_num, HZ.out.1, HZ.out.2.1, HZ.out.2.2⟩
        case measure => simp [intOf]; omega
      · go_wp2
        go_ret
        exact ⟨by rw [HX.out.2 hz]; rfl, rfl⟩
    · obtain rfl : k = 3 := by omega
      clear hor e0 e1 e2
      go_wp2
      go_ret
      exact ⟨by rw [HO.out]; rfl, rfl⟩

def keyV (k : KeyL) : Value := .agg #[bV k.kind, wV k.id, wV k.off]
/-- Does a key stand ahead of another one? -/
def lessK (a b : KeyL) : Bool :=
  if a.kind = b.kind then (if a.id = b.id then decide (a.off.toNat < b.off.toNat) else decide (a.id.toNat < b.id.toNat)) else decide (a.kind.toNat < b.kind.toNat)
theorem cmp_eq0 (x y : Nat) : cmpI x y = 0 ↔ x = y := by unfold cmpI; split <;> (try split) <;> omega
theorem cmp_lt0 (x y : Nat) : cmpI x y < 0 ↔ x < y := by unfold cmpI; split <;> (try split) <;> omega
theorem less_or (a b : KeyL) : decide (orI (cmpI a.kind.toNat b.kind.toNat) (cmpI a.id.toNat b.id.toNat) (cmpI a.off.toNat b.off.toNat) < 0) = lessK a b := by
  unfold orI lessK
  simp only [cmp_eq0, ← UInt8.toNat_inj, ← UInt32.toNat_inj]
  split
  · split
    · simp only [cmp_lt0]
    · simp only [cmp_lt0]
  · simp only [cmp_lt0]
set_option maxHeartbeats 1000000 in
set_option maxRecDepth 100000 in
theorem less_any (a b : KeyL) (w : World) : Calls Try.prog 93 #[keyV a, keyV b] w fun e w' => e = .returned (.bool (lessK a b)) ∧ Below w.heap.size w w' := by
  have hb := less_or a b
  have Hb := Lib.hid hb
  obtain ⟨k1, i1, o1⟩ := a
  obtain ⟨k2, i2, o2⟩ := b
  simp only [keyV, bV, wV] at *
  clear hb
  go_enter Try.func93, Try.ntmps93
  go_wp2_with fail
  refine wp_region_tail 15 (by kernel_rfl) (by kernel_rfl) ?_
  simp only [List.take_succ_cons, List.take_zero, List.drop_succ_cons, List.drop_zero]
  repeat still_step
  still_call (compare8 _ _ _)
  repeat still_step
  still_call (compare32 _ _ _)
  repeat still_step
  still_call (compare32 _ _ _)
  refine wpStill_nil ?_
  have hW : Below w.heap.size w ((w.alloc (.cells #[.int .u8 (k1.toNat : Int), .int .u32 (i1.toNat : Int), .int .u32 (o1.toNat : Int)] 95)).alloc (.cells #[.int .u8 (k2.toNat : Int), .int .u32 (i2.toNat : Int), .int .u32 (o2.toNat : Int)] 95)).drew :=
    (((Below.refl _ _).alloc (Nat.le_refl _) _).alloc (by simp) _).drew
  generalize ((w.alloc (.cells #[.int .u8 (k1.toNat : Int), .int .u32 (i1.toNat : Int), .int .u32 (o1.toNat : Int)] 95)).alloc (.cells #[.int .u8 (k2.toNat : Int), .int .u32 (i2.toNat : Int), .int .u32 (o2.toNat : Int)] 95)).drew = W at *
  generalize cmpI (k1.toNat : Int) k2.toNat = c0 at *
  generalize cmpI (i1.toNat : Int) i2.toNat = c1 at *
  generalize cmpI (o1.toNat : Int) o2.toNat = c2 at *
  go_wp2_with fail
  refine (or3 W.heap.size 0 c0 c1 c2 _ (by rw [World.cell?_alloc_new]; rfl) (by rw [World.cell?_alloc_new]; rfl) (by rw [World.cell?_alloc_new]; rfl)).mono ?_
  rintro e w' ⟨rfl, rfl⟩
  go_wp2
  go_ret
  exact ⟨by rw [← Hb.out]; rfl, hW.alloc hW.size _⟩
end Go.Proofs.Ytkfgegdnpinbdaa

namespace Go.Proofs.Ytkfgegdnpinbdaa
open Go.RowKit

theorem info_u8 : (Try.prog.info? 5).map (fun i => (i.zero, i.size, i.bytes)) = some (some (.int .u8 0), 1, 1) := by kernel_rfl

/-- A number's bytes, so many, the lowest first. -/
def bytesL (n : Nat) : Nat → List UInt8
  | 0 => []
  | k + 1 => bytesL n k ++ [UInt8.ofNat (n / 256 ^ k)]
theorem bytesL_length (n : Nat) : ∀ k, (bytesL n k).length = k
  | 0 => rfl
  | k + 1 => by simp [bytesL, bytesL_length n k]

theorem bytes_one (w : World) (n : Int) (q : Nat) (h : n = (q % 256 : Nat)) (t : TypeId) :
    Bytes (w.alloc (.cells #[.int .u8 n] t)) w.heap.size (w.heap.size + 1) (.slice (some ⟨w.heap.size, 0, none⟩) 1 1) [UInt8.ofNat q] := by
  rw [bV_ofNat n q h]
  exact Bytes.new w t [UInt8.ofNat q] (by simp [maxLen]) (0, 0)

set_option maxHeartbeats 1000000 in
theorem bytes_own (n many : Nat) (w : World) (hm : many ≤ 1000) (hn : n ≤ 9000000000000000000) :
    Calls Try.prog 138 #[.int .i64 n, .int .i64 many] w fun e w' => ∃ v, e = .returned v ∧ OwnB w.heap.size 5 w' v (bytesL n many) ∧ Below w.heap.size w w' := by
  go_enter Try.func138, Try.ntmps138
  go_wp2
  go_loopw [0, 5, 6] (fun m v i wr => ∃ k : Nat, k ≤ many ∧ i = .int .i64 k ∧ m = .int .i64 (n / 256 ^ k : Nat) ∧ OwnB w.heap.size 5 wr v (bytesL n k) ∧ Below w.heap.size w wr) (fun _ _ i _ => many - (intOf i).toNat)
  case atStart => exact ⟨0, Nat.zero_le _, rfl, by simp, OwnB.nil_ _ _ _, Below.refl _ _⟩
  case round =>
    obtain ⟨k, hk, rfl, rfl, hown, hB⟩ := hrel
    by_cases hlt : k < many
    · have hq : n / 256 ^ k ≤ n := Nat.div_le_self _ _
      have hs : n / 256 ^ (k + 1) = n / 256 ^ k / 256 := by rw [Nat.pow_succ, Nat.div_div_eq_div_mul]
      have HS := Lib.hid hs
      have hlen := bytesL_length n k
      have HL := Lib.hid hlen
      have hsuc : bytesL n (k + 1) = bytesL n k ++ [UInt8.ofNat (n / 256 ^ k)] := rfl
      have HU := Lib.hid hsuc
      clear hs hlen hsuc
      generalize n / 256 ^ k = q at *
      generalize bytesL n k = l at *
      go_wp2_with (at_builtin; refine wpList_appB rfl _ _ 26 rfl w.heap.size 5 Try.underlying26 info_u8 _ l rfl (hown.alloc _) wr.heap.size (wr.heap.size + 1) _ [UInt8.ofNat q] rfl (bytes_one wr _ q (by omega) _) (by have := HL.out; simp; omega) (by have := hB.size; simp; omega) ?_; intro v' w1 hown' hB1)
      go_roundw
      case rel => exact ⟨k + 1, by omega, by go_num, by rw [HS.out]; go_num, by rw [HU.out]; exact hown', (hB.alloc hB.size _).trans hB1⟩
      case measure => simp [intOf]; omega
    · obtain rfl : k = many := by omega
      go_wp2
      go_ret
      exact ⟨_, rfl, hown, hB⟩
theorem numOf_drop (l : List UInt8) (m : Nat) (h : m < l.length) : numOf (l.drop m) = (l.getD m 0).toNat + 256 * numOf (l.drop (m + 1)) := by
  rw [List.drop_eq_getElem_cons h, numOf]
  simp [h]

set_option maxHeartbeats 1000000 in
theorem number_any (v : Value) (l : List UInt8) (w : World) (hI : Bytes w 0 w.heap.size v l) (hl : l.length ≤ 6) :
    Calls Try.prog 136 #[v] w fun e w' => e = .returned (.int .i64 (numOf l : Nat)) ∧ w = w' := by
  obtain ⟨a, c, rfl, g1, g2, g3, _⟩ := hI
  unfold maxLen at g2
  go_enter Try.func136, Try.ntmps136
  go_wp2
  go_loop [3, 4] (fun n i => ∃ k : Nat, k ≤ l.length ∧ i = .int .i64 ((k : Int) - 1) ∧ n = .int .i64 (numOf (l.drop k) : Nat)) (fun _ i => (intOf i + 1).toNat)
  case atStart => exact ⟨l.length, Nat.le_refl _, rfl, by simp [numOf]⟩
  case round =>
    obtain ⟨k, hk, rfl, rfl⟩ := hrel
    rcases Nat.eq_zero_or_pos k with rfl | hp
    · go_wp2
      go_ret
      exact ⟨by simp, rfl⟩
    · obtain ⟨m, rfl⟩ : ∃ m, k = m + 1 := ⟨k - 1, by omega⟩
      obtain ⟨b, off, rfl, _, hb, hc⟩ := g3 (by omega)
      have hml : m < l.length := by omega
      have hx := hc m (l.getD m 0) (by simp [hml])
      have hd := numOf_drop l m (by omega)
      have HD := Lib.hid hd
      have hbd := numOf_lt (l.drop (m + 1))
      have hbe : 256 ^ (l.drop (m + 1)).length ≤ 256 ^ 5 := Nat.pow_le_pow_right (by decide) (by simp; omega)
      have hbf : numOf (l.drop (m + 1)) < 1099511627776 := by simp only [show (256 : Nat) ^ 5 = 1099511627776 by decide] at hbe; omega
      have hxl := (l.getD m 0).toNat_lt
      clear hd hc hbd hbe
      generalize numOf (l.drop (m + 1)) = q at *
      generalize l.getD m 0 = x at *
      unfold bV at hx
      rw [show ((m + 1 : Nat) : Int) - 1 = (m : Int) by omega]
      go_wp2
      go_round
      case rel => exact ⟨m, by omega, rfl, by rw [HD.out]; congr 1; omega⟩
      case measure => simp [intOf]

theorem there_any (v : Value) (l : List UInt8) (at_ : Int) (many : Nat) (w : World) (hI : Bytes w 0 w.heap.size v l) (hm : many ≤ 4) :
    Calls Try.prog 135 #[v, .int .i64 at_, .int .i64 many] w fun e w' => e = .returned (.bool (decide (0 ≤ at_ ∧ at_.toNat + many ≤ l.length))) ∧ w = w' := by
  obtain ⟨a, c, rfl, g1, g2, g3, _⟩ := hI
  unfold maxLen at g2
  clear g3
  have hr : decide (0 ≤ at_ ∧ at_.toNat + many ≤ l.length) = decide (0 ≤ at_ ∧ at_ ≤ (l.length : Int) ∧ (many : Int) ≤ l.length - at_) := by congr 1; apply propext; omega
  rw [hr]
  clear hr
  by_cases h1 : 0 ≤ at_
  · by_cases h2 : at_ ≤ (l.length : Int)
    · by_cases h3 : (many : Int) ≤ (l.length : Int) - at_
      all_goals
        go_enter Try.func135, Try.ntmps135
        go_wp2
        go_ret
        exact ⟨by simp [*], rfl⟩
    · go_enter Try.func135, Try.ntmps135
      go_wp2
      go_ret
      exact ⟨by simp [*]; omega, rfl⟩
  · go_enter Try.func135, Try.ntmps135
    go_wp2
    go_ret
    exact ⟨by simp [*]; omega, rfl⟩

theorem bytesL_two (n : Nat) : bytesL n 2 = twoL n := by simp [bytesL, twoL]
theorem bytesL_four (n : Nat) : bytesL n 4 = fourL n := by simp [bytesL, fourL]

theorem rfour_own (n : Nat) (w : World) (h : n < 4294967296) :
    Calls Try.prog 133 #[.int .u32 n] w fun e w' => ∃ v, e = .returned v ∧ OwnB w.heap.size 5 w' v (fourL n) ∧ Below w.heap.size w w' := by
  have hc := bytes_own n 4 w (by omega) (by omega)
  rw [bytesL_four] at hc
  generalize fourL n = l at *
  go_enter Try.func133, Try.ntmps133
  go_wp2_with (go_at_call 138; refine hc.mono ?_; rintro e w' ⟨v, rfl, hb⟩)
  go_ret
  exact ⟨_, rfl, hb⟩
set_option maxHeartbeats 1000000 in
theorem rgetTwo_any (v : Value) (l : List UInt8) (at_ : Int) (w : World) (hI : Bytes w 0 w.heap.size v l) :
    Calls Try.prog 126 #[v, .int .i64 at_] w fun e w' => e = .returned (.tuple #[.int .i64 (getN l at_ 2), .int .i64 (getE l at_ 2)]) ∧ w = w' := by
  have hth := there_any v l at_ 2 w hI (by omega)
  by_cases h : 0 ≤ at_ ∧ at_.toNat + 2 ≤ l.length
  · have hd : decide (0 ≤ at_ ∧ at_.toNat + 2 ≤ l.length) = true := by simpa using h
    rw [hd] at hth
    obtain ⟨k, rfl⟩ := Int.eq_ofNat_of_zero_le h.1
    simp at h
    obtain ⟨a, c, rfl, g1, g2, g3, _⟩ := id hI
    obtain ⟨b, off, rfl, _, hb, _⟩ := g3 (by omega)
    have hnum := number_any _ _ w (hI.cut k 2 (c - k) h (by omega) (by omega)) (by simp; omega)
    have hfin : getN l k 2 = numOf ((l.drop k).take 2) ∧ getE l k 2 = 0 := by simp only [getN, getE, Int.toNat_natCast]; rw [if_pos (by omega), if_pos (by omega)]; exact ⟨rfl, rfl⟩
    rw [hfin.1, hfin.2]
    clear hfin hd g3 hI
    generalize numOf ((l.drop k).take 2) = q at *
    unfold maxLen at g2
    go_enter Try.func126, Try.ntmps126
    go_wp2_with (first | (go_at_call 135; refine hth.mono ?_; rintro e w' ⟨rfl, rfl⟩) | (go_at_call 136; refine hnum.mono ?_; rintro e w' ⟨rfl, rfl⟩))
    go_ret2
    exact ⟨rfl, rfl⟩
  · have hd : decide (0 ≤ at_ ∧ at_.toNat + 2 ≤ l.length) = false := by simpa using h
    rw [hd] at hth
    have hfin : getN l at_ 2 = 0 ∧ getE l at_ 2 = 8 := by simp only [getN, getE]; rw [if_neg h, if_neg h]; exact ⟨rfl, rfl⟩
    rw [hfin.1, hfin.2]
    clear hfin hd hI h
    go_enter Try.func126, Try.ntmps126
    go_wp2_with (go_at_call 135; refine hth.mono ?_; rintro e w' ⟨rfl, rfl⟩)
    go_ret2
    exact ⟨rfl, rfl⟩

set_option maxHeartbeats 1000000 in
theorem rgetFour_any (v : Value) (l : List UInt8) (at_ : Int) (w : World) (hI : Bytes w 0 w.heap.size v l) :
    Calls Try.prog 124 #[v, .int .i64 at_] w fun e w' => e = .returned (.tuple #[.int .u32 (getN l at_ 4), .int .i64 (getE l at_ 4)]) ∧ w = w' := by
  have hth := there_any v l at_ 4 w hI (by omega)
  by_cases h : 0 ≤ at_ ∧ at_.toNat + 4 ≤ l.length
  · have hd : decide (0 ≤ at_ ∧ at_.toNat + 4 ≤ l.length) = true := by simpa using h
    rw [hd] at hth
    obtain ⟨k, rfl⟩ := Int.eq_ofNat_of_zero_le h.1
    simp at h
    obtain ⟨a, c, rfl, g1, g2, g3, _⟩ := id hI
    obtain ⟨b, off, rfl, _, hb, _⟩ := g3 (by omega)
    have hnum := number_any _ _ w (hI.cut k 4 (c - k) h (by omega) (by omega)) (by simp; omega)
    have hlt := getN_lt l k 4
    have hfin : getN l k 4 = numOf ((l.drop k).take 4) ∧ getE l k 4 = 0 := by simp only [getN, getE, Int.toNat_natCast]; rw [if_pos (by omega), if_pos (by omega)]; exact ⟨rfl, rfl⟩
    rw [hfin.1] at hlt
    rw [hfin.1, hfin.2]
    clear hfin hd g3 hI
    generalize numOf ((l.drop k).take 4) = q at *
    simp only [show (256 : Nat) ^ 4 = 4294967296 by decide] at hlt
    unfold maxLen at g2
    go_enter Try.func124, Try.ntmps124
    go_wp2_with (first | (go_at_call 135; refine hth.mono ?_; rintro e w' ⟨rfl, rfl⟩) | (go_at_call 136; refine hnum.mono ?_; rintro e w' ⟨rfl, rfl⟩))
    go_ret2
    exact ⟨rfl, rfl⟩
  · have hd : decide (0 ≤ at_ ∧ at_.toNat + 4 ≤ l.length) = false := by simpa using h
    rw [hd] at hth
    have hfin : getN l at_ 4 = 0 ∧ getE l at_ 4 = 8 := by simp only [getN, getE]; rw [if_neg h, if_neg h]; exact ⟨rfl, rfl⟩
    rw [hfin.1, hfin.2]
    clear hfin hd hI h
    go_enter Try.func124, Try.ntmps124
    go_wp2_with (go_at_call 135; refine hth.mono ?_; rintro e w' ⟨rfl, rfl⟩)
    go_ret2
    exact ⟨rfl, rfl⟩
end Go.Proofs.Ytkfgegdnpinbdaa

namespace Go.Proofs.Ytkfgegdnpinbdaa
open Go.RowKit Go.ChangeShapes Go.WideShapes Go.Deep

/-- The fields of a struct: where each begins, and its type. -/
def fieldsOf (P : Program) (t : TypeId) : Option (List (Nat × TypeId)) :=
  match P.underlying t with
  | some (.struct fs) => some (fs.toList.map fun f => (f.offset, f.type))
  | _ => none

section
variable {H : Type} {enc : TypeId × Value → H} {P : Program} {w : World} {base : Nat} {spare : Nat → Bool} {held : Bool} {fuel : Nat} {t : TypeId} {cs : List Value} {x : DataW H × List MemPlace}
theorem trod_parts {l : List (Nat × TypeId)} (ht : fieldsOf P t = some l) (h : DataW.trod enc P w base spare held fuel t cs = some x) :
    cs.length = P.cellsOf t ∧ ∃ n, ∀ f ∈ l, ∃ y, DataW.trod enc P w base spare held n f.2 ((cs.drop f.1).take (P.cellsOf f.2)) = some y := by
  unfold fieldsOf at ht
  split at ht
  · rename_i fs hu
    cases ht
    obtain ⟨h1, n, h2⟩ := trod_fields hu h
    refine ⟨h1, n, fun f hf => ?_⟩
    obtain ⟨g, hg, rfl⟩ := List.mem_map.1 hf
    exact h2 g hg
  · cases ht
theorem okW_struct {r : Reach} {v : Value} {l : List (Nat × TypeId)} (ht : fieldsOf P t = some l) (h : Value.okWide P w r base t v) : ∃ cs, v = .agg cs ∧ cs.size = P.cellsOf t := by
  unfold fieldsOf at ht
  split at ht
  · rename_i fs hu
    exact okWide_struct hu h
  · cases ht
end

def rU8 : Rd UInt8 where
  n := 1
  R _ _ _ x f := f 0 = some (bV x)
  keep _ h := h
  more _ _ h := h
  ext he h := (he 0 (by decide)) ▸ h
theorem Sl.bytes {w : World} {lo hi : Nat} {v : Value} {l : List UInt8} (h : Sl rU8 w lo hi v l) : Bytes w lo hi v l := by
  obtain ⟨a, c, e, h1, h2, h3, h4⟩ := h
  refine ⟨a, c, e, h1, h2, fun hp => ?_, h4⟩
  obtain ⟨b, off, ea, hlo, hhi, hc⟩ := h3 hp
  refine ⟨b, off, ea, hlo, hhi, fun i x hx => ?_⟩
  have := hc i x hx
  simpa [rU8] using this
theorem u8_of {n : Int} (h : (Lit.int .u8 n).wf = true) : ∃ x : UInt8, Value.int .u8 n = bV x := by
  obtain ⟨h1, h2⟩ := bounds_u8 h
  refine ⟨UInt8.ofNat n.toNat, ?_⟩
  simp [bV]
  omega
theorem u32_of {n : Int} (h : (Lit.int .u32 n).wf = true) : ∃ x : UInt32, Value.int .u32 n = wV x := by
  obtain ⟨h1, h2⟩ := bounds_u32 h
  refine ⟨UInt32.ofNat n.toNat, ?_⟩
  simp [wV]
  omega

section
variable {P : Program} {e : TypeId}
theorem opens_u8 (he : P.underlying e = some (.int .u8)) : Opens P e rU8 := fun h _ => by
  obtain ⟨n, rfl, _, hw⟩ := DataW.trod_int he h
  obtain ⟨x, hx⟩ := u8_of hw
  exact ⟨x, by rw [hx]; rfl⟩
variable {H : Type} {enc : TypeId × Value → H} {w : World} {base : Nat} {spare : Nat → Bool} {held : Bool} {fuel : Nat} {t : TypeId} {cs : List Value} {x : DataW H × List MemPlace}
theorem open_bytes (ht : P.underlying t = some (.slice e)) (he : P.underlying e = some (.int .u8)) (hc : P.cellsOf e = 1) (h : DataW.trod enc P w base spare held fuel t cs = some x) :
    ∃ v l, cs = [v] ∧ Bytes w 0 w.heap.size v l := by
  obtain ⟨v, l, h1, h2⟩ := open_sl (r := rU8) ht hc (by decide) (opens_u8 he) h
  exact ⟨v, l, h1, h2.bytes⟩
theorem opens_bytes {u : TypeId} (ht : P.underlying e = some (.slice u)) (he : P.underlying u = some (.int .u8)) (hc : P.cellsOf u = 1) : Opens P e rBytes := fun h _ => by
  obtain ⟨v, l, rfl, h2⟩ := open_bytes ht he hc h
  exact ⟨l, v, rfl, h2⟩
theorem opens_write {ti tb u : TypeId} (ht : fieldsOf P e = some [(0, ti), (1, tb)]) (hi : P.underlying ti = some (.int .i64)) (hci : P.cellsOf ti = 1) (hcb : P.cellsOf tb = 1)
    (hb : P.underlying tb = some (.slice u)) (hu : P.underlying u = some (.int .u8)) (hc : P.cellsOf u = 1) : Opens P e rWrite := fun {H enc w base spare held fuel cs x} h hl => by
  obtain ⟨_, n, hf⟩ := trod_parts ht h
  obtain ⟨y0, h0⟩ := hf (0, ti) (by simp)
  obtain ⟨y1, h1⟩ := hf (1, tb) (by simp)
  dsimp only at h0 h1
  rw [hci] at h0
  rw [hcb] at h1
  obtain ⟨k, e0, _, hw⟩ := DataW.trod_int hi h0
  obtain ⟨v, l, e1, hB⟩ := open_bytes hb hu hc h1
  match cs, hl with
  | [c0, c1], _ =>
    simp at e0 e1
    subst e0 e1
    exact ⟨⟨k, l⟩, rfl, hw, _, rfl, hB⟩
theorem open_key {tk t8 t32 : TypeId} (ht : fieldsOf P tk = some [(0, t8), (1, t32), (2, t32)]) (h8 : P.underlying t8 = some (.int .u8)) (h32 : P.underlying t32 = some (.int .u32)) (c8 : P.cellsOf t8 = 1) (c32 : P.cellsOf t32 = 1) (ck : P.cellsOf tk = 3)
    (h : DataW.trod enc P w base spare held fuel tk cs = some x) : ∃ k : KeyL, cs = [bV k.kind, wV k.id, wV k.off] := by
  obtain ⟨hl, n, hf⟩ := trod_parts ht h
  obtain ⟨y0, h0⟩ := hf (0, t8) (by simp)
  obtain ⟨y1, h1⟩ := hf (1, t32) (by simp)
  obtain ⟨y2, h2⟩ := hf (2, t32) (by simp)
  dsimp only at h0 h1 h2
  rw [c8] at h0
  rw [c32] at h1 h2
  rw [ck] at hl
  obtain ⟨k0, e0, _, w0⟩ := DataW.trod_int h8 h0
  obtain ⟨k1, e1, _, w1⟩ := DataW.trod_int h32 h1
  obtain ⟨k2, e2, _, w2⟩ := DataW.trod_int h32 h2
  obtain ⟨x0, g0⟩ := u8_of w0
  obtain ⟨x1, g1⟩ := u32_of w1
  obtain ⟨x2, g2⟩ := u32_of w2
  match cs, hl with
  | [c0, c1, c2], _ =>
    simp at e0 e1 e2
    subst e0 e1 e2
    rw [g0, g1, g2]
    exact ⟨⟨x0, x1, x2⟩, rfl⟩
theorem open_item {tk t8 t32 ti tb u : TypeId} (ht : fieldsOf P e = some [(0, tk), (3, ti), (4, tb)]) (hk : fieldsOf P tk = some [(0, t8), (1, t32), (2, t32)]) (h8 : P.underlying t8 = some (.int .u8)) (h32 : P.underlying t32 = some (.int .u32)) (c8 : P.cellsOf t8 = 1) (c32 : P.cellsOf t32 = 1) (ck : P.cellsOf tk = 3)
    (hi : P.underlying ti = some (.int .i64)) (hci : P.cellsOf ti = 1) (hcb : P.cellsOf tb = 1) (ce : P.cellsOf e = 5)
    (hb : P.underlying tb = some (.slice u)) (hu : P.underlying u = some (.int .u8)) (hc : P.cellsOf u = 1) (h : DataW.trod enc P w base spare held fuel e cs = some x) :
    ∃ (k : KeyL) (n : Int) (v : Value) (l : List UInt8), cs = [bV k.kind, wV k.id, wV k.off, .int .i64 n, v] ∧ (Lit.int .i64 n).wf = true ∧ Bytes w 0 w.heap.size v l := by
  obtain ⟨hl, n, hf⟩ := trod_parts ht h
  obtain ⟨y0, h0⟩ := hf (0, tk) (by simp)
  obtain ⟨y1, h1⟩ := hf (3, ti) (by simp)
  obtain ⟨y2, h2⟩ := hf (4, tb) (by simp)
  dsimp only at h0 h1 h2
  rw [ck] at h0
  rw [hci] at h1
  rw [hcb] at h2
  rw [ce] at hl
  obtain ⟨k, e0⟩ := open_key hk h8 h32 c8 c32 ck h0
  obtain ⟨m, e1, _, hw⟩ := DataW.trod_int hi h1
  obtain ⟨v, l, e2, hB⟩ := open_bytes hb hu hc h2
  match cs, hl with
  | [c0, c1, c2, c3, c4], _ =>
    simp at e0 e1 e2
    obtain ⟨rfl, rfl, rfl⟩ := e0
    subst e1 e2
    exact ⟨k, m, _, l, rfl, hw, hB⟩
theorem opens_item {tk t8 t32 ti tb u : TypeId} (ht : fieldsOf P e = some [(0, tk), (3, ti), (4, tb)]) (hk : fieldsOf P tk = some [(0, t8), (1, t32), (2, t32)]) (h8 : P.underlying t8 = some (.int .u8)) (h32 : P.underlying t32 = some (.int .u32)) (c8 : P.cellsOf t8 = 1) (c32 : P.cellsOf t32 = 1) (ck : P.cellsOf tk = 3)
    (hi : P.underlying ti = some (.int .i64)) (hci : P.cellsOf ti = 1) (hcb : P.cellsOf tb = 1) (ce : P.cellsOf e = 5)
    (hb : P.underlying tb = some (.slice u)) (hu : P.underlying u = some (.int .u8)) (hc : P.cellsOf u = 1) : Opens P e rItem := fun h _ => by
  obtain ⟨k, n, v, l, rfl, hw, hB⟩ := open_item ht hk h8 h32 c8 c32 ck hi hci hcb ce hb hu hc h
  exact ⟨⟨k, n, l⟩, rfl, rfl, rfl, rfl, hw, v, rfl, hB⟩
theorem open_disk {tbs tws tw ti tb u : TypeId} (ht : fieldsOf P e = some [(0, tbs), (1, tws)]) (hbs : P.underlying tbs = some (.slice tb)) (hws : P.underlying tws = some (.slice tw)) (cbs : P.cellsOf tbs = 1) (cws : P.cellsOf tws = 1)
    (htw : fieldsOf P tw = some [(0, ti), (1, tb)]) (cw : P.cellsOf tw = 2) (hi : P.underlying ti = some (.int .i64)) (hci : P.cellsOf ti = 1) (hcb : P.cellsOf tb = 1) (ce : P.cellsOf e = 2)
    (hb : P.underlying tb = some (.slice u)) (hu : P.underlying u = some (.int .u8)) (hc : P.cellsOf u = 1) (h : DataW.trod enc P w base spare held fuel e cs = some x) :
    ∃ (b v : Value) (d : DiskL), cs = [b, v] ∧ DiskV w 0 w.heap.size b v d := by
  obtain ⟨hl, n, hf⟩ := trod_parts ht h
  obtain ⟨y0, h0⟩ := hf (0, tbs) (by simp)
  obtain ⟨y1, h1⟩ := hf (1, tws) (by simp)
  dsimp only at h0 h1
  rw [cbs] at h0
  rw [cws] at h1
  rw [ce] at hl
  obtain ⟨v0, l0, e0, B0⟩ := open_sl (r := rBytes) hbs hcb (by decide) (opens_bytes hb hu hc) h0
  obtain ⟨v1, l1, e1, B1⟩ := open_sl (r := rWrite) hws cw (by decide) (opens_write htw hi hci hcb hb hu hc) h1
  match cs, hl with
  | [c0, c1], _ =>
    simp at e0 e1
    subst e0 e1
    exact ⟨_, _, ⟨l0, l1⟩, rfl, B0, B1⟩
end
end Go.Proofs.Ytkfgegdnpinbdaa

namespace Go.Proofs.Ytkfgegdnpinbdaa
open Go.RowKit

theorem OwnB.empty (w : World) (base : Nat) (e : TypeId) (h : base ≤ w.heap.size) : OwnB base e (w.alloc (.cells #[] e)) (.slice (some ⟨w.heap.size, 0, none⟩) 0 0) [] :=
  ⟨rfl, .inr ⟨w.heap.size, 0, #[], rfl, h, World.alloc_heap_new w _, Nat.le_refl _, Nat.zero_le _, rfl, rfl⟩⟩
set_option maxRecDepth 100000 in
/-- bytes.Clone. -/
theorem bclone_any (v : Value) (l : List UInt8) (w : World) (hI : Bytes w 0 w.heap.size v l) (hl : l.length ≤ 1000000000) :
    Calls Try.prog 40 #[v] w fun e w' => ∃ u, e = .returned u ∧ MadeB w w' u l := by
  obtain ⟨a, c, rfl, g1, g2, g3, g4⟩ := id hI
  clear g3
  have hnil := fun (w : World) (a : Option Addr) (n c n' c' : Nat) => Lib.run_eql_slice_nil (P := Try.prog) w 26 5 a n c n' c' Try.underlying26
  rcases a with _ | a
  · have hc := g4 rfl
    subst hc
    have : l = [] := List.eq_nil_of_length_eq_zero (by omega)
    subst this
    go_enter Try.func40, Try.ntmps40
    go_wp2
    go_ret
    exact ⟨_, rfl, MadeB.nil_ (Below.refl _ _)⟩
  · have hI1 := hI.step ((Below.refl w.heap.size w).alloc (Nat.le_refl _) (.cells #[] 5))
    have hown := OwnB.empty w w.heap.size 5 (Nat.le_refl _)
    go_enter Try.func40, Try.ntmps40
    go_wp2_with (at_builtin; refine wpList_appB rfl _ _ 26 rfl w.heap.size 5 Try.underlying26 info_u8 _ [] rfl hown _ _ _ l rfl hI1 (by simp; omega) (by simp) ?_; intro v1 w1 hown1 hB1)
    go_ret
    exact ⟨_, rfl, hown1.made (((Below.refl w.heap.size w).alloc (Nat.le_refl _) _).trans hB1)⟩
theorem cv_of {w : World} {lo hi : Nat} {v : Value} {l : List UInt8} (h : Bytes w lo hi v l) : (convert 26 9 v).run Try.prog w = .ok (.string ⟨l.toArray⟩) w :=
  conv_bytes (P := Try.prog) h 26 9 5 Try.underlying26 Try.underlying5 Try.underlying9
def itemV (x : ItemL) (v : Value) : Value := .agg #[bV x.key.kind, wV x.key.id, wV x.key.off, .int .i64 x.ref, v]
def mayI (x : ItemL) : Bool := decide ((x.ref = 0 ∨ (8 ≤ x.ref ∧ x.ref < 256)) ∧ x.val.length ≤ 12)
def mayE (b : Bool) : Int := if b then 0 else 8

set_option maxRecDepth 100000 in
set_option maxHeartbeats 400000 in
theorem icheck_any (x : ItemL) (v : Value) (w : World) (hv : Bytes w 0 w.heap.size v x.val) :
    Calls Try.prog 92 #[itemV x v] w fun e w' => e = .returned (.int .i64 (mayE (mayI x))) ∧ Below w.heap.size w w' := by
  obtain ⟨a, c, rfl, g1, g2, _, _⟩ := hv
  obtain ⟨⟨k, i, o⟩, r, l⟩ := x
  simp only [itemV, bV, wV] at *
  have hb := (Below.refl w.heap.size w).alloc (Nat.le_refl _) (.cells #[.int .u8 (k.toNat : Int), .int .u32 (i.toNat : Int), .int .u32 (o.toNat : Int), .int .i64 r, .slice a l.length c] 97)
  by_cases h0 : r = 0
  · subst h0
    by_cases hl : 12 < l.length
    · have hm : mayE (mayI ⟨⟨k, i, o⟩, 0, l⟩) = 8 := by unfold mayE mayI; rw [if_neg]; simp; omega
      rw [hm]
      go_enter Try.func92, Try.ntmps92
      go_wp2
      go_ret
      exact ⟨rfl, hb⟩
    · have hm : mayE (mayI ⟨⟨k, i, o⟩, 0, l⟩) = 0 := by unfold mayE mayI; rw [if_pos]; simp; omega
      rw [hm]
      go_enter Try.func92, Try.ntmps92
      go_wp2
      go_ret
      exact ⟨rfl, hb⟩
  · by_cases h8 : r < 8
    · have hm : mayE (mayI ⟨⟨k, i, o⟩, r, l⟩) = 8 := by unfold mayE mayI; rw [if_neg]; simp; omega
      rw [hm]
      go_enter Try.func92, Try.ntmps92
      go_wp2
      go_ret
      exact ⟨rfl, hb⟩
    · by_cases h9 : 256 ≤ r
      · have hm : mayE (mayI ⟨⟨k, i, o⟩, r, l⟩) = 8 := by unfold mayE mayI; rw [if_neg]; simp; omega
        rw [hm]
        go_enter Try.func92, Try.ntmps92
        go_wp2
        go_ret
        exact ⟨rfl, hb⟩
      · by_cases hl : 12 < l.length
        · have hm : mayE (mayI ⟨⟨k, i, o⟩, r, l⟩) = 8 := by unfold mayE mayI; rw [if_neg]; simp; omega
          rw [hm]
          go_enter Try.func92, Try.ntmps92
          go_wp2
          go_ret
          exact ⟨rfl, hb⟩
        · have hm : mayE (mayI ⟨⟨k, i, o⟩, r, l⟩) = 0 := by unfold mayE mayI; rw [if_pos]; simp; omega
          rw [hm]
          go_enter Try.func92, Try.ntmps92
          go_wp2
          go_ret
          exact ⟨rfl, hb⟩

end Go.Proofs.Ytkfgegdnpinbdaa

namespace Go.Proofs.Ytkfgegdnpinbdaa
open Go.RowKit

set_option maxRecDepth 100000 in
set_option maxHeartbeats 2000000 in
/-- slices.Grow(nil, n). -/
theorem grow_nil (n : Nat) (w : World) (hn : n ≤ 1000000) :
    Calls Try.prog 139 #[.slice none 0 0, .int .i64 n] w fun e w' => ∃ v, e = .returned v ∧ OwnB w.heap.size 5 w' v [] ∧ Below w.heap.size w w' := by
  rcases Nat.eq_zero_or_pos n with rfl | hp
  · go_enter Try.func139, Try.ntmps139
    go_wp2
    go_ret
    exact ⟨_, rfl, OwnB.nil_ _ _ _, Below.refl _ _⟩
  · obtain ⟨i0, hi0, hz0, hz1, hz2⟩ := info_parts info_u8
    have hold : (Builtin.firstCells i0.size 0 (.slice none 0 0)).run Try.prog w.drew = .ok ([] : List Value).toArray w.drew := run_firstCells_none w.drew i0.size 0 0 0
    have hrz : ∀ ty, (Builtin.append_ #[26, 3] ty #[.slice none 0 0, .int .i64 (n : Int)]).run Try.prog w =
        .ok (.slice (some ⟨w.heap.size, 0, none⟩) n (grownCap w n 0 5)) (w.drew.alloc (.cells (([] : List Value).toArray ++ Builtin.zeroCells (Value.int .u8 0).cells n ++ Builtin.zeroCells (Value.int .u8 0).cells (grownCap w n 0 5 - n)) 5)) := fun ty => by
      have h := Lib.run_append_grow_zeros w 26 3 ty 5 i0 (.int .u8 0) .i64 .i64 Try.underlying26 Try.underlying3 hi0 hz0 none 0 0 [] hold n (by omega) (by omega) (by omega) (by omega)
        (by rw [hz2]; omega) (by rw [Nat.zero_add]; exact growslice_fits (by omega) (by rw [hz2]; omega))
      rw [Nat.zero_add] at h
      exact h
    have hG := grownCap_ge w n 0 5
    have hG2 := grownCap_le_maxLen w n 0 5 (by unfold maxLen; omega)
    generalize grownCap w n 0 5 = G at *
    have hG3 : G ≤ 9223372036854775807 := by unfold maxLen at hG2; omega
    have HG2 := Lib.hid hG2
    clear hG2 hold
    go_enter Try.func139, Try.ntmps139
    go_wp2_with (at_builtin; refine Lib.wpList_append_run _ rfl _ _ _ _ rfl _ _ rfl rfl _ _ (hrz _) ?_)
    go_ret
    refine ⟨_, rfl, ⟨by simp, .inr ⟨w.heap.size, G, _, rfl, Nat.le_refl _, World.alloc_heap_new w _, Nat.zero_le _, HG2.out, ?_, by simp⟩⟩, ((Below.refl _ _).alloc (Nat.le_refl _) _).drew⟩
    simp [Builtin.zeroCells]
    omega

end Go.Proofs.Ytkfgegdnpinbdaa

namespace Go.Proofs.Ytkfgegdnpinbdaa
open Go.RowKit

/-- Some lists one behind the other. -/
def catL (ps : List (Value × List UInt8)) : List UInt8 := (ps.map (·.2)).flatten
theorem catL_snoc (ps : List (Value × List UInt8)) (k : Nat) (p : Value × List UInt8) (h : ps[k]? = some p) : catL (ps.take (k + 1)) = catL (ps.take k) ++ p.2 := by
  have hk : k < ps.length := (List.getElem?_eq_some_iff.1 h).1
  have hp : ps[k] = p := (List.getElem?_eq_some_iff.1 h).2
  rw [List.take_succ_eq_append_getElem hk, hp]
  simp [catL]
theorem catL_le (ps : List (Value × List UInt8)) (k : Nat) : (catL (ps.take k)).length ≤ (catL ps).length := by
  have e : ∀ a b : List (Value × List UInt8), catL (a ++ b) = catL a ++ catL b := fun a b => by simp [catL]
  have h := e (ps.take k) (ps.drop k)
  rw [List.take_append_drop] at h
  rw [h, List.length_append]
  omega

set_option maxRecDepth 100000 in
set_option maxHeartbeats 2000000 in
/-- slices.Concat. -/
theorem concat_any (ps : List (Value × List UInt8)) (b off c : Nat) (w : World) (hb : b < w.heap.size) (hcell : ∀ i p, ps[i]? = some p → w.cell? ⟨b, off + i, none⟩ = some p.1)
    (hB : ∀ p ∈ ps, Bytes w 0 w.heap.size p.1 p.2) (hc : ps.length ≤ c) (hcm : c ≤ 1000000) (ht : (catL ps).length ≤ 1000000) :
    Calls Try.prog 131 #[.slice (some ⟨b, off, none⟩) ps.length c] w fun e w' => ∃ u, e = .returned u ∧ MadeB w w' u (catL ps) := by
  have HC := Lib.hid hcell
  have HB := Lib.hid hB
  clear hcell hB
  go_enter Try.func131, Try.ntmps131
  go_wp2
  go_loop [3, 11] (fun n i => ∃ k : Nat, k ≤ ps.length ∧ i = .int .i64 k ∧ n = .int .i64 (catL (ps.take k)).length) (fun _ i => ps.length - (intOf i).toNat)
  case atStart => exact ⟨0, Nat.zero_le _, rfl, rfl⟩
  case round =>
    obtain ⟨k, hk, rfl, rfl⟩ := hrel
    by_cases hlt : k < ps.length
    · obtain ⟨p, hp⟩ : ∃ p, ps[k]? = some p := ⟨ps[k], by simp [hlt]⟩
      have hx := HC.out k p hp
      have hy := HB.out p (List.mem_of_getElem? hp)
      have hs := congrArg List.length (catL_snoc ps k p hp)
      rw [List.length_append] at hs
      have hle := catL_le ps (k + 1)
      have HS := Lib.hid hs
      rw [hs] at hle
      clear hs
      generalize (catL (ps.take k)).length = q at *
      obtain ⟨pv, pl⟩ := p
      dsimp only at hx hle hy
      obtain ⟨pa, pc, rfl, _, _, _, _⟩ := hy
      clear hp
      go_wp2
      go_round
      case rel => exact ⟨k + 1, by omega, by go_num, by rw [HS.out]; go_num⟩
      case measure => simp [intOf]; omega
    · obtain rfl : k = ps.length := by omega
      rw [List.take_length]
      have HT := Lib.hid ht
      go_wp2_with fail
      refine (grow_nil _ _ (by omega)).mono ?_
      rintro e w1 ⟨gv, rfl, hown, hb1⟩
      have hown' : OwnB w.heap.size 5 w1 gv (catL (ps.take 0)) := hown
      clear hown
      go_wp2
      go_loopw [6, 27] (fun v i wr => ∃ k : Nat, k ≤ ps.length ∧ i = .int .i64 k ∧ OwnB w.heap.size 5 wr v (catL (ps.take k)) ∧ Below w.heap.size w wr) (fun _ i _ => ps.length - (intOf i).toNat)
      case atStart => exact ⟨0, Nat.zero_le _, rfl, hown', hb1⟩
      case round =>
        obtain ⟨k, hk, rfl, hown, hbr⟩ := hrel
        by_cases hlt : k < ps.length
        · obtain ⟨p, hp⟩ : ∃ p, ps[k]? = some p := ⟨ps[k], by simp [hlt]⟩
          have hx := (hbr.cell (p := ⟨b, off + k, none⟩) hb).trans (HC.out k p hp)
          have hy := HB.out p (List.mem_of_getElem? hp)
          have hs := catL_snoc ps k p hp
          have hle := catL_le ps (k + 1)
          rw [hs, List.length_append] at hle
          have HS := Lib.hid hs
          clear hs hp hown'
          generalize catL (ps.take k) = q at *
          obtain ⟨pv, pl⟩ := p
          dsimp only at hx hle hy
          have hy2 := hy.below hbr (Nat.le_refl _)
          obtain ⟨pa, pc, rfl, _, _, _, _⟩ := id hy
          clear hy
          go_wp2_with (at_builtin; refine wpList_appB rfl _ _ 26 rfl w.heap.size 5 Try.underlying26 info_u8 _ q rfl hown _ _ _ pl rfl hy2 (by have := HT.out; omega) hbr.size ?_; intro u w2 hown2 hB2)
          go_roundw
          case rel => exact ⟨k + 1, by omega, by go_num, by rw [HS.out]; exact hown2, hbr.trans hB2⟩
          case measure => simp [intOf]; omega
        · obtain rfl : k = ps.length := by omega
          rw [List.take_length] at hown
          go_wp2
          go_ret
          exact ⟨_, rfl, hown.made hbr⟩

end Go.Proofs.Ytkfgegdnpinbdaa

namespace Go.Proofs.Ytkfgegdnpinbdaa
open Go.RowKit

theorem blk_cell {w : World} {g : Nat} {cs : Array Value} {t : TypeId} {f : Nat × Nat} (h : w.heap[g]? = some (.cells cs t f)) (i : Nat) : w.cell? ⟨g, i, none⟩ = cs[i]? := by simp [World.cell?, h]
theorem blk_frozen {w : World} {g : Nat} {cs : Array Value} {t : TypeId} (h : w.heap[g]? = some (.cells cs t (0, 0))) (i : Nat) : w.frozen? ⟨g, i, none⟩ = false := by simp [World.frozen?, h]

theorem two_new (w : World) (o1 o2 : Obj) : ((w.alloc o1).alloc o2).heap[w.heap.size]? = some o1 ∧ ((w.alloc o1).alloc o2).heap[w.heap.size + 1]? = some o2 := by
  refine ⟨?_, ?_⟩
  · rw [Below.heap_alloc (w.alloc o1) o2 w.heap.size (by simp), World.alloc_heap_new]
  · have := World.alloc_heap_new (w.alloc o1) o2
    simpa using this
theorem Bytes.setOff {w : World} {lo hi g i : Nat} {v u : Value} {l : List UInt8} (h : Bytes w lo hi v l) (hg : g < lo ∨ hi ≤ g) : Bytes (w.setCell ⟨g, i, none⟩ u) lo hi v l :=
  h.keep fun b o h1 h2 => World.cell?_setCell_other _ _ _ _ (by intro h; injection h; omega)

set_option maxRecDepth 100000 in
set_option maxHeartbeats 400000 in
theorem itwin_any (x : ItemL) (v : Value) (w : World) (hv : Bytes w 0 w.heap.size v x.val) (hl : x.val.length ≤ 1000000000) :
    Calls Try.prog 108 #[itemV x v] w fun e w' => ∃ u, e = .returned (itemV x u) ∧ MadeB w w' u x.val := by
  have hb1 := (Below.refl w.heap.size w).alloc (Nat.le_refl _) (.cells #[bV x.key.kind, wV x.key.id, wV x.key.off, .int .i64 x.ref, v] 97)
  have hb2 := hb1.alloc (by simp) (.cells #[.int .u8 0, .int .u32 0, .int .u32 0, .int .i64 0, .slice none 0 0] 97)
  have hv2 := hv.step hb2
  have hc := bclone_any _ _ _ hv2 hl
  obtain ⟨W, hW⟩ : ∃ W, (w.alloc (.cells #[bV x.key.kind, wV x.key.id, wV x.key.off, .int .i64 x.ref, v] 97)).alloc (.cells #[.int .u8 0, .int .u32 0, .int .u32 0, .int .i64 0, .slice none 0 0] 97) = W := ⟨_, rfl⟩
  have hz : W.heap.size = w.heap.size + 2 := by rw [← hW]; simp
  have q1 : W.heap[w.heap.size]? = some (.cells #[bV x.key.kind, wV x.key.id, wV x.key.off, .int .i64 x.ref, v] 97 (0, 0)) := by rw [← hW]; exact (two_new _ _ _).1
  have q2 : W.heap[w.heap.size + 1]? = some (.cells #[.int .u8 0, .int .u32 0, .int .u32 0, .int .i64 0, .slice none 0 0] 97 (0, 0)) := by rw [← hW]; exact (two_new _ _ _).2
  rw [hW] at hc hb2
  obtain ⟨a, c, rfl, g1, g2, _, _⟩ := hv
  obtain ⟨⟨k, i, o⟩, r, l⟩ := x
  have Hc := Lib.hid hc
  have Hq := Lib.hid (And.intro q1 (And.intro q2 (And.intro hW hz)))
  clear hv2 hb1 hc q1 q2 hW hz
  simp only [itemV, bV, wV] at *
  go_enter Try.func108, Try.ntmps108
  go_wp2_with fail
  rw [Hq.out.2.2.1]
  refine Hc.out.mono ?_
  rintro e w1 ⟨u, rfl, hm⟩
  obtain ⟨q1, q2, _, hz⟩ := Hq.out
  have p1 := (hm.below.block w.heap.size (by omega)).trans q1
  have p2 := (hm.below.block (w.heap.size + 1) (by omega)).trans q2
  have hB := below_step hb2 hb2.size hm.below
  obtain ⟨ua, uc, rfl, u1, u2⟩ := hm.bytes.form rfl
  have c0 := blk_cell p1 0
  have c1 := blk_cell p1 1
  have c2 := blk_cell p1 2
  have c3 := blk_cell p1 3
  have c4 := blk_cell p1 4
  have f4 := blk_frozen p1 4
  have d0 := blk_cell p2 0
  have d1 := blk_cell p2 1
  have d2 := blk_cell p2 2
  have d3 := blk_cell p2 3
  have d4 := blk_cell p2 4
  have e0 := blk_frozen p2 0
  have e1 := blk_frozen p2 1
  have e2 := blk_frozen p2 2
  have e3 := blk_frozen p2 3
  have e4 := blk_frozen p2 4
  simp at c0 c1 c2 c3 c4 d0 d1 d2 d3 d4
  have Hm := Lib.hid hm
  have HB := Lib.hid (And.intro hB hz)
  clear p1 p2 q1 q2 hm hB hz hb2
  go_wp2_with fail
  refine bodyPost_ret (v := .agg #[.int .u8 (k.toNat : Int), .int .u32 (i.toNat : Int), .int .u32 (o.toNat : Int), .int .i64 r, .slice ua l.length uc]) (by simp [results, Try.results108, go_sem, d0, d1, d2, d3, d4]) rfl ⟨_, rfl, ?_⟩
  obtain ⟨hB, hz⟩ := HB.out
  have hm := Hm.out
  have s1 : w.heap.size < W.heap.size := by omega
  have s2 : w.heap.size + 1 < W.heap.size := by omega
  refine ⟨?_, ?_, ?_⟩
  · refine Bytes.more (lo := W.heap.size) (hi := w1.heap.size) ?_ (by omega) (by simp)
    exact (((((hm.bytes.setOff (.inl s1)).setOff (.inl s2)).setOff (.inl s2)).setOff (.inl s2)).setOff (.inl s2)).setOff (.inl s2)
  · exact (((((hm.thawed.set _ _).set _ _).set _ _).set _ _).set _ _).set _ _
  · exact (((((hB.setCell (p := ⟨w.heap.size, 4, none⟩) (Nat.le_refl _) _).setCell (p := ⟨w.heap.size + 1, 0, none⟩) (Nat.le_succ _) _).setCell (p := ⟨w.heap.size + 1, 1, none⟩) (Nat.le_succ _) _).setCell (p := ⟨w.heap.size + 1, 2, none⟩) (Nat.le_succ _) _).setCell (p := ⟨w.heap.size + 1, 3, none⟩) (Nat.le_succ _) _).setCell (p := ⟨w.heap.size + 1, 4, none⟩) (Nat.le_succ _) _
end Go.Proofs.Ytkfgegdnpinbdaa

namespace Go.Proofs.Ytkfgegdnpinbdaa
open Go.RowKit
theorem numOf_fourL (n : Nat) (h : n < 4294967296) : numOf (fourL n) = n := by
  simp [numOf, fourL, UInt8.toNat_ofNat']
  omega
theorem numOf_twoL (n : Nat) (h : n < 65536) : numOf (twoL n) = n := by
  simp [numOf, twoL, UInt8.toNat_ofNat']
  omega
theorem two_of (l : List UInt8) (k : Nat) (h : k + 2 ≤ l.length) : twoL (numOf ((l.drop k).take 2)) = (l.drop k).take 2 := by
  have hk : (l.drop k).length = l.length - k := by simp
  match (l.drop k), hk with
  | a :: b :: r, _ =>
    have ha := a.toNat_lt
    have hb := b.toNat_lt
    simp only [List.take_succ_cons, List.take_zero, numOf, twoL, List.cons.injEq, and_true]
    refine ⟨?_, ?_⟩ <;> (apply UInt8.toNat_inj.1; simp only [UInt8.toNat_ofNat']; omega)
  | [], hk => simp at hk; omega
  | [a], hk => simp at hk; omega
theorem four_of (l : List UInt8) (k : Nat) (h : k + 4 ≤ l.length) : fourL (numOf ((l.drop k).take 4)) = (l.drop k).take 4 := by
  have hk : (l.drop k).length = l.length - k := by simp
  match (l.drop k), hk with
  | a :: b :: c :: d :: r, _ =>
    have ha := a.toNat_lt
    have hb := b.toNat_lt
    have hc := c.toNat_lt
    have hd := d.toNat_lt
    simp only [List.take_succ_cons, List.take_zero, numOf, fourL, List.cons.injEq, and_true]
    refine ⟨?_, ?_, ?_, ?_⟩ <;> (apply UInt8.toNat_inj.1; simp only [UInt8.toNat_ofNat']; omega)
  | [], hk => simp at hk; omega
  | [a], hk => simp at hk; omega
  | [a, b], hk => simp at hk; omega
  | [a, b, c], hk => simp at hk; omega
theorem get_yes' (l : List UInt8) (k many : Nat) (h : k + many ≤ l.length) : getN l (k : Int) many = numOf ((l.drop k).take many) ∧ getE l (k : Int) many = 0 := by
  have h' : 0 ≤ (k : Int) ∧ (k : Int).toNat + many ≤ l.length := by omega
  unfold getN getE
  rw [if_pos h', if_pos h']
  simp
theorem getN_zero (l : List UInt8) (h : 4 ≤ l.length) : getN l 0 4 = numOf (l.take 4) := by
  have := (get_yes' l 0 4 (by omega)).1
  simpa using this
end Go.Proofs.Ytkfgegdnpinbdaa

