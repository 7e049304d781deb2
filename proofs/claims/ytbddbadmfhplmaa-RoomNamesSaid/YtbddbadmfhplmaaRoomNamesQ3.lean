/- RoomNames: the words and contracts, part 3. -/
import Derived.Test.YtbddbadmfhplmaaRoomNamesQ1
import Derived.Test.YtbddbadmfhplmaaRoomNamesQ2
import Derived.Test.YtbddbadmfhplmaaChecked
import Derived.WalkKit
import Derived.WalkLawsBesides
import Derived.WalkSpells
import Derived.Lib.Hide
import Derived.Laws.Rows
import Derived.Laws.AppendOwnNone
import Derived.Maps.AppendAt
import Derived.OrdersHeld
import Derived.Deep.QuietTactic
import Derived.BigQuiet
import Derived.StillTailTactics
import Derived.ProofKit
import Derived.Deep.Slices
import Derived.WideShapes
import Derived.OpenShut
import Derived.RangeFuncNested
import Derived.RangeFuncBound
import Derived.RangeFuncCalls
import Derived.RangeFuncLeaves
import Derived.RangeFuncBox
import Derived.Shelf.Abstract
import Derived.Shelf.RegionOpen
import Derived.OwnWalkIn
import Derived.TacticsInMore
import Derived.LoopNIn
import Derived.LoopIn
import Derived.Lib.SliceRun
import Derived.Lib.AppendZerosOnto
import Derived.Lib.Walk
import Derived.Deep.LoopGhost
import Derived.Laws.CopyOwn
import Derived.Laws.CopyRow
namespace Go.Proofs.Ytbddbadmfhplmaa
open Go.RowKit

def dstOf (ops : Array Oper) (i : Nat) : Option Tmp := (ops[i]?).bind (·.dst)
/-- The values of some operations, put where they belong. -/
def putAll (ops : Array Oper) (vs : Nat → Value) : List Nat → Act → Act
  | [], a => a
  | i :: is, a => putAll ops vs is (a.put (dstOf ops i) (vs i))
def dsOk (ops : Array Oper) : List Nat → Bool
  | [] => true
  | i :: is => (is.all fun j => dstOf ops i == none || dstOf ops j != dstOf ops i) && dsOk ops is
def updV (vs : Nat → Value) (k : Nat) (v : Value) : Nat → Value := fun i => if i = k then v else vs i

section
variable {ops : Array Oper}
theorem put_same (a : Act) (x : Option Tmp) (u v : Value) : (a.put x u).put x v = a.put x v := by
  cases x with
  | none => rfl
  | some d => simp [Act.put, Array.setIfInBounds_setIfInBounds]
def ownV (a : Act) : Option Tmp → Value
  | some d => a.tmps.getD d undef
  | none => undef
theorem put_self (a : Act) (x : Option Tmp) : a.put x (ownV a x) = a := by
  cases x with
  | none => rfl
  | some d =>
    obtain ⟨t, ds⟩ := a
    simp only [Act.put, ownV]
    congr 1
    apply Array.ext_getElem?
    intro i
    rw [Array.getElem?_setIfInBounds]
    split
    · rename_i h
      subst h
      split
      · rename_i h2; simp [h2]
      · rename_i h2; simp [h2]
    · rfl
theorem putAll_self (a : Act) : ∀ is, putAll ops (fun i => ownV a (dstOf ops i)) is a = a
  | [] => rfl
  | i :: is => by rw [putAll, put_self, putAll_self a is]
theorem putAll_comm (vs : Nat → Value) (x : Option Tmp) (v : Value) : ∀ (is : List Nat) (a : Act), (∀ j ∈ is, x = none ∨ dstOf ops j ≠ x) → (putAll ops vs is a).put x v = putAll ops vs is (a.put x v)
  | [], _, _ => rfl
  | i :: is, a, h => by
    rw [putAll, putAll, putAll_comm vs x v is _ (fun j hj => h j (List.mem_cons_of_mem _ hj))]
    congr 1
    rcases h i (List.mem_cons_self ..) with rfl | hne
    · rfl
    · exact Act.put_comm a _ _ (fun d hd hx => hne (hd.trans hx.symm))
theorem putAll_congr {vs vs' : Nat → Value} : ∀ (is : List Nat) (a : Act), (∀ j ∈ is, vs j = vs' j ∨ dstOf ops j = none) → putAll ops vs is a = putAll ops vs' is a
  | [], _, _ => rfl
  | i :: is, a, h => by
    rw [putAll, putAll, putAll_congr is _ (fun j hj => h j (List.mem_cons_of_mem _ hj))]
    rcases h i (List.mem_cons_self ..) with e | e <;> rw [e] <;> rfl
theorem putAll_put (vs : Nat → Value) (k : Nat) (v : Value) : ∀ (is : List Nat) (a : Act), dsOk ops is = true → k ∈ is → (putAll ops vs is a).put (dstOf ops k) v = putAll ops (updV vs k v) is a
  | [], _, _, hk => by cases hk
  | i :: is, a, hd, hk => by
    simp only [dsOk, Bool.and_eq_true, List.all_eq_true, Bool.or_eq_true, beq_iff_eq, bne_iff_ne, ne_eq] at hd
    obtain ⟨h1, h2⟩ := hd
    by_cases e : k = i
    · subst e
      rw [putAll, putAll_comm vs _ v is _ h1, put_same, putAll]
      have : updV vs k v k = v := by simp [updV]
      rw [this]
      refine putAll_congr is _ (fun j hj => ?_)
      by_cases ej : j = k
      · subst ej
        rcases h1 j hj with h | h
        · exact .inr h
        · exact absurd rfl h
      · left; simp [updV, ej]
    · have hk' : k ∈ is := by
        rcases List.mem_cons.1 hk with h | h
        · exact absurd h e
        · exact h
      rw [putAll, putAll_put vs k v is _ h2 hk', putAll]
      have : updV vs k v i = vs i := by simp [updV, Ne.symm e]
      rw [this]
end

/-- Are the operations told whole, and does each wait for what it is said to wait for? -/
def invOk (md : Region.Mode) (ops : Array Oper) (L : Array Bool) (is : List Nat) (deps : Nat → List Nat) : Bool :=
  ((List.range ops.size).all fun i => L.getD i true || is.contains i) &&
  is.all fun i => decide (i < L.size) && decide (i < ops.size) &&
    (((ops[i]?).map fun o => o.after.all fun e => !Region.binds md e || decide (e.on < i)).getD false) &&
    ((deps i).all fun j => is.contains j && (((ops[i]?).map fun o => o.after.any fun e => Region.binds md e && (e.on == j || (is.contains e.on && (deps e.on).contains j))).getD false))

section
variable {P : Program} {ops : Array Oper} {Q : Exit → Act → World → Prop} {md : Region.Mode} {S : World → Prop}

/-- Each operation of some: with what it waits for being good. -/
def OpsI (P : Program) (ops : Array Oper) (Q : Exit → Act → World → Prop) (S : World → Prop) (G : Nat → Value → World → Prop) (deps : Nat → List Nat) (is : List Nat) (a0 : Act) (l : List Nat) : Prop :=
  ∀ i ∈ l, ∀ o, ops[i]? = some o → ∀ (vs : Nat → Value) (W : World), S W → (∀ j ∈ deps i, G j (vs j) W) → ∀ K : Act → World → Prop,
    (∀ v W', G i v W' → Below W.heap.size W W' → K ((putAll ops vs is a0).put o.dst v) W') →
    if Region.wanted o (yielded ops (putAll ops vs is a0).tmps) = true then Oper.wp P o (putAll ops vs is a0) W K Q else K ((putAll ops vs is a0).put o.dst undef) W
theorem OpsI.nil {G : Nat → Value → World → Prop} {deps : Nat → List Nat} {is : List Nat} {a0 : Act} : OpsI P ops Q S G deps is a0 [] := fun _ h => by cases h
theorem OpsI.cons {G : Nat → Value → World → Prop} {deps : Nat → List Nat} {is : List Nat} {a0 : Act} {i : Nat} {l : List Nat} (o : Oper) (ho : ops[i]? = some o)
    (h : ∀ (vs : Nat → Value) (W : World), S W → (∀ j ∈ deps i, G j (vs j) W) → ∀ K : Act → World → Prop,
      (∀ v W', G i v W' → Below W.heap.size W W' → K ((putAll ops vs is a0).put o.dst v) W') →
      if Region.wanted o (yielded ops (putAll ops vs is a0).tmps) = true then Oper.wp P o (putAll ops vs is a0) W K Q else K ((putAll ops vs is a0).put o.dst undef) W)
    (hs : OpsI P ops Q S G deps is a0 l) : OpsI P ops Q S G deps is a0 (i :: l) := fun j hj o' ho' => by
  rcases List.mem_cons.1 hj with rfl | hj
  · rw [ho] at ho'; cases ho'; exact h
  · exact hs j hj o' ho'

theorem getD_set_self (L : Array Bool) (i : Nat) (d : Bool) (h : i < L.size) : (L.setIfInBounds i true).getD i d = true := by simp [Array.getD, h]
theorem getD_any (L : Array Bool) (i : Nat) (d e : Bool) (h : i < L.size) : L.getD i d = L.getD i e := by simp [Array.getD, h]

attribute [go_sem] putAll dstOf

end
end Go.Proofs.Ytbddbadmfhplmaa

namespace Go.Proofs.Ytbddbadmfhplmaa
open Go.RowKit Go.ChangeShapes Go.WideShapes Go.Deep

section
variable {H : Type} {enc : TypeId × Value → H} {P : Program} {w : World} {base : Nat} {spare : Nat → Bool} {held : Bool} {fuel : Nat} {t : TypeId} {cs : List Value} {x : DataW H × List MemPlace}
end

def rU8 : Rd UInt8 where
  n := 1
  R _ _ _ x f := f 0 = some (bV x)
  keep _ h := h
  more _ _ h := h
  ext he h := (he 0 (by decide)) ▸ h
theorem Sl.bytes {w : World} {lo hi : Nat} {v : Value} {l : List UInt8} (h : Sl rU8 w lo hi v l) : Bytes w lo hi v l := by
  obtain ⟨a, c, e, h1, h2, h3, h4⟩ := h
  refine ⟨a, c, e, h1, h2, fun hp => ?_, h4⟩
  obtain ⟨b, off, ea, hlo, hhi, hc⟩ := h3 hp
  refine ⟨b, off, ea, hlo, hhi, fun i x hx => ?_⟩
  have := hc i x hx
  simpa [rU8] using this
section
variable {P : Program} {e : TypeId}
variable {H : Type} {enc : TypeId × Value → H} {w : World} {base : Nat} {spare : Nat → Bool} {held : Bool} {fuel : Nat} {t : TypeId} {cs : List Value} {x : DataW H × List MemPlace}
end
end Go.Proofs.Ytbddbadmfhplmaa

namespace Go.Proofs.Ytbddbadmfhplmaa
open Go.RowKit

theorem OwnB.empty (w : World) (base : Nat) (e : TypeId) (h : base ≤ w.heap.size) : OwnB base e (w.alloc (.cells #[] e)) (.slice (some ⟨w.heap.size, 0, none⟩) 0 0) [] :=
  ⟨rfl, .inr ⟨w.heap.size, 0, #[], rfl, h, World.alloc_heap_new w _, Nat.le_refl _, Nat.zero_le _, rfl, rfl⟩⟩
set_option maxRecDepth 100000 in
/-- bytes.Clone. -/
theorem bclone_any (v : Value) (l : List UInt8) (w : World) (hI : Bytes w 0 w.heap.size v l) (hl : l.length ≤ 1000000000) :
    Calls Try.prog 53 #[v] w fun e w' => ∃ u, e = .returned u ∧ MadeB w w' u l := by
  obtain ⟨a, c, rfl, g1, g2, g3, g4⟩ := id hI
  clear g3
  have hnil := fun (w : World) (a : Option Addr) (n c n' c' : Nat) => Lib.run_eql_slice_nil (P := Try.prog) w 26 5 a n c n' c' Try.underlying26
  rcases a with _ | a
  · have hc := g4 rfl
    subst hc
    have : l = [] := List.eq_nil_of_length_eq_zero (by omega)
    subst this
    go_enter Try.func53, Try.ntmps53
    go_wp2
    go_ret
    exact ⟨_, rfl, MadeB.nil_ (Below.refl _ _)⟩
  · have hI1 := hI.step ((Below.refl w.heap.size w).alloc (Nat.le_refl _) (.cells #[] 5))
    have hown := OwnB.empty w w.heap.size 5 (Nat.le_refl _)
    go_enter Try.func53, Try.ntmps53
    go_wp2_with (at_builtin; refine wpList_appB rfl _ _ 26 rfl w.heap.size 5 Try.underlying26 info_u8 _ [] rfl hown _ _ _ l rfl hI1 (by simp; omega) (by simp) ?_; intro v1 w1 hown1 hB1)
    go_ret
    exact ⟨_, rfl, hown1.made (((Below.refl w.heap.size w).alloc (Nat.le_refl _) _).trans hB1)⟩
end Go.Proofs.Ytbddbadmfhplmaa

namespace Go.Proofs.Ytbddbadmfhplmaa
open Go.RowKit

theorem blk_cell {w : World} {g : Nat} {cs : Array Value} {t : TypeId} {f : Nat × Nat} (h : w.heap[g]? = some (.cells cs t f)) (i : Nat) : w.cell? ⟨g, i, none⟩ = cs[i]? := by simp [World.cell?, h]
theorem blk_frozen {w : World} {g : Nat} {cs : Array Value} {t : TypeId} (h : w.heap[g]? = some (.cells cs t (0, 0))) (i : Nat) : w.frozen? ⟨g, i, none⟩ = false := by simp [World.frozen?, h]

theorem two_new (w : World) (o1 o2 : Obj) : ((w.alloc o1).alloc o2).heap[w.heap.size]? = some o1 ∧ ((w.alloc o1).alloc o2).heap[w.heap.size + 1]? = some o2 := by
  refine ⟨?_, ?_⟩
  · rw [Below.heap_alloc (w.alloc o1) o2 w.heap.size (by simp), World.alloc_heap_new]
  · have := World.alloc_heap_new (w.alloc o1) o2
    simpa using this
end Go.Proofs.Ytbddbadmfhplmaa

namespace Go.Proofs.Ytbddbadmfhplmaa
open Go.RowKit

/-- P holds, wherever the blocks from lo on, below hi, are as they are here. -/
def Lv (lo hi : Nat) (P : World → Prop) (V : World) : Prop := hi ≤ V.heap.size ∧ ∀ V' : World, (∀ k, lo ≤ k → k < hi → V'.heap[k]? = V.heap[k]?) → P V'
section
variable {lo hi : Nat} {P : World → Prop} {V V' : World}
theorem Lv.get (h : Lv lo hi P V) : P V := h.2 V fun _ _ _ => rfl
theorem Lv.hi_le (h : Lv lo hi P V) : hi ≤ V.heap.size := h.1
theorem Lv.step (h : Lv lo hi P V) (hb : Below V.heap.size V V') : Lv lo hi P V' :=
  ⟨Nat.le_trans h.1 hb.size, fun W hW => h.2 W fun k h1 h2 => (hW k h1 h2).trans (hb.block k (Nat.lt_of_lt_of_le h2 h.1))⟩
/-- Blocks from n0 on, below h0, have turned, and no other ones. -/
theorem Lv.out {n0 h0 : Nat} (h : Lv lo hi P V) (hs : V.heap.size ≤ V'.heap.size) (hf : ∀ x, x < V.heap.size → (x < n0 ∨ h0 ≤ x) → V'.heap[x]? = V.heap[x]?) (hd : hi ≤ n0 ∨ h0 ≤ lo) : Lv lo hi P V' :=
  ⟨Nat.le_trans h.1 hs, fun W hW => h.2 W fun k h1 h2 => (hW k h1 h2).trans (hf k (Nat.lt_of_lt_of_le h2 h.1) (by omega))⟩
theorem Lv.mk' (h : hi ≤ V.heap.size) (hk : ∀ V', Kp lo hi V V' → P V') : Lv lo hi P V := ⟨h, fun W hW => hk W fun b o h1 h2 => ⟨heap_cell (hW b h1 h2) o, heap_frozen (hW b h1 h2) o⟩⟩
theorem Lv.imp {Q : World → Prop} (h : Lv lo hi P V) (hi' : ∀ W, P W → Q W) : Lv lo hi Q V := ⟨h.1, fun W hW => hi' W (h.2 W hW)⟩
theorem Lv.and {Q : World → Prop} (h : Lv lo hi P V) (k : Lv lo hi Q V) : Lv lo hi (fun W => P W ∧ Q W) V := ⟨h.1, fun W hW => ⟨h.2 W hW, k.2 W hW⟩⟩
theorem Lv.more {lo' hi' : Nat} (h : Lv lo hi P V) (h1 : lo' ≤ lo) (h2 : hi ≤ hi') (h3 : hi' ≤ V.heap.size) : Lv lo' hi' P V := ⟨h3, fun W hW => h.2 W fun k g1 g2 => hW k (by omega) (by omega)⟩
end
/-- A known block. -/
def LK (g : Nat) (o : Obj) (V : World) : Prop := Lv g (g + 1) (fun W => W.heap[g]? = some o) V
theorem LK.of {V : World} {g : Nat} {o : Obj} (h : V.heap[g]? = some o) : LK g o V := ⟨(Array.getElem?_eq_some_iff.1 h).1, fun _ hW => (hW g (Nat.le_refl _) (Nat.lt_succ_self _)).trans h⟩
theorem LK.new (w : World) (o : Obj) : LK w.heap.size o (w.alloc o) := LK.of (World.alloc_heap_new w o)
theorem LK.blk {V : World} {g : Nat} {o : Obj} (h : LK g o V) : V.heap[g]? = some o := Lv.get h
theorem LK.lt {V : World} {g : Nat} {o : Obj} (h : LK g o V) : g < V.heap.size := Lv.hi_le h
theorem LK.step {V V' : World} {g : Nat} {o : Obj} (h : LK g o V) (hb : Below V.heap.size V V') : LK g o V' := Lv.step h hb
theorem LK.out {V V' : World} {g n0 h0 : Nat} {o : Obj} (h : LK g o V) (hs : V.heap.size ≤ V'.heap.size) (hf : ∀ x, x < V.heap.size → (x < n0 ∨ h0 ≤ x) → V'.heap[x]? = V.heap[x]?) (hd : g < n0 ∨ h0 ≤ g) : LK g o V' := Lv.out h hs hf (by omega)
theorem LK.cell {V : World} {g : Nat} {cs : Array Value} {t : TypeId} {f : Nat × Nat} (h : LK g (.cells cs t f) V) (i : Nat) : V.cell? ⟨g, i, none⟩ = cs[i]? := blk_cell h.blk i
theorem LK.frozen {V : World} {g : Nat} {cs : Array Value} {t : TypeId} (h : LK g (.cells cs t (0, 0)) V) (i : Nat) : V.frozen? ⟨g, i, none⟩ = false := blk_frozen h.blk i
/-- A disk that lies from lo on, below hi. -/
def LD (lo hi : Nat) (b u : Value) (d : DiskL) (V : World) : Prop := Lv lo hi (fun W => DiskV W lo hi b u d) V
theorem LD.of {V : World} {lo hi : Nat} {b u : Value} {d : DiskL} (h : DiskV V lo hi b u d) (hh : hi ≤ V.heap.size) : LD lo hi b u d V := Lv.mk' hh fun _ hk => ⟨Sl.keep h.1 hk, Sl.keep h.2 hk⟩
theorem LD.v {V : World} {lo hi : Nat} {b u : Value} {d : DiskL} (h : LD lo hi b u d V) : DiskV V 0 V.heap.size b u d := DiskV.more (Lv.get h) (Nat.zero_le _) (Lv.hi_le h)
theorem LD.step {V V' : World} {lo hi : Nat} {b u : Value} {d : DiskL} (h : LD lo hi b u d V) (hb : Below V.heap.size V V') : LD lo hi b u d V' := Lv.step h hb
theorem LD.out {V V' : World} {lo hi n0 h0 : Nat} {b u : Value} {d : DiskL} (h : LD lo hi b u d V) (hs : V.heap.size ≤ V'.heap.size) (hf : ∀ x, x < V.heap.size → (x < n0 ∨ h0 ≤ x) → V'.heap[x]? = V.heap[x]?) (hd : hi ≤ n0 ∨ h0 ≤ lo) : LD lo hi b u d V' := Lv.out h hs hf hd
/-- The same, and it may be written. -/
def LT (lo hi : Nat) (b u : Value) (d : DiskL) (V : World) : Prop := Lv lo hi (fun W => DiskT W lo hi b u d) V
theorem DiskT.kept {w w' : World} {lo hi : Nat} {b u : Value} {d : DiskL} (h : DiskT w lo hi b u d) (hk : Kp lo hi w w') : DiskT w' lo hi b u d := ⟨Sl.keep h.1 hk, Sl.keep h.2 hk⟩
theorem LT.of {V V' : World} {b u : Value} {d : DiskL} (h : MadeD V V' b u d) : LT V.heap.size V'.heap.size b u d V' := Lv.mk' (Nat.le_refl _) fun _ hk => h.disk.kept hk
theorem LT.t {V : World} {lo hi : Nat} {b u : Value} {d : DiskL} (h : LT lo hi b u d V) : DiskT V lo hi b u d := Lv.get h
theorem LT.d {V : World} {lo hi : Nat} {b u : Value} {d : DiskL} (h : LT lo hi b u d V) : LD lo hi b u d V := Lv.imp h fun _ k => k.v
theorem LT.v {V : World} {lo hi : Nat} {b u : Value} {d : DiskL} (h : LT lo hi b u d V) : DiskV V 0 V.heap.size b u d := h.d.v
theorem LT.step {V V' : World} {lo hi : Nat} {b u : Value} {d : DiskL} (h : LT lo hi b u d V) (hb : Below V.heap.size V V') : LT lo hi b u d V' := Lv.step h hb
theorem LT.out {V V' : World} {lo hi n0 h0 : Nat} {b u : Value} {d : DiskL} (h : LT lo hi b u d V) (hs : V.heap.size ≤ V'.heap.size) (hf : ∀ x, x < V.heap.size → (x < n0 ∨ h0 ≤ x) → V'.heap[x]? = V.heap[x]?) (hd : hi ≤ n0 ∨ h0 ≤ lo) : LT lo hi b u d V' := Lv.out h hs hf hd
/-- Bytes that lie from lo on, below hi. -/
def LB (lo hi : Nat) (v : Value) (l : List UInt8) (V : World) : Prop := Lv lo hi (fun W => Bytes W lo hi v l) V
theorem LB.of {V : World} {lo hi : Nat} {v : Value} {l : List UInt8} (h : Bytes V lo hi v l) (hh : hi ≤ V.heap.size) : LB lo hi v l V := Lv.mk' hh fun _ hk => h.kept hk
theorem LB.v {V : World} {lo hi : Nat} {v : Value} {l : List UInt8} (h : LB lo hi v l V) : Bytes V 0 V.heap.size v l := Bytes.more (Lv.get h) (Nat.zero_le _) (Lv.hi_le h)
theorem LB.step {V V' : World} {lo hi : Nat} {v : Value} {l : List UInt8} (h : LB lo hi v l V) (hb : Below V.heap.size V V') : LB lo hi v l V' := Lv.step h hb
theorem LB.out {V V' : World} {lo hi n0 h0 : Nat} {v : Value} {l : List UInt8} (h : LB lo hi v l V) (hs : V.heap.size ≤ V'.heap.size) (hf : ∀ x, x < V.heap.size → (x < n0 ∨ h0 ≤ x) → V'.heap[x]? = V.heap[x]?) (hd : hi ≤ n0 ∨ h0 ≤ lo) : LB lo hi v l V' := Lv.out h hs hf hd
/-- The same, and they may be written. -/
def LM (lo hi : Nat) (v : Value) (l : List UInt8) (V : World) : Prop := Lv lo hi (fun W => Bytes W lo hi v l ∧ Thawed W v) V
theorem LM.of {V V' : World} {v : Value} {l : List UInt8} (h : MadeB V V' v l) : LM V.heap.size V'.heap.size v l V' := Lv.mk' (Nat.le_refl _) fun _ hk => ⟨h.bytes.kept hk, thawed_kept h.bytes h.thawed hk⟩
theorem LM.b {V : World} {lo hi : Nat} {v : Value} {l : List UInt8} (h : LM lo hi v l V) : LB lo hi v l V := Lv.imp h fun _ k => k.1
theorem LM.v {V : World} {lo hi : Nat} {v : Value} {l : List UInt8} (h : LM lo hi v l V) : Bytes V 0 V.heap.size v l := h.b.v
theorem LM.m {V : World} {lo hi : Nat} {v : Value} {l : List UInt8} (h : LM lo hi v l V) : Bytes V lo hi v l ∧ Thawed V v := Lv.get h
theorem LM.step {V V' : World} {lo hi : Nat} {v : Value} {l : List UInt8} (h : LM lo hi v l V) (hb : Below V.heap.size V V') : LM lo hi v l V' := Lv.step h hb
theorem LM.out {V V' : World} {lo hi n0 h0 : Nat} {v : Value} {l : List UInt8} (h : LM lo hi v l V) (hs : V.heap.size ≤ V'.heap.size) (hf : ∀ x, x < V.heap.size → (x < n0 ∨ h0 ≤ x) → V'.heap[x]? = V.heap[x]?) (hd : hi ≤ n0 ∨ h0 ≤ lo) : LM lo hi v l V' := Lv.out h hs hf hd
theorem LM.set {V : World} {lo hi b off n c : Nat} {L : List UInt8} (h : LM lo hi (.slice (some ⟨b, off, none⟩) n c) L V) (j : Nat) (x : UInt8) (hj : j < L.length) : LM lo hi (.slice (some ⟨b, off, none⟩) n c) (L.set j x) (V.setCell ⟨b, off + j, none⟩ (bV x)) :=
  Lv.mk' (by rw [World.size_setCell]; exact Lv.hi_le h) fun _ hk => ⟨(h.m.1.set j x hj).kept hk, thawed_kept (h.m.1.set j x hj) (h.m.2.set _ _) hk⟩
/-- A slice that lies from lo on, below hi. -/
def LS {α : Type} (r : Rd α) (lo hi : Nat) (v : Value) (l : List α) (V : World) : Prop := Lv lo hi (fun W => Sl r W lo hi v l) V
theorem LS.of {α : Type} {r : Rd α} {V : World} {lo hi : Nat} {v : Value} {l : List α} (h : Sl r V lo hi v l) (hh : hi ≤ V.heap.size) : LS r lo hi v l V := Lv.mk' hh fun _ hk => h.keep hk
theorem LS.v {α : Type} {r : Rd α} {V : World} {lo hi : Nat} {v : Value} {l : List α} (h : LS r lo hi v l V) : Sl r V 0 V.heap.size v l := Sl.more (Lv.get h) (Nat.zero_le _) (Lv.hi_le h)
theorem LS.step {α : Type} {r : Rd α} {V V' : World} {lo hi : Nat} {v : Value} {l : List α} (h : LS r lo hi v l V) (hb : Below V.heap.size V V') : LS r lo hi v l V' := Lv.step h hb
theorem LS.out {α : Type} {r : Rd α} {V V' : World} {lo hi n0 h0 : Nat} {v : Value} {l : List α} (h : LS r lo hi v l V) (hs : V.heap.size ≤ V'.heap.size) (hf : ∀ x, x < V.heap.size → (x < n0 ∨ h0 ≤ x) → V'.heap[x]? = V.heap[x]?) (hd : hi ≤ n0 ∨ h0 ≤ lo) : LS r lo hi v l V' := Lv.out h hs hf hd
/-- Nothing below w has turned. -/
def LW (w V : World) : Prop := Below w.heap.size w V
theorem LW.step {w V V' : World} (h : LW w V) (hb : Below V.heap.size V V') : LW w V' := below_step h (Below.size h) hb
theorem LW.outB {w V V' : World} {n0 : Nat} (h : LW w V) (hb : Below n0 V V') (hn : w.heap.size ≤ n0) : LW w V' := Below.trans h (hb.mono hn)
end Go.Proofs.Ytbddbadmfhplmaa

namespace Go.Proofs.Ytbddbadmfhplmaa
open Go.RowKit

set_option maxHeartbeats 1000000 in
/-- slices.Clone. -/
theorem clone_any (v : Value) (l : List UInt8) (w : World) (hI : Bytes w 0 w.heap.size v l) (hl : l.length ≤ 1000000) :
    Calls Try.prog 115 #[v] w fun e w' => ∃ u, e = .returned u ∧ MadeB w w' u l := by
  obtain ⟨a, c, rfl, g1, g2, g3, g4⟩ := id hI
  have hnil := fun (w : World) (a : Option Addr) (n c n' c' : Nat) => Lib.run_eql_slice_nil (P := Try.prog) w 26 5 a n c n' c' Try.underlying26
  cases a with
  | none =>
    have hc := g4 rfl
    subst hc
    have h0 : l = [] := List.eq_nil_of_length_eq_zero (by omega)
    subst h0
    go_enter Try.func115, Try.ntmps115
    go_wp2
    go_ret
    exact ⟨_, rfl, MadeB.nil_ (Below.refl _ _)⟩
  | some ad =>
    clear g3 g4
    have hown : OwnB w.heap.size 5 (w.alloc (.cells #[] 5)) (.slice (some ⟨w.heap.size, 0, none⟩) 0 0) [] := ⟨by simp, .inr ⟨w.heap.size, 0, #[], rfl, Nat.le_refl _, World.alloc_heap_new w _, Nat.le_refl _, Nat.zero_le _, rfl, rfl⟩⟩
    have hb0 := (Below.refl w.heap.size w).alloc (Nat.le_refl _) (.cells #[] 5)
    have hI1 := hI.step hb0
    go_enter Try.func115, Try.ntmps115
    go_wp2_with (at_builtin; refine wpList_appB rfl _ _ 26 rfl w.heap.size 5 Try.underlying26 info_u8 _ [] rfl hown _ _ _ l rfl hI1 (by simp; omega) (by simp) ?_; intro u w1 hown1 hB1)
    go_ret
    exact ⟨_, rfl, hown1.made (hb0.trans hB1)⟩

end Go.Proofs.Ytbddbadmfhplmaa

