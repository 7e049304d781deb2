/- DropDoes: the words and contracts, part 1. -/
import Derived.Test.YtkfgegdnpinbdaaProg
import Derived.WalkKit
import Derived.WalkLawsBesides
import Derived.WalkSpells
import Derived.Lib.Hide
import Derived.Laws.Rows
import Derived.Laws.AppendOwnNone
import Derived.Maps.AppendAt
import Derived.RangeFuncNested
import Derived.RangeFuncBound
import Derived.RangeFuncCalls
import Derived.RangeFuncLeaves
import Derived.RangeFuncBox
import Derived.Shelf.Abstract
import Derived.Shelf.RegionOpen
import Derived.OwnWalkIn
import Derived.TacticsInMore
import Derived.LoopNIn
import Derived.LoopIn
import Derived.ProofKit
import Derived.Deep.Slices
import Derived.WideShapes
import Derived.OrdersHeld
import Derived.Deep.QuietTactic
import Derived.BigQuiet
namespace Go.Proofs.Ytkfgegdnpinbdaa
open Go.RowKit

def bV (x : UInt8) : Value := .int .u8 (x.toNat : Int)

/-- The slice value v holds the bytes l in w; where there is one, its block lies from lo on, below hi. -/
def Bytes (w : World) (lo hi : Nat) (v : Value) (l : List UInt8) : Prop :=
  ∃ a c, v = .slice a l.length c ∧ l.length ≤ c ∧ c ≤ maxLen ∧
    (0 < l.length → ∃ b off, a = some ⟨b, off, none⟩ ∧ lo ≤ b ∧ b < hi ∧ ∀ i x, l[i]? = some x → w.cell? ⟨b, off + i, none⟩ = some (bV x)) ∧ (a = none → c = 0)

section
variable {w w' : World} {lo hi lo' hi' : Nat} {v : Value} {l : List UInt8}

theorem Bytes.keep (h : Bytes w lo hi v l) (hk : ∀ b o, lo ≤ b → b < hi → w'.cell? ⟨b, o, none⟩ = w.cell? ⟨b, o, none⟩) : Bytes w' lo hi v l := by
  obtain ⟨a, c, e, h1, h2, h3, h4⟩ := h
  refine ⟨a, c, e, h1, h2, fun hp => ?_, h4⟩
  obtain ⟨b, off, ea, hlo, hhi, hc⟩ := h3 hp
  exact ⟨b, off, ea, hlo, hhi, fun i x hx => (hk b _ hlo hhi).trans (hc i x hx)⟩
theorem Bytes.more (h : Bytes w lo hi v l) (h1 : lo' ≤ lo) (h2 : hi ≤ hi') : Bytes w lo' hi' v l := by
  obtain ⟨a, c, e, g1, g2, h3, h4⟩ := h
  refine ⟨a, c, e, g1, g2, fun hp => ?_, h4⟩
  obtain ⟨b, off, ea, hlo, hhi, hc⟩ := h3 hp
  exact ⟨b, off, ea, by omega, by omega, hc⟩
theorem Bytes.below {B : Nat} (h : Bytes w lo hi v l) (hb : Below B w w') (hB : hi ≤ B) : Bytes w' lo hi v l :=
  h.keep fun b o _ hh => hb.cell (p := ⟨b, o, none⟩) (by show b < B; omega)
theorem Bytes.nil_ (w : World) (lo hi : Nat) : Bytes w lo hi (.slice none 0 0) [] := ⟨none, 0, rfl, Nat.le_refl _, Nat.zero_le _, fun h => absurd h (by simp), fun _ => rfl⟩
theorem Bytes.len_le (h : Bytes w lo hi v l) : l.length ≤ maxLen := by obtain ⟨a, c, e, g1, g2, h3⟩ := h; omega
/-- A slice that was made whole: a new block. -/
theorem Bytes.new (w : World) (t : TypeId) (l : List UInt8) (h : l.length ≤ maxLen) (mk : Nat × Nat) :
    Bytes (w.alloc (.cells (l.map bV).toArray t mk)) w.heap.size (w.heap.size + 1) (.slice (some ⟨w.heap.size, 0, none⟩) l.length l.length) l := by
  refine ⟨_, _, rfl, Nat.le_refl _, h, fun _ => ⟨_, _, rfl, Nat.le_refl _, Nat.lt_succ_self _, fun i x hx => ?_⟩, fun h => by cases h⟩
  rw [Nat.zero_add, World.cell?_alloc_mark]
  simp [hx]
/-- A slice of some of its elements. -/
theorem Bytes.cut {b off n c : Nat} (h : Bytes w lo hi (.slice (some ⟨b, off, none⟩) n c) l) (i k c' : Nat) (hik : i + k ≤ l.length) (hk : k ≤ c') (hc : c' ≤ maxLen) :
    Bytes w lo hi (.slice (some ⟨b, off + i, none⟩) k c') ((l.drop i).take k) := by
  obtain ⟨a, c, e, h1, h2, h3, h4⟩ := h
  have hl : ((l.drop i).take k).length = k := by simp; omega
  refine ⟨_, _, by rw [hl], by omega, hc, fun hp => ?_, fun h => by cases h⟩
  obtain ⟨b', off', ea, hlo, hhi, hc⟩ := h3 (by omega)
  cases e
  cases ea
  refine ⟨b, off + i, rfl, hlo, hhi, fun j x hx => ?_⟩
  rw [List.getElem?_take] at hx
  split at hx
  · rw [List.getElem?_drop] at hx
    rw [Nat.add_assoc]
    exact hc _ _ hx
  · cases hx
end

theorem Bytes.at_ {w : World} {lo hi : Nat} {v : Value} {l : List UInt8} (h : Bytes w lo hi v l) (hp : 0 < l.length) :
    ∃ b off c, v = .slice (some ⟨b, off, none⟩) l.length c ∧ lo ≤ b ∧ b < hi ∧ l.length ≤ c ∧ c ≤ maxLen ∧ ∀ i x, l[i]? = some x → w.cell? ⟨b, off + i, none⟩ = some (bV x) := by
  obtain ⟨a, c, rfl, h1, h2, h3, _⟩ := h
  obtain ⟨b, off, rfl, hlo, hhi, hc⟩ := h3 hp
  exact ⟨b, off, c, rfl, hlo, hhi, h1, h2, hc⟩

/-- A step of the walk: what read as bytes reads on. -/
theorem Bytes.step {w w' : World} {lo : Nat} {v : Value} {l : List UInt8} (h : Bytes w lo w.heap.size v l) (hb : Below w.heap.size w w') : Bytes w' lo w'.heap.size v l :=
  (h.below hb (Nat.le_refl _)).more (Nat.le_refl _) hb.size
theorem Bytes.all0 {w : World} {hi lo : Nat} {v : Value} {l : List UInt8} (h : Bytes w lo hi v l) : Bytes w 0 hi v l := h.more (Nat.zero_le _) (Nat.le_refl _)
theorem below_step {B : Nat} {w w1 w2 : World} (h : Below B w w1) (hB : B ≤ w1.heap.size) (k : Below w1.heap.size w1 w2) : Below B w w2 := h.trans (k.mono hB)

theorem cell_lt' {w : World} {a : Addr} {v : Value} (h : w.cell? a = some v) : a.block < w.heap.size := by
  rcases Nat.lt_or_ge a.block w.heap.size with h1 | h1
  · exact h1
  · exfalso
    unfold World.cell? at h
    simp [Array.getElem?_eq_none h1] at h

/-- No element of the slice value v is frozen. -/
def Thawed (w : World) (v : Value) : Prop := ∀ b off n c, v = .slice (some ⟨b, off, none⟩) n c → ∀ i, i < n → w.frozen? ⟨b, off + i, none⟩ = false

/-- What a call made: a slice of bytes in new memory that may be written; nothing that was there has turned. -/
structure MadeB (w w' : World) (v : Value) (l : List UInt8) : Prop where
  bytes : Bytes w' w.heap.size w'.heap.size v l
  thawed : Thawed w' v
  below : Below w.heap.size w w'

theorem Thawed.nil_ (w : World) : Thawed w (.slice none 0 0) := fun b off n c h => by cases h
theorem MadeB.nil_ {w w' : World} (h : Below w.heap.size w w') : MadeB w w' (.slice none 0 0) [] := ⟨Bytes.nil_ _ _ _, Thawed.nil_ _, h⟩
theorem MadeB.new {w w0 : World} (h : Below w.heap.size w w0) (t : TypeId) (l : List UInt8) (hl : l.length ≤ maxLen) (cs : Array Value) (hcs : cs = (l.map bV).toArray) (n : Nat) (hn : n = l.length) :
    MadeB w (w0.alloc (.cells cs t)) (.slice (some ⟨w0.heap.size, 0, none⟩) n n) l := by
  subst hcs hn
  refine ⟨(Bytes.new w0 t l hl _).more h.size (by simp), fun b off n c e i hi => ?_, h.alloc h.size _⟩
  cases e
  apply World.frozen?_alloc_at
  rfl

theorem MadeB.of_own {w w' : World} {e : TypeId} {v : Value} {n : Nat} {xs : List Value} {l : List UInt8} (hb : Below w.heap.size w w') (h : w'.ownsRow w.heap.size e 1 v n xs) (hx : xs = l.map bV) : MadeB w w' v l := by
  obtain ⟨hl, h⟩ := h
  subst hx
  have hn : l.length = n := by simpa using hl
  rcases h with ⟨rfl, h0⟩ | ⟨g, cap, cur, rfl, hg, hh, h1, h2, h3, h4⟩
  · have : l = [] := List.eq_nil_of_length_eq_zero (by omega)
    subst this
    exact MadeB.nil_ hb
  · have hgl : g < w'.heap.size := (Array.getElem?_eq_some_iff.1 hh).1
    refine ⟨⟨_, cap, by rw [hn], by omega, h2, fun _ => ⟨g, 0, rfl, hg, hgl, fun i x hx => ?_⟩, fun h => by cases h⟩, fun b off m c e i hi => ?_, hb⟩
    · rw [cell_of_row w' g (0 + i) cur _ (0, 0) hh]
      have hi : i < l.length := (List.getElem?_eq_some_iff.1 hx).1
      have h5 : (cur.toList.take (n * 1))[i]? = some (bV x) := by rw [h4]; simp [hx]
      rw [List.getElem?_take] at h5
      split at h5
      · simpa using h5
      · cases h5
    · cases e
      simp [World.frozen?, hh]

/-- string(b). -/
theorem conv_bytes {P : Program} {w : World} {lo hi : Nat} {v : Value} {l : List UInt8} (h : Bytes w lo hi v l) (src dst e : TypeId) (hs : P.underlying src = some (.slice e)) (he : P.underlying e = some (.int .u8)) (hd : P.underlying dst = some .string) :
    (convert src dst v).run P w = .ok (.string ⟨l.toArray⟩) w := by
  obtain ⟨a, c, rfl, h1, h2, h3, h4⟩ := h
  rcases Nat.eq_zero_or_pos l.length with h0 | h0
  · have : l = [] := List.eq_nil_of_length_eq_zero h0
    subst this
    rcases a with _ | ad
    · exact run_convert_bytes_nil w src e hs he _ _ dst hd
    · rw [run_convert_bytes_string w src dst e _ _ _ hs he hd, run_bytesToString w ad _ c [] (by have := run_loadCells_list (P := P) w ad ([] : List Value) (by simp); simpa using this)]
      rfl
  · obtain ⟨b, off, rfl, _, _, hc⟩ := h3 h0
    rw [run_convert_bytes_arg w src e hs he b off l.length c (l.map fun x => (x.toNat : Int)) (by simp) (fun i hi => by rw [hc i l[i] (by simp [hi])]; simp [bV, hi]) dst hd]
    have e : (l.map fun x => (x.toNat : Int)).map (fun n => UInt8.ofNat n.toNat) = l := by
      rw [List.map_map]
      exact (List.map_congr_left (fun x _ => by simp)).trans (List.map_id l)
    rw [strOfNums, e]

/-- A row of bytes of the call's own. -/
def OwnB (base : Nat) (e : TypeId) (w : World) (v : Value) (l : List UInt8) : Prop := w.ownsRow base e 1 v l.length (l.map bV)
theorem OwnB.nil_ (base : Nat) (e : TypeId) (w : World) : OwnB base e w (.slice none 0 0) [] := World.ownsRow_nil _ _ _ _
theorem OwnB.made {w w' : World} {e : TypeId} {v : Value} {l : List UInt8} (h : OwnB w.heap.size e w' v l) (hb : Below w.heap.size w w') : MadeB w w' v l := MadeB.of_own hb h rfl
theorem OwnB.bytes {base : Nat} {e : TypeId} {w : World} {v : Value} {l : List UInt8} (h : OwnB base e w v l) : Bytes w base w.heap.size v l := by
  obtain ⟨hl, h⟩ := h
  rcases h with ⟨rfl, h0⟩ | ⟨g, cap, cur, rfl, hg, hh, h1, h2, h3, h4⟩
  · have : l = [] := List.eq_nil_of_length_eq_zero (by omega)
    subst this
    exact Bytes.nil_ _ _ _
  · have hgl : g < w.heap.size := (Array.getElem?_eq_some_iff.1 hh).1
    refine ⟨_, cap, rfl, by omega, h2, fun _ => ⟨g, 0, rfl, hg, hgl, fun i x hx => ?_⟩, fun h => by cases h⟩
    rw [cell_of_row w g (0 + i) cur _ (0, 0) hh]
    have h5 : (cur.toList.take (l.length * 1))[i]? = some (bV x) := by rw [h4]; simp [hx]
    rw [List.getElem?_take] at h5
    split at h5
    · simpa using h5
    · cases h5
theorem OwnB.block {base : Nat} {e : TypeId} {w : World} {v : Value} {l : List UInt8} (h : OwnB base e w v l) : ∀ k, v.ownBlock = some k → base ≤ k := by
  intro k hk
  rcases h.2 with ⟨rfl, h0⟩ | ⟨g, cap, cur, rfl, hg, hh, h1, h2, h3, h4⟩
  · cases hk
  · cases hk; exact hg

theorem OwnB.alloc {base : Nat} {e : TypeId} {w : World} {v : Value} {l : List UInt8} (h : OwnB base e w v l) (o : Obj) : OwnB base e (w.alloc o) v l := World.ownsRow.alloc h o

theorem wpList_appB {P : Program} {w : World} {ops : Array Oper} {rest : List Oper} {o : Oper} {a : Act} {Q : Exit → Act → World → Prop} (hgd : o.guard = none) (s x : Operand) (t : TypeId)
    (ho : o.op = .call { callee := .builtin .append, args := #[s, x], argTypes := #[t, t] })
    (base : Nat) (e : TypeId) (ht : P.underlying t = some (.slice e)) (hi : (P.info? e).map (fun i => (i.zero, i.size, i.bytes)) = some (some (.int .u8 0), 1, 1))
    (v : Value) (l : List UInt8) (hs : a.eval s = v) (hown : OwnB base e w v l) (lo hi' : Nat) (sv : Value) (bs : List UInt8) (hx : a.eval x = sv) (hr : Bytes w lo hi' sv bs)
    (hsz : l.length + bs.length ≤ 140737488355328) (hbase : base ≤ w.heap.size)
    (h : ∀ v' w', OwnB base e w' v' (l ++ bs) → Below base w w' → wpList P ops Q rest (a.put o.dst v') w') : wpList P ops Q (o :: rest) a w := by
  obtain ⟨i0, hi0, hz0, hz1, hz2⟩ := info_parts hi
  obtain ⟨ad, c, rfl, h1, h2, h3, h4⟩ := hr
  have hbel : ∀ w', w.grownBy w' v.ownBlock → Below base w w' := fun w' hg => ((Below.refl w.heap.size w).mono hbase).grown hg hbase hown.block
  rcases ad with _ | ad
  · have hc : c = 0 := h4 rfl
    subst hc
    have hb0 : bs = [] := List.eq_nil_of_length_eq_zero (by omega)
    subst hb0
    exact wpList_append_own_none hgd s x t ho base e i0 1 ht hi0 v _ _ hs hown hx (h v w (by simpa using hown) (hbel _ (World.grownBy.refl w _)))
  · have hl : (bs.map bV).length = bs.length * 1 := by simp
    refine wpList_append_own w hgd s x t ho base e i0 _ 1 1 ht hi0 hz0 hz1 hz2 rfl (by decide) v _ _ hs hown ad bs.length c (bs.map bV) hx hl ?_ ?_ (by unfold maxLen; omega) (by omega) hbase ?_
    · intro j u hu
      have hj : j < bs.length := by have := (List.getElem?_eq_some_iff.1 hu).1; simpa using this
      obtain ⟨b, off, e1, _, _, hc⟩ := h3 (by omega)
      cases e1
      have e2 : (⟨b, off, none⟩ : Addr).add j = ⟨b, off + j, none⟩ := by unfold Addr.add; split <;> simp_all
      rw [e2, hc j bs[j] (by simp [hj])]
      simp [hj] at hu
      rw [hu]
    · intro u hu
      obtain ⟨y, _, rfl⟩ := List.mem_map.1 hu
      rfl
    · intro v' w' hown' hg _
      exact h v' w' (by unfold OwnB; simpa using hown') (hbel _ hg)

/-- Block g is just these bytes, none frozen. -/
def RowB (w : World) (g : Nat) (e : TypeId) (l : List UInt8) : Prop := w.heap[g]? = some (.cells (l.map bV).toArray e (0, 0))
section
variable {w w' : World} {g : Nat} {e : TypeId} {l : List UInt8}
theorem RowB.lt (h : RowB w g e l) : g < w.heap.size := (Array.getElem?_eq_some_iff.1 h).1
theorem RowB.cell (h : RowB w g e l) (i : Nat) : w.cell? ⟨g, i, none⟩ = (l[i]?).map bV := by rw [cell_of_row w g i _ e (0, 0) h]; simp
theorem RowB.frozen (h : RowB w g e l) (i : Nat) : w.frozen? ⟨g, i, none⟩ = false := by
  unfold RowB at h
  simp [World.frozen?, h]
theorem RowB.set_ (h : RowB w g e l) (i : Nat) (x : UInt8) : RowB (w.setCell ⟨g, i, none⟩ (bV x)) g e (l.set i x) := by
  unfold RowB at h ⊢
  simp [World.setCell, Array.getElem?_modify, h, List.map_set]
theorem RowB.below {B : Nat} (h : RowB w g e l) (hb : Below B w w') (hg : g < B) : RowB w' g e l := (hb.block g hg).trans h
theorem RowB.step (h : RowB w g e l) (hb : Below w.heap.size w w') : RowB w' g e l := h.below hb h.lt
theorem RowB.bytes (h : RowB w g e l) (hl : l.length ≤ maxLen) : Bytes w g (g + 1) (.slice (some ⟨g, 0, none⟩) l.length l.length) l := by
  refine ⟨_, _, rfl, Nat.le_refl _, hl, fun _ => ⟨g, 0, rfl, Nat.le_refl _, Nat.lt_succ_self _, fun i x hx => ?_⟩, fun h => by cases h⟩
  rw [Nat.zero_add, h.cell, hx]
  rfl
theorem RowB.thawed (h : RowB w g e l) (n c : Nat) : Thawed w (.slice (some ⟨g, 0, none⟩) n c) := by
  intro b off m c' he i _
  cases he
  exact h.frozen _
end
/-- The first ones of a slice. -/
theorem Bytes.pre {w : World} {lo hi : Nat} {a : Option Addr} {n c : Nat} {l : List UInt8} (h : Bytes w lo hi (.slice a n c) l) (k : Nat) (hk : k ≤ l.length) : Bytes w lo hi (.slice a k c) (l.take k) := by
  obtain ⟨a', c', e, h1, h2, h3, h4⟩ := h
  cases e
  have hl : (l.take k).length = k := by simp; omega
  refine ⟨a, c, by rw [hl], by omega, h2, fun hp => ?_, h4⟩
  obtain ⟨b, off, rfl, hlo, hhi, hc⟩ := h3 (by omega)
  refine ⟨b, off, rfl, hlo, hhi, fun i x hx => ?_⟩
  rw [List.getElem?_take] at hx
  split at hx
  · exact hc _ _ hx
  · cases hx

theorem wpList_makeB {P : Program} {w : World} {ops : Array Oper} {rest : List Oper} {o : Oper} {a : Act} {Q : Exit → Act → World → Prop}
    (hgd : o.guard = none) (s c : Operand) (t : TypeId) (ho : o.op = Op.makeSlice t s c) (e : TypeId) (ht : P.underlying t = some (.slice e))
    (hi : (P.info? e).map (fun i => (i.zero, i.size, i.bytes)) = some (some (.int .u8 0), 1, 1)) (n : Nat) (hs : a.eval s = .int .i64 n) (hc : a.eval c = .int .i64 n) (hn : n ≤ 140737488355328)
    (h : ∀ w', RowB w' w.heap.size e (List.replicate n 0) → Below w.heap.size w w' → wpList P ops Q rest (a.put o.dst (.slice (some ⟨w.heap.size, 0, none⟩) n n)) w') : wpList P ops Q (o :: rest) a w := by
  obtain ⟨i0, hi0, hz0, hz1, hz2⟩ := info_parts hi
  refine wpList_make_full w hgd s c t ho w.heap.size e i0 _ 1 ht hi0 hz0 hz1 .i64 .i64 n n n hs hc rfl rfl (by rw [hz2]; omega) (by unfold maxLen; omega) (Nat.le_refl _) ?_
  intro w' hown hg
  refine h w' ?_ ((Below.refl _ _).grown hg (Nat.le_refl _) (fun k hk => by cases hk))
  rcases hown.2 with ⟨h0, _⟩ | ⟨g, cap, cur, hv, _, hh, _, _, hsz, htake⟩
  · cases h0
  · cases hv
    unfold RowB
    rw [hh]
    have hcur : cur.toList = (List.replicate n (0 : UInt8)).map bV := by
      rw [List.take_of_length_le (by simp; omega)] at htake
      rw [htake]
      have hz : (bV 0) = .int .u8 0 := rfl
      simp only [madeCells, Value.cells, Nat.mul_one, List.size_toArray, List.length_cons, List.length_nil, Nat.reduceAdd, Nat.mod_one, List.map_replicate, hz, Array.toList_map]
      apply List.ext_getElem <;> simp
    rw [← hcur]

theorem bV_ofNat (n : Int) (k : Nat) (h : n = (k % 256 : Nat)) : Value.int .u8 n = bV (UInt8.ofNat k) := by
  subst h
  simp [bV]
end Go.Proofs.Ytkfgegdnpinbdaa

namespace Go.Proofs.Ytkfgegdnpinbdaa
open Go.RowKit Go.Shelf
attribute [local go_sem] Oper.semAt_some

theorem cell_new_l (W : World) (v : Value) (t : TypeId) : (W.alloc (.cells #[v] t)).cell? ⟨W.heap.size, 0, none⟩ = some v ∧ (W.alloc (.cells #[v] t)).frozen? ⟨W.heap.size, 0, none⟩ = false :=
  ⟨by rw [World.cell?_alloc_new]; rfl, by apply World.frozen?_alloc_at; rfl⟩
theorem cell_alloc_l {W : World} {a : Addr} {v : Value} (o : Obj) (h : W.cell? a = some v) : (W.alloc o).cell? a = some v := cell_kept h (World.grownBy_alloc W o none) (fun r e => by cases e)
theorem frozen_alloc_l {W : World} {a : Addr} {v : Value} (o : Obj) (h : W.cell? a = some v) (hf : W.frozen? a = false) : (W.alloc o).frozen? a = false := (frozen_kept h (World.grownBy_alloc W o none) (fun r e => by cases e)).trans hf

/-- What has come of l from behind when k rounds are over: places and bytes. -/
def backTo (l : List UInt8) (k : Nat) : List (Nat × UInt8) := (List.range k).map fun j => (l.length - 1 - j, l.getD (l.length - 1 - j) 0)
theorem backTo_succ (l : List UInt8) (k : Nat) : backTo l (k + 1) = backTo l k ++ [(l.length - 1 - k, l.getD (l.length - 1 - k) 0)] := by simp [backTo, List.range_succ]
theorem backTo_length (l : List UInt8) (k : Nat) : (backTo l k).length = k := by simp [backTo]

/-- What a round keeps: all that lies below n₀, and one cell (the iterator's own). -/
def KeepB (n₀ Bs : Nat) (A B : World) : Prop := Below n₀ A B ∧ B.cell? ⟨Bs, 0, none⟩ = A.cell? ⟨Bs, 0, none⟩
theorem KeepB.refl (n₀ Bs : Nat) (A : World) : KeepB n₀ Bs A A := ⟨Below.refl _ _, rfl⟩
theorem KeepB.trans {n₀ Bs : Nat} {A B C : World} (h : KeepB n₀ Bs A B) (k : KeepB n₀ Bs B C) : KeepB n₀ Bs A C := ⟨h.1.trans k.1, k.2.trans h.2⟩
theorem keepB_b {w : World} {n₀ Bs : Nat} (hn : n₀ ≤ w.heap.size) (hB : Bs < w.heap.size) : ∀ (W : World) (l : Nat) (o o' : Obj), w.heap.size ≤ l → W.heap[l]? = some o → o.isCells = false → o.isWalk = false → KeepB n₀ Bs W (W.putObj l o') :=
  fun W l o o' h1 h2 h3 h4 => ⟨belowK_b hn W l o o' h1 h2 h3 h4, (belowK_b (w := w) (n₀ := Bs + 1) (by omega) W l o o' h1 h2 h3 h4).cell (p := ⟨Bs, 0, none⟩) (Nat.lt_succ_self _)⟩

set_option maxRecDepth 100000 in
set_option maxHeartbeats 2000000 in
theorem back1_in (F : Fence) (n : Nat) (h7 : F.fn 140) (hro : F.round = none) (hn : 1 ≤ n) (l Bs n₀ b off cap : Nat) (bs : List UInt8) (hlm : bs.length ≤ cap) (hcm : cap ≤ maxLen) (hb : b < n₀) (J Jx : List (Nat × UInt8) → World → Prop)
    (hY : ∀ pre x W, J pre W → pre.length < bs.length → YieldAt F (n - 1) Try.prog l #[.int .i64 (x.1 : Int), bV x.2] W fun e W' =>
      (e = .returned (.bool true) ∧ J (pre ++ [x]) W' ∧ KeepB n₀ Bs W W') ∨ (e = .returned (.bool false) ∧ Jx (pre ++ [x]) W'))
    (W : World) (hBs : W.cell? ⟨Bs, 0, none⟩ = some (.slice (some ⟨b, off, none⟩) bs.length cap)) (hc : ∀ i x, bs[i]? = some x → W.cell? ⟨b, off + i, none⟩ = some (bV x)) (h0 : J [] W) :
    CallsIn F n Try.prog 140 #[.func (.yield l) #[] #[], .pointer (some ⟨Bs, 0, none⟩)] W fun e W' => (∃ v, e = .returned v) ∧
      ((∃ ys, ys = backTo bs bs.length ∧ J ys W') ∨ (∃ pre, (∃ k, k ≤ bs.length ∧ pre = backTo bs k) ∧ Jx pre W')) := by
  unfold maxLen at hcm
  refine callsIn_of_wp Try.func140 rfl h7 ?_ hro
  simp only [Try.ntmps140, List.size_toArray, List.length_cons, List.length_nil, Nat.reduceAdd, Nat.reduceSub, Array.replicate_succ, Array.replicate_zero, List.push_toArray, List.append_toArray, List.nil_append, List.cons_append]
  gi_wp2
  gi_loopw [3] (fun i wr => ∃ k : Nat, k ≤ bs.length ∧ i = .int .i64 ((bs.length : Int) - 1 - k) ∧ J (backTo bs k) wr ∧ KeepB n₀ Bs W wr)
    (fun i _ => (intOf i + 1).toNat)
  case atStart => exact ⟨0, Nat.zero_le _, by simp, h0, KeepB.refl _ _ _⟩
  case round =>
    obtain ⟨k, hk, rfl, hJs, hnx⟩ := hrel
    have hBs' : wr.cell? ⟨Bs, 0, none⟩ = some (.slice (some ⟨b, off, none⟩) bs.length cap) := hnx.2.trans hBs
    by_cases hlt : k < bs.length
    · obtain ⟨m, hm, hmk⟩ : ∃ m : Nat, m < bs.length ∧ m + 1 + k = bs.length := ⟨bs.length - 1 - k, by omega, by omega⟩
      have hcx : wr.cell? ⟨b, off + m, none⟩ = some (bV (bs.getD m 0)) := (hnx.1.cell (p := ⟨b, off + m, none⟩) hb).trans (hc m _ (by simp [hm]))
      obtain ⟨fn, tmps, assign, body, hy, hR⟩ := hY _ (m, bs.getD m 0) wr hJs (by rw [backTo_length]; exact hlt)
      have hsucc : backTo bs (k + 1) = backTo bs k ++ [(m, bs.getD m 0)] := by rw [backTo_succ, show bs.length - 1 - k = m by omega]
      have HS := Lib.hid hsucc
      clear hsucc
      rw [show ((bs.length : Int) - 1 - (k : Int)) = (m : Int) by omega]
      dsimp only at hy
      generalize bs.getD m 0 = x at *
      unfold bV at hcx hy
      have HK := Lib.hid hmk
      clear hmk
      gi_wp2
      refine hR.mono ?_
      rintro e W3 (⟨rfl, hJ3, hk3⟩ | ⟨rfl, hJx3⟩)
      · gi_wp2
        go_roundw
        case rel => exact ⟨k + 1, by omega, by have := HK.out; congr 1 <;> omega, by rw [HS.out]; exact hJ3, hnx.trans hk3⟩
        case measure => (simp [intOf])
      · gi_wp2
        refine bodyPost_ret (results_none rfl _ _ _) rfl ?_
        exact ⟨⟨_, rfl⟩, .inr ⟨_, ⟨k + 1, by omega, HS.out.symm⟩, hJx3⟩⟩
    · obtain rfl : k = bs.length := by omega
      gi_wp2
      go_end0
      exact ⟨⟨_, rfl⟩, .inl ⟨_, rfl, hJs⟩⟩

set_option maxRecDepth 100000 in
set_option maxHeartbeats 1000000 in
theorem back1_none (F : Fence) (n : Nat) (h7 : F.fn 140) (hro : F.round = none) (l Bs cap : Nat) (a : Option Addr) (J : List (Nat × UInt8) → World → Prop) (W : World) (hBs : W.cell? ⟨Bs, 0, none⟩ = some (.slice a 0 cap)) (h0 : J [] W) :
    CallsIn F n Try.prog 140 #[.func (.yield l) #[] #[], .pointer (some ⟨Bs, 0, none⟩)] W fun e W' => (∃ v, e = .returned v) ∧ J [] W' := by
  refine callsIn_of_wp Try.func140 rfl h7 ?_ hro
  simp only [Try.ntmps140, List.size_toArray, List.length_cons, List.length_nil, Nat.reduceAdd, Nat.reduceSub, Array.replicate_succ, Array.replicate_zero, List.push_toArray, List.append_toArray, List.nil_append, List.cons_append]
  gi_wp2
  gi_loopw [3] (fun i wr => i = .int .i64 (-1) ∧ J [] wr) (fun _ _ => 0)
  case atStart => exact ⟨rfl, h0⟩
  case round =>
    obtain ⟨rfl, hJs⟩ := hrel
    gi_wp2
    go_end0
    exact ⟨⟨_, rfl⟩, hJs⟩

set_option maxHeartbeats 1000000 in
theorem back_in (F : Fence) (n : Nat) (h5 : F.fn 134) (hro : F.round = none) (a : Option Addr) (len cap : Nat) (w : World) :
    CallsIn F n Try.prog 134 #[.slice a len cap] w fun e w' => e = .returned (.func (.func 140) #[] #[.pointer (some ⟨w.heap.size, 0, none⟩)]) ∧ w' = w.alloc (.cells #[.slice a len cap] 26) := by
  refine callsIn_of_wp Try.func134 rfl h5 ?_ hro
  simp only [Try.ntmps134, List.size_toArray, List.length_cons, List.length_nil, Nat.reduceAdd, Nat.reduceSub, Array.replicate_succ, Array.replicate_zero, List.push_toArray, List.append_toArray, List.nil_append, List.cons_append]
  gi_wp2
  go_ret
  exact ⟨rfl, rfl⟩

/-- The value that slices.Backward hands back: all places and bytes, from behind; or the first k of them. -/
theorem back_stops (F : Fence) (n : Nat) (h7 : F.fn 140) (hro : F.round = none) (hn : 1 ≤ n) (Bs n₀ lo : Nat) (sv : Value) (bs : List UInt8) (w : World) (hBs : Bs < w.heap.size) (hn₀ : n₀ ≤ w.heap.size)
    (hc : w.cell? ⟨Bs, 0, none⟩ = some sv) (hI : Bytes w lo n₀ sv bs) :
    SeqStopsK F n Try.prog 140 #[.pointer (some ⟨Bs, 0, none⟩)] (fun x : Nat × UInt8 => #[.int .i64 (x.1 : Int), .int .u8 (x.2.toNat : Int)]) (KeepB n₀ Bs) (fun ys => ys = backTo bs bs.length)
      (fun pre => ∃ k, k ≤ bs.length ∧ pre = backTo bs k) bs.length w := fun l J Jx W hW _ _ hY h0 => by
  have hc' := (hW.cell (p := ⟨Bs, 0, none⟩) hBs).trans hc
  obtain ⟨a, c, rfl, h1, h2, h3, _⟩ := hI.below hW hn₀
  rcases Nat.eq_zero_or_pos bs.length with hz | hp
  · have : bs = [] := List.eq_nil_of_length_eq_zero hz
    subst this
    exact (back1_none F n h7 hro l Bs c a J W hc' h0).mono fun e W' ⟨he, hj⟩ => ⟨he, .inl ⟨_, rfl, hj⟩⟩
  · obtain ⟨b, off, rfl, _, hb, hcs⟩ := h3 hp
    exact back1_in F n h7 hro hn l Bs n₀ b off c bs h1 h2 hb J Jx hY W hc' hcs h0
end Go.Proofs.Ytkfgegdnpinbdaa

namespace Go.Proofs.Ytkfgegdnpinbdaa
open Go.RowKit Go.Shelf
attribute [local go_sem] Oper.semAt_some

/-- The number of some bytes, the lowest first. -/
def numOf : List UInt8 → Nat
  | [] => 0
  | x :: l => x.toNat + 256 * numOf l

def foldBack (pre : List (Nat × UInt8)) : Int := pre.foldl (fun n x => bits BinOp.or IntKind.u32 (n * 256 % 4294967296) x.2.toNat) 0

set_option maxRecDepth 100000 in
set_option maxHeartbeats 2000000 in
theorem get_yes (v : Value) (l : List UInt8) (at_ many : Nat) (w : World) (hI : Bytes w 0 w.heap.size v l) (h1 : at_ + many ≤ l.length) (h0 : 0 < many) :
    Calls Try.prog 122 #[v, .int .i64 at_, .int .i64 many] w fun e w' =>
      e = .returned (.tuple #[.int .u32 (foldBack (backTo ((l.drop at_).take many) many)), .int .i64 0]) ∧ Below w.heap.size w w' := by
  obtain ⟨a, c, rfl, g1, g2, g3, _⟩ := id hI
  obtain ⟨b, off, rfl, _, hb, hc⟩ := g3 (by omega)
  unfold maxLen at g2
  refine (callsIn_wide (n := 3)).1 ?_
  refine callsIn_of_wp_marks Try.func122 rfl trivial ?_ rfl
  simp only [Try.ntmps122, List.size_toArray, List.length_cons, List.length_nil, Nat.reduceAdd, Nat.reduceSub, Array.replicate_succ, Array.replicate_zero, List.push_toArray, List.append_toArray, List.nil_append, List.cons_append]
  have hcut : Bytes w 0 w.heap.size (.slice (some ⟨b, off + at_, none⟩) many (c - at_)) ((l.drop at_).take many) := hI.cut at_ many _ h1 (by omega) (by unfold maxLen; omega)
  have hlen : ((l.drop at_).take many).length = many := by simp; omega
  generalize (l.drop at_).take many = bs at *
  clear hc g3 hI
  gi_wp2_with (refine ⟨trivial, ?_⟩; gi_at_call 134; refine (back_in Fence.wide _ trivial rfl _ _ _ _).mono ?_; rintro e w' ⟨rfl, rfl⟩)
  have hs := cell_new_l w (.int .u32 0) 93
  have hb1 := cell_new_l (w.alloc (.cells #[.int .u32 0] 93)) (.slice (some ⟨b, off + at_, none⟩) many (c - at_)) 26
  rw [World.size_alloc] at hb1
  have hcut2 := hcut.below (((Below.refl _ w).alloc (Nat.le_refl _) (.cells #[.int .u32 0] 93)).alloc (by simp) (.cells #[.slice (some ⟨b, off + at_, none⟩) many (c - at_)] 26)) (Nat.le_refl _)
  refine wpIn_rangeFunc_ownF rfl (by omega) (gf := 140) (lb := #[.pointer (some ⟨w.heap.size + 1, 0, none⟩)]) rfl trivial (enters_of Try.func140 (by kernel_rfl) rfl)
    (back_stops Fence.wide 2 trivial rfl (by omega) (w.heap.size + 1) w.heap.size 0 _ bs _ (by simp) (by simp; omega) hb1.1 hcut2) KeepB.trans (keepB_b (by simp; omega) (by simp)) (Below.refl _ _) (fun _ => rfl)
    (fun pre W => (W.cell? ⟨w.heap.size, 0, none⟩ = some (.int .u32 (foldBack pre)) ∧ W.frozen? ⟨w.heap.size, 0, none⟩ = false) ∧ Below w.heap.size w W)
    (fun _ _ _ => False)
    (OwnFrom.and (Own.from (fun s A B row hs hg hr => ⟨cell_kept hs.1 hg hr, (frozen_kept hs.1 hg hr).trans hs.2⟩) _) (ownFrom_below (Nat.le_refl _) (by simp; omega)))
    (fun _ => Own.from (fun _ _ _ _ hs _ _ => hs) _)
    ⟨⟨cell_alloc_l _ hs.1, frozen_alloc_l _ hs.1 hs.2⟩, (((Below.refl _ w).alloc (Nat.le_refl _) _).alloc (by simp) _)⟩
    ?a1 ?assign ?body ?done ?stop
  case assign =>
    intro l x W K hK
    gi_wp2
    exact hK
  case body =>
    rintro r pre ⟨i, x⟩ W ⟨⟨hc, hf⟩, hB⟩ _
    have hx : (x.toNat : Int) < 256 := by have := x.toNat_lt; omega
    obtain ⟨q, hq⟩ : ∃ q, foldBack pre = q := ⟨_, rfl⟩
    have HQ := Lib.hid hq
    rw [hq] at hc
    clear hq hcut2 hb1 hs
    gi_wp2
    refine ⟨KeepsOthers.setCell _ _ _, ⟨(Below.refl w.heap.size W).setCell (p := ⟨w.heap.size, 0, none⟩) (Nat.le_refl _) _, World.cell?_setCell_other _ _ _ _ (by simp)⟩, ⟨?_, by rw [World.frozen?_setCell]; exact hf⟩, hB.setCell (p := ⟨w.heap.size, 0, none⟩) (Nat.le_refl _) _⟩
    rw [show foldBack (pre ++ [(i, x)]) = bits BinOp.or IntKind.u32 (foldBack pre * 256 % 4294967296) x.toNat by simp [foldBack], HQ.out]
    exact World.cell?_setCell_same' _ _ _ (by rw [hc]; rfl)
  case done =>
    rintro D ys W hD rfl ⟨⟨hc, hf⟩, hB⟩ hK
    gi_wp2
    have hK2 : (W.setCell ⟨w.heap.size, 0, none⟩ (.int .u32 (foldBack (backTo bs many)))).heap[D]? = some (.deferred (some [])) := (KeepsOthers.setCell W _ _).same D _ hK rfl
    refine ⟨by simp, .inl ⟨_, _, rfl, run_takeDeferred hK2, ?_⟩⟩
    have hcf : ((W.setCell ⟨w.heap.size, 0, none⟩ (.int .u32 (foldBack (backTo bs many)))).putObj D (.deferred none)).cell? ⟨w.heap.size, 0, none⟩ = some (.int .u32 (foldBack (backTo bs many))) :=
      cell_kept (World.cell?_setCell_same' _ _ _ (by rw [hc]; rfl)) (grownBy_putObj' _ D (.deferred none)) (fun r e => by cases e; exact ⟨_, hK2, rfl⟩)
    simp at hD
    exact ⟨.tuple #[.int .u32 (foldBack (backTo bs many)), .int .i64 0], by simp [results, Try.results122, go_sem, hcf], rfl,
      (hB.setCell (p := ⟨w.heap.size, 0, none⟩) (Nat.le_refl _) _).trans (belowK_b (w := w) (Nat.le_refl _) _ D _ _ (by omega) hK2 rfl rfl)⟩
  case stop =>
    intro D c pre W _ _ h _
    exact h.elim

theorem or_step (q x : Nat) (hq : q < 16777216) (hx : x < 256) : bits BinOp.or IntKind.u32 ((q : Int) * 256 % 4294967296) (x : Int) = ((q * 256 + x : Nat) : Int) := by
  have e : ((q : Int) * 256 % 4294967296) = ((q * 256 : Nat) : Int) := by omega
  rw [e, bits_join .u32 32 (by decide) (fun n h₀ h₁ => by rw [IntKind.wrap_u32]; omega) 8 _ _ (by omega) (by omega) (by omega) (by omega) (by omega) (by omega)]
  omega

theorem foldBack_two (a b : UInt8) : foldBack (backTo [a, b] 2) = (numOf [a, b] : Int) := by
  have ha := a.toNat_lt
  have hb := b.toNat_lt
  have h1 := or_step 0 b.toNat (by omega) (by omega)
  have h2 := or_step b.toNat a.toNat (by omega) (by omega)
  simp at h1
  simp [foldBack, backTo, List.range, List.range.loop, h1, h2, numOf]
  omega
theorem foldBack_four (a b c d : UInt8) : foldBack (backTo [a, b, c, d] 4) = (numOf [a, b, c, d] : Int) := by
  have ha := a.toNat_lt
  have hb := b.toNat_lt
  have hc := c.toNat_lt
  have hd := d.toNat_lt
  have h1 := or_step 0 d.toNat (by omega) (by omega)
  have h2 := or_step d.toNat c.toNat (by omega) (by omega)
  have h3 := or_step (d.toNat * 256 + c.toNat) b.toNat (by omega) (by omega)
  have h4 := or_step ((d.toNat * 256 + c.toNat) * 256 + b.toNat) a.toNat (by omega) (by omega)
  simp at h1
  simp only [foldBack, backTo, List.range, List.range.loop, List.map_cons, List.map_nil, List.foldl_cons, List.foldl_nil, List.length_cons, List.length_nil, Nat.reduceAdd, Nat.reduceSub, List.getD_cons_zero, List.getD_cons_succ, Int.zero_mul]
  rw [show (0 : Int) % 4294967296 = 0 by decide, h1, h2, h3, h4]
  simp [numOf]
  omega

/-- What get answers: a number and an error. -/
def getN (l : List UInt8) (at_ : Int) (many : Nat) : Nat := if 0 ≤ at_ ∧ at_.toNat + many ≤ l.length then numOf ((l.drop at_.toNat).take many) else 0
def getE (l : List UInt8) (at_ : Int) (many : Nat) : Int := if 0 ≤ at_ ∧ at_.toNat + many ≤ l.length then 0 else 8

set_option maxRecDepth 100000 in
set_option maxHeartbeats 1000000 in
theorem get_no (v : Value) (l : List UInt8) (at_ : Int) (many : Nat) (w : World) (hI : Bytes w 0 w.heap.size v l) (h1 : ¬ (0 ≤ at_ ∧ at_.toNat + many ≤ l.length)) (h4 : many ≤ 4) :
    Calls Try.prog 122 #[v, .int .i64 at_, .int .i64 many] w fun e w' => e = .returned (.tuple #[.int .u32 0, .int .i64 8]) ∧ Below w.heap.size w w' := by
  obtain ⟨a, c, rfl, g1, g2, g3⟩ := hI
  unfold maxLen at g2
  clear g3
  by_cases hneg : at_ < 0
  · go_enter Try.func122, Try.ntmps122
    go_wp2
    exact bodyPost_ret (v := .tuple #[.int .u32 0, .int .i64 8]) (by simp [results, Try.results122, go_sem]) rfl ⟨rfl, (Below.refl _ _).alloc (Nat.le_refl _) _⟩
  · have hgt : (l.length : Int) - many < at_ := by omega
    go_enter Try.func122, Try.ntmps122
    go_wp2
    exact bodyPost_ret (v := .tuple #[.int .u32 0, .int .i64 8]) (by simp [results, Try.results122, go_sem]) rfl ⟨rfl, (Below.refl _ _).alloc (Nat.le_refl _) _⟩

theorem get_any (v : Value) (l : List UInt8) (at_ : Int) (many : Nat) (w : World) (hI : Bytes w 0 w.heap.size v l) (hm : many = 2 ∨ many = 4) :
    Calls Try.prog 122 #[v, .int .i64 at_, .int .i64 many] w fun e w' => e = .returned (.tuple #[.int .u32 (getN l at_ many), .int .i64 (getE l at_ many)]) ∧ Below w.heap.size w w' := by
  by_cases h : 0 ≤ at_ ∧ at_.toNat + many ≤ l.length
  · obtain ⟨k, rfl⟩ := Int.eq_ofNat_of_zero_le h.1
    simp at h
    have hk : (l.drop k).length = l.length - k := by simp
    have e1 : foldBack (backTo ((l.drop k).take many) many) = (getN l k many : Int) := by
      simp only [getN, Int.toNat_natCast]
      rw [if_pos (by omega)]
      rcases hm with rfl | rfl
      · match (l.drop k), hk with
        | a :: b :: r, _ => exact foldBack_two a b
        | [], hk => simp at hk; omega
        | [a], hk => simp at hk; omega
      · match (l.drop k), hk with
        | a :: b :: c :: d :: r, _ => exact foldBack_four a b c d
        | [], hk => simp at hk; omega
        | [a], hk => simp at hk; omega
        | [a, b], hk => simp at hk; omega
        | [a, b, c], hk => simp at hk; omega
    have e2 : getE l k many = 0 := by simp only [getE, Int.toNat_natCast]; rw [if_pos (by omega)]
    rw [← e1, e2]
    exact get_yes v l k many w hI h (by omega)
  · have e1 : getN l at_ many = 0 := by rw [getN, if_neg h]
    have e2 : getE l at_ many = 8 := by rw [getE, if_neg h]
    rw [e1, e2]
    exact get_no v l at_ many w hI h (by omega)

theorem numOf_lt : ∀ l : List UInt8, numOf l < 256 ^ l.length
  | [] => by simp [numOf]
  | x :: l => by
    have := numOf_lt l
    have := x.toNat_lt
    simp only [numOf, List.length_cons, Nat.pow_succ]
    omega
theorem getN_lt (l : List UInt8) (at_ : Int) (many : Nat) : getN l at_ many < 256 ^ many := by
  unfold getN
  split
  · exact Nat.lt_of_lt_of_le (numOf_lt _) (Nat.pow_le_pow_right (by decide) (by simp; omega))
  · exact Nat.pow_pos (by decide)

set_option maxHeartbeats 1000000 in
theorem getTwo_any (v : Value) (l : List UInt8) (at_ : Int) (w : World) (hI : Bytes w 0 w.heap.size v l) :
    Calls Try.prog 107 #[v, .int .i64 at_] w fun e w' => e = .returned (.tuple #[.int .i64 (getN l at_ 2), .int .i64 (getE l at_ 2)]) ∧ Below w.heap.size w w' := by
  have hn := getN_lt l at_ 2
  have hc := get_any v l at_ 2 w hI (.inl rfl)
  generalize getN l at_ 2 = n at *
  generalize getE l at_ 2 = f at *
  clear hI
  go_enter Try.func107, Try.ntmps107
  go_wp2_with (go_at_call 122; refine hc.mono ?_; rintro e w' ⟨rfl, hb⟩)
  go_ret2
  exact ⟨rfl, hb⟩

set_option maxHeartbeats 1000000 in
theorem getFour_any (v : Value) (l : List UInt8) (at_ : Int) (w : World) (hI : Bytes w 0 w.heap.size v l) :
    Calls Try.prog 105 #[v, .int .i64 at_] w fun e w' => e = .returned (.tuple #[.int .u32 (getN l at_ 4), .int .i64 (getE l at_ 4)]) ∧ Below w.heap.size w w' := by
  have hc := get_any v l at_ 4 w hI (.inr rfl)
  generalize getN l at_ 4 = n at *
  generalize getE l at_ 4 = f at *
  clear hI
  go_enter Try.func105, Try.ntmps105
  go_wp2_with (go_at_call 122; refine hc.mono ?_; rintro e w' ⟨rfl, hb⟩)
  go_ret2
  exact ⟨rfl, hb⟩

/-- A number's bytes. -/
def twoL (n : Nat) : List UInt8 := [UInt8.ofNat n, UInt8.ofNat (n / 256)]
def fourL (n : Nat) : List UInt8 := [UInt8.ofNat n, UInt8.ofNat (n / 256), UInt8.ofNat (n / 65536), UInt8.ofNat (n / 16777216)]

theorem two_yes (n : Nat) (w : World) (h : n < 65536) :
    Calls Try.prog 130 #[.int .i64 n] w fun e w' => ∃ v, e = .returned (.tuple #[v, .int .i64 0]) ∧ MadeB w w' v (twoL n) := by
  have h0 : ((n : Int) / 65536 != 0) = false := by simp; omega
  go_enter Try.func130, Try.ntmps130
  go_wp2
  go_ret2
  refine ⟨_, rfl, MadeB.new (Below.refl _ _) _ _ (by simp [twoL, maxLen]) _ ?_ _ (by simp [twoL])⟩
  simp only [twoL, List.map_cons, List.map_nil]
  rw [bV_ofNat _ n (by omega), bV_ofNat _ (n / 256) (by omega)]

theorem four_any (n : Nat) (w : World) (h : n < 4294967296) :
    Calls Try.prog 132 #[.int .u32 n] w fun e w' => ∃ v, e = .returned v ∧ MadeB w w' v (fourL n) := by
  go_enter Try.func132, Try.ntmps132
  go_wp2
  go_ret
  refine ⟨_, rfl, MadeB.new (Below.refl _ _) _ _ (by simp [fourL, maxLen]) _ ?_ _ (by simp [fourL])⟩
  simp only [fourL, List.map_cons, List.map_nil]
  rw [bV_ofNat _ n (by omega), bV_ofNat _ (n / 256) (by omega), bV_ofNat _ (n / 65536) (by omega), bV_ofNat _ (n / 16777216) (by omega)]
end Go.Proofs.Ytkfgegdnpinbdaa

namespace Go.Proofs.Ytkfgegdnpinbdaa
open Go.RowKit Go.ChangeShapes Go.WideShapes Go.Deep

theorem below_dn (B : Nat) (w : World) (n : Nat) : Below B w (w.drewN n) := ⟨rfl, rfl, rfl, Nat.le_refl _, fun _ _ => rfl⟩
/-- Between lo and hi nothing has turned. -/
def Kp (lo hi : Nat) (w w' : World) : Prop :=
  ∀ b o, lo ≤ b → b < hi → w'.cell? ⟨b, o, none⟩ = w.cell? ⟨b, o, none⟩ ∧ w'.frozen? ⟨b, o, none⟩ = w.frozen? ⟨b, o, none⟩
theorem Kp.of_below {B lo hi : Nat} {w w' : World} (h : Below B w w') (hB : hi ≤ B) : Kp lo hi w w' := fun b o _ hh =>
  ⟨h.cell (p := ⟨b, o, none⟩) (by show b < B; omega), h.frozen (p := ⟨b, o, none⟩) (by show b < B; omega)⟩
theorem Kp.refl (lo hi : Nat) (w : World) : Kp lo hi w w := fun _ _ _ _ => ⟨rfl, rfl⟩
theorem Kp.trans {lo hi : Nat} {a b c : World} (h : Kp lo hi a b) (k : Kp lo hi b c) : Kp lo hi a c := fun x o h1 h2 => ⟨(k x o h1 h2).1.trans (h x o h1 h2).1, (k x o h1 h2).2.trans (h x o h1 h2).2⟩

theorem Bytes.at_n {w : World} {lo hi : Nat} {v : Value} {l : List UInt8} {n : Nat} (h : Bytes w lo hi v l) (hn : l.length = n) (hp : 0 < n) :
    ∃ b off c, v = .slice (some ⟨b, off, none⟩) n c ∧ lo ≤ b ∧ b < hi ∧ n ≤ c ∧ c ≤ maxLen ∧ ∀ i x, l[i]? = some x → w.cell? ⟨b, off + i, none⟩ = some (bV x) := by
  subst hn
  exact h.at_ hp
theorem Bytes.cellAt {w : World} {lo hi b off n c : Nat} {l : List UInt8} (h : Bytes w lo hi (.slice (some ⟨b, off, none⟩) n c) l) (i : Nat) (x : UInt8) (hx : l[i]? = some x) : w.cell? ⟨b, off + i, none⟩ = some (bV x) := by
  obtain ⟨a, c', e, h1, h2, h3, h4⟩ := h
  cases e
  obtain ⟨b', off', ea, _, _, hc⟩ := h3 (by have := (List.getElem?_eq_some_iff.1 hx).1; omega)
  cases ea
  exact hc i x hx
theorem Bytes.form {w : World} {lo hi : Nat} {v : Value} {l : List UInt8} {n : Nat} (h : Bytes w lo hi v l) (hn : l.length = n) :
    ∃ a c, v = .slice a n c ∧ n ≤ c ∧ c ≤ maxLen := by
  subst hn
  obtain ⟨a, c, e, h1, h2, _⟩ := h
  exact ⟨a, c, e, h1, h2⟩
theorem thawed_below {w w' : World} {lo hi B : Nat} {v : Value} {l : List UInt8} (h : Bytes w lo hi v l) (ht : Thawed w v) (hb : Below B w w') (hB : hi ≤ B) : Thawed w' v := by
  intro b off n c e i hi'
  obtain ⟨a, c', e', h1, h2, h3, h4⟩ := h
  subst e
  cases e'
  obtain ⟨b', off', ea, _, hhi, _⟩ := h3 (by omega)
  cases ea
  exact (hb.frozen (p := ⟨b, off + i, none⟩) (by show b < B; omega)).trans (ht _ _ _ _ rfl i hi')
/-- A byte of a slice is stored. -/
theorem Bytes.set {w : World} {lo hi b off n c : Nat} {l : List UInt8} (h : Bytes w lo hi (.slice (some ⟨b, off, none⟩) n c) l) (i : Nat) (x : UInt8) (hi' : i < l.length) :
    Bytes (w.setCell ⟨b, off + i, none⟩ (bV x)) lo hi (.slice (some ⟨b, off, none⟩) n c) (l.set i x) := by
  obtain ⟨a, c', e, h1, h2, h3, h4⟩ := h
  cases e
  refine ⟨_, _, by rw [List.length_set], by rw [List.length_set]; exact h1, h2, fun hp => ?_, h4⟩
  obtain ⟨b', off', ea, hlo, hhi, hc⟩ := h3 (by rw [List.length_set] at hp; exact hp)
  cases ea
  refine ⟨_, _, rfl, hlo, hhi, fun j y hy => ?_⟩
  by_cases e : i = j
  · subst e
    rw [List.getElem?_set_self hi'] at hy
    cases hy
    exact World.cell?_setCell_same' _ _ _ (by rw [hc i l[i] (by simp [hi'])]; rfl)
  · rw [List.getElem?_set_ne e] at hy
    rw [World.cell?_setCell_other _ _ _ _ (by intro h; injection h; omega)]
    exact hc j y hy
theorem Thawed.set {w : World} {v : Value} (h : Thawed w v) (p : Addr) (u : Value) : Thawed (w.setCell p u) v := fun b off n c e i hi => by rw [World.frozen?_setCell]; exact h b off n c e i hi
/-- How an element of a slice lies in its cells. -/
structure Rd (α : Type) where
  n : Nat
  R : World → Nat → Nat → α → (Nat → Option Value) → Prop
  keep : ∀ {w w' : World} {lo hi : Nat} {x : α} {f : Nat → Option Value}, Kp lo hi w w' → R w lo hi x f → R w' lo hi x f
  more : ∀ {w : World} {lo hi lo' hi' : Nat} {x : α} {f : Nat → Option Value}, lo' ≤ lo → hi ≤ hi' → R w lo hi x f → R w lo' hi' x f
  ext : ∀ {w : World} {lo hi : Nat} {x : α} {f g : Nat → Option Value}, (∀ j, j < n → f j = g j) → R w lo hi x f → R w lo hi x g

/-- The slice value v holds l. -/
def Sl {α : Type} (r : Rd α) (w : World) (lo hi : Nat) (v : Value) (l : List α) : Prop :=
  ∃ a c, v = .slice a l.length c ∧ l.length ≤ c ∧ c ≤ maxLen ∧
    (0 < l.length → ∃ b off, a = some ⟨b, off, none⟩ ∧ lo ≤ b ∧ b < hi ∧ ∀ i x, l[i]? = some x → r.R w lo hi x (fun j => w.cell? ⟨b, off + i * r.n + j, none⟩)) ∧ (a = none → c = 0)

section
variable {α : Type} {r : Rd α} {w w' : World} {lo hi lo' hi' : Nat} {v : Value} {l : List α}
theorem Sl.keep (h : Sl r w lo hi v l) (hk : Kp lo hi w w') : Sl r w' lo hi v l := by
  obtain ⟨a, c, e, h1, h2, h3, h4⟩ := h
  refine ⟨a, c, e, h1, h2, fun hp => ?_, h4⟩
  obtain ⟨b, off, ea, hlo, hhi, hc⟩ := h3 hp
  exact ⟨b, off, ea, hlo, hhi, fun i x hx => r.ext (fun j _ => (hk b _ hlo hhi).1.symm) (r.keep hk (hc i x hx))⟩
theorem Sl.more (h : Sl r w lo hi v l) (h1 : lo' ≤ lo) (h2 : hi ≤ hi') : Sl r w lo' hi' v l := by
  obtain ⟨a, c, e, g1, g2, h3, h4⟩ := h
  refine ⟨a, c, e, g1, g2, fun hp => ?_, h4⟩
  obtain ⟨b, off, ea, hlo, hhi, hc⟩ := h3 hp
  exact ⟨b, off, ea, by omega, by omega, fun i x hx => r.more h1 h2 (hc i x hx)⟩
theorem Sl.below {B : Nat} (h : Sl r w lo hi v l) (hb : Below B w w') (hB : hi ≤ B) : Sl r w' lo hi v l := h.keep (Kp.of_below hb hB)
theorem Sl.step (h : Sl r w lo w.heap.size v l) (hb : Below w.heap.size w w') : Sl r w' lo w'.heap.size v l := (h.below hb (Nat.le_refl _)).more (Nat.le_refl _) hb.size
theorem Sl.all0 (h : Sl r w lo hi v l) : Sl r w 0 hi v l := h.more (Nat.zero_le _) (Nat.le_refl _)
theorem Sl.nil_ (w : World) (lo hi : Nat) : Sl r w lo hi (.slice none 0 0) [] := ⟨none, 0, rfl, Nat.le_refl _, Nat.zero_le _, fun h => absurd h (by simp), fun _ => rfl⟩
theorem Sl.len_le (h : Sl r w lo hi v l) : l.length ≤ maxLen := by obtain ⟨a, c, e, g1, g2, h3⟩ := h; omega
theorem Sl.at_ (h : Sl r w lo hi v l) (hp : 0 < l.length) :
    ∃ b off c, v = .slice (some ⟨b, off, none⟩) l.length c ∧ lo ≤ b ∧ b < hi ∧ l.length ≤ c ∧ c ≤ maxLen ∧ ∀ i x, l[i]? = some x → r.R w lo hi x (fun j => w.cell? ⟨b, off + i * r.n + j, none⟩) := by
  obtain ⟨a, c, rfl, h1, h2, h3, _⟩ := h
  obtain ⟨b, off, rfl, hlo, hhi, hc⟩ := h3 hp
  exact ⟨b, off, c, rfl, hlo, hhi, h1, h2, hc⟩
/-- A slice of some of its elements. -/
theorem Sl.cut {b off n c : Nat} (h : Sl r w lo hi (.slice (some ⟨b, off, none⟩) n c) l) (i k c' : Nat) (hik : i + k ≤ l.length) (hk : k ≤ c') (hc : c' ≤ maxLen) :
    Sl r w lo hi (.slice (some ⟨b, off + i * r.n, none⟩) k c') ((l.drop i).take k) := by
  obtain ⟨a, c, e, h1, h2, h3, h4⟩ := h
  have hl : ((l.drop i).take k).length = k := by simp; omega
  refine ⟨_, _, by rw [hl], by omega, hc, fun hp => ?_, fun h => by cases h⟩
  obtain ⟨b', off', ea, hlo, hhi, hc⟩ := h3 (by omega)
  cases e
  cases ea
  refine ⟨b, off + i * r.n, rfl, hlo, hhi, fun j x hx => ?_⟩
  rw [List.getElem?_take] at hx
  split at hx
  · rw [List.getElem?_drop] at hx
    have := hc _ _ hx
    rw [Nat.add_mul, ← Nat.add_assoc] at this
    exact this
  · cases hx
end

def rInt (k : IntKind) : Rd Int where
  n := 1
  R _ _ _ x f := f 0 = some (.int k x) ∧ (Lit.int k x).wf = true
  keep _ h := h
  more _ _ h := h
  ext he h := ⟨(he 0 (by decide)) ▸ h.1, h.2⟩
theorem Bytes.kept {w w' : World} {lo hi : Nat} {v : Value} {l : List UInt8} (h : Bytes w lo hi v l) (hk : Kp lo hi w w') : Bytes w' lo hi v l := h.keep fun b o h1 h2 => (hk b o h1 h2).1
def rBytes : Rd (List UInt8) where
  n := 1
  R w lo hi x f := ∃ v, f 0 = some v ∧ Bytes w lo hi v x
  keep hk h := by obtain ⟨v, h1, h2⟩ := h; exact ⟨v, h1, h2.kept hk⟩
  more h1 h2 h := by obtain ⟨v, g1, g2⟩ := h; exact ⟨v, g1, g2.more h1 h2⟩
  ext he h := by obtain ⟨v, g1, g2⟩ := h; exact ⟨v, (he 0 (by decide)) ▸ g1, g2⟩
/-- A place, and bytes. -/
structure WrL where
  at_ : Int
  data : List UInt8
  deriving DecidableEq
def rWrite : Rd WrL where
  n := 2
  R w lo hi x f := f 0 = some (.int .i64 x.at_) ∧ (Lit.int .i64 x.at_).wf = true ∧ ∃ v, f 1 = some v ∧ Bytes w lo hi v x.data
  keep hk h := by obtain ⟨g0, g1, v, h1, h2⟩ := h; exact ⟨g0, g1, v, h1, h2.kept hk⟩
  more h1 h2 h := by obtain ⟨g0, g1, v, k1, k2⟩ := h; exact ⟨g0, g1, v, k1, k2.more h1 h2⟩
  ext he h := by obtain ⟨g0, g1, v, k1, k2⟩ := h; exact ⟨(he 0 (by decide)) ▸ g0, g1, v, (he 1 (by decide)) ▸ k1, k2⟩
structure KeyL where
  kind : UInt8
  id : UInt32
  off : UInt32
  deriving DecidableEq
structure ItemL where
  key : KeyL
  ref : Int
  val : List UInt8
  deriving DecidableEq
def wV (x : UInt32) : Value := .int .u32 (x.toNat : Int)
def rItem : Rd ItemL where
  n := 5
  R w lo hi x f := f 0 = some (bV x.key.kind) ∧ f 1 = some (wV x.key.id) ∧ f 2 = some (wV x.key.off) ∧ f 3 = some (.int .i64 x.ref) ∧ (Lit.int .i64 x.ref).wf = true ∧ ∃ v, f 4 = some v ∧ Bytes w lo hi v x.val
  keep hk h := by obtain ⟨g0, g1, g2, g3, g4, v, h1, h2⟩ := h; exact ⟨g0, g1, g2, g3, g4, v, h1, h2.kept hk⟩
  more h1 h2 h := by obtain ⟨g0, g1, g2, g3, g4, v, k1, k2⟩ := h; exact ⟨g0, g1, g2, g3, g4, v, k1, k2.more h1 h2⟩
  ext he h := by
    obtain ⟨g0, g1, g2, g3, g4, v, k1, k2⟩ := h
    exact ⟨(he 0 (by decide)) ▸ g0, (he 1 (by decide)) ▸ g1, (he 2 (by decide)) ▸ g2, (he 3 (by decide)) ▸ g3, g4, v, (he 4 (by decide)) ▸ k1, k2⟩
structure DiskL where
  blocks : List (List UInt8)
  waits : List WrL
  deriving DecidableEq
/-- The two slices of a disk. -/
def DiskV (w : World) (lo hi : Nat) (b u : Value) (d : DiskL) : Prop := Sl rBytes w lo hi b d.blocks ∧ Sl rWrite w lo hi u d.waits
structure NodeL where
  level : Int
  items : List ItemL
  deriving DecidableEq
structure StoreL where
  disk : DiskL
  now : List UInt8
  last : List UInt8
  deriving DecidableEq

section
variable {H : Type} {enc : TypeId × Value → H} {P : Program} {w : World} {base : Nat} {spare : Nat → Bool} {held : Bool} {fuel : Nat} {t : TypeId} {cs : List Value} {x : DataW H × List MemPlace}
theorem trod_fields {fs : Array Field} (ht : P.underlying t = some (.struct fs)) (h : DataW.trod enc P w base spare held fuel t cs = some x) :
    cs.length = P.cellsOf t ∧ ∃ n, ∀ f ∈ fs.toList, ∃ y, DataW.trod enc P w base spare held n f.type ((cs.drop f.offset).take (P.cellsOf f.type)) = some y := by
  cases fuel with
  | zero => simp [DataW.trod] at h
  | succ n =>
    unfold DataW.trod at h
    rw [ht] at h
    simp only at h
    split at h
    · rename_i hl
      refine ⟨hl, n, fun f hf => ?_⟩
      obtain ⟨z, hz, _⟩ := Option.map_eq_some_iff.1 h
      obtain ⟨i, hi⟩ := List.mem_iff_getElem?.1 hf
      obtain ⟨y, hy⟩ : ∃ y, z[i]? = some y := by
        have := mapM_some_length hz
        exact ⟨z[i]'(by rw [this]; exact (List.getElem?_eq_some_iff.1 hi).1), by simp⟩
      exact ⟨y, (mapM_some_get hz i f hi).trans hy⟩
    · cases h
theorem cells_at {a : Addr} {n : Nat} {cs' : List Value} (h : w.cells? base a n = some cs') : cs'.length = n ∧ ∀ j, j < n → cs'[j]? = w.cell? (a.add j) := by
  obtain ⟨_, h2, h3⟩ := World.cells?_some h
  exact ⟨h2, fun j hj => (h3 j hj).symm⟩
/-- How cells that are read as a type are an element of a slice. -/
def Opens {α : Type} (P : Program) (e : TypeId) (r : Rd α) : Prop :=
  ∀ {H : Type} {enc : TypeId × Value → H} {w : World} {base : Nat} {spare : Nat → Bool} {held : Bool} {fuel : Nat} {cs : List Value} {x : DataW H × List MemPlace},
    DataW.trod enc P w base spare held fuel e cs = some x → cs.length = r.n → ∃ y : α, r.R w 0 w.heap.size y (fun j => cs[j]?)
theorem list_of {α : Type} {n : Nat} {p : Nat → α → Prop} (h : ∀ i, i < n → ∃ x, p i x) : ∃ l : List α, l.length = n ∧ ∀ i x, l[i]? = some x → p i x := by
  induction n with
  | zero => exact ⟨[], rfl, fun i x h => by simp at h⟩
  | succ n ih =>
    obtain ⟨l, hl, ha⟩ := ih (fun i hi => h i (Nat.lt_succ_of_lt hi))
    obtain ⟨x, hx⟩ := h n (Nat.lt_succ_self n)
    refine ⟨l ++ [x], by simp [hl], fun i y hy => ?_⟩
    rcases Nat.lt_trichotomy i n with h1 | h1 | h1
    · rw [List.getElem?_append_left (by omega)] at hy; exact ha i y hy
    · subst h1
      rw [List.getElem?_append_right (by omega), hl, Nat.sub_self] at hy
      cases hy; exact hx
    · rw [List.getElem?_eq_none (by simp; omega)] at hy; cases hy
theorem open_sl {α : Type} {r : Rd α} {e : TypeId} (ht : P.underlying t = some (.slice e)) (hr : P.cellsOf e = r.n) (hn : 0 < r.n) (hop : Opens P e r) (h : DataW.trod enc P w base spare held fuel t cs = some x) :
    ∃ v l, cs = [v] ∧ Sl r w 0 w.heap.size v l := by
  rcases open_slice ht h with ⟨rfl, _⟩ | ⟨a, len, cap, m, n, D, Pl, rfl, _, hl, hm, hmm, _, hel⟩
  · exact ⟨_, [], rfl, Sl.nil_ _ _ _⟩
  have hml : len ≤ m := by rw [hmm]; split <;> omega
  have hex : ∀ i, i < len → ∃ y : α, r.R w 0 w.heap.size y (fun j => w.cell? (a.add (i * r.n + j))) := by
    intro i hi
    obtain ⟨cs', h1, h2⟩ := hel i (by omega)
    rw [hr] at h1
    obtain ⟨h3, h4⟩ := cells_at h1
    obtain ⟨y, hy⟩ := hop h2 h3
    exact ⟨y, r.ext (fun j hj => by rw [h4 j hj, add_add]) hy⟩
  have hsb : 0 < len → a.spot = none ∧ a.block < w.heap.size := by
    intro hi
    obtain ⟨cs', h1, h2⟩ := hel 0 (by omega)
    rw [hr] at h1
    obtain ⟨h3, h4⟩ := cells_at h1
    have h0 : w.cell? a = some (cs'[0]'(by omega)) := by
      have := h4 0 hn
      simp only [Nat.zero_mul, Addr.add, if_true] at this
      rw [← this]; simp
    exact ⟨World.cell?_spot h0, cell_lt' h0⟩
  obtain ⟨l, hlen, hall⟩ := list_of hex
  refine ⟨_, l, rfl, some a, cap, by rw [hlen], by omega, hm, fun hp => ?_, fun h => by cases h⟩
  obtain ⟨hs, hb⟩ := hsb (by omega)
  obtain ⟨b, off, spot⟩ := a
  dsimp only at hs hb
  subst hs
  refine ⟨b, off, rfl, Nat.zero_le _, hb, fun i y hy => r.ext (fun j _ => ?_) (hall i y hy)⟩
  have e2 : (⟨b, off, none⟩ : Addr).add (i * r.n + j) = ⟨b, off + i * r.n + j, none⟩ := by unfold Addr.add; split <;> simp_all <;> omega
  rw [e2]
end
end Go.Proofs.Ytkfgegdnpinbdaa

namespace Go.Proofs.Ytkfgegdnpinbdaa
open Go.RowKit

/-- The worlds that lie behind w: below w's size nothing has turned. Told by a world of any make. -/
noncomputable def aft (w W : World) : World := by
  classical exact if Below w.heap.size w W then W else w
theorem aft_below (w W : World) : Below w.heap.size w (aft w W) := by
  unfold aft
  split
  · assumption
  · exact Below.refl _ _
theorem aft_of {w W : World} (h : Below w.heap.size w W) : aft w W = W := by
  unfold aft
  rw [if_pos h]
def Cls (w : World) (w' : World) : Prop := ∃ W, w' = aft w W
attribute [go_sem] Cls
theorem Cls.of {w w' : World} (h : Below w.heap.size w w') : Cls w w' := ⟨w', (aft_of h).symm⟩
theorem Cls.below {w w' : World} (h : Cls w w') : Below w.heap.size w w' := by obtain ⟨W, rfl⟩ := h; exact aft_below w W
theorem Cls.refl (w : World) : Cls w w := Cls.of (Below.refl _ _)
theorem Cls.drew (w : World) : Cls w w.drew := Cls.of (Below.refl _ _).drew

/-- Operations that yield a value and enter nothing. -/
def calmOp (o : Oper) : Bool :=
  match o.op with
  | .move _ | .assign _ | .pick .. | .load .. | .binOp .. | .unOp .. | .convert .. | .slice .. | .fieldAddr .. | .field .. | .indexAddr .. | .index .. | .extract .. => true
  | .call { callee := .builtin .len, .. } => true
  | _ => false

section
variable {P : Program} {ops : Array Oper} {Q : Exit → Act → World → Prop} {md : Region.Mode} {S S' : World → Prop} {C : World → Prop}

theorem val_of {s : Sem Value} {w : World} {v : Value} (h : Oper.quietUpon P C w v ((do pure (Next.value (← s)) : Sem Next).run P w)) : ((do pure (Next.value (← s)) : Sem Next).run P w) = .ok (.value v) w := by
  simp only [Sem.run_bind] at h ⊢
  cases hs : s.run P w with
  | ok x w' =>
    rw [hs] at h
    simp only [Result.andThen, Sem.run_pure, Oper.quietUpon] at h ⊢
    obtain ⟨rfl, rfl⟩ := h
    rfl
  | halt x w' =>
    rw [hs] at h
    simp only [Result.andThen, Oper.quietUpon] at h

theorem calm_val {o : Oper} {a : Act} {w : World} {v : Value} (hc : calmOp o = true) (h : o.quietAt P a C w v) : (execOp a.eval o).run P w = .ok (.value v) w := by
  unfold Oper.quietAt at h
  obtain ⟨dst, op, ty, pos, aft, gd⟩ := o
  unfold calmOp at hc
  cases op with
  | move x =>
    simp only [execOp, Sem.run_pure, Oper.quietUpon] at h ⊢
    obtain ⟨_, rfl⟩ := h; rfl
  | assign x =>
    simp only [execOp, Sem.run_pure, Oper.quietUpon] at h ⊢
    obtain ⟨_, rfl⟩ := h; rfl
  | pick c x y =>
    have e : execOp a.eval { dst := dst, op := .pick c x y, type := ty, pos := pos, after := aft, guard := gd } = (do pure (Next.value (← (do pure (if ← asBool (a.eval c) then a.eval x else a.eval y) : Sem Value))) : Sem Next) := by
      simp [execOp]
    rw [e] at h ⊢
    exact val_of h
  | call c =>
    obtain ⟨callee, args, tys⟩ := c
    cases callee with
    | builtin b =>
      cases b with
      | len =>
        have e : execOp a.eval { dst := dst, op := .call { callee := .builtin .len, args := args, argTypes := tys }, type := ty, pos := pos, after := aft, guard := gd } = (do pure (Next.value (← Builtin.len_ tys ty (args.map a.eval))) : Sem Next) := by
          simp [execOp, resolve, invoke, builtin]
        rw [e] at h ⊢
        exact val_of h
      | _ => simp at hc
    | _ => simp at hc
  | load t x => exact val_of h
  | binOp op xt x y yt => exact val_of h
  | unOp op t x => exact val_of h
  | convert s d x => exact val_of h
  | slice t x lo hi mx => exact val_of h
  | fieldAddr s x f => exact val_of h
  | field xt x f => exact val_of h
  | indexAddr t x ix => exact val_of h
  | index xt x ix => exact val_of h
  | extract t ix => exact val_of h
  | _ => simp at hc

/-- A list of operations that may be taken one behind the other, first. -/
def segOk (md : Region.Mode) (ops : Array Oper) : List Nat → Array Bool → Bool
  | [], _ => true
  | i :: q, listed => (Region.ready md ops listed).contains i && Region.free md ops listed i && ((ops[i]?).map calmOp).getD false && segOk md ops q (listed.setIfInBounds i true)
def listAll : List Nat → Array Bool → Array Bool
  | [], l => l
  | i :: q, l => listAll q (l.setIfInBounds i true)
def consOp : Option Oper → List Oper → List Oper
  | some o, l => o :: l
  | none, l => l
theorem consOp_some (o : Oper) (l : List Oper) : consOp (some o) l = o :: l := rfl
def opsOf (ops : Array Oper) : List Nat → List Oper
  | [] => []
  | i :: q => consOp ops[i]? (opsOf ops q)
theorem opsOf_nil (ops : Array Oper) : opsOf ops [] = [] := rfl
theorem opsOf_cons (ops : Array Oper) (i : Nat) (q : List Nat) : opsOf ops (i :: q) = consOp ops[i]? (opsOf ops q) := rfl

theorem wpAnyH_seg (hs : Region.noSelect ops = true) (hQ : ∀ c (d : Option Tmp) (v : Value) (a : Act) w, Q (.panic c) (a.put d v) w → Q (.panic c) a w) {fuel : Nat} {w : World} (hS : S w) :
    ∀ (q : List Nat) (n : Nat) (listed : Array Bool) (a : Act), segOk md ops q listed = true → n = q.length + fuel →
      wpQuiet P ops S (fun a' => wpAnyH P md ops Q S fuel (listAll q listed) a' w) (opsOf ops q) a → wpAnyH P md ops Q S n listed a w
  | [], n, listed, a, _, hn, h => by
    subst hn
    simpa [opsOf, wpQuiet, listAll] using h
  | i :: q, n, listed, a, hok, hn, h => by
    simp only [segOk, Bool.and_eq_true] at hok
    obtain ⟨⟨⟨hr, hf⟩, hc⟩, hok'⟩ := hok
    cases hoi : ops[i]? with
    | none => simp [hoi] at hc
    | some o =>
      simp only [hoi, Option.map_some, Option.getD_some] at hc
      have hl' : opsOf ops (i :: q) = o :: opsOf ops q := by rw [opsOf_cons, hoi, consOp_some]
      rw [hl'] at h
      obtain rfl : n = (q.length + fuel) + 1 := by simp at hn; omega
      simp only [wpQuiet] at h
      split at h
      · rename_i hw
        obtain ⟨v, hv, hK⟩ := h
        exact wpAnyH_take hoi hs hf hr (fun c a w => hQ c _ _ a w) (.inl ⟨hw, fun w' hw' => calm_val hc (hv w' hw')⟩) hS (wpAnyH_seg hs hQ hS q _ _ _ hok' rfl hK)
      · rename_i hw
        exact wpAnyH_take hoi hs hf hr (fun c a w => hQ c _ _ a w) (.inr ⟨by simpa using hw, rfl⟩) hS (wpAnyH_seg hs hQ hS q _ _ _ hok' rfl h)

/-- A narrower class serves. -/
theorem wpAnyH_strong (hsub : ∀ W, S' W → S W) : ∀ (fuel : Nat) (listed : Array Bool) (a : Act) (w : World), wpAnyH P md ops Q S' fuel listed a w → wpAnyH P md ops Q S fuel listed a w
  | 0, _, _, _, h => h
  | fuel + 1, _, _, _, h => ⟨h.1, fun i hi => wpOp_mono (fun a' w' h' => ⟨hsub _ h'.1, wpAnyH_strong hsub fuel _ a' w' h'.2⟩) (h.2 i hi)⟩

/-- What is still to come behind an operation that was carried out: in a narrower class. -/
def After (P : Program) (md : Region.Mode) (ops : Array Oper) (Q : Exit → Act → World → Prop) (S : World → Prop) (fuel : Nat) (listed : Array Bool) (K : Act → World → Prop) : Prop :=
  ∀ (S' : World → Prop) a w, (∀ W, S' W → S W) → S' w → wpAnyH P md ops Q S' fuel listed a w → K a w
theorem After.out {fuel : Nat} {listed : Array Bool} {K : Act → World → Prop} (h : After P md ops Q S fuel listed K) (S' : World → Prop) {a : Act} {w : World} (hsub : ∀ W, S' W → S W) (hS : S' w) (hW : wpAnyH P md ops Q S' fuel listed a w) : K a w := h S' a w hsub hS hW

/-- Each of those that may come up now. -/
def Each (P : Program) (md : Region.Mode) (ops : Array Oper) (Q : Exit → Act → World → Prop) (S : World → Prop) (fuel : Nat) (listed : Array Bool) (a : Act) (w : World) (rs : List Nat) : Prop :=
  ∀ i ∈ rs, wpOp P ops Q i (fun a' w' => S w' ∧ wpAnyH P md ops Q S fuel (listed.setIfInBounds i true) a' w') a w
theorem Each.nil {fuel : Nat} {listed : Array Bool} {a : Act} {w : World} : Each P md ops Q S fuel listed a w [] := fun _ h => by cases h
theorem Each.cons {fuel : Nat} {listed : Array Bool} {a : Act} {w : World} {i : Nat} {rs : List Nat} (o : Oper) (ho : ops[i]? = some o)
    (h : ∀ K' : Act → World → Prop, After P md ops Q S fuel (listed.setIfInBounds i true) K' → if Region.wanted o (yielded ops a.tmps) = true then Oper.wp P o a w K' Q else K' (a.put o.dst undef) w)
    (hs : Each P md ops Q S fuel listed a w rs) : Each P md ops Q S fuel listed a w (i :: rs) := fun j hj => by
  rcases List.mem_cons.1 hj with rfl | hj
  · exact wpOp_step ho (fun K' hK => h K' (fun S' a w hsub hS hW => hK a w ⟨hsub _ hS, wpAnyH_strong hsub _ _ _ _ hW⟩))
  · exact hs j hj
theorem wpAnyH_each {n fuel : Nat} {listed : Array Bool} {a : Act} {w : World} (rs : List Nat) (hr : Region.ready md ops listed = rs) (hne : rs ≠ []) (hn : n = fuel + 1)
    (h : Each P md ops Q S fuel listed a w rs) : wpAnyH P md ops Q S n listed a w := by
  subst hn
  exact wpAnyH_all hr hne h
end
end Go.Proofs.Ytkfgegdnpinbdaa

