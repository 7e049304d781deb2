/- CountTables: the words and contracts, part 1. -/
import Derived.Test.YthealkfpflkipaaProg
import Derived.WalkKit
import Derived.WalkLawsBesides
import Derived.WalkSpells
import Derived.Lib.Hide
import Derived.Laws.Rows
import Derived.Laws.AppendOwnNone
import Derived.Maps.AppendAt
import Derived.ProofKit
import Derived.Deep.Slices
import Derived.WideShapes
import Derived.RangeFuncNested
import Derived.RangeFuncBound
import Derived.RangeFuncCalls
import Derived.RangeFuncLeaves
import Derived.RangeFuncBox
import Derived.Shelf.Abstract
import Derived.Shelf.RegionOpen
import Derived.OwnWalkIn
import Derived.TacticsInMore
import Derived.LoopNIn
import Derived.LoopIn
import Derived.Lib.AppendZerosOnto
import Derived.Lib.SliceRun
import Derived.Lib.Walk
import Derived.Deep.LoopGhost
import Derived.Laws.CopyOwn
namespace Go.Proofs.Ythealkfpflkipaa
open Go.RowKit

def bV (x : UInt8) : Value := .int .u8 (x.toNat : Int)

/-- The slice value v holds the bytes l in w; where there is one, its block lies from lo on, below hi. -/
def Bytes (w : World) (lo hi : Nat) (v : Value) (l : List UInt8) : Prop :=
  ∃ a c, v = .slice a l.length c ∧ l.length ≤ c ∧ c ≤ maxLen ∧
    (0 < l.length → ∃ b off, a = some ⟨b, off, none⟩ ∧ lo ≤ b ∧ b < hi ∧ ∀ i x, l[i]? = some x → w.cell? ⟨b, off + i, none⟩ = some (bV x)) ∧ (a = none → c = 0)

section
variable {w w' : World} {lo hi lo' hi' : Nat} {v : Value} {l : List UInt8}

theorem Bytes.keep (h : Bytes w lo hi v l) (hk : ∀ b o, lo ≤ b → b < hi → w'.cell? ⟨b, o, none⟩ = w.cell? ⟨b, o, none⟩) : Bytes w' lo hi v l := by
  obtain ⟨a, c, e, h1, h2, h3, h4⟩ := h
  refine ⟨a, c, e, h1, h2, fun hp => ?_, h4⟩
  obtain ⟨b, off, ea, hlo, hhi, hc⟩ := h3 hp
  exact ⟨b, off, ea, hlo, hhi, fun i x hx => (hk b _ hlo hhi).trans (hc i x hx)⟩
theorem Bytes.more (h : Bytes w lo hi v l) (h1 : lo' ≤ lo) (h2 : hi ≤ hi') : Bytes w lo' hi' v l := by
  obtain ⟨a, c, e, g1, g2, h3, h4⟩ := h
  refine ⟨a, c, e, g1, g2, fun hp => ?_, h4⟩
  obtain ⟨b, off, ea, hlo, hhi, hc⟩ := h3 hp
  exact ⟨b, off, ea, by omega, by omega, hc⟩
theorem Bytes.below {B : Nat} (h : Bytes w lo hi v l) (hb : Below B w w') (hB : hi ≤ B) : Bytes w' lo hi v l :=
  h.keep fun b o _ hh => hb.cell (p := ⟨b, o, none⟩) (by show b < B; omega)
theorem Bytes.nil_ (w : World) (lo hi : Nat) : Bytes w lo hi (.slice none 0 0) [] := ⟨none, 0, rfl, Nat.le_refl _, Nat.zero_le _, fun h => absurd h (by simp), fun _ => rfl⟩
theorem Bytes.len_le (h : Bytes w lo hi v l) : l.length ≤ maxLen := by obtain ⟨a, c, e, g1, g2, h3⟩ := h; omega
/-- A slice that was made whole: a new block. -/
theorem Bytes.new (w : World) (t : TypeId) (l : List UInt8) (h : l.length ≤ maxLen) (mk : Nat × Nat) :
    Bytes (w.alloc (.cells (l.map bV).toArray t mk)) w.heap.size (w.heap.size + 1) (.slice (some ⟨w.heap.size, 0, none⟩) l.length l.length) l := by
  refine ⟨_, _, rfl, Nat.le_refl _, h, fun _ => ⟨_, _, rfl, Nat.le_refl _, Nat.lt_succ_self _, fun i x hx => ?_⟩, fun h => by cases h⟩
  rw [Nat.zero_add, World.cell?_alloc_mark]
  simp [hx]
/-- A slice of some of its elements. -/
theorem Bytes.cut {b off n c : Nat} (h : Bytes w lo hi (.slice (some ⟨b, off, none⟩) n c) l) (i k c' : Nat) (hik : i + k ≤ l.length) (hk : k ≤ c') (hc : c' ≤ maxLen) :
    Bytes w lo hi (.slice (some ⟨b, off + i, none⟩) k c') ((l.drop i).take k) := by
  obtain ⟨a, c, e, h1, h2, h3, h4⟩ := h
  have hl : ((l.drop i).take k).length = k := by simp; omega
  refine ⟨_, _, by rw [hl], by omega, hc, fun hp => ?_, fun h => by cases h⟩
  obtain ⟨b', off', ea, hlo, hhi, hc⟩ := h3 (by omega)
  cases e
  cases ea
  refine ⟨b, off + i, rfl, hlo, hhi, fun j x hx => ?_⟩
  rw [List.getElem?_take] at hx
  split at hx
  · rw [List.getElem?_drop] at hx
    rw [Nat.add_assoc]
    exact hc _ _ hx
  · cases hx
end

theorem Bytes.at_ {w : World} {lo hi : Nat} {v : Value} {l : List UInt8} (h : Bytes w lo hi v l) (hp : 0 < l.length) :
    ∃ b off c, v = .slice (some ⟨b, off, none⟩) l.length c ∧ lo ≤ b ∧ b < hi ∧ l.length ≤ c ∧ c ≤ maxLen ∧ ∀ i x, l[i]? = some x → w.cell? ⟨b, off + i, none⟩ = some (bV x) := by
  obtain ⟨a, c, rfl, h1, h2, h3, _⟩ := h
  obtain ⟨b, off, rfl, hlo, hhi, hc⟩ := h3 hp
  exact ⟨b, off, c, rfl, hlo, hhi, h1, h2, hc⟩

/-- A step of the walk: what read as bytes reads on. -/
theorem Bytes.step {w w' : World} {lo : Nat} {v : Value} {l : List UInt8} (h : Bytes w lo w.heap.size v l) (hb : Below w.heap.size w w') : Bytes w' lo w'.heap.size v l :=
  (h.below hb (Nat.le_refl _)).more (Nat.le_refl _) hb.size
theorem Bytes.all0 {w : World} {hi lo : Nat} {v : Value} {l : List UInt8} (h : Bytes w lo hi v l) : Bytes w 0 hi v l := h.more (Nat.zero_le _) (Nat.le_refl _)
theorem below_step {B : Nat} {w w1 w2 : World} (h : Below B w w1) (hB : B ≤ w1.heap.size) (k : Below w1.heap.size w1 w2) : Below B w w2 := h.trans (k.mono hB)

theorem cell_lt' {w : World} {a : Addr} {v : Value} (h : w.cell? a = some v) : a.block < w.heap.size := by
  rcases Nat.lt_or_ge a.block w.heap.size with h1 | h1
  · exact h1
  · exfalso
    unfold World.cell? at h
    simp [Array.getElem?_eq_none h1] at h

/-- No element of the slice value v is frozen. -/
def Thawed (w : World) (v : Value) : Prop := ∀ b off n c, v = .slice (some ⟨b, off, none⟩) n c → ∀ i, i < n → w.frozen? ⟨b, off + i, none⟩ = false

/-- What a call made: a slice of bytes in new memory that may be written; nothing that was there has turned. -/
structure MadeB (w w' : World) (v : Value) (l : List UInt8) : Prop where
  bytes : Bytes w' w.heap.size w'.heap.size v l
  thawed : Thawed w' v
  below : Below w.heap.size w w'

theorem Thawed.nil_ (w : World) : Thawed w (.slice none 0 0) := fun b off n c h => by cases h
theorem MadeB.nil_ {w w' : World} (h : Below w.heap.size w w') : MadeB w w' (.slice none 0 0) [] := ⟨Bytes.nil_ _ _ _, Thawed.nil_ _, h⟩
theorem MadeB.new {w w0 : World} (h : Below w.heap.size w w0) (t : TypeId) (l : List UInt8) (hl : l.length ≤ maxLen) (cs : Array Value) (hcs : cs = (l.map bV).toArray) (n : Nat) (hn : n = l.length) :
    MadeB w (w0.alloc (.cells cs t)) (.slice (some ⟨w0.heap.size, 0, none⟩) n n) l := by
  subst hcs hn
  refine ⟨(Bytes.new w0 t l hl _).more h.size (by simp), fun b off n c e i hi => ?_, h.alloc h.size _⟩
  cases e
  apply World.frozen?_alloc_at
  rfl

theorem MadeB.of_own {w w' : World} {e : TypeId} {v : Value} {n : Nat} {xs : List Value} {l : List UInt8} (hb : Below w.heap.size w w') (h : w'.ownsRow w.heap.size e 1 v n xs) (hx : xs = l.map bV) : MadeB w w' v l := by
  obtain ⟨hl, h⟩ := h
  subst hx
  have hn : l.length = n := by simpa using hl
  rcases h with ⟨rfl, h0⟩ | ⟨g, cap, cur, rfl, hg, hh, h1, h2, h3, h4⟩
  · have : l = [] := List.eq_nil_of_length_eq_zero (by omega)
    subst this
    exact MadeB.nil_ hb
  · have hgl : g < w'.heap.size := (Array.getElem?_eq_some_iff.1 hh).1
    refine ⟨⟨_, cap, by rw [hn], by omega, h2, fun _ => ⟨g, 0, rfl, hg, hgl, fun i x hx => ?_⟩, fun h => by cases h⟩, fun b off m c e i hi => ?_, hb⟩
    · rw [cell_of_row w' g (0 + i) cur _ (0, 0) hh]
      have hi : i < l.length := (List.getElem?_eq_some_iff.1 hx).1
      have h5 : (cur.toList.take (n * 1))[i]? = some (bV x) := by rw [h4]; simp [hx]
      rw [List.getElem?_take] at h5
      split at h5
      · simpa using h5
      · cases h5
    · cases e
      simp [World.frozen?, hh]

/-- string(b). -/
theorem conv_bytes {P : Program} {w : World} {lo hi : Nat} {v : Value} {l : List UInt8} (h : Bytes w lo hi v l) (src dst e : TypeId) (hs : P.underlying src = some (.slice e)) (he : P.underlying e = some (.int .u8)) (hd : P.underlying dst = some .string) :
    (convert src dst v).run P w = .ok (.string ⟨l.toArray⟩) w := by
  obtain ⟨a, c, rfl, h1, h2, h3, h4⟩ := h
  rcases Nat.eq_zero_or_pos l.length with h0 | h0
  · have : l = [] := List.eq_nil_of_length_eq_zero h0
    subst this
    rcases a with _ | ad
    · exact run_convert_bytes_nil w src e hs he _ _ dst hd
    · rw [run_convert_bytes_string w src dst e _ _ _ hs he hd, run_bytesToString w ad _ c [] (by have := run_loadCells_list (P := P) w ad ([] : List Value) (by simp); simpa using this)]
      rfl
  · obtain ⟨b, off, rfl, _, _, hc⟩ := h3 h0
    rw [run_convert_bytes_arg w src e hs he b off l.length c (l.map fun x => (x.toNat : Int)) (by simp) (fun i hi => by rw [hc i l[i] (by simp [hi])]; simp [bV, hi]) dst hd]
    have e : (l.map fun x => (x.toNat : Int)).map (fun n => UInt8.ofNat n.toNat) = l := by
      rw [List.map_map]
      exact (List.map_congr_left (fun x _ => by simp)).trans (List.map_id l)
    rw [strOfNums, e]

/-- A row of bytes of the call's own. -/
def OwnB (base : Nat) (e : TypeId) (w : World) (v : Value) (l : List UInt8) : Prop := w.ownsRow base e 1 v l.length (l.map bV)
theorem OwnB.nil_ (base : Nat) (e : TypeId) (w : World) : OwnB base e w (.slice none 0 0) [] := World.ownsRow_nil _ _ _ _
theorem OwnB.made {w w' : World} {e : TypeId} {v : Value} {l : List UInt8} (h : OwnB w.heap.size e w' v l) (hb : Below w.heap.size w w') : MadeB w w' v l := MadeB.of_own hb h rfl
theorem OwnB.bytes {base : Nat} {e : TypeId} {w : World} {v : Value} {l : List UInt8} (h : OwnB base e w v l) : Bytes w base w.heap.size v l := by
  obtain ⟨hl, h⟩ := h
  rcases h with ⟨rfl, h0⟩ | ⟨g, cap, cur, rfl, hg, hh, h1, h2, h3, h4⟩
  · have : l = [] := List.eq_nil_of_length_eq_zero (by omega)
    subst this
    exact Bytes.nil_ _ _ _
  · have hgl : g < w.heap.size := (Array.getElem?_eq_some_iff.1 hh).1
    refine ⟨_, cap, rfl, by omega, h2, fun _ => ⟨g, 0, rfl, hg, hgl, fun i x hx => ?_⟩, fun h => by cases h⟩
    rw [cell_of_row w g (0 + i) cur _ (0, 0) hh]
    have h5 : (cur.toList.take (l.length * 1))[i]? = some (bV x) := by rw [h4]; simp [hx]
    rw [List.getElem?_take] at h5
    split at h5
    · simpa using h5
    · cases h5
theorem OwnB.block {base : Nat} {e : TypeId} {w : World} {v : Value} {l : List UInt8} (h : OwnB base e w v l) : ∀ k, v.ownBlock = some k → base ≤ k := by
  intro k hk
  rcases h.2 with ⟨rfl, h0⟩ | ⟨g, cap, cur, rfl, hg, hh, h1, h2, h3, h4⟩
  · cases hk
  · cases hk; exact hg

theorem OwnB.alloc {base : Nat} {e : TypeId} {w : World} {v : Value} {l : List UInt8} (h : OwnB base e w v l) (o : Obj) : OwnB base e (w.alloc o) v l := World.ownsRow.alloc h o

theorem wpList_appB {P : Program} {w : World} {ops : Array Oper} {rest : List Oper} {o : Oper} {a : Act} {Q : Exit → Act → World → Prop} (hgd : o.guard = none) (s x : Operand) (t : TypeId)
    (ho : o.op = .call { callee := .builtin .append, args := #[s, x], argTypes := #[t, t] })
    (base : Nat) (e : TypeId) (ht : P.underlying t = some (.slice e)) (hi : (P.info? e).map (fun i => (i.zero, i.size, i.bytes)) = some (some (.int .u8 0), 1, 1))
    (v : Value) (l : List UInt8) (hs : a.eval s = v) (hown : OwnB base e w v l) (lo hi' : Nat) (sv : Value) (bs : List UInt8) (hx : a.eval x = sv) (hr : Bytes w lo hi' sv bs)
    (hsz : l.length + bs.length ≤ 140737488355328) (hbase : base ≤ w.heap.size)
    (h : ∀ v' w', OwnB base e w' v' (l ++ bs) → Below base w w' → wpList P ops Q rest (a.put o.dst v') w') : wpList P ops Q (o :: rest) a w := by
  obtain ⟨i0, hi0, hz0, hz1, hz2⟩ := info_parts hi
  obtain ⟨ad, c, rfl, h1, h2, h3, h4⟩ := hr
  have hbel : ∀ w', w.grownBy w' v.ownBlock → Below base w w' := fun w' hg => ((Below.refl w.heap.size w).mono hbase).grown hg hbase hown.block
  rcases ad with _ | ad
  · have hc : c = 0 := h4 rfl
    subst hc
    have hb0 : bs = [] := List.eq_nil_of_length_eq_zero (by omega)
    subst hb0
    exact wpList_append_own_none hgd s x t ho base e i0 1 ht hi0 v _ _ hs hown hx (h v w (by simpa using hown) (hbel _ (World.grownBy.refl w _)))
  · have hl : (bs.map bV).length = bs.length * 1 := by simp
    refine wpList_append_own w hgd s x t ho base e i0 _ 1 1 ht hi0 hz0 hz1 hz2 rfl (by decide) v _ _ hs hown ad bs.length c (bs.map bV) hx hl ?_ ?_ (by unfold maxLen; omega) (by omega) hbase ?_
    · intro j u hu
      have hj : j < bs.length := by have := (List.getElem?_eq_some_iff.1 hu).1; simpa using this
      obtain ⟨b, off, e1, _, _, hc⟩ := h3 (by omega)
      cases e1
      have e2 : (⟨b, off, none⟩ : Addr).add j = ⟨b, off + j, none⟩ := by unfold Addr.add; split <;> simp_all
      rw [e2, hc j bs[j] (by simp [hj])]
      simp [hj] at hu
      rw [hu]
    · intro u hu
      obtain ⟨y, _, rfl⟩ := List.mem_map.1 hu
      rfl
    · intro v' w' hown' hg _
      exact h v' w' (by unfold OwnB; simpa using hown') (hbel _ hg)

/-- Block g is just these bytes, none frozen. -/
def RowB (w : World) (g : Nat) (e : TypeId) (l : List UInt8) : Prop := w.heap[g]? = some (.cells (l.map bV).toArray e (0, 0))
section
variable {w w' : World} {g : Nat} {e : TypeId} {l : List UInt8}
theorem RowB.lt (h : RowB w g e l) : g < w.heap.size := (Array.getElem?_eq_some_iff.1 h).1
theorem RowB.cell (h : RowB w g e l) (i : Nat) : w.cell? ⟨g, i, none⟩ = (l[i]?).map bV := by rw [cell_of_row w g i _ e (0, 0) h]; simp
theorem RowB.frozen (h : RowB w g e l) (i : Nat) : w.frozen? ⟨g, i, none⟩ = false := by
  unfold RowB at h
  simp [World.frozen?, h]
theorem RowB.set_ (h : RowB w g e l) (i : Nat) (x : UInt8) : RowB (w.setCell ⟨g, i, none⟩ (bV x)) g e (l.set i x) := by
  unfold RowB at h ⊢
  simp [World.setCell, Array.getElem?_modify, h, List.map_set]
theorem RowB.below {B : Nat} (h : RowB w g e l) (hb : Below B w w') (hg : g < B) : RowB w' g e l := (hb.block g hg).trans h
theorem RowB.step (h : RowB w g e l) (hb : Below w.heap.size w w') : RowB w' g e l := h.below hb h.lt
theorem RowB.bytes (h : RowB w g e l) (hl : l.length ≤ maxLen) : Bytes w g (g + 1) (.slice (some ⟨g, 0, none⟩) l.length l.length) l := by
  refine ⟨_, _, rfl, Nat.le_refl _, hl, fun _ => ⟨g, 0, rfl, Nat.le_refl _, Nat.lt_succ_self _, fun i x hx => ?_⟩, fun h => by cases h⟩
  rw [Nat.zero_add, h.cell, hx]
  rfl
theorem RowB.thawed (h : RowB w g e l) (n c : Nat) : Thawed w (.slice (some ⟨g, 0, none⟩) n c) := by
  intro b off m c' he i _
  cases he
  exact h.frozen _
end
/-- The first ones of a slice. -/
theorem Bytes.pre {w : World} {lo hi : Nat} {a : Option Addr} {n c : Nat} {l : List UInt8} (h : Bytes w lo hi (.slice a n c) l) (k : Nat) (hk : k ≤ l.length) : Bytes w lo hi (.slice a k c) (l.take k) := by
  obtain ⟨a', c', e, h1, h2, h3, h4⟩ := h
  cases e
  have hl : (l.take k).length = k := by simp; omega
  refine ⟨a, c, by rw [hl], by omega, h2, fun hp => ?_, h4⟩
  obtain ⟨b, off, rfl, hlo, hhi, hc⟩ := h3 (by omega)
  refine ⟨b, off, rfl, hlo, hhi, fun i x hx => ?_⟩
  rw [List.getElem?_take] at hx
  split at hx
  · exact hc _ _ hx
  · cases hx

theorem wpList_makeB {P : Program} {w : World} {ops : Array Oper} {rest : List Oper} {o : Oper} {a : Act} {Q : Exit → Act → World → Prop}
    (hgd : o.guard = none) (s c : Operand) (t : TypeId) (ho : o.op = Op.makeSlice t s c) (e : TypeId) (ht : P.underlying t = some (.slice e))
    (hi : (P.info? e).map (fun i => (i.zero, i.size, i.bytes)) = some (some (.int .u8 0), 1, 1)) (n : Nat) (hs : a.eval s = .int .i64 n) (hc : a.eval c = .int .i64 n) (hn : n ≤ 140737488355328)
    (h : ∀ w', RowB w' w.heap.size e (List.replicate n 0) → Below w.heap.size w w' → wpList P ops Q rest (a.put o.dst (.slice (some ⟨w.heap.size, 0, none⟩) n n)) w') : wpList P ops Q (o :: rest) a w := by
  obtain ⟨i0, hi0, hz0, hz1, hz2⟩ := info_parts hi
  refine wpList_make_full w hgd s c t ho w.heap.size e i0 _ 1 ht hi0 hz0 hz1 .i64 .i64 n n n hs hc rfl rfl (by rw [hz2]; omega) (by unfold maxLen; omega) (Nat.le_refl _) ?_
  intro w' hown hg
  refine h w' ?_ ((Below.refl _ _).grown hg (Nat.le_refl _) (fun k hk => by cases hk))
  rcases hown.2 with ⟨h0, _⟩ | ⟨g, cap, cur, hv, _, hh, _, _, hsz, htake⟩
  · cases h0
  · cases hv
    unfold RowB
    rw [hh]
    have hcur : cur.toList = (List.replicate n (0 : UInt8)).map bV := by
      rw [List.take_of_length_le (by simp; omega)] at htake
      rw [htake]
      have hz : (bV 0) = .int .u8 0 := rfl
      simp only [madeCells, Value.cells, Nat.mul_one, List.size_toArray, List.length_cons, List.length_nil, Nat.reduceAdd, Nat.mod_one, List.map_replicate, hz, Array.toList_map]
      apply List.ext_getElem <;> simp
    rw [← hcur]

end Go.Proofs.Ythealkfpflkipaa

namespace Go.Proofs.Ythealkfpflkipaa
open Go.RowKit Go.ChangeShapes Go.WideShapes Go.Deep

theorem below_dn (B : Nat) (w : World) (n : Nat) : Below B w (w.drewN n) := ⟨rfl, rfl, rfl, Nat.le_refl _, fun _ _ => rfl⟩
/-- Between lo and hi nothing has turned. -/
def Kp (lo hi : Nat) (w w' : World) : Prop :=
  ∀ b o, lo ≤ b → b < hi → w'.cell? ⟨b, o, none⟩ = w.cell? ⟨b, o, none⟩ ∧ w'.frozen? ⟨b, o, none⟩ = w.frozen? ⟨b, o, none⟩
theorem Kp.of_below {B lo hi : Nat} {w w' : World} (h : Below B w w') (hB : hi ≤ B) : Kp lo hi w w' := fun b o _ hh =>
  ⟨h.cell (p := ⟨b, o, none⟩) (by show b < B; omega), h.frozen (p := ⟨b, o, none⟩) (by show b < B; omega)⟩
theorem Kp.sub {lo hi lo' hi' : Nat} {w w' : World} (h : Kp lo hi w w') (h1 : lo ≤ lo') (h2 : hi' ≤ hi) : Kp lo' hi' w w' := fun b o g1 g2 => h b o (by omega) (by omega)
theorem Kp.refl (lo hi : Nat) (w : World) : Kp lo hi w w := fun _ _ _ _ => ⟨rfl, rfl⟩
theorem Kp.trans {lo hi : Nat} {a b c : World} (h : Kp lo hi a b) (k : Kp lo hi b c) : Kp lo hi a c := fun x o h1 h2 => ⟨(k x o h1 h2).1.trans (h x o h1 h2).1, (k x o h1 h2).2.trans (h x o h1 h2).2⟩

theorem Bytes.at_n {w : World} {lo hi : Nat} {v : Value} {l : List UInt8} {n : Nat} (h : Bytes w lo hi v l) (hn : l.length = n) (hp : 0 < n) :
    ∃ b off c, v = .slice (some ⟨b, off, none⟩) n c ∧ lo ≤ b ∧ b < hi ∧ n ≤ c ∧ c ≤ maxLen ∧ ∀ i x, l[i]? = some x → w.cell? ⟨b, off + i, none⟩ = some (bV x) := by
  subst hn
  exact h.at_ hp
theorem Bytes.form {w : World} {lo hi : Nat} {v : Value} {l : List UInt8} {n : Nat} (h : Bytes w lo hi v l) (hn : l.length = n) :
    ∃ a c, v = .slice a n c ∧ n ≤ c ∧ c ≤ maxLen := by
  subst hn
  obtain ⟨a, c, e, h1, h2, _⟩ := h
  exact ⟨a, c, e, h1, h2⟩
/-- A byte of a slice is stored. -/
theorem Bytes.set {w : World} {lo hi b off n c : Nat} {l : List UInt8} (h : Bytes w lo hi (.slice (some ⟨b, off, none⟩) n c) l) (i : Nat) (x : UInt8) (hi' : i < l.length) :
    Bytes (w.setCell ⟨b, off + i, none⟩ (bV x)) lo hi (.slice (some ⟨b, off, none⟩) n c) (l.set i x) := by
  obtain ⟨a, c', e, h1, h2, h3, h4⟩ := h
  cases e
  refine ⟨_, _, by rw [List.length_set], by rw [List.length_set]; exact h1, h2, fun hp => ?_, h4⟩
  obtain ⟨b', off', ea, hlo, hhi, hc⟩ := h3 (by rw [List.length_set] at hp; exact hp)
  cases ea
  refine ⟨_, _, rfl, hlo, hhi, fun j y hy => ?_⟩
  by_cases e : i = j
  · subst e
    rw [List.getElem?_set_self hi'] at hy
    cases hy
    exact World.cell?_setCell_same' _ _ _ (by rw [hc i l[i] (by simp [hi'])]; rfl)
  · rw [List.getElem?_set_ne e] at hy
    rw [World.cell?_setCell_other _ _ _ _ (by intro h; injection h; omega)]
    exact hc j y hy
theorem Thawed.set {w : World} {v : Value} (h : Thawed w v) (p : Addr) (u : Value) : Thawed (w.setCell p u) v := fun b off n c e i hi => by rw [World.frozen?_setCell]; exact h b off n c e i hi
/-- How an element of a slice lies in its cells. -/
structure Rd (α : Type) where
  n : Nat
  R : World → Nat → Nat → α → (Nat → Option Value) → Prop
  keep : ∀ {w w' : World} {lo hi : Nat} {x : α} {f : Nat → Option Value}, Kp lo hi w w' → R w lo hi x f → R w' lo hi x f
  more : ∀ {w : World} {lo hi lo' hi' : Nat} {x : α} {f : Nat → Option Value}, lo' ≤ lo → hi ≤ hi' → R w lo hi x f → R w lo' hi' x f
  ext : ∀ {w : World} {lo hi : Nat} {x : α} {f g : Nat → Option Value}, (∀ j, j < n → f j = g j) → R w lo hi x f → R w lo hi x g

/-- The slice value v holds l. -/
def Sl {α : Type} (r : Rd α) (w : World) (lo hi : Nat) (v : Value) (l : List α) : Prop :=
  ∃ a c, v = .slice a l.length c ∧ l.length ≤ c ∧ c ≤ maxLen ∧
    (0 < l.length → ∃ b off, a = some ⟨b, off, none⟩ ∧ lo ≤ b ∧ b < hi ∧ ∀ i x, l[i]? = some x → r.R w lo hi x (fun j => w.cell? ⟨b, off + i * r.n + j, none⟩)) ∧ (a = none → c = 0)

section
variable {α : Type} {r : Rd α} {w w' : World} {lo hi lo' hi' : Nat} {v : Value} {l : List α}
theorem Sl.keep (h : Sl r w lo hi v l) (hk : Kp lo hi w w') : Sl r w' lo hi v l := by
  obtain ⟨a, c, e, h1, h2, h3, h4⟩ := h
  refine ⟨a, c, e, h1, h2, fun hp => ?_, h4⟩
  obtain ⟨b, off, ea, hlo, hhi, hc⟩ := h3 hp
  exact ⟨b, off, ea, hlo, hhi, fun i x hx => r.ext (fun j _ => (hk b _ hlo hhi).1.symm) (r.keep hk (hc i x hx))⟩
theorem Sl.more (h : Sl r w lo hi v l) (h1 : lo' ≤ lo) (h2 : hi ≤ hi') : Sl r w lo' hi' v l := by
  obtain ⟨a, c, e, g1, g2, h3, h4⟩ := h
  refine ⟨a, c, e, g1, g2, fun hp => ?_, h4⟩
  obtain ⟨b, off, ea, hlo, hhi, hc⟩ := h3 hp
  exact ⟨b, off, ea, by omega, by omega, fun i x hx => r.more h1 h2 (hc i x hx)⟩
theorem Sl.below {B : Nat} (h : Sl r w lo hi v l) (hb : Below B w w') (hB : hi ≤ B) : Sl r w' lo hi v l := h.keep (Kp.of_below hb hB)
theorem Sl.step (h : Sl r w lo w.heap.size v l) (hb : Below w.heap.size w w') : Sl r w' lo w'.heap.size v l := (h.below hb (Nat.le_refl _)).more (Nat.le_refl _) hb.size
theorem Sl.all0 (h : Sl r w lo hi v l) : Sl r w 0 hi v l := h.more (Nat.zero_le _) (Nat.le_refl _)
theorem Sl.nil_ (w : World) (lo hi : Nat) : Sl r w lo hi (.slice none 0 0) [] := ⟨none, 0, rfl, Nat.le_refl _, Nat.zero_le _, fun h => absurd h (by simp), fun _ => rfl⟩
theorem Sl.len_le (h : Sl r w lo hi v l) : l.length ≤ maxLen := by obtain ⟨a, c, e, g1, g2, h3⟩ := h; omega
theorem Sl.at_ (h : Sl r w lo hi v l) (hp : 0 < l.length) :
    ∃ b off c, v = .slice (some ⟨b, off, none⟩) l.length c ∧ lo ≤ b ∧ b < hi ∧ l.length ≤ c ∧ c ≤ maxLen ∧ ∀ i x, l[i]? = some x → r.R w lo hi x (fun j => w.cell? ⟨b, off + i * r.n + j, none⟩) := by
  obtain ⟨a, c, rfl, h1, h2, h3, _⟩ := h
  obtain ⟨b, off, rfl, hlo, hhi, hc⟩ := h3 hp
  exact ⟨b, off, c, rfl, hlo, hhi, h1, h2, hc⟩
/-- A slice of some of its elements. -/
theorem Sl.cut {b off n c : Nat} (h : Sl r w lo hi (.slice (some ⟨b, off, none⟩) n c) l) (i k c' : Nat) (hik : i + k ≤ l.length) (hk : k ≤ c') (hc : c' ≤ maxLen) :
    Sl r w lo hi (.slice (some ⟨b, off + i * r.n, none⟩) k c') ((l.drop i).take k) := by
  obtain ⟨a, c, e, h1, h2, h3, h4⟩ := h
  have hl : ((l.drop i).take k).length = k := by simp; omega
  refine ⟨_, _, by rw [hl], by omega, hc, fun hp => ?_, fun h => by cases h⟩
  obtain ⟨b', off', ea, hlo, hhi, hc⟩ := h3 (by omega)
  cases e
  cases ea
  refine ⟨b, off + i * r.n, rfl, hlo, hhi, fun j x hx => ?_⟩
  rw [List.getElem?_take] at hx
  split at hx
  · rw [List.getElem?_drop] at hx
    have := hc _ _ hx
    rw [Nat.add_mul, ← Nat.add_assoc] at this
    exact this
  · cases hx
end

theorem Bytes.kept {w w' : World} {lo hi : Nat} {v : Value} {l : List UInt8} (h : Bytes w lo hi v l) (hk : Kp lo hi w w') : Bytes w' lo hi v l := h.keep fun b o h1 h2 => (hk b o h1 h2).1
def rBytes : Rd (List UInt8) where
  n := 1
  R w lo hi x f := ∃ v, f 0 = some v ∧ Bytes w lo hi v x
  keep hk h := by obtain ⟨v, h1, h2⟩ := h; exact ⟨v, h1, h2.kept hk⟩
  more h1 h2 h := by obtain ⟨v, g1, g2⟩ := h; exact ⟨v, g1, g2.more h1 h2⟩
  ext he h := by obtain ⟨v, g1, g2⟩ := h; exact ⟨v, (he 0 (by decide)) ▸ g1, g2⟩
/-- A place, and bytes. -/
structure WrL where
  at_ : Int
  data : List UInt8
  deriving DecidableEq
def rWrite : Rd WrL where
  n := 2
  R w lo hi x f := f 0 = some (.int .i64 x.at_) ∧ (Lit.int .i64 x.at_).wf = true ∧ ∃ v, f 1 = some v ∧ Bytes w lo hi v x.data
  keep hk h := by obtain ⟨g0, g1, v, h1, h2⟩ := h; exact ⟨g0, g1, v, h1, h2.kept hk⟩
  more h1 h2 h := by obtain ⟨g0, g1, v, k1, k2⟩ := h; exact ⟨g0, g1, v, k1, k2.more h1 h2⟩
  ext he h := by obtain ⟨g0, g1, v, k1, k2⟩ := h; exact ⟨(he 0 (by decide)) ▸ g0, g1, v, (he 1 (by decide)) ▸ k1, k2⟩
structure DiskL where
  blocks : List (List UInt8)
  waits : List WrL
  deriving DecidableEq
/-- The two slices of a disk. -/
def DiskV (w : World) (lo hi : Nat) (b u : Value) (d : DiskL) : Prop := Sl rBytes w lo hi b d.blocks ∧ Sl rWrite w lo hi u d.waits
section
variable {H : Type} {enc : TypeId × Value → H} {P : Program} {w : World} {base : Nat} {spare : Nat → Bool} {held : Bool} {fuel : Nat} {t : TypeId} {cs : List Value} {x : DataW H × List MemPlace}
theorem trod_fields {fs : Array Field} (ht : P.underlying t = some (.struct fs)) (h : DataW.trod enc P w base spare held fuel t cs = some x) :
    cs.length = P.cellsOf t ∧ ∃ n, ∀ f ∈ fs.toList, ∃ y, DataW.trod enc P w base spare held n f.type ((cs.drop f.offset).take (P.cellsOf f.type)) = some y := by
  cases fuel with
  | zero => simp [DataW.trod] at h
  | succ n =>
    unfold DataW.trod at h
    rw [ht] at h
    simp only at h
    split at h
    · rename_i hl
      refine ⟨hl, n, fun f hf => ?_⟩
      obtain ⟨z, hz, _⟩ := Option.map_eq_some_iff.1 h
      obtain ⟨i, hi⟩ := List.mem_iff_getElem?.1 hf
      obtain ⟨y, hy⟩ : ∃ y, z[i]? = some y := by
        have := mapM_some_length hz
        exact ⟨z[i]'(by rw [this]; exact (List.getElem?_eq_some_iff.1 hi).1), by simp⟩
      exact ⟨y, (mapM_some_get hz i f hi).trans hy⟩
    · cases h
theorem cells_at {a : Addr} {n : Nat} {cs' : List Value} (h : w.cells? base a n = some cs') : cs'.length = n ∧ ∀ j, j < n → cs'[j]? = w.cell? (a.add j) := by
  obtain ⟨_, h2, h3⟩ := World.cells?_some h
  exact ⟨h2, fun j hj => (h3 j hj).symm⟩
/-- How cells that are read as a type are an element of a slice. -/
def Opens {α : Type} (P : Program) (e : TypeId) (r : Rd α) : Prop :=
  ∀ {H : Type} {enc : TypeId × Value → H} {w : World} {base : Nat} {spare : Nat → Bool} {held : Bool} {fuel : Nat} {cs : List Value} {x : DataW H × List MemPlace},
    DataW.trod enc P w base spare held fuel e cs = some x → cs.length = r.n → ∃ y : α, r.R w 0 w.heap.size y (fun j => cs[j]?)
theorem list_of {α : Type} {n : Nat} {p : Nat → α → Prop} (h : ∀ i, i < n → ∃ x, p i x) : ∃ l : List α, l.length = n ∧ ∀ i x, l[i]? = some x → p i x := by
  induction n with
  | zero => exact ⟨[], rfl, fun i x h => by simp at h⟩
  | succ n ih =>
    obtain ⟨l, hl, ha⟩ := ih (fun i hi => h i (Nat.lt_succ_of_lt hi))
    obtain ⟨x, hx⟩ := h n (Nat.lt_succ_self n)
    refine ⟨l ++ [x], by simp [hl], fun i y hy => ?_⟩
    rcases Nat.lt_trichotomy i n with h1 | h1 | h1
    · rw [List.getElem?_append_left (by omega)] at hy; exact ha i y hy
    · subst h1
      rw [List.getElem?_append_right (by omega), hl, Nat.sub_self] at hy
      cases hy; exact hx
    · rw [List.getElem?_eq_none (by simp; omega)] at hy; cases hy
theorem open_sl {α : Type} {r : Rd α} {e : TypeId} (ht : P.underlying t = some (.slice e)) (hr : P.cellsOf e = r.n) (hn : 0 < r.n) (hop : Opens P e r) (h : DataW.trod enc P w base spare held fuel t cs = some x) :
    ∃ v l, cs = [v] ∧ Sl r w 0 w.heap.size v l := by
  rcases open_slice ht h with ⟨rfl, _⟩ | ⟨a, len, cap, m, n, D, Pl, rfl, _, hl, hm, hmm, _, hel⟩
  · exact ⟨_, [], rfl, Sl.nil_ _ _ _⟩
  have hml : len ≤ m := by rw [hmm]; split <;> omega
  have hex : ∀ i, i < len → ∃ y : α, r.R w 0 w.heap.size y (fun j => w.cell? (a.add (i * r.n + j))) := by
    intro i hi
    obtain ⟨cs', h1, h2⟩ := hel i (by omega)
    rw [hr] at h1
    obtain ⟨h3, h4⟩ := cells_at h1
    obtain ⟨y, hy⟩ := hop h2 h3
    exact ⟨y, r.ext (fun j hj => by rw [h4 j hj, add_add]) hy⟩
  have hsb : 0 < len → a.spot = none ∧ a.block < w.heap.size := by
    intro hi
    obtain ⟨cs', h1, h2⟩ := hel 0 (by omega)
    rw [hr] at h1
    obtain ⟨h3, h4⟩ := cells_at h1
    have h0 : w.cell? a = some (cs'[0]'(by omega)) := by
      have := h4 0 hn
      simp only [Nat.zero_mul, Addr.add, if_true] at this
      rw [← this]; simp
    exact ⟨World.cell?_spot h0, cell_lt' h0⟩
  obtain ⟨l, hlen, hall⟩ := list_of hex
  refine ⟨_, l, rfl, some a, cap, by rw [hlen], by omega, hm, fun hp => ?_, fun h => by cases h⟩
  obtain ⟨hs, hb⟩ := hsb (by omega)
  obtain ⟨b, off, spot⟩ := a
  dsimp only at hs hb
  subst hs
  refine ⟨b, off, rfl, Nat.zero_le _, hb, fun i y hy => r.ext (fun j _ => ?_) (hall i y hy)⟩
  have e2 : (⟨b, off, none⟩ : Addr).add (i * r.n + j) = ⟨b, off + i * r.n + j, none⟩ := by unfold Addr.add; split <;> simp_all <;> omega
  rw [e2]
end
end Go.Proofs.Ythealkfpflkipaa

namespace Go.Proofs.Ythealkfpflkipaa
open Go.RowKit Go.Shelf
attribute [local go_sem] Oper.semAt_some

theorem cell_new_l (W : World) (v : Value) (t : TypeId) : (W.alloc (.cells #[v] t)).cell? ⟨W.heap.size, 0, none⟩ = some v ∧ (W.alloc (.cells #[v] t)).frozen? ⟨W.heap.size, 0, none⟩ = false :=
  ⟨by rw [World.cell?_alloc_new]; rfl, by apply World.frozen?_alloc_at; rfl⟩
/-- What a round keeps: all that lies below n₀, and one cell (the iterator's own). -/
def KeepB (n₀ Bs : Nat) (A B : World) : Prop := Below n₀ A B ∧ B.cell? ⟨Bs, 0, none⟩ = A.cell? ⟨Bs, 0, none⟩
theorem KeepB.refl (n₀ Bs : Nat) (A : World) : KeepB n₀ Bs A A := ⟨Below.refl _ _, rfl⟩
theorem KeepB.trans {n₀ Bs : Nat} {A B C : World} (h : KeepB n₀ Bs A B) (k : KeepB n₀ Bs B C) : KeepB n₀ Bs A C := ⟨h.1.trans k.1, k.2.trans h.2⟩
theorem keepB_b {w : World} {n₀ Bs : Nat} (hn : n₀ ≤ w.heap.size) (hB : Bs < w.heap.size) : ∀ (W : World) (l : Nat) (o o' : Obj), w.heap.size ≤ l → W.heap[l]? = some o → o.isCells = false → o.isWalk = false → KeepB n₀ Bs W (W.putObj l o') :=
  fun W l o o' h1 h2 h3 h4 => ⟨belowK_b hn W l o o' h1 h2 h3 h4, (belowK_b (w := w) (n₀ := Bs + 1) (by omega) W l o o' h1 h2 h3 h4).cell (p := ⟨Bs, 0, none⟩) (Nat.lt_succ_self _)⟩

end Go.Proofs.Ythealkfpflkipaa

namespace Go.Proofs.Ythealkfpflkipaa
open Go.RowKit

theorem info_u8 : (Try.prog.info? 5).map (fun i => (i.zero, i.size, i.bytes)) = some (some (.int .u8 0), 1, 1) := by kernel_rfl

end Go.Proofs.Ythealkfpflkipaa

namespace Go.Proofs.Ythealkfpflkipaa
open Go.RowKit

set_option maxHeartbeats 1000000 in
/-- slices.Clone. -/
theorem clone_any (v : Value) (l : List UInt8) (w : World) (hI : Bytes w 0 w.heap.size v l) (hl : l.length ≤ 1000000) :
    Calls Try.prog 68 #[v] w fun e w' => ∃ u, e = .returned u ∧ MadeB w w' u l := by
  obtain ⟨a, c, rfl, g1, g2, g3, g4⟩ := id hI
  have hnil := fun (w : World) (a : Option Addr) (n c n' c' : Nat) => Lib.run_eql_slice_nil (P := Try.prog) w 22 5 a n c n' c' Try.underlying22
  cases a with
  | none =>
    have hc := g4 rfl
    subst hc
    have h0 : l = [] := List.eq_nil_of_length_eq_zero (by omega)
    subst h0
    go_enter Try.func68, Try.ntmps68
    go_wp2
    go_ret
    exact ⟨_, rfl, MadeB.nil_ (Below.refl _ _)⟩
  | some ad =>
    clear g3 g4
    have hown : OwnB w.heap.size 5 (w.alloc (.cells #[] 5)) (.slice (some ⟨w.heap.size, 0, none⟩) 0 0) [] := ⟨by simp, .inr ⟨w.heap.size, 0, #[], rfl, Nat.le_refl _, World.alloc_heap_new w _, Nat.le_refl _, Nat.zero_le _, rfl, rfl⟩⟩
    have hb0 := (Below.refl w.heap.size w).alloc (Nat.le_refl _) (.cells #[] 5)
    have hI1 := hI.step hb0
    go_enter Try.func68, Try.ntmps68
    go_wp2_with (at_builtin; refine wpList_appB rfl _ _ 22 rfl w.heap.size 5 Try.underlying22 info_u8 _ [] rfl hown _ _ _ l rfl hI1 (by simp; omega) (by simp) ?_; intro u w1 hown1 hB1)
    go_ret
    exact ⟨_, rfl, hown1.made (hb0.trans hB1)⟩

end Go.Proofs.Ythealkfpflkipaa

