/- RingCodes: the words and contracts, part 1. -/
import Derived.WalkKit
import Derived.WalkLawsBesides
import Derived.WalkSpells
import Derived.Lib.Hide
import Derived.Laws.Rows
import Derived.Laws.AppendOwnNone
import Derived.Maps.AppendAt
namespace Go.Proofs.Ytcibihakjcenaaa
open Go.RowKit

def bV (x : UInt8) : Value := .int .u8 (x.toNat : Int)

/-- The slice value v holds the bytes l in w; where there is one, its block lies from lo on, below hi. -/
def Bytes (w : World) (lo hi : Nat) (v : Value) (l : List UInt8) : Prop :=
  ∃ a c, v = .slice a l.length c ∧ l.length ≤ c ∧ c ≤ maxLen ∧
    (0 < l.length → ∃ b off, a = some ⟨b, off, none⟩ ∧ lo ≤ b ∧ b < hi ∧ ∀ i x, l[i]? = some x → w.cell? ⟨b, off + i, none⟩ = some (bV x)) ∧ (a = none → c = 0)

section
variable {w w' : World} {lo hi lo' hi' : Nat} {v : Value} {l : List UInt8}

theorem Bytes.keep (h : Bytes w lo hi v l) (hk : ∀ b o, lo ≤ b → b < hi → w'.cell? ⟨b, o, none⟩ = w.cell? ⟨b, o, none⟩) : Bytes w' lo hi v l := by
  obtain ⟨a, c, e, h1, h2, h3, h4⟩ := h
  refine ⟨a, c, e, h1, h2, fun hp => ?_, h4⟩
  obtain ⟨b, off, ea, hlo, hhi, hc⟩ := h3 hp
  exact ⟨b, off, ea, hlo, hhi, fun i x hx => (hk b _ hlo hhi).trans (hc i x hx)⟩
theorem Bytes.more (h : Bytes w lo hi v l) (h1 : lo' ≤ lo) (h2 : hi ≤ hi') : Bytes w lo' hi' v l := by
  obtain ⟨a, c, e, g1, g2, h3, h4⟩ := h
  refine ⟨a, c, e, g1, g2, fun hp => ?_, h4⟩
  obtain ⟨b, off, ea, hlo, hhi, hc⟩ := h3 hp
  exact ⟨b, off, ea, by omega, by omega, hc⟩
theorem Bytes.below {B : Nat} (h : Bytes w lo hi v l) (hb : Below B w w') (hB : hi ≤ B) : Bytes w' lo hi v l :=
  h.keep fun b o _ hh => hb.cell (p := ⟨b, o, none⟩) (by show b < B; omega)
theorem Bytes.nil_ (w : World) (lo hi : Nat) : Bytes w lo hi (.slice none 0 0) [] := ⟨none, 0, rfl, Nat.le_refl _, Nat.zero_le _, fun h => absurd h (by simp), fun _ => rfl⟩
theorem Bytes.len_le (h : Bytes w lo hi v l) : l.length ≤ maxLen := by obtain ⟨a, c, e, g1, g2, h3⟩ := h; omega
/-- A slice that was made whole: a new block. -/
theorem Bytes.new (w : World) (t : TypeId) (l : List UInt8) (h : l.length ≤ maxLen) (mk : Nat × Nat) :
    Bytes (w.alloc (.cells (l.map bV).toArray t mk)) w.heap.size (w.heap.size + 1) (.slice (some ⟨w.heap.size, 0, none⟩) l.length l.length) l := by
  refine ⟨_, _, rfl, Nat.le_refl _, h, fun _ => ⟨_, _, rfl, Nat.le_refl _, Nat.lt_succ_self _, fun i x hx => ?_⟩, fun h => by cases h⟩
  rw [Nat.zero_add, World.cell?_alloc_mark]
  simp [hx]
/-- A slice of some of its elements. -/
theorem Bytes.cut {b off n c : Nat} (h : Bytes w lo hi (.slice (some ⟨b, off, none⟩) n c) l) (i k c' : Nat) (hik : i + k ≤ l.length) (hk : k ≤ c') (hc : c' ≤ maxLen) :
    Bytes w lo hi (.slice (some ⟨b, off + i, none⟩) k c') ((l.drop i).take k) := by
  obtain ⟨a, c, e, h1, h2, h3, h4⟩ := h
  have hl : ((l.drop i).take k).length = k := by simp; omega
  refine ⟨_, _, by rw [hl], by omega, hc, fun hp => ?_, fun h => by cases h⟩
  obtain ⟨b', off', ea, hlo, hhi, hc⟩ := h3 (by omega)
  cases e
  cases ea
  refine ⟨b, off + i, rfl, hlo, hhi, fun j x hx => ?_⟩
  rw [List.getElem?_take] at hx
  split at hx
  · rw [List.getElem?_drop] at hx
    rw [Nat.add_assoc]
    exact hc _ _ hx
  · cases hx
end

theorem Bytes.at_ {w : World} {lo hi : Nat} {v : Value} {l : List UInt8} (h : Bytes w lo hi v l) (hp : 0 < l.length) :
    ∃ b off c, v = .slice (some ⟨b, off, none⟩) l.length c ∧ lo ≤ b ∧ b < hi ∧ l.length ≤ c ∧ c ≤ maxLen ∧ ∀ i x, l[i]? = some x → w.cell? ⟨b, off + i, none⟩ = some (bV x) := by
  obtain ⟨a, c, rfl, h1, h2, h3, _⟩ := h
  obtain ⟨b, off, rfl, hlo, hhi, hc⟩ := h3 hp
  exact ⟨b, off, c, rfl, hlo, hhi, h1, h2, hc⟩

/-- A step of the walk: what read as bytes reads on. -/
theorem Bytes.step {w w' : World} {lo : Nat} {v : Value} {l : List UInt8} (h : Bytes w lo w.heap.size v l) (hb : Below w.heap.size w w') : Bytes w' lo w'.heap.size v l :=
  (h.below hb (Nat.le_refl _)).more (Nat.le_refl _) hb.size
theorem Bytes.all0 {w : World} {hi lo : Nat} {v : Value} {l : List UInt8} (h : Bytes w lo hi v l) : Bytes w 0 hi v l := h.more (Nat.zero_le _) (Nat.le_refl _)
theorem below_step {B : Nat} {w w1 w2 : World} (h : Below B w w1) (hB : B ≤ w1.heap.size) (k : Below w1.heap.size w1 w2) : Below B w w2 := h.trans (k.mono hB)

theorem cell_lt' {w : World} {a : Addr} {v : Value} (h : w.cell? a = some v) : a.block < w.heap.size := by
  rcases Nat.lt_or_ge a.block w.heap.size with h1 | h1
  · exact h1
  · exfalso
    unfold World.cell? at h
    simp [Array.getElem?_eq_none h1] at h

/-- No element of the slice value v is frozen. -/
def Thawed (w : World) (v : Value) : Prop := ∀ b off n c, v = .slice (some ⟨b, off, none⟩) n c → ∀ i, i < n → w.frozen? ⟨b, off + i, none⟩ = false

/-- What a call made: a slice of bytes in new memory that may be written; nothing that was there has turned. -/
structure MadeB (w w' : World) (v : Value) (l : List UInt8) : Prop where
  bytes : Bytes w' w.heap.size w'.heap.size v l
  thawed : Thawed w' v
  below : Below w.heap.size w w'

theorem Thawed.nil_ (w : World) : Thawed w (.slice none 0 0) := fun b off n c h => by cases h
theorem MadeB.nil_ {w w' : World} (h : Below w.heap.size w w') : MadeB w w' (.slice none 0 0) [] := ⟨Bytes.nil_ _ _ _, Thawed.nil_ _, h⟩
theorem MadeB.new {w w0 : World} (h : Below w.heap.size w w0) (t : TypeId) (l : List UInt8) (hl : l.length ≤ maxLen) (cs : Array Value) (hcs : cs = (l.map bV).toArray) (n : Nat) (hn : n = l.length) :
    MadeB w (w0.alloc (.cells cs t)) (.slice (some ⟨w0.heap.size, 0, none⟩) n n) l := by
  subst hcs hn
  refine ⟨(Bytes.new w0 t l hl _).more h.size (by simp), fun b off n c e i hi => ?_, h.alloc h.size _⟩
  cases e
  apply World.frozen?_alloc_at
  rfl

theorem MadeB.of_own {w w' : World} {e : TypeId} {v : Value} {n : Nat} {xs : List Value} {l : List UInt8} (hb : Below w.heap.size w w') (h : w'.ownsRow w.heap.size e 1 v n xs) (hx : xs = l.map bV) : MadeB w w' v l := by
  obtain ⟨hl, h⟩ := h
  subst hx
  have hn : l.length = n := by simpa using hl
  rcases h with ⟨rfl, h0⟩ | ⟨g, cap, cur, rfl, hg, hh, h1, h2, h3, h4⟩
  · have : l = [] := List.eq_nil_of_length_eq_zero (by omega)
    subst this
    exact MadeB.nil_ hb
  · have hgl : g < w'.heap.size := (Array.getElem?_eq_some_iff.1 hh).1
    refine ⟨⟨_, cap, by rw [hn], by omega, h2, fun _ => ⟨g, 0, rfl, hg, hgl, fun i x hx => ?_⟩, fun h => by cases h⟩, fun b off m c e i hi => ?_, hb⟩
    · rw [cell_of_row w' g (0 + i) cur _ (0, 0) hh]
      have hi : i < l.length := (List.getElem?_eq_some_iff.1 hx).1
      have h5 : (cur.toList.take (n * 1))[i]? = some (bV x) := by rw [h4]; simp [hx]
      rw [List.getElem?_take] at h5
      split at h5
      · simpa using h5
      · cases h5
    · cases e
      simp [World.frozen?, hh]

/-- string(b). -/
theorem conv_bytes {P : Program} {w : World} {lo hi : Nat} {v : Value} {l : List UInt8} (h : Bytes w lo hi v l) (src dst e : TypeId) (hs : P.underlying src = some (.slice e)) (he : P.underlying e = some (.int .u8)) (hd : P.underlying dst = some .string) :
    (convert src dst v).run P w = .ok (.string ⟨l.toArray⟩) w := by
  obtain ⟨a, c, rfl, h1, h2, h3, h4⟩ := h
  rcases Nat.eq_zero_or_pos l.length with h0 | h0
  · have : l = [] := List.eq_nil_of_length_eq_zero h0
    subst this
    rcases a with _ | ad
    · exact run_convert_bytes_nil w src e hs he _ _ dst hd
    · rw [run_convert_bytes_string w src dst e _ _ _ hs he hd, run_bytesToString w ad _ c [] (by have := run_loadCells_list (P := P) w ad ([] : List Value) (by simp); simpa using this)]
      rfl
  · obtain ⟨b, off, rfl, _, _, hc⟩ := h3 h0
    rw [run_convert_bytes_arg w src e hs he b off l.length c (l.map fun x => (x.toNat : Int)) (by simp) (fun i hi => by rw [hc i l[i] (by simp [hi])]; simp [bV, hi]) dst hd]
    have e : (l.map fun x => (x.toNat : Int)).map (fun n => UInt8.ofNat n.toNat) = l := by
      rw [List.map_map]
      exact (List.map_congr_left (fun x _ => by simp)).trans (List.map_id l)
    rw [strOfNums, e]

/-- A row of bytes of the call's own. -/
def OwnB (base : Nat) (e : TypeId) (w : World) (v : Value) (l : List UInt8) : Prop := w.ownsRow base e 1 v l.length (l.map bV)
theorem OwnB.nil_ (base : Nat) (e : TypeId) (w : World) : OwnB base e w (.slice none 0 0) [] := World.ownsRow_nil _ _ _ _
theorem OwnB.made {w w' : World} {e : TypeId} {v : Value} {l : List UInt8} (h : OwnB w.heap.size e w' v l) (hb : Below w.heap.size w w') : MadeB w w' v l := MadeB.of_own hb h rfl
theorem OwnB.bytes {base : Nat} {e : TypeId} {w : World} {v : Value} {l : List UInt8} (h : OwnB base e w v l) : Bytes w base w.heap.size v l := by
  obtain ⟨hl, h⟩ := h
  rcases h with ⟨rfl, h0⟩ | ⟨g, cap, cur, rfl, hg, hh, h1, h2, h3, h4⟩
  · have : l = [] := List.eq_nil_of_length_eq_zero (by omega)
    subst this
    exact Bytes.nil_ _ _ _
  · have hgl : g < w.heap.size := (Array.getElem?_eq_some_iff.1 hh).1
    refine ⟨_, cap, rfl, by omega, h2, fun _ => ⟨g, 0, rfl, hg, hgl, fun i x hx => ?_⟩, fun h => by cases h⟩
    rw [cell_of_row w g (0 + i) cur _ (0, 0) hh]
    have h5 : (cur.toList.take (l.length * 1))[i]? = some (bV x) := by rw [h4]; simp [hx]
    rw [List.getElem?_take] at h5
    split at h5
    · simpa using h5
    · cases h5
theorem OwnB.block {base : Nat} {e : TypeId} {w : World} {v : Value} {l : List UInt8} (h : OwnB base e w v l) : ∀ k, v.ownBlock = some k → base ≤ k := by
  intro k hk
  rcases h.2 with ⟨rfl, h0⟩ | ⟨g, cap, cur, rfl, hg, hh, h1, h2, h3, h4⟩
  · cases hk
  · cases hk; exact hg

theorem OwnB.alloc {base : Nat} {e : TypeId} {w : World} {v : Value} {l : List UInt8} (h : OwnB base e w v l) (o : Obj) : OwnB base e (w.alloc o) v l := World.ownsRow.alloc h o

theorem wpList_appB {P : Program} {w : World} {ops : Array Oper} {rest : List Oper} {o : Oper} {a : Act} {Q : Exit → Act → World → Prop} (hgd : o.guard = none) (s x : Operand) (t : TypeId)
    (ho : o.op = .call { callee := .builtin .append, args := #[s, x], argTypes := #[t, t] })
    (base : Nat) (e : TypeId) (ht : P.underlying t = some (.slice e)) (hi : (P.info? e).map (fun i => (i.zero, i.size, i.bytes)) = some (some (.int .u8 0), 1, 1))
    (v : Value) (l : List UInt8) (hs : a.eval s = v) (hown : OwnB base e w v l) (lo hi' : Nat) (sv : Value) (bs : List UInt8) (hx : a.eval x = sv) (hr : Bytes w lo hi' sv bs)
    (hsz : l.length + bs.length ≤ 140737488355328) (hbase : base ≤ w.heap.size)
    (h : ∀ v' w', OwnB base e w' v' (l ++ bs) → Below base w w' → wpList P ops Q rest (a.put o.dst v') w') : wpList P ops Q (o :: rest) a w := by
  obtain ⟨i0, hi0, hz0, hz1, hz2⟩ := info_parts hi
  obtain ⟨ad, c, rfl, h1, h2, h3, h4⟩ := hr
  have hbel : ∀ w', w.grownBy w' v.ownBlock → Below base w w' := fun w' hg => ((Below.refl w.heap.size w).mono hbase).grown hg hbase hown.block
  rcases ad with _ | ad
  · have hc : c = 0 := h4 rfl
    subst hc
    have hb0 : bs = [] := List.eq_nil_of_length_eq_zero (by omega)
    subst hb0
    exact wpList_append_own_none hgd s x t ho base e i0 1 ht hi0 v _ _ hs hown hx (h v w (by simpa using hown) (hbel _ (World.grownBy.refl w _)))
  · have hl : (bs.map bV).length = bs.length * 1 := by simp
    refine wpList_append_own w hgd s x t ho base e i0 _ 1 1 ht hi0 hz0 hz1 hz2 rfl (by decide) v _ _ hs hown ad bs.length c (bs.map bV) hx hl ?_ ?_ (by unfold maxLen; omega) (by omega) hbase ?_
    · intro j u hu
      have hj : j < bs.length := by have := (List.getElem?_eq_some_iff.1 hu).1; simpa using this
      obtain ⟨b, off, e1, _, _, hc⟩ := h3 (by omega)
      cases e1
      have e2 : (⟨b, off, none⟩ : Addr).add j = ⟨b, off + j, none⟩ := by unfold Addr.add; split <;> simp_all
      rw [e2, hc j bs[j] (by simp [hj])]
      simp [hj] at hu
      rw [hu]
    · intro u hu
      obtain ⟨y, _, rfl⟩ := List.mem_map.1 hu
      rfl
    · intro v' w' hown' hg _
      exact h v' w' (by unfold OwnB; simpa using hown') (hbel _ hg)

/-- Block g is just these bytes, none frozen. -/
def RowB (w : World) (g : Nat) (e : TypeId) (l : List UInt8) : Prop := w.heap[g]? = some (.cells (l.map bV).toArray e (0, 0))
section
variable {w w' : World} {g : Nat} {e : TypeId} {l : List UInt8}
theorem RowB.lt (h : RowB w g e l) : g < w.heap.size := (Array.getElem?_eq_some_iff.1 h).1
theorem RowB.cell (h : RowB w g e l) (i : Nat) : w.cell? ⟨g, i, none⟩ = (l[i]?).map bV := by rw [cell_of_row w g i _ e (0, 0) h]; simp
theorem RowB.frozen (h : RowB w g e l) (i : Nat) : w.frozen? ⟨g, i, none⟩ = false := by
  unfold RowB at h
  simp [World.frozen?, h]
theorem RowB.below {B : Nat} (h : RowB w g e l) (hb : Below B w w') (hg : g < B) : RowB w' g e l := (hb.block g hg).trans h
theorem RowB.step (h : RowB w g e l) (hb : Below w.heap.size w w') : RowB w' g e l := h.below hb h.lt
theorem RowB.bytes (h : RowB w g e l) (hl : l.length ≤ maxLen) : Bytes w g (g + 1) (.slice (some ⟨g, 0, none⟩) l.length l.length) l := by
  refine ⟨_, _, rfl, Nat.le_refl _, hl, fun _ => ⟨g, 0, rfl, Nat.le_refl _, Nat.lt_succ_self _, fun i x hx => ?_⟩, fun h => by cases h⟩
  rw [Nat.zero_add, h.cell, hx]
  rfl
theorem RowB.thawed (h : RowB w g e l) (n c : Nat) : Thawed w (.slice (some ⟨g, 0, none⟩) n c) := by
  intro b off m c' he i _
  cases he
  exact h.frozen _
end
/-- The first ones of a slice. -/
theorem Bytes.pre {w : World} {lo hi : Nat} {a : Option Addr} {n c : Nat} {l : List UInt8} (h : Bytes w lo hi (.slice a n c) l) (k : Nat) (hk : k ≤ l.length) : Bytes w lo hi (.slice a k c) (l.take k) := by
  obtain ⟨a', c', e, h1, h2, h3, h4⟩ := h
  cases e
  have hl : (l.take k).length = k := by simp; omega
  refine ⟨a, c, by rw [hl], by omega, h2, fun hp => ?_, h4⟩
  obtain ⟨b, off, rfl, hlo, hhi, hc⟩ := h3 (by omega)
  refine ⟨b, off, rfl, hlo, hhi, fun i x hx => ?_⟩
  rw [List.getElem?_take] at hx
  split at hx
  · exact hc _ _ hx
  · cases hx

theorem wpList_makeB {P : Program} {w : World} {ops : Array Oper} {rest : List Oper} {o : Oper} {a : Act} {Q : Exit → Act → World → Prop}
    (hgd : o.guard = none) (s c : Operand) (t : TypeId) (ho : o.op = Op.makeSlice t s c) (e : TypeId) (ht : P.underlying t = some (.slice e))
    (hi : (P.info? e).map (fun i => (i.zero, i.size, i.bytes)) = some (some (.int .u8 0), 1, 1)) (n : Nat) (hs : a.eval s = .int .i64 n) (hc : a.eval c = .int .i64 n) (hn : n ≤ 140737488355328)
    (h : ∀ w', RowB w' w.heap.size e (List.replicate n 0) → Below w.heap.size w w' → wpList P ops Q rest (a.put o.dst (.slice (some ⟨w.heap.size, 0, none⟩) n n)) w') : wpList P ops Q (o :: rest) a w := by
  obtain ⟨i0, hi0, hz0, hz1, hz2⟩ := info_parts hi
  refine wpList_make_full w hgd s c t ho w.heap.size e i0 _ 1 ht hi0 hz0 hz1 .i64 .i64 n n n hs hc rfl rfl (by rw [hz2]; omega) (by unfold maxLen; omega) (Nat.le_refl _) ?_
  intro w' hown hg
  refine h w' ?_ ((Below.refl _ _).grown hg (Nat.le_refl _) (fun k hk => by cases hk))
  rcases hown.2 with ⟨h0, _⟩ | ⟨g, cap, cur, hv, _, hh, _, _, hsz, htake⟩
  · cases h0
  · cases hv
    unfold RowB
    rw [hh]
    have hcur : cur.toList = (List.replicate n (0 : UInt8)).map bV := by
      rw [List.take_of_length_le (by simp; omega)] at htake
      rw [htake]
      have hz : (bV 0) = .int .u8 0 := rfl
      simp only [madeCells, Value.cells, Nat.mul_one, List.size_toArray, List.length_cons, List.length_nil, Nat.reduceAdd, Nat.mod_one, List.map_replicate, hz, Array.toList_map]
      apply List.ext_getElem <;> simp
    rw [← hcur]

theorem bV_ofNat (n : Int) (k : Nat) (h : n = (k % 256 : Nat)) : Value.int .u8 n = bV (UInt8.ofNat k) := by
  subst h
  simp [bV]
end Go.Proofs.Ytcibihakjcenaaa

