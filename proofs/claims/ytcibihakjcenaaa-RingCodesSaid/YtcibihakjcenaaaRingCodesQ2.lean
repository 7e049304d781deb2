/- RingCodes: the words and contracts, part 2. -/
import Derived.Test.YtcibihakjcenaaaRingCodesQ1
import Derived.Test.YtcibihakjcenaaaProg
import Derived.WalkKit
import Derived.WalkLawsBesides
import Derived.WalkSpells
import Derived.Lib.Hide
import Derived.Laws.Rows
import Derived.Laws.AppendOwnNone
import Derived.Maps.AppendAt
import Derived.ProofKit
import Derived.Deep.Slices
import Derived.WideShapes
import Derived.RangeFuncNested
import Derived.RangeFuncBound
import Derived.RangeFuncCalls
import Derived.RangeFuncLeaves
import Derived.RangeFuncBox
import Derived.Shelf.Abstract
import Derived.Shelf.RegionOpen
import Derived.OwnWalkIn
import Derived.TacticsInMore
import Derived.LoopNIn
import Derived.LoopIn
namespace Go.Proofs.Ytcibihakjcenaaa
open Go.RowKit Go.ChangeShapes Go.WideShapes Go.Deep

/-- Between lo and hi nothing has turned. -/
def Kp (lo hi : Nat) (w w' : World) : Prop :=
  ∀ b o, lo ≤ b → b < hi → w'.cell? ⟨b, o, none⟩ = w.cell? ⟨b, o, none⟩ ∧ w'.frozen? ⟨b, o, none⟩ = w.frozen? ⟨b, o, none⟩
theorem Kp.of_below {B lo hi : Nat} {w w' : World} (h : Below B w w') (hB : hi ≤ B) : Kp lo hi w w' := fun b o _ hh =>
  ⟨h.cell (p := ⟨b, o, none⟩) (by show b < B; omega), h.frozen (p := ⟨b, o, none⟩) (by show b < B; omega)⟩
theorem Kp.sub {lo hi lo' hi' : Nat} {w w' : World} (h : Kp lo hi w w') (h1 : lo ≤ lo') (h2 : hi' ≤ hi) : Kp lo' hi' w w' := fun b o g1 g2 => h b o (by omega) (by omega)
theorem Kp.refl (lo hi : Nat) (w : World) : Kp lo hi w w := fun _ _ _ _ => ⟨rfl, rfl⟩
theorem Kp.trans {lo hi : Nat} {a b c : World} (h : Kp lo hi a b) (k : Kp lo hi b c) : Kp lo hi a c := fun x o h1 h2 => ⟨(k x o h1 h2).1.trans (h x o h1 h2).1, (k x o h1 h2).2.trans (h x o h1 h2).2⟩

theorem Bytes.at_n {w : World} {lo hi : Nat} {v : Value} {l : List UInt8} {n : Nat} (h : Bytes w lo hi v l) (hn : l.length = n) (hp : 0 < n) :
    ∃ b off c, v = .slice (some ⟨b, off, none⟩) n c ∧ lo ≤ b ∧ b < hi ∧ n ≤ c ∧ c ≤ maxLen ∧ ∀ i x, l[i]? = some x → w.cell? ⟨b, off + i, none⟩ = some (bV x) := by
  subst hn
  exact h.at_ hp
theorem Bytes.cellAt {w : World} {lo hi b off n c : Nat} {l : List UInt8} (h : Bytes w lo hi (.slice (some ⟨b, off, none⟩) n c) l) (i : Nat) (x : UInt8) (hx : l[i]? = some x) : w.cell? ⟨b, off + i, none⟩ = some (bV x) := by
  obtain ⟨a, c', e, h1, h2, h3, h4⟩ := h
  cases e
  obtain ⟨b', off', ea, _, _, hc⟩ := h3 (by have := (List.getElem?_eq_some_iff.1 hx).1; omega)
  cases ea
  exact hc i x hx
theorem Bytes.form {w : World} {lo hi : Nat} {v : Value} {l : List UInt8} {n : Nat} (h : Bytes w lo hi v l) (hn : l.length = n) :
    ∃ a c, v = .slice a n c ∧ n ≤ c ∧ c ≤ maxLen := by
  subst hn
  obtain ⟨a, c, e, h1, h2, _⟩ := h
  exact ⟨a, c, e, h1, h2⟩
/-- How an element of a slice lies in its cells. -/
structure Rd (α : Type) where
  n : Nat
  R : World → Nat → Nat → α → (Nat → Option Value) → Prop
  keep : ∀ {w w' : World} {lo hi : Nat} {x : α} {f : Nat → Option Value}, Kp lo hi w w' → R w lo hi x f → R w' lo hi x f
  more : ∀ {w : World} {lo hi lo' hi' : Nat} {x : α} {f : Nat → Option Value}, lo' ≤ lo → hi ≤ hi' → R w lo hi x f → R w lo' hi' x f
  ext : ∀ {w : World} {lo hi : Nat} {x : α} {f g : Nat → Option Value}, (∀ j, j < n → f j = g j) → R w lo hi x f → R w lo hi x g

/-- The slice value v holds l. -/
def Sl {α : Type} (r : Rd α) (w : World) (lo hi : Nat) (v : Value) (l : List α) : Prop :=
  ∃ a c, v = .slice a l.length c ∧ l.length ≤ c ∧ c ≤ maxLen ∧
    (0 < l.length → ∃ b off, a = some ⟨b, off, none⟩ ∧ lo ≤ b ∧ b < hi ∧ ∀ i x, l[i]? = some x → r.R w lo hi x (fun j => w.cell? ⟨b, off + i * r.n + j, none⟩)) ∧ (a = none → c = 0)

section
variable {α : Type} {r : Rd α} {w w' : World} {lo hi lo' hi' : Nat} {v : Value} {l : List α}
theorem Sl.keep (h : Sl r w lo hi v l) (hk : Kp lo hi w w') : Sl r w' lo hi v l := by
  obtain ⟨a, c, e, h1, h2, h3, h4⟩ := h
  refine ⟨a, c, e, h1, h2, fun hp => ?_, h4⟩
  obtain ⟨b, off, ea, hlo, hhi, hc⟩ := h3 hp
  exact ⟨b, off, ea, hlo, hhi, fun i x hx => r.ext (fun j _ => (hk b _ hlo hhi).1.symm) (r.keep hk (hc i x hx))⟩
theorem Sl.more (h : Sl r w lo hi v l) (h1 : lo' ≤ lo) (h2 : hi ≤ hi') : Sl r w lo' hi' v l := by
  obtain ⟨a, c, e, g1, g2, h3, h4⟩ := h
  refine ⟨a, c, e, g1, g2, fun hp => ?_, h4⟩
  obtain ⟨b, off, ea, hlo, hhi, hc⟩ := h3 hp
  exact ⟨b, off, ea, by omega, by omega, fun i x hx => r.more h1 h2 (hc i x hx)⟩
theorem Sl.below {B : Nat} (h : Sl r w lo hi v l) (hb : Below B w w') (hB : hi ≤ B) : Sl r w' lo hi v l := h.keep (Kp.of_below hb hB)
theorem Sl.step (h : Sl r w lo w.heap.size v l) (hb : Below w.heap.size w w') : Sl r w' lo w'.heap.size v l := (h.below hb (Nat.le_refl _)).more (Nat.le_refl _) hb.size
theorem Sl.all0 (h : Sl r w lo hi v l) : Sl r w 0 hi v l := h.more (Nat.zero_le _) (Nat.le_refl _)
theorem Sl.nil_ (w : World) (lo hi : Nat) : Sl r w lo hi (.slice none 0 0) [] := ⟨none, 0, rfl, Nat.le_refl _, Nat.zero_le _, fun h => absurd h (by simp), fun _ => rfl⟩
theorem Sl.len_le (h : Sl r w lo hi v l) : l.length ≤ maxLen := by obtain ⟨a, c, e, g1, g2, h3⟩ := h; omega
theorem Sl.at_ (h : Sl r w lo hi v l) (hp : 0 < l.length) :
    ∃ b off c, v = .slice (some ⟨b, off, none⟩) l.length c ∧ lo ≤ b ∧ b < hi ∧ l.length ≤ c ∧ c ≤ maxLen ∧ ∀ i x, l[i]? = some x → r.R w lo hi x (fun j => w.cell? ⟨b, off + i * r.n + j, none⟩) := by
  obtain ⟨a, c, rfl, h1, h2, h3, _⟩ := h
  obtain ⟨b, off, rfl, hlo, hhi, hc⟩ := h3 hp
  exact ⟨b, off, c, rfl, hlo, hhi, h1, h2, hc⟩
/-- A slice of some of its elements. -/
theorem Sl.cut {b off n c : Nat} (h : Sl r w lo hi (.slice (some ⟨b, off, none⟩) n c) l) (i k c' : Nat) (hik : i + k ≤ l.length) (hk : k ≤ c') (hc : c' ≤ maxLen) :
    Sl r w lo hi (.slice (some ⟨b, off + i * r.n, none⟩) k c') ((l.drop i).take k) := by
  obtain ⟨a, c, e, h1, h2, h3, h4⟩ := h
  have hl : ((l.drop i).take k).length = k := by simp; omega
  refine ⟨_, _, by rw [hl], by omega, hc, fun hp => ?_, fun h => by cases h⟩
  obtain ⟨b', off', ea, hlo, hhi, hc⟩ := h3 (by omega)
  cases e
  cases ea
  refine ⟨b, off + i * r.n, rfl, hlo, hhi, fun j x hx => ?_⟩
  rw [List.getElem?_take] at hx
  split at hx
  · rw [List.getElem?_drop] at hx
    have := hc _ _ hx
    rw [Nat.add_mul, ← Nat.add_assoc] at this
    exact this
  · cases hx
end

def rInt (k : IntKind) : Rd Int where
  n := 1
  R _ _ _ x f := f 0 = some (.int k x) ∧ (Lit.int k x).wf = true
  keep _ h := h
  more _ _ h := h
  ext he h := ⟨(he 0 (by decide)) ▸ h.1, h.2⟩
theorem Bytes.kept {w w' : World} {lo hi : Nat} {v : Value} {l : List UInt8} (h : Bytes w lo hi v l) (hk : Kp lo hi w w') : Bytes w' lo hi v l := h.keep fun b o h1 h2 => (hk b o h1 h2).1
def rBytes : Rd (List UInt8) where
  n := 1
  R w lo hi x f := ∃ v, f 0 = some v ∧ Bytes w lo hi v x
  keep hk h := by obtain ⟨v, h1, h2⟩ := h; exact ⟨v, h1, h2.kept hk⟩
  more h1 h2 h := by obtain ⟨v, g1, g2⟩ := h; exact ⟨v, g1, g2.more h1 h2⟩
  ext he h := by obtain ⟨v, g1, g2⟩ := h; exact ⟨v, (he 0 (by decide)) ▸ g1, g2⟩
/-- A place, and bytes. -/
structure WrL where
  at_ : Int
  data : List UInt8
  deriving DecidableEq
def rWrite : Rd WrL where
  n := 2
  R w lo hi x f := f 0 = some (.int .i64 x.at_) ∧ (Lit.int .i64 x.at_).wf = true ∧ ∃ v, f 1 = some v ∧ Bytes w lo hi v x.data
  keep hk h := by obtain ⟨g0, g1, v, h1, h2⟩ := h; exact ⟨g0, g1, v, h1, h2.kept hk⟩
  more h1 h2 h := by obtain ⟨g0, g1, v, k1, k2⟩ := h; exact ⟨g0, g1, v, k1, k2.more h1 h2⟩
  ext he h := by obtain ⟨g0, g1, v, k1, k2⟩ := h; exact ⟨(he 0 (by decide)) ▸ g0, g1, v, (he 1 (by decide)) ▸ k1, k2⟩
structure KeyL where
  kind : UInt8
  id : UInt32
  off : UInt32
  deriving DecidableEq
structure ItemL where
  key : KeyL
  ref : Int
  val : List UInt8
  deriving DecidableEq
def wV (x : UInt32) : Value := .int .u32 (x.toNat : Int)
def rItem : Rd ItemL where
  n := 5
  R w lo hi x f := f 0 = some (bV x.key.kind) ∧ f 1 = some (wV x.key.id) ∧ f 2 = some (wV x.key.off) ∧ f 3 = some (.int .i64 x.ref) ∧ (Lit.int .i64 x.ref).wf = true ∧ ∃ v, f 4 = some v ∧ Bytes w lo hi v x.val
  keep hk h := by obtain ⟨g0, g1, g2, g3, g4, v, h1, h2⟩ := h; exact ⟨g0, g1, g2, g3, g4, v, h1, h2.kept hk⟩
  more h1 h2 h := by obtain ⟨g0, g1, g2, g3, g4, v, k1, k2⟩ := h; exact ⟨g0, g1, g2, g3, g4, v, k1, k2.more h1 h2⟩
  ext he h := by
    obtain ⟨g0, g1, g2, g3, g4, v, k1, k2⟩ := h
    exact ⟨(he 0 (by decide)) ▸ g0, (he 1 (by decide)) ▸ g1, (he 2 (by decide)) ▸ g2, (he 3 (by decide)) ▸ g3, g4, v, (he 4 (by decide)) ▸ k1, k2⟩
structure SupL where
  gen : UInt32
  root : Int
  next : UInt32
  table : UInt32
  dead : List Int
  deriving DecidableEq
structure DiskL where
  blocks : List (List UInt8)
  waits : List WrL
  deriving DecidableEq
/-- The two slices of a disk. -/
def DiskV (w : World) (lo hi : Nat) (b u : Value) (d : DiskL) : Prop := Sl rBytes w lo hi b d.blocks ∧ Sl rWrite w lo hi u d.waits
section
variable {H : Type} {enc : TypeId × Value → H} {P : Program} {w : World} {base : Nat} {spare : Nat → Bool} {held : Bool} {fuel : Nat} {t : TypeId} {cs : List Value} {x : DataW H × List MemPlace}
theorem trod_fields {fs : Array Field} (ht : P.underlying t = some (.struct fs)) (h : DataW.trod enc P w base spare held fuel t cs = some x) :
    cs.length = P.cellsOf t ∧ ∃ n, ∀ f ∈ fs.toList, ∃ y, DataW.trod enc P w base spare held n f.type ((cs.drop f.offset).take (P.cellsOf f.type)) = some y := by
  cases fuel with
  | zero => simp [DataW.trod] at h
  | succ n =>
    unfold DataW.trod at h
    rw [ht] at h
    simp only at h
    split at h
    · rename_i hl
      refine ⟨hl, n, fun f hf => ?_⟩
      obtain ⟨z, hz, _⟩ := Option.map_eq_some_iff.1 h
      obtain ⟨i, hi⟩ := List.mem_iff_getElem?.1 hf
      obtain ⟨y, hy⟩ : ∃ y, z[i]? = some y := by
        have := mapM_some_length hz
        exact ⟨z[i]'(by rw [this]; exact (List.getElem?_eq_some_iff.1 hi).1), by simp⟩
      exact ⟨y, (mapM_some_get hz i f hi).trans hy⟩
    · cases h
theorem cells_at {a : Addr} {n : Nat} {cs' : List Value} (h : w.cells? base a n = some cs') : cs'.length = n ∧ ∀ j, j < n → cs'[j]? = w.cell? (a.add j) := by
  obtain ⟨_, h2, h3⟩ := World.cells?_some h
  exact ⟨h2, fun j hj => (h3 j hj).symm⟩
/-- How cells that are read as a type are an element of a slice. -/
def Opens {α : Type} (P : Program) (e : TypeId) (r : Rd α) : Prop :=
  ∀ {H : Type} {enc : TypeId × Value → H} {w : World} {base : Nat} {spare : Nat → Bool} {held : Bool} {fuel : Nat} {cs : List Value} {x : DataW H × List MemPlace},
    DataW.trod enc P w base spare held fuel e cs = some x → cs.length = r.n → ∃ y : α, r.R w 0 w.heap.size y (fun j => cs[j]?)
theorem list_of {α : Type} {n : Nat} {p : Nat → α → Prop} (h : ∀ i, i < n → ∃ x, p i x) : ∃ l : List α, l.length = n ∧ ∀ i x, l[i]? = some x → p i x := by
  induction n with
  | zero => exact ⟨[], rfl, fun i x h => by simp at h⟩
  | succ n ih =>
    obtain ⟨l, hl, ha⟩ := ih (fun i hi => h i (Nat.lt_succ_of_lt hi))
    obtain ⟨x, hx⟩ := h n (Nat.lt_succ_self n)
    refine ⟨l ++ [x], by simp [hl], fun i y hy => ?_⟩
    rcases Nat.lt_trichotomy i n with h1 | h1 | h1
    · rw [List.getElem?_append_left (by omega)] at hy; exact ha i y hy
    · subst h1
      rw [List.getElem?_append_right (by omega), hl, Nat.sub_self] at hy
      cases hy; exact hx
    · rw [List.getElem?_eq_none (by simp; omega)] at hy; cases hy
theorem open_sl {α : Type} {r : Rd α} {e : TypeId} (ht : P.underlying t = some (.slice e)) (hr : P.cellsOf e = r.n) (hn : 0 < r.n) (hop : Opens P e r) (h : DataW.trod enc P w base spare held fuel t cs = some x) :
    ∃ v l, cs = [v] ∧ Sl r w 0 w.heap.size v l := by
  rcases open_slice ht h with ⟨rfl, _⟩ | ⟨a, len, cap, m, n, D, Pl, rfl, _, hl, hm, hmm, _, hel⟩
  · exact ⟨_, [], rfl, Sl.nil_ _ _ _⟩
  have hml : len ≤ m := by rw [hmm]; split <;> omega
  have hex : ∀ i, i < len → ∃ y : α, r.R w 0 w.heap.size y (fun j => w.cell? (a.add (i * r.n + j))) := by
    intro i hi
    obtain ⟨cs', h1, h2⟩ := hel i (by omega)
    rw [hr] at h1
    obtain ⟨h3, h4⟩ := cells_at h1
    obtain ⟨y, hy⟩ := hop h2 h3
    exact ⟨y, r.ext (fun j hj => by rw [h4 j hj, add_add]) hy⟩
  have hsb : 0 < len → a.spot = none ∧ a.block < w.heap.size := by
    intro hi
    obtain ⟨cs', h1, h2⟩ := hel 0 (by omega)
    rw [hr] at h1
    obtain ⟨h3, h4⟩ := cells_at h1
    have h0 : w.cell? a = some (cs'[0]'(by omega)) := by
      have := h4 0 hn
      simp only [Nat.zero_mul, Addr.add, if_true] at this
      rw [← this]; simp
    exact ⟨World.cell?_spot h0, cell_lt' h0⟩
  obtain ⟨l, hlen, hall⟩ := list_of hex
  refine ⟨_, l, rfl, some a, cap, by rw [hlen], by omega, hm, fun hp => ?_, fun h => by cases h⟩
  obtain ⟨hs, hb⟩ := hsb (by omega)
  obtain ⟨b, off, spot⟩ := a
  dsimp only at hs hb
  subst hs
  refine ⟨b, off, rfl, Nat.zero_le _, hb, fun i y hy => r.ext (fun j _ => ?_) (hall i y hy)⟩
  have e2 : (⟨b, off, none⟩ : Addr).add (i * r.n + j) = ⟨b, off + i * r.n + j, none⟩ := by unfold Addr.add; split <;> simp_all <;> omega
  rw [e2]
end
end Go.Proofs.Ytcibihakjcenaaa

namespace Go.Proofs.Ytcibihakjcenaaa
open Go.RowKit Go.Shelf
attribute [local go_sem] Oper.semAt_some

theorem cell_new_l (W : World) (v : Value) (t : TypeId) : (W.alloc (.cells #[v] t)).cell? ⟨W.heap.size, 0, none⟩ = some v ∧ (W.alloc (.cells #[v] t)).frozen? ⟨W.heap.size, 0, none⟩ = false :=
  ⟨by rw [World.cell?_alloc_new]; rfl, by apply World.frozen?_alloc_at; rfl⟩
theorem cell_alloc_l {W : World} {a : Addr} {v : Value} (o : Obj) (h : W.cell? a = some v) : (W.alloc o).cell? a = some v := cell_kept h (World.grownBy_alloc W o none) (fun r e => by cases e)
theorem frozen_alloc_l {W : World} {a : Addr} {v : Value} (o : Obj) (h : W.cell? a = some v) (hf : W.frozen? a = false) : (W.alloc o).frozen? a = false := (frozen_kept h (World.grownBy_alloc W o none) (fun r e => by cases e)).trans hf

/-- What has come of l from behind when k rounds are over: places and bytes. -/
def backTo (l : List UInt8) (k : Nat) : List (Nat × UInt8) := (List.range k).map fun j => (l.length - 1 - j, l.getD (l.length - 1 - j) 0)
theorem backTo_succ (l : List UInt8) (k : Nat) : backTo l (k + 1) = backTo l k ++ [(l.length - 1 - k, l.getD (l.length - 1 - k) 0)] := by simp [backTo, List.range_succ]
theorem backTo_length (l : List UInt8) (k : Nat) : (backTo l k).length = k := by simp [backTo]

/-- What a round keeps: all that lies below n₀, and one cell (the iterator's own). -/
def KeepB (n₀ Bs : Nat) (A B : World) : Prop := Below n₀ A B ∧ B.cell? ⟨Bs, 0, none⟩ = A.cell? ⟨Bs, 0, none⟩
theorem KeepB.refl (n₀ Bs : Nat) (A : World) : KeepB n₀ Bs A A := ⟨Below.refl _ _, rfl⟩
theorem KeepB.trans {n₀ Bs : Nat} {A B C : World} (h : KeepB n₀ Bs A B) (k : KeepB n₀ Bs B C) : KeepB n₀ Bs A C := ⟨h.1.trans k.1, k.2.trans h.2⟩
theorem keepB_b {w : World} {n₀ Bs : Nat} (hn : n₀ ≤ w.heap.size) (hB : Bs < w.heap.size) : ∀ (W : World) (l : Nat) (o o' : Obj), w.heap.size ≤ l → W.heap[l]? = some o → o.isCells = false → o.isWalk = false → KeepB n₀ Bs W (W.putObj l o') :=
  fun W l o o' h1 h2 h3 h4 => ⟨belowK_b hn W l o o' h1 h2 h3 h4, (belowK_b (w := w) (n₀ := Bs + 1) (by omega) W l o o' h1 h2 h3 h4).cell (p := ⟨Bs, 0, none⟩) (Nat.lt_succ_self _)⟩

set_option maxRecDepth 100000 in
set_option maxHeartbeats 2000000 in
theorem back1_in (F : Fence) (n : Nat) (h7 : F.fn 157) (hro : F.round = none) (hn : 1 ≤ n) (l Bs n₀ b off cap : Nat) (bs : List UInt8) (hlm : bs.length ≤ cap) (hcm : cap ≤ maxLen) (hb : b < n₀) (J Jx : List (Nat × UInt8) → World → Prop)
    (hY : ∀ pre x W, J pre W → pre.length < bs.length → YieldAt F (n - 1) Try.prog l #[.int .i64 (x.1 : Int), bV x.2] W fun e W' =>
      (e = .returned (.bool true) ∧ J (pre ++ [x]) W' ∧ KeepB n₀ Bs W W') ∨ (e = .returned (.bool false) ∧ Jx (pre ++ [x]) W'))
    (W : World) (hBs : W.cell? ⟨Bs, 0, none⟩ = some (.slice (some ⟨b, off, none⟩) bs.length cap)) (hc : ∀ i x, bs[i]? = some x → W.cell? ⟨b, off + i, none⟩ = some (bV x)) (h0 : J [] W) :
    CallsIn F n Try.prog 157 #[.func (.yield l) #[] #[], .pointer (some ⟨Bs, 0, none⟩)] W fun e W' => (∃ v, e = .returned v) ∧
      ((∃ ys, ys = backTo bs bs.length ∧ J ys W') ∨ (∃ pre, (∃ k, k ≤ bs.length ∧ pre = backTo bs k) ∧ Jx pre W')) := by
  unfold maxLen at hcm
  refine callsIn_of_wp Try.func157 rfl h7 ?_ hro
  simp only [Try.ntmps157, List.size_toArray, List.length_cons, List.length_nil, Nat.reduceAdd, Nat.reduceSub, Array.replicate_succ, Array.replicate_zero, List.push_toArray, List.append_toArray, List.nil_append, List.cons_append]
  gi_wp2
  gi_loopw [3] (fun i wr => ∃ k : Nat, k ≤ bs.length ∧ i = .int .i64 ((bs.length : Int) - 1 - k) ∧ J (backTo bs k) wr ∧ KeepB n₀ Bs W wr)
    (fun i _ => (intOf i + 1).toNat)
  case atStart => exact ⟨0, Nat.zero_le _, by simp, h0, KeepB.refl _ _ _⟩
  case round =>
    obtain ⟨k, hk, rfl, hJs, hnx⟩ := hrel
    have hBs' : wr.cell? ⟨Bs, 0, none⟩ = some (.slice (some ⟨b, off, none⟩) bs.length cap) := hnx.2.trans hBs
    by_cases hlt : k < bs.length
    · obtain ⟨m, hm, hmk⟩ : ∃ m : Nat, m < bs.length ∧ m + 1 + k = bs.length := ⟨bs.length - 1 - k, by omega, by omega⟩
      have hcx : wr.cell? ⟨b, off + m, none⟩ = some (bV (bs.getD m 0)) := (hnx.1.cell (p := ⟨b, off + m, none⟩) hb).trans (hc m _ (by simp [hm]))
      obtain ⟨fn, tmps, assign, body, hy, hR⟩ := hY _ (m, bs.getD m 0) wr hJs (by rw [backTo_length]; exact hlt)
      have hsucc : backTo bs (k + 1) = backTo bs k ++ [(m, bs.getD m 0)] := by rw [backTo_succ, show bs.length - 1 - k = m by omega]
      have HS := Lib.hid hsucc
      clear hsucc
      rw [show ((bs.length : Int) - 1 - (k : Int)) = (m : Int) by omega]
      dsimp only at hy
      generalize bs.getD m 0 = x at *
      unfold bV at hcx hy
      have HK := Lib.hid hmk
      clear hmk
      gi_wp2
      refine hR.mono ?_
      rintro e W3 (⟨rfl, hJ3, hk3⟩ | ⟨rfl, hJx3⟩)
      · gi_wp2
        go_roundw
        case rel => exact ⟨k + 1, by omega, by have := HK.out; congr 1 <;> omega, by rw [HS.out]; exact hJ3, hnx.trans hk3⟩
        case measure => (simp [intOf])
      · gi_wp2
        refine bodyPost_ret (results_none rfl _ _ _) rfl ?_
        exact ⟨⟨_, rfl⟩, .inr ⟨_, ⟨k + 1, by omega, HS.out.symm⟩, hJx3⟩⟩
    · obtain rfl : k = bs.length := by omega
      gi_wp2
      go_end0
      exact ⟨⟨_, rfl⟩, .inl ⟨_, rfl, hJs⟩⟩

set_option maxRecDepth 100000 in
set_option maxHeartbeats 1000000 in
theorem back1_none (F : Fence) (n : Nat) (h7 : F.fn 157) (hro : F.round = none) (l Bs cap : Nat) (a : Option Addr) (J : List (Nat × UInt8) → World → Prop) (W : World) (hBs : W.cell? ⟨Bs, 0, none⟩ = some (.slice a 0 cap)) (h0 : J [] W) :
    CallsIn F n Try.prog 157 #[.func (.yield l) #[] #[], .pointer (some ⟨Bs, 0, none⟩)] W fun e W' => (∃ v, e = .returned v) ∧ J [] W' := by
  refine callsIn_of_wp Try.func157 rfl h7 ?_ hro
  simp only [Try.ntmps157, List.size_toArray, List.length_cons, List.length_nil, Nat.reduceAdd, Nat.reduceSub, Array.replicate_succ, Array.replicate_zero, List.push_toArray, List.append_toArray, List.nil_append, List.cons_append]
  gi_wp2
  gi_loopw [3] (fun i wr => i = .int .i64 (-1) ∧ J [] wr) (fun _ _ => 0)
  case atStart => exact ⟨rfl, h0⟩
  case round =>
    obtain ⟨rfl, hJs⟩ := hrel
    gi_wp2
    go_end0
    exact ⟨⟨_, rfl⟩, hJs⟩

set_option maxHeartbeats 1000000 in
theorem back_in (F : Fence) (n : Nat) (h5 : F.fn 136) (hro : F.round = none) (a : Option Addr) (len cap : Nat) (w : World) :
    CallsIn F n Try.prog 136 #[.slice a len cap] w fun e w' => e = .returned (.func (.func 157) #[] #[.pointer (some ⟨w.heap.size, 0, none⟩)]) ∧ w' = w.alloc (.cells #[.slice a len cap] 26) := by
  refine callsIn_of_wp Try.func136 rfl h5 ?_ hro
  simp only [Try.ntmps136, List.size_toArray, List.length_cons, List.length_nil, Nat.reduceAdd, Nat.reduceSub, Array.replicate_succ, Array.replicate_zero, List.push_toArray, List.append_toArray, List.nil_append, List.cons_append]
  gi_wp2
  go_ret
  exact ⟨rfl, rfl⟩

/-- The value that slices.Backward hands back: all places and bytes, from behind; or the first k of them. -/
theorem back_stops (F : Fence) (n : Nat) (h7 : F.fn 157) (hro : F.round = none) (hn : 1 ≤ n) (Bs n₀ lo : Nat) (sv : Value) (bs : List UInt8) (w : World) (hBs : Bs < w.heap.size) (hn₀ : n₀ ≤ w.heap.size)
    (hc : w.cell? ⟨Bs, 0, none⟩ = some sv) (hI : Bytes w lo n₀ sv bs) :
    SeqStopsK F n Try.prog 157 #[.pointer (some ⟨Bs, 0, none⟩)] (fun x : Nat × UInt8 => #[.int .i64 (x.1 : Int), .int .u8 (x.2.toNat : Int)]) (KeepB n₀ Bs) (fun ys => ys = backTo bs bs.length)
      (fun pre => ∃ k, k ≤ bs.length ∧ pre = backTo bs k) bs.length w := fun l J Jx W hW _ _ hY h0 => by
  have hc' := (hW.cell (p := ⟨Bs, 0, none⟩) hBs).trans hc
  obtain ⟨a, c, rfl, h1, h2, h3, _⟩ := hI.below hW hn₀
  rcases Nat.eq_zero_or_pos bs.length with hz | hp
  · have : bs = [] := List.eq_nil_of_length_eq_zero hz
    subst this
    exact (back1_none F n h7 hro l Bs c a J W hc' h0).mono fun e W' ⟨he, hj⟩ => ⟨he, .inl ⟨_, rfl, hj⟩⟩
  · obtain ⟨b, off, rfl, _, hb, hcs⟩ := h3 hp
    exact back1_in F n h7 hro hn l Bs n₀ b off c bs h1 h2 hb J Jx hY W hc' hcs h0
end Go.Proofs.Ytcibihakjcenaaa

