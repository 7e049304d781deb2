/- NodeCodes: the words and contracts, part 3. -/
import Derived.Test.YthealkfpflkipaaNodeCodesQ1
import Derived.Test.YthealkfpflkipaaNodeCodesQ2
import Derived.WalkKit
import Derived.WalkLawsBesides
import Derived.WalkSpells
import Derived.Lib.Hide
import Derived.Laws.Rows
import Derived.Laws.AppendOwnNone
import Derived.Maps.AppendAt
import Derived.ProofKit
import Derived.Deep.Slices
import Derived.WideShapes
import Derived.RangeFuncNested
import Derived.RangeFuncBound
import Derived.RangeFuncCalls
import Derived.RangeFuncLeaves
import Derived.RangeFuncBox
import Derived.Shelf.Abstract
import Derived.Shelf.RegionOpen
import Derived.OwnWalkIn
import Derived.TacticsInMore
import Derived.LoopNIn
import Derived.LoopIn
import Derived.Lib.AppendZerosOnto
import Derived.Lib.SliceRun
import Derived.Lib.Walk
import Derived.Deep.LoopGhost
import Derived.Laws.CopyOwn
import Derived.Laws.CopyRow
import Derived.OrdersHeld
import Derived.Deep.QuietTactic
import Derived.BigQuiet
namespace Go.Proofs.Ythealkfpflkipaa
open Go.RowKit

/-- What is in cells stays. -/
def CKc (w w' : World) : Prop := ∀ a v, w.cell? a = some v → w'.cell? a = some v ∧ w'.frozen? a = w.frozen? a
theorem CKc.refl (w : World) : CKc w w := fun _ _ h => ⟨h, rfl⟩
theorem CKc.trans {a b c : World} (h : CKc a b) (k : CKc b c) : CKc a c := fun p v e => ⟨(k p v (h p v e).1).1, ((k p v (h p v e).1).2).trans (h p v e).2⟩
theorem Bytes.ck {w w' : World} (h : CKc w w') {lo hi : Nat} {v : Value} {l : List UInt8} (hb : Bytes w lo hi v l) : Bytes w' lo hi v l := by
  obtain ⟨a, c, e, h1, h2, h3, h4⟩ := hb
  refine ⟨a, c, e, h1, h2, fun hp => ?_, h4⟩
  obtain ⟨b, off, ea, hlo, hhi, hc⟩ := h3 hp
  exact ⟨b, off, ea, hlo, hhi, fun i x hx => (h _ _ (hc i x hx)).1⟩
theorem thawed_ck {w w' : World} (h : CKc w w') {lo hi : Nat} {v : Value} {l : List UInt8} (hb : Bytes w lo hi v l) (ht : Thawed w v) : Thawed w' v := by
  intro b off n c e i hi
  obtain ⟨a, c', e', h1, h2, h3, h4⟩ := hb
  subst e
  cases e'
  obtain ⟨b', off', ea, _, hhi, hc⟩ := h3 (by omega)
  cases ea
  have hil : l[i]? = some (l[i]'hi) := by simp [hi]
  rw [(h _ _ (hc i _ hil)).2]
  exact ht _ _ _ _ rfl i hi
def RdCK {α : Type} (r : Rd α) : Prop := ∀ {w w' : World} {lo hi : Nat} {x : α} {f g : Nat → Option Value}, CKc w w' → (∀ j v, f j = some v → g j = some v) → r.R w lo hi x f → r.R w' lo hi x g
theorem Sl.ck {α : Type} {r : Rd α} (hr : RdCK r) {w w' : World} {lo hi : Nat} {v : Value} {l : List α} (h : Sl r w lo hi v l) (hc : CKc w w') : Sl r w' lo hi v l := by
  obtain ⟨a, c, e, h1, h2, h3, h4⟩ := h
  refine ⟨a, c, e, h1, h2, fun hp => ?_, h4⟩
  obtain ⟨b, off, ea, hlo, hhi, hx⟩ := h3 hp
  exact ⟨b, off, ea, hlo, hhi, fun i x hxi => hr hc (fun j v hv => (hc _ _ hv).1) (hx i x hxi)⟩
/-- The world without some blocks. -/
def hideW (w : World) (S : Nat → Bool) : World := { w with heap := w.heap.mapIdx fun i o => if S i then .cells #[] 0 (0, 0) else o }
theorem hideW_get (w : World) (S : Nat → Bool) (k : Nat) (h : S k = false) : (hideW w S).heap[k]? = w.heap[k]? := by
  unfold hideW
  simp only [Array.getElem?_mapIdx]
  cases w.heap[k]? with
  | none => rfl
  | some o => simp [h]
theorem hideW_cell (w : World) (S : Nat → Bool) (a : Addr) (h : S a.block = false) : (hideW w S).cell? a = w.cell? a := World.cell?_of_block (hideW_get w S _ h)
theorem hideW_frozen (w : World) (S : Nat → Bool) (a : Addr) (h : S a.block = false) : (hideW w S).frozen? a = w.frozen? a := World.frozen?_of_block (hideW_get w S _ h)
theorem hideW_no (w : World) (S : Nat → Bool) (a : Addr) (h : S a.block = true) : (hideW w S).cell? a = none := by
  unfold World.cell? hideW
  simp only [Array.getElem?_mapIdx]
  cases w.heap[a.block]? with
  | none => rfl
  | some o => simp [h]
theorem hideW_ck {w w' : World} {S S' : Nat → Bool} (h : ∀ k, k < w.heap.size → S k = false → S' k = false ∧ w'.heap[k]? = w.heap[k]?) : CKc (hideW w S) (hideW w' S') := by
  intro a v hv
  have hS : S a.block = false := by
    cases e : S a.block with
    | false => rfl
    | true => rw [hideW_no w S a e] at hv; cases hv
  rw [hideW_cell w S a hS] at hv
  obtain ⟨h1, h2⟩ := h a.block (cell_lt' hv) hS
  rw [hideW_cell w' S' a h1, hideW_frozen w' S' a h1, hideW_frozen w S a hS, World.cell?_of_block h2, World.frozen?_of_block h2]
  exact ⟨hv, rfl⟩
theorem hideW_out (w : World) (S : Nat → Bool) : CKc (hideW w S) w := by
  intro a v hv
  have hS : S a.block = false := by
    cases e : S a.block with
    | false => rfl
    | true => rw [hideW_no w S a e] at hv; cases hv
  rw [hideW_cell w S a hS] at hv
  exact ⟨hv, (hideW_frozen w S a hS).symm⟩
/-- What lies in blocks that are not hidden. -/
theorem hideW_kp {w0 w : World} {lo hi : Nat} {S : Nat → Bool} (h : ∀ k, lo ≤ k → k < hi → S k = false ∧ w.heap[k]? = w0.heap[k]?) : Kp lo hi w0 (hideW w S) := fun b o h1 h2 => by
  obtain ⟨g1, g2⟩ := h b h1 h2
  exact ⟨(hideW_cell w S _ g1).trans (World.cell?_of_block g2), (hideW_frozen w S _ g1).trans (World.frozen?_of_block g2)⟩

/-- Blocks S, and the row's own. -/
def andOwn (S : Nat → Bool) (v : Value) (k : Nat) : Bool := S k || decide (v.ownBlock = some k)
theorem andOwn_no {S : Nat → Bool} {v : Value} {k : Nat} (h : andOwn S v k = false) : S k = false ∧ v.ownBlock ≠ some k := by
  unfold andOwn at h
  simpa using h
theorem andOwn_of {S : Nat → Bool} {v : Value} {k : Nat} (h1 : S k = false) (h2 : v.ownBlock ≠ some k) : andOwn S v k = false := by
  unfold andOwn
  simp [h1, h2]

/-- A row of the call's own that holds l: what its elements point to lies neither in the row nor in the blocks S. -/
def OwnR {α : Type} (r : Rd α) (base : Nat) (T : TypeId) (lo : Nat) (S : Nat → Bool) (w : World) (v : Value) (l : List α) : Prop :=
  (∀ g, v.ownBlock = some g → S g = false) ∧ ∃ xs, w.ownsRow base T r.n v l.length xs ∧ ∀ j x, l[j]? = some x → r.R (hideW w (andOwn S v)) lo w.heap.size x (fun i => xs[j * r.n + i]?)
theorem OwnR.nil_ {α : Type} (r : Rd α) (base : Nat) (T : TypeId) (lo : Nat) (S : Nat → Bool) (w : World) : OwnR r base T lo S w (.slice none 0 0) ([] : List α) :=
  ⟨fun g h => (by cases h), [], World.ownsRow_nil _ _ _ _, fun j x h => (by simp at h)⟩
theorem OwnR.lt {α : Type} {r : Rd α} {base : Nat} {T : TypeId} {lo : Nat} {S : Nat → Bool} {w : World} {v : Value} {l : List α} (h : OwnR r base T lo S w v l) : ∀ k, v.ownBlock = some k → base ≤ k ∧ k < w.heap.size := by
  obtain ⟨-, xs, h1, -⟩ := h
  exact h1.lt
theorem OwnR.form {α : Type} {r : Rd α} {base : Nat} {T : TypeId} {lo : Nat} {S : Nat → Bool} {w : World} {v : Value} {l : List α} (h : OwnR r base T lo S w v l) : ∃ ad c, v = .slice ad l.length c ∧ c ≤ maxLen := by
  obtain ⟨-, xs, h1, -⟩ := h
  rcases h1.2 with ⟨rfl, h0⟩ | ⟨g, cap, cur, rfl, -, -, -, h2, -⟩
  · exact ⟨none, 0, by rw [h0], Nat.zero_le _⟩
  · exact ⟨_, _, rfl, h2⟩
theorem OwnR.to {α : Type} {r : Rd α} (hr : RdCK r) {base : Nat} {T : TypeId} {lo : Nat} {S : Nat → Bool} {w w' : World} {v : Value} {l : List α} (h : OwnR r base T lo S w v l)
    (hs : w.heap.size ≤ w'.heap.size) (hk : ∀ k, k < w.heap.size → S k = false → w'.heap[k]? = w.heap[k]?) : OwnR r base T lo S w' v l := by
  have hlt := h.lt
  obtain ⟨h0, xs, ⟨hl, hrow⟩, hx⟩ := h
  refine ⟨h0, xs, ⟨hl, ?_⟩, fun j x hj => r.more (Nat.le_refl _) hs (hr (hideW_ck fun k h1 h2 => ⟨h2, hk k h1 (andOwn_no h2).1⟩) (fun _ _ e => e) (hx j x hj))⟩
  rcases hrow with h | ⟨g, cap, cur, rfl, hg, hh, rest⟩
  · exact .inl h
  · exact .inr ⟨g, cap, cur, rfl, hg, (hk g (hlt g rfl).2 (h0 g rfl)).trans hh, rest⟩
theorem OwnR.step {α : Type} {r : Rd α} (hr : RdCK r) {base : Nat} {T : TypeId} {lo : Nat} {S : Nat → Bool} {w w' : World} {v : Value} {l : List α} (h : OwnR r base T lo S w v l) (hB : Below w.heap.size w w') : OwnR r base T lo S w' v l :=
  h.to hr hB.size fun k hk _ => hB.block k hk
theorem OwnR.alloc {α : Type} {r : Rd α} (hr : RdCK r) {base : Nat} {T : TypeId} {lo : Nat} {S : Nat → Bool} {w : World} {v : Value} {l : List α} (h : OwnR r base T lo S w v l) (o : Obj) : OwnR r base T lo S (w.alloc o) v l :=
  h.step hr ((Below.refl _ _).alloc (Nat.le_refl _) o)
theorem OwnR.setS {α : Type} {r : Rd α} (hr : RdCK r) {base : Nat} {T : TypeId} {lo : Nat} {S : Nat → Bool} {w : World} {v : Value} {l : List α} (h : OwnR r base T lo S w v l) (p : Addr) (u : Value) (hp : S p.block = true) : OwnR r base T lo S (w.setCell p u) v l :=
  h.to hr (by rw [World.size_setCell]; exact Nat.le_refl _) fun k _ hk => Below.heap_setCell w p u k (fun e => by rw [e, hp] at hk; cases hk)
theorem OwnR.sl {α : Type} {r : Rd α} (hr : RdCK r) {base : Nat} {T : TypeId} {lo : Nat} {S : Nat → Bool} {w : World} {v : Value} {l : List α} (h : OwnR r base T lo S w v l) {lo' : Nat} (h1 : lo' ≤ base) (h2 : lo' ≤ lo) : Sl r w lo' w.heap.size v l := by
  obtain ⟨h0, xs, ⟨hl, hrow⟩, hx⟩ := h
  rcases hrow with ⟨rfl, hz⟩ | ⟨g, cap, cur, rfl, hg, hh, g1, g2, g3, g4⟩
  · have : l = [] := List.eq_nil_of_length_eq_zero (by omega)
    subst this
    exact Sl.nil_ _ _ _
  · refine ⟨_, _, rfl, g1, g2, fun _ => ⟨g, 0, rfl, by omega, (Array.getElem?_eq_some_iff.1 hh).1, fun i x hxi => ?_⟩, fun h => by cases h⟩
    have hc : ∀ j u, xs[j]? = some u → w.cell? ⟨g, j, none⟩ = some u := by
      intro j u hj
      rw [cell_of_row w g j cur T (0, 0) hh, ← hj, ← g4, List.getElem?_take, if_pos]
      · simp
      · have := (List.getElem?_eq_some_iff.1 hj).1
        rw [hl] at this
        exact this
    refine r.more h2 (Nat.le_refl _) (hr (hideW_out w _) (fun j u hj => ?_) (hx i x hxi))
    show w.cell? ⟨g, 0 + i * r.n + j, none⟩ = some u
    rw [Nat.zero_add]
    exact hc _ _ hj
/-- The row may be written. -/
theorem OwnR.thaw {α : Type} {r : Rd α} {base : Nat} {T : TypeId} {lo : Nat} {S : Nat → Bool} {w : World} {v : Value} {l : List α} (h : OwnR r base T lo S w v l) : ∀ g o, v.ownBlock = some g → w.frozen? ⟨g, o, none⟩ = false := by
  obtain ⟨-, xs, ⟨-, hrow⟩, -⟩ := h
  intro g o hg
  rcases hrow with ⟨rfl, -⟩ | ⟨g', cap, cur, rfl, -, hh, -⟩
  · cases hg
  · cases hg
    simp [World.frozen?, hh]

/-- append to such a row. -/
theorem own_form {w : World} {base n size : Nat} {T : TypeId} {v : Value} {xs : List Value} (h : w.ownsRow base T size v n xs) : ∃ ad c, v = .slice ad n c := by
  rcases h.2 with ⟨rfl, h0⟩ | ⟨g, cap, cur, rfl, -⟩
  · exact ⟨none, 0, by rw [h0]⟩
  · exact ⟨_, _, rfl⟩
theorem OwnR.app {α : Type} {r : Rd α} (hr : RdCK r) {base : Nat} {T : TypeId} {lo : Nat} {S : Nat → Bool} {w w' : World} {v v' : Value} {l l2 : List α} {xs news : List Value} (h0 : ∀ g, v.ownBlock = some g → S g = false) (hrow : w.ownsRow base T r.n v l.length xs)
    (hx : ∀ j x, l[j]? = some x → r.R (hideW w (andOwn S v)) lo w.heap.size x (fun i => xs[j * r.n + i]?)) (hS : ∀ k, w.heap.size ≤ k → S k = false) (hy : ∀ j x, l2[j]? = some x → r.R (hideW w (andOwn S v)) lo w.heap.size x (fun i => news[j * r.n + i]?))
    (hown' : w'.ownsRow base T r.n v' (l.length + l2.length) (xs ++ news)) (hg : w.grownBy w' v.ownBlock) (hv : v'.ownBlock = v.ownBlock ∨ v'.ownBlock = some w.heap.size) : OwnR r base T lo S w' v' (l ++ l2) := by
  have hlt := hrow.lt
  have hck : CKc (hideW w (andOwn S v)) (hideW w' (andOwn S v')) := hideW_ck fun k h1 h2 => by
    obtain ⟨g1, g2⟩ := andOwn_no h2
    refine ⟨andOwn_of g1 ?_, hg.block k h1 (fun e => g2 e.symm)⟩
    rcases hv with e | e
    · rw [e]; exact g2
    · rw [e]; intro e2; cases e2; exact absurd h1 (Nat.lt_irrefl _)
  refine ⟨fun g hg' => ?_, xs ++ news, by rw [List.length_append]; exact hown', fun j x hj => ?_⟩
  · rcases hv with e | e
    · exact h0 g (e ▸ hg')
    · rw [e] at hg'; cases hg'; exact hS _ (Nat.le_refl _)
  · have hxl := hrow.1
    rcases Nat.lt_or_ge j l.length with hjl | hjl
    · rw [List.getElem?_append_left hjl] at hj
      refine r.more (Nat.le_refl _) hg.size (hr hck (fun i u hu => ?_) (hx j x hj))
      have := (List.getElem?_eq_some_iff.1 hu).1
      rw [List.getElem?_append_left this]
      exact hu
    · rw [List.getElem?_append_right hjl] at hj
      refine r.more (Nat.le_refl _) hg.size (hr hck (fun i u hu => ?_) (hy _ x hj))
      have e : j * r.n = l.length * r.n + (j - l.length) * r.n := by rw [← Nat.add_mul]; congr 1; omega
      rw [List.getElem?_append_right (by omega), show j * r.n + i - xs.length = (j - l.length) * r.n + i by omega]
      exact hu
theorem wp_append_run {P : Program} {w w' : World} {o : Oper} {a : Act} {K : Act → World → Prop} {Q : Exit → Act → World → Prop} (s x : Operand) (t : TypeId)
    (ho : o.op = .call { callee := .builtin .append, args := #[s, x], argTypes := #[t, t] }) {v v' sv : Value} (hs : a.eval s = v) (hx : a.eval x = sv) (hr : (Builtin.append_ #[t, t] o.type #[v, sv]).run P w = .ok v' w') (h : K (a.put o.dst v') w') : o.wp P a w K Q := by
  unfold Oper.wp
  simp only [execOp, ho, resolve, invoke, builtin, Sem.run_bind, Sem.run_pure, Result.andThen_ok, List.map_toArray, List.map_cons, List.map_nil, hs, hx, hr]
  exact h
/-- What an append to such a row comes to. -/
theorem run_appR {P : Program} {α : Type} {r : Rd α} (hr : RdCK r) {w : World} (t ty T : TypeId) (z : Value) (bytes : Nat) (ht : P.underlying t = some (.slice T)) (hi : (P.info? T).map (fun i => (i.zero, i.size, i.bytes)) = some (some z, r.n, bytes)) (hzs : z.cells.size = r.n) (hn0 : 0 < r.n)
    (base lo : Nat) (S : Nat → Bool) (v : Value) (l l2 : List α) (hown : OwnR r base T lo S w v l) (hS : ∀ k, w.heap.size ≤ k → S k = false)
    (ad : Addr) (c : Nat) (news : List Value) (hl2 : news.length = l2.length * r.n) (hnews : ∀ j u, news[j]? = some u → w.cell? (ad.add j) = some u) (h1 : ∀ u ∈ news, u.oneCell' = true)
    (hy : ∀ j x, l2[j]? = some x → r.R (hideW w (andOwn S v)) lo w.heap.size x (fun i => news[j * r.n + i]?))
    (hlen : l.length + l2.length ≤ 1000000) (hbytes : bytes ≤ 1000) (hbase : base ≤ w.heap.size) :
    ∃ ad' cc w', (Builtin.append_ #[t, t] ty #[v, .slice (some ad) l2.length c]).run P w = .ok (.slice ad' (l ++ l2).length cc) w' ∧ OwnR r base T lo S w' (.slice ad' (l ++ l2).length cc) (l ++ l2) ∧ Below base w w' ∧ ∀ k, k < w.heap.size → v.ownBlock ≠ some k → w'.heap[k]? = w.heap[k]? := by
  obtain ⟨i0, hi0, hz0, hz1, hz2⟩ := info_parts hi
  obtain ⟨h0, xs, hrow, hxs⟩ := hown
  obtain ⟨v', w', hrun, hown', hg, -, hv⟩ := run_append_own_at (P := P) w base t ty T i0 z r.n bytes ht hi0 hz0 hz1 hz2 hzs hn0 v l.length xs hrow ad l2.length c news hl2 hnews h1 (by unfold maxLen; omega) (Nat.le_trans (Nat.mul_le_mul hlen hbytes) (by omega)) hbase
  obtain ⟨ad', cc', hv'⟩ := own_form hown'
  have hB' : Below base w w' := ((Below.refl w.heap.size w).mono hbase).grown hg hbase (fun k hk => (hrow.lt k hk).1)
  have hR := OwnR.app hr h0 hrow hxs hS hy hown' hg hv
  have e : (l ++ l2).length = l.length + l2.length := List.length_append
  rw [← e] at hv'
  rw [hv'] at hR hrun
  exact ⟨ad', cc', w', hrun, hR, hB', fun k hk hne => hg.block k hk (fun e => hne e.symm)⟩
theorem wp_appR {P : Program} {α : Type} {r : Rd α} (hr : RdCK r) {w : World} {o : Oper} {a : Act} {K : Act → World → Prop} {Q : Exit → Act → World → Prop} (s x : Operand) (t : TypeId)
    (ho : o.op = .call { callee := .builtin .append, args := #[s, x], argTypes := #[t, t] }) (T : TypeId) (z : Value) (bytes : Nat) (ht : P.underlying t = some (.slice T)) (hi : (P.info? T).map (fun i => (i.zero, i.size, i.bytes)) = some (some z, r.n, bytes)) (hzs : z.cells.size = r.n) (hn0 : 0 < r.n)
    (base lo : Nat) (S : Nat → Bool) (v : Value) (l l2 : List α) (hs : a.eval s = v) (hown : OwnR r base T lo S w v l) (hS : ∀ k, w.heap.size ≤ k → S k = false)
    (ad : Addr) (c : Nat) (news : List Value) (hx : a.eval x = .slice (some ad) l2.length c) (hl2 : news.length = l2.length * r.n) (hnews : ∀ j u, news[j]? = some u → w.cell? (ad.add j) = some u) (h1 : ∀ u ∈ news, u.oneCell' = true)
    (hy : ∀ j x, l2[j]? = some x → r.R (hideW w (andOwn S v)) lo w.heap.size x (fun i => news[j * r.n + i]?))
    (hlen : l.length + l2.length ≤ 1000000) (hbytes : bytes ≤ 1000) (hbase : base ≤ w.heap.size)
    (h : ∀ ad cc w', OwnR r base T lo S w' (.slice ad (l ++ l2).length cc) (l ++ l2) → Below base w w' → (∀ k, k < w.heap.size → v.ownBlock ≠ some k → w'.heap[k]? = w.heap[k]?) → K (a.put o.dst (.slice ad (l ++ l2).length cc)) w') : o.wp P a w K Q := by
  obtain ⟨ad', cc, w', hrun, h1', h2', h3'⟩ := run_appR hr t o.type T z bytes ht hi hzs hn0 base lo S v l l2 hown hS ad c news hl2 hnews h1 hy hlen hbytes hbase
  exact wp_append_run s x t ho hs hx hrun (h _ _ _ h1' h2' h3')
theorem wpList_appR {P : Program} {α : Type} {r : Rd α} (hr : RdCK r) {w : World} {ops : Array Oper} {rest : List Oper} {o : Oper} {a : Act} {Q : Exit → Act → World → Prop} (hgd : o.guard = none) (s x : Operand) (t : TypeId)
    (ho : o.op = .call { callee := .builtin .append, args := #[s, x], argTypes := #[t, t] }) (T : TypeId) (z : Value) (bytes : Nat) (ht : P.underlying t = some (.slice T)) (hi : (P.info? T).map (fun i => (i.zero, i.size, i.bytes)) = some (some z, r.n, bytes)) (hzs : z.cells.size = r.n) (hn0 : 0 < r.n)
    (base lo : Nat) (S : Nat → Bool) (v : Value) (l l2 : List α) (hs : a.eval s = v) (hown : OwnR r base T lo S w v l) (hS : ∀ k, w.heap.size ≤ k → S k = false)
    (ad : Addr) (c : Nat) (news : List Value) (hx : a.eval x = .slice (some ad) l2.length c) (hl2 : news.length = l2.length * r.n) (hnews : ∀ j u, news[j]? = some u → w.cell? (ad.add j) = some u) (h1 : ∀ u ∈ news, u.oneCell' = true)
    (hy : ∀ j x, l2[j]? = some x → r.R (hideW w (andOwn S v)) lo w.heap.size x (fun i => news[j * r.n + i]?))
    (hlen : l.length + l2.length ≤ 1000000) (hbytes : bytes ≤ 1000) (hbase : base ≤ w.heap.size)
    (h : ∀ ad cc w', OwnR r base T lo S w' (.slice ad (l ++ l2).length cc) (l ++ l2) → Below base w w' → (∀ k, k < w.heap.size → v.ownBlock ≠ some k → w'.heap[k]? = w.heap[k]?) → wpList P ops Q rest (a.put o.dst (.slice ad (l ++ l2).length cc)) w') : wpList P ops Q (o :: rest) a w :=
  wpList_plain hgd fun _ hK => wp_appR hr s x t ho T z bytes ht hi hzs hn0 base lo S v l l2 hs hown hS ad c news hx hl2 hnews h1 hy hlen hbytes hbase fun _ _ _ g1 g2 g3 => hK _ _ (h _ _ _ g1 g2 g3)
/-- One element that was laid into a new block just so. -/
theorem news_one {w : World} (cs : Array Value) (T : TypeId) : ∀ j u, cs.toList[j]? = some u → (w.alloc (.cells cs T)).cell? ((⟨w.heap.size, 0, none⟩ : Addr).add j) = some u := by
  intro j u hu
  have e2 : (⟨w.heap.size, 0, none⟩ : Addr).add j = ⟨w.heap.size, j, none⟩ := by unfold Addr.add; split <;> simp_all
  rw [e2, cell_of_row _ w.heap.size j cs T (0, 0) (World.alloc_heap_new w _)]
  simpa using hu
end Go.Proofs.Ythealkfpflkipaa

namespace Go.Proofs.Ythealkfpflkipaa
open Go.RowKit

/-- The worlds that lie behind w: below w's size nothing has turned. Told by a world of any make. -/
noncomputable def aft (w W : World) : World := by
  classical exact if Below w.heap.size w W then W else w
theorem aft_below (w W : World) : Below w.heap.size w (aft w W) := by
  unfold aft
  split
  · assumption
  · exact Below.refl _ _
theorem aft_of {w W : World} (h : Below w.heap.size w W) : aft w W = W := by
  unfold aft
  rw [if_pos h]
def Cls (w : World) (w' : World) : Prop := ∃ W, w' = aft w W
attribute [go_sem] Cls
theorem Cls.of {w w' : World} (h : Below w.heap.size w w') : Cls w w' := ⟨w', (aft_of h).symm⟩
theorem Cls.below {w w' : World} (h : Cls w w') : Below w.heap.size w w' := by obtain ⟨W, rfl⟩ := h; exact aft_below w W
theorem Cls.refl (w : World) : Cls w w := Cls.of (Below.refl _ _)
theorem Cls.drew (w : World) : Cls w w.drew := Cls.of (Below.refl _ _).drew

/-- Operations that yield a value and enter nothing. -/
def calmOp (o : Oper) : Bool :=
  match o.op with
  | .move _ | .assign _ | .pick .. | .load .. | .binOp .. | .unOp .. | .convert .. | .slice .. | .fieldAddr .. | .field .. | .indexAddr .. | .index .. | .extract .. => true
  | .call { callee := .builtin .len, .. } => true
  | _ => false

section
variable {P : Program} {ops : Array Oper} {Q : Exit → Act → World → Prop} {md : Region.Mode} {S S' : World → Prop} {C : World → Prop}

theorem val_of {s : Sem Value} {w : World} {v : Value} (h : Oper.quietUpon P C w v ((do pure (Next.value (← s)) : Sem Next).run P w)) : ((do pure (Next.value (← s)) : Sem Next).run P w) = .ok (.value v) w := by
  simp only [Sem.run_bind] at h ⊢
  cases hs : s.run P w with
  | ok x w' =>
    rw [hs] at h
    simp only [Result.andThen, Sem.run_pure, Oper.quietUpon] at h ⊢
    obtain ⟨rfl, rfl⟩ := h
    rfl
  | halt x w' =>
    rw [hs] at h
    simp only [Result.andThen, Oper.quietUpon] at h

theorem calm_val {o : Oper} {a : Act} {w : World} {v : Value} (hc : calmOp o = true) (h : o.quietAt P a C w v) : (execOp a.eval o).run P w = .ok (.value v) w := by
  unfold Oper.quietAt at h
  obtain ⟨dst, op, ty, pos, aft, gd⟩ := o
  unfold calmOp at hc
  cases op with
  | move x =>
    simp only [execOp, Sem.run_pure, Oper.quietUpon] at h ⊢
    obtain ⟨_, rfl⟩ := h; rfl
  | assign x =>
    simp only [execOp, Sem.run_pure, Oper.quietUpon] at h ⊢
    obtain ⟨_, rfl⟩ := h; rfl
  | pick c x y =>
    have e : execOp a.eval { dst := dst, op := .pick c x y, type := ty, pos := pos, after := aft, guard := gd } = (do pure (Next.value (← (do pure (if ← asBool (a.eval c) then a.eval x else a.eval y) : Sem Value))) : Sem Next) := by
      simp [execOp]
    rw [e] at h ⊢
    exact val_of h
  | call c =>
    obtain ⟨callee, args, tys⟩ := c
    cases callee with
    | builtin b =>
      cases b with
      | len =>
        have e : execOp a.eval { dst := dst, op := .call { callee := .builtin .len, args := args, argTypes := tys }, type := ty, pos := pos, after := aft, guard := gd } = (do pure (Next.value (← Builtin.len_ tys ty (args.map a.eval))) : Sem Next) := by
          simp [execOp, resolve, invoke, builtin]
        rw [e] at h ⊢
        exact val_of h
      | _ => simp at hc
    | _ => simp at hc
  | load t x => exact val_of h
  | binOp op xt x y yt => exact val_of h
  | unOp op t x => exact val_of h
  | convert s d x => exact val_of h
  | slice t x lo hi mx => exact val_of h
  | fieldAddr s x f => exact val_of h
  | field xt x f => exact val_of h
  | indexAddr t x ix => exact val_of h
  | index xt x ix => exact val_of h
  | extract t ix => exact val_of h
  | _ => simp at hc

/-- A list of operations that may be taken one behind the other, first. -/
def segOk (md : Region.Mode) (ops : Array Oper) : List Nat → Array Bool → Bool
  | [], _ => true
  | i :: q, listed => (Region.ready md ops listed).contains i && Region.free md ops listed i && ((ops[i]?).map calmOp).getD false && segOk md ops q (listed.setIfInBounds i true)
def listAll : List Nat → Array Bool → Array Bool
  | [], l => l
  | i :: q, l => listAll q (l.setIfInBounds i true)
def consOp : Option Oper → List Oper → List Oper
  | some o, l => o :: l
  | none, l => l
theorem consOp_some (o : Oper) (l : List Oper) : consOp (some o) l = o :: l := rfl
def opsOf (ops : Array Oper) : List Nat → List Oper
  | [] => []
  | i :: q => consOp ops[i]? (opsOf ops q)
theorem opsOf_nil (ops : Array Oper) : opsOf ops [] = [] := rfl
theorem opsOf_cons (ops : Array Oper) (i : Nat) (q : List Nat) : opsOf ops (i :: q) = consOp ops[i]? (opsOf ops q) := rfl

theorem wpAnyH_seg (hs : Region.noSelect ops = true) (hQ : ∀ c (d : Option Tmp) (v : Value) (a : Act) w, Q (.panic c) (a.put d v) w → Q (.panic c) a w) {fuel : Nat} {w : World} (hS : S w) :
    ∀ (q : List Nat) (n : Nat) (listed : Array Bool) (a : Act), segOk md ops q listed = true → n = q.length + fuel →
      wpQuiet P ops S (fun a' => wpAnyH P md ops Q S fuel (listAll q listed) a' w) (opsOf ops q) a → wpAnyH P md ops Q S n listed a w
  | [], n, listed, a, _, hn, h => by
    subst hn
    simpa [opsOf, wpQuiet, listAll] using h
  | i :: q, n, listed, a, hok, hn, h => by
    simp only [segOk, Bool.and_eq_true] at hok
    obtain ⟨⟨⟨hr, hf⟩, hc⟩, hok'⟩ := hok
    cases hoi : ops[i]? with
    | none => simp [hoi] at hc
    | some o =>
      simp only [hoi, Option.map_some, Option.getD_some] at hc
      have hl' : opsOf ops (i :: q) = o :: opsOf ops q := by rw [opsOf_cons, hoi, consOp_some]
      rw [hl'] at h
      obtain rfl : n = (q.length + fuel) + 1 := by simp at hn; omega
      simp only [wpQuiet] at h
      split at h
      · rename_i hw
        obtain ⟨v, hv, hK⟩ := h
        exact wpAnyH_take hoi hs hf hr (fun c a w => hQ c _ _ a w) (.inl ⟨hw, fun w' hw' => calm_val hc (hv w' hw')⟩) hS (wpAnyH_seg hs hQ hS q _ _ _ hok' rfl hK)
      · rename_i hw
        exact wpAnyH_take hoi hs hf hr (fun c a w => hQ c _ _ a w) (.inr ⟨by simpa using hw, rfl⟩) hS (wpAnyH_seg hs hQ hS q _ _ _ hok' rfl h)

/-- A narrower class serves. -/
theorem wpAnyH_strong (hsub : ∀ W, S' W → S W) : ∀ (fuel : Nat) (listed : Array Bool) (a : Act) (w : World), wpAnyH P md ops Q S' fuel listed a w → wpAnyH P md ops Q S fuel listed a w
  | 0, _, _, _, h => h
  | fuel + 1, _, _, _, h => ⟨h.1, fun i hi => wpOp_mono (fun a' w' h' => ⟨hsub _ h'.1, wpAnyH_strong hsub fuel _ a' w' h'.2⟩) (h.2 i hi)⟩

/-- What is still to come behind an operation that was carried out: in a narrower class. -/
def After (P : Program) (md : Region.Mode) (ops : Array Oper) (Q : Exit → Act → World → Prop) (S : World → Prop) (fuel : Nat) (listed : Array Bool) (K : Act → World → Prop) : Prop :=
  ∀ (S' : World → Prop) a w, (∀ W, S' W → S W) → S' w → wpAnyH P md ops Q S' fuel listed a w → K a w
theorem After.out {fuel : Nat} {listed : Array Bool} {K : Act → World → Prop} (h : After P md ops Q S fuel listed K) (S' : World → Prop) {a : Act} {w : World} (hsub : ∀ W, S' W → S W) (hS : S' w) (hW : wpAnyH P md ops Q S' fuel listed a w) : K a w := h S' a w hsub hS hW

/-- Each of those that may come up now. -/
def Each (P : Program) (md : Region.Mode) (ops : Array Oper) (Q : Exit → Act → World → Prop) (S : World → Prop) (fuel : Nat) (listed : Array Bool) (a : Act) (w : World) (rs : List Nat) : Prop :=
  ∀ i ∈ rs, wpOp P ops Q i (fun a' w' => S w' ∧ wpAnyH P md ops Q S fuel (listed.setIfInBounds i true) a' w') a w
theorem Each.nil {fuel : Nat} {listed : Array Bool} {a : Act} {w : World} : Each P md ops Q S fuel listed a w [] := fun _ h => by cases h
theorem Each.cons {fuel : Nat} {listed : Array Bool} {a : Act} {w : World} {i : Nat} {rs : List Nat} (o : Oper) (ho : ops[i]? = some o)
    (h : ∀ K' : Act → World → Prop, After P md ops Q S fuel (listed.setIfInBounds i true) K' → if Region.wanted o (yielded ops a.tmps) = true then Oper.wp P o a w K' Q else K' (a.put o.dst undef) w)
    (hs : Each P md ops Q S fuel listed a w rs) : Each P md ops Q S fuel listed a w (i :: rs) := fun j hj => by
  rcases List.mem_cons.1 hj with rfl | hj
  · exact wpOp_step ho (fun K' hK => h K' (fun S' a w hsub hS hW => hK a w ⟨hsub _ hS, wpAnyH_strong hsub _ _ _ _ hW⟩))
  · exact hs j hj
theorem wpAnyH_each {n fuel : Nat} {listed : Array Bool} {a : Act} {w : World} (rs : List Nat) (hr : Region.ready md ops listed = rs) (hne : rs ≠ []) (hn : n = fuel + 1)
    (h : Each P md ops Q S fuel listed a w rs) : wpAnyH P md ops Q S n listed a w := by
  subst hn
  exact wpAnyH_all hr hne h
end
end Go.Proofs.Ythealkfpflkipaa

