/- CountTables: the words and contracts, part 9. -/
import Derived.Test.YthealkfpflkipaaCountTablesQ1
import Derived.Test.YthealkfpflkipaaCountTablesQ2
import Derived.Test.YthealkfpflkipaaCountTablesQ3
import Derived.Test.YthealkfpflkipaaCountTablesQ4
import Derived.Test.YthealkfpflkipaaCountTablesQ5
import Derived.Test.YthealkfpflkipaaCountTablesQ6
import Derived.Test.YthealkfpflkipaaCountTablesQ7
import Derived.Test.YthealkfpflkipaaCountTablesQ8
import Derived.WalkKit
import Derived.WalkLawsBesides
import Derived.WalkSpells
import Derived.Lib.Hide
import Derived.Laws.Rows
import Derived.Laws.AppendOwnNone
import Derived.Maps.AppendAt
import Derived.RangeFuncNested
import Derived.RangeFuncBound
import Derived.RangeFuncCalls
import Derived.RangeFuncLeaves
import Derived.RangeFuncBox
import Derived.Shelf.Abstract
import Derived.Shelf.RegionOpen
import Derived.OwnWalkIn
import Derived.TacticsInMore
import Derived.LoopNIn
import Derived.LoopIn
import Derived.ProofKit
import Derived.Deep.Slices
import Derived.WideShapes
import Derived.OrdersHeld
import Derived.Deep.QuietTactic
import Derived.BigQuiet
import Derived.StillTailTactics
import Derived.OpenShut
import Derived.Lib.SliceRun
import Derived.Lib.AppendZerosOnto
import Derived.Lib.Walk
import Derived.Deep.LoopGhost
import Derived.Laws.CopyOwn
import Derived.Deep.DeepCutAuto
import Derived.Laws.CopyRow
import Derived.Laws.MakeOwn
import Derived.Deep.RegionHeld
namespace Go.Proofs.Ythealkfpflkipaa
open Go.RowKit

def errC (d : DiskL) : Int := if mayD d then 0 else 8
end Go.Proofs.Ythealkfpflkipaa

namespace Go.Proofs.Ythealkfpflkipaa
open Go.RowKit

/-- What is in cells stays. -/
def CKc (w w' : World) : Prop := ∀ a v, w.cell? a = some v → w'.cell? a = some v ∧ w'.frozen? a = w.frozen? a
theorem CKc.refl (w : World) : CKc w w := fun _ _ h => ⟨h, rfl⟩
theorem CKc.trans {a b c : World} (h : CKc a b) (k : CKc b c) : CKc a c := fun p v e => ⟨(k p v (h p v e).1).1, ((k p v (h p v e).1).2).trans (h p v e).2⟩
theorem Bytes.ck {w w' : World} (h : CKc w w') {lo hi : Nat} {v : Value} {l : List UInt8} (hb : Bytes w lo hi v l) : Bytes w' lo hi v l := by
  obtain ⟨a, c, e, h1, h2, h3, h4⟩ := hb
  refine ⟨a, c, e, h1, h2, fun hp => ?_, h4⟩
  obtain ⟨b, off, ea, hlo, hhi, hc⟩ := h3 hp
  exact ⟨b, off, ea, hlo, hhi, fun i x hx => (h _ _ (hc i x hx)).1⟩
theorem thawed_ck {w w' : World} (h : CKc w w') {lo hi : Nat} {v : Value} {l : List UInt8} (hb : Bytes w lo hi v l) (ht : Thawed w v) : Thawed w' v := by
  intro b off n c e i hi
  obtain ⟨a, c', e', h1, h2, h3, h4⟩ := hb
  subst e
  cases e'
  obtain ⟨b', off', ea, _, hhi, hc⟩ := h3 (by omega)
  cases ea
  have hil : l[i]? = some (l[i]'hi) := by simp [hi]
  rw [(h _ _ (hc i _ hil)).2]
  exact ht _ _ _ _ rfl i hi
def RdCK {α : Type} (r : Rd α) : Prop := ∀ {w w' : World} {lo hi : Nat} {x : α} {f g : Nat → Option Value}, CKc w w' → (∀ j v, f j = some v → g j = some v) → r.R w lo hi x f → r.R w' lo hi x g
theorem rBytes_ck : RdCK rBytes := fun hc hg h => by obtain ⟨v, h1, h2⟩ := h; exact ⟨v, hg _ _ h1, h2.ck hc⟩
theorem rBytesT_ck : RdCK rBytesT := fun hc hg h => by obtain ⟨v, h1, h2, h3⟩ := h; exact ⟨v, hg _ _ h1, h2.ck hc, thawed_ck hc h2 h3⟩
theorem rWrite_ck : RdCK rWrite := fun hc hg h => by obtain ⟨g0, g1, v, h1, h2⟩ := h; exact ⟨hg _ _ g0, g1, v, hg _ _ h1, h2.ck hc⟩
theorem rWriteT_ck : RdCK rWriteT := fun hc hg h => by obtain ⟨g0, g1, v, h1, h2, h3⟩ := h; exact ⟨hg _ _ g0, g1, v, hg _ _ h1, h2.ck hc, thawed_ck hc h2 h3⟩
theorem Sl.ck {α : Type} {r : Rd α} (hr : RdCK r) {w w' : World} {lo hi : Nat} {v : Value} {l : List α} (h : Sl r w lo hi v l) (hc : CKc w w') : Sl r w' lo hi v l := by
  obtain ⟨a, c, e, h1, h2, h3, h4⟩ := h
  refine ⟨a, c, e, h1, h2, fun hp => ?_, h4⟩
  obtain ⟨b, off, ea, hlo, hhi, hx⟩ := h3 hp
  exact ⟨b, off, ea, hlo, hhi, fun i x hxi => hr hc (fun j v hv => (hc _ _ hv).1) (hx i x hxi)⟩
/-- The world without some blocks. -/
def hideW (w : World) (S : Nat → Bool) : World := { w with heap := w.heap.mapIdx fun i o => if S i then .cells #[] 0 (0, 0) else o }
theorem hideW_get (w : World) (S : Nat → Bool) (k : Nat) (h : S k = false) : (hideW w S).heap[k]? = w.heap[k]? := by
  unfold hideW
  simp only [Array.getElem?_mapIdx]
  cases w.heap[k]? with
  | none => rfl
  | some o => simp [h]
theorem hideW_cell (w : World) (S : Nat → Bool) (a : Addr) (h : S a.block = false) : (hideW w S).cell? a = w.cell? a := World.cell?_of_block (hideW_get w S _ h)
theorem hideW_frozen (w : World) (S : Nat → Bool) (a : Addr) (h : S a.block = false) : (hideW w S).frozen? a = w.frozen? a := World.frozen?_of_block (hideW_get w S _ h)
theorem hideW_no (w : World) (S : Nat → Bool) (a : Addr) (h : S a.block = true) : (hideW w S).cell? a = none := by
  unfold World.cell? hideW
  simp only [Array.getElem?_mapIdx]
  cases w.heap[a.block]? with
  | none => rfl
  | some o => simp [h]
theorem hideW_ck {w w' : World} {S S' : Nat → Bool} (h : ∀ k, k < w.heap.size → S k = false → S' k = false ∧ w'.heap[k]? = w.heap[k]?) : CKc (hideW w S) (hideW w' S') := by
  intro a v hv
  have hS : S a.block = false := by
    cases e : S a.block with
    | false => rfl
    | true => rw [hideW_no w S a e] at hv; cases hv
  rw [hideW_cell w S a hS] at hv
  obtain ⟨h1, h2⟩ := h a.block (cell_lt' hv) hS
  rw [hideW_cell w' S' a h1, hideW_frozen w' S' a h1, hideW_frozen w S a hS, World.cell?_of_block h2, World.frozen?_of_block h2]
  exact ⟨hv, rfl⟩
theorem hideW_out (w : World) (S : Nat → Bool) : CKc (hideW w S) w := by
  intro a v hv
  have hS : S a.block = false := by
    cases e : S a.block with
    | false => rfl
    | true => rw [hideW_no w S a e] at hv; cases hv
  rw [hideW_cell w S a hS] at hv
  exact ⟨hv, (hideW_frozen w S a hS).symm⟩
/-- What lies in blocks that are not hidden. -/
theorem hideW_kp {w0 w : World} {lo hi : Nat} {S : Nat → Bool} (h : ∀ k, lo ≤ k → k < hi → S k = false ∧ w.heap[k]? = w0.heap[k]?) : Kp lo hi w0 (hideW w S) := fun b o h1 h2 => by
  obtain ⟨g1, g2⟩ := h b h1 h2
  exact ⟨(hideW_cell w S _ g1).trans (World.cell?_of_block g2), (hideW_frozen w S _ g1).trans (World.frozen?_of_block g2)⟩

/-- Blocks S, and the row's own. -/
def andOwn (S : Nat → Bool) (v : Value) (k : Nat) : Bool := S k || decide (v.ownBlock = some k)
theorem andOwn_no {S : Nat → Bool} {v : Value} {k : Nat} (h : andOwn S v k = false) : S k = false ∧ v.ownBlock ≠ some k := by
  unfold andOwn at h
  simpa using h
theorem andOwn_of {S : Nat → Bool} {v : Value} {k : Nat} (h1 : S k = false) (h2 : v.ownBlock ≠ some k) : andOwn S v k = false := by
  unfold andOwn
  simp [h1, h2]

/-- A row of the call's own that holds l: what its elements point to lies neither in the row nor in the blocks S. -/
def OwnR {α : Type} (r : Rd α) (base : Nat) (T : TypeId) (lo : Nat) (S : Nat → Bool) (w : World) (v : Value) (l : List α) : Prop :=
  (∀ g, v.ownBlock = some g → S g = false) ∧ ∃ xs, w.ownsRow base T r.n v l.length xs ∧ ∀ j x, l[j]? = some x → r.R (hideW w (andOwn S v)) lo w.heap.size x (fun i => xs[j * r.n + i]?)
theorem OwnR.nil_ {α : Type} (r : Rd α) (base : Nat) (T : TypeId) (lo : Nat) (S : Nat → Bool) (w : World) : OwnR r base T lo S w (.slice none 0 0) ([] : List α) :=
  ⟨fun g h => (by cases h), [], World.ownsRow_nil _ _ _ _, fun j x h => (by simp at h)⟩
theorem OwnR.lt {α : Type} {r : Rd α} {base : Nat} {T : TypeId} {lo : Nat} {S : Nat → Bool} {w : World} {v : Value} {l : List α} (h : OwnR r base T lo S w v l) : ∀ k, v.ownBlock = some k → base ≤ k ∧ k < w.heap.size := by
  obtain ⟨-, xs, h1, -⟩ := h
  exact h1.lt
theorem OwnR.form {α : Type} {r : Rd α} {base : Nat} {T : TypeId} {lo : Nat} {S : Nat → Bool} {w : World} {v : Value} {l : List α} (h : OwnR r base T lo S w v l) : ∃ ad c, v = .slice ad l.length c ∧ c ≤ maxLen := by
  obtain ⟨-, xs, h1, -⟩ := h
  rcases h1.2 with ⟨rfl, h0⟩ | ⟨g, cap, cur, rfl, -, -, -, h2, -⟩
  · exact ⟨none, 0, by rw [h0], Nat.zero_le _⟩
  · exact ⟨_, _, rfl, h2⟩
theorem OwnR.to {α : Type} {r : Rd α} (hr : RdCK r) {base : Nat} {T : TypeId} {lo : Nat} {S : Nat → Bool} {w w' : World} {v : Value} {l : List α} (h : OwnR r base T lo S w v l)
    (hs : w.heap.size ≤ w'.heap.size) (hk : ∀ k, k < w.heap.size → S k = false → w'.heap[k]? = w.heap[k]?) : OwnR r base T lo S w' v l := by
  have hlt := h.lt
  obtain ⟨h0, xs, ⟨hl, hrow⟩, hx⟩ := h
  refine ⟨h0, xs, ⟨hl, ?_⟩, fun j x hj => r.more (Nat.le_refl _) hs (hr (hideW_ck fun k h1 h2 => ⟨h2, hk k h1 (andOwn_no h2).1⟩) (fun _ _ e => e) (hx j x hj))⟩
  rcases hrow with h | ⟨g, cap, cur, rfl, hg, hh, rest⟩
  · exact .inl h
  · exact .inr ⟨g, cap, cur, rfl, hg, (hk g (hlt g rfl).2 (h0 g rfl)).trans hh, rest⟩
theorem OwnR.step {α : Type} {r : Rd α} (hr : RdCK r) {base : Nat} {T : TypeId} {lo : Nat} {S : Nat → Bool} {w w' : World} {v : Value} {l : List α} (h : OwnR r base T lo S w v l) (hB : Below w.heap.size w w') : OwnR r base T lo S w' v l :=
  h.to hr hB.size fun k hk _ => hB.block k hk
theorem OwnR.alloc {α : Type} {r : Rd α} (hr : RdCK r) {base : Nat} {T : TypeId} {lo : Nat} {S : Nat → Bool} {w : World} {v : Value} {l : List α} (h : OwnR r base T lo S w v l) (o : Obj) : OwnR r base T lo S (w.alloc o) v l :=
  h.step hr ((Below.refl _ _).alloc (Nat.le_refl _) o)
theorem OwnR.setS {α : Type} {r : Rd α} (hr : RdCK r) {base : Nat} {T : TypeId} {lo : Nat} {S : Nat → Bool} {w : World} {v : Value} {l : List α} (h : OwnR r base T lo S w v l) (p : Addr) (u : Value) (hp : S p.block = true) : OwnR r base T lo S (w.setCell p u) v l :=
  h.to hr (by rw [World.size_setCell]; exact Nat.le_refl _) fun k _ hk => Below.heap_setCell w p u k (fun e => by rw [e, hp] at hk; cases hk)
theorem OwnR.sl {α : Type} {r : Rd α} (hr : RdCK r) {base : Nat} {T : TypeId} {lo : Nat} {S : Nat → Bool} {w : World} {v : Value} {l : List α} (h : OwnR r base T lo S w v l) {lo' : Nat} (h1 : lo' ≤ base) (h2 : lo' ≤ lo) : Sl r w lo' w.heap.size v l := by
  obtain ⟨h0, xs, ⟨hl, hrow⟩, hx⟩ := h
  rcases hrow with ⟨rfl, hz⟩ | ⟨g, cap, cur, rfl, hg, hh, g1, g2, g3, g4⟩
  · have : l = [] := List.eq_nil_of_length_eq_zero (by omega)
    subst this
    exact Sl.nil_ _ _ _
  · refine ⟨_, _, rfl, g1, g2, fun _ => ⟨g, 0, rfl, by omega, (Array.getElem?_eq_some_iff.1 hh).1, fun i x hxi => ?_⟩, fun h => by cases h⟩
    have hc : ∀ j u, xs[j]? = some u → w.cell? ⟨g, j, none⟩ = some u := by
      intro j u hj
      rw [cell_of_row w g j cur T (0, 0) hh, ← hj, ← g4, List.getElem?_take, if_pos]
      · simp
      · have := (List.getElem?_eq_some_iff.1 hj).1
        rw [hl] at this
        exact this
    refine r.more h2 (Nat.le_refl _) (hr (hideW_out w _) (fun j u hj => ?_) (hx i x hxi))
    show w.cell? ⟨g, 0 + i * r.n + j, none⟩ = some u
    rw [Nat.zero_add]
    exact hc _ _ hj
/-- append to such a row. -/
theorem own_form {w : World} {base n size : Nat} {T : TypeId} {v : Value} {xs : List Value} (h : w.ownsRow base T size v n xs) : ∃ ad c, v = .slice ad n c := by
  rcases h.2 with ⟨rfl, h0⟩ | ⟨g, cap, cur, rfl, -⟩
  · exact ⟨none, 0, by rw [h0]⟩
  · exact ⟨_, _, rfl⟩
theorem OwnR.app {α : Type} {r : Rd α} (hr : RdCK r) {base : Nat} {T : TypeId} {lo : Nat} {S : Nat → Bool} {w w' : World} {v v' : Value} {l l2 : List α} {xs news : List Value} (h0 : ∀ g, v.ownBlock = some g → S g = false) (hrow : w.ownsRow base T r.n v l.length xs)
    (hx : ∀ j x, l[j]? = some x → r.R (hideW w (andOwn S v)) lo w.heap.size x (fun i => xs[j * r.n + i]?)) (hS : ∀ k, w.heap.size ≤ k → S k = false) (hy : ∀ j x, l2[j]? = some x → r.R (hideW w (andOwn S v)) lo w.heap.size x (fun i => news[j * r.n + i]?))
    (hown' : w'.ownsRow base T r.n v' (l.length + l2.length) (xs ++ news)) (hg : w.grownBy w' v.ownBlock) (hv : v'.ownBlock = v.ownBlock ∨ v'.ownBlock = some w.heap.size) : OwnR r base T lo S w' v' (l ++ l2) := by
  have hlt := hrow.lt
  have hck : CKc (hideW w (andOwn S v)) (hideW w' (andOwn S v')) := hideW_ck fun k h1 h2 => by
    obtain ⟨g1, g2⟩ := andOwn_no h2
    refine ⟨andOwn_of g1 ?_, hg.block k h1 (fun e => g2 e.symm)⟩
    rcases hv with e | e
    · rw [e]; exact g2
    · rw [e]; intro e2; cases e2; exact absurd h1 (Nat.lt_irrefl _)
  refine ⟨fun g hg' => ?_, xs ++ news, by rw [List.length_append]; exact hown', fun j x hj => ?_⟩
  · rcases hv with e | e
    · exact h0 g (e ▸ hg')
    · rw [e] at hg'; cases hg'; exact hS _ (Nat.le_refl _)
  · have hxl := hrow.1
    rcases Nat.lt_or_ge j l.length with hjl | hjl
    · rw [List.getElem?_append_left hjl] at hj
      refine r.more (Nat.le_refl _) hg.size (hr hck (fun i u hu => ?_) (hx j x hj))
      have := (List.getElem?_eq_some_iff.1 hu).1
      rw [List.getElem?_append_left this]
      exact hu
    · rw [List.getElem?_append_right hjl] at hj
      refine r.more (Nat.le_refl _) hg.size (hr hck (fun i u hu => ?_) (hy _ x hj))
      have e : j * r.n = l.length * r.n + (j - l.length) * r.n := by rw [← Nat.add_mul]; congr 1; omega
      rw [List.getElem?_append_right (by omega), show j * r.n + i - xs.length = (j - l.length) * r.n + i by omega]
      exact hu
theorem wp_append_run {P : Program} {w w' : World} {o : Oper} {a : Act} {K : Act → World → Prop} {Q : Exit → Act → World → Prop} (s x : Operand) (t : TypeId)
    (ho : o.op = .call { callee := .builtin .append, args := #[s, x], argTypes := #[t, t] }) {v v' sv : Value} (hs : a.eval s = v) (hx : a.eval x = sv) (hr : (Builtin.append_ #[t, t] o.type #[v, sv]).run P w = .ok v' w') (h : K (a.put o.dst v') w') : o.wp P a w K Q := by
  unfold Oper.wp
  simp only [execOp, ho, resolve, invoke, builtin, Sem.run_bind, Sem.run_pure, Result.andThen_ok, List.map_toArray, List.map_cons, List.map_nil, hs, hx, hr]
  exact h
/-- What an append to such a row comes to. -/
theorem run_appR {P : Program} {α : Type} {r : Rd α} (hr : RdCK r) {w : World} (t ty T : TypeId) (z : Value) (bytes : Nat) (ht : P.underlying t = some (.slice T)) (hi : (P.info? T).map (fun i => (i.zero, i.size, i.bytes)) = some (some z, r.n, bytes)) (hzs : z.cells.size = r.n) (hn0 : 0 < r.n)
    (base lo : Nat) (S : Nat → Bool) (v : Value) (l l2 : List α) (hown : OwnR r base T lo S w v l) (hS : ∀ k, w.heap.size ≤ k → S k = false)
    (ad : Addr) (c : Nat) (news : List Value) (hl2 : news.length = l2.length * r.n) (hnews : ∀ j u, news[j]? = some u → w.cell? (ad.add j) = some u) (h1 : ∀ u ∈ news, u.oneCell' = true)
    (hy : ∀ j x, l2[j]? = some x → r.R (hideW w (andOwn S v)) lo w.heap.size x (fun i => news[j * r.n + i]?))
    (hlen : l.length + l2.length ≤ 1000000) (hbytes : bytes ≤ 1000) (hbase : base ≤ w.heap.size) :
    ∃ ad' cc w', (Builtin.append_ #[t, t] ty #[v, .slice (some ad) l2.length c]).run P w = .ok (.slice ad' (l ++ l2).length cc) w' ∧ OwnR r base T lo S w' (.slice ad' (l ++ l2).length cc) (l ++ l2) ∧ Below base w w' ∧ ∀ k, k < w.heap.size → v.ownBlock ≠ some k → w'.heap[k]? = w.heap[k]? := by
  obtain ⟨i0, hi0, hz0, hz1, hz2⟩ := info_parts hi
  obtain ⟨h0, xs, hrow, hxs⟩ := hown
  obtain ⟨v', w', hrun, hown', hg, -, hv⟩ := run_append_own_at (P := P) w base t ty T i0 z r.n bytes ht hi0 hz0 hz1 hz2 hzs hn0 v l.length xs hrow ad l2.length c news hl2 hnews h1 (by unfold maxLen; omega) (Nat.le_trans (Nat.mul_le_mul hlen hbytes) (by omega)) hbase
  obtain ⟨ad', cc', hv'⟩ := own_form hown'
  have hB' : Below base w w' := ((Below.refl w.heap.size w).mono hbase).grown hg hbase (fun k hk => (hrow.lt k hk).1)
  have hR := OwnR.app hr h0 hrow hxs hS hy hown' hg hv
  have e : (l ++ l2).length = l.length + l2.length := List.length_append
  rw [← e] at hv'
  rw [hv'] at hR hrun
  exact ⟨ad', cc', w', hrun, hR, hB', fun k hk hne => hg.block k hk (fun e => hne e.symm)⟩
theorem wp_appR {P : Program} {α : Type} {r : Rd α} (hr : RdCK r) {w : World} {o : Oper} {a : Act} {K : Act → World → Prop} {Q : Exit → Act → World → Prop} (s x : Operand) (t : TypeId)
    (ho : o.op = .call { callee := .builtin .append, args := #[s, x], argTypes := #[t, t] }) (T : TypeId) (z : Value) (bytes : Nat) (ht : P.underlying t = some (.slice T)) (hi : (P.info? T).map (fun i => (i.zero, i.size, i.bytes)) = some (some z, r.n, bytes)) (hzs : z.cells.size = r.n) (hn0 : 0 < r.n)
    (base lo : Nat) (S : Nat → Bool) (v : Value) (l l2 : List α) (hs : a.eval s = v) (hown : OwnR r base T lo S w v l) (hS : ∀ k, w.heap.size ≤ k → S k = false)
    (ad : Addr) (c : Nat) (news : List Value) (hx : a.eval x = .slice (some ad) l2.length c) (hl2 : news.length = l2.length * r.n) (hnews : ∀ j u, news[j]? = some u → w.cell? (ad.add j) = some u) (h1 : ∀ u ∈ news, u.oneCell' = true)
    (hy : ∀ j x, l2[j]? = some x → r.R (hideW w (andOwn S v)) lo w.heap.size x (fun i => news[j * r.n + i]?))
    (hlen : l.length + l2.length ≤ 1000000) (hbytes : bytes ≤ 1000) (hbase : base ≤ w.heap.size)
    (h : ∀ ad cc w', OwnR r base T lo S w' (.slice ad (l ++ l2).length cc) (l ++ l2) → Below base w w' → (∀ k, k < w.heap.size → v.ownBlock ≠ some k → w'.heap[k]? = w.heap[k]?) → K (a.put o.dst (.slice ad (l ++ l2).length cc)) w') : o.wp P a w K Q := by
  obtain ⟨ad', cc, w', hrun, h1', h2', h3'⟩ := run_appR hr t o.type T z bytes ht hi hzs hn0 base lo S v l l2 hown hS ad c news hl2 hnews h1 hy hlen hbytes hbase
  exact wp_append_run s x t ho hs hx hrun (h _ _ _ h1' h2' h3')
/-- append of bytes, at a call. -/
theorem run_appB {P : Program} {w : World} (t ty e : TypeId) (ht : P.underlying t = some (.slice e)) (hi : (P.info? e).map (fun i => (i.zero, i.size, i.bytes)) = some (some (.int .u8 0), 1, 1))
    (base : Nat) (v : Value) (l : List UInt8) (hown : OwnB base e w v l) (lo hi' : Nat) (sv : Value) (bs : List UInt8) (hr : Bytes w lo hi' sv bs) (hsz : l.length + bs.length ≤ 140737488355328) (hbase : base ≤ w.heap.size) :
    ∃ v' w', (Builtin.append_ #[t, t] ty #[v, sv]).run P w = .ok v' w' ∧ OwnB base e w' v' (l ++ bs) ∧ Below base w w' ∧ ∀ k, k < w.heap.size → v.ownBlock ≠ some k → w'.heap[k]? = w.heap[k]? := by
  obtain ⟨i0, hi0, hz0, hz1, hz2⟩ := info_parts hi
  obtain ⟨ad, c, rfl, h1, h2, h3, h4⟩ := hr
  have hbel : ∀ w', w.grownBy w' v.ownBlock → Below base w w' := fun w' hg => ((Below.refl w.heap.size w).mono hbase).grown hg hbase hown.block
  rcases ad with _ | ad
  · have hc : c = 0 := h4 rfl
    subst hc
    have hb0 : bs = [] := List.eq_nil_of_length_eq_zero (by omega)
    subst hb0
    exact ⟨v, w, run_append_owned_none w base t ty e i0 1 ht hi0 v _ _ hown, by simpa using hown, hbel _ (World.grownBy.refl w _), fun _ _ _ => rfl⟩
  · have hl : (bs.map bV).length = bs.length * 1 := by simp
    obtain ⟨v', w', hrun, hown', hg, -, -⟩ := run_append_own_at (P := P) w base t ty e i0 _ 1 1 ht hi0 hz0 hz1 hz2 rfl (by decide) v l.length _ hown ad bs.length c (bs.map bV) hl (by
      intro j u hu
      have hj : j < bs.length := by have := (List.getElem?_eq_some_iff.1 hu).1; simpa using this
      obtain ⟨b, off, e1, _, _, hc⟩ := h3 (by omega)
      cases e1
      have e2 : (⟨b, off, none⟩ : Addr).add j = ⟨b, off + j, none⟩ := by unfold Addr.add; split <;> simp_all
      rw [e2, hc j bs[j] (by simp [hj])]
      simp [hj] at hu
      rw [hu]) (by
      intro u hu
      obtain ⟨y, _, rfl⟩ := List.mem_map.1 hu
      rfl) (by unfold maxLen; omega) (by omega) hbase
    exact ⟨v', w', hrun, by unfold OwnB; simpa using hown', hbel _ hg, fun k hk hne => hg.block k hk (fun e => hne e.symm)⟩
theorem wp_appB {P : Program} {w : World} {o : Oper} {a : Act} {K : Act → World → Prop} {Q : Exit → Act → World → Prop} (s x : Operand) (t : TypeId)
    (ho : o.op = .call { callee := .builtin .append, args := #[s, x], argTypes := #[t, t] }) (e : TypeId) (ht : P.underlying t = some (.slice e)) (hi : (P.info? e).map (fun i => (i.zero, i.size, i.bytes)) = some (some (.int .u8 0), 1, 1))
    (base : Nat) (v : Value) (l : List UInt8) (hs : a.eval s = v) (hown : OwnB base e w v l) (lo hi' : Nat) (sv : Value) (bs : List UInt8) (hx : a.eval x = sv) (hr : Bytes w lo hi' sv bs) (hsz : l.length + bs.length ≤ 140737488355328) (hbase : base ≤ w.heap.size)
    (h : ∀ v' w', OwnB base e w' v' (l ++ bs) → Below base w w' → (∀ k, k < w.heap.size → v.ownBlock ≠ some k → w'.heap[k]? = w.heap[k]?) → K (a.put o.dst v') w') : o.wp P a w K Q := by
  obtain ⟨v', w', hrun, h1', h2', h3'⟩ := run_appB t o.type e ht hi base v l hown lo hi' sv bs hr hsz hbase
  exact wp_append_run s x t ho hs hx hrun (h _ _ h1' h2' h3')
/-- One element that was laid into a new block just so. -/
theorem news_one {w : World} (cs : Array Value) (T : TypeId) : ∀ j u, cs.toList[j]? = some u → (w.alloc (.cells cs T)).cell? ((⟨w.heap.size, 0, none⟩ : Addr).add j) = some u := by
  intro j u hu
  have e2 : (⟨w.heap.size, 0, none⟩ : Addr).add j = ⟨w.heap.size, j, none⟩ := by unfold Addr.add; split <;> simp_all
  rw [e2, cell_of_row _ w.heap.size j cs T (0, 0) (World.alloc_heap_new w _)]
  simpa using hu
end Go.Proofs.Ythealkfpflkipaa

namespace Go.Proofs.Ythealkfpflkipaa
open Go.RowKit

/-- P holds, wherever the blocks from lo on, below hi, are as they are here. -/
def Lv (lo hi : Nat) (P : World → Prop) (V : World) : Prop := hi ≤ V.heap.size ∧ ∀ V' : World, (∀ k, lo ≤ k → k < hi → V'.heap[k]? = V.heap[k]?) → P V'
section
variable {lo hi : Nat} {P : World → Prop} {V V' : World}
theorem Lv.get (h : Lv lo hi P V) : P V := h.2 V fun _ _ _ => rfl
theorem Lv.hi_le (h : Lv lo hi P V) : hi ≤ V.heap.size := h.1
theorem Lv.step (h : Lv lo hi P V) (hb : Below V.heap.size V V') : Lv lo hi P V' :=
  ⟨Nat.le_trans h.1 hb.size, fun W hW => h.2 W fun k h1 h2 => (hW k h1 h2).trans (hb.block k (Nat.lt_of_lt_of_le h2 h.1))⟩
/-- Blocks from n0 on, below h0, have turned, and no other ones. -/
theorem Lv.out {n0 h0 : Nat} (h : Lv lo hi P V) (hs : V.heap.size ≤ V'.heap.size) (hf : ∀ x, x < V.heap.size → (x < n0 ∨ h0 ≤ x) → V'.heap[x]? = V.heap[x]?) (hd : hi ≤ n0 ∨ h0 ≤ lo) : Lv lo hi P V' :=
  ⟨Nat.le_trans h.1 hs, fun W hW => h.2 W fun k h1 h2 => (hW k h1 h2).trans (hf k (Nat.lt_of_lt_of_le h2 h.1) (by omega))⟩
theorem Lv.mk' (h : hi ≤ V.heap.size) (hk : ∀ V', Kp lo hi V V' → P V') : Lv lo hi P V := ⟨h, fun W hW => hk W fun b o h1 h2 => ⟨heap_cell (hW b h1 h2) o, heap_frozen (hW b h1 h2) o⟩⟩
theorem Lv.imp {Q : World → Prop} (h : Lv lo hi P V) (hi' : ∀ W, P W → Q W) : Lv lo hi Q V := ⟨h.1, fun W hW => hi' W (h.2 W hW)⟩
theorem Lv.and {Q : World → Prop} (h : Lv lo hi P V) (k : Lv lo hi Q V) : Lv lo hi (fun W => P W ∧ Q W) V := ⟨h.1, fun W hW => ⟨h.2 W hW, k.2 W hW⟩⟩
theorem Lv.more {lo' hi' : Nat} (h : Lv lo hi P V) (h1 : lo' ≤ lo) (h2 : hi ≤ hi') (h3 : hi' ≤ V.heap.size) : Lv lo' hi' P V := ⟨h3, fun W hW => h.2 W fun k g1 g2 => hW k (by omega) (by omega)⟩
end
/-- A known block. -/
def LK (g : Nat) (o : Obj) (V : World) : Prop := Lv g (g + 1) (fun W => W.heap[g]? = some o) V
theorem LK.of {V : World} {g : Nat} {o : Obj} (h : V.heap[g]? = some o) : LK g o V := ⟨(Array.getElem?_eq_some_iff.1 h).1, fun _ hW => (hW g (Nat.le_refl _) (Nat.lt_succ_self _)).trans h⟩
theorem LK.new (w : World) (o : Obj) : LK w.heap.size o (w.alloc o) := LK.of (World.alloc_heap_new w o)
theorem LK.blk {V : World} {g : Nat} {o : Obj} (h : LK g o V) : V.heap[g]? = some o := Lv.get h
theorem LK.lt {V : World} {g : Nat} {o : Obj} (h : LK g o V) : g < V.heap.size := Lv.hi_le h
theorem LK.step {V V' : World} {g : Nat} {o : Obj} (h : LK g o V) (hb : Below V.heap.size V V') : LK g o V' := Lv.step h hb
theorem LK.out {V V' : World} {g n0 h0 : Nat} {o : Obj} (h : LK g o V) (hs : V.heap.size ≤ V'.heap.size) (hf : ∀ x, x < V.heap.size → (x < n0 ∨ h0 ≤ x) → V'.heap[x]? = V.heap[x]?) (hd : g < n0 ∨ h0 ≤ g) : LK g o V' := Lv.out h hs hf (by omega)
theorem LK.cell {V : World} {g : Nat} {cs : Array Value} {t : TypeId} {f : Nat × Nat} (h : LK g (.cells cs t f) V) (i : Nat) : V.cell? ⟨g, i, none⟩ = cs[i]? := blk_cell h.blk i
theorem LK.frozen {V : World} {g : Nat} {cs : Array Value} {t : TypeId} (h : LK g (.cells cs t (0, 0)) V) (i : Nat) : V.frozen? ⟨g, i, none⟩ = false := blk_frozen h.blk i
/-- A disk that lies from lo on, below hi. -/
def LD (lo hi : Nat) (b u : Value) (d : DiskL) (V : World) : Prop := Lv lo hi (fun W => DiskV W lo hi b u d) V
theorem LD.of {V : World} {lo hi : Nat} {b u : Value} {d : DiskL} (h : DiskV V lo hi b u d) (hh : hi ≤ V.heap.size) : LD lo hi b u d V := Lv.mk' hh fun _ hk => ⟨Sl.keep h.1 hk, Sl.keep h.2 hk⟩
theorem LD.v {V : World} {lo hi : Nat} {b u : Value} {d : DiskL} (h : LD lo hi b u d V) : DiskV V 0 V.heap.size b u d := DiskV.more (Lv.get h) (Nat.zero_le _) (Lv.hi_le h)
theorem LD.step {V V' : World} {lo hi : Nat} {b u : Value} {d : DiskL} (h : LD lo hi b u d V) (hb : Below V.heap.size V V') : LD lo hi b u d V' := Lv.step h hb
theorem LD.out {V V' : World} {lo hi n0 h0 : Nat} {b u : Value} {d : DiskL} (h : LD lo hi b u d V) (hs : V.heap.size ≤ V'.heap.size) (hf : ∀ x, x < V.heap.size → (x < n0 ∨ h0 ≤ x) → V'.heap[x]? = V.heap[x]?) (hd : hi ≤ n0 ∨ h0 ≤ lo) : LD lo hi b u d V' := Lv.out h hs hf hd
/-- The same, and it may be written. -/
def LT (lo hi : Nat) (b u : Value) (d : DiskL) (V : World) : Prop := Lv lo hi (fun W => DiskT W lo hi b u d) V
theorem DiskT.kept {w w' : World} {lo hi : Nat} {b u : Value} {d : DiskL} (h : DiskT w lo hi b u d) (hk : Kp lo hi w w') : DiskT w' lo hi b u d := ⟨Sl.keep h.1 hk, Sl.keep h.2 hk⟩
theorem LT.of {V V' : World} {b u : Value} {d : DiskL} (h : MadeD V V' b u d) : LT V.heap.size V'.heap.size b u d V' := Lv.mk' (Nat.le_refl _) fun _ hk => h.disk.kept hk
theorem LT.t {V : World} {lo hi : Nat} {b u : Value} {d : DiskL} (h : LT lo hi b u d V) : DiskT V lo hi b u d := Lv.get h
theorem LT.d {V : World} {lo hi : Nat} {b u : Value} {d : DiskL} (h : LT lo hi b u d V) : LD lo hi b u d V := Lv.imp h fun _ k => k.v
theorem LT.v {V : World} {lo hi : Nat} {b u : Value} {d : DiskL} (h : LT lo hi b u d V) : DiskV V 0 V.heap.size b u d := h.d.v
theorem LT.step {V V' : World} {lo hi : Nat} {b u : Value} {d : DiskL} (h : LT lo hi b u d V) (hb : Below V.heap.size V V') : LT lo hi b u d V' := Lv.step h hb
theorem LT.out {V V' : World} {lo hi n0 h0 : Nat} {b u : Value} {d : DiskL} (h : LT lo hi b u d V) (hs : V.heap.size ≤ V'.heap.size) (hf : ∀ x, x < V.heap.size → (x < n0 ∨ h0 ≤ x) → V'.heap[x]? = V.heap[x]?) (hd : hi ≤ n0 ∨ h0 ≤ lo) : LT lo hi b u d V' := Lv.out h hs hf hd
/-- Bytes that lie from lo on, below hi. -/
def LB (lo hi : Nat) (v : Value) (l : List UInt8) (V : World) : Prop := Lv lo hi (fun W => Bytes W lo hi v l) V
theorem LB.of {V : World} {lo hi : Nat} {v : Value} {l : List UInt8} (h : Bytes V lo hi v l) (hh : hi ≤ V.heap.size) : LB lo hi v l V := Lv.mk' hh fun _ hk => h.kept hk
theorem LB.v {V : World} {lo hi : Nat} {v : Value} {l : List UInt8} (h : LB lo hi v l V) : Bytes V 0 V.heap.size v l := Bytes.more (Lv.get h) (Nat.zero_le _) (Lv.hi_le h)
theorem LB.step {V V' : World} {lo hi : Nat} {v : Value} {l : List UInt8} (h : LB lo hi v l V) (hb : Below V.heap.size V V') : LB lo hi v l V' := Lv.step h hb
theorem LB.out {V V' : World} {lo hi n0 h0 : Nat} {v : Value} {l : List UInt8} (h : LB lo hi v l V) (hs : V.heap.size ≤ V'.heap.size) (hf : ∀ x, x < V.heap.size → (x < n0 ∨ h0 ≤ x) → V'.heap[x]? = V.heap[x]?) (hd : hi ≤ n0 ∨ h0 ≤ lo) : LB lo hi v l V' := Lv.out h hs hf hd
/-- The same, and they may be written. -/
def LM (lo hi : Nat) (v : Value) (l : List UInt8) (V : World) : Prop := Lv lo hi (fun W => Bytes W lo hi v l ∧ Thawed W v) V
theorem LM.of {V V' : World} {v : Value} {l : List UInt8} (h : MadeB V V' v l) : LM V.heap.size V'.heap.size v l V' := Lv.mk' (Nat.le_refl _) fun _ hk => ⟨h.bytes.kept hk, thawed_kept h.bytes h.thawed hk⟩
theorem LM.b {V : World} {lo hi : Nat} {v : Value} {l : List UInt8} (h : LM lo hi v l V) : LB lo hi v l V := Lv.imp h fun _ k => k.1
theorem LM.v {V : World} {lo hi : Nat} {v : Value} {l : List UInt8} (h : LM lo hi v l V) : Bytes V 0 V.heap.size v l := h.b.v
theorem LM.m {V : World} {lo hi : Nat} {v : Value} {l : List UInt8} (h : LM lo hi v l V) : Bytes V lo hi v l ∧ Thawed V v := Lv.get h
theorem LM.step {V V' : World} {lo hi : Nat} {v : Value} {l : List UInt8} (h : LM lo hi v l V) (hb : Below V.heap.size V V') : LM lo hi v l V' := Lv.step h hb
theorem LM.out {V V' : World} {lo hi n0 h0 : Nat} {v : Value} {l : List UInt8} (h : LM lo hi v l V) (hs : V.heap.size ≤ V'.heap.size) (hf : ∀ x, x < V.heap.size → (x < n0 ∨ h0 ≤ x) → V'.heap[x]? = V.heap[x]?) (hd : hi ≤ n0 ∨ h0 ≤ lo) : LM lo hi v l V' := Lv.out h hs hf hd
theorem LM.set {V : World} {lo hi b off n c : Nat} {L : List UInt8} (h : LM lo hi (.slice (some ⟨b, off, none⟩) n c) L V) (j : Nat) (x : UInt8) (hj : j < L.length) : LM lo hi (.slice (some ⟨b, off, none⟩) n c) (L.set j x) (V.setCell ⟨b, off + j, none⟩ (bV x)) :=
  Lv.mk' (by rw [World.size_setCell]; exact Lv.hi_le h) fun _ hk => ⟨(h.m.1.set j x hj).kept hk, thawed_kept (h.m.1.set j x hj) (h.m.2.set _ _) hk⟩
/-- A slice that lies from lo on, below hi. -/
def LS {α : Type} (r : Rd α) (lo hi : Nat) (v : Value) (l : List α) (V : World) : Prop := Lv lo hi (fun W => Sl r W lo hi v l) V
theorem LS.of {α : Type} {r : Rd α} {V : World} {lo hi : Nat} {v : Value} {l : List α} (h : Sl r V lo hi v l) (hh : hi ≤ V.heap.size) : LS r lo hi v l V := Lv.mk' hh fun _ hk => h.keep hk
theorem LS.v {α : Type} {r : Rd α} {V : World} {lo hi : Nat} {v : Value} {l : List α} (h : LS r lo hi v l V) : Sl r V 0 V.heap.size v l := Sl.more (Lv.get h) (Nat.zero_le _) (Lv.hi_le h)
theorem LS.step {α : Type} {r : Rd α} {V V' : World} {lo hi : Nat} {v : Value} {l : List α} (h : LS r lo hi v l V) (hb : Below V.heap.size V V') : LS r lo hi v l V' := Lv.step h hb
theorem LS.out {α : Type} {r : Rd α} {V V' : World} {lo hi n0 h0 : Nat} {v : Value} {l : List α} (h : LS r lo hi v l V) (hs : V.heap.size ≤ V'.heap.size) (hf : ∀ x, x < V.heap.size → (x < n0 ∨ h0 ≤ x) → V'.heap[x]? = V.heap[x]?) (hd : hi ≤ n0 ∨ h0 ≤ lo) : LS r lo hi v l V' := Lv.out h hs hf hd
/-- Nothing below w has turned. -/
def LW (w V : World) : Prop := Below w.heap.size w V
theorem LW.step {w V V' : World} (h : LW w V) (hb : Below V.heap.size V V') : LW w V' := below_step h (Below.size h) hb
theorem LW.outB {w V V' : World} {n0 : Nat} (h : LW w V) (hb : Below n0 V V') (hn : w.heap.size ≤ n0) : LW w V' := Below.trans h (hb.mono hn)
end Go.Proofs.Ythealkfpflkipaa

namespace Go.Proofs.Ythealkfpflkipaa

def half (s : BitVec 32) : BitVec 32 := (s >>> 1) ^^^ (if s.getLsbD 0 then 0xedb88320#32 else 0#32)
def halves : Nat → BitVec 32 → BitVec 32
  | 0, s => s
  | n + 1, s => half (halves n s)
theorem halves_add (s : BitVec 32) (n : Nat) : ∀ m, halves (n + m) s = halves m (halves n s)
  | 0 => rfl
  | m + 1 => by rw [← Nat.add_assoc, halves, halves_add s n m, halves]

theorem half_xor (a b : BitVec 32) : half (a ^^^ b) = half a ^^^ half b := by
  unfold half
  rw [BitVec.ushiftRight_xor_distrib, BitVec.getLsbD_xor]
  cases ha : a.getLsbD 0 <;> cases hb : b.getLsbD 0
  · simp
  · simp [BitVec.xor_assoc]
  · simp only [Bool.xor_false, if_true, if_false, Bool.false_eq_true, BitVec.xor_zero]
    ac_rfl
  · simp only [Bool.xor_true, Bool.not_true, if_true, if_false, Bool.false_eq_true, BitVec.xor_zero]
    have e : (a >>> 1 ^^^ 3988292384#32) ^^^ (b >>> 1 ^^^ 3988292384#32) = a >>> 1 ^^^ b >>> 1 ^^^ (3988292384#32 ^^^ 3988292384#32) := by ac_rfl
    rw [e]; simp
theorem halves_xor (a b : BitVec 32) : ∀ n, halves n (a ^^^ b) = halves n a ^^^ halves n b
  | 0 => rfl
  | n + 1 => by rw [halves, halves_xor a b n, half_xor]; rfl
/-- What is even is only moved. -/
theorem halves_even (s : BitVec 32) : ∀ n, (∀ i, i < n → s.getLsbD i = false) → halves n s = s >>> n
  | 0, _ => by simp [halves]
  | n + 1, h => by
    rw [halves, halves_even s n (fun i hi => h i (by omega)), half]
    have h0 : (s >>> n).getLsbD 0 = false := by rw [BitVec.getLsbD_ushiftRight]; simpa using h n (by omega)
    rw [h0]
    simp [BitVec.shiftRight_add]
/-- A table of four bits serves. -/
theorem halves_four (s : BitVec 32) : halves 4 s = (s >>> 4) ^^^ halves 4 (s &&& 15#32) := by
  have e : s = (s &&& 0xfffffff0#32) ^^^ (s &&& 15#32) := by
    apply BitVec.eq_of_getLsbD_eq
    intro i hi
    rw [BitVec.getLsbD_xor, BitVec.getLsbD_and, BitVec.getLsbD_and]
    have hk : ∀ k : Fin 32, ((0xfffffff0#32).getLsbD k.val ^^ (15#32).getLsbD k.val) = true := by decide
    have := hk ⟨i, hi⟩
    cases h1 : (0xfffffff0#32).getLsbD i <;> cases h2 : (15#32).getLsbD i <;> simp_all
  have h1 : halves 4 (s &&& 0xfffffff0#32) = (s &&& 0xfffffff0#32) >>> 4 := by
    apply halves_even
    intro i hi
    rw [BitVec.getLsbD_and]
    have : (0xfffffff0#32).getLsbD i = false := by
      match i, hi with
      | 0, _ => decide
      | 1, _ => decide
      | 2, _ => decide
      | 3, _ => decide
    rw [this]; simp
  have h2 : (s &&& 0xfffffff0#32) >>> 4 = s >>> 4 := by
    apply BitVec.eq_of_getLsbD_eq
    intro i hi
    rw [BitVec.getLsbD_ushiftRight, BitVec.getLsbD_ushiftRight, BitVec.getLsbD_and]
    by_cases h : 4 + i < 32
    · have : (0xfffffff0#32).getLsbD (4 + i) = true := by
        have hk : ∀ k : Fin 28, (0xfffffff0#32).getLsbD (4 + k.val) = true := by decide
        exact hk ⟨i, by omega⟩
      rw [this]; simp
    · rw [BitVec.getLsbD_of_ge s (4 + i) (by omega)]; simp
  conv => lhs; rw [e, halves_xor, h1, h2]

def b32 (x : UInt8) : BitVec 32 := BitVec.ofNat 32 x.toNat
def stepB (s : BitVec 32) (x : UInt8) : BitVec 32 := halves 8 (s ^^^ b32 x)
def crcS (s : BitVec 32) (l : List UInt8) : BitVec 32 := l.foldl stepB s
def crc (l : List UInt8) : BitVec 32 := ~~~ (crcS (BitVec.allOnes 32) l)
theorem crcS_append (s : BitVec 32) (a b : List UInt8) : crcS s (a ++ b) = crcS (crcS s a) b := by simp [crcS]
theorem stepB_four (s : BitVec 32) (x : UInt8) : stepB s x = halves 4 (halves 4 (s ^^^ b32 x)) := halves_add _ 4 4
open Go in
theorem xor_u32 (a b : BitVec 32) : bits .xor .u32 (a.toNat : Int) (b.toNat : Int) = ((a ^^^ b).toNat : Int) := by
  simp only [bits, IntKind.bits]
  rw [BitVec.ofInt_natCast, BitVec.ofInt_natCast, BitVec.ofNat_toNat, BitVec.ofNat_toNat]
  simp only [BitVec.setWidth_eq]
  rw [IntKind.wrap_u32]
  have := (a ^^^ b).isLt
  show ((a ^^^ b).toNat : Int) % 4294967296 = _
  omega
open Go in
theorem and_u32 (a b : BitVec 32) : bits .and .u32 (a.toNat : Int) (b.toNat : Int) = ((a &&& b).toNat : Int) := by
  simp only [bits, IntKind.bits]
  rw [BitVec.ofInt_natCast, BitVec.ofInt_natCast, BitVec.ofNat_toNat, BitVec.ofNat_toNat]
  simp only [BitVec.setWidth_eq]
  rw [IntKind.wrap_u32]
  have := (a &&& b).isLt
  show ((a &&& b).toNat : Int) % 4294967296 = _
  omega
theorem b32_nat (x : UInt8) : (b32 x).toNat = x.toNat := by
  have := x.toNat_lt
  simp only [b32, BitVec.toNat_ofNat]
  omega
theorem shr_nat (a : BitVec 32) (n : Nat) : (a >>> n).toNat = a.toNat / 2 ^ n := by rw [BitVec.toNat_ushiftRight, Nat.shiftRight_eq_div_pow]
end Go.Proofs.Ythealkfpflkipaa

