/- RoomDoes: the words and contracts, part 13. -/
import Derived.Test.YtkfgegdnpinbdaaRoomDoesQ1
import Derived.Test.YtkfgegdnpinbdaaRoomDoesQ2
import Derived.Test.YtkfgegdnpinbdaaRoomDoesQ3
import Derived.Test.YtkfgegdnpinbdaaRoomDoesQ4
import Derived.Test.YtkfgegdnpinbdaaRoomDoesQ5
import Derived.Test.YtkfgegdnpinbdaaRoomDoesQ6
import Derived.Test.YtkfgegdnpinbdaaRoomDoesQ7
import Derived.Test.YtkfgegdnpinbdaaRoomDoesQ11
import Derived.Test.YtkfgegdnpinbdaaRoomDoesQ12
import Derived.WalkKit
import Derived.WalkLawsBesides
import Derived.WalkSpells
import Derived.Lib.Hide
import Derived.Laws.Rows
import Derived.Laws.AppendOwnNone
import Derived.Maps.AppendAt
import Derived.ProofKit
import Derived.Deep.Slices
import Derived.WideShapes
import Derived.RangeFuncNested
import Derived.RangeFuncBound
import Derived.RangeFuncCalls
import Derived.RangeFuncLeaves
import Derived.RangeFuncBox
import Derived.Shelf.Abstract
import Derived.Shelf.RegionOpen
import Derived.OwnWalkIn
import Derived.TacticsInMore
import Derived.LoopNIn
import Derived.LoopIn
import Derived.Lib.AppendZerosOnto
import Derived.Lib.SliceRun
import Derived.Lib.Walk
import Derived.Deep.LoopGhost
import Derived.Laws.CopyOwn
import Derived.Laws.CopyRow
import Derived.OrdersHeld
import Derived.Deep.QuietTactic
import Derived.BigQuiet
import Derived.StillTailTactics
import Derived.OpenShut
import Derived.Deep.DeepCutAuto
import Derived.Laws.MakeOwn
import Derived.Deep.RegionHeld
import Derived.KernelRfl
import Derived.BigFrameIn
import Derived.OrdersIn
namespace Go.Proofs.Ytkfgegdnpinbdaa
open Go.RowKit Go.Shelf
attribute [local go_sem] Oper.semAt_some

theorem or_u8 (a b : UInt8) : bits .or .u8 (a.toNat : Int) (b.toNat : Int) = ((a ||| b).toNat : Int) := by
  simp only [bits, IntKind.bits]
  rw [BitVec.ofInt_natCast, BitVec.ofInt_natCast]
  have ha := a.toNat_lt
  have hb := b.toNat_lt
  rw [IntKind.wrap_u8]
  have e : ((BitVec.ofNat 8 a.toNat ||| BitVec.ofNat 8 b.toNat).toNat) = (a ||| b).toNat := by
    rw [BitVec.toNat_or, BitVec.toNat_ofNat, BitVec.toNat_ofNat, UInt8.toNat_or, Nat.mod_eq_of_lt ha, Nat.mod_eq_of_lt hb]
  have h2 := (a ||| b).toNat_lt
  show (((BitVec.ofNat 8 a.toNat ||| BitVec.ofNat 8 b.toNat).toNat : Nat) : Int) % 256 = _
  rw [e]
  omega
theorem or_zero_iff (a b : UInt8) : (a ||| b).toNat = 0 ↔ a = 0 ∧ b = 0 := by
  rw [UInt8.toNat_or]
  constructor
  · intro h
    have h1 := Nat.left_le_or (n := a.toNat) (m := b.toNat)
    have h2 := Nat.right_le_or (n := a.toNat) (m := b.toNat)
    exact ⟨u8_inj (by show a.toNat = 0; omega), u8_inj (by show b.toNat = 0; omega)⟩
  · rintro ⟨rfl, rfl⟩
    rfl

/-- What the iterator has given when k places are over. -/
def freeF (s : StoreL) (k : Nat) : List (Fin 256) := (List.range k).filterMap fun j => if h : j < 256 then (if noneAt s j then some ⟨j, h⟩ else none) else none
theorem freeF_succ (s : StoreL) (k : Nat) (hk : k < 256) : freeF s (k + 1) = if noneAt s k then freeF s k ++ [⟨k, hk⟩] else freeF s k := by
  unfold freeF
  rw [List.range_succ, List.filterMap_append]
  cases h : noneAt s k <;> simp [h, hk]
theorem freeF_map (s : StoreL) (k : Nat) (hk : k ≤ 256) : (freeF s k).map (·.1) = freeN s k := by
  induction k with
  | zero => rfl
  | succ k ih =>
    rw [freeF_succ s k (by omega), freeN_succ, ← ih (by omega)]
    split
    · simp
    · rfl
theorem freeF_eight (s : StoreL) : freeF s 8 = [] := by
  have h := freeF_map s 8 (by omega)
  rw [freeN_eight] at h
  exact List.map_eq_nil_iff.1 h
theorem freeF_len (s : StoreL) (k : Nat) (hk : k ≤ 256) : (freeF s k).length ≤ k := by
  have h := congrArg List.length (freeF_map s k hk)
  rw [List.length_map] at h
  rw [h]
  have := List.length_filter_le (noneAt s) (List.range k)
  rw [List.length_range] at this
  exact this

/-- What the rounds must keep: all below n0, and the block Bs. -/
def KeepF (n₀ Bs : Nat) (A B : World) : Prop := Below n₀ A B ∧ B.heap[Bs]? = A.heap[Bs]?
theorem KeepF.refl (n₀ Bs : Nat) (A : World) : KeepF n₀ Bs A A := ⟨Below.refl _ _, rfl⟩
theorem KeepF.trans {n₀ Bs : Nat} {A B C : World} (h : KeepF n₀ Bs A B) (k : KeepF n₀ Bs B C) : KeepF n₀ Bs A C := ⟨h.1.trans k.1, k.2.trans h.2⟩
theorem keepF_b {w : World} {n₀ Bs : Nat} (hn : n₀ ≤ w.heap.size) (hB : Bs < w.heap.size) : ∀ (W : World) (l : Nat) (o o' : Obj), w.heap.size ≤ l → W.heap[l]? = some o → o.isCells = false → o.isWalk = false → KeepF n₀ Bs W (W.putObj l o') :=
  fun W l o o' h1 h2 h3 h4 => ⟨belowK_b hn W l o o' h1 h2 h3 h4, (belowK_b (w := w) (n₀ := Bs + 1) (by omega) W l o o' h1 h2 h3 h4).block Bs (Nat.lt_succ_self _)⟩
def encF (x : Fin 256) : Array Value := #[.int .i64 (x.1 : Int)]

set_option maxRecDepth 100000 in
set_option maxHeartbeats 2000000 in
theorem free1_in (n : Nat) (hn : 1 ≤ n) (l Bs n₀ nb no nc lb lo lc : Nat) (b0 u0 : Value) (T : TypeId) (s : StoreL) (hnl : s.now.length = 256) (hll : s.last.length = 256)
    (_hnc : 256 ≤ nc) (_hncm : nc ≤ maxLen) (_hlc : 256 ≤ lc) (_hlcm : lc ≤ maxLen) (hnb : nb < n₀) (hlb : lb < n₀) (J Jx : List (Fin 256) → World → Prop) (hJd : ∀ s W, J s W → J s W.drew)
    (hY : ∀ pre x W, J pre W → pre.length < 256 → YieldAt Fence.wide (n - 1) Try.prog l (encF x) W fun e W' =>
      (e = .returned (.bool true) ∧ J (pre ++ [x]) W' ∧ KeepF n₀ Bs W W') ∨ (e = .returned (.bool false) ∧ Jx (pre ++ [x]) W'))
    (W : World) (hBs : W.heap[Bs]? = some (.cells #[b0, u0, .slice (some ⟨nb, no, none⟩) 256 nc, .slice (some ⟨lb, lo, none⟩) 256 lc] T (0, 0)))
    (hc1 : ∀ i x, s.now[i]? = some x → W.cell? ⟨nb, no + i, none⟩ = some (bV x)) (hc2 : ∀ i x, s.last[i]? = some x → W.cell? ⟨lb, lo + i, none⟩ = some (bV x)) (h0 : J [] W) :
    CallsIn Fence.wide n Try.prog 75 #[.func (.yield l) #[] #[], .pointer (some ⟨Bs, 0, none⟩)] W fun e W' => (∃ v, e = .returned v) ∧
      ((∃ ys, ys = freeF s 256 ∧ J ys W') ∨ (∃ pre, (∃ k, k ≤ 256 ∧ pre = freeF s k) ∧ Jx pre W')) := by
  unfold maxLen at _hncm _hlcm
  refine callsIn_of_wp Try.func75 rfl trivial ?_ rfl
  simp only [Try.ntmps75, List.size_toArray, List.length_cons, List.length_nil, Nat.reduceAdd, Nat.reduceSub, Array.replicate_succ, Array.replicate_zero, List.push_toArray, List.append_toArray, List.nil_append, List.cons_append]
  gi_wp2
  gi_loopw [3] (fun i wr => ∃ k : Nat, 8 ≤ k ∧ k ≤ 256 ∧ i = .int .i64 (k : Int) ∧ J (freeF s k) wr ∧ KeepF n₀ Bs W wr) (fun i _ => (256 - intOf i).toNat)
  case atStart => exact ⟨8, Nat.le_refl _, by omega, rfl, by rw [freeF_eight]; exact h0, KeepF.refl _ _ _⟩
  case round =>
    obtain ⟨k, hk8, hk, rfl, hJs, hnx⟩ := hrel
    have hbx : wr.heap[Bs]? = some (.cells #[b0, u0, .slice (some ⟨nb, no, none⟩) 256 nc, .slice (some ⟨lb, lo, none⟩) 256 lc] T (0, 0)) := hnx.2.trans hBs
    by_cases hlt : k < 256
    · have y2 := blk_cell hbx 2
      have y3 := blk_cell hbx 3
      simp at y2 y3
      have e1 : wr.cell? ⟨nb, no + k, none⟩ = some (bV (s.now.getD k 0)) := (hnx.1.cell (p := ⟨nb, no + k, none⟩) hnb).trans (hc1 k _ (get_l _ _ _ (by omega)))
      have e2 : wr.cell? ⟨lb, lo + k, none⟩ = some (bV (s.last.getD k 0)) := (hnx.1.cell (p := ⟨lb, lo + k, none⟩) hlb).trans (hc2 k _ (get_l _ _ _ (by omega)))
      have hsucc := freeF_succ s k hlt
      have hor := or_u8 (s.now.getD k 0) (s.last.getD k 0)
      have hoz := or_zero_iff (s.now.getD k 0) (s.last.getD k 0)
      have hna : noneAt s k = true ↔ s.now.getD k 0 = 0 ∧ s.last.getD k 0 = 0 := by rw [noneAt_iff]; exact ⟨fun h => h.2, fun h => ⟨hk8, h⟩⟩
      simp only [bV] at e1 e2
      generalize ((s.now.getD k 0) ||| (s.last.getD k 0)).toNat = oq at *
      rw [← hoz] at hna
      clear hoz
      generalize ((s.now.getD k 0).toNat : Int) = q1 at *
      generalize ((s.last.getD k 0).toNat : Int) = q2 at *
      have f2 : wr.drew.cell? ⟨Bs, 2, none⟩ = some (.slice (some ⟨nb, no, none⟩) 256 nc) := y2
      have f3 : wr.drew.cell? ⟨Bs, 3, none⟩ = some (.slice (some ⟨lb, lo, none⟩) 256 lc) := y3
      have f4 : wr.drew.cell? ⟨nb, no + k, none⟩ = some (.int .u8 q1) := e1
      have f5 : wr.drew.cell? ⟨lb, lo + k, none⟩ = some (.int .u8 q2) := e2
      have i9 : ¬ ((256 : Int) ≤ k) := by omega
      cases hnone : noneAt s k
      case false =>
        rw [hnone] at hsucc hna
        have hq : ¬ (oq : Int) = 0 := fun e => by have := hna.2 (by omega); cases this
        have HS := Lib.hid hsucc
        have HJ := Lib.hid (And.intro hJs hnx)
        clear hsucc hna hnone hJs hnx hY hbx
        have hq' : ((oq : Int) == 0) = false := by simp only [beq_eq_false_iff_ne]; exact hq
        gi_wp2
        obtain ⟨fv, hfv⟩ : ∃ fv : List (Option Value), fv = ([some (.pointer (some ⟨Bs, 2, none⟩)), some (.slice (some ⟨nb, no, none⟩) 256 nc), some (.int .i64 (k : Int)), some (.pointer (some ⟨nb, no + k, none⟩)), some (.int .u8 q1), some (.pointer (some ⟨Bs, 3, none⟩)), some (.slice (some ⟨lb, lo, none⟩) 256 lc), some (.int .i64 (k : Int)), some (.pointer (some ⟨lb, lo + k, none⟩)), some (.int .u8 q2), some (.int .u8 (oq : Int)), some (.bool false), some (.bool false), some (undef), some (undef), some (undef), some (undef)] : List (Option Value)) := ⟨_, rfl⟩
        have g0 : fv.getD 0 none = some (.pointer (some ⟨Bs, 2, none⟩)) := by rw [hfv]; rfl
        have g1 : fv.getD 1 none = some (.slice (some ⟨nb, no, none⟩) 256 nc) := by rw [hfv]; rfl
        have g2 : fv.getD 2 none = some (.int .i64 (k : Int)) := by rw [hfv]; rfl
        have g3 : fv.getD 3 none = some (.pointer (some ⟨nb, no + k, none⟩)) := by rw [hfv]; rfl
        have g4 : fv.getD 4 none = some (.int .u8 q1) := by rw [hfv]; rfl
        have g5 : fv.getD 5 none = some (.pointer (some ⟨Bs, 3, none⟩)) := by rw [hfv]; rfl
        have g6 : fv.getD 6 none = some (.slice (some ⟨lb, lo, none⟩) 256 lc) := by rw [hfv]; rfl
        have g7 : fv.getD 7 none = some (.int .i64 (k : Int)) := by rw [hfv]; rfl
        have g8 : fv.getD 8 none = some (.pointer (some ⟨lb, lo + k, none⟩)) := by rw [hfv]; rfl
        have g9 : fv.getD 9 none = some (.int .u8 q2) := by rw [hfv]; rfl
        have g10 : fv.getD 10 none = some (.int .u8 (oq : Int)) := by rw [hfv]; rfl
        have g11 : fv.getD 11 none = some (.bool false) := by rw [hfv]; rfl
        have g12 : fv.getD 12 none = some (.bool false) := by rw [hfv]; rfl
        have g13 : fv.getD 13 none = some (undef) := by rw [hfv]; rfl
        have g14 : fv.getD 14 none = some (undef) := by rw [hfv]; rfl
        have g15 : fv.getD 15 none = some (undef) := by rw [hfv]; rfl
        have g16 : fv.getD 16 none = some (undef) := by rw [hfv]; rfl
        clear hfv
        refine wpIn_region_inv (by kernel_rfl) 17 [0, 1, 2, 3, 4, 5, 6, 7, 8, 9, 10, 11, 12, 13, 14, 15, 16, 17] (fun i => ([[], [0], [], [0, 1, 2], [0, 1, 2, 3], [], [5], [], [5, 6, 7], [5, 6, 7, 8], [0, 1, 2, 3, 4, 5, 6, 7, 8, 9], [0, 1, 2, 3, 4, 5, 6, 7, 8, 9, 10], [0, 1, 2, 3, 4, 5, 6, 7, 8, 9, 10, 11], [0, 1, 2, 3, 4, 5, 6, 7, 8, 9, 10, 11, 12], [0, 1, 2, 3, 4, 5, 6, 7, 8, 9, 10, 11, 12], [0, 1, 2, 3, 4, 5, 6, 7, 8, 9, 10, 11, 12, 13, 14], [0, 1, 2, 3, 4, 5, 6, 7, 8, 9, 10, 11, 12, 13, 14, 15], [0, 1, 2, 3, 4, 5, 6, 7, 8, 9, 10, 11, 12, 13, 14, 15, 16]] : List (List Nat)).getD i []) (fun i v _ => ∀ u, fv.getD i none = some u → v = u) (fun v W3 => v = .bool false ∧ W3 = wr.drew)
          (by decide) (by kernel_rfl) (by kernel_rfl) (by kernel_rfl) (by decide) (fun i hc v a b h => h) ?hqA ?hqB ?hqC
        case hqA =>
          refine OpsQ.cons _ (by simp only [List.getElem?_toArray, List.getElem?_cons_zero]; rfl) (fun vs V hd h1 h2 K hK => ?_) ?_
          · simp only [putAll, dstOf, List.getElem?_toArray, List.getElem?_cons_succ, List.getElem?_cons_zero, Option.bind_some, Act.put, List.setIfInBounds_toArray, List.set_cons_succ, List.set_cons_zero] at hK ⊢
            obtain rfl := h2 rfl
            go_simp
            exact hK _ (fun u hu => by rw [g0] at hu; cases hu; rfl)
          refine OpsQ.cons _ (by simp only [List.getElem?_toArray, List.getElem?_cons_succ, List.getElem?_cons_zero]; rfl) (fun vs V hd h1 h2 K hK => ?_) ?_
          · simp only [putAll, dstOf, List.getElem?_toArray, List.getElem?_cons_succ, List.getElem?_cons_zero, Option.bind_some, Act.put, List.setIfInBounds_toArray, List.set_cons_succ, List.set_cons_zero] at hK ⊢
            obtain rfl := h2 rfl
            have e0 := (hd 0 (by simp) (by decide)) _ g0
            simp only [e0] at hK ⊢
            go_simp
            exact hK _ (fun u hu => by rw [g1] at hu; cases hu; rfl)
          refine OpsQ.cons _ (by simp only [List.getElem?_toArray, List.getElem?_cons_succ, List.getElem?_cons_zero]; rfl) (fun vs V hd h1 h2 K hK => ?_) ?_
          · simp only [putAll, dstOf, List.getElem?_toArray, List.getElem?_cons_succ, List.getElem?_cons_zero, Option.bind_some, Act.put, List.setIfInBounds_toArray, List.set_cons_succ, List.set_cons_zero] at hK ⊢
            obtain rfl := h2 rfl
            go_simp
            exact hK _ (fun u hu => by rw [g2] at hu; cases hu; rfl)
          refine OpsQ.cons _ (by simp only [List.getElem?_toArray, List.getElem?_cons_succ, List.getElem?_cons_zero]; rfl) (fun vs V hd h1 h2 K hK => ?_) ?_
          · simp only [putAll, dstOf, List.getElem?_toArray, List.getElem?_cons_succ, List.getElem?_cons_zero, Option.bind_some, Act.put, List.setIfInBounds_toArray, List.set_cons_succ, List.set_cons_zero] at hK ⊢
            obtain rfl := h2 rfl
            have e1 := (hd 1 (by simp) (by decide)) _ g1
            have e2 := (hd 2 (by simp) (by decide)) _ g2
            simp only [e1, e2] at hK ⊢
            go_simp
            exact hK _ (fun u hu => by rw [g3] at hu; cases hu; rfl)
          refine OpsQ.cons _ (by simp only [List.getElem?_toArray, List.getElem?_cons_succ, List.getElem?_cons_zero]; rfl) (fun vs V hd h1 h2 K hK => ?_) ?_
          · simp only [putAll, dstOf, List.getElem?_toArray, List.getElem?_cons_succ, List.getElem?_cons_zero, Option.bind_some, Act.put, List.setIfInBounds_toArray, List.set_cons_succ, List.set_cons_zero] at hK ⊢
            obtain rfl := h2 rfl
            have e3 := (hd 3 (by simp) (by decide)) _ g3
            simp only [e3] at hK ⊢
            go_simp
            exact hK _ (fun u hu => by rw [g4] at hu; cases hu; rfl)
          refine OpsQ.cons _ (by simp only [List.getElem?_toArray, List.getElem?_cons_succ, List.getElem?_cons_zero]; rfl) (fun vs V hd h1 h2 K hK => ?_) ?_
          · simp only [putAll, dstOf, List.getElem?_toArray, List.getElem?_cons_succ, List.getElem?_cons_zero, Option.bind_some, Act.put, List.setIfInBounds_toArray, List.set_cons_succ, List.set_cons_zero] at hK ⊢
            obtain rfl := h2 rfl
            go_simp
            exact hK _ (fun u hu => by rw [g5] at hu; cases hu; rfl)
          refine OpsQ.cons _ (by simp only [List.getElem?_toArray, List.getElem?_cons_succ, List.getElem?_cons_zero]; rfl) (fun vs V hd h1 h2 K hK => ?_) ?_
          · simp only [putAll, dstOf, List.getElem?_toArray, List.getElem?_cons_succ, List.getElem?_cons_zero, Option.bind_some, Act.put, List.setIfInBounds_toArray, List.set_cons_succ, List.set_cons_zero] at hK ⊢
            obtain rfl := h2 rfl
            have e5 := (hd 5 (by simp) (by decide)) _ g5
            simp only [e5] at hK ⊢
            go_simp
            exact hK _ (fun u hu => by rw [g6] at hu; cases hu; rfl)
          refine OpsQ.cons _ (by simp only [List.getElem?_toArray, List.getElem?_cons_succ, List.getElem?_cons_zero]; rfl) (fun vs V hd h1 h2 K hK => ?_) ?_
          · simp only [putAll, dstOf, List.getElem?_toArray, List.getElem?_cons_succ, List.getElem?_cons_zero, Option.bind_some, Act.put, List.setIfInBounds_toArray, List.set_cons_succ, List.set_cons_zero] at hK ⊢
            obtain rfl := h2 rfl
            go_simp
            exact hK _ (fun u hu => by rw [g7] at hu; cases hu; rfl)
          refine OpsQ.cons _ (by simp only [List.getElem?_toArray, List.getElem?_cons_succ, List.getElem?_cons_zero]; rfl) (fun vs V hd h1 h2 K hK => ?_) ?_
          · simp only [putAll, dstOf, List.getElem?_toArray, List.getElem?_cons_succ, List.getElem?_cons_zero, Option.bind_some, Act.put, List.setIfInBounds_toArray, List.set_cons_succ, List.set_cons_zero] at hK ⊢
            obtain rfl := h2 rfl
            have e6 := (hd 6 (by simp) (by decide)) _ g6
            have e7 := (hd 7 (by simp) (by decide)) _ g7
            simp only [e6, e7] at hK ⊢
            go_simp
            exact hK _ (fun u hu => by rw [g8] at hu; cases hu; rfl)
          refine OpsQ.cons _ (by simp only [List.getElem?_toArray, List.getElem?_cons_succ, List.getElem?_cons_zero]; rfl) (fun vs V hd h1 h2 K hK => ?_) ?_
          · simp only [putAll, dstOf, List.getElem?_toArray, List.getElem?_cons_succ, List.getElem?_cons_zero, Option.bind_some, Act.put, List.setIfInBounds_toArray, List.set_cons_succ, List.set_cons_zero] at hK ⊢
            obtain rfl := h2 rfl
            have e8 := (hd 8 (by simp) (by decide)) _ g8
            simp only [e8] at hK ⊢
            go_simp
            exact hK _ (fun u hu => by rw [g9] at hu; cases hu; rfl)
          refine OpsQ.cons _ (by simp only [List.getElem?_toArray, List.getElem?_cons_succ, List.getElem?_cons_zero]; rfl) (fun vs V hd h1 h2 K hK => ?_) ?_
          · simp only [putAll, dstOf, List.getElem?_toArray, List.getElem?_cons_succ, List.getElem?_cons_zero, Option.bind_some, Act.put, List.setIfInBounds_toArray, List.set_cons_succ, List.set_cons_zero] at hK ⊢
            obtain rfl := h2 rfl
            have e4 := (hd 4 (by simp) (by decide)) _ g4
            have e9 := (hd 9 (by simp) (by decide)) _ g9
            simp only [e4, e9] at hK ⊢
            go_simp
            exact hK _ (fun u hu => by rw [g10] at hu; cases hu; rfl)
          refine OpsQ.cons _ (by simp only [List.getElem?_toArray, List.getElem?_cons_succ, List.getElem?_cons_zero]; rfl) (fun vs V hd h1 h2 K hK => ?_) ?_
          · simp only [putAll, dstOf, List.getElem?_toArray, List.getElem?_cons_succ, List.getElem?_cons_zero, Option.bind_some, Act.put, List.setIfInBounds_toArray, List.set_cons_succ, List.set_cons_zero] at hK ⊢
            obtain rfl := h2 rfl
            have e10 := (hd 10 (by simp) (by decide)) _ g10
            simp only [e10] at hK ⊢
            go_simp
            exact hK _ (fun u hu => by rw [g11] at hu; cases hu; rfl)
          refine OpsQ.cons _ (by simp only [List.getElem?_toArray, List.getElem?_cons_succ, List.getElem?_cons_zero]; rfl) (fun vs V hd h1 h2 K hK => ?_) ?_
          · simp only [putAll, dstOf, List.getElem?_toArray, List.getElem?_cons_succ, List.getElem?_cons_zero, Option.bind_some, Act.put, List.setIfInBounds_toArray, List.set_cons_succ, List.set_cons_zero] at hK ⊢
            obtain rfl := h2 rfl
            have e11 := (hd 11 (by simp) (by decide)) _ g11
            simp only [e11] at hK ⊢
            go_simp
            exact hK _ (fun u hu => by rw [g12] at hu; cases hu; rfl)
          refine OpsQ.cons _ (by simp only [List.getElem?_toArray, List.getElem?_cons_succ, List.getElem?_cons_zero]; rfl) (fun vs V hd h1 h2 K hK => ?_) ?_
          · simp only [putAll, dstOf, List.getElem?_toArray, List.getElem?_cons_succ, List.getElem?_cons_zero, Option.bind_some, Act.put, List.setIfInBounds_toArray, List.set_cons_succ, List.set_cons_zero] at hK ⊢
            obtain rfl := h2 rfl
            have e12 := (hd 12 (by simp) (by decide)) _ g12
            simp only [e12] at hK ⊢
            go_simp
            exact hK _ (fun u hu => by rw [g13] at hu; cases hu; rfl)
          refine OpsQ.cons _ (by simp only [List.getElem?_toArray, List.getElem?_cons_succ, List.getElem?_cons_zero]; rfl) (fun vs V hd h1 h2 K hK => ?_) ?_
          · simp only [putAll, dstOf, List.getElem?_toArray, List.getElem?_cons_succ, List.getElem?_cons_zero, Option.bind_some, Act.put, List.setIfInBounds_toArray, List.set_cons_succ, List.set_cons_zero] at hK ⊢
            obtain rfl := h2 rfl
            have e12 := (hd 12 (by simp) (by decide)) _ g12
            simp only [e12] at hK ⊢
            go_simp
            exact hK _ (fun u hu => by rw [g14] at hu; cases hu; rfl)
          refine OpsQ.cons _ (by simp only [List.getElem?_toArray, List.getElem?_cons_succ, List.getElem?_cons_zero]; rfl) (fun vs V hd h1 h2 K hK => ?_) ?_
          · simp only [putAll, dstOf, List.getElem?_toArray, List.getElem?_cons_succ, List.getElem?_cons_zero, Option.bind_some, Act.put, List.setIfInBounds_toArray, List.set_cons_succ, List.set_cons_zero] at hK ⊢
            obtain rfl := h2 rfl
            have e12 := (hd 12 (by simp) (by decide)) _ g12
            have e13 := (hd 13 (by simp) (by decide)) _ g13
            have e14 := (hd 14 (by simp) (by decide)) _ g14
            simp only [e12, e13, e14] at hK ⊢
            go_simp
            exact ⟨fun _ _ => trivial, hK _ (fun u hu => by rw [g15] at hu; cases hu; rfl)⟩
          refine OpsQ.cons _ (by simp only [List.getElem?_toArray, List.getElem?_cons_succ, List.getElem?_cons_zero]; rfl) (fun vs V hd h1 h2 K hK => ?_) ?_
          · simp only [putAll, dstOf, List.getElem?_toArray, List.getElem?_cons_succ, List.getElem?_cons_zero, Option.bind_some, Act.put, List.setIfInBounds_toArray, List.set_cons_succ, List.set_cons_zero] at hK ⊢
            obtain rfl := h2 rfl
            have e12 := (hd 12 (by simp) (by decide)) _ g12
            simp only [e12] at hK ⊢
            go_simp
            exact hK _ (fun u hu => by rw [g16] at hu; cases hu; rfl)
          refine OpsQ.skip ?_
          exact OpsQ.nil
        case hqB =>
          intro o ho vs V hV hd K hK
          simp only [List.getElem?_toArray, List.getElem?_cons_succ, List.getElem?_cons_zero, Option.some.injEq] at ho
          subst ho
          subst hV
          simp only [putAll, dstOf, List.getElem?_toArray, List.getElem?_cons_succ, List.getElem?_cons_zero, Option.bind_some, Act.put, List.setIfInBounds_toArray, List.set_cons_succ, List.set_cons_zero] at hK ⊢
          have e12 := (hd 12 (by simp) (by decide)) _ g12
          have e16 := (hd 16 (by simp) (by decide)) _ g16
          simp only [e12, e16] at hK ⊢
          go_simp
          exact hK _ _ ⟨rfl, rfl⟩
        case hqC =>
        intro vs W3 hz hfs
        obtain ⟨e17, rfl⟩ := hz
        simp only [putAll, dstOf, List.getElem?_toArray, List.getElem?_cons_succ, List.getElem?_cons_zero, Option.bind_some, Act.put, List.setIfInBounds_toArray, List.set_cons_succ, List.set_cons_zero]
        simp only [e17]
        gi_wp2
        go_roundw
        case rel => exact ⟨k + 1, by omega, by omega, by go_num, by rw [HS.out]; exact hJd _ _ HJ.out.1, HJ.out.2.trans ⟨(Below.refl _ _).drew, rfl⟩⟩
        case measure => (simp [intOf]; omega)
      case true =>
        rw [hnone] at hsucc hna
        obtain rfl : oq = 0 := hna.1 rfl
        obtain ⟨fn, tmps, assign, body, hy, hR⟩ := hY _ ⟨k, hlt⟩ wr.drew (hJd _ _ hJs) (by have := freeF_len s k hk; omega)
        have hy' : (Instr.yield l #[.int .i64 (k : Int)]).run Try.prog wr.drew = .ok (.round l fn tmps assign body) wr.drew := hy
        have HS := Lib.hid hsucc
        have HJ := Lib.hid hnx
        have z0 : ((0 : Nat) : Int) = 0 := rfl
        rw [z0] at hor
        clear hsucc hna hnone hJs hnx hY hbx hy z0
        have hR2 := hR.mono (fun e W3 h => (show ∃ b : Bool, e = .returned (.bool b) ∧ ((b = true ∧ J (freeF s k ++ [⟨k, hlt⟩]) W3 ∧ KeepF n₀ Bs wr.drew W3) ∨ (b = false ∧ Jx (freeF s k ++ [⟨k, hlt⟩]) W3)) from
          h.elim (fun h => ⟨true, h.1, .inl ⟨rfl, h.2⟩⟩) (fun h => ⟨false, h.1, .inr ⟨rfl, h.2⟩⟩)))
        have HR := Lib.hid hR2
        clear hR hR2
        gi_wp2
        obtain ⟨fv, hfv⟩ : ∃ fv : List (Option Value), fv = ([some (.pointer (some ⟨Bs, 2, none⟩)), some (.slice (some ⟨nb, no, none⟩) 256 nc), some (.int .i64 (k : Int)), some (.pointer (some ⟨nb, no + k, none⟩)), some (.int .u8 q1), some (.pointer (some ⟨Bs, 3, none⟩)), some (.slice (some ⟨lb, lo, none⟩) 256 lc), some (.int .i64 (k : Int)), some (.pointer (some ⟨lb, lo + k, none⟩)), some (.int .u8 q2), some (.int .u8 0), some (.bool true), some (.bool true), some (.func (.yield l) #[] #[]), some (.int .i64 (k : Int))] : List (Option Value)) := ⟨_, rfl⟩
        have g0 : fv.getD 0 none = some (.pointer (some ⟨Bs, 2, none⟩)) := by rw [hfv]; rfl
        have g1 : fv.getD 1 none = some (.slice (some ⟨nb, no, none⟩) 256 nc) := by rw [hfv]; rfl
        have g2 : fv.getD 2 none = some (.int .i64 (k : Int)) := by rw [hfv]; rfl
        have g3 : fv.getD 3 none = some (.pointer (some ⟨nb, no + k, none⟩)) := by rw [hfv]; rfl
        have g4 : fv.getD 4 none = some (.int .u8 q1) := by rw [hfv]; rfl
        have g5 : fv.getD 5 none = some (.pointer (some ⟨Bs, 3, none⟩)) := by rw [hfv]; rfl
        have g6 : fv.getD 6 none = some (.slice (some ⟨lb, lo, none⟩) 256 lc) := by rw [hfv]; rfl
        have g7 : fv.getD 7 none = some (.int .i64 (k : Int)) := by rw [hfv]; rfl
        have g8 : fv.getD 8 none = some (.pointer (some ⟨lb, lo + k, none⟩)) := by rw [hfv]; rfl
        have g9 : fv.getD 9 none = some (.int .u8 q2) := by rw [hfv]; rfl
        have g10 : fv.getD 10 none = some (.int .u8 0) := by rw [hfv]; rfl
        have g11 : fv.getD 11 none = some (.bool true) := by rw [hfv]; rfl
        have g12 : fv.getD 12 none = some (.bool true) := by rw [hfv]; rfl
        have g13 : fv.getD 13 none = some (.func (.yield l) #[] #[]) := by rw [hfv]; rfl
        have g14 : fv.getD 14 none = some (.int .i64 (k : Int)) := by rw [hfv]; rfl
        have g15 : ∀ i, 15 ≤ i → fv.getD i none = none := fun i hi => by rw [hfv, List.getD_eq_getElem?_getD, List.getElem?_eq_none (by simpa using hi)]; rfl
        clear hfv
        refine wpIn_region_inv (by kernel_rfl) 15 [0, 1, 2, 3, 4, 5, 6, 7, 8, 9, 10, 11, 12, 13, 14, 15, 16, 17] (fun i => ([[], [0], [], [0, 1, 2], [0, 1, 2, 3], [], [5], [], [5, 6, 7], [5, 6, 7, 8], [0, 1, 2, 3, 4, 5, 6, 7, 8, 9], [0, 1, 2, 3, 4, 5, 6, 7, 8, 9, 10], [0, 1, 2, 3, 4, 5, 6, 7, 8, 9, 10, 11], [0, 1, 2, 3, 4, 5, 6, 7, 8, 9, 10, 11, 12], [0, 1, 2, 3, 4, 5, 6, 7, 8, 9, 10, 11, 12], [0, 1, 2, 3, 4, 5, 6, 7, 8, 9, 10, 11, 12, 13, 14], [0, 1, 2, 3, 4, 5, 6, 7, 8, 9, 10, 11, 12, 13, 14, 15], [0, 1, 2, 3, 4, 5, 6, 7, 8, 9, 10, 11, 12, 13, 14, 15, 16]] : List (List Nat)).getD i []) (fun i v zv => (∀ u, fv.getD i none = some u → v = u) ∧ (i = 16 → ∀ b : Bool, zv = .bool b → v = .bool (!b)) ∧ (i = 17 → ∀ b : Bool, zv = .bool b → v = .bool (!b)))
          (fun v W3 => ∃ b : Bool, v = .bool b ∧ ((b = true ∧ J (freeF s k ++ [⟨k, hlt⟩]) W3 ∧ KeepF n₀ Bs wr.drew W3) ∨ (b = false ∧ Jx (freeF s k ++ [⟨k, hlt⟩]) W3)))
          (by decide) (by kernel_rfl) (by kernel_rfl) (by kernel_rfl) (by decide) (fun i hc v a b h => ⟨h.1, fun e => by subst e; exact absurd hc (by decide), fun e => by subst e; exact absurd hc (by decide)⟩) ?hqA ?hqB ?hqC
        case hqA =>
          refine OpsQ.cons _ (by simp only [List.getElem?_toArray, List.getElem?_cons_zero]; rfl) (fun vs V hd h1 h2 K hK => ?_) ?_
          · simp only [putAll, dstOf, List.getElem?_toArray, List.getElem?_cons_succ, List.getElem?_cons_zero, Option.bind_some, Act.put, List.setIfInBounds_toArray, List.set_cons_succ, List.set_cons_zero] at hK ⊢
            obtain rfl := h2 rfl
            go_simp
            exact hK _ ⟨fun u hu => (by rw [g0] at hu; cases hu; rfl), fun e => (by cases e), fun e => (by cases e)⟩
          refine OpsQ.cons _ (by simp only [List.getElem?_toArray, List.getElem?_cons_succ, List.getElem?_cons_zero]; rfl) (fun vs V hd h1 h2 K hK => ?_) ?_
          · simp only [putAll, dstOf, List.getElem?_toArray, List.getElem?_cons_succ, List.getElem?_cons_zero, Option.bind_some, Act.put, List.setIfInBounds_toArray, List.set_cons_succ, List.set_cons_zero] at hK ⊢
            obtain rfl := h2 rfl
            have e0 := (hd 0 (by simp) (by decide)).1 _ g0
            simp only [e0] at hK ⊢
            go_simp
            exact hK _ ⟨fun u hu => (by rw [g1] at hu; cases hu; rfl), fun e => (by cases e), fun e => (by cases e)⟩
          refine OpsQ.cons _ (by simp only [List.getElem?_toArray, List.getElem?_cons_succ, List.getElem?_cons_zero]; rfl) (fun vs V hd h1 h2 K hK => ?_) ?_
          · simp only [putAll, dstOf, List.getElem?_toArray, List.getElem?_cons_succ, List.getElem?_cons_zero, Option.bind_some, Act.put, List.setIfInBounds_toArray, List.set_cons_succ, List.set_cons_zero] at hK ⊢
            obtain rfl := h2 rfl
            go_simp
            exact hK _ ⟨fun u hu => (by rw [g2] at hu; cases hu; rfl), fun e => (by cases e), fun e => (by cases e)⟩
          refine OpsQ.cons _ (by simp only [List.getElem?_toArray, List.getElem?_cons_succ, List.getElem?_cons_zero]; rfl) (fun vs V hd h1 h2 K hK => ?_) ?_
          · simp only [putAll, dstOf, List.getElem?_toArray, List.getElem?_cons_succ, List.getElem?_cons_zero, Option.bind_some, Act.put, List.setIfInBounds_toArray, List.set_cons_succ, List.set_cons_zero] at hK ⊢
            obtain rfl := h2 rfl
            have e1 := (hd 1 (by simp) (by decide)).1 _ g1
            have e2 := (hd 2 (by simp) (by decide)).1 _ g2
            simp only [e1, e2] at hK ⊢
            go_simp
            exact hK _ ⟨fun u hu => (by rw [g3] at hu; cases hu; rfl), fun e => (by cases e), fun e => (by cases e)⟩
          refine OpsQ.cons _ (by simp only [List.getElem?_toArray, List.getElem?_cons_succ, List.getElem?_cons_zero]; rfl) (fun vs V hd h1 h2 K hK => ?_) ?_
          · simp only [putAll, dstOf, List.getElem?_toArray, List.getElem?_cons_succ, List.getElem?_cons_zero, Option.bind_some, Act.put, List.setIfInBounds_toArray, List.set_cons_succ, List.set_cons_zero] at hK ⊢
            obtain rfl := h2 rfl
            have e3 := (hd 3 (by simp) (by decide)).1 _ g3
            simp only [e3] at hK ⊢
            go_simp
            exact hK _ ⟨fun u hu => (by rw [g4] at hu; cases hu; rfl), fun e => (by cases e), fun e => (by cases e)⟩
          refine OpsQ.cons _ (by simp only [List.getElem?_toArray, List.getElem?_cons_succ, List.getElem?_cons_zero]; rfl) (fun vs V hd h1 h2 K hK => ?_) ?_
          · simp only [putAll, dstOf, List.getElem?_toArray, List.getElem?_cons_succ, List.getElem?_cons_zero, Option.bind_some, Act.put, List.setIfInBounds_toArray, List.set_cons_succ, List.set_cons_zero] at hK ⊢
            obtain rfl := h2 rfl
            go_simp
            exact hK _ ⟨fun u hu => (by rw [g5] at hu; cases hu; rfl), fun e => (by cases e), fun e => (by cases e)⟩
          refine OpsQ.cons _ (by simp only [List.getElem?_toArray, List.getElem?_cons_succ, List.getElem?_cons_zero]; rfl) (fun vs V hd h1 h2 K hK => ?_) ?_
          · simp only [putAll, dstOf, List.getElem?_toArray, List.getElem?_cons_succ, List.getElem?_cons_zero, Option.bind_some, Act.put, List.setIfInBounds_toArray, List.set_cons_succ, List.set_cons_zero] at hK ⊢
            obtain rfl := h2 rfl
            have e5 := (hd 5 (by simp) (by decide)).1 _ g5
            simp only [e5] at hK ⊢
            go_simp
            exact hK _ ⟨fun u hu => (by rw [g6] at hu; cases hu; rfl), fun e => (by cases e), fun e => (by cases e)⟩
          refine OpsQ.cons _ (by simp only [List.getElem?_toArray, List.getElem?_cons_succ, List.getElem?_cons_zero]; rfl) (fun vs V hd h1 h2 K hK => ?_) ?_
          · simp only [putAll, dstOf, List.getElem?_toArray, List.getElem?_cons_succ, List.getElem?_cons_zero, Option.bind_some, Act.put, List.setIfInBounds_toArray, List.set_cons_succ, List.set_cons_zero] at hK ⊢
            obtain rfl := h2 rfl
            go_simp
            exact hK _ ⟨fun u hu => (by rw [g7] at hu; cases hu; rfl), fun e => (by cases e), fun e => (by cases e)⟩
          refine OpsQ.cons _ (by simp only [List.getElem?_toArray, List.getElem?_cons_succ, List.getElem?_cons_zero]; rfl) (fun vs V hd h1 h2 K hK => ?_) ?_
          · simp only [putAll, dstOf, List.getElem?_toArray, List.getElem?_cons_succ, List.getElem?_cons_zero, Option.bind_some, Act.put, List.setIfInBounds_toArray, List.set_cons_succ, List.set_cons_zero] at hK ⊢
            obtain rfl := h2 rfl
            have e6 := (hd 6 (by simp) (by decide)).1 _ g6
            have e7 := (hd 7 (by simp) (by decide)).1 _ g7
            simp only [e6, e7] at hK ⊢
            go_simp
            exact hK _ ⟨fun u hu => (by rw [g8] at hu; cases hu; rfl), fun e => (by cases e), fun e => (by cases e)⟩
          refine OpsQ.cons _ (by simp only [List.getElem?_toArray, List.getElem?_cons_succ, List.getElem?_cons_zero]; rfl) (fun vs V hd h1 h2 K hK => ?_) ?_
          · simp only [putAll, dstOf, List.getElem?_toArray, List.getElem?_cons_succ, List.getElem?_cons_zero, Option.bind_some, Act.put, List.setIfInBounds_toArray, List.set_cons_succ, List.set_cons_zero] at hK ⊢
            obtain rfl := h2 rfl
            have e8 := (hd 8 (by simp) (by decide)).1 _ g8
            simp only [e8] at hK ⊢
            go_simp
            exact hK _ ⟨fun u hu => (by rw [g9] at hu; cases hu; rfl), fun e => (by cases e), fun e => (by cases e)⟩
          refine OpsQ.cons _ (by simp only [List.getElem?_toArray, List.getElem?_cons_succ, List.getElem?_cons_zero]; rfl) (fun vs V hd h1 h2 K hK => ?_) ?_
          · simp only [putAll, dstOf, List.getElem?_toArray, List.getElem?_cons_succ, List.getElem?_cons_zero, Option.bind_some, Act.put, List.setIfInBounds_toArray, List.set_cons_succ, List.set_cons_zero] at hK ⊢
            obtain rfl := h2 rfl
            have e4 := (hd 4 (by simp) (by decide)).1 _ g4
            have e9 := (hd 9 (by simp) (by decide)).1 _ g9
            simp only [e4, e9] at hK ⊢
            go_simp
            exact hK _ ⟨fun u hu => (by rw [g10] at hu; cases hu; rfl), fun e => (by cases e), fun e => (by cases e)⟩
          refine OpsQ.cons _ (by simp only [List.getElem?_toArray, List.getElem?_cons_succ, List.getElem?_cons_zero]; rfl) (fun vs V hd h1 h2 K hK => ?_) ?_
          · simp only [putAll, dstOf, List.getElem?_toArray, List.getElem?_cons_succ, List.getElem?_cons_zero, Option.bind_some, Act.put, List.setIfInBounds_toArray, List.set_cons_succ, List.set_cons_zero] at hK ⊢
            obtain rfl := h2 rfl
            have e10 := (hd 10 (by simp) (by decide)).1 _ g10
            simp only [e10] at hK ⊢
            go_simp
            exact hK _ ⟨fun u hu => (by rw [g11] at hu; cases hu; rfl), fun e => (by cases e), fun e => (by cases e)⟩
          refine OpsQ.cons _ (by simp only [List.getElem?_toArray, List.getElem?_cons_succ, List.getElem?_cons_zero]; rfl) (fun vs V hd h1 h2 K hK => ?_) ?_
          · simp only [putAll, dstOf, List.getElem?_toArray, List.getElem?_cons_succ, List.getElem?_cons_zero, Option.bind_some, Act.put, List.setIfInBounds_toArray, List.set_cons_succ, List.set_cons_zero] at hK ⊢
            obtain rfl := h2 rfl
            have e11 := (hd 11 (by simp) (by decide)).1 _ g11
            simp only [e11] at hK ⊢
            go_simp
            exact hK _ ⟨fun u hu => (by rw [g12] at hu; cases hu; rfl), fun e => (by cases e), fun e => (by cases e)⟩
          refine OpsQ.cons _ (by simp only [List.getElem?_toArray, List.getElem?_cons_succ, List.getElem?_cons_zero]; rfl) (fun vs V hd h1 h2 K hK => ?_) ?_
          · simp only [putAll, dstOf, List.getElem?_toArray, List.getElem?_cons_succ, List.getElem?_cons_zero, Option.bind_some, Act.put, List.setIfInBounds_toArray, List.set_cons_succ, List.set_cons_zero] at hK ⊢
            obtain rfl := h2 rfl
            have e12 := (hd 12 (by simp) (by decide)).1 _ g12
            simp only [e12] at hK ⊢
            go_simp
            exact hK _ ⟨fun u hu => (by rw [g13] at hu; cases hu; rfl), fun e => (by cases e), fun e => (by cases e)⟩
          refine OpsQ.cons _ (by simp only [List.getElem?_toArray, List.getElem?_cons_succ, List.getElem?_cons_zero]; rfl) (fun vs V hd h1 h2 K hK => ?_) ?_
          · simp only [putAll, dstOf, List.getElem?_toArray, List.getElem?_cons_succ, List.getElem?_cons_zero, Option.bind_some, Act.put, List.setIfInBounds_toArray, List.set_cons_succ, List.set_cons_zero] at hK ⊢
            obtain rfl := h2 rfl
            have e12 := (hd 12 (by simp) (by decide)).1 _ g12
            simp only [e12] at hK ⊢
            go_simp
            exact hK _ ⟨fun u hu => (by rw [g14] at hu; cases hu; rfl), fun e => (by cases e), fun e => (by cases e)⟩
          refine OpsQ.skip ?_
          refine OpsQ.cons _ (by simp only [List.getElem?_toArray, List.getElem?_cons_succ, List.getElem?_cons_zero]; rfl) (fun vs V hd h1 h2 K hK => ?_) ?_
          · simp only [putAll, dstOf, List.getElem?_toArray, List.getElem?_cons_succ, List.getElem?_cons_zero, Option.bind_some, Act.put, List.setIfInBounds_toArray, List.set_cons_succ, List.set_cons_zero] at hK ⊢
            obtain ⟨b, hb, -⟩ := h1 rfl
            have e12 := (hd 12 (by simp) (by decide)).1 _ g12
            simp only [e12, hb] at hK ⊢
            go_simp
            exact hK _ ⟨fun u hu => (by rw [g15 16 (by decide)] at hu; cases hu), fun e b2 hb2 => (by first | (cases hb2; rfl) | (exact absurd e (by decide))), fun e b2 hb2 => (by first | (cases hb2; rfl) | (exact absurd e (by decide)))⟩
          refine OpsQ.cons _ (by simp only [List.getElem?_toArray, List.getElem?_cons_succ, List.getElem?_cons_zero]; rfl) (fun vs V hd h1 h2 K hK => ?_) ?_
          · simp only [putAll, dstOf, List.getElem?_toArray, List.getElem?_cons_succ, List.getElem?_cons_zero, Option.bind_some, Act.put, List.setIfInBounds_toArray, List.set_cons_succ, List.set_cons_zero] at hK ⊢
            obtain ⟨b, hb, -⟩ := h1 rfl
            have e12 := (hd 12 (by simp) (by decide)).1 _ g12
            have e16 := (hd 16 (by simp) (by decide)).2.1 rfl b hb
            simp only [e12, e16, hb] at hK ⊢
            go_simp
            exact hK _ ⟨fun u hu => (by rw [g15 17 (by decide)] at hu; cases hu), fun e b2 hb2 => (by first | (cases hb2; rfl) | (exact absurd e (by decide))), fun e b2 hb2 => (by first | (cases hb2; rfl) | (exact absurd e (by decide)))⟩
          exact OpsQ.nil
        case hqB =>
          intro o ho vs V hV hd K hK
          simp only [List.getElem?_toArray, List.getElem?_cons_succ, List.getElem?_cons_zero, Option.some.injEq] at ho
          subst ho
          subst hV
          simp only [putAll, dstOf, List.getElem?_toArray, List.getElem?_cons_succ, List.getElem?_cons_zero, Option.bind_some, Act.put, List.setIfInBounds_toArray, List.set_cons_succ, List.set_cons_zero] at hK ⊢
          have e12 := (hd 12 (by simp) (by decide)).1 _ g12
          have e13 := (hd 13 (by simp) (by decide)).1 _ g13
          have e14 := (hd 14 (by simp) (by decide)).1 _ g14
          simp only [e12, e13, e14] at hK ⊢
          go_simp
          refine HR.out.mono ?_
          rintro e W3 ⟨b, rfl, hb3⟩
          exact hK _ _ ⟨b, rfl, hb3⟩
        case hqC =>
        intro vs W3 hz hfs
        obtain ⟨b, hb, hb3⟩ := hz
        have e17 := (hfs 17 (by simp) (by decide)).2.2 rfl b hb
        simp only [putAll, dstOf, List.getElem?_toArray, List.getElem?_cons_succ, List.getElem?_cons_zero, Option.bind_some, Act.put, List.setIfInBounds_toArray, List.set_cons_succ, List.set_cons_zero]
        simp only [e17]
        rcases hb3 with ⟨rfl, hJ3, hk3⟩ | ⟨rfl, hJx3⟩
        · gi_wp2
          go_roundw
          case rel => exact ⟨k + 1, by omega, by omega, by go_num, by rw [HS.out]; exact hJ3, (HJ.out.trans ⟨(Below.refl _ _).drew, rfl⟩).trans hk3⟩
          case measure => (simp [intOf]; omega)
        · gi_wp2
          refine bodyPost_ret (results_none rfl _ _ _) rfl ?_
          exact ⟨⟨_, rfl⟩, .inr ⟨_, ⟨k + 1, by omega, HS.out.symm⟩, hJx3⟩⟩
    · obtain rfl : k = 256 := by omega
      gi_wp2
      go_end0
      exact ⟨⟨_, rfl⟩, .inl ⟨_, rfl, hJs⟩⟩

theorem free_stops (n : Nat) (hn : 1 ≤ n) (Bs n₀ nb no nc lb lo lc : Nat) (b0 u0 : Value) (T : TypeId) (s : StoreL) (hnl : s.now.length = 256) (hll : s.last.length = 256)
    (hnc : 256 ≤ nc) (hncm : nc ≤ maxLen) (hlc : 256 ≤ lc) (hlcm : lc ≤ maxLen) (hnb : nb < n₀) (hlb : lb < n₀) (w : World) (hn₀ : n₀ ≤ w.heap.size)
    (hBs : w.heap[Bs]? = some (.cells #[b0, u0, .slice (some ⟨nb, no, none⟩) 256 nc, .slice (some ⟨lb, lo, none⟩) 256 lc] T (0, 0)))
    (hc1 : ∀ i x, s.now[i]? = some x → w.cell? ⟨nb, no + i, none⟩ = some (bV x)) (hc2 : ∀ i x, s.last[i]? = some x → w.cell? ⟨lb, lo + i, none⟩ = some (bV x)) :
    SeqStopsK Fence.wide n Try.prog 75 #[.pointer (some ⟨Bs, 0, none⟩)] encF (KeepF n₀ Bs) (fun ys => ys = freeF s 256) (fun pre => ∃ k, k ≤ 256 ∧ pre = freeF s k) 256 w :=
  fun l J Jx W hW hJ _ hY h0 => free1_in n hn l Bs n₀ nb no nc lb lo lc b0 u0 T s hnl hll hnc hncm hlc hlcm hnb hlb J Jx (fun s W h => hJ s W W.drew none h ⟨rfl, rfl, rfl, Nat.le_refl _, fun _ _ _ => rfl⟩ (fun r e => by cases e)) hY W
    ((hW.block Bs (Array.getElem?_eq_some_iff.1 hBs).1).trans hBs) (fun i x hx => (hW.cell (p := ⟨nb, no + i, none⟩) (by show nb < w.heap.size; omega)).trans (hc1 i x hx)) (fun i x hx => (hW.cell (p := ⟨lb, lo + i, none⟩) (by show lb < w.heap.size; omega)).trans (hc2 i x hx)) h0
set_option maxRecDepth 100000 in
set_option maxHeartbeats 1000000 in
theorem free_in (n : Nat) (b u x y : Value) (w : World) :
    CallsIn Fence.wide n Try.prog 36 #[.agg #[b, u, x, y]] w fun e w' => e = .returned (.func (.func 75) #[] #[.pointer (some ⟨w.heap.size, 0, none⟩)]) ∧ w' = w.alloc (.cells #[b, u, x, y] 28) := by
  refine callsIn_of_wp Try.func36 rfl trivial ?_ rfl
  simp only [Try.ntmps36, List.size_toArray, List.length_cons, List.length_nil, Nat.reduceAdd, Nat.reduceSub, Array.replicate_succ, Array.replicate_zero, List.push_toArray, List.append_toArray, List.nil_append, List.cons_append]
  gi_wp2
  go_ret
  exact ⟨rfl, rfl⟩
end Go.Proofs.Ytkfgegdnpinbdaa

namespace Go.Proofs.Ytkfgegdnpinbdaa
open Go.RowKit Go.Shelf
attribute [local go_sem] Oper.semAt_some encF

def encI (x : Fin 256) : Value := .int .i64 (x.1 : Int)
theorem ownsRow_grown {W W' : World} {base : Nat} {e : TypeId} {size n : Nat} {v : Value} {xs : List Value} {row : Option Nat} (h : W.ownsRow base e size v n xs) (hg : W.grownBy W' row) (hr : ∀ r, row = some r → ∃ o : Obj, W.heap[r]? = some o ∧ o.isCells = false) : W'.ownsRow base e size v n xs := by
  refine h.kept hg ?_
  rcases h.2 with ⟨rfl, _⟩ | ⟨g, cap, cur, rfl, _, hgb, _⟩
  · exact .inl rfl
  · refine .inr fun e' => ?_
    obtain ⟨o, ho, hc⟩ := hr g e'.symm
    rw [hgb] at ho
    cases ho
    cases hc
theorem ownsRow_block {W : World} {base : Nat} {e : TypeId} {size n : Nat} {v : Value} {xs : List Value} (h : W.ownsRow base e size v n xs) : ∀ g, v.ownBlock = some g → base ≤ g ∧ g < W.heap.size := by
  intro g hg
  rcases h.2 with ⟨rfl, _⟩ | ⟨g', cap, cur, rfl, hb, hgb, _⟩
  · cases hg
  · cases hg
    exact ⟨hb, (Array.getElem?_eq_some_iff.1 hgb).1⟩
theorem hidp {p : Prop} (h : Hid p) : p := h.out
theorem wf_nat (n : Nat) (h : n < 4294967296) : (Lit.int .i64 (n : Int)).wf = true := by
  simp [Lit.wf, IntKind.min, IntKind.max, IntKind.signed, IntKind.bits]
  omega
theorem ownsRow_ints {W : World} {base : Nat} {e : TypeId} {v : Value} {l : List (Fin 256)} (h : W.ownsRow base e 1 v l.length (l.map encI)) : Sl (rInt .i64) W base W.heap.size v (l.map fun x => (x.1 : Int)) := by
  rcases h.2 with ⟨rfl, hn⟩ | ⟨g, cap, cur, rfl, hb, hgb, h1, h2, h3, h4⟩
  · obtain rfl := List.eq_nil_of_length_eq_zero hn
    exact Sl.nil_ _ _ _
  · refine ⟨_, _, by rw [List.length_map], by rw [List.length_map]; exact h1, h2, fun _ => ⟨g, 0, rfl, hb, (Array.getElem?_eq_some_iff.1 hgb).1, fun i x hx => ?_⟩, fun e => by cases e⟩
    rw [List.getElem?_map] at hx
    cases hl : l[i]? with
    | none => rw [hl] at hx; cases hx
    | some y =>
      rw [hl] at hx
      cases hx
      have hi := (List.getElem?_eq_some_iff.1 hl).1
      have hc : cur[i]? = some (encI y) := by
        have e1 : (cur.toList.take (l.length * 1))[i]? = some (encI y) := by rw [h4, List.getElem?_map, hl]; rfl
        rw [List.getElem?_take, if_pos (by omega)] at e1
        simpa using e1
      refine ⟨?_, ?_⟩
      · show W.cell? ⟨g, 0 + i * 1 + 0, none⟩ = _
        rw [show 0 + i * 1 + 0 = i by omega]
        exact (blk_cell hgb i).trans hc
      · have := y.2
        exact wf_nat y.1 (by omega)

set_option maxRecDepth 100000 in
set_option maxHeartbeats 2000000 in
theorem appendSeq_free (Bs n₀ nb no nc lb lo lc : Nat) (b0 u0 : Value) (T : TypeId) (s : StoreL) (hnl : s.now.length = 256) (hll : s.last.length = 256)
    (hnc : 256 ≤ nc) (hncm : nc ≤ maxLen) (hlc : 256 ≤ lc) (hlcm : lc ≤ maxLen) (hnb : nb < n₀) (hlb : lb < n₀) (w : World) (hn₀ : n₀ ≤ w.heap.size)
    (hBs : w.heap[Bs]? = some (.cells #[b0, u0, .slice (some ⟨nb, no, none⟩) 256 nc, .slice (some ⟨lb, lo, none⟩) 256 lc] T (0, 0)))
    (hc1 : ∀ i x, s.now[i]? = some x → w.cell? ⟨nb, no + i, none⟩ = some (bV x)) (hc2 : ∀ i x, s.last[i]? = some x → w.cell? ⟨lb, lo + i, none⟩ = some (bV x)) :
    Calls Try.prog 74 #[.slice none 0 0, .func (.func 75) #[] #[.pointer (some ⟨Bs, 0, none⟩)]] w fun e w' => ∃ v, e = .returned v ∧ Sl (rInt .i64) w' w.heap.size w'.heap.size v (intsOf (freeS s)) ∧ Below w.heap.size w w' := by
  have hBl := (Array.getElem?_eq_some_iff.1 hBs).1
  have hst := (Below.refl w.heap.size w).alloc (Nat.le_refl _) (.cells #[.slice none 0 0] 31)
  have hnew := World.alloc_heap_new w (.cells #[.slice none 0 0] 31)
  have hsV : w.heap.size < (w.alloc (.cells #[.slice none 0 0] 31)).heap.size := by simp
  have hsV1 : (w.alloc (.cells #[.slice none 0 0] 31)).heap.size = w.heap.size + 1 := by simp
  have hstops := fun (V : World) (hV : Below w.heap.size w V) => free_stops 3 (by omega) Bs n₀ nb no nc lb lo lc b0 u0 T s hnl hll hnc hncm hlc hlcm hnb hlb V (Nat.le_trans hn₀ hV.size) ((hV.block Bs hBl).trans hBs) (fun i x hx => (hV.cell (p := ⟨nb, no + i, none⟩) (by show nb < w.heap.size; omega)).trans (hc1 i x hx)) (fun i x hx => (hV.cell (p := ⟨lb, lo + i, none⟩) (by show lb < w.heap.size; omega)).trans (hc2 i x hx))
  have HS := Lib.hid hstops
  clear hstops hc1 hc2 hBs hnl hll hnc hncm hlc hlcm hnb hlb
  obtain ⟨V, hV⟩ : ∃ V, w.alloc (.cells #[.slice none 0 0] 31) = V := ⟨_, rfl⟩
  rw [hV] at hst hnew hsV hsV1
  refine (callsIn_wide (n := 4)).1 ?_
  refine callsIn_of_wp_marks Try.func74 rfl trivial ?_ rfl
  simp only [Try.ntmps74, List.size_toArray, List.length_cons, List.length_nil, Nat.reduceAdd, Nat.reduceSub, Array.replicate_succ, Array.replicate_zero, List.push_toArray, List.append_toArray, List.nil_append, List.cons_append]
  gi_wp2_with fail
  clear hV
  refine wpIn_rangeFunc_ownF rfl (by omega) (gf := 75) (lb := #[.pointer (some ⟨Bs, 0, none⟩)]) rfl trivial (enters_of Try.func75 (by kernel_rfl) rfl)
    (HS.out V hst) KeepF.trans (keepF_b (Nat.le_trans hn₀ (Nat.le_of_lt hsV)) (Nat.lt_trans hBl hsV)) (Below.refl _ _) (fun _ => rfl)
    (fun pre W => (∃ v, W.heap[w.heap.size]? = some (.cells #[v] 31 (0, 0)) ∧ W.ownsRow (w.heap.size + 1) 3 1 v pre.length (pre.map encI)) ∧ Below w.heap.size w W)
    (fun _ _ _ => False)
    (OwnFrom.and (Own.from (fun s A B row hs hg hr => by
      obtain ⟨v, h1, h2⟩ := hs
      exact ⟨v, blk_grown hg hr h1, ownsRow_grown h2 hg hr⟩) _) (ownFrom_below (Nat.le_refl _) (Nat.le_of_lt hsV)))
    (fun _ => Own.from (fun _ _ _ _ hs _ _ => hs) _)
    ⟨⟨_, hnew, ⟨rfl, .inl ⟨rfl, rfl⟩⟩⟩, hst⟩
    ?a1 ?assign ?body ?done ?stop
  case assign =>
    intro l x W K hK
    gi_wp2
    exact hK
  case body =>
    rintro r pre x W ⟨⟨v, hbox, hown⟩, hB⟩ hlen
    have c0 := blk_cell hbox 0
    have z0 := blk_frozen hbox 0
    simp at c0
    obtain ⟨i0, hi0, hz0, hz1, hz2⟩ := info_parts (P := Try.prog) (e := 3) (z := .int .i64 0) (size := 1) (bytes := 8) (by kernel_rfl)
    have hA : (W.alloc (.cells #[.int .i64 (x.1 : Int)] 3)).ownsRow (w.heap.size + 1) 3 1 v pre.length (pre.map encI) := World.ownsRow.alloc hown _
    have hown0 := ownsRow_block hown
    have hlW := (Array.getElem?_eq_some_iff.1 hbox).1
    have HP := Lib.hid (And.intro hbox (And.intro hB (And.intro hA hown0)))
    have hBsz := hB.size
    clear hbox hown hB hA hown0 HS
    gi_wp2_with (gi_at_builtin; refine hidp ?_)
    refine Lib.hid ?_
    refine wpListIn_append_own _ rfl (.tmp 8) (.tmp 10) 31 rfl (w.heap.size + 1) 3 i0 (.int .i64 0) 1 8 Try.underlying31 hi0 hz0 hz1 hz2 rfl (by decide) _ _ _ rfl HP.out.2.2.1 ⟨W.heap.size, 0, none⟩ 1 1 [.int .i64 (x.1 : Int)] rfl rfl (news_one #[.int .i64 (x.1 : Int)] 3) (by intro u hu; simp at hu; subst hu; rfl) (by unfold maxLen; omega) (by omega) (by rw [World.size_alloc]; omega) ?_
    intro v' w3 hown' hg3 _
    change (W.alloc (.cells #[.int .i64 (x.1 : Int)] 3)).grownBy w3 v.ownBlock at hg3
    obtain ⟨ad, cp, rfl⟩ := own_form hown'
    have hg3b := (hg3.block w.heap.size (by rw [World.size_alloc]; omega) (fun e => by have := (HP.out.2.2.2 _ e.symm).1; omega)).trans ((Below.heap_alloc W _ w.heap.size hlW).trans HP.out.1)
    have d0 := blk_cell hg3b 0
    have y0 := blk_frozen hg3b 0
    simp at d0
    have HR := Lib.hid (And.intro hown' (And.intro hg3 hg3b))
    clear hown' hg3 hg3b
    gi_wp2
    obtain ⟨hbox, hB, hA, hown0⟩ := HP.out
    obtain ⟨hown', hg3, hg3b⟩ := HR.out
    have hBA : Below w.heap.size W (W.alloc (.cells #[.int .i64 (x.1 : Int)] 3)) := (Below.refl _ W).alloc hBsz _
    have hB3 : Below w.heap.size W w3 := hBA.grown hg3 (by rw [World.size_alloc]; omega) (fun k e => by have := (hown0 k e).1; omega)
    have hB4 := hB3.setCell (p := ⟨w.heap.size, 0, none⟩) (Nat.le_refl _) (.slice ad (pre.length + 1) cp)
    have hoth : ∀ k, k < w.heap.size → (w3.setCell ⟨w.heap.size, 0, none⟩ (.slice ad (pre.length + 1) cp)).heap[k]? = W.heap[k]? := fun k hk => hB4.block k hk
    refine ⟨⟨hB4.size, fun k o hk ho => ?_⟩, ⟨hB4.mono hn₀, hoth Bs hBl⟩, ⟨.slice ad (pre.length + 1) cp, set_block hg3b 0 _, ?_⟩, hB.trans hB4⟩
    · have hkW := (Array.getElem?_eq_some_iff.1 hk).1
      have hne : k ≠ w.heap.size := fun e => by subst e; rw [hbox] at hk; cases hk; cases ho
      have hk2 : (W.alloc (.cells #[.int .i64 (x.1 : Int)] 3)).heap[k]? = some o := (Below.heap_alloc W _ k hkW).trans hk
      refine (set_other w3 _ _ _ k hne).trans ((hg3.block k (by rw [World.size_alloc]; omega) (fun e => ?_)).trans hk2)
      rcases hA.2 with ⟨rfl, _⟩ | ⟨g, cap, cur, rfl, _, hgb, _⟩
      · cases e
      · cases e
        rw [hgb] at hk2
        cases hk2
        cases ho
    · rw [List.length_append, List.map_append]
      refine hown'.kept (grownBy_setCell' w3 w.heap.size (.slice ad (pre.length + 1) cp)) (.inr fun e => ?_)
      have := (ownsRow_block hown' _ e).1
      omega
  case done =>
    rintro D xs W hD rfl ⟨⟨v, hbox, hown⟩, hB⟩ hK
    have c0 := blk_cell hbox 0
    simp at c0
    have HP := Lib.hid (And.intro hbox (And.intro hown hB))
    clear hbox hown hB HS
    gi_wp2
    obtain ⟨hbox, hown, hB⟩ := HP.out
    refine ⟨by simp, .inl ⟨_, _, rfl, run_takeDeferred hK, ?_⟩⟩
    have hgr := grownBy_putObj' W D (.deferred none)
    have hrr : ∀ r, some D = some r → ∃ o : Obj, W.heap[r]? = some o ∧ o.isCells = false := fun r e => by cases e; exact ⟨_, hK, rfl⟩
    have hown2 := ownsRow_grown hown hgr hrr
    have hB2 := belowK_b (w := w) (Nat.le_refl _) W D (.deferred (some [])) (.deferred none) (by omega) hK rfl rfl
    refine ⟨v, by simp [results, Try.results74, go_sem], v, rfl, ?_, hB.trans hB2⟩
    have h3 := (ownsRow_ints hown2).more (lo' := w.heap.size) (Nat.le_succ _) (Nat.le_refl _)
    rw [show intsOf (freeS s) = (freeF s 256).map (fun x => (x.1 : Int)) by unfold intsOf freeS; rw [← freeF_map s 256 (Nat.le_refl _), List.map_map]; rfl]
    exact h3
  case stop =>
    intro D c pre W _ _ h _
    exact h.elim

set_option maxRecDepth 100000 in
set_option maxHeartbeats 1000000 in
theorem collect_free (Bs n₀ nb no nc lb lo lc : Nat) (b0 u0 : Value) (T : TypeId) (s : StoreL) (hnl : s.now.length = 256) (hll : s.last.length = 256)
    (hnc : 256 ≤ nc) (hncm : nc ≤ maxLen) (hlc : 256 ≤ lc) (hlcm : lc ≤ maxLen) (hnb : nb < n₀) (hlb : lb < n₀) (w : World) (hn₀ : n₀ ≤ w.heap.size)
    (hBs : w.heap[Bs]? = some (.cells #[b0, u0, .slice (some ⟨nb, no, none⟩) 256 nc, .slice (some ⟨lb, lo, none⟩) 256 lc] T (0, 0)))
    (hc1 : ∀ i x, s.now[i]? = some x → w.cell? ⟨nb, no + i, none⟩ = some (bV x)) (hc2 : ∀ i x, s.last[i]? = some x → w.cell? ⟨lb, lo + i, none⟩ = some (bV x)) :
    Calls Try.prog 35 #[.func (.func 75) #[] #[.pointer (some ⟨Bs, 0, none⟩)]] w fun e w' => ∃ v, e = .returned v ∧ Sl (rInt .i64) w' w.heap.size w'.heap.size v (intsOf (freeS s)) ∧ Below w.heap.size w w' := by
  have h := appendSeq_free Bs n₀ nb no nc lb lo lc b0 u0 T s hnl hll hnc hncm hlc hlcm hnb hlb w hn₀ hBs hc1 hc2
  have HC := Lib.hid h
  clear h hc1 hc2 hBs
  go_enter Try.func35, Try.ntmps35
  go_wp2_with fail
  refine HC.out.mono ?_
  rintro e w1 ⟨v, rfl, h⟩
  go_wp2
  go_ret
  exact ⟨v, rfl, h⟩

def freeL (s : StoreL) : List Int := if mayS s then intsOf (freeS s) else []

set_option maxRecDepth 100000 in
set_option maxHeartbeats 1000000 in
theorem sfree_any (b_s u_s x_s y_s : Value) (s : StoreL) (w : World) (h_s : StoreV w 0 w.heap.size b_s u_s x_s y_s s) :
    Calls Try.prog 7 #[.agg #[b_s, u_s, x_s, y_s]] w fun e w' => ∃ v, e = .returned (.tuple #[v, .int .i64 (errS s)]) ∧ Sl (rInt .i64) w' w.heap.size w'.heap.size v (freeL s) ∧ Below w.heap.size w w' := by
  obtain ⟨ab_s, cb_s, rfl, gb_s, gc_s, -, -⟩ := h_s.1.1
  obtain ⟨au_s, cu_s, rfl, gu_s, gv_s, -, -⟩ := h_s.1.2
  obtain ⟨ax_s, cx_s, rfl, gx_s, gz_s⟩ := h_s.2.1.form rfl
  obtain ⟨ay_s, cy_s, rfl, gy_s, gw_s⟩ := h_s.2.2.form rfl
  unfold maxLen at gc_s gv_s gz_s gw_s
  have hst := ((Below.refl w.heap.size w).alloc (Nat.le_refl _) (.cells #[.slice ab_s s.disk.blocks.length cb_s, .slice au_s s.disk.waits.length cu_s, .slice ax_s s.now.length cx_s, .slice ay_s s.last.length cy_s] 28))
  have q_s := LK.new w (.cells #[.slice ab_s s.disk.blocks.length cb_s, .slice au_s s.disk.waits.length cu_s, .slice ax_s s.now.length cx_s, .slice ay_s s.last.length cy_s] 28)
  have hB : LW w _ := hst
  have O_s := (LO.of h_s (Nat.le_refl _)).step hst
  have sz_V : w.heap.size + 0 < (w.alloc (.cells #[.slice ab_s s.disk.blocks.length cb_s, .slice au_s s.disk.waits.length cu_s, .slice ax_s s.now.length cx_s, .slice ay_s s.last.length cy_s] 28)).heap.size := by simp
  obtain ⟨V, hV⟩ : ∃ V, (w.alloc (.cells #[.slice ab_s s.disk.blocks.length cb_s, .slice au_s s.disk.waits.length cu_s, .slice ax_s s.now.length cx_s, .slice ay_s s.last.length cy_s] 28)) = V := ⟨_, rfl⟩
  rw [hV] at sz_V q_s O_s hB
  clear hst h_s
  have HQ := Lib.hid (And.intro q_s (And.intro O_s hB))
  clear q_s O_s hB
  have c_q_s0 := LK.cell HQ.out.1 0
  have c_q_s1 := LK.cell HQ.out.1 1
  have c_q_s2 := LK.cell HQ.out.1 2
  have c_q_s3 := LK.cell HQ.out.1 3
  simp at c_q_s0 c_q_s1 c_q_s2 c_q_s3
  have hE : (mayS s = false ∧ errS s = 8 ∧ freeL s = []) ∨ (mayS s = true ∧ errS s = 0 ∧ freeL s = intsOf (freeS s)) := by
    unfold errS freeL
    cases mayS s
    · exact .inl ⟨rfl, rfl, rfl⟩
    · exact .inr ⟨rfl, rfl, rfl⟩
  obtain ⟨es, hes⟩ : ∃ e, errS s = e := ⟨_, rfl⟩
  obtain ⟨fl, hfl⟩ : ∃ e, freeL s = e := ⟨_, rfl⟩
  have k_c := fun V b u x y hh => scheck_any b u x y s V hh
  rw [hes] at k_c
  rw [hes, hfl] at hE ⊢
  clear hes hfl
  have HC := Lib.hid (k_c)
  clear k_c
  go_enter Try.func7, Try.ntmps7
  go_upto_region 1 with (fail)
  clear hV
  go_wp2_with fail
  refine (HC.out _ _ _ _ _ HQ.out.2.1.v).mono ?_
  rintro e w1 ⟨rfl, hst⟩
  clear c_q_s0 c_q_s1 c_q_s2 c_q_s3
  obtain ⟨q_s, O_s, hB⟩ := HQ.out
  clear HQ
  have sz_w1 : V.heap.size ≤ w1.heap.size := hst.size
  replace q_s := q_s.step hst
  replace O_s := O_s.step hst
  replace hB := hB.step hst
  clear hst
  have HQ := Lib.hid (And.intro q_s (And.intro O_s hB))
  clear q_s O_s hB
  have c_q_s0 := LK.cell HQ.out.1 0
  have c_q_s1 := LK.cell HQ.out.1 1
  have c_q_s2 := LK.cell HQ.out.1 2
  have c_q_s3 := LK.cell HQ.out.1 3
  simp at c_q_s0 c_q_s1 c_q_s2 c_q_s3
  rcases hE with ⟨-, rfl, rfl⟩ | ⟨hm, rfl, rfl⟩
  · go_wp2
    go_ret2
    exact ⟨_, rfl, Sl.nil_ _ _ _, HQ.out.2.2⟩
  have h256 := mayT_len (mayS_iff.1 hm).2.1
  have h257 := mayT_len (mayS_iff.1 hm).2.2
  obtain ⟨nb, no, nc, e1, -, zb, z1, zc, hcell⟩ := HQ.out.2.1.n.at_n h256 (by omega)
  injection e1 with e1 _ e2
  subst e1 e2
  obtain ⟨lb, lo, lc, e3, -, zd, z2, ze, hcell2⟩ := HQ.out.2.1.l.at_n h257 (by omega)
  injection e3 with e3 _ e4
  subst e3 e4
  rw [h256] at c_q_s2
  rw [h257] at c_q_s3
  go_wp2_with fail
  refine (callsIn_wide.1 (free_in 0 _ _ _ _ w1)).mono ?_
  rintro e w2 ⟨rfl, rfl⟩
  clear c_q_s0 c_q_s1 c_q_s2 c_q_s3
  obtain ⟨q_s, O_s, hB⟩ := HQ.out
  clear HQ
  have hst := (Below.refl w1.heap.size w1).alloc (Nat.le_refl _) (.cells #[.slice ab_s s.disk.blocks.length cb_s, .slice au_s s.disk.waits.length cu_s, .slice (some ⟨nb, no, none⟩) 256 cx_s, .slice (some ⟨lb, lo, none⟩) 256 cy_s] 28)
  have hnew := World.alloc_heap_new w1 (.cells #[.slice ab_s s.disk.blocks.length cb_s, .slice au_s s.disk.waits.length cu_s, .slice (some ⟨nb, no, none⟩) 256 cx_s, .slice (some ⟨lb, lo, none⟩) 256 cy_s] 28)
  replace q_s := q_s.step hst
  replace O_s := O_s.step hst
  replace hB := hB.step hst
  have hc1 := fun i x hx => (hst.cell (p := ⟨nb, no + i, none⟩) zb).trans (hcell i x hx)
  have hc2 := fun i x hx => (hst.cell (p := ⟨lb, lo + i, none⟩) zd).trans (hcell2 i x hx)
  have hsz := hst.size
  have hk := collect_free w1.heap.size w1.heap.size nb no cx_s lb lo cy_s _ _ _ s h256 h257 z1 zc z2 ze zb zd _ hsz hnew hc1 hc2
  obtain ⟨w3, hw3⟩ : ∃ w3, w1.alloc (.cells #[.slice ab_s s.disk.blocks.length cb_s, .slice au_s s.disk.waits.length cu_s, .slice (some ⟨nb, no, none⟩) 256 cx_s, .slice (some ⟨lb, lo, none⟩) 256 cy_s] 28) = w3 := ⟨_, rfl⟩
  rw [hw3] at hk hB ⊢
  have HK := Lib.hid (And.intro hk hB)
  clear hk hB hnew hc1 hc2 hcell hcell2 hw3 hst O_s q_s
  go_wp2_with fail
  refine HK.out.1.mono ?_
  rintro e w4 ⟨v, rfl, hS, hb⟩
  have hBf := LW.step HK.out.2 hb
  have hsz3 := (Below.size HK.out.2)
  have HS := Lib.hid (hS.more hsz3 (Nat.le_refl _))
  clear hS hb
  go_wp2
  go_ret2
  exact ⟨v, rfl, HS.out, hBf⟩

end Go.Proofs.Ytkfgegdnpinbdaa

namespace Go.Proofs.Ytkfgegdnpinbdaa
open Go.RowKit

section
variable {P : Program} {ops : Array Oper} {Q : Exit → Act → World → Prop} {md : Region.Mode} {l n : Nat}

theorem wpIn_round {o : Oper} {a : Act} {w : World} {K : Act → World → Prop} (hd : ∀ c, o.op ≠ .defer c) (h : o.wp P a w K Q) : o.wpIn (Fence.wide.inRound l) n P a w K Q := by
  refine ⟨fun _ _ => trivial, ?_⟩
  rw [Oper.semAt_eq _ _ _ hd]
  unfold Oper.wp at h
  revert h
  cases hr : (execOp a.eval o).run P w with
  | ok x w' =>
    cases x with
    | value v => exact fun h => h
    | skip => exact fun h => h
    | defer d => exact fun h => h
    | enter f args => exact fun h => ⟨fun h => (by cases h), CallsIn.inRound l (callsIn_wide.2 h)⟩
    | row row args => exact fun h => ⟨fun h => (by cases h), fun c cs _ => let ⟨v, w2, r, s⟩ := h c cs; ⟨v, w2, r, stepsIn_wide.2 s⟩⟩
    | _ => exact fun h => h.elim
  | halt x w' =>
    cases x with
    | panic v => exact fun h => h
    | _ => exact fun h => h.elim
/-- No operation defers. -/
def noDefer (ops : Array Oper) : Bool := ops.toList.all fun o => match o.op with | .defer _ => false | _ => true
theorem noDefer_at (h : noDefer ops = true) {i : Nat} {o : Oper} (ho : ops[i]? = some o) : ∀ c, o.op ≠ .defer c := by
  intro c e
  have := List.all_eq_true.1 h o (by
    obtain ⟨h1, h2⟩ := Array.getElem?_eq_some_iff.1 ho
    rw [← h2]
    exact Array.getElem_mem_toList h1)
  rw [e] at this
  cases this
theorem wpAnyIn_of (hQ : ¬ LetsOut Q) (hd : noDefer ops = true) : ∀ (fuel : Nat) (listed : Array Bool) (a : Act) (w : World), wpAny P md ops Q fuel listed a w → wpAnyIn (Fence.wide.inRound l) n P md ops Q fuel listed a w
  | 0, _, _, _, h => h
  | fuel + 1, listed, a, w, h => ⟨h.1, fun i hi => by
      have h2 := h.2 i hi
      unfold wpOp at h2
      unfold wpOpIn
      cases ho : ops[i]? with
      | none =>
        rw [ho] at h2
        exact wpAnyIn_of hQ hd fuel _ _ _ h2
      | some o =>
        rw [ho] at h2
        simp only at h2 ⊢
        split at h2
        · rename_i hw
          rw [if_pos hw]
          rcases h2 with h2 | ⟨_, h2⟩
          · exact wpIn_round (noDefer_at hd ho) (Oper.wp_mono (fun a w h => wpAnyIn_of hQ hd fuel _ _ _ h) h2)
          · exact absurd h2 hQ
        · rename_i hw
          rw [if_neg hw]
          exact ⟨fun _ _ => trivial, wpAnyIn_of hQ hd fuel _ _ _ h2⟩⟩
theorem wpIn_region_L {id : Nat} {a : Act} {w : World} {S : World → Prop} (z : Nat) (hm : P.follows .mixedOrders = true) (hd : noDefer ops = true) (hQ : ¬ LetsOut Q) (hS : S w.drew)
    (h : S w.drew → wpAnyL P .any ops Q S z ops.size (Array.replicate ops.size false) a w.drew) : (Code.region id ops true).wpIn (Fence.wide.inRound l) n P Q a w :=
  wpIn_region_any hm (wpAnyIn_of hQ hd _ _ _ _ (wpAny_ofL _ _ _ _ (h hS)))
end
end Go.Proofs.Ytkfgegdnpinbdaa

