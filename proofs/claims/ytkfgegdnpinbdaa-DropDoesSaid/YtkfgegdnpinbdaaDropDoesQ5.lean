/- DropDoes: the words and contracts, part 5. -/
import Derived.Test.YtkfgegdnpinbdaaDropDoesQ1
import Derived.Test.YtkfgegdnpinbdaaDropDoesQ2
import Derived.Test.YtkfgegdnpinbdaaDropDoesQ3
import Derived.Test.YtkfgegdnpinbdaaDropDoesQ4
import Derived.WalkKit
import Derived.WalkLawsBesides
import Derived.WalkSpells
import Derived.Lib.Hide
import Derived.Laws.Rows
import Derived.Laws.AppendOwnNone
import Derived.Maps.AppendAt
import Derived.RangeFuncNested
import Derived.RangeFuncBound
import Derived.RangeFuncCalls
import Derived.RangeFuncLeaves
import Derived.RangeFuncBox
import Derived.Shelf.Abstract
import Derived.Shelf.RegionOpen
import Derived.OwnWalkIn
import Derived.TacticsInMore
import Derived.LoopNIn
import Derived.LoopIn
import Derived.ProofKit
import Derived.Deep.Slices
import Derived.WideShapes
import Derived.OrdersHeld
import Derived.Deep.QuietTactic
import Derived.BigQuiet
import Derived.StillTailTactics
import Derived.OpenShut
import Derived.Lib.SliceRun
import Derived.Lib.AppendZerosOnto
import Derived.Lib.Walk
import Derived.Deep.LoopGhost
import Derived.Laws.CopyOwn
import Derived.Deep.DeepCutAuto
import Derived.Laws.CopyRow
import Derived.Laws.MakeOwn
import Derived.Deep.RegionHeld
namespace Go.Proofs.Ytkfgegdnpinbdaa
open Go.RowKit Go.Shelf
attribute [local go_sem] Oper.semAt_some

/-- What has come of n from behind when k rounds are over. -/
def backF (n k : Nat) : List (Fin n) := (List.range k).filterMap fun j => if h : n - 1 - j < n then some ⟨n - 1 - j, h⟩ else none
theorem backF_succ (n k m : Nat) (hm : m < n) (hmk : m + 1 + k = n) : backF n (k + 1) = backF n k ++ [⟨m, hm⟩] := by
  have e : n - 1 - k = m := by omega
  simp only [backF, List.range_succ, List.filterMap_append, List.filterMap_cons, List.filterMap_nil]
  rw [dif_pos (by omega)]
  simp [e]
theorem backF_length (n k : Nat) (h : k ≤ n) : (backF n k).length = k := by
  induction k with
  | zero => rfl
  | succ k ih =>
    rw [backF_succ n k (n - 1 - k) (by omega) (by omega), List.length_append, ih (by omega)]
    rfl
theorem backF_mem (n k : Nat) (i : Fin n) : i ∈ backF n k ↔ n ≤ i.1 + k := by
  unfold backF
  rw [List.mem_filterMap]
  constructor
  · rintro ⟨j, hj, h⟩
    split at h
    · cases h
      have := List.mem_range.1 hj
      simp
      omega
    · cases h
  · intro h
    have := i.2
    refine ⟨n - 1 - i.1, List.mem_range.2 (by omega), ?_⟩
    rw [dif_pos (by omega)]
    congr 1
    apply Fin.ext
    simp
    omega

set_option maxRecDepth 100000 in
set_option maxHeartbeats 2000000 in
theorem backw1_in (F : Fence) (n : Nat) (h7 : F.fn 109) (hro : F.round = none) (hn : 1 ≤ n) (l Bs n₀ b off cap : Nat) (bs : List (Int × Value)) (hlm : bs.length ≤ cap) (hcm : cap ≤ maxLen) (hb : b < n₀) (J Jx : List (Fin bs.length) → World → Prop)
    (hY : ∀ pre x W, J pre W → pre.length < bs.length → YieldAt F (n - 1) Try.prog l #[.int .i64 (x.1 : Int), .agg #[.int .i64 bs[x.1].1, bs[x.1].2]] W fun e W' =>
      (e = .returned (.bool true) ∧ J (pre ++ [x]) W' ∧ KeepB n₀ Bs W W') ∨ (e = .returned (.bool false) ∧ Jx (pre ++ [x]) W'))
    (W : World) (hBs : W.cell? ⟨Bs, 0, none⟩ = some (.slice (some ⟨b, off, none⟩) bs.length cap)) (hc : ∀ i x, bs[i]? = some x → W.cell? ⟨b, off + i * 2, none⟩ = some (.int .i64 x.1) ∧ W.cell? ⟨b, off + i * 2 + 1, none⟩ = some x.2) (h0 : J [] W) :
    CallsIn F n Try.prog 109 #[.func (.yield l) #[] #[], .pointer (some ⟨Bs, 0, none⟩)] W fun e W' => (∃ v, e = .returned v) ∧
      ((∃ ys, ys = backF bs.length bs.length ∧ J ys W') ∨ (∃ pre, (∃ k, k ≤ bs.length ∧ pre = backF bs.length k) ∧ Jx pre W')) := by
  unfold maxLen at hcm
  refine callsIn_of_wp Try.func109 rfl h7 ?_ hro
  simp only [Try.ntmps109, List.size_toArray, List.length_cons, List.length_nil, Nat.reduceAdd, Nat.reduceSub, Array.replicate_succ, Array.replicate_zero, List.push_toArray, List.append_toArray, List.nil_append, List.cons_append]
  gi_wp2
  gi_loopw [3] (fun i wr => ∃ k : Nat, k ≤ bs.length ∧ i = .int .i64 ((bs.length : Int) - 1 - k) ∧ J (backF bs.length k) wr ∧ KeepB n₀ Bs W wr)
    (fun i _ => (intOf i + 1).toNat)
  case atStart => exact ⟨0, Nat.zero_le _, by simp, h0, KeepB.refl _ _ _⟩
  case round =>
    obtain ⟨k, hk, rfl, hJs, hnx⟩ := hrel
    have hBs' : wr.cell? ⟨Bs, 0, none⟩ = some (.slice (some ⟨b, off, none⟩) bs.length cap) := hnx.2.trans hBs
    by_cases hlt : k < bs.length
    · obtain ⟨m, hm, hmk⟩ : ∃ m : Nat, m < bs.length ∧ m + 1 + k = bs.length := ⟨bs.length - 1 - k, by omega, by omega⟩
      have hcx : wr.cell? ⟨b, off + m * 2, none⟩ = some (.int .i64 bs[m].1) := (hnx.1.cell (p := ⟨b, off + m * 2, none⟩) hb).trans (hc m bs[m] (by simp [hm])).1
      have hcx2 : wr.cell? ⟨b, off + m * 2 + 1, none⟩ = some bs[m].2 := (hnx.1.cell (p := ⟨b, off + m * 2 + 1, none⟩) hb).trans (hc m bs[m] (by simp [hm])).2
      obtain ⟨fn, tmps, assign, body, hy, hR⟩ := hY _ ⟨m, hm⟩ wr hJs (by rw [backF_length _ _ hk]; exact hlt)
      have hsucc : backF bs.length (k + 1) = backF bs.length k ++ [⟨m, hm⟩] := backF_succ _ k m hm hmk
      have HS := Lib.hid hsucc
      clear hsucc
      rw [show ((bs.length : Int) - 1 - (k : Int)) = (m : Int) by omega]
      dsimp only at hy
      generalize bs[m].1 = x1 at *
      generalize bs[m].2 = x2 at *
      have HK := Lib.hid hmk
      clear hmk
      gi_wp2
      refine hR.mono ?_
      rintro e W3 (⟨rfl, hJ3, hk3⟩ | ⟨rfl, hJx3⟩)
      · gi_wp2
        go_roundw
        case rel => exact ⟨k + 1, by omega, by have := HK.out; congr 1 <;> omega, by rw [HS.out]; exact hJ3, hnx.trans hk3⟩
        case measure => (simp [intOf])
      · gi_wp2
        refine bodyPost_ret (results_none rfl _ _ _) rfl ?_
        exact ⟨⟨_, rfl⟩, .inr ⟨_, ⟨k + 1, by omega, HS.out.symm⟩, hJx3⟩⟩
    · obtain rfl : k = bs.length := by omega
      gi_wp2
      go_end0
      exact ⟨⟨_, rfl⟩, .inl ⟨_, rfl, hJs⟩⟩

set_option maxRecDepth 100000 in
set_option maxHeartbeats 1000000 in
theorem backw1_none (F : Fence) (n : Nat) (h7 : F.fn 109) (hro : F.round = none) (l Bs cap : Nat) (a : Option Addr) (J : List (Fin 0) → World → Prop) (W : World) (hBs : W.cell? ⟨Bs, 0, none⟩ = some (.slice a 0 cap)) (h0 : J [] W) :
    CallsIn F n Try.prog 109 #[.func (.yield l) #[] #[], .pointer (some ⟨Bs, 0, none⟩)] W fun e W' => (∃ v, e = .returned v) ∧ J [] W' := by
  refine callsIn_of_wp Try.func109 rfl h7 ?_ hro
  simp only [Try.ntmps109, List.size_toArray, List.length_cons, List.length_nil, Nat.reduceAdd, Nat.reduceSub, Array.replicate_succ, Array.replicate_zero, List.push_toArray, List.append_toArray, List.nil_append, List.cons_append]
  gi_wp2
  gi_loopw [3] (fun i wr => i = .int .i64 (-1) ∧ J [] wr) (fun _ _ => 0)
  case atStart => exact ⟨rfl, h0⟩
  case round =>
    obtain ⟨rfl, hJs⟩ := hrel
    gi_wp2
    go_end0
    exact ⟨⟨_, rfl⟩, hJs⟩

set_option maxHeartbeats 1000000 in
theorem backw_in (F : Fence) (n : Nat) (h5 : F.fn 84) (hro : F.round = none) (a : Option Addr) (len cap : Nat) (w : World) :
    CallsIn F n Try.prog 84 #[.slice a len cap] w fun e w' => e = .returned (.func (.func 109) #[] #[.pointer (some ⟨w.heap.size, 0, none⟩)]) ∧ w' = w.alloc (.cells #[.slice a len cap] 23) := by
  refine callsIn_of_wp Try.func84 rfl h5 ?_ hro
  simp only [Try.ntmps84, List.size_toArray, List.length_cons, List.length_nil, Nat.reduceAdd, Nat.reduceSub, Array.replicate_succ, Array.replicate_zero, List.push_toArray, List.append_toArray, List.nil_append, List.cons_append]
  gi_wp2
  go_ret
  exact ⟨rfl, rfl⟩

/-- The value that slices.Backward hands back: all places and bytes, from behind; or the first k of them. -/
theorem backw_stops (F : Fence) (n : Nat) (h7 : F.fn 109) (hro : F.round = none) (hn : 1 ≤ n) (Bs n₀ : Nat) (a : Option Addr) (c : Nat) (bs : List (Int × Value)) (w : World) (hBs : Bs < w.heap.size) (hn₀ : n₀ ≤ w.heap.size)
    (hc : w.cell? ⟨Bs, 0, none⟩ = some (.slice a bs.length c)) (h1 : bs.length ≤ c) (h2 : c ≤ maxLen)
    (h3 : 0 < bs.length → ∃ b off, a = some ⟨b, off, none⟩ ∧ b < n₀ ∧ ∀ i x, bs[i]? = some x → w.cell? ⟨b, off + i * 2, none⟩ = some (.int .i64 x.1) ∧ w.cell? ⟨b, off + i * 2 + 1, none⟩ = some x.2) :
    SeqStopsK F n Try.prog 109 #[.pointer (some ⟨Bs, 0, none⟩)] (fun x : Fin bs.length => #[.int .i64 (x.1 : Int), .agg #[.int .i64 bs[x.1].1, bs[x.1].2]]) (KeepB n₀ Bs) (fun ys => ys = backF bs.length bs.length)
      (fun pre => ∃ k, k ≤ bs.length ∧ pre = backF bs.length k) bs.length w := fun l J Jx W hW _ _ hY h0 => by
  have hc' := (hW.cell (p := ⟨Bs, 0, none⟩) hBs).trans hc
  rcases Nat.eq_zero_or_pos bs.length with hz | hp
  · have : bs = [] := List.eq_nil_of_length_eq_zero hz
    subst this
    exact (backw1_none F n h7 hro l Bs c a J W hc' h0).mono fun e W' ⟨he, hj⟩ => ⟨he, .inl ⟨_, rfl, hj⟩⟩
  · obtain ⟨b, off, rfl, hb, hcs⟩ := h3 hp
    replace hcs : ∀ i x, bs[i]? = some x → W.cell? ⟨b, off + i * 2, none⟩ = some (.int .i64 x.1) ∧ W.cell? ⟨b, off + i * 2 + 1, none⟩ = some x.2 := fun i x hx =>
      ⟨(hW.cell (p := ⟨b, off + i * 2, none⟩) (by show b < w.heap.size; omega)).trans (hcs i x hx).1, (hW.cell (p := ⟨b, off + i * 2 + 1, none⟩) (by show b < w.heap.size; omega)).trans (hcs i x hx).2⟩
    exact backw1_in F n h7 hro hn l Bs n₀ b off c bs h1 h2 hb J Jx hY W hc' hcs h0
end Go.Proofs.Ytkfgegdnpinbdaa

namespace Go.Proofs.Ytkfgegdnpinbdaa
open Go.RowKit Go.Shelf
attribute [local go_sem] Oper.semAt_some

/-- A block as it is seen. -/
def lastW : List WrL → Int → Option WrL
  | [], _ => none
  | x :: l, p => match lastW l p with
    | some y => some y
    | none => if x.at_ = p then some x else none
def seenD (d : DiskL) (p : Int) : List UInt8 :=
  match lastW d.waits p with
  | some x => x.data
  | none => d.blocks.getD p.toNat []
theorem lastW_none (l : List WrL) (p : Int) (h : ∀ x ∈ l, x.at_ ≠ p) : lastW l p = none := by
  induction l with
  | nil => rfl
  | cons y l ih =>
    rw [lastW, ih (fun x hx => h x (List.mem_cons_of_mem _ hx))]
    simp [h y (List.mem_cons_self ..)]
theorem lastW_at (l : List WrL) (p : Int) (m : Nat) (hm : m < l.length) (h1 : (l.getD m ⟨0, []⟩).at_ = p) (h2 : ∀ j, m < j → j < l.length → (l.getD j ⟨0, []⟩).at_ ≠ p) : lastW l p = some (l.getD m ⟨0, []⟩) := by
  induction l generalizing m with
  | nil => simp at hm
  | cons y l ih =>
    cases m with
    | zero =>
      have hn : lastW l p = none := lastW_none l p (fun x hx => by
        obtain ⟨j, hj⟩ := List.mem_iff_getElem?.1 hx
        have hjl := (List.getElem?_eq_some_iff.1 hj).1
        have := h2 (j + 1) (by omega) (by simp; omega)
        rw [List.getD_cons_succ, List.getD_eq_getElem?_getD, hj] at this
        exact this)
      rw [lastW, hn]
      simp at h1
      simp [h1]
    | succ m =>
      rw [lastW, ih m (by simpa using hm) (by simpa using h1) (fun j hj hjl => by
        have := h2 (j + 1) (by omega) (by simp; omega)
        simpa using this)]
      simp

/-- What is in cells stays. -/
def CK (W W' : World) : Prop := W.heap.size ≤ W'.heap.size ∧ ∀ a v, W.cell? a = some v → W'.cell? a = some v ∧ W'.frozen? a = W.frozen? a
theorem CK.refl (W : World) : CK W W := ⟨Nat.le_refl _, fun _ _ h => ⟨h, rfl⟩⟩
theorem CK.bytes {W W' : World} (h : CK W W') {lo hi : Nat} {v : Value} {l : List UInt8} (hb : Bytes W lo hi v l) : Bytes W' lo hi v l := by
  obtain ⟨a, c, e, h1, h2, h3, h4⟩ := hb
  refine ⟨a, c, e, h1, h2, fun hp => ?_, h4⟩
  obtain ⟨b, off, ea, hlo, hhi, hc⟩ := h3 hp
  exact ⟨b, off, ea, hlo, hhi, fun i x hx => (h.2 _ _ (hc i x hx)).1⟩
theorem CK.thawed {W W' : World} (h : CK W W') {lo hi : Nat} {v : Value} {l : List UInt8} (hb : Bytes W lo hi v l) (ht : Thawed W v) : Thawed W' v := by
  intro b off n c e i hi'
  obtain ⟨a, c', e', h1, h2, h3, h4⟩ := hb
  subst e
  cases e'
  obtain ⟨b', off', ea, hlo, hhi, hc⟩ := h3 (by omega)
  cases ea
  have := hc i (l[i]'hi') (by simp)
  exact (h.2 _ _ this).2.trans (ht _ _ _ _ rfl i hi')
theorem ck_own {β : Type} (p : β → World → Prop) : Own (fun (s : β) W => ∃ Wx, p s Wx ∧ CK Wx W) := fun _ _ _ _ ⟨Wx, h1, h2⟩ hg hr =>
  ⟨Wx, h1, Nat.le_trans h2.1 hg.size, fun a v h =>
    have h3 := h2.2 a v h
    ⟨cell_kept h3.1 hg hr, (frozen_kept h3.1 hg hr).trans h3.2⟩⟩
/-- The writes of a disk as values: places, and slices. -/
theorem writes_of {w : World} {lo hi n c : Nat} {a : Option Addr} {l : List WrL} (h : Sl rWrite w lo hi (.slice a n c) l) : ∃ bs : List (Int × Value), bs.length = l.length ∧
    (∀ i x, bs[i]? = some x → x.1 = (l.getD i ⟨0, []⟩).at_ ∧ Bytes w lo hi x.2 (l.getD i ⟨0, []⟩).data) ∧
    (0 < bs.length → ∃ b off, a = some ⟨b, off, none⟩ ∧ b < hi ∧ ∀ i x, bs[i]? = some x → w.cell? ⟨b, off + i * 2, none⟩ = some (.int .i64 x.1) ∧ w.cell? ⟨b, off + i * 2 + 1, none⟩ = some x.2) := by
  obtain ⟨a', c', e, h1, h2, h3, h4⟩ := h
  cases e
  obtain ⟨bs, hbl, hba⟩ := list_of (n := l.length) (p := fun i (x : Int × Value) => x.1 = (l.getD i ⟨0, []⟩).at_ ∧ Bytes w lo hi x.2 (l.getD i ⟨0, []⟩).data ∧ ∀ b off, a = some ⟨b, off, none⟩ → w.cell? ⟨b, off + i * 2, none⟩ = some (.int .i64 x.1) ∧ w.cell? ⟨b, off + i * 2 + 1, none⟩ = some x.2) (fun i hi => by
    obtain ⟨b, off, rfl, hlo, hhi, hc⟩ := h3 (by omega)
    obtain ⟨f0, f1, v, f2, f3⟩ := hc i _ (get_l l ⟨0, []⟩ i hi)
    refine ⟨((l.getD i ⟨0, []⟩).at_, v), rfl, f3, fun b' off' e => ?_⟩
    cases e
    exact ⟨f0, f2⟩)
  refine ⟨bs, hbl, fun i x hx => ⟨(hba i x hx).1, (hba i x hx).2.1⟩, fun hp => ?_⟩
  obtain ⟨b, off, ea, hlo, hhi, hc⟩ := h3 (by omega)
  exact ⟨b, off, ea, hhi, fun i x hx => (hba i x hx).2.2 b off ea⟩

end Go.Proofs.Ytkfgegdnpinbdaa

namespace Go.Proofs.Ytkfgegdnpinbdaa
open Go.RowKit

theorem if_yes {c : Prop} [Decidable c] {p q : Prop} (hc : c) (hp : p) : if c then p else q := by rw [if_pos hc]; exact hp
def errW (d : DiskL) (p : Int) (l : List UInt8) : Int := if errA d p ≠ 0 then errA d p else if l.length ≠ 128 then 3 else if d.waits.length = 4096 then 9 else 0
def writeD (d : DiskL) (p : Int) (l : List UInt8) : DiskL := if errW d p l = 0 then ⟨d.blocks, d.waits ++ [⟨p, l⟩]⟩ else ⟨[], []⟩
theorem errA_zero {d : DiskL} {p : Int} (h : errA d p = 0) : mayD d = true ∧ 0 ≤ p ∧ p < 256 := by
  unfold errA at h
  split at h
  · rename_i hm
    split at h
    · cases h
    · exact ⟨hm, by omega, by omega⟩
  · cases h

theorem row_bytes {w : World} {g : Nat} {D : List (List UInt8)} (hr : RowB w g 5 D.flatten) (hT : D.flatten.length ≤ 100000000) (j o : Nat) (hj : j < D.length) (ho : 0 < (D.getD j []).length → o = posD D j) :
    Bytes w g (g + 1) (.slice (some ⟨g, o, none⟩) (D.getD j []).length (D.getD j []).length) (D.getD j []) ∧ Thawed w (.slice (some ⟨g, o, none⟩) (D.getD j []).length (D.getD j []).length) := by
  refine ⟨?_, fun b off m c he i _ => by cases he; exact hr.frozen _⟩
  have hle : (D.getD j []).length ≤ maxLen := by
    have := posD_succ D j hj
    have := posD_le D (j + 1)
    unfold maxLen
    omega
  refine ⟨_, _, rfl, Nat.le_refl _, hle, fun hp => ⟨g, o, rfl, Nat.le_refl _, Nat.lt_succ_self _, fun i x hx => ?_⟩, fun h => by cases h⟩
  rw [hr.cell, ho hp]
  have hc := cut_laid D j hj
  rw [← hc, List.getElem?_take] at hx
  split at hx
  · rw [List.getElem?_drop] at hx
    rw [hx]; rfl
  · cases hx
/-- What was made by Twin, in a later world in which the row of writes has grown by one. -/
theorem TwinAt.grown {B : Nat} {w zf : World} {gb gw g : Nat} {cur : Array Value} {d : DiskL} (h : TwinAt B w gb gw g cur d) (hT : (datD d).flatten.length ≤ 100000000) (hn : d.blocks.length ≤ 100000) (hn2 : d.waits.length ≤ 100000) (hs : w.heap.size ≤ zf.heap.size)
    (e1 : zf.heap[g]? = w.heap[g]?) (e2 : zf.heap[gb]? = w.heap[gb]?) (g' cap : Nat) (cur' : Array Value) (hg' : B ≤ g') (hh' : zf.heap[g']? = some (.cells cur' 92 (0, 0))) (hk1 : d.waits.length + 1 ≤ cap) (hk2 : cap ≤ maxLen)
    (p : Int) (hp : (Lit.int .i64 p).wf = true) (v : Value) (l : List UInt8) (hk4 : cur'.toList.take ((d.waits.length + 1) * 2) = cur.toList.take (d.waits.length * 2) ++ [.int .i64 p, v]) (hv : Bytes zf B zf.heap.size v l) (ht : Thawed zf v) :
    DiskT zf B zf.heap.size (.slice (some ⟨gb, 0, none⟩) d.blocks.length d.blocks.length) (.slice (some ⟨g', 0, none⟩) (d.waits.length + 1) cap) ⟨d.blocks, d.waits ++ [⟨p, l⟩]⟩ := by
  have hrow : RowB zf g 5 (datD d).flatten := e1.trans h.row
  refine ⟨⟨_, _, rfl, Nat.le_refl _, by unfold maxLen; omega, fun _ => ⟨gb, 0, rfl, h.lo.2.1, Nat.lt_of_lt_of_le h.hi.2.1 hs, fun i x hx => ?_⟩, fun h => by cases h⟩,
    ⟨_, _, by rw [List.length_append]; rfl, by rw [List.length_append]; exact hk1, hk2, fun _ => ⟨g', 0, rfl, hg', (Array.getElem?_eq_some_iff.1 hh').1, fun i x hx => ?_⟩, fun h => by cases h⟩⟩
  · have hi : i < d.blocks.length := (List.getElem?_eq_some_iff.1 hx).1
    simp only at hx
    rw [get_l d.blocks [] i hi] at hx
    cases hx
    obtain ⟨o, h1, h2⟩ := h.bl i hi
    have hb := row_bytes hrow hT i o (by rw [datD_length]; omega) (by rw [datD_b d i hi]; exact h2)
    rw [datD_b d i hi] at hb
    refine ⟨_, ?_, hb.1.more h.lo.1 (Nat.lt_of_lt_of_le h.hi.1 hs), hb.2⟩
    show zf.cell? ⟨gb, 0 + i * 1 + 0, none⟩ = _
    rw [heap_cell e2, Nat.zero_add, Nat.mul_one, Nat.add_zero]
    exact h1
  · have hcl : ∀ j u, (cur.toList.take (d.waits.length * 2) ++ [.int .i64 p, v])[j]? = some u → zf.cell? ⟨g', j, none⟩ = some u := by
      intro j u hj
      rw [blk_cell hh', ← hj, ← hk4, List.getElem?_take, if_pos]
      · simp
      · have := (List.getElem?_eq_some_iff.1 hj).1
        rw [← hk4, List.length_take] at this
        omega
    have hsz := h.wsz
    have hxl : (cur.toList.take (d.waits.length * 2)).length = d.waits.length * 2 := by
      rw [List.length_take, Array.length_toList]
      omega
    rcases Nat.lt_or_ge i d.waits.length with hi | hi
    · rw [List.getElem?_append_left hi, get_l d.waits ⟨0, []⟩ i hi] at hx
      cases hx
      obtain ⟨h0, o, h1, h2⟩ := h.wt i hi
      have hb := row_bytes hrow hT (d.blocks.length + i) o (by rw [datD_length]; omega) (by rw [datD_w d i hi]; exact h2)
      rw [datD_w d i hi] at hb
      refine ⟨?_, h.wf i hi, _, ?_, hb.1.more h.lo.1 (Nat.lt_of_lt_of_le h.hi.1 hs), hb.2⟩
      · show zf.cell? ⟨g', 0 + i * 2 + 0, none⟩ = _
        rw [Nat.zero_add, Nat.add_zero]
        refine hcl _ _ ?_
        rw [List.getElem?_append_left (by omega), List.getElem?_take, if_pos (by omega)]
        simpa using h0
      · show zf.cell? ⟨g', 0 + i * 2 + 1, none⟩ = _
        rw [Nat.zero_add]
        refine hcl _ _ ?_
        rw [List.getElem?_append_left (by omega), List.getElem?_take, if_pos (by omega)]
        simpa using h1
    · have hi2 : i = d.waits.length := by
        have := (List.getElem?_eq_some_iff.1 hx).1
        rw [List.length_append] at this
        simp at this
        omega
      subst hi2
      rw [List.getElem?_append_right (Nat.le_refl _), Nat.sub_self] at hx
      cases hx
      refine ⟨?_, hp, v, ?_, hv, ht⟩
      · show zf.cell? ⟨g', 0 + d.waits.length * 2 + 0, none⟩ = _
        rw [Nat.zero_add, Nat.add_zero]
        refine hcl _ _ ?_
        rw [List.getElem?_append_right (by omega), hxl, Nat.sub_self]
        rfl
      · show zf.cell? ⟨g', 0 + d.waits.length * 2 + 1, none⟩ = _
        rw [Nat.zero_add]
        refine hcl _ _ ?_
        rw [List.getElem?_append_right (by omega), hxl, show d.waits.length * 2 + 1 - d.waits.length * 2 = 1 by omega]
        rfl

end Go.Proofs.Ytkfgegdnpinbdaa

namespace Go.Proofs.Ytkfgegdnpinbdaa
open Go.RowKit

def capB (x : List UInt8) : Nat := min x.length 1000000
def smB (D : List (List UInt8)) (k : Nat) : Nat := ((D.take k).map capB).sum
theorem smB_succ (D : List (List UInt8)) (k : Nat) (h : k < D.length) : smB D (k + 1) = smB D k + capB (D.getD k []) := by
  unfold smB
  rw [List.take_add_one, List.map_append, List.sum_append]
  simp [h]
theorem capB_le (x : List UInt8) : capB x ≤ 1000000 := Nat.min_le_right _ _
theorem smB_le' (D : List (List UInt8)) (c : Nat) (hc : ∀ x, capB x ≤ c) (k : Nat) : smB D k ≤ k * c := by
  induction k with
  | zero => simp [smB]
  | succ k ih =>
    rw [Nat.succ_mul]
    rcases Nat.lt_or_ge k D.length with h | h
    · rw [smB_succ D k h]
      have := hc (D.getD k [])
      omega
    · have e : smB D (k + 1) = smB D k := by
        unfold smB
        rw [List.take_of_length_le (by omega), List.take_of_length_le (by omega)]
      omega
theorem smB_le (D : List (List UInt8)) (k : Nat) : smB D k ≤ k * 1000000 := smB_le' D _ capB_le k
set_option maxRecDepth 100000 in
theorem sm_flat (D : List (List UInt8)) (h : (D.map capB).sum ≤ 800000) : D.flatten.length ≤ 800000 := by
  suffices hs : D.flatten.length = (D.map capB).sum by omega
  induction D with
  | nil => rfl
  | cons a l ih =>
    rw [List.map_cons, List.sum_cons] at h ⊢
    rw [List.flatten_cons, List.length_append, ih (by omega)]
    have : capB a = a.length := by
      unfold capB at *
      omega
    omega

set_option maxRecDepth 100000 in
set_option maxHeartbeats 1000000 in
theorem great_any (b u : Value) (d : DiskL) (w : World) (h : DiskV w 0 w.heap.size b u d) :
    Calls Try.prog 33 #[.agg #[b, u]] w fun e w' => ∃ g, e = .returned (.bool g) ∧ Below w.heap.size w w' ∧ (g = false → d.blocks.length ≤ 300 ∧ d.waits.length ≤ 5000 ∧ (datD d).flatten.length ≤ 800000) := by
  have hB := (Below.refl w.heap.size w).alloc (Nat.le_refl _) (.cells #[b, u] 25)
  have hD := h.step hB
  have hq := World.alloc_heap_new w (.cells #[b, u] 25)
  obtain ⟨ab, cb, rfl, g1, g2, -, -⟩ := h.1
  obtain ⟨au, cu, rfl, g1', g2', -, -⟩ := h.2
  unfold maxLen at g2 g2'
  clear h
  obtain ⟨W, hW⟩ : ∃ W, w.alloc (.cells #[.slice ab d.blocks.length cb, .slice au d.waits.length cu] 25) = W := ⟨_, rfl⟩
  rw [hW] at hB hD hq
  have c0 := blk_cell hq 0
  have c1 := blk_cell hq 1
  simp at c0 c1
  have HQ := Lib.hid (And.intro hD (And.intro hB hq))
  clear hD hB hq
  go_enter Try.func33, Try.ntmps33
  by_cases h1 : 300 < d.blocks.length
  · have i1 : (300 : Int) < d.blocks.length := by omega
    go_wp2
    go_ret
    exact ⟨true, rfl, HQ.out.2.1, fun h => by cases h⟩
  have d1 : decide ((300 : Int) < d.blocks.length) = false := by simp; omega
  by_cases h2 : 5000 < d.waits.length
  · have i2 : (5000 : Int) < d.waits.length := by omega
    go_wp2
    go_ret
    exact ⟨true, rfl, HQ.out.2.1, fun h => by cases h⟩
  have d2 : decide ((5000 : Int) < d.waits.length) = false := by simp; omega
  by_cases h3 : 600 < d.waits.length ∧ d.waits.length < 4096
  · have i3 : (600 : Int) < d.waits.length := by omega
    have i4 : (d.waits.length : Int) < 4096 := by omega
    go_wp2
    go_ret
    exact ⟨true, rfl, HQ.out.2.1, fun h => by cases h⟩
  obtain ⟨D, hDD⟩ : ∃ D, datD d = D := ⟨_, rfl⟩
  have HL := Lib.hid (show D.length = d.blocks.length + d.waits.length by rw [← hDD, datD_length])
  have HDB := Lib.hid (show ∀ k, k < d.blocks.length → D.getD k [] = d.blocks.getD k [] from fun k hk => by rw [← hDD]; exact datD_b d k hk)
  have HDW := Lib.hid (show ∀ k, k < d.waits.length → D.getD (d.blocks.length + k) [] = (d.waits.getD k ⟨0, []⟩).data from fun k hk => by rw [← hDD]; exact datD_w d k hk)
  have HDD := Lib.hid hDD
  clear hDD
  have h1' : d.blocks.length ≤ 300 := by omega
  have h2' : d.waits.length ≤ 5000 := by omega
  have hsplit : (decide ((600 : Int) < d.waits.length) = false) ∨ ((600 : Int) < d.waits.length ∧ decide ((d.waits.length : Int) < 4096) = false) := by
    by_cases h : 600 < d.waits.length
    · exact .inr ⟨by omega, by simp; omega⟩
    · exact .inl (by simp; omega)
  clear h3
  go_upto_region 1 with (fail)
  go_cut [27] (fun s wx => s = .bool false ∧ wx = W)
  case first =>
    rcases hsplit with d3 | ⟨i3, d4⟩
    · go_wp2
      go_meet
      exact ⟨rfl, rfl⟩
    · go_wp2
      go_meet
      exact ⟨rfl, rfl⟩
  case rest =>
  obtain ⟨rfl, rfl⟩ := hcut
  clear hsplit d1 d2
  have HS := Lib.hid (show ∀ k, k ≤ 6000 → smB D k ≤ 6000000000 from fun k hk => Nat.le_trans (smB_le D k) (by omega))
  clear h1 h2
  go_wp2_with fail
  go_loopw [3, 4] (fun v i wr => ∃ k : Nat, k ≤ d.blocks.length ∧ i = .int .i64 k ∧ v = .int .i64 (smB D k) ∧ wr = wc) (fun _ i _ => d.blocks.length - (intOf i).toNat)
  case atStart => exact ⟨0, Nat.zero_le _, rfl, rfl, rfl⟩
  case round =>
  obtain ⟨k, hk, rfl, rfl, rfl⟩ := hrel
  by_cases hlt : k < d.blocks.length
  · obtain ⟨bb, bo, cb', e', -, z1, z2, z3, hbe⟩ := HQ.out.1.1.at_ (by omega)
    injection e' with ea _ ec
    subst ea ec
    obtain ⟨v, hv, hvb⟩ := hbe k (d.blocks.getD k []) (get_l _ _ _ hlt)
    obtain ⟨av, cv, rfl, -, hcv⟩ := hvb.form rfl
    unfold maxLen at hcv z3
    have hv' : wr.cell? ⟨bb, bo + k, none⟩ = some (.slice av (d.blocks.getD k []).length cv) := by simpa [rBytes] using hv
    have hps : smB D (k + 1) = smB D k + capB (d.blocks.getD k []) := by rw [smB_succ D k (by have := HL.out; omega), HDB.out k hlt]
    have hpt := HS.out k (by omega)
    have hcl := capB_le (d.blocks.getD k [])
    have hmin : min ((d.blocks.getD k []).length : Int) 1000000 = (capB (d.blocks.getD k []) : Int) := by unfold capB; omega
    have HPS := Lib.hid hps
    clear hps hv hvb hbe
    generalize capB (d.blocks.getD k []) = cy at *
    generalize (d.blocks.getD k []).length = y at *
    generalize smB D k = pk at *
    go_wp2
    go_roundw
    case rel => exact ⟨k + 1, by omega, by go_num, by rw [HPS.out]; go_num, trivial⟩
    case measure => simp [intOf]; omega
  obtain rfl : k = d.blocks.length := by omega
  clear hk hlt
  obtain ⟨V, hV⟩ : ∃ V, V = wr := ⟨_, rfl⟩
  subst hV
  go_wp2_with fail
  go_loopw [3, 5] (fun v i wr => ∃ k : Nat, k ≤ d.waits.length ∧ i = .int .i64 k ∧ v = .int .i64 (smB D (d.blocks.length + k)) ∧ wr = V) (fun _ i _ => d.waits.length - (intOf i).toNat)
  case atStart => exact ⟨0, Nat.zero_le _, rfl, rfl, rfl⟩
  case round =>
  obtain ⟨k, hk, rfl, rfl, rfl⟩ := hrel
  by_cases hlt : k < d.waits.length
  · obtain ⟨bb, bo, cb', e', -, z1, z2, z3, hbe⟩ := HQ.out.1.2.at_ (by omega)
    injection e' with ea _ ec
    subst ea ec
    obtain ⟨f0, f1, v, f2, f3⟩ := hbe k (d.waits.getD k ⟨0, []⟩) (get_l _ _ _ hlt)
    obtain ⟨av, cv, rfl, -, hcv⟩ := f3.form rfl
    unfold maxLen at hcv z3
    have hps : smB D (d.blocks.length + (k + 1)) = smB D (d.blocks.length + k) + capB (d.waits.getD k ⟨0, []⟩).data := by
      rw [← Nat.add_assoc, smB_succ D (d.blocks.length + k) (by have := HL.out; omega), HDW.out k hlt]
    have hpt := HS.out (d.blocks.length + k) (by omega)
    have hcl := capB_le (d.waits.getD k ⟨0, []⟩).data
    have hmin : min ((d.waits.getD k ⟨0, []⟩).data.length : Int) 1000000 = (capB (d.waits.getD k ⟨0, []⟩).data : Int) := by unfold capB; omega
    obtain ⟨y, hy⟩ : ∃ y, d.waits.getD k ⟨0, []⟩ = y := ⟨_, rfl⟩
    rw [hy] at f2 hps hcl hmin
    clear hy f0 f1 f3 hbe
    have HPS := Lib.hid hps
    clear hps
    obtain ⟨at_, dt⟩ := y
    simp [rWrite] at f2
    simp only at hcl hmin HPS
    generalize capB dt = cy at *
    generalize smB D (d.blocks.length + k) = pk at *
    go_wp2
    go_roundw
    case rel => exact ⟨k + 1, by omega, by go_num, by rw [HPS.out]; go_num, trivial⟩
    case measure => simp [intOf]; omega
  obtain rfl : k = d.waits.length := by omega
  have hsum : smB D (d.blocks.length + d.waits.length) = (D.map capB).sum := by
    rw [← HL.out]
    unfold smB
    rw [List.take_length]
  have hpt := HS.out (d.blocks.length + d.waits.length) (by omega)
  rw [hsum] at hpt ⊢
  have HSM := Lib.hid (sm_flat D)
  clear hsum
  generalize (D.map capB).sum = sm at *
  by_cases h5 : 800000 < sm
  · have i5 : (800000 : Int) < sm := by omega
    go_wp2
    go_ret
    exact ⟨true, rfl, HQ.out.2.1, fun h => by cases h⟩
  · have d5 : decide ((800000 : Int) < sm) = false := by simp; omega
    have hle : sm ≤ 800000 := by omega
    have HLE := Lib.hid hle
    clear hle h5
    go_wp2
    go_ret
    exact ⟨_, rfl, HQ.out.2.1, fun _ => ⟨h1', h2', by rw [HDD.out]; exact HSM.out HLE.out⟩⟩
end Go.Proofs.Ytkfgegdnpinbdaa

namespace Go.Proofs.Ytkfgegdnpinbdaa
open Go.RowKit

theorem errA_may {d : DiskL} (p : Int) (h : mayD d = true) : errA d p = if p < 0 ∨ 256 ≤ p then 2 else 0 := by
  unfold errA
  rw [if_pos h]
theorem may_of (bl : List (List UInt8)) (wl : List WrL) (h1 : bl.length = 256) (h2 : wl.length ≤ 4096) (h3 : ∀ x ∈ bl, x.length = 128) (h4 : ∀ x ∈ wl, 0 ≤ x.at_ ∧ x.at_ < 256 ∧ x.data.length = 128) : mayD ⟨bl, wl⟩ = true := by
  unfold mayD okW
  simp only [Bool.and_eq_true, beq_iff_eq, decide_eq_true_eq, List.all_eq_true]
  exact ⟨⟨⟨h1, h2⟩, h3⟩, fun x hx => ⟨⟨(h4 x hx).1, (h4 x hx).2.1⟩, (h4 x hx).2.2⟩⟩
theorem errW_zero {d : DiskL} {p : Int} {l : List UInt8} (h : errW d p l = 0) : mayD d = true ∧ 0 ≤ p ∧ p < 256 ∧ l.length = 128 ∧ d.waits.length < 4096 ∧ errA d p = 0 := by
  unfold errW at h
  split at h
  · rename_i h1; exact absurd h h1
  · rename_i h1
    split at h
    · cases h
    · rename_i h2
      split at h
      · cases h
      · rename_i h3
        have h1' : errA d p = 0 := by
          rcases Decidable.em (errA d p = 0) with e | e
          · exact e
          · exact absurd e h1
        have h4 := errA_zero h1'
        have h5 := may_len h4.1
        have h2' : l.length = 128 := by
          rcases Decidable.em (l.length = 128) with e | e
          · exact e
          · exact absurd e h2
        exact ⟨h4.1, h4.2.1, h4.2.2, h2', by omega, h1'⟩
theorem write_may {d : DiskL} {p : Int} {l : List UInt8} (h : errW d p l = 0) : writeD d p l = ⟨d.blocks, d.waits ++ [⟨p, l⟩]⟩ ∧ mayD (writeD d p l) = true := by
  have e : writeD d p l = ⟨d.blocks, d.waits ++ [⟨p, l⟩]⟩ := by unfold writeD; rw [if_pos h]
  refine ⟨e, ?_⟩
  rw [e]
  obtain ⟨h1, h2, h3, h4, h5, -⟩ := errW_zero h
  obtain ⟨m1, m2, m3, m4⟩ := may_len h1
  refine may_of _ _ m1 (by rw [List.length_append]; simp; omega) m3 (fun x hx => ?_)
  rcases List.mem_append.1 hx with hx | hx
  · exact m4 x hx
  · obtain rfl := List.mem_singleton.1 hx
    exact ⟨h2, h3, h4⟩
end Go.Proofs.Ytkfgegdnpinbdaa

namespace Go.Proofs.Ytkfgegdnpinbdaa
open Go.RowKit

theorem kp_two {lo hi r : Nat} (z : World) (a b : Value) (i : Nat) (h : r < lo) : Kp lo hi z ((z.setCell ⟨r, 0, none⟩ a).setCell ⟨r, i, none⟩ b) := fun k o h1 _ =>
  have e := (set_other _ r i b k (by omega)).trans (set_other z r 0 a k (by omega))
  ⟨heap_cell e o, heap_frozen e o⟩
theorem DiskT.keep {w w' : World} {lo hi : Nat} {b u : Value} {d : DiskL} (h : DiskT w lo hi b u d) (hk : Kp lo hi w w') : DiskT w' lo hi b u d := ⟨Sl.keep h.1 hk, Sl.keep h.2 hk⟩

end Go.Proofs.Ytkfgegdnpinbdaa

namespace Go.Proofs.Ytkfgegdnpinbdaa
open Go.RowKit

/-- A row of the call's own that holds writes. -/
def OwnW (base : Nat) (W w : World) (v : Value) (l : List WrL) : Prop := ∃ xs, w.ownsRow base 92 2 v l.length xs ∧ ∀ j x, l[j]? = some x → (xs[j * 2]? = some (.int .i64 x.at_) ∧ (Lit.int .i64 x.at_).wf = true) ∧ ∃ y, xs[j * 2 + 1]? = some y ∧ Bytes W 0 W.heap.size y x.data
theorem OwnW.nil_ (base : Nat) (W w : World) : OwnW base W w (.slice none 0 0) [] := ⟨[], World.ownsRow_nil _ _ _ _, fun j x h => by simp at h⟩
theorem OwnW.sl {base : Nat} {W w : World} {v : Value} {l : List WrL} (h : OwnW base W w v l) (hB : Below W.heap.size W w) : Sl rWrite w 0 w.heap.size v l := by
  obtain ⟨xs, ⟨hl, hrow⟩, hx⟩ := h
  rcases hrow with ⟨rfl, h0⟩ | ⟨g, cap, cur, rfl, hg, hh, h1, h2, h3, h4⟩
  · have : l = [] := List.eq_nil_of_length_eq_zero (by omega)
    subst this
    exact Sl.nil_ _ _ _
  · refine ⟨_, _, rfl, h1, h2, fun _ => ⟨g, 0, rfl, Nat.zero_le _, (Array.getElem?_eq_some_iff.1 hh).1, fun i x hxi => ?_⟩, fun h => by cases h⟩
    have hi : i < l.length := (List.getElem?_eq_some_iff.1 hxi).1
    obtain ⟨⟨e1, e2⟩, y, e3, e4⟩ := hx i x hxi
    have hc : ∀ j u, xs[j]? = some u → w.cell? ⟨g, j, none⟩ = some u := by
      intro j u hj
      rw [blk_cell hh, ← hj, ← h4, List.getElem?_take, if_pos]
      · simp
      · have := (List.getElem?_eq_some_iff.1 hj).1
        rw [hl] at this
        exact this
    refine ⟨?_, e2, y, ?_, (e4.below hB (Nat.le_refl _)).more (Nat.le_refl _) hB.size⟩
    · show w.cell? ⟨g, 0 + i * 2 + 0, none⟩ = _
      rw [Nat.zero_add, Nat.add_zero]
      exact hc _ _ e1
    · show w.cell? ⟨g, 0 + i * 2 + 1, none⟩ = _
      rw [Nat.zero_add]
      exact hc _ _ e3

theorem own_block {base : Nat} {e : TypeId} {size n : Nat} {v : Value} {xs : List Value} {w : World} (h : w.ownsRow base e size v n xs) : ∀ g, v.ownBlock = some g → base ≤ g := by
  intro g e
  rcases h.2 with ⟨rfl, h0⟩ | ⟨g, cap, cur, rfl, hgg, hh, h1, h2, h3, h4⟩
  · cases e
  · cases e; exact hgg
end Go.Proofs.Ytkfgegdnpinbdaa

namespace Go.Proofs.Ytkfgegdnpinbdaa
open Go.RowKit

theorem ext_getD {α : Type} (l m : List α) (d : α) (hl : l.length = m.length) (h : ∀ j, j < l.length → l.getD j d = m.getD j d) : l = m := by
  apply List.ext_getElem? 
  intro j
  rcases Nat.lt_or_ge j l.length with hj | hj
  · rw [get_l l d j hj, get_l m d j (by omega), h j hj]
  · rw [List.getElem?_eq_none hj, List.getElem?_eq_none (by omega)]

end Go.Proofs.Ytkfgegdnpinbdaa

namespace Go.Proofs.Ytkfgegdnpinbdaa
open Go.RowKit

/-- A disk, and where it lies. -/
structure DR (V : World) (lo hi : Nat) (b u : Value) (d : DiskL) : Prop where
  v : DiskV V lo hi b u d
  hi : hi ≤ V.heap.size
theorem DR.step {V V' : World} {lo hi : Nat} {b u : Value} {d : DiskL} (h : DR V lo hi b u d) (hst : Below V.heap.size V V') : DR V' lo hi b u d := ⟨⟨h.v.1.below hst h.hi, h.v.2.below hst h.hi⟩, Nat.le_trans h.hi hst.size⟩
theorem DR.v0 {V : World} {lo hi : Nat} {b u : Value} {d : DiskL} (h : DR V lo hi b u d) : DiskV V 0 V.heap.size b u d := h.v.more (Nat.zero_le _) h.hi
theorem DR.of {V V' : World} {b u : Value} {d : DiskL} (h : MadeD V V' b u d) : DR V' V.heap.size V'.heap.size b u d := ⟨h.disk.v, Nat.le_refl _⟩
structure BR (V : World) (lo hi : Nat) (v : Value) (l : List UInt8) : Prop where
  v : Bytes V lo hi v l
  hi : hi ≤ V.heap.size
theorem BR.step {V V' : World} {lo hi : Nat} {v : Value} {l : List UInt8} (h : BR V lo hi v l) (hst : Below V.heap.size V V') : BR V' lo hi v l := ⟨h.v.below hst h.hi, Nat.le_trans h.hi hst.size⟩
theorem BR.v0 {V : World} {lo hi : Nat} {v : Value} {l : List UInt8} (h : BR V lo hi v l) : Bytes V 0 V.heap.size v l := h.v.more (Nat.zero_le _) h.hi

end Go.Proofs.Ytkfgegdnpinbdaa

namespace Go.Proofs.Ytkfgegdnpinbdaa
open Go.RowKit

set_option maxRecDepth 100000 in
set_option maxHeartbeats 1000000 in
/-- The reference's May. -/
theorem rmayd_any (b u : Value) (d : DiskL) (w : World) (h : DiskV w 0 w.heap.size b u d) :
    Calls Try.prog 76 #[.agg #[b, u]] w fun e w' => e = .returned (.bool (mayD d)) ∧ Below w.heap.size w w' := by
  have hB := (Below.refl w.heap.size w).alloc (Nat.le_refl _) (.cells #[b, u] 25)
  have hb := h.1.step hB
  have hu := h.2.step hB
  have hq := World.alloc_heap_new w (.cells #[b, u] 25)
  obtain ⟨ab, cb, rfl, g1, g2, -, -⟩ := h.1
  obtain ⟨au, cu, rfl, g1', g2', -, -⟩ := h.2
  unfold maxLen at g2 g2'
  obtain ⟨bl, wl⟩ := d
  clear h
  simp only at *
  obtain ⟨W, hW⟩ : ∃ W, w.alloc (.cells #[.slice ab bl.length cb, .slice au wl.length cu] 25) = W := ⟨_, rfl⟩
  rw [hW] at hB hb hu hq
  have HM := Lib.hid (show mayD ⟨bl, wl⟩ = (bl.length == 256 && decide (wl.length ≤ 4096) && bl.all (fun b => b.length == 128) && wl.all okW) from rfl)
  generalize mayD ⟨bl, wl⟩ = md at *
  have HQ := Lib.hid (And.intro hq (And.intro hb (And.intro hu (And.intro hW hB))))
  clear hq hb hu hW hB
  go_enter Try.func76, Try.ntmps76
  go_upto_region 1 with (fail)
  rw [HQ.out.2.2.2.1]
  have c0 := blk_cell HQ.out.1 0
  have c1 := blk_cell HQ.out.1 1
  simp at c0 c1
  by_cases h1 : ¬ bl.length = 256
  · have i1 : ¬ (bl.length : Int) = 256 := by omega
    have hm : md = false := by rw [HM.out]; simp [h1]
    subst hm
    go_wp2
    go_ret
    exact ⟨rfl, HQ.out.2.2.2.2⟩
  have hbl : bl.length = 256 := by omega
  clear h1
  by_cases h2 : 4096 < wl.length
  · have i1 : (4096 : Int) < wl.length := by omega
    have hm : md = false := by rw [HM.out]; simp [hbl]; omega
    subst hm
    go_wp2
    go_ret
    exact ⟨rfl, HQ.out.2.2.2.2⟩
  have i2 : decide ((4096 : Int) < wl.length) = false := by simp; omega
  have HM2 := Lib.hid (show md = (bl.all (fun b => b.length == 128) && wl.all okW) by rw [HM.out, hbl]; simp [show wl.length ≤ 4096 by omega])
  clear HM
  have hb := HQ.out.2.1
  obtain ⟨bb, bo, cb', e', -, z1, z2, z3, hbe⟩ := hb.at_ (by omega)
  injection e' with ea _ ec
  subst ea ec
  have HBE := Lib.hid hbe
  unfold maxLen at z3
  clear hbe hb
  rw [hbl] at HQ g1 z2 c0 ⊢
  go_wp2_with fail
  go_loopw [3] (fun i wr => ∃ k : Nat, k ≤ 256 ∧ i = .int .i64 k ∧ wr = W ∧ ∀ j, j < k → (bl.getD j []).length = 128) (fun i _ => 256 - (intOf i).toNat)
  case atStart => exact ⟨0, Nat.zero_le _, rfl, rfl, fun j hj => absurd hj (Nat.not_lt_zero _)⟩
  case round =>
  obtain ⟨k, hk, rfl, rfl, hall⟩ := hrel
  by_cases hlt : k < 256
  · obtain ⟨v, hv, hvb⟩ := HBE.out k (bl.getD k []) (get_l _ _ _ (by omega))
    obtain ⟨av, cv, rfl, -, hcv⟩ := hvb.form rfl
    unfold maxLen at hcv
    have hv' : wr.cell? ⟨bb, bo + k, none⟩ = some (.slice av (bl.getD k []).length cv) := by simpa [rBytes] using hv
    obtain ⟨y, hy⟩ : ∃ y, bl.getD k [] = y := ⟨_, rfl⟩
    rw [hy] at hv'
    have HY := Lib.hid (And.intro hy hall)
    clear hv hvb hy hall
    by_cases h5 : y.length = 128
    · rw [h5] at hv'
      go_wp2
      go_roundw
      case rel => exact ⟨k + 1, by omega, by go_num, trivial, fun j hj => by
        by_cases e : j = k
        · subst e; rw [HY.out.1]; exact h5
        · exact HY.out.2 j (by omega)⟩
      case measure => simp [intOf]; omega
    · have i5 : ¬ (y.length : Int) = 128 := by omega
      have hm : md = false := by
        rw [HM2.out]
        have : bl.all (fun b => b.length == 128) = false := by
          rw [List.all_eq_false]
          refine ⟨y, ?_, by simp [h5]⟩
          rw [← HY.out.1]
          exact List.mem_of_getElem? (get_l _ _ _ (by omega))
        rw [this]; rfl
      subst hm
      go_wp2
      go_ret
      exact ⟨rfl, HQ.out.2.2.2.2⟩
  obtain rfl : k = 256 := by omega
  have hall2 : bl.all (fun b => b.length == 128) = true := by
    rw [List.all_eq_true]
    intro x hx
    obtain ⟨j, hj⟩ := List.mem_iff_getElem?.1 hx
    have hjl : j < bl.length := (List.getElem?_eq_some_iff.1 hj).1
    rw [get_l bl [] j hjl] at hj
    cases hj
    exact beq_iff_eq.2 (hall j (by omega))
  obtain ⟨V, hV⟩ : ∃ V, V = wr := ⟨_, rfl⟩
  subst hV
  have HM3 := Lib.hid (show md = wl.all okW by rw [HM2.out, hall2]; rfl)
  clear HM2 hall hall2 hlt hk HBE i2
  go_wp2_with fail
  go_loopw [4] (fun i wx => ∃ k : Nat, k ≤ wl.length ∧ i = .int .i64 k ∧ wx = V ∧ ∀ j, j < k → okW (wl.getD j ⟨0, []⟩) = true) (fun i _ => wl.length - (intOf i).toNat)
  case atStart => exact ⟨0, Nat.zero_le _, rfl, rfl, fun j hj => absurd hj (Nat.not_lt_zero _)⟩
  case round =>
  obtain ⟨k, hk, rfl, rfl, hall⟩ := hrel
  by_cases hlt : k < wl.length
  · obtain ⟨wb, wo, wc, e', -, y1, y2, y3, hwe⟩ := HQ.out.2.2.1.at_ (by omega)
    injection e' with ea _ ec
    subst ea ec
    unfold maxLen at y3
    obtain ⟨f0, f1, v, f2, f3⟩ := hwe k (wl.getD k ⟨0, []⟩) (get_l _ _ _ hlt)
    obtain ⟨av, cv, rfl, -, hcv⟩ := f3.form rfl
    unfold maxLen at hcv
    obtain ⟨y, hy⟩ : ∃ y, wl.getD k ⟨0, []⟩ = y := ⟨_, rfl⟩
    rw [hy] at f0 f1 f2
    have HY := Lib.hid (And.intro hy hall)
    clear hwe f3 hy hall
    obtain ⟨at_, dt⟩ := y
    simp [rWrite] at f0 f2
    have hokw : okW ⟨at_, dt⟩ = (decide (0 ≤ at_) && decide (at_ < 256) && dt.length == 128) := rfl
    have hfin := Lib.hid HQ.out.2.2.2.2
    have hbad : okW ⟨at_, dt⟩ = false → md = false := fun h => by
      rw [HM3.out, List.all_eq_false]
      refine ⟨⟨at_, dt⟩, ?_, by rw [h]; decide⟩
      rw [← HY.out.1]
      exact List.mem_of_getElem? (get_l _ _ _ hlt)
    have HBD := Lib.hid hbad
    clear hbad
    by_cases a1 : at_ < 0
    · have hm := HBD.out (by rw [hokw]; simp; omega)
      subst hm
      clear hokw
      go_wp2
      go_ret
      exact ⟨rfl, hfin.out⟩
    have d1 : decide (at_ < 0) = false := by simp; omega
    by_cases a2 : 256 ≤ at_
    · have hm := HBD.out (by rw [hokw]; simp; omega)
      subst hm
      clear hokw
      go_wp2
      go_ret
      exact ⟨rfl, hfin.out⟩
    have d2 : decide (256 ≤ at_) = false := by simp; omega
    by_cases a3 : dt.length = 128
    · have HOK := Lib.hid (show okW ⟨at_, dt⟩ = true by rw [hokw]; simp [a3]; omega)
      clear hokw
      go_wp2
      go_roundw
      case rel => exact ⟨k + 1, by omega, by go_num, trivial, fun j hj => by
        by_cases e : j = k
        · subst e; rw [HY.out.1]; exact HOK.out
        · exact HY.out.2 j (by omega)⟩
      case measure => simp [intOf]; omega
    · have i5 : ¬ (dt.length : Int) = 128 := by omega
      have hm := HBD.out (by rw [hokw]; simp [a3])
      subst hm
      clear hokw
      go_wp2
      go_ret
      exact ⟨rfl, hfin.out⟩
  obtain rfl : k = wl.length := by omega
  have hm : md = true := by
    rw [HM3.out, List.all_eq_true]
    intro x hx
    obtain ⟨j, hj⟩ := List.mem_iff_getElem?.1 hx
    have hjl : j < wl.length := (List.getElem?_eq_some_iff.1 hj).1
    rw [get_l wl ⟨0, []⟩ j hjl] at hj
    cases hj
    exact hall j hjl
  subst hm
  have hfin := HQ.out.2.2.2.2
  clear hall
  go_wp2
  go_ret
  exact ⟨rfl, hfin⟩

end Go.Proofs.Ytkfgegdnpinbdaa

namespace Go.Proofs.Ytkfgegdnpinbdaa
open Go.RowKit

set_option maxRecDepth 100000 in
set_option maxHeartbeats 1000000 in
/-- The reference's Same. -/
theorem rdsame_any (b u b' u' : Value) (d d' : DiskL) (w : World) (h : DiskV w 0 w.heap.size b u d) (h' : DiskV w 0 w.heap.size b' u' d') :
    Calls Try.prog 49 #[.agg #[b, u], .agg #[b', u']] w fun e w' => e = .returned (.bool (decide (d = d'))) ∧ Below w.heap.size w w' := by
  have hB := ((Below.refl w.heap.size w).alloc (Nat.le_refl _) (.cells #[b, u] 25)).alloc (by simp) (.cells #[b', u'] 25)
  have hq := two_new w (.cells #[b, u] 25) (.cells #[b', u'] 25)
  have hD : DiskV _ 0 _ b u d := h.step hB
  have hD' : DiskV _ 0 _ b' u' d' := h'.step hB
  obtain ⟨ab, cb, rfl, g1, g2, -, -⟩ := h.1
  obtain ⟨au, cu, rfl, g3, g4, -, -⟩ := h.2
  obtain ⟨ab', cb', rfl, g1', g2', -, -⟩ := h'.1
  obtain ⟨au', cu', rfl, g3', g4', -, -⟩ := h'.2
  unfold maxLen at g2 g4 g2' g4'
  clear h h'
  obtain ⟨W, hW⟩ : ∃ W, (w.alloc (.cells #[.slice ab d.blocks.length cb, .slice au d.waits.length cu] 25)).alloc (.cells #[.slice ab' d'.blocks.length cb', .slice au' d'.waits.length cu'] 25) = W := ⟨_, rfl⟩
  rw [hW] at hB hq hD hD'
  obtain ⟨r, hr⟩ : ∃ r, decide (d = d') = r := ⟨_, rfl⟩
  rw [hr]
  have HR := Lib.hid hr
  have HF := Lib.hid (show (d.blocks = d'.blocks → d.waits = d'.waits → d = d') from fun h1 h2 => by cases d; cases d'; simp at h1 h2; rw [h1, h2])
  have HQ := Lib.hid (And.intro hq.1 (And.intro hq.2 (And.intro hD (And.intro hD' hB))))
  have hno : d ≠ d' → r = false := fun h => by rw [← HR.out]; exact decide_eq_false h
  have HNO := Lib.hid hno
  clear hr hq hD hD' hB hno
  have c0 := blk_cell HQ.out.1 0
  have c1 := blk_cell HQ.out.1 1
  have d0 := blk_cell HQ.out.2.1 0
  have d1 := blk_cell HQ.out.2.1 1
  simp at c0 c1 d0 d1
  go_enter Try.func49, Try.ntmps49
  by_cases hl1 : d.blocks.length = d'.blocks.length
  case neg =>
    obtain rfl := HNO.out (fun e => hl1 (by rw [e]))
    have i1 : ¬ (d.blocks.length : Int) = d'.blocks.length := by omega
    go_wp2
    go_ret
    exact ⟨rfl, HQ.out.2.2.2.2⟩
  have i1 : ((d.blocks.length : Int) != d'.blocks.length) = false := by simp; omega
  by_cases hl2 : d.waits.length = d'.waits.length
  case neg =>
    obtain rfl := HNO.out (fun e => hl2 (by rw [e]))
    have i2 : ¬ (d.waits.length : Int) = d'.waits.length := by omega
    have HL1 := Lib.hid hl1
    clear hl1
    go_wp2
    go_ret
    exact ⟨rfl, HQ.out.2.2.2.2⟩
  have i2 : ((d.waits.length : Int) != d'.waits.length) = false := by simp; omega
  have HL1 := Lib.hid hl1
  have HL2 := Lib.hid hl2
  have hle1 : d.blocks.length ≤ d'.blocks.length := by omega
  have hle2 : d.waits.length ≤ d'.waits.length := by omega
  clear hl1 hl2
  go_wp2_with fail
  go_loopw [5] (fun i wr => ∃ k : Nat, k ≤ d.blocks.length ∧ i = .int .i64 k ∧ Below W.heap.size W wr ∧ ∀ j, j < k → d.blocks.getD j [] = d'.blocks.getD j []) (fun i _ => d.blocks.length - (intOf i).toNat)
  case atStart => exact ⟨0, Nat.zero_le _, rfl, Below.refl _ _, fun j hj => absurd hj (Nat.not_lt_zero _)⟩
  case round =>
  obtain ⟨k, hk, rfl, hBr, hall⟩ := hrel
  have c0' := (hBr.cell (p := ⟨w.heap.size, 0, none⟩) (cell_lt' c0)).trans c0
  have c1' := (hBr.cell (p := ⟨w.heap.size, 1, none⟩) (cell_lt' c1)).trans c1
  have d0' := (hBr.cell (p := ⟨w.heap.size + 1, 0, none⟩) (cell_lt' d0)).trans d0
  have d1' := (hBr.cell (p := ⟨w.heap.size + 1, 1, none⟩) (cell_lt' d1)).trans d1
  by_cases hlt : k < d.blocks.length
  · obtain ⟨b1, o1, k1, e1, -, -, -, z1, hb1⟩ := (HQ.out.2.2.1.step hBr).1.at_ (by omega)
    injection e1 with ea _ ec
    subst ea ec
    obtain ⟨b2, o2, k2, e2, -, -, -, z2, hb2⟩ := (HQ.out.2.2.2.1.step hBr).1.at_ (by omega)
    injection e2 with ea _ ec
    subst ea ec
    have hkm : k < d'.blocks.length := by omega
    obtain ⟨x, hx, hxb⟩ := hb1 k (d.blocks.getD k []) (get_l _ _ _ hlt)
    obtain ⟨y, hy, hyb⟩ := hb2 k (d'.blocks.getD k []) (get_l _ _ _ hkm)
    have hx' : wr.cell? ⟨b1, o1 + k, none⟩ = some x := by simpa [rBytes] using hx
    have hy' : wr.cell? ⟨b2, o2 + k, none⟩ = some y := by simpa [rBytes] using hy
    obtain ⟨lx, hlx⟩ : ∃ l, d.blocks.getD k [] = l := ⟨_, rfl⟩
    obtain ⟨ly, hly⟩ : ∃ l, d'.blocks.getD k [] = l := ⟨_, rfl⟩
    rw [hlx] at hxb
    rw [hly] at hyb
    obtain ⟨ax, kx, rfl, -, -⟩ := hxb.form rfl
    obtain ⟨ay, ky, rfl, -, -⟩ := hyb.form rfl
    have v1 := fun nq => cv_of (w := wr.drewN nq) hxb
    have v2 := fun nq => cv_of (w := wr.drewN nq) hyb
    unfold maxLen at z1 z2
    have HP := Lib.hid (And.intro hall (And.intro hBr (And.intro hlx hly)))
    clear hall hBr hlx hly hx hy hxb hyb hb1 hb2 c0 c1 d0 d1
    go_upto_region 6 with (fail)
    go_cut [42] (fun s wx => s = .bool (lx != ly) ∧ Below wr.heap.size wr wx)
    case first =>
      go_quiet (fail)
      go_wp2
      go_meet
      exact ⟨rfl, below_dn _ _ _⟩
    case rest =>
    obtain ⟨rfl, hst⟩ := hcut
    have hBx := below_step HP.out.2.1 HP.out.2.1.size hst
    clear hst
    by_cases he : lx = ly
    · subst he
      have n1 : (lx != lx) = false := by simp
      rw [n1]
      clear n1
      go_wp2
      go_roundw
      case rel => exact ⟨k + 1, by omega, by go_num, hBx, fun j hj => by
        rcases Nat.lt_succ_iff_lt_or_eq.1 hj with hj | rfl
        · exact HP.out.1 j hj
        · rw [HP.out.2.2.1, HP.out.2.2.2]⟩
      case measure => simp [intOf]; omega
    · have n1 : (lx != ly) = true := by simp [he]
      rw [n1]
      obtain rfl := HNO.out (fun e => he (by rw [← HP.out.2.2.1, ← HP.out.2.2.2, e]))
      clear n1
      go_wp2
      go_ret
      exact ⟨rfl, below_step HQ.out.2.2.2.2 HQ.out.2.2.2.2.size hBx⟩
  obtain rfl : k = d.blocks.length := by omega
  have HBL := Lib.hid (ext_getD _ _ [] HL1.out hall)
  clear hall hk hlt c0 c1 d0 d1
  obtain ⟨V, hV⟩ : ∃ V, V = wr := ⟨_, rfl⟩
  subst hV
  have HBV := Lib.hid hBr
  clear hBr
  go_wp2_with fail
  go_loopw [6] (fun i wr => ∃ k : Nat, k ≤ d.waits.length ∧ i = .int .i64 k ∧ Below V.heap.size V wr ∧ ∀ j, j < k → d.waits.getD j ⟨0, []⟩ = d'.waits.getD j ⟨0, []⟩) (fun i _ => d.waits.length - (intOf i).toNat)
  case atStart => exact ⟨0, Nat.zero_le _, rfl, Below.refl _ _, fun j hj => absurd hj (Nat.not_lt_zero _)⟩
  case round =>
  obtain ⟨k, hk, rfl, hBr, hall⟩ := hrel
  replace c0' := (hBr.cell (p := ⟨w.heap.size, 0, none⟩) (cell_lt' c0')).trans c0'
  replace c1' := (hBr.cell (p := ⟨w.heap.size, 1, none⟩) (cell_lt' c1')).trans c1'
  replace d0' := (hBr.cell (p := ⟨w.heap.size + 1, 0, none⟩) (cell_lt' d0')).trans d0'
  replace d1' := (hBr.cell (p := ⟨w.heap.size + 1, 1, none⟩) (cell_lt' d1')).trans d1'
  by_cases hlt : k < d.waits.length
  · obtain ⟨b1, o1, k1, e1, -, -, -, z1, hb1⟩ := ((HQ.out.2.2.1.step HBV.out).step hBr).2.at_ (by omega)
    injection e1 with ea _ ec
    subst ea ec
    obtain ⟨b2, o2, k2, e2, -, -, -, z2, hb2⟩ := ((HQ.out.2.2.2.1.step HBV.out).step hBr).2.at_ (by omega)
    injection e2 with ea _ ec
    subst ea ec
    have hkm : k < d'.waits.length := by omega
    obtain ⟨f0, -, x, f1, hxb⟩ := hb1 k (d.waits.getD k ⟨0, []⟩) (get_l _ _ _ hlt)
    obtain ⟨f0', -, y, f1', hyb⟩ := hb2 k (d'.waits.getD k ⟨0, []⟩) (get_l _ _ _ hkm)
    obtain ⟨X, hX⟩ : ∃ X, d.waits.getD k ⟨0, []⟩ = X := ⟨_, rfl⟩
    obtain ⟨Y, hY⟩ : ∃ Y, d'.waits.getD k ⟨0, []⟩ = Y := ⟨_, rfl⟩
    rw [hX] at f0 hxb
    rw [hY] at f0' hyb
    obtain ⟨px, lx⟩ := X
    obtain ⟨py, ly⟩ := Y
    simp [rWrite] at f0 f1 f0' f1'
    simp only at hxb hyb
    obtain ⟨ax, kx, rfl, -, -⟩ := hxb.form rfl
    obtain ⟨ay, ky, rfl, -, -⟩ := hyb.form rfl
    have v1 := fun nq => cv_of (w := wr.drewN nq) hxb
    have v2 := fun nq => cv_of (w := wr.drewN nq) hyb
    unfold maxLen at z1 z2
    have HP := Lib.hid (And.intro hall (And.intro hBr (And.intro hX hY)))
    clear hall hBr hX hY hxb hyb hb1 hb2
    by_cases hpq : px = py
    case neg =>
      have n1 : (px != py) = true := by simp [hpq]
      have n2 : ¬ px = py := hpq
      obtain rfl := HNO.out (fun e => hpq (by
        have h1 := HP.out.2.2.1
        have h2 := HP.out.2.2.2
        rw [e, h2] at h1
        exact (congrArg WrL.at_ h1).symm))
      go_wp2_with fail
      go_quiet (fail)
      go_wp2
      go_ret
      exact ⟨rfl, (below_step (below_step HQ.out.2.2.2.2 HQ.out.2.2.2.2.size (below_step HBV.out HBV.out.size HP.out.2.1)) (Nat.le_trans HQ.out.2.2.2.2.size (Nat.le_trans HBV.out.size HP.out.2.1.size)) (below_dn _ _ _))⟩
    subst hpq
    have n1 : (px != px) = false := by simp
    go_upto_region 11 with (fail)
    go_cut [79] (fun s wx => s = .bool (lx != ly) ∧ Below wr.heap.size wr wx)
    case first =>
      go_quiet (fail)
      go_wp2
      go_meet
      exact ⟨rfl, below_dn _ _ _⟩
    case rest =>
    obtain ⟨rfl, hst⟩ := hcut
    have hBx := below_step HP.out.2.1 HP.out.2.1.size hst
    clear hst n1
    by_cases he : lx = ly
    · subst he
      have n1 : (lx != lx) = false := by simp
      rw [n1]
      clear n1
      go_wp2
      go_roundw
      case rel => exact ⟨k + 1, by omega, by go_num, hBx, fun j hj => by
        rcases Nat.lt_succ_iff_lt_or_eq.1 hj with hj | rfl
        · exact HP.out.1 j hj
        · rw [HP.out.2.2.1, HP.out.2.2.2]⟩
      case measure => simp [intOf]; omega
    · have n1 : (lx != ly) = true := by simp [he]
      rw [n1]
      obtain rfl := HNO.out (fun e => he (by
        have h1 := HP.out.2.2.1
        have h2 := HP.out.2.2.2
        rw [e, h2] at h1
        exact (congrArg WrL.data h1).symm))
      clear n1
      go_wp2
      go_ret
      exact ⟨rfl, below_step HQ.out.2.2.2.2 HQ.out.2.2.2.2.size (below_step HBV.out HBV.out.size hBx)⟩
  obtain rfl : k = d.waits.length := by omega
  obtain rfl : r = true := by
    rw [← HR.out]
    exact decide_eq_true (HF.out HBL.out (ext_getD _ _ ⟨0, []⟩ HL2.out hall))
  clear hall hk hlt
  go_wp2
  go_ret
  exact ⟨rfl, below_step HQ.out.2.2.2.2 HQ.out.2.2.2.2.size (below_step HBV.out HBV.out.size hBr)⟩

set_option maxRecDepth 100000 in
set_option maxHeartbeats 1000000 in
/-- The reference's Seen: of a disk that may be, at a place inside. -/
theorem rseen_any (b u : Value) (d : DiskL) (pn : Nat) (w : World) (h : DiskV w 0 w.heap.size b u d) (hp : pn < d.blocks.length) :
    Calls Try.prog 86 #[.agg #[b, u], .int .i64 pn] w fun e w' => ∃ v, e = .returned v ∧ Bytes w' 0 w'.heap.size v (seenD d pn) ∧ Below w.heap.size w w' := by
  have hst := (Below.refl w.heap.size w).alloc (Nat.le_refl _) (.cells #[b, u] 25)
  have hD := h.step hst
  have hq := World.alloc_heap_new w (.cells #[b, u] 25)
  obtain ⟨ab, cb, rfl, g1, g2, -, -⟩ := h.1
  obtain ⟨au, cu, rfl, g3, g4, -, -⟩ := h.2
  unfold maxLen at g2 g4
  clear h
  obtain ⟨W, hW⟩ : ∃ W, w.alloc (.cells #[.slice ab d.blocks.length cb, .slice au d.waits.length cu] 25) = W := ⟨_, rfl⟩
  rw [hW] at hst hD hq
  have c0 := blk_cell hq 0
  have c1 := blk_cell hq 1
  simp at c0 c1
  have HQ := Lib.hid (And.intro hD hst)
  clear hD hst hq
  go_enter Try.func86, Try.ntmps86
  go_wp2_with fail
  go_loopw [5] (fun i wr => ∃ k : Nat, k ≤ d.waits.length ∧ i = .int .i64 ((d.waits.length : Int) - 1 - k) ∧ wr = W ∧ ∀ j, d.waits.length ≤ j + k → j < d.waits.length → (d.waits.getD j ⟨0, []⟩).at_ ≠ pn) (fun i _ => (intOf i + 1).toNat)
  case atStart => exact ⟨0, Nat.zero_le _, by simp, rfl, fun j h1 h2 => by omega⟩
  case round =>
  obtain ⟨k, hk, rfl, rfl, hall⟩ := hrel
  by_cases hlt : k < d.waits.length
  · obtain ⟨m, hm, hmk⟩ : ∃ m : Nat, m < d.waits.length ∧ m + 1 + k = d.waits.length := ⟨d.waits.length - 1 - k, by omega, by omega⟩
    rw [show ((d.waits.length : Int) - 1 - (k : Int)) = (m : Int) by omega]
    obtain ⟨b1, o1, k1, e1, -, -, -, z1, hb1⟩ := HQ.out.1.2.at_ (by omega)
    injection e1 with ea _ ec
    subst ea ec
    obtain ⟨f0, -, x, f1, hxb⟩ := hb1 m (d.waits.getD m ⟨0, []⟩) (get_l _ _ _ hm)
    obtain ⟨X, hX⟩ : ∃ X, d.waits.getD m ⟨0, []⟩ = X := ⟨_, rfl⟩
    rw [hX] at f0 hxb
    obtain ⟨px, lx⟩ := X
    simp [rWrite] at f0 f1
    simp only at hxb
    unfold maxLen at z1
    have HP := Lib.hid (And.intro hall (And.intro hX (And.intro hxb hmk)))
    clear hall hX hxb hb1 hmk
    by_cases hpq : px = (pn : Int)
    · have n1 : (px == (pn : Int)) = true := by simp [hpq]
      go_wp2
      go_ret
      refine ⟨x, rfl, ?_, HQ.out.2⟩
      have hs : seenD d pn = lx := by
        unfold seenD
        rw [lastW_at d.waits pn m hm (by rw [HP.out.2.1]; exact hpq) (fun j h1 h2 => HP.out.1 j (by have := HP.out.2.2.2; omega) h2), HP.out.2.1]
      rw [hs]
      exact HP.out.2.2.1
    · have n1 : (px == (pn : Int)) = false := by simp [hpq]
      go_wp2
      go_roundw
      case rel => exact ⟨k + 1, by omega, by have := HP.out.2.2.2; congr 1; omega, trivial, fun j h1 h2 => by
        have hmk := HP.out.2.2.2
        rcases Nat.lt_or_ge m j with h | h
        · exact HP.out.1 j (by omega) h2
        · obtain rfl : j = m := by omega
          rw [HP.out.2.1]
          exact hpq⟩
      case measure => simp [intOf]
  obtain rfl : k = d.waits.length := by omega
  have hs : seenD d pn = d.blocks.getD pn [] := by
    unfold seenD
    rw [lastW_none d.waits pn (fun x hx => by
      obtain ⟨j, hj⟩ := List.mem_iff_getElem?.1 hx
      have hjl := (List.getElem?_eq_some_iff.1 hj).1
      have := hall j (by omega) hjl
      rw [List.getD_eq_getElem?_getD, hj] at this
      exact this)]
    rfl
  have HS := Lib.hid hs
  clear hs hall
  obtain ⟨b1, o1, k1, e1, -, -, -, z1, hb1⟩ := HQ.out.1.1.at_ (by omega)
  injection e1 with ea _ ec
  subst ea ec
  obtain ⟨x, hx, hxb⟩ := hb1 pn (d.blocks.getD pn []) (get_l _ _ _ hp)
  have hx' : wr.cell? ⟨b1, o1 + pn, none⟩ = some x := by simpa [rBytes] using hx
  unfold maxLen at z1
  have HX := Lib.hid hxb
  clear hb1 hx hxb
  go_wp2
  go_ret
  exact ⟨x, rfl, by rw [HS.out]; exact HX.out, HQ.out.2⟩

end Go.Proofs.Ytkfgegdnpinbdaa

