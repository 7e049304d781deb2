/- FindAll: the words and contracts, part 6. -/
import Derived.Test.YtcibihakjcenaaaFindAllQ1
import Derived.Test.YtcibihakjcenaaaFindAllQ2
import Derived.Test.YtcibihakjcenaaaFindAllQ3
import Derived.Test.YtcibihakjcenaaaFindAllQ4
import Derived.Test.YtcibihakjcenaaaFindAllQ5
import Derived.WalkKit
import Derived.WalkLawsBesides
import Derived.WalkSpells
import Derived.Lib.Hide
import Derived.Laws.Rows
import Derived.Laws.AppendOwnNone
import Derived.Maps.AppendAt
import Derived.RangeFuncNested
import Derived.RangeFuncBound
import Derived.RangeFuncCalls
import Derived.RangeFuncLeaves
import Derived.RangeFuncBox
import Derived.Shelf.Abstract
import Derived.Shelf.RegionOpen
import Derived.OwnWalkIn
import Derived.TacticsInMore
import Derived.LoopNIn
import Derived.LoopIn
import Derived.ProofKit
import Derived.Deep.Slices
import Derived.WideShapes
import Derived.OrdersHeld
import Derived.Deep.QuietTactic
import Derived.BigQuiet
import Derived.StillTailTactics
import Derived.OpenShut
import Derived.Lib.SliceRun
import Derived.Lib.AppendZerosOnto
import Derived.Lib.Walk
import Derived.Deep.LoopGhost
import Derived.Laws.CopyOwn
import Derived.Deep.DeepCutAuto
import Derived.Laws.CopyRow
import Derived.Laws.MakeOwn
import Derived.Deep.RegionHeld
import Derived.KernelRfl
import Derived.BigFrameIn
namespace Go.Proofs.Ytcibihakjcenaaa
open Go.RowKit Go.Shelf
attribute [local go_sem] Oper.semAt_some

/-- What has come of n from behind when k rounds are over. -/
def backF (n k : Nat) : List (Fin n) := (List.range k).filterMap fun j => if h : n - 1 - j < n then some ⟨n - 1 - j, h⟩ else none
theorem backF_succ (n k m : Nat) (hm : m < n) (hmk : m + 1 + k = n) : backF n (k + 1) = backF n k ++ [⟨m, hm⟩] := by
  have e : n - 1 - k = m := by omega
  simp only [backF, List.range_succ, List.filterMap_append, List.filterMap_cons, List.filterMap_nil]
  rw [dif_pos (by omega)]
  simp [e]
theorem backF_length (n k : Nat) (h : k ≤ n) : (backF n k).length = k := by
  induction k with
  | zero => rfl
  | succ k ih =>
    rw [backF_succ n k (n - 1 - k) (by omega) (by omega), List.length_append, ih (by omega)]
    rfl
theorem backF_mem (n k : Nat) (i : Fin n) : i ∈ backF n k ↔ n ≤ i.1 + k := by
  unfold backF
  rw [List.mem_filterMap]
  constructor
  · rintro ⟨j, hj, h⟩
    split at h
    · cases h
      have := List.mem_range.1 hj
      simp
      omega
    · cases h
  · intro h
    have := i.2
    refine ⟨n - 1 - i.1, List.mem_range.2 (by omega), ?_⟩
    rw [dif_pos (by omega)]
    congr 1
    apply Fin.ext
    simp
    omega

set_option maxRecDepth 100000 in
set_option maxHeartbeats 2000000 in
theorem backw1_in (F : Fence) (n : Nat) (h7 : F.fn 139) (hro : F.round = none) (hn : 1 ≤ n) (l Bs n₀ b off cap : Nat) (bs : List (Int × Value)) (hlm : bs.length ≤ cap) (hcm : cap ≤ maxLen) (hb : b < n₀) (J Jx : List (Fin bs.length) → World → Prop)
    (hY : ∀ pre x W, J pre W → pre.length < bs.length → YieldAt F (n - 1) Try.prog l #[.int .i64 (x.1 : Int), .agg #[.int .i64 bs[x.1].1, bs[x.1].2]] W fun e W' =>
      (e = .returned (.bool true) ∧ J (pre ++ [x]) W' ∧ KeepB n₀ Bs W W') ∨ (e = .returned (.bool false) ∧ Jx (pre ++ [x]) W'))
    (W : World) (hBs : W.cell? ⟨Bs, 0, none⟩ = some (.slice (some ⟨b, off, none⟩) bs.length cap)) (hc : ∀ i x, bs[i]? = some x → W.cell? ⟨b, off + i * 2, none⟩ = some (.int .i64 x.1) ∧ W.cell? ⟨b, off + i * 2 + 1, none⟩ = some x.2) (h0 : J [] W) :
    CallsIn F n Try.prog 139 #[.func (.yield l) #[] #[], .pointer (some ⟨Bs, 0, none⟩)] W fun e W' => (∃ v, e = .returned v) ∧
      ((∃ ys, ys = backF bs.length bs.length ∧ J ys W') ∨ (∃ pre, (∃ k, k ≤ bs.length ∧ pre = backF bs.length k) ∧ Jx pre W')) := by
  unfold maxLen at hcm
  refine callsIn_of_wp Try.func139 rfl h7 ?_ hro
  simp only [Try.ntmps139, List.size_toArray, List.length_cons, List.length_nil, Nat.reduceAdd, Nat.reduceSub, Array.replicate_succ, Array.replicate_zero, List.push_toArray, List.append_toArray, List.nil_append, List.cons_append]
  gi_wp2
  gi_loopw [3] (fun i wr => ∃ k : Nat, k ≤ bs.length ∧ i = .int .i64 ((bs.length : Int) - 1 - k) ∧ J (backF bs.length k) wr ∧ KeepB n₀ Bs W wr)
    (fun i _ => (intOf i + 1).toNat)
  case atStart => exact ⟨0, Nat.zero_le _, by simp, h0, KeepB.refl _ _ _⟩
  case round =>
    obtain ⟨k, hk, rfl, hJs, hnx⟩ := hrel
    have hBs' : wr.cell? ⟨Bs, 0, none⟩ = some (.slice (some ⟨b, off, none⟩) bs.length cap) := hnx.2.trans hBs
    by_cases hlt : k < bs.length
    · obtain ⟨m, hm, hmk⟩ : ∃ m : Nat, m < bs.length ∧ m + 1 + k = bs.length := ⟨bs.length - 1 - k, by omega, by omega⟩
      have hcx : wr.cell? ⟨b, off + m * 2, none⟩ = some (.int .i64 bs[m].1) := (hnx.1.cell (p := ⟨b, off + m * 2, none⟩) hb).trans (hc m bs[m] (by simp [hm])).1
      have hcx2 : wr.cell? ⟨b, off + m * 2 + 1, none⟩ = some bs[m].2 := (hnx.1.cell (p := ⟨b, off + m * 2 + 1, none⟩) hb).trans (hc m bs[m] (by simp [hm])).2
      obtain ⟨fn, tmps, assign, body, hy, hR⟩ := hY _ ⟨m, hm⟩ wr hJs (by rw [backF_length _ _ hk]; exact hlt)
      have hsucc : backF bs.length (k + 1) = backF bs.length k ++ [⟨m, hm⟩] := backF_succ _ k m hm hmk
      have HS := Lib.hid hsucc
      clear hsucc
      rw [show ((bs.length : Int) - 1 - (k : Int)) = (m : Int) by omega]
      dsimp only at hy
      generalize bs[m].1 = x1 at *
      generalize bs[m].2 = x2 at *
      have HK := Lib.hid hmk
      clear hmk
      gi_wp2
      refine hR.mono ?_
      rintro e W3 (⟨rfl, hJ3, hk3⟩ | ⟨rfl, hJx3⟩)
      · gi_wp2
        go_roundw
        case rel => exact ⟨k + 1, by omega, by have := HK.out; congr 1 <;> omega, by rw [HS.out]; exact hJ3, hnx.trans hk3⟩
        case measure => (simp [intOf])
      · gi_wp2
        refine bodyPost_ret (results_none rfl _ _ _) rfl ?_
        exact ⟨⟨_, rfl⟩, .inr ⟨_, ⟨k + 1, by omega, HS.out.symm⟩, hJx3⟩⟩
    · obtain rfl : k = bs.length := by omega
      gi_wp2
      go_end0
      exact ⟨⟨_, rfl⟩, .inl ⟨_, rfl, hJs⟩⟩

set_option maxRecDepth 100000 in
set_option maxHeartbeats 1000000 in
theorem backw1_none (F : Fence) (n : Nat) (h7 : F.fn 139) (hro : F.round = none) (l Bs cap : Nat) (a : Option Addr) (J : List (Fin 0) → World → Prop) (W : World) (hBs : W.cell? ⟨Bs, 0, none⟩ = some (.slice a 0 cap)) (h0 : J [] W) :
    CallsIn F n Try.prog 139 #[.func (.yield l) #[] #[], .pointer (some ⟨Bs, 0, none⟩)] W fun e W' => (∃ v, e = .returned v) ∧ J [] W' := by
  refine callsIn_of_wp Try.func139 rfl h7 ?_ hro
  simp only [Try.ntmps139, List.size_toArray, List.length_cons, List.length_nil, Nat.reduceAdd, Nat.reduceSub, Array.replicate_succ, Array.replicate_zero, List.push_toArray, List.append_toArray, List.nil_append, List.cons_append]
  gi_wp2
  gi_loopw [3] (fun i wr => i = .int .i64 (-1) ∧ J [] wr) (fun _ _ => 0)
  case atStart => exact ⟨rfl, h0⟩
  case round =>
    obtain ⟨rfl, hJs⟩ := hrel
    gi_wp2
    go_end0
    exact ⟨⟨_, rfl⟩, hJs⟩

set_option maxHeartbeats 1000000 in
theorem backw_in (F : Fence) (n : Nat) (h5 : F.fn 114) (hro : F.round = none) (a : Option Addr) (len cap : Nat) (w : World) :
    CallsIn F n Try.prog 114 #[.slice a len cap] w fun e w' => e = .returned (.func (.func 139) #[] #[.pointer (some ⟨w.heap.size, 0, none⟩)]) ∧ w' = w.alloc (.cells #[.slice a len cap] 42) := by
  refine callsIn_of_wp Try.func114 rfl h5 ?_ hro
  simp only [Try.ntmps114, List.size_toArray, List.length_cons, List.length_nil, Nat.reduceAdd, Nat.reduceSub, Array.replicate_succ, Array.replicate_zero, List.push_toArray, List.append_toArray, List.nil_append, List.cons_append]
  gi_wp2
  go_ret
  exact ⟨rfl, rfl⟩

/-- The value that slices.Backward hands back: all places and bytes, from behind; or the first k of them. -/
theorem backw_stops (F : Fence) (n : Nat) (h7 : F.fn 139) (hro : F.round = none) (hn : 1 ≤ n) (Bs n₀ : Nat) (a : Option Addr) (c : Nat) (bs : List (Int × Value)) (w : World) (hBs : Bs < w.heap.size) (hn₀ : n₀ ≤ w.heap.size)
    (hc : w.cell? ⟨Bs, 0, none⟩ = some (.slice a bs.length c)) (h1 : bs.length ≤ c) (h2 : c ≤ maxLen)
    (h3 : 0 < bs.length → ∃ b off, a = some ⟨b, off, none⟩ ∧ b < n₀ ∧ ∀ i x, bs[i]? = some x → w.cell? ⟨b, off + i * 2, none⟩ = some (.int .i64 x.1) ∧ w.cell? ⟨b, off + i * 2 + 1, none⟩ = some x.2) :
    SeqStopsK F n Try.prog 139 #[.pointer (some ⟨Bs, 0, none⟩)] (fun x : Fin bs.length => #[.int .i64 (x.1 : Int), .agg #[.int .i64 bs[x.1].1, bs[x.1].2]]) (KeepB n₀ Bs) (fun ys => ys = backF bs.length bs.length)
      (fun pre => ∃ k, k ≤ bs.length ∧ pre = backF bs.length k) bs.length w := fun l J Jx W hW _ _ hY h0 => by
  have hc' := (hW.cell (p := ⟨Bs, 0, none⟩) hBs).trans hc
  rcases Nat.eq_zero_or_pos bs.length with hz | hp
  · have : bs = [] := List.eq_nil_of_length_eq_zero hz
    subst this
    exact (backw1_none F n h7 hro l Bs c a J W hc' h0).mono fun e W' ⟨he, hj⟩ => ⟨he, .inl ⟨_, rfl, hj⟩⟩
  · obtain ⟨b, off, rfl, hb, hcs⟩ := h3 hp
    replace hcs : ∀ i x, bs[i]? = some x → W.cell? ⟨b, off + i * 2, none⟩ = some (.int .i64 x.1) ∧ W.cell? ⟨b, off + i * 2 + 1, none⟩ = some x.2 := fun i x hx =>
      ⟨(hW.cell (p := ⟨b, off + i * 2, none⟩) (by show b < w.heap.size; omega)).trans (hcs i x hx).1, (hW.cell (p := ⟨b, off + i * 2 + 1, none⟩) (by show b < w.heap.size; omega)).trans (hcs i x hx).2⟩
    exact backw1_in F n h7 hro hn l Bs n₀ b off c bs h1 h2 hb J Jx hY W hc' hcs h0
end Go.Proofs.Ytcibihakjcenaaa

namespace Go.Proofs.Ytcibihakjcenaaa
open Go.RowKit Go.Shelf
attribute [local go_sem] Oper.semAt_some

/-- A block as it is seen. -/
def lastW : List WrL → Int → Option WrL
  | [], _ => none
  | x :: l, p => match lastW l p with
    | some y => some y
    | none => if x.at_ = p then some x else none
def seenD (d : DiskL) (p : Int) : List UInt8 :=
  match lastW d.waits p with
  | some x => x.data
  | none => d.blocks.getD p.toNat []
theorem lastW_none (l : List WrL) (p : Int) (h : ∀ x ∈ l, x.at_ ≠ p) : lastW l p = none := by
  induction l with
  | nil => rfl
  | cons y l ih =>
    rw [lastW, ih (fun x hx => h x (List.mem_cons_of_mem _ hx))]
    simp [h y (List.mem_cons_self ..)]
theorem lastW_at (l : List WrL) (p : Int) (m : Nat) (hm : m < l.length) (h1 : (l.getD m ⟨0, []⟩).at_ = p) (h2 : ∀ j, m < j → j < l.length → (l.getD j ⟨0, []⟩).at_ ≠ p) : lastW l p = some (l.getD m ⟨0, []⟩) := by
  induction l generalizing m with
  | nil => simp at hm
  | cons y l ih =>
    cases m with
    | zero =>
      have hn : lastW l p = none := lastW_none l p (fun x hx => by
        obtain ⟨j, hj⟩ := List.mem_iff_getElem?.1 hx
        have hjl := (List.getElem?_eq_some_iff.1 hj).1
        have := h2 (j + 1) (by omega) (by simp; omega)
        rw [List.getD_cons_succ, List.getD_eq_getElem?_getD, hj] at this
        exact this)
      rw [lastW, hn]
      simp at h1
      simp [h1]
    | succ m =>
      rw [lastW, ih m (by simpa using hm) (by simpa using h1) (fun j hj hjl => by
        have := h2 (j + 1) (by omega) (by simp; omega)
        simpa using this)]
      simp

/-- What is in cells stays. -/
def CK (W W' : World) : Prop := W.heap.size ≤ W'.heap.size ∧ ∀ a v, W.cell? a = some v → W'.cell? a = some v ∧ W'.frozen? a = W.frozen? a
theorem CK.refl (W : World) : CK W W := ⟨Nat.le_refl _, fun _ _ h => ⟨h, rfl⟩⟩
theorem CK.bytes {W W' : World} (h : CK W W') {lo hi : Nat} {v : Value} {l : List UInt8} (hb : Bytes W lo hi v l) : Bytes W' lo hi v l := by
  obtain ⟨a, c, e, h1, h2, h3, h4⟩ := hb
  refine ⟨a, c, e, h1, h2, fun hp => ?_, h4⟩
  obtain ⟨b, off, ea, hlo, hhi, hc⟩ := h3 hp
  exact ⟨b, off, ea, hlo, hhi, fun i x hx => (h.2 _ _ (hc i x hx)).1⟩
theorem CK.thawed {W W' : World} (h : CK W W') {lo hi : Nat} {v : Value} {l : List UInt8} (hb : Bytes W lo hi v l) (ht : Thawed W v) : Thawed W' v := by
  intro b off n c e i hi'
  obtain ⟨a, c', e', h1, h2, h3, h4⟩ := hb
  subst e
  cases e'
  obtain ⟨b', off', ea, hlo, hhi, hc⟩ := h3 (by omega)
  cases ea
  have := hc i (l[i]'hi') (by simp)
  exact (h.2 _ _ this).2.trans (ht _ _ _ _ rfl i hi')
theorem ck_own {β : Type} (p : β → World → Prop) : Own (fun (s : β) W => ∃ Wx, p s Wx ∧ CK Wx W) := fun _ _ _ _ ⟨Wx, h1, h2⟩ hg hr =>
  ⟨Wx, h1, Nat.le_trans h2.1 hg.size, fun a v h =>
    have h3 := h2.2 a v h
    ⟨cell_kept h3.1 hg hr, (frozen_kept h3.1 hg hr).trans h3.2⟩⟩
/-- The writes of a disk as values: places, and slices. -/
theorem writes_of {w : World} {lo hi n c : Nat} {a : Option Addr} {l : List WrL} (h : Sl rWrite w lo hi (.slice a n c) l) : ∃ bs : List (Int × Value), bs.length = l.length ∧
    (∀ i x, bs[i]? = some x → x.1 = (l.getD i ⟨0, []⟩).at_ ∧ Bytes w lo hi x.2 (l.getD i ⟨0, []⟩).data) ∧
    (0 < bs.length → ∃ b off, a = some ⟨b, off, none⟩ ∧ b < hi ∧ ∀ i x, bs[i]? = some x → w.cell? ⟨b, off + i * 2, none⟩ = some (.int .i64 x.1) ∧ w.cell? ⟨b, off + i * 2 + 1, none⟩ = some x.2) := by
  obtain ⟨a', c', e, h1, h2, h3, h4⟩ := h
  cases e
  obtain ⟨bs, hbl, hba⟩ := list_of (n := l.length) (p := fun i (x : Int × Value) => x.1 = (l.getD i ⟨0, []⟩).at_ ∧ Bytes w lo hi x.2 (l.getD i ⟨0, []⟩).data ∧ ∀ b off, a = some ⟨b, off, none⟩ → w.cell? ⟨b, off + i * 2, none⟩ = some (.int .i64 x.1) ∧ w.cell? ⟨b, off + i * 2 + 1, none⟩ = some x.2) (fun i hi => by
    obtain ⟨b, off, rfl, hlo, hhi, hc⟩ := h3 (by omega)
    obtain ⟨f0, f1, v, f2, f3⟩ := hc i _ (get_l l ⟨0, []⟩ i hi)
    refine ⟨((l.getD i ⟨0, []⟩).at_, v), rfl, f3, fun b' off' e => ?_⟩
    cases e
    exact ⟨f0, f2⟩)
  refine ⟨bs, hbl, fun i x hx => ⟨(hba i x hx).1, (hba i x hx).2.1⟩, fun hp => ?_⟩
  obtain ⟨b, off, ea, hlo, hhi, hc⟩ := h3 (by omega)
  exact ⟨b, off, ea, hhi, fun i x hx => (hba i x hx).2.2 b off ea⟩

end Go.Proofs.Ytcibihakjcenaaa

namespace Go.Proofs.Ytcibihakjcenaaa
open Go.RowKit

theorem if_yes {c : Prop} [Decidable c] {p q : Prop} (hc : c) (hp : p) : if c then p else q := by rw [if_pos hc]; exact hp
def errW (d : DiskL) (p : Int) (l : List UInt8) : Int := if errA d p ≠ 0 then errA d p else if l.length ≠ 128 then 3 else if d.waits.length = 4096 then 9 else 0
def writeD (d : DiskL) (p : Int) (l : List UInt8) : DiskL := if errW d p l = 0 then ⟨d.blocks, d.waits ++ [⟨p, l⟩]⟩ else ⟨[], []⟩
theorem errA_zero {d : DiskL} {p : Int} (h : errA d p = 0) : mayD d = true ∧ 0 ≤ p ∧ p < 256 := by
  unfold errA at h
  split at h
  · rename_i hm
    split at h
    · cases h
    · exact ⟨hm, by omega, by omega⟩
  · cases h

theorem row_bytes {w : World} {g : Nat} {D : List (List UInt8)} (hr : RowB w g 5 D.flatten) (hT : D.flatten.length ≤ 100000000) (j o : Nat) (hj : j < D.length) (ho : 0 < (D.getD j []).length → o = posD D j) :
    Bytes w g (g + 1) (.slice (some ⟨g, o, none⟩) (D.getD j []).length (D.getD j []).length) (D.getD j []) ∧ Thawed w (.slice (some ⟨g, o, none⟩) (D.getD j []).length (D.getD j []).length) := by
  refine ⟨?_, fun b off m c he i _ => by cases he; exact hr.frozen _⟩
  have hle : (D.getD j []).length ≤ maxLen := by
    have := posD_succ D j hj
    have := posD_le D (j + 1)
    unfold maxLen
    omega
  refine ⟨_, _, rfl, Nat.le_refl _, hle, fun hp => ⟨g, o, rfl, Nat.le_refl _, Nat.lt_succ_self _, fun i x hx => ?_⟩, fun h => by cases h⟩
  rw [hr.cell, ho hp]
  have hc := cut_laid D j hj
  rw [← hc, List.getElem?_take] at hx
  split at hx
  · rw [List.getElem?_drop] at hx
    rw [hx]; rfl
  · cases hx
/-- What was made by Twin, in a later world in which the row of writes has grown by one. -/
theorem TwinAt.grown {B : Nat} {w zf : World} {gb gw g : Nat} {cur : Array Value} {d : DiskL} (h : TwinAt B w gb gw g cur d) (hT : (datD d).flatten.length ≤ 100000000) (hn : d.blocks.length ≤ 100000) (hn2 : d.waits.length ≤ 100000) (hs : w.heap.size ≤ zf.heap.size)
    (e1 : zf.heap[g]? = w.heap[g]?) (e2 : zf.heap[gb]? = w.heap[gb]?) (g' cap : Nat) (cur' : Array Value) (hg' : B ≤ g') (hh' : zf.heap[g']? = some (.cells cur' 143 (0, 0))) (hk1 : d.waits.length + 1 ≤ cap) (hk2 : cap ≤ maxLen)
    (p : Int) (hp : (Lit.int .i64 p).wf = true) (v : Value) (l : List UInt8) (hk4 : cur'.toList.take ((d.waits.length + 1) * 2) = cur.toList.take (d.waits.length * 2) ++ [.int .i64 p, v]) (hv : Bytes zf B zf.heap.size v l) (ht : Thawed zf v) :
    DiskT zf B zf.heap.size (.slice (some ⟨gb, 0, none⟩) d.blocks.length d.blocks.length) (.slice (some ⟨g', 0, none⟩) (d.waits.length + 1) cap) ⟨d.blocks, d.waits ++ [⟨p, l⟩]⟩ := by
  have hrow : RowB zf g 5 (datD d).flatten := e1.trans h.row
  refine ⟨⟨_, _, rfl, Nat.le_refl _, by unfold maxLen; omega, fun _ => ⟨gb, 0, rfl, h.lo.2.1, Nat.lt_of_lt_of_le h.hi.2.1 hs, fun i x hx => ?_⟩, fun h => by cases h⟩,
    ⟨_, _, by rw [List.length_append]; rfl, by rw [List.length_append]; exact hk1, hk2, fun _ => ⟨g', 0, rfl, hg', (Array.getElem?_eq_some_iff.1 hh').1, fun i x hx => ?_⟩, fun h => by cases h⟩⟩
  · have hi : i < d.blocks.length := (List.getElem?_eq_some_iff.1 hx).1
    simp only at hx
    rw [get_l d.blocks [] i hi] at hx
    cases hx
    obtain ⟨o, h1, h2⟩ := h.bl i hi
    have hb := row_bytes hrow hT i o (by rw [datD_length]; omega) (by rw [datD_b d i hi]; exact h2)
    rw [datD_b d i hi] at hb
    refine ⟨_, ?_, hb.1.more h.lo.1 (Nat.lt_of_lt_of_le h.hi.1 hs), hb.2⟩
    show zf.cell? ⟨gb, 0 + i * 1 + 0, none⟩ = _
    rw [heap_cell e2, Nat.zero_add, Nat.mul_one, Nat.add_zero]
    exact h1
  · have hcl : ∀ j u, (cur.toList.take (d.waits.length * 2) ++ [.int .i64 p, v])[j]? = some u → zf.cell? ⟨g', j, none⟩ = some u := by
      intro j u hj
      rw [blk_cell hh', ← hj, ← hk4, List.getElem?_take, if_pos]
      · simp
      · have := (List.getElem?_eq_some_iff.1 hj).1
        rw [← hk4, List.length_take] at this
        omega
    have hsz := h.wsz
    have hxl : (cur.toList.take (d.waits.length * 2)).length = d.waits.length * 2 := by
      rw [List.length_take, Array.length_toList]
      omega
    rcases Nat.lt_or_ge i d.waits.length with hi | hi
    · rw [List.getElem?_append_left hi, get_l d.waits ⟨0, []⟩ i hi] at hx
      cases hx
      obtain ⟨h0, o, h1, h2⟩ := h.wt i hi
      have hb := row_bytes hrow hT (d.blocks.length + i) o (by rw [datD_length]; omega) (by rw [datD_w d i hi]; exact h2)
      rw [datD_w d i hi] at hb
      refine ⟨?_, h.wf i hi, _, ?_, hb.1.more h.lo.1 (Nat.lt_of_lt_of_le h.hi.1 hs), hb.2⟩
      · show zf.cell? ⟨g', 0 + i * 2 + 0, none⟩ = _
        rw [Nat.zero_add, Nat.add_zero]
        refine hcl _ _ ?_
        rw [List.getElem?_append_left (by omega), List.getElem?_take, if_pos (by omega)]
        simpa using h0
      · show zf.cell? ⟨g', 0 + i * 2 + 1, none⟩ = _
        rw [Nat.zero_add]
        refine hcl _ _ ?_
        rw [List.getElem?_append_left (by omega), List.getElem?_take, if_pos (by omega)]
        simpa using h1
    · have hi2 : i = d.waits.length := by
        have := (List.getElem?_eq_some_iff.1 hx).1
        rw [List.length_append] at this
        simp at this
        omega
      subst hi2
      rw [List.getElem?_append_right (Nat.le_refl _), Nat.sub_self] at hx
      cases hx
      refine ⟨?_, hp, v, ?_, hv, ht⟩
      · show zf.cell? ⟨g', 0 + d.waits.length * 2 + 0, none⟩ = _
        rw [Nat.zero_add, Nat.add_zero]
        refine hcl _ _ ?_
        rw [List.getElem?_append_right (by omega), hxl, Nat.sub_self]
        rfl
      · show zf.cell? ⟨g', 0 + d.waits.length * 2 + 1, none⟩ = _
        rw [Nat.zero_add]
        refine hcl _ _ ?_
        rw [List.getElem?_append_right (by omega), hxl, show d.waits.length * 2 + 1 - d.waits.length * 2 = 1 by omega]
        rfl

end Go.Proofs.Ytcibihakjcenaaa

namespace Go.Proofs.Ytcibihakjcenaaa
open Go.RowKit

def capB (x : List UInt8) : Nat := min x.length 1000000
def smB (D : List (List UInt8)) (k : Nat) : Nat := ((D.take k).map capB).sum
theorem smB_succ (D : List (List UInt8)) (k : Nat) (h : k < D.length) : smB D (k + 1) = smB D k + capB (D.getD k []) := by
  unfold smB
  rw [List.take_add_one, List.map_append, List.sum_append]
  simp [h]
theorem capB_le (x : List UInt8) : capB x ≤ 1000000 := Nat.min_le_right _ _
theorem smB_le' (D : List (List UInt8)) (c : Nat) (hc : ∀ x, capB x ≤ c) (k : Nat) : smB D k ≤ k * c := by
  induction k with
  | zero => simp [smB]
  | succ k ih =>
    rw [Nat.succ_mul]
    rcases Nat.lt_or_ge k D.length with h | h
    · rw [smB_succ D k h]
      have := hc (D.getD k [])
      omega
    · have e : smB D (k + 1) = smB D k := by
        unfold smB
        rw [List.take_of_length_le (by omega), List.take_of_length_le (by omega)]
      omega
theorem smB_le (D : List (List UInt8)) (k : Nat) : smB D k ≤ k * 1000000 := smB_le' D _ capB_le k
set_option maxRecDepth 100000 in
theorem sm_flat (D : List (List UInt8)) (h : (D.map capB).sum ≤ 800000) : D.flatten.length ≤ 800000 := by
  suffices hs : D.flatten.length = (D.map capB).sum by omega
  induction D with
  | nil => rfl
  | cons a l ih =>
    rw [List.map_cons, List.sum_cons] at h ⊢
    rw [List.flatten_cons, List.length_append, ih (by omega)]
    have : capB a = a.length := by
      unfold capB at *
      omega
    omega

set_option maxRecDepth 100000 in
set_option maxHeartbeats 1000000 in
theorem great_any (b u : Value) (d : DiskL) (w : World) (h : DiskV w 0 w.heap.size b u d) :
    Calls Try.prog 41 #[.agg #[b, u]] w fun e w' => ∃ g, e = .returned (.bool g) ∧ Below w.heap.size w w' ∧ (g = false → d.blocks.length ≤ 300 ∧ d.waits.length ≤ 5000 ∧ (datD d).flatten.length ≤ 800000) := by
  have hB := (Below.refl w.heap.size w).alloc (Nat.le_refl _) (.cells #[b, u] 44)
  have hD := h.step hB
  have hq := World.alloc_heap_new w (.cells #[b, u] 44)
  obtain ⟨ab, cb, rfl, g1, g2, -, -⟩ := h.1
  obtain ⟨au, cu, rfl, g1', g2', -, -⟩ := h.2
  unfold maxLen at g2 g2'
  clear h
  obtain ⟨W, hW⟩ : ∃ W, w.alloc (.cells #[.slice ab d.blocks.length cb, .slice au d.waits.length cu] 44) = W := ⟨_, rfl⟩
  rw [hW] at hB hD hq
  have c0 := blk_cell hq 0
  have c1 := blk_cell hq 1
  simp at c0 c1
  have HQ := Lib.hid (And.intro hD (And.intro hB hq))
  clear hD hB hq
  go_enter Try.func41, Try.ntmps41
  by_cases h1 : 300 < d.blocks.length
  · have i1 : (300 : Int) < d.blocks.length := by omega
    go_wp2
    go_ret
    exact ⟨true, rfl, HQ.out.2.1, fun h => by cases h⟩
  have d1 : decide ((300 : Int) < d.blocks.length) = false := by simp; omega
  by_cases h2 : 5000 < d.waits.length
  · have i2 : (5000 : Int) < d.waits.length := by omega
    go_wp2
    go_ret
    exact ⟨true, rfl, HQ.out.2.1, fun h => by cases h⟩
  have d2 : decide ((5000 : Int) < d.waits.length) = false := by simp; omega
  by_cases h3 : 600 < d.waits.length ∧ d.waits.length < 4096
  · have i3 : (600 : Int) < d.waits.length := by omega
    have i4 : (d.waits.length : Int) < 4096 := by omega
    go_wp2
    go_ret
    exact ⟨true, rfl, HQ.out.2.1, fun h => by cases h⟩
  obtain ⟨D, hDD⟩ : ∃ D, datD d = D := ⟨_, rfl⟩
  have HL := Lib.hid (show D.length = d.blocks.length + d.waits.length by rw [← hDD, datD_length])
  have HDB := Lib.hid (show ∀ k, k < d.blocks.length → D.getD k [] = d.blocks.getD k [] from fun k hk => by rw [← hDD]; exact datD_b d k hk)
  have HDW := Lib.hid (show ∀ k, k < d.waits.length → D.getD (d.blocks.length + k) [] = (d.waits.getD k ⟨0, []⟩).data from fun k hk => by rw [← hDD]; exact datD_w d k hk)
  have HDD := Lib.hid hDD
  clear hDD
  have h1' : d.blocks.length ≤ 300 := by omega
  have h2' : d.waits.length ≤ 5000 := by omega
  have hsplit : (decide ((600 : Int) < d.waits.length) = false) ∨ ((600 : Int) < d.waits.length ∧ decide ((d.waits.length : Int) < 4096) = false) := by
    by_cases h : 600 < d.waits.length
    · exact .inr ⟨by omega, by simp; omega⟩
    · exact .inl (by simp; omega)
  clear h3
  go_upto_region 1 with (fail)
  go_cut [27] (fun s wx => s = .bool false ∧ wx = W)
  case first =>
    rcases hsplit with d3 | ⟨i3, d4⟩
    · go_wp2
      go_meet
      exact ⟨rfl, rfl⟩
    · go_wp2
      go_meet
      exact ⟨rfl, rfl⟩
  case rest =>
  obtain ⟨rfl, rfl⟩ := hcut
  clear hsplit d1 d2
  have HS := Lib.hid (show ∀ k, k ≤ 6000 → smB D k ≤ 6000000000 from fun k hk => Nat.le_trans (smB_le D k) (by omega))
  clear h1 h2
  go_wp2_with fail
  go_loopw [3, 4] (fun v i wr => ∃ k : Nat, k ≤ d.blocks.length ∧ i = .int .i64 k ∧ v = .int .i64 (smB D k) ∧ wr = wc) (fun _ i _ => d.blocks.length - (intOf i).toNat)
  case atStart => exact ⟨0, Nat.zero_le _, rfl, rfl, rfl⟩
  case round =>
  obtain ⟨k, hk, rfl, rfl, rfl⟩ := hrel
  by_cases hlt : k < d.blocks.length
  · obtain ⟨bb, bo, cb', e', -, z1, z2, z3, hbe⟩ := HQ.out.1.1.at_ (by omega)
    injection e' with ea _ ec
    subst ea ec
    obtain ⟨v, hv, hvb⟩ := hbe k (d.blocks.getD k []) (get_l _ _ _ hlt)
    obtain ⟨av, cv, rfl, -, hcv⟩ := hvb.form rfl
    unfold maxLen at hcv z3
    have hv' : wr.cell? ⟨bb, bo + k, none⟩ = some (.slice av (d.blocks.getD k []).length cv) := by simpa [rBytes] using hv
    have hps : smB D (k + 1) = smB D k + capB (d.blocks.getD k []) := by rw [smB_succ D k (by have := HL.out; omega), HDB.out k hlt]
    have hpt := HS.out k (by omega)
    have hcl := capB_le (d.blocks.getD k [])
    have hmin : min ((d.blocks.getD k []).length : Int) 1000000 = (capB (d.blocks.getD k []) : Int) := by unfold capB; omega
    have HPS := Lib.hid hps
    clear hps hv hvb hbe
    generalize capB (d.blocks.getD k []) = cy at *
    generalize (d.blocks.getD k []).length = y at *
    generalize smB D k = pk at *
    go_wp2
    go_roundw
    case rel => exact ⟨k + 1, by omega, by go_num, by rw [HPS.out]; go_num, trivial⟩
    case measure => simp [intOf]; omega
  obtain rfl : k = d.blocks.length := by omega
  clear hk hlt
  obtain ⟨V, hV⟩ : ∃ V, V = wr := ⟨_, rfl⟩
  subst hV
  go_wp2_with fail
  go_loopw [3, 5] (fun v i wr => ∃ k : Nat, k ≤ d.waits.length ∧ i = .int .i64 k ∧ v = .int .i64 (smB D (d.blocks.length + k)) ∧ wr = V) (fun _ i _ => d.waits.length - (intOf i).toNat)
  case atStart => exact ⟨0, Nat.zero_le _, rfl, rfl, rfl⟩
  case round =>
  obtain ⟨k, hk, rfl, rfl, rfl⟩ := hrel
  by_cases hlt : k < d.waits.length
  · obtain ⟨bb, bo, cb', e', -, z1, z2, z3, hbe⟩ := HQ.out.1.2.at_ (by omega)
    injection e' with ea _ ec
    subst ea ec
    obtain ⟨f0, f1, v, f2, f3⟩ := hbe k (d.waits.getD k ⟨0, []⟩) (get_l _ _ _ hlt)
    obtain ⟨av, cv, rfl, -, hcv⟩ := f3.form rfl
    unfold maxLen at hcv z3
    have hps : smB D (d.blocks.length + (k + 1)) = smB D (d.blocks.length + k) + capB (d.waits.getD k ⟨0, []⟩).data := by
      rw [← Nat.add_assoc, smB_succ D (d.blocks.length + k) (by have := HL.out; omega), HDW.out k hlt]
    have hpt := HS.out (d.blocks.length + k) (by omega)
    have hcl := capB_le (d.waits.getD k ⟨0, []⟩).data
    have hmin : min ((d.waits.getD k ⟨0, []⟩).data.length : Int) 1000000 = (capB (d.waits.getD k ⟨0, []⟩).data : Int) := by unfold capB; omega
    obtain ⟨y, hy⟩ : ∃ y, d.waits.getD k ⟨0, []⟩ = y := ⟨_, rfl⟩
    rw [hy] at f2 hps hcl hmin
    clear hy f0 f1 f3 hbe
    have HPS := Lib.hid hps
    clear hps
    obtain ⟨at_, dt⟩ := y
    simp [rWrite] at f2
    simp only at hcl hmin HPS
    generalize capB dt = cy at *
    generalize smB D (d.blocks.length + k) = pk at *
    go_wp2
    go_roundw
    case rel => exact ⟨k + 1, by omega, by go_num, by rw [HPS.out]; go_num, trivial⟩
    case measure => simp [intOf]; omega
  obtain rfl : k = d.waits.length := by omega
  have hsum : smB D (d.blocks.length + d.waits.length) = (D.map capB).sum := by
    rw [← HL.out]
    unfold smB
    rw [List.take_length]
  have hpt := HS.out (d.blocks.length + d.waits.length) (by omega)
  rw [hsum] at hpt ⊢
  have HSM := Lib.hid (sm_flat D)
  clear hsum
  generalize (D.map capB).sum = sm at *
  by_cases h5 : 800000 < sm
  · have i5 : (800000 : Int) < sm := by omega
    go_wp2
    go_ret
    exact ⟨true, rfl, HQ.out.2.1, fun h => by cases h⟩
  · have d5 : decide ((800000 : Int) < sm) = false := by simp; omega
    have hle : sm ≤ 800000 := by omega
    have HLE := Lib.hid hle
    clear hle h5
    go_wp2
    go_ret
    exact ⟨_, rfl, HQ.out.2.1, fun _ => ⟨h1', h2', by rw [HDD.out]; exact HSM.out HLE.out⟩⟩
end Go.Proofs.Ytcibihakjcenaaa

namespace Go.Proofs.Ytcibihakjcenaaa
open Go.RowKit

theorem may_of (bl : List (List UInt8)) (wl : List WrL) (h1 : bl.length = 256) (h2 : wl.length ≤ 4096) (h3 : ∀ x ∈ bl, x.length = 128) (h4 : ∀ x ∈ wl, 0 ≤ x.at_ ∧ x.at_ < 256 ∧ x.data.length = 128) : mayD ⟨bl, wl⟩ = true := by
  unfold mayD okW
  simp only [Bool.and_eq_true, beq_iff_eq, decide_eq_true_eq, List.all_eq_true]
  exact ⟨⟨⟨h1, h2⟩, h3⟩, fun x hx => ⟨⟨(h4 x hx).1, (h4 x hx).2.1⟩, (h4 x hx).2.2⟩⟩
theorem errW_zero {d : DiskL} {p : Int} {l : List UInt8} (h : errW d p l = 0) : mayD d = true ∧ 0 ≤ p ∧ p < 256 ∧ l.length = 128 ∧ d.waits.length < 4096 ∧ errA d p = 0 := by
  unfold errW at h
  split at h
  · rename_i h1; exact absurd h h1
  · rename_i h1
    split at h
    · cases h
    · rename_i h2
      split at h
      · cases h
      · rename_i h3
        have h1' : errA d p = 0 := by
          rcases Decidable.em (errA d p = 0) with e | e
          · exact e
          · exact absurd e h1
        have h4 := errA_zero h1'
        have h5 := may_len h4.1
        have h2' : l.length = 128 := by
          rcases Decidable.em (l.length = 128) with e | e
          · exact e
          · exact absurd e h2
        exact ⟨h4.1, h4.2.1, h4.2.2, h2', by omega, h1'⟩
theorem write_may {d : DiskL} {p : Int} {l : List UInt8} (h : errW d p l = 0) : writeD d p l = ⟨d.blocks, d.waits ++ [⟨p, l⟩]⟩ ∧ mayD (writeD d p l) = true := by
  have e : writeD d p l = ⟨d.blocks, d.waits ++ [⟨p, l⟩]⟩ := by unfold writeD; rw [if_pos h]
  refine ⟨e, ?_⟩
  rw [e]
  obtain ⟨h1, h2, h3, h4, h5, -⟩ := errW_zero h
  obtain ⟨m1, m2, m3, m4⟩ := may_len h1
  refine may_of _ _ m1 (by rw [List.length_append]; simp; omega) m3 (fun x hx => ?_)
  rcases List.mem_append.1 hx with hx | hx
  · exact m4 x hx
  · obtain rfl := List.mem_singleton.1 hx
    exact ⟨h2, h3, h4⟩
end Go.Proofs.Ytcibihakjcenaaa

namespace Go.Proofs.Ytcibihakjcenaaa
open Go.RowKit

theorem DiskT.keep {w w' : World} {lo hi : Nat} {b u : Value} {d : DiskL} (h : DiskT w lo hi b u d) (hk : Kp lo hi w w') : DiskT w' lo hi b u d := ⟨Sl.keep h.1 hk, Sl.keep h.2 hk⟩

end Go.Proofs.Ytcibihakjcenaaa

namespace Go.Proofs.Ytcibihakjcenaaa

def half (s : BitVec 32) : BitVec 32 := (s >>> 1) ^^^ (if s.getLsbD 0 then 0xedb88320#32 else 0#32)
def halves : Nat → BitVec 32 → BitVec 32
  | 0, s => s
  | n + 1, s => half (halves n s)
theorem halves_add (s : BitVec 32) (n : Nat) : ∀ m, halves (n + m) s = halves m (halves n s)
  | 0 => rfl
  | m + 1 => by rw [← Nat.add_assoc, halves, halves_add s n m, halves]

theorem half_xor (a b : BitVec 32) : half (a ^^^ b) = half a ^^^ half b := by
  unfold half
  rw [BitVec.ushiftRight_xor_distrib, BitVec.getLsbD_xor]
  cases ha : a.getLsbD 0 <;> cases hb : b.getLsbD 0
  · simp
  · simp [BitVec.xor_assoc]
  · simp only [Bool.xor_false, if_true, if_false, Bool.false_eq_true, BitVec.xor_zero]
    ac_rfl
  · simp only [Bool.xor_true, Bool.not_true, if_true, if_false, Bool.false_eq_true, BitVec.xor_zero]
    have e : (a >>> 1 ^^^ 3988292384#32) ^^^ (b >>> 1 ^^^ 3988292384#32) = a >>> 1 ^^^ b >>> 1 ^^^ (3988292384#32 ^^^ 3988292384#32) := by ac_rfl
    rw [e]; simp
theorem halves_xor (a b : BitVec 32) : ∀ n, halves n (a ^^^ b) = halves n a ^^^ halves n b
  | 0 => rfl
  | n + 1 => by rw [halves, halves_xor a b n, half_xor]; rfl
/-- What is even is only moved. -/
theorem halves_even (s : BitVec 32) : ∀ n, (∀ i, i < n → s.getLsbD i = false) → halves n s = s >>> n
  | 0, _ => by simp [halves]
  | n + 1, h => by
    rw [halves, halves_even s n (fun i hi => h i (by omega)), half]
    have h0 : (s >>> n).getLsbD 0 = false := by rw [BitVec.getLsbD_ushiftRight]; simpa using h n (by omega)
    rw [h0]
    simp [BitVec.shiftRight_add]
/-- A table of four bits serves. -/
theorem halves_four (s : BitVec 32) : halves 4 s = (s >>> 4) ^^^ halves 4 (s &&& 15#32) := by
  have e : s = (s &&& 0xfffffff0#32) ^^^ (s &&& 15#32) := by
    apply BitVec.eq_of_getLsbD_eq
    intro i hi
    rw [BitVec.getLsbD_xor, BitVec.getLsbD_and, BitVec.getLsbD_and]
    have hk : ∀ k : Fin 32, ((0xfffffff0#32).getLsbD k.val ^^ (15#32).getLsbD k.val) = true := by decide
    have := hk ⟨i, hi⟩
    cases h1 : (0xfffffff0#32).getLsbD i <;> cases h2 : (15#32).getLsbD i <;> simp_all
  have h1 : halves 4 (s &&& 0xfffffff0#32) = (s &&& 0xfffffff0#32) >>> 4 := by
    apply halves_even
    intro i hi
    rw [BitVec.getLsbD_and]
    have : (0xfffffff0#32).getLsbD i = false := by
      match i, hi with
      | 0, _ => decide
      | 1, _ => decide
      | 2, _ => decide
      | 3, _ => decide
    rw [this]; simp
  have h2 : (s &&& 0xfffffff0#32) >>> 4 = s >>> 4 := by
    apply BitVec.eq_of_getLsbD_eq
    intro i hi
    rw [BitVec.getLsbD_ushiftRight, BitVec.getLsbD_ushiftRight, BitVec.getLsbD_and]
    by_cases h : 4 + i < 32
    · have : (0xfffffff0#32).getLsbD (4 + i) = true := by
        have hk : ∀ k : Fin 28, (0xfffffff0#32).getLsbD (4 + k.val) = true := by decide
        exact hk ⟨i, by omega⟩
      rw [this]; simp
    · rw [BitVec.getLsbD_of_ge s (4 + i) (by omega)]; simp
  conv => lhs; rw [e, halves_xor, h1, h2]

def b32 (x : UInt8) : BitVec 32 := BitVec.ofNat 32 x.toNat
def stepB (s : BitVec 32) (x : UInt8) : BitVec 32 := halves 8 (s ^^^ b32 x)
def crcS (s : BitVec 32) (l : List UInt8) : BitVec 32 := l.foldl stepB s
def crc (l : List UInt8) : BitVec 32 := ~~~ (crcS (BitVec.allOnes 32) l)
theorem crcS_append (s : BitVec 32) (a b : List UInt8) : crcS s (a ++ b) = crcS (crcS s a) b := by simp [crcS]
theorem stepB_four (s : BitVec 32) (x : UInt8) : stepB s x = halves 4 (halves 4 (s ^^^ b32 x)) := halves_add _ 4 4
open Go in
theorem xor_u32 (a b : BitVec 32) : bits .xor .u32 (a.toNat : Int) (b.toNat : Int) = ((a ^^^ b).toNat : Int) := by
  simp only [bits, IntKind.bits]
  rw [BitVec.ofInt_natCast, BitVec.ofInt_natCast, BitVec.ofNat_toNat, BitVec.ofNat_toNat]
  simp only [BitVec.setWidth_eq]
  rw [IntKind.wrap_u32]
  have := (a ^^^ b).isLt
  show ((a ^^^ b).toNat : Int) % 4294967296 = _
  omega
open Go in
theorem and_u32 (a b : BitVec 32) : bits .and .u32 (a.toNat : Int) (b.toNat : Int) = ((a &&& b).toNat : Int) := by
  simp only [bits, IntKind.bits]
  rw [BitVec.ofInt_natCast, BitVec.ofInt_natCast, BitVec.ofNat_toNat, BitVec.ofNat_toNat]
  simp only [BitVec.setWidth_eq]
  rw [IntKind.wrap_u32]
  have := (a &&& b).isLt
  show ((a &&& b).toNat : Int) % 4294967296 = _
  omega
theorem b32_nat (x : UInt8) : (b32 x).toNat = x.toNat := by
  have := x.toNat_lt
  simp only [b32, BitVec.toNat_ofNat]
  omega
theorem shr_nat (a : BitVec 32) (n : Nat) : (a >>> n).toNat = a.toNat / 2 ^ n := by rw [BitVec.toNat_ushiftRight, Nat.shiftRight_eq_div_pow]
end Go.Proofs.Ytcibihakjcenaaa

namespace Go.Proofs.Ytcibihakjcenaaa
open Go.RowKit

def u32v (s : BitVec 32) : Value := .int .u32 (s.toNat : Int)
def tabV (k : Nat) : Array Value := ((List.range 16).map fun i => if i < k then u32v (halves 4 (BitVec.ofNat 32 i)) else .int .u32 0).toArray
theorem tabV_set (n : Nat) (h : n < 16) (v : Value) (hv : v = u32v (halves 4 (BitVec.ofNat 32 n))) : (tabV n).setIfInBounds n v = tabV (n + 1) := by
  subst hv
  apply Array.ext_getElem?
  intro i
  rw [Array.getElem?_setIfInBounds]
  by_cases hi : n = i
  · subst hi
    simp [tabV, h]
  · rw [if_neg hi]
    have : (i < n + 1) = (i < n) := by apply propext; omega
    by_cases h16 : i < 16
    · simp [tabV, h16, this]
    · simp [tabV, h16]
theorem tabV_at (i : Nat) (h : i < 16) : (tabV 16)[i]? = some (u32v (halves 4 (BitVec.ofNat 32 i))) := by simp [tabV, h]
theorem tabV_zero : tabV 0 = #[.int .u32 0, .int .u32 0, .int .u32 0, .int .u32 0, .int .u32 0, .int .u32 0, .int .u32 0, .int .u32 0, .int .u32 0, .int .u32 0, .int .u32 0, .int .u32 0, .int .u32 0, .int .u32 0, .int .u32 0, .int .u32 0] := rfl
theorem tabV_lit : tabV 16 = #[.int .u32 0, .int .u32 498536548, .int .u32 997073096, .int .u32 651767980, .int .u32 1994146192, .int .u32 1802195444, .int .u32 1303535960, .int .u32 1342533948, .int .u32 3988292384, .int .u32 4027552580, .int .u32 3604390888, .int .u32 3412177804, .int .u32 2607071920, .int .u32 2262029012, .int .u32 2685067896, .int .u32 3183342108] := by kernel_rfl
theorem half_nat (s : BitVec 32) : bits BinOp.xor IntKind.u32 ((s.toNat : Int) / 2) (3988292384 * bits BinOp.and IntKind.u32 (s.toNat : Int) 1 % 4294967296) = ((half s).toNat : Int) := by
  have h1 : ((s.toNat : Int) / (2 : Int)) = ((s >>> 1).toNat : Int) := by rw [shr_nat]; omega
  have h2 := and_u32 s 1#32
  have h3 : (s &&& 1#32) = if s.getLsbD 0 then 1#32 else 0#32 := by
    apply BitVec.eq_of_getLsbD_eq
    intro i hi
    cases i with
    | zero => cases h : s.getLsbD 0 <;> simp [h, -BitVec.getLsbD_eq_getElem]
    | succ i => cases h : s.getLsbD 0 <;> simp [BitVec.getLsbD_one]
  have h4 : (3988292384 * bits BinOp.and IntKind.u32 (s.toNat : Int) 1 % 4294967296) = ((if s.getLsbD 0 then 0xedb88320#32 else 0#32 : BitVec 32).toNat : Int) := by
    rw [show (1 : Int) = ((1#32).toNat : Int) by decide, h2, h3]
    cases s.getLsbD 0 <;> decide
  rw [h1, h4, xor_u32]
  rfl

set_option maxHeartbeats 1000000 in
theorem fold_any (w : World) : Calls Try.prog 135 #[] w fun e w' => e = .returned (.agg (tabV 16)) ∧ Below w.heap.size w w' := by
  go_enter Try.func135, Try.ntmps135
  go_wp2
  go_loopw [3] (fun k wr => ∃ n : Nat, n ≤ 16 ∧ k = .int .i64 n ∧ wr = w.alloc (.cells (tabV n) 184)) (fun k _ => 16 - (intOf k).toNat)
  case atStart => exact ⟨0, by omega, rfl, by rw [tabV_zero]⟩
  case round =>
    obtain ⟨n, hn, rfl, rfl⟩ := hrel
    by_cases h : n < 16
    · have hcell : (tabV n)[n]? = some (.int .u32 0) := by simp [tabV, h]
      have htab := fun v hv => tabV_set n h v hv
      have HT := Lib.hid htab
      clear htab
      go_wp2
      go_loop [2, 8] (fun s k => ∃ j : Nat, j ≤ 4 ∧ k = .int .i64 j ∧ s = u32v (halves j (BitVec.ofNat 32 n))) (fun _ k => 4 - (intOf k).toNat)
      case atStart => exact ⟨0, by omega, rfl, by rw [halves, u32v, BitVec.toNat_ofNat, Nat.mod_eq_of_lt (by omega)]⟩
      case round =>
        obtain ⟨j, hj, rfl, hs⟩ := hrel
        unfold u32v at hs
        subst hs
        have hb := (halves j (BitVec.ofNat 32 n)).isLt
        have hf : j < 4 → half (halves j (BitVec.ofNat 32 n)) = halves (j + 1) (BitVec.ofNat 32 n) := fun _ => rfl
        have HF := Lib.hid hf
        have he : j = 4 → halves j (BitVec.ofNat 32 n) = halves 4 (BitVec.ofNat 32 n) := fun h => by rw [h]
        have HE := Lib.hid he
        clear hf he
        generalize halves j (BitVec.ofNat 32 n) = s at *
        by_cases h4 : j < 4
        · go_wp2
          go_round
          case rel => exact ⟨j + 1, by omega, by go_num, by rw [half_nat, HF.out h4]; rfl⟩
          case measure => simp [intOf]; omega
        · go_wp2
          go_roundw
          case rel => exact ⟨n + 1, by omega, by go_num, by rw [HT.out _ (by rw [HE.out (by omega)]; rfl)]⟩
          case measure => simp [intOf]; omega
    · obtain rfl : n = 16 := by omega
      rw [tabV_lit]
      go_wp2
      exact bodyPost_ret (v := .agg #[.int .u32 0, .int .u32 498536548, .int .u32 997073096, .int .u32 651767980, .int .u32 1994146192, .int .u32 1802195444, .int .u32 1303535960, .int .u32 1342533948, .int .u32 3988292384, .int .u32 4027552580, .int .u32 3604390888, .int .u32 3412177804, .int .u32 2607071920, .int .u32 2262029012, .int .u32 2685067896, .int .u32 3183342108]) (by simp [results, Try.results135, go_sem]) rfl ⟨by rw [tabV_lit], (Below.refl _ _).alloc (Nat.le_refl _) _⟩

theorem four_nat (s : BitVec 32) : bits BinOp.xor IntKind.u32 ((s.toNat : Int) / (16 : Int)) ((halves 4 (s &&& 15#32)).toNat : Int) = ((halves 4 s).toNat : Int) := by
  have h1 : ((s.toNat : Int) / (16 : Int)) = ((s >>> 4).toNat : Int) := by rw [shr_nat]; omega
  rw [h1, xor_u32, ← halves_four]
theorem and15 (s : BitVec 32) : ∃ i : Nat, i < 16 ∧ bits BinOp.and IntKind.u32 (s.toNat : Int) 15 = (i : Int) ∧ halves 4 (BitVec.ofNat 32 i) = halves 4 (s &&& 15#32) := by
  have h := and_u32 s 15#32
  refine ⟨(s &&& 15#32).toNat, ?_, h, by rw [BitVec.ofNat_toNat]; simp⟩
  rw [BitVec.toNat_and]
  exact Nat.lt_of_le_of_lt Nat.and_le_right (by decide)

set_option maxHeartbeats 1000000 in
theorem of_any (v : Value) (l : List UInt8) (w : World) (hI : Bytes w 0 w.heap.size v l) : Calls Try.prog 101 #[v] w fun e w' => e = .returned (u32v (crc l)) ∧ Below w.heap.size w w' := by
  obtain ⟨a, c, rfl, g1, g2, g3, _⟩ := id hI
  unfold maxLen at g2
  have hfold := fold_any
  have HF := Lib.hid hfold
  clear hfold
  go_enter Try.func101, Try.ntmps101
  go_wp2_with fail
  refine (HF.out _).mono ?_
  rw [tabV_lit]
  rintro e w1 ⟨rfl, hB⟩
  have hI1 := hI.step hB
  clear g3 hI HF
  go_wp2
  rw [← tabV_lit]
  have hI2 := hI1.step ((Below.refl w1.heap.size w1).alloc (Nat.le_refl _) (.cells (tabV 16) 184))
  obtain ⟨W, hW⟩ : ∃ W, w1.alloc (.cells (tabV 16) 184) = W := ⟨_, rfl⟩
  have htab : ∀ i : Nat, i < 16 → W.cell? ⟨w1.heap.size, i, none⟩ = some (u32v (halves 4 (BitVec.ofNat 32 i))) := fun i hi => by rw [← hW, World.cell?_alloc_new]; exact tabV_at i hi
  have hBW : Below w.heap.size w W := by rw [← hW]; exact hB.alloc hB.size _
  rw [hW] at hI2 ⊢
  generalize w1.heap.size = tb at *
  have HT := Lib.hid htab
  have HI := Lib.hid hI2
  clear hI1 hB hW htab hI2
  go_loop [4, 10] (fun s i => ∃ k : Nat, k ≤ l.length ∧ i = .int .i64 k ∧ s = u32v (crcS (BitVec.allOnes 32) (l.take k))) (fun _ i => l.length - (intOf i).toNat)
  case atStart => exact ⟨0, Nat.zero_le _, rfl, rfl⟩
  case round =>
    obtain ⟨k, hk, rfl, hs⟩ := hrel
    unfold u32v at hs
    subst hs
    by_cases hlt : k < l.length
    · obtain ⟨b, off, c', he, _, hb, _, _, hc⟩ := HI.out.at_ (by omega)
      cases he
      have hx := hc k l[k] (by simp [hlt])
      have hsn : crcS (BitVec.allOnes 32) (l.take (k + 1)) = stepB (crcS (BitVec.allOnes 32) (l.take k)) l[k] := by rw [List.take_succ_eq_append_getElem hlt, crcS_append]; rfl
      have HS := Lib.hid hsn
      clear hsn hc
      generalize crcS (BitVec.allOnes 32) (l.take k) = s at *
      generalize l[k] = x at *
      unfold bV at hx
      have hxl : (x.toNat : Int) < 256 := by have := x.toNat_lt; omega
      have e1 : bits BinOp.xor IntKind.u32 (s.toNat : Int) (x.toNat : Int) = ((s ^^^ b32 x).toNat : Int) := by rw [← b32_nat, xor_u32]
      have hs1 : stepB s x = halves 4 (halves 4 (s ^^^ b32 x)) := stepB_four s x
      have HS1 := Lib.hid hs1
      clear hs1
      generalize s ^^^ b32 x = s1 at *
      obtain ⟨i1, hi1, e2, e3⟩ := and15 s1
      have t1 := HT.out i1 hi1
      have e4 := four_nat s1
      rw [← e3] at e4
      generalize halves 4 (BitVec.ofNat 32 i1) = y1 at *
      generalize halves 4 s1 = s2 at *
      obtain ⟨i2, hi2, e5, e6⟩ := and15 s2
      have t2 := HT.out i2 hi2
      have e7 := four_nat s2
      rw [← e6] at e7
      generalize halves 4 (BitVec.ofNat 32 i2) = y2 at *
      generalize halves 4 s2 = s3 at *
      unfold u32v at t1 t2
      have b1 := s1.isLt
      have b2 := s2.isLt
      clear e3 e6
      go_wp2
      go_round
      case rel => exact ⟨k + 1, by omega, by go_num, by rw [HS.out, HS1.out]; rfl⟩
      case measure => simp [intOf]; omega
    · obtain rfl : k = l.length := by omega
      rw [List.take_length]
      have hfin : u32v (crc l) = .int .u32 (bits BinOp.xor IntKind.u32 IntKind.u32.max ((crcS (BitVec.allOnes 32) l).toNat : Int)) := by
        rw [show IntKind.u32.max = ((BitVec.allOnes 32).toNat : Int) by decide, xor_u32, BitVec.allOnes_xor]
        rfl
      have HFin := Lib.hid hfin
      have hbd := (crcS (BitVec.allOnes 32) l).isLt
      clear hfin
      generalize crcS (BitVec.allOnes 32) l = s at *
      go_wp2
      go_ret
      exact ⟨by rw [HFin.out]; rfl, hBW⟩
end Go.Proofs.Ytcibihakjcenaaa

namespace Go.Proofs.Ytcibihakjcenaaa
open Go.RowKit

def KeepC (n₀ Bs : Nat) (A B : World) : Prop := Below n₀ A B ∧ B.cell? ⟨Bs, 0, none⟩ = A.cell? ⟨Bs, 0, none⟩ ∧ B.cell? ⟨Bs + 1, 0, none⟩ = A.cell? ⟨Bs + 1, 0, none⟩
theorem KeepC.refl (n₀ Bs : Nat) (A : World) : KeepC n₀ Bs A A := ⟨Below.refl _ _, rfl, rfl⟩
theorem KeepC.trans {n₀ Bs : Nat} {A B C : World} (h : KeepC n₀ Bs A B) (k : KeepC n₀ Bs B C) : KeepC n₀ Bs A C := ⟨h.1.trans k.1, k.2.1.trans h.2.1, k.2.2.trans h.2.2⟩
end Go.Proofs.Ytcibihakjcenaaa

namespace Go.Proofs.Ytcibihakjcenaaa
open Go.RowKit

/-- May block i be taken? -/
def noneAt (s : StoreL) (i : Nat) : Bool := decide (8 ≤ i) && (s.now.getD i 0 == 0 && s.last.getD i 0 == 0)
def freeN (s : StoreL) (k : Nat) : List Nat := (List.range k).filter (noneAt s)
def freeS (s : StoreL) : List Nat := freeN s 256
theorem freeN_succ (s : StoreL) (k : Nat) : freeN s (k + 1) = if noneAt s k then freeN s k ++ [k] else freeN s k := by
  unfold freeN
  rw [List.range_succ, List.filter_append]
  cases h : noneAt s k <;> simp [h]
theorem freeN_eight (s : StoreL) : freeN s 8 = [] := by
  unfold freeN
  rw [List.filter_eq_nil_iff]
  intro i hi
  have := List.mem_range.1 hi
  unfold noneAt
  rw [decide_eq_false (by omega)]
  simp
theorem freeN_mem {s : StoreL} {k i : Nat} : i ∈ freeN s k ↔ i < k ∧ noneAt s i = true := by
  unfold freeN
  rw [List.mem_filter, List.mem_range]
theorem noneAt_iff {s : StoreL} {i : Nat} : noneAt s i = true ↔ 8 ≤ i ∧ s.now.getD i 0 = 0 ∧ s.last.getD i 0 = 0 := by
  unfold noneAt
  simp
theorem freeS_nodup (s : StoreL) : (freeS s).Nodup := List.Pairwise.filter _ List.nodup_range
/-- The first ones that are free are those of all. -/
theorem freeN_pre {s : StoreL} {k : Nat} (hk : k ≤ 256) : ∃ r, freeS s = freeN s k ++ r := by
  have : ∀ j, ∃ r, freeN s (k + j) = freeN s k ++ r := by
    intro j
    induction j with
    | zero => exact ⟨[], by simp⟩
    | succ j ih =>
      obtain ⟨r, hr⟩ := ih
      rw [show k + (j + 1) = (k + j) + 1 by omega, freeN_succ, hr]
      split
      · exact ⟨r ++ [k + j], by simp⟩
      · exact ⟨r, rfl⟩
  obtain ⟨r, hr⟩ := this (256 - k)
  rw [show k + (256 - k) = 256 by omega] at hr
  exact ⟨r, hr⟩
theorem free_take {s s' : StoreL} {p : Nat} {r : List Nat} (h : freeS s = p :: r) (hn : s'.now = s.now.set p 1) (hl : s'.last = s.last) (h256 : s.now.length = 256) : freeS s' = r := by
  have hnd := freeS_nodup s
  have hp := (freeN_mem.1 (show p ∈ freeN s 256 by rw [show freeN s 256 = p :: r from h]; exact List.mem_cons_self ..))
  have e : freeS s' = (freeS s).filter (fun i => i != p) := by
    unfold freeS freeN
    rw [List.filter_filter]
    apply List.filter_congr
    intro i hi
    have hi := List.mem_range.1 hi
    unfold noneAt
    rw [hn, hl]
    by_cases hip : p = i
    · subst hip
      rw [cgetD_set_self _ _ _ (by omega)]
      simp
    · rw [bget_set_ne _ _ _ _ hip]
      rw [show (i != p) = true by simp; omega]
      simp
  rw [e, h]
  rw [h] at hnd
  rw [List.nodup_cons] at hnd
  rw [List.filter_cons, if_neg (by simp), List.filter_eq_self]
  intro a ha
  simp
  intro e
  subst e
  exact hnd.1 ha
/-- What no count was turned from nought is as free. -/
theorem free_same {s s' : StoreL} (hn : ∀ i, i < 256 → (s'.now.getD i 0 = 0 ↔ s.now.getD i 0 = 0)) (hl : s'.last = s.last) : freeS s' = freeS s := by
  unfold freeS freeN
  apply List.filter_congr
  intro i hi
  have hi := List.mem_range.1 hi
  rw [Bool.eq_iff_iff, noneAt_iff, noneAt_iff, hn i hi, hl]

def errTk (s : StoreL) (b : List UInt8) : Int := if mayS s then (if b.length = 128 then (match freeS s with | [] => 9 | p :: _ => errW s.disk p b) else 3) else 8
def headS (s : StoreL) : Nat := (freeS s).headD 0
def atTk (s : StoreL) (b : List UInt8) : Int := if errTk s b = 0 then headS s else 0
def takeS (s : StoreL) (b : List UInt8) : StoreL := if errTk s b = 0 then ⟨writeD s.disk (headS s) b, s.now.set (headS s) 1, s.last⟩ else noS
def errAs (s : StoreL) (p : Int) : Int := if mayS s then (if p < 8 ∨ 256 ≤ p then 2 else if s.now.getD p.toNat 0 = 0 then 6 else 0) else 8
def errSh (s : StoreL) (p : Int) : Int := if errAs s p ≠ 0 then errAs s p else if s.now.getD p.toNat 0 = 255 then 70 else 0
def shareS (s : StoreL) (p : Int) : StoreL := if errSh s p = 0 then ⟨s.disk, s.now.set p.toNat (s.now.getD p.toNat 0 + 1), s.last⟩ else noS

theorem mayS_iff {s : StoreL} : mayS s = true ↔ mayD s.disk = true ∧ mayT s.now = true ∧ mayT s.last = true := by
  unfold mayS
  simp
theorem errAs_zero {s : StoreL} {p : Int} (h : errAs s p = 0) : mayS s = true ∧ 8 ≤ p ∧ p < 256 ∧ s.now.getD p.toNat 0 ≠ 0 := by
  unfold errAs at h
  split at h
  · rename_i hm
    split at h
    · cases h
    · split at h
      · cases h
      · rename_i h1 h2
        exact ⟨hm, by omega, by omega, h2⟩
  · cases h
theorem errSh_zero {s : StoreL} {p : Int} (h : errSh s p = 0) : errAs s p = 0 ∧ s.now.getD p.toNat 0 ≠ 255 := by
  unfold errSh at h
  split at h
  · rename_i hn
    exact absurd h hn
  · rename_i hn
    split at h
    · cases h
    · rename_i h2
      exact ⟨by simpa using hn, h2⟩
theorem errTk_zero {s : StoreL} {b : List UInt8} (h : errTk s b = 0) : mayS s = true ∧ b.length = 128 ∧ (∃ r, freeS s = headS s :: r) ∧ errW s.disk (headS s) b = 0 := by
  unfold errTk at h
  split at h
  · rename_i hm
    split at h
    · rename_i hl
      unfold headS
      split at h
      · cases h
      · rename_i p r hf
        rw [hf]
        exact ⟨hm, hl, ⟨r, rfl⟩, h⟩
    · cases h
  · cases h
theorem head_free {s : StoreL} {r : List Nat} (h : freeS s = headS s :: r) : 8 ≤ headS s ∧ headS s < 256 ∧ s.now.getD (headS s) 0 = 0 ∧ s.last.getD (headS s) 0 = 0 := by
  have := freeN_mem.1 (show headS s ∈ freeN s 256 by rw [show freeN s 256 = headS s :: r from h]; exact List.mem_cons_self ..)
  have h2 := noneAt_iff.1 this.2
  exact ⟨h2.1, this.1, h2.2.1, h2.2.2⟩
/-- All that is so of a store of which a block was taken. -/
theorem take_is {s : StoreL} {b : List UInt8} (h : errTk s b = 0) :
    takeS s b = ⟨⟨s.disk.blocks, s.disk.waits ++ [⟨(headS s : Int), b⟩]⟩, s.now.set (headS s) 1, s.last⟩ ∧ mayS (takeS s b) = true ∧ atTk s b = headS s ∧ freeS s = headS s :: freeS (takeS s b) := by
  obtain ⟨hm, hl, ⟨r, hr⟩, hw⟩ := errTk_zero h
  obtain ⟨p1, p2, p3, p4⟩ := head_free hr
  obtain ⟨m1, m2, m3⟩ := mayS_iff.1 hm
  obtain ⟨w1, w2⟩ := write_may hw
  have e : takeS s b = ⟨writeD s.disk (headS s) b, s.now.set (headS s) 1, s.last⟩ := by unfold takeS; rw [if_pos h]
  have hf : freeS (takeS s b) = r := by
    refine free_take hr ?_ ?_ (mayT_len m2) <;> rw [e]
  refine ⟨by rw [e, w1], ?_, by unfold atTk; rw [if_pos h], by rw [hf]; exact hr⟩
  rw [e]
  exact mayS_iff.2 ⟨w2, by rw [mayT_set _ _ _ p1]; exact m2, m3⟩
theorem share_is {s : StoreL} {p : Int} (h : errSh s p = 0) :
    shareS s p = ⟨s.disk, s.now.set p.toNat (s.now.getD p.toNat 0 + 1), s.last⟩ ∧ mayS (shareS s p) = true ∧ 8 ≤ p ∧ p < 256 ∧ s.now.getD p.toNat 0 ≠ 0 ∧ (s.now.getD p.toNat 0 + 1).toNat = (s.now.getD p.toNat 0).toNat + 1 ∧ freeS (shareS s p) = freeS s := by
  obtain ⟨h1, h2⟩ := errSh_zero h
  obtain ⟨hm, h8, h9, hn⟩ := errAs_zero h1
  obtain ⟨m1, m2, m3⟩ := mayS_iff.1 hm
  have e : shareS s p = ⟨s.disk, s.now.set p.toNat (s.now.getD p.toNat 0 + 1), s.last⟩ := by unfold shareS; rw [if_pos h]
  have h256 := mayT_len m2
  refine ⟨e, ?_, h8, h9, hn, u8_up h2, ?_⟩
  · rw [e]
    exact mayS_iff.2 ⟨m1, by rw [mayT_set _ _ _ (by omega)]; exact m2, m3⟩
  · rw [e]
    refine free_same (fun i hi => ?_) rfl
    by_cases hip : p.toNat = i
    · subst hip
      show (s.now.set p.toNat (s.now.getD p.toNat 0 + 1)).getD p.toNat 0 = 0 ↔ _
      rw [cgetD_set_self _ _ _ (by omega)]
      exact ⟨fun h => absurd h (u8_up0 h2), fun h => absurd h hn⟩
    · show (s.now.set p.toNat (s.now.getD p.toNat 0 + 1)).getD i 0 = 0 ↔ _
      rw [bget_set_ne _ _ _ _ hip]
end Go.Proofs.Ytcibihakjcenaaa

