/- CountSums: the words and contracts, part 12. -/
import Derived.Test.YtfdogefoodljaaaCountSumsQ1
import Derived.Test.YtfdogefoodljaaaCountSumsQ2
import Derived.Test.YtfdogefoodljaaaCountSumsQ4
import Derived.Test.YtfdogefoodljaaaCountSumsQ5
import Derived.Test.YtfdogefoodljaaaCountSumsQ6
import Derived.Test.YtfdogefoodljaaaCountSumsQ7
import Derived.Test.YtfdogefoodljaaaCountSumsQ8
import Derived.Test.YtfdogefoodljaaaCountSumsQ9
import Derived.Test.YtfdogefoodljaaaCountSumsQ10
import Derived.Test.YtfdogefoodljaaaCountSumsQ11
import Derived.WalkKit
import Derived.WalkLawsBesides
import Derived.WalkSpells
import Derived.Lib.Hide
import Derived.Laws.Rows
import Derived.Laws.AppendOwnNone
import Derived.Maps.AppendAt
import Derived.RangeFuncNested
import Derived.RangeFuncBound
import Derived.RangeFuncCalls
import Derived.RangeFuncLeaves
import Derived.RangeFuncBox
import Derived.Shelf.Abstract
import Derived.Shelf.RegionOpen
import Derived.OwnWalkIn
import Derived.TacticsInMore
import Derived.LoopNIn
import Derived.LoopIn
import Derived.ProofKit
import Derived.Deep.Slices
import Derived.WideShapes
import Derived.OrdersHeld
import Derived.Deep.QuietTactic
import Derived.BigQuiet
import Derived.StillTailTactics
import Derived.OpenShut
import Derived.Lib.SliceRun
import Derived.Lib.AppendZerosOnto
import Derived.Lib.Walk
import Derived.Deep.LoopGhost
import Derived.Laws.CopyOwn
import Derived.Deep.DeepCutAuto
import Derived.Laws.CopyRow
import Derived.Laws.MakeOwn
import Derived.Deep.RegionHeld
namespace Go.Proofs.Ytfdogefoodljaaa
open Go.RowKit

def capB (x : List UInt8) : Nat := min x.length 1000000
def smB (D : List (List UInt8)) (k : Nat) : Nat := ((D.take k).map capB).sum
theorem smB_succ (D : List (List UInt8)) (k : Nat) (h : k < D.length) : smB D (k + 1) = smB D k + capB (D.getD k []) := by
  unfold smB
  rw [List.take_add_one, List.map_append, List.sum_append]
  simp [h]
theorem capB_le (x : List UInt8) : capB x ≤ 1000000 := Nat.min_le_right _ _
theorem smB_le' (D : List (List UInt8)) (c : Nat) (hc : ∀ x, capB x ≤ c) (k : Nat) : smB D k ≤ k * c := by
  induction k with
  | zero => simp [smB]
  | succ k ih =>
    rw [Nat.succ_mul]
    rcases Nat.lt_or_ge k D.length with h | h
    · rw [smB_succ D k h]
      have := hc (D.getD k [])
      omega
    · have e : smB D (k + 1) = smB D k := by
        unfold smB
        rw [List.take_of_length_le (by omega), List.take_of_length_le (by omega)]
      omega
theorem smB_le (D : List (List UInt8)) (k : Nat) : smB D k ≤ k * 1000000 := smB_le' D _ capB_le k
set_option maxRecDepth 100000 in
theorem sm_flat (D : List (List UInt8)) (h : (D.map capB).sum ≤ 800000) : D.flatten.length ≤ 800000 := by
  suffices hs : D.flatten.length = (D.map capB).sum by omega
  induction D with
  | nil => rfl
  | cons a l ih =>
    rw [List.map_cons, List.sum_cons] at h ⊢
    rw [List.flatten_cons, List.length_append, ih (by omega)]
    have : capB a = a.length := by
      unfold capB at *
      omega
    omega

set_option maxRecDepth 100000 in
set_option maxHeartbeats 1000000 in
theorem great_any (b u : Value) (d : DiskL) (w : World) (h : DiskV w 0 w.heap.size b u d) :
    Calls Try.prog 19 #[.agg #[b, u]] w fun e w' => ∃ g, e = .returned (.bool g) ∧ Below w.heap.size w w' ∧ (g = false → d.blocks.length ≤ 300 ∧ d.waits.length ≤ 5000 ∧ (datD d).flatten.length ≤ 800000) := by
  have hB := (Below.refl w.heap.size w).alloc (Nat.le_refl _) (.cells #[b, u] 33)
  have hD := h.step hB
  have hq := World.alloc_heap_new w (.cells #[b, u] 33)
  obtain ⟨ab, cb, rfl, g1, g2, -, -⟩ := h.1
  obtain ⟨au, cu, rfl, g1', g2', -, -⟩ := h.2
  unfold maxLen at g2 g2'
  clear h
  obtain ⟨W, hW⟩ : ∃ W, w.alloc (.cells #[.slice ab d.blocks.length cb, .slice au d.waits.length cu] 33) = W := ⟨_, rfl⟩
  rw [hW] at hB hD hq
  have c0 := blk_cell hq 0
  have c1 := blk_cell hq 1
  simp at c0 c1
  have HQ := Lib.hid (And.intro hD (And.intro hB hq))
  clear hD hB hq
  go_enter Try.func19, Try.ntmps19
  by_cases h1 : 300 < d.blocks.length
  · have i1 : (300 : Int) < d.blocks.length := by omega
    go_wp2
    go_ret
    exact ⟨true, rfl, HQ.out.2.1, fun h => by cases h⟩
  have d1 : decide ((300 : Int) < d.blocks.length) = false := by simp; omega
  by_cases h2 : 5000 < d.waits.length
  · have i2 : (5000 : Int) < d.waits.length := by omega
    go_wp2
    go_ret
    exact ⟨true, rfl, HQ.out.2.1, fun h => by cases h⟩
  have d2 : decide ((5000 : Int) < d.waits.length) = false := by simp; omega
  by_cases h3 : 600 < d.waits.length ∧ d.waits.length < 4096
  · have i3 : (600 : Int) < d.waits.length := by omega
    have i4 : (d.waits.length : Int) < 4096 := by omega
    go_wp2
    go_ret
    exact ⟨true, rfl, HQ.out.2.1, fun h => by cases h⟩
  obtain ⟨D, hDD⟩ : ∃ D, datD d = D := ⟨_, rfl⟩
  have HL := Lib.hid (show D.length = d.blocks.length + d.waits.length by rw [← hDD, datD_length])
  have HDB := Lib.hid (show ∀ k, k < d.blocks.length → D.getD k [] = d.blocks.getD k [] from fun k hk => by rw [← hDD]; exact datD_b d k hk)
  have HDW := Lib.hid (show ∀ k, k < d.waits.length → D.getD (d.blocks.length + k) [] = (d.waits.getD k ⟨0, []⟩).data from fun k hk => by rw [← hDD]; exact datD_w d k hk)
  have HDD := Lib.hid hDD
  clear hDD
  have h1' : d.blocks.length ≤ 300 := by omega
  have h2' : d.waits.length ≤ 5000 := by omega
  have hsplit : (decide ((600 : Int) < d.waits.length) = false) ∨ ((600 : Int) < d.waits.length ∧ decide ((d.waits.length : Int) < 4096) = false) := by
    by_cases h : 600 < d.waits.length
    · exact .inr ⟨by omega, by simp; omega⟩
    · exact .inl (by simp; omega)
  clear h3
  go_upto_region 1 with (fail)
  go_cut [27] (fun s wx => s = .bool false ∧ wx = W)
  case first =>
    rcases hsplit with d3 | ⟨i3, d4⟩
    · go_wp2
      go_meet
      exact ⟨rfl, rfl⟩
    · go_wp2
      go_meet
      exact ⟨rfl, rfl⟩
  case rest =>
  obtain ⟨rfl, rfl⟩ := hcut
  clear hsplit d1 d2
  have HS := Lib.hid (show ∀ k, k ≤ 6000 → smB D k ≤ 6000000000 from fun k hk => Nat.le_trans (smB_le D k) (by omega))
  clear h1 h2
  go_wp2_with fail
  go_loopw [3, 4] (fun v i wr => ∃ k : Nat, k ≤ d.blocks.length ∧ i = .int .i64 k ∧ v = .int .i64 (smB D k) ∧ wr = wc) (fun _ i _ => d.blocks.length - (intOf i).toNat)
  case atStart => exact ⟨0, Nat.zero_le _, rfl, rfl, rfl⟩
  case round =>
  obtain ⟨k, hk, rfl, rfl, rfl⟩ := hrel
  by_cases hlt : k < d.blocks.length
  · obtain ⟨bb, bo, cb', e', -, z1, z2, z3, hbe⟩ := HQ.out.1.1.at_ (by omega)
    injection e' with ea _ ec
    subst ea ec
    obtain ⟨v, hv, hvb⟩ := hbe k (d.blocks.getD k []) (get_l _ _ _ hlt)
    obtain ⟨av, cv, rfl, -, hcv⟩ := hvb.form rfl
    unfold maxLen at hcv z3
    have hv' : wr.cell? ⟨bb, bo + k, none⟩ = some (.slice av (d.blocks.getD k []).length cv) := by simpa [rBytes] using hv
    have hps : smB D (k + 1) = smB D k + capB (d.blocks.getD k []) := by rw [smB_succ D k (by have := HL.out; omega), HDB.out k hlt]
    have hpt := HS.out k (by omega)
    have hcl := capB_le (d.blocks.getD k [])
    have hmin : min ((d.blocks.getD k []).length : Int) 1000000 = (capB (d.blocks.getD k []) : Int) := by unfold capB; omega
    have HPS := Lib.hid hps
    clear hps hv hvb hbe
    generalize capB (d.blocks.getD k []) = cy at *
    generalize (d.blocks.getD k []).length = y at *
    generalize smB D k = pk at *
    go_wp2
    go_roundw
    case rel => exact ⟨k + 1, by omega, by go_num, by rw [HPS.out]; go_num, trivial⟩
    case measure => simp [intOf]; omega
  obtain rfl : k = d.blocks.length := by omega
  clear hk hlt
  obtain ⟨V, hV⟩ : ∃ V, V = wr := ⟨_, rfl⟩
  subst hV
  go_wp2_with fail
  go_loopw [3, 5] (fun v i wr => ∃ k : Nat, k ≤ d.waits.length ∧ i = .int .i64 k ∧ v = .int .i64 (smB D (d.blocks.length + k)) ∧ wr = V) (fun _ i _ => d.waits.length - (intOf i).toNat)
  case atStart => exact ⟨0, Nat.zero_le _, rfl, rfl, rfl⟩
  case round =>
  obtain ⟨k, hk, rfl, rfl, rfl⟩ := hrel
  by_cases hlt : k < d.waits.length
  · obtain ⟨bb, bo, cb', e', -, z1, z2, z3, hbe⟩ := HQ.out.1.2.at_ (by omega)
    injection e' with ea _ ec
    subst ea ec
    obtain ⟨f0, f1, v, f2, f3⟩ := hbe k (d.waits.getD k ⟨0, []⟩) (get_l _ _ _ hlt)
    obtain ⟨av, cv, rfl, -, hcv⟩ := f3.form rfl
    unfold maxLen at hcv z3
    have hps : smB D (d.blocks.length + (k + 1)) = smB D (d.blocks.length + k) + capB (d.waits.getD k ⟨0, []⟩).data := by
      rw [← Nat.add_assoc, smB_succ D (d.blocks.length + k) (by have := HL.out; omega), HDW.out k hlt]
    have hpt := HS.out (d.blocks.length + k) (by omega)
    have hcl := capB_le (d.waits.getD k ⟨0, []⟩).data
    have hmin : min ((d.waits.getD k ⟨0, []⟩).data.length : Int) 1000000 = (capB (d.waits.getD k ⟨0, []⟩).data : Int) := by unfold capB; omega
    obtain ⟨y, hy⟩ : ∃ y, d.waits.getD k ⟨0, []⟩ = y := ⟨_, rfl⟩
    rw [hy] at f2 hps hcl hmin
    clear hy f0 f1 f3 hbe
    have HPS := Lib.hid hps
    clear hps
    obtain ⟨at_, dt⟩ := y
    simp [rWrite] at f2
    simp only at hcl hmin HPS
    generalize capB dt = cy at *
    generalize smB D (d.blocks.length + k) = pk at *
    go_wp2
    go_roundw
    case rel => exact ⟨k + 1, by omega, by go_num, by rw [HPS.out]; go_num, trivial⟩
    case measure => simp [intOf]; omega
  obtain rfl : k = d.waits.length := by omega
  have hsum : smB D (d.blocks.length + d.waits.length) = (D.map capB).sum := by
    rw [← HL.out]
    unfold smB
    rw [List.take_length]
  have hpt := HS.out (d.blocks.length + d.waits.length) (by omega)
  rw [hsum] at hpt ⊢
  have HSM := Lib.hid (sm_flat D)
  clear hsum
  generalize (D.map capB).sum = sm at *
  by_cases h5 : 800000 < sm
  · have i5 : (800000 : Int) < sm := by omega
    go_wp2
    go_ret
    exact ⟨true, rfl, HQ.out.2.1, fun h => by cases h⟩
  · have d5 : decide ((800000 : Int) < sm) = false := by simp; omega
    have hle : sm ≤ 800000 := by omega
    have HLE := Lib.hid hle
    clear hle h5
    go_wp2
    go_ret
    exact ⟨_, rfl, HQ.out.2.1, fun _ => ⟨h1', h2', by rw [HDD.out]; exact HSM.out HLE.out⟩⟩
end Go.Proofs.Ytfdogefoodljaaa

namespace Go.Proofs.Ytfdogefoodljaaa
open Go.RowKit

theorem errA_may {d : DiskL} (p : Int) (h : mayD d = true) : errA d p = if p < 0 ∨ 256 ≤ p then 2 else 0 := by
  unfold errA
  rw [if_pos h]
theorem may_of (bl : List (List UInt8)) (wl : List WrL) (h1 : bl.length = 256) (h2 : wl.length ≤ 4096) (h3 : ∀ x ∈ bl, x.length = 128) (h4 : ∀ x ∈ wl, 0 ≤ x.at_ ∧ x.at_ < 256 ∧ x.data.length = 128) : mayD ⟨bl, wl⟩ = true := by
  unfold mayD okW
  simp only [Bool.and_eq_true, beq_iff_eq, decide_eq_true_eq, List.all_eq_true]
  exact ⟨⟨⟨h1, h2⟩, h3⟩, fun x hx => ⟨⟨(h4 x hx).1, (h4 x hx).2.1⟩, (h4 x hx).2.2⟩⟩
theorem errW_zero {d : DiskL} {p : Int} {l : List UInt8} (h : errW d p l = 0) : mayD d = true ∧ 0 ≤ p ∧ p < 256 ∧ l.length = 128 ∧ d.waits.length < 4096 ∧ errA d p = 0 := by
  unfold errW at h
  split at h
  · rename_i h1; exact absurd h h1
  · rename_i h1
    split at h
    · cases h
    · rename_i h2
      split at h
      · cases h
      · rename_i h3
        have h1' : errA d p = 0 := by
          rcases Decidable.em (errA d p = 0) with e | e
          · exact e
          · exact absurd e h1
        have h4 := errA_zero h1'
        have h5 := may_len h4.1
        have h2' : l.length = 128 := by
          rcases Decidable.em (l.length = 128) with e | e
          · exact e
          · exact absurd e h2
        exact ⟨h4.1, h4.2.1, h4.2.2, h2', by omega, h1'⟩
theorem write_may {d : DiskL} {p : Int} {l : List UInt8} (h : errW d p l = 0) : writeD d p l = ⟨d.blocks, d.waits ++ [⟨p, l⟩]⟩ ∧ mayD (writeD d p l) = true := by
  have e : writeD d p l = ⟨d.blocks, d.waits ++ [⟨p, l⟩]⟩ := by unfold writeD; rw [if_pos h]
  refine ⟨e, ?_⟩
  rw [e]
  obtain ⟨h1, h2, h3, h4, h5, -⟩ := errW_zero h
  obtain ⟨m1, m2, m3, m4⟩ := may_len h1
  refine may_of _ _ m1 (by rw [List.length_append]; simp; omega) m3 (fun x hx => ?_)
  rcases List.mem_append.1 hx with hx | hx
  · exact m4 x hx
  · obtain rfl := List.mem_singleton.1 hx
    exact ⟨h2, h3, h4⟩
end Go.Proofs.Ytfdogefoodljaaa

namespace Go.Proofs.Ytfdogefoodljaaa
open Go.RowKit

theorem DiskT.keep {w w' : World} {lo hi : Nat} {b u : Value} {d : DiskL} (h : DiskT w lo hi b u d) (hk : Kp lo hi w w') : DiskT w' lo hi b u d := ⟨Sl.keep h.1 hk, Sl.keep h.2 hk⟩

end Go.Proofs.Ytfdogefoodljaaa

namespace Go.Proofs.Ytfdogefoodljaaa
open Go.RowKit

def errC (d : DiskL) : Int := if mayD d then 0 else 8
end Go.Proofs.Ytfdogefoodljaaa

namespace Go.Proofs.Ytfdogefoodljaaa
open Go.RowKit

/-- What is in cells stays. -/
def CKc (w w' : World) : Prop := ∀ a v, w.cell? a = some v → w'.cell? a = some v ∧ w'.frozen? a = w.frozen? a
theorem CKc.refl (w : World) : CKc w w := fun _ _ h => ⟨h, rfl⟩
theorem CKc.trans {a b c : World} (h : CKc a b) (k : CKc b c) : CKc a c := fun p v e => ⟨(k p v (h p v e).1).1, ((k p v (h p v e).1).2).trans (h p v e).2⟩
theorem Bytes.ck {w w' : World} (h : CKc w w') {lo hi : Nat} {v : Value} {l : List UInt8} (hb : Bytes w lo hi v l) : Bytes w' lo hi v l := by
  obtain ⟨a, c, e, h1, h2, h3, h4⟩ := hb
  refine ⟨a, c, e, h1, h2, fun hp => ?_, h4⟩
  obtain ⟨b, off, ea, hlo, hhi, hc⟩ := h3 hp
  exact ⟨b, off, ea, hlo, hhi, fun i x hx => (h _ _ (hc i x hx)).1⟩
theorem thawed_ck {w w' : World} (h : CKc w w') {lo hi : Nat} {v : Value} {l : List UInt8} (hb : Bytes w lo hi v l) (ht : Thawed w v) : Thawed w' v := by
  intro b off n c e i hi
  obtain ⟨a, c', e', h1, h2, h3, h4⟩ := hb
  subst e
  cases e'
  obtain ⟨b', off', ea, _, hhi, hc⟩ := h3 (by omega)
  cases ea
  have hil : l[i]? = some (l[i]'hi) := by simp [hi]
  rw [(h _ _ (hc i _ hil)).2]
  exact ht _ _ _ _ rfl i hi
def RdCK {α : Type} (r : Rd α) : Prop := ∀ {w w' : World} {lo hi : Nat} {x : α} {f g : Nat → Option Value}, CKc w w' → (∀ j v, f j = some v → g j = some v) → r.R w lo hi x f → r.R w' lo hi x g
theorem rBytes_ck : RdCK rBytes := fun hc hg h => by obtain ⟨v, h1, h2⟩ := h; exact ⟨v, hg _ _ h1, h2.ck hc⟩
theorem rBytesT_ck : RdCK rBytesT := fun hc hg h => by obtain ⟨v, h1, h2, h3⟩ := h; exact ⟨v, hg _ _ h1, h2.ck hc, thawed_ck hc h2 h3⟩
theorem rWrite_ck : RdCK rWrite := fun hc hg h => by obtain ⟨g0, g1, v, h1, h2⟩ := h; exact ⟨hg _ _ g0, g1, v, hg _ _ h1, h2.ck hc⟩
theorem rWriteT_ck : RdCK rWriteT := fun hc hg h => by obtain ⟨g0, g1, v, h1, h2, h3⟩ := h; exact ⟨hg _ _ g0, g1, v, hg _ _ h1, h2.ck hc, thawed_ck hc h2 h3⟩
theorem Sl.ck {α : Type} {r : Rd α} (hr : RdCK r) {w w' : World} {lo hi : Nat} {v : Value} {l : List α} (h : Sl r w lo hi v l) (hc : CKc w w') : Sl r w' lo hi v l := by
  obtain ⟨a, c, e, h1, h2, h3, h4⟩ := h
  refine ⟨a, c, e, h1, h2, fun hp => ?_, h4⟩
  obtain ⟨b, off, ea, hlo, hhi, hx⟩ := h3 hp
  exact ⟨b, off, ea, hlo, hhi, fun i x hxi => hr hc (fun j v hv => (hc _ _ hv).1) (hx i x hxi)⟩
/-- The world without some blocks. -/
def hideW (w : World) (S : Nat → Bool) : World := { w with heap := w.heap.mapIdx fun i o => if S i then .cells #[] 0 (0, 0) else o }
theorem hideW_get (w : World) (S : Nat → Bool) (k : Nat) (h : S k = false) : (hideW w S).heap[k]? = w.heap[k]? := by
  unfold hideW
  simp only [Array.getElem?_mapIdx]
  cases w.heap[k]? with
  | none => rfl
  | some o => simp [h]
theorem hideW_cell (w : World) (S : Nat → Bool) (a : Addr) (h : S a.block = false) : (hideW w S).cell? a = w.cell? a := World.cell?_of_block (hideW_get w S _ h)
theorem hideW_frozen (w : World) (S : Nat → Bool) (a : Addr) (h : S a.block = false) : (hideW w S).frozen? a = w.frozen? a := World.frozen?_of_block (hideW_get w S _ h)
theorem hideW_no (w : World) (S : Nat → Bool) (a : Addr) (h : S a.block = true) : (hideW w S).cell? a = none := by
  unfold World.cell? hideW
  simp only [Array.getElem?_mapIdx]
  cases w.heap[a.block]? with
  | none => rfl
  | some o => simp [h]
theorem hideW_ck {w w' : World} {S S' : Nat → Bool} (h : ∀ k, k < w.heap.size → S k = false → S' k = false ∧ w'.heap[k]? = w.heap[k]?) : CKc (hideW w S) (hideW w' S') := by
  intro a v hv
  have hS : S a.block = false := by
    cases e : S a.block with
    | false => rfl
    | true => rw [hideW_no w S a e] at hv; cases hv
  rw [hideW_cell w S a hS] at hv
  obtain ⟨h1, h2⟩ := h a.block (cell_lt' hv) hS
  rw [hideW_cell w' S' a h1, hideW_frozen w' S' a h1, hideW_frozen w S a hS, World.cell?_of_block h2, World.frozen?_of_block h2]
  exact ⟨hv, rfl⟩
/-- Blocks S, and the row's own. -/
def andOwn (S : Nat → Bool) (v : Value) (k : Nat) : Bool := S k || decide (v.ownBlock = some k)
theorem andOwn_no {S : Nat → Bool} {v : Value} {k : Nat} (h : andOwn S v k = false) : S k = false ∧ v.ownBlock ≠ some k := by
  unfold andOwn at h
  simpa using h
/-- A row of the call's own that holds l: what its elements point to lies neither in the row nor in the blocks S. -/
def OwnR {α : Type} (r : Rd α) (base : Nat) (T : TypeId) (lo : Nat) (S : Nat → Bool) (w : World) (v : Value) (l : List α) : Prop :=
  (∀ g, v.ownBlock = some g → S g = false) ∧ ∃ xs, w.ownsRow base T r.n v l.length xs ∧ ∀ j x, l[j]? = some x → r.R (hideW w (andOwn S v)) lo w.heap.size x (fun i => xs[j * r.n + i]?)
theorem OwnR.nil_ {α : Type} (r : Rd α) (base : Nat) (T : TypeId) (lo : Nat) (S : Nat → Bool) (w : World) : OwnR r base T lo S w (.slice none 0 0) ([] : List α) :=
  ⟨fun g h => (by cases h), [], World.ownsRow_nil _ _ _ _, fun j x h => (by simp at h)⟩
theorem OwnR.lt {α : Type} {r : Rd α} {base : Nat} {T : TypeId} {lo : Nat} {S : Nat → Bool} {w : World} {v : Value} {l : List α} (h : OwnR r base T lo S w v l) : ∀ k, v.ownBlock = some k → base ≤ k ∧ k < w.heap.size := by
  obtain ⟨-, xs, h1, -⟩ := h
  exact h1.lt
theorem OwnR.form {α : Type} {r : Rd α} {base : Nat} {T : TypeId} {lo : Nat} {S : Nat → Bool} {w : World} {v : Value} {l : List α} (h : OwnR r base T lo S w v l) : ∃ ad c, v = .slice ad l.length c ∧ c ≤ maxLen := by
  obtain ⟨-, xs, h1, -⟩ := h
  rcases h1.2 with ⟨rfl, h0⟩ | ⟨g, cap, cur, rfl, -, -, -, h2, -⟩
  · exact ⟨none, 0, by rw [h0], Nat.zero_le _⟩
  · exact ⟨_, _, rfl, h2⟩
theorem OwnR.to {α : Type} {r : Rd α} (hr : RdCK r) {base : Nat} {T : TypeId} {lo : Nat} {S : Nat → Bool} {w w' : World} {v : Value} {l : List α} (h : OwnR r base T lo S w v l)
    (hs : w.heap.size ≤ w'.heap.size) (hk : ∀ k, k < w.heap.size → S k = false → w'.heap[k]? = w.heap[k]?) : OwnR r base T lo S w' v l := by
  have hlt := h.lt
  obtain ⟨h0, xs, ⟨hl, hrow⟩, hx⟩ := h
  refine ⟨h0, xs, ⟨hl, ?_⟩, fun j x hj => r.more (Nat.le_refl _) hs (hr (hideW_ck fun k h1 h2 => ⟨h2, hk k h1 (andOwn_no h2).1⟩) (fun _ _ e => e) (hx j x hj))⟩
  rcases hrow with h | ⟨g, cap, cur, rfl, hg, hh, rest⟩
  · exact .inl h
  · exact .inr ⟨g, cap, cur, rfl, hg, (hk g (hlt g rfl).2 (h0 g rfl)).trans hh, rest⟩
theorem OwnR.step {α : Type} {r : Rd α} (hr : RdCK r) {base : Nat} {T : TypeId} {lo : Nat} {S : Nat → Bool} {w w' : World} {v : Value} {l : List α} (h : OwnR r base T lo S w v l) (hB : Below w.heap.size w w') : OwnR r base T lo S w' v l :=
  h.to hr hB.size fun k hk _ => hB.block k hk
theorem OwnR.alloc {α : Type} {r : Rd α} (hr : RdCK r) {base : Nat} {T : TypeId} {lo : Nat} {S : Nat → Bool} {w : World} {v : Value} {l : List α} (h : OwnR r base T lo S w v l) (o : Obj) : OwnR r base T lo S (w.alloc o) v l :=
  h.step hr ((Below.refl _ _).alloc (Nat.le_refl _) o)
end Go.Proofs.Ytfdogefoodljaaa

