/- DevDoes: the words and contracts, part 8. -/
import Derived.Test.YtldidclnfkmonaaDevDoesQ1
import Derived.Test.YtldidclnfkmonaaDevDoesQ2
import Derived.Test.YtldidclnfkmonaaDevDoesQ3
import Derived.Test.YtldidclnfkmonaaDevDoesQ4
import Derived.Test.YtldidclnfkmonaaDevDoesQ5
import Derived.Test.YtldidclnfkmonaaDevDoesQ6
import Derived.Test.YtldidclnfkmonaaDevDoesQ7
import Derived.WalkKit
import Derived.WalkLawsBesides
import Derived.WalkSpells
import Derived.Lib.Hide
import Derived.Laws.Rows
import Derived.Laws.AppendOwnNone
import Derived.Maps.AppendAt
import Derived.RangeFuncNested
import Derived.RangeFuncBound
import Derived.RangeFuncCalls
import Derived.RangeFuncLeaves
import Derived.RangeFuncBox
import Derived.Shelf.Abstract
import Derived.Shelf.RegionOpen
import Derived.OwnWalkIn
import Derived.TacticsInMore
import Derived.LoopNIn
import Derived.LoopIn
import Derived.ProofKit
import Derived.Deep.Slices
import Derived.WideShapes
import Derived.OrdersHeld
import Derived.Deep.QuietTactic
import Derived.BigQuiet
import Derived.StillTailTactics
import Derived.OpenShut
import Derived.Lib.SliceRun
import Derived.Lib.AppendZerosOnto
import Derived.Lib.Walk
import Derived.Deep.LoopGhost
import Derived.Laws.CopyOwn
import Derived.Deep.DeepCutAuto
import Derived.Laws.CopyRow
import Derived.Laws.MakeOwn
import Derived.Deep.RegionHeld
namespace Go.Proofs.Ytldidclnfkmonaa
open Go.RowKit

def capB (x : List UInt8) : Nat := min x.length 1000000
def smB (D : List (List UInt8)) (k : Nat) : Nat := ((D.take k).map capB).sum
theorem smB_succ (D : List (List UInt8)) (k : Nat) (h : k < D.length) : smB D (k + 1) = smB D k + capB (D.getD k []) := by
  unfold smB
  rw [List.take_add_one, List.map_append, List.sum_append]
  simp [h]
theorem capB_le (x : List UInt8) : capB x ≤ 1000000 := Nat.min_le_right _ _
theorem smB_le' (D : List (List UInt8)) (c : Nat) (hc : ∀ x, capB x ≤ c) (k : Nat) : smB D k ≤ k * c := by
  induction k with
  | zero => simp [smB]
  | succ k ih =>
    rw [Nat.succ_mul]
    rcases Nat.lt_or_ge k D.length with h | h
    · rw [smB_succ D k h]
      have := hc (D.getD k [])
      omega
    · have e : smB D (k + 1) = smB D k := by
        unfold smB
        rw [List.take_of_length_le (by omega), List.take_of_length_le (by omega)]
      omega
theorem smB_le (D : List (List UInt8)) (k : Nat) : smB D k ≤ k * 1000000 := smB_le' D _ capB_le k
set_option maxRecDepth 100000 in
theorem sm_flat (D : List (List UInt8)) (h : (D.map capB).sum ≤ 800000) : D.flatten.length ≤ 800000 := by
  suffices hs : D.flatten.length = (D.map capB).sum by omega
  induction D with
  | nil => rfl
  | cons a l ih =>
    rw [List.map_cons, List.sum_cons] at h ⊢
    rw [List.flatten_cons, List.length_append, ih (by omega)]
    have : capB a = a.length := by
      unfold capB at *
      omega
    omega

set_option maxRecDepth 100000 in
set_option maxHeartbeats 1000000 in
theorem great_any (b u : Value) (d : DiskL) (w : World) (h : DiskV w 0 w.heap.size b u d) :
    Calls Try.prog 21 #[.agg #[b, u]] w fun e w' => ∃ g, e = .returned (.bool g) ∧ Below w.heap.size w w' ∧ (g = false → d.blocks.length ≤ 300 ∧ d.waits.length ≤ 5000 ∧ (datD d).flatten.length ≤ 800000) := by
  have hB := (Below.refl w.heap.size w).alloc (Nat.le_refl _) (.cells #[b, u] 39)
  have hD := h.step hB
  have hq := World.alloc_heap_new w (.cells #[b, u] 39)
  obtain ⟨ab, cb, rfl, g1, g2, -, -⟩ := h.1
  obtain ⟨au, cu, rfl, g1', g2', -, -⟩ := h.2
  unfold maxLen at g2 g2'
  clear h
  obtain ⟨W, hW⟩ : ∃ W, w.alloc (.cells #[.slice ab d.blocks.length cb, .slice au d.waits.length cu] 39) = W := ⟨_, rfl⟩
  rw [hW] at hB hD hq
  have c0 := blk_cell hq 0
  have c1 := blk_cell hq 1
  simp at c0 c1
  have HQ := Lib.hid (And.intro hD (And.intro hB hq))
  clear hD hB hq
  go_enter Try.func21, Try.ntmps21
  by_cases h1 : 300 < d.blocks.length
  · have i1 : (300 : Int) < d.blocks.length := by omega
    go_wp2
    go_ret
    exact ⟨true, rfl, HQ.out.2.1, fun h => by cases h⟩
  have d1 : decide ((300 : Int) < d.blocks.length) = false := by simp; omega
  by_cases h2 : 5000 < d.waits.length
  · have i2 : (5000 : Int) < d.waits.length := by omega
    go_wp2
    go_ret
    exact ⟨true, rfl, HQ.out.2.1, fun h => by cases h⟩
  have d2 : decide ((5000 : Int) < d.waits.length) = false := by simp; omega
  by_cases h3 : 600 < d.waits.length ∧ d.waits.length < 4096
  · have i3 : (600 : Int) < d.waits.length := by omega
    have i4 : (d.waits.length : Int) < 4096 := by omega
    go_wp2
    go_ret
    exact ⟨true, rfl, HQ.out.2.1, fun h => by cases h⟩
  obtain ⟨D, hDD⟩ : ∃ D, datD d = D := ⟨_, rfl⟩
  have HL := Lib.hid (show D.length = d.blocks.length + d.waits.length by rw [← hDD, datD_length])
  have HDB := Lib.hid (show ∀ k, k < d.blocks.length → D.getD k [] = d.blocks.getD k [] from fun k hk => by rw [← hDD]; exact datD_b d k hk)
  have HDW := Lib.hid (show ∀ k, k < d.waits.length → D.getD (d.blocks.length + k) [] = (d.waits.getD k ⟨0, []⟩).data from fun k hk => by rw [← hDD]; exact datD_w d k hk)
  have HDD := Lib.hid hDD
  clear hDD
  have h1' : d.blocks.length ≤ 300 := by omega
  have h2' : d.waits.length ≤ 5000 := by omega
  have hsplit : (decide ((600 : Int) < d.waits.length) = false) ∨ ((600 : Int) < d.waits.length ∧ decide ((d.waits.length : Int) < 4096) = false) := by
    by_cases h : 600 < d.waits.length
    · exact .inr ⟨by omega, by simp; omega⟩
    · exact .inl (by simp; omega)
  clear h3
  go_upto_region 1 with (fail)
  go_cut [27] (fun s wx => s = .bool false ∧ wx = W)
  case first =>
    rcases hsplit with d3 | ⟨i3, d4⟩
    · go_wp2
      go_meet
      exact ⟨rfl, rfl⟩
    · go_wp2
      go_meet
      exact ⟨rfl, rfl⟩
  case rest =>
  obtain ⟨rfl, rfl⟩ := hcut
  clear hsplit d1 d2
  have HS := Lib.hid (show ∀ k, k ≤ 6000 → smB D k ≤ 6000000000 from fun k hk => Nat.le_trans (smB_le D k) (by omega))
  clear h1 h2
  go_wp2_with fail
  go_loopw [3, 4] (fun v i wr => ∃ k : Nat, k ≤ d.blocks.length ∧ i = .int .i64 k ∧ v = .int .i64 (smB D k) ∧ wr = wc) (fun _ i _ => d.blocks.length - (intOf i).toNat)
  case atStart => exact ⟨0, Nat.zero_le _, rfl, rfl, rfl⟩
  case round =>
  obtain ⟨k, hk, rfl, rfl, rfl⟩ := hrel
  by_cases hlt : k < d.blocks.length
  · obtain ⟨bb, bo, cb', e', -, z1, z2, z3, hbe⟩ := HQ.out.1.1.at_ (by omega)
    injection e' with ea _ ec
    subst ea ec
    obtain ⟨v, hv, hvb⟩ := hbe k (d.blocks.getD k []) (get_l _ _ _ hlt)
    obtain ⟨av, cv, rfl, -, hcv⟩ := hvb.form rfl
    unfold maxLen at hcv z3
    have hv' : wr.cell? ⟨bb, bo + k, none⟩ = some (.slice av (d.blocks.getD k []).length cv) := by simpa [rBytes] using hv
    have hps : smB D (k + 1) = smB D k + capB (d.blocks.getD k []) := by rw [smB_succ D k (by have := HL.out; omega), HDB.out k hlt]
    have hpt := HS.out k (by omega)
    have hcl := capB_le (d.blocks.getD k [])
    have hmin : min ((d.blocks.getD k []).length : Int) 1000000 = (capB (d.blocks.getD k []) : Int) := by unfold capB; omega
    have HPS := Lib.hid hps
    clear hps hv hvb hbe
    generalize capB (d.blocks.getD k []) = cy at *
    generalize (d.blocks.getD k []).length = y at *
    generalize smB D k = pk at *
    go_wp2
    go_roundw
    case rel => exact ⟨k + 1, by omega, by go_num, by rw [HPS.out]; go_num, trivial⟩
    case measure => simp [intOf]; omega
  obtain rfl : k = d.blocks.length := by omega
  clear hk hlt
  obtain ⟨V, hV⟩ : ∃ V, V = wr := ⟨_, rfl⟩
  subst hV
  go_wp2_with fail
  go_loopw [3, 5] (fun v i wr => ∃ k : Nat, k ≤ d.waits.length ∧ i = .int .i64 k ∧ v = .int .i64 (smB D (d.blocks.length + k)) ∧ wr = V) (fun _ i _ => d.waits.length - (intOf i).toNat)
  case atStart => exact ⟨0, Nat.zero_le _, rfl, rfl, rfl⟩
  case round =>
  obtain ⟨k, hk, rfl, rfl, rfl⟩ := hrel
  by_cases hlt : k < d.waits.length
  · obtain ⟨bb, bo, cb', e', -, z1, z2, z3, hbe⟩ := HQ.out.1.2.at_ (by omega)
    injection e' with ea _ ec
    subst ea ec
    obtain ⟨f0, f1, v, f2, f3⟩ := hbe k (d.waits.getD k ⟨0, []⟩) (get_l _ _ _ hlt)
    obtain ⟨av, cv, rfl, -, hcv⟩ := f3.form rfl
    unfold maxLen at hcv z3
    have hps : smB D (d.blocks.length + (k + 1)) = smB D (d.blocks.length + k) + capB (d.waits.getD k ⟨0, []⟩).data := by
      rw [← Nat.add_assoc, smB_succ D (d.blocks.length + k) (by have := HL.out; omega), HDW.out k hlt]
    have hpt := HS.out (d.blocks.length + k) (by omega)
    have hcl := capB_le (d.waits.getD k ⟨0, []⟩).data
    have hmin : min ((d.waits.getD k ⟨0, []⟩).data.length : Int) 1000000 = (capB (d.waits.getD k ⟨0, []⟩).data : Int) := by unfold capB; omega
    obtain ⟨y, hy⟩ : ∃ y, d.waits.getD k ⟨0, []⟩ = y := ⟨_, rfl⟩
    rw [hy] at f2 hps hcl hmin
    clear hy f0 f1 f3 hbe
    have HPS := Lib.hid hps
    clear hps
    obtain ⟨at_, dt⟩ := y
    simp [rWrite] at f2
    simp only at hcl hmin HPS
    generalize capB dt = cy at *
    generalize smB D (d.blocks.length + k) = pk at *
    go_wp2
    go_roundw
    case rel => exact ⟨k + 1, by omega, by go_num, by rw [HPS.out]; go_num, trivial⟩
    case measure => simp [intOf]; omega
  obtain rfl : k = d.waits.length := by omega
  have hsum : smB D (d.blocks.length + d.waits.length) = (D.map capB).sum := by
    rw [← HL.out]
    unfold smB
    rw [List.take_length]
  have hpt := HS.out (d.blocks.length + d.waits.length) (by omega)
  rw [hsum] at hpt ⊢
  have HSM := Lib.hid (sm_flat D)
  clear hsum
  generalize (D.map capB).sum = sm at *
  by_cases h5 : 800000 < sm
  · have i5 : (800000 : Int) < sm := by omega
    go_wp2
    go_ret
    exact ⟨true, rfl, HQ.out.2.1, fun h => by cases h⟩
  · have d5 : decide ((800000 : Int) < sm) = false := by simp; omega
    have hle : sm ≤ 800000 := by omega
    have HLE := Lib.hid hle
    clear hle h5
    go_wp2
    go_ret
    exact ⟨_, rfl, HQ.out.2.1, fun _ => ⟨h1', h2', by rw [HDD.out]; exact HSM.out HLE.out⟩⟩
end Go.Proofs.Ytldidclnfkmonaa

namespace Go.Proofs.Ytldidclnfkmonaa
open Go.RowKit

theorem errA_may {d : DiskL} (p : Int) (h : mayD d = true) : errA d p = if p < 0 ∨ 256 ≤ p then 2 else 0 := by
  unfold errA
  rw [if_pos h]
end Go.Proofs.Ytldidclnfkmonaa

namespace Go.Proofs.Ytldidclnfkmonaa
open Go.RowKit

set_option maxHeartbeats 1000000 in
/-- slices.Clone at slices of slices. -/
theorem rclone_any (v : Value) (l : List (List UInt8)) (w : World) (hI : Sl rBytes w 0 w.heap.size v l) (h0 : 0 < l.length) (hl : l.length ≤ 100000) :
    Calls Try.prog 79 #[v] w fun e w' => ∃ g cap cur, e = .returned (.slice (some ⟨g, 0, none⟩) l.length cap) ∧ w.heap.size ≤ g ∧ w'.heap[g]? = some (.cells cur 28 (0, 0)) ∧ l.length ≤ cap ∧ cap ≤ maxLen ∧
      (∀ i, i < l.length → ∃ x, cur[i]? = some x ∧ Bytes w 0 w.heap.size x (l.getD i [])) ∧ Below w.heap.size w w' := by
  obtain ⟨b, off, c, rfl, -, g0, g1, g2, g3⟩ := hI.at_ h0
  have hnil := fun (w : World) (a : Option Addr) (n c n' c' : Nat) => Lib.run_eql_slice_nil (P := Try.prog) w 36 28 a n c n' c' Try.underlying36
  obtain ⟨xs, hxl, hxa⟩ := list_of (n := l.length) (p := fun i (x : Value) => w.cell? ⟨b, off + i, none⟩ = some x ∧ Bytes w 0 w.heap.size x (l.getD i [])) (fun i hi => by
    obtain ⟨x, h1, h2⟩ := g3 i _ (get_l l [] i hi)
    exact ⟨x, by simpa [rBytes] using h1, h2⟩)
  obtain ⟨i0, hi0, hz0, hz1, hz2⟩ := info_parts (P := Try.prog) (e := 28) (z := .slice none 0 0) (size := 1) (bytes := 24) (by kernel_rfl)
  have hown : (w.alloc (.cells #[] 28)).ownsRow w.heap.size 28 1 (.slice (some ⟨w.heap.size, 0, none⟩) 0 0) 0 [] := ⟨rfl, .inr ⟨w.heap.size, 0, #[], rfl, Nat.le_refl _, World.alloc_heap_new w _, Nat.le_refl _, Nat.zero_le _, rfl, rfl⟩⟩
  have hb0 := (Below.refl w.heap.size w).alloc (Nat.le_refl _) (.cells #[] 28)
  have hcl : ∀ j u, xs[j]? = some u → (w.alloc (.cells #[] 28)).cell? ((⟨b, off, none⟩ : Addr).add j) = some u := by
    intro j u hu
    have e2 : (⟨b, off, none⟩ : Addr).add j = ⟨b, off + j, none⟩ := by unfold Addr.add; split <;> simp_all
    rw [e2]
    exact (hb0.cell (p := ⟨b, off + j, none⟩) g0).trans (hxa j u hu).1
  have hone : ∀ u ∈ xs, u.oneCell' = true := by
    intro u hu
    obtain ⟨j, hj⟩ := List.mem_iff_getElem?.1 hu
    obtain ⟨a, cc, rfl, -⟩ := (hxa j u hj).2
    rfl
  have HX := Lib.hid (And.intro hxl (And.intro hxa (And.intro hb0 (And.intro hcl hone))))
  clear hxl hxa hb0 hcl hone g3
  unfold maxLen at g2
  go_enter Try.func79, Try.ntmps79
  go_wp2_with (at_builtin; refine wpList_append_own _ rfl (.tmp 5) (.tmp 6) 36 rfl w.heap.size 28 i0 _ 1 24 Try.underlying36 hi0 hz0 hz1 hz2 rfl (by decide) _ 0 [] rfl hown ⟨b, off, none⟩ l.length c xs rfl (by rw [HX.out.1, Nat.mul_one]) HX.out.2.2.2.1 HX.out.2.2.2.2 (by unfold maxLen; omega) (by omega) (by simp) ?_; intro v' w1 hown1 hg1 _)
  obtain ⟨hl2, hrow⟩ := hown1
  rcases hrow with ⟨-, hz⟩ | ⟨g', cap, cur', rfl, hg', hh', hk1, hk2, hk3, hk4⟩
  · exfalso; omega
  have hB := HX.out.2.2.1.grown hg1 (by simp) (fun k e => by cases e; exact Nat.le_refl _)
  simp only [Nat.zero_add, List.nil_append] at *
  go_wp2
  go_ret
  refine ⟨g', cap, cur', rfl, hg', hh', hk1, hk2, fun i hi => ?_, hB⟩
  have hxi : xs[i]? = some (xs[i]'(by have := HX.out.1; omega)) := by simp
  refine ⟨_, ?_, (HX.out.2.1 i _ hxi).2⟩
  rw [← hxi, ← hk4, List.getElem?_take, if_pos (by omega)]
  simp

/-- Some writes are made to last. -/
def putW (bl : List (List UInt8)) (l : List WrL) : List (List UInt8) := l.foldl (fun bl x => bl.set x.at_.toNat x.data) bl
theorem putW_length (bl : List (List UInt8)) (l : List WrL) : (putW bl l).length = bl.length := by
  induction l generalizing bl with
  | nil => rfl
  | cons x l ih => show (putW (bl.set _ _) l).length = _; rw [ih, List.length_set]
theorem putW_snoc (bl : List (List UInt8)) (l : List WrL) (x : WrL) : putW bl (l ++ [x]) = (putW bl l).set x.at_.toNat x.data := by simp [putW]
theorem putW_take (bl : List (List UInt8)) (l : List WrL) (k : Nat) (h : k < l.length) : putW bl (l.take (k + 1)) = (putW bl (l.take k)).set (l.getD k ⟨0, []⟩).at_.toNat (l.getD k ⟨0, []⟩).data := by
  rw [List.take_add_one, List.getElem?_eq_getElem h]
  show putW bl (l.take k ++ [l[k]]) = _
  rw [putW_snoc]
  simp [h]
theorem putW_mem (bl : List (List UInt8)) (l : List WrL) (h1 : ∀ x ∈ bl, x.length = 128) (h2 : ∀ x ∈ l, x.data.length = 128) : ∀ x ∈ putW bl l, x.length = 128 := by
  induction l generalizing bl with
  | nil => exact h1
  | cons y l ih =>
    refine ih (bl.set _ _) (fun x hx => ?_) (fun x hx => h2 x (List.mem_cons_of_mem _ hx))
    rcases List.mem_or_eq_of_mem_set hx with hx | rfl
    · exact h1 x hx
    · exact h2 y (List.mem_cons_self ..)

theorem kp_two {lo hi r : Nat} (z : World) (a b : Value) (i : Nat) (h : r < lo) : Kp lo hi z ((z.setCell ⟨r, 0, none⟩ a).setCell ⟨r, i, none⟩ b) := fun k o h1 _ =>
  have e := (set_other _ r i b k (by omega)).trans (set_other z r 0 a k (by omega))
  ⟨heap_cell e o, heap_frozen e o⟩
theorem DiskT.keep {w w' : World} {lo hi : Nat} {b u : Value} {d : DiskL} (h : DiskT w lo hi b u d) (hk : Kp lo hi w w') : DiskT w' lo hi b u d := ⟨Sl.keep h.1 hk, Sl.keep h.2 hk⟩

set_option maxRecDepth 100000 in
set_option maxHeartbeats 1000000 in
/-- dev.settle. -/
theorem settle_any (b u : Value) (d : DiskL) (v : Value) (l : List WrL) (w : World) (h : DiskV w 0 w.heap.size b u d) (hv : Sl rWrite w 0 w.heap.size v l) (hm : mayD d = true) (hl : l.length ≤ 100000) (hlw : ∀ x ∈ l, 0 ≤ x.at_ ∧ x.at_ < 256 ∧ x.data.length = 128) :
    Calls Try.prog 59 #[.agg #[b, u], v] w fun e w' => ∃ b' u', e = .returned (.agg #[b', u']) ∧ MadeD w w' b' u' ⟨putW d.blocks l, []⟩ := by
  obtain ⟨hm1, hm2, hm3, hm4⟩ := may_len hm
  have hB := ((Below.refl w.heap.size w).alloc (Nat.le_refl _) (.cells #[b, u] 39)).alloc (by simp) (.cells #[.slice none 0 0, .slice none 0 0] 39)
  have hD := h.step ((Below.refl w.heap.size w).alloc (Nat.le_refl _) (.cells #[b, u] 39))
  have hD := hD.step ((Below.refl _ (w.alloc (.cells #[b, u] 39))).alloc (Nat.le_refl _) (.cells #[.slice none 0 0, .slice none 0 0] 39))
  have hq := two_new w (.cells #[b, u] 39) (.cells #[.slice none 0 0, .slice none 0 0] 39)
  have hcl := fun V hh => rclone_any b d.blocks V hh (by omega) (by omega)
  obtain ⟨ab, cb, rfl, g1, g2, -, -⟩ := h.1
  obtain ⟨au, cu, rfl, g1', g2', -, -⟩ := h.2
  obtain ⟨av, cv, rfl, y1, y2, -, -⟩ := id hv
  have hvW := hv.step ((Below.refl w.heap.size w).alloc (Nat.le_refl _) (.cells #[.slice ab d.blocks.length cb, .slice au d.waits.length cu] 39))
  have hvW := hvW.step ((Below.refl _ (w.alloc (.cells #[.slice ab d.blocks.length cb, .slice au d.waits.length cu] 39))).alloc (Nat.le_refl _) (.cells #[.slice none 0 0, .slice none 0 0] 39))
  unfold maxLen at g2 g2' y2
  clear h hv
  obtain ⟨W, hW⟩ : ∃ W, (w.alloc (.cells #[.slice ab d.blocks.length cb, .slice au d.waits.length cu] 39)).alloc (.cells #[.slice none 0 0, .slice none 0 0] 39) = W := ⟨_, rfl⟩
  rw [hW] at hB hD hq hvW
  have H0 := Lib.hid hvW
  clear hvW
  have HM := Lib.hid (And.intro hm1 (And.intro hm3 hlw))
  have HC := Lib.hid hcl
  have HQ := Lib.hid (And.intro hD (And.intro hB hq))
  have c0 := blk_cell hq.1 0
  have c1 := blk_cell hq.1 1
  simp at c0 c1
  clear hm1 hm2 hm3 hm4 hlw hcl hD hB hq hm
  go_enter Try.func59, Try.ntmps59
  go_wp2_with fail
  refine (HC.out W HQ.out.1.1).mono ?_
  rintro e w1 ⟨gr, cap, cur, rfl, hgr, hcur, hk1, hk2, hcv, hst⟩
  obtain ⟨hD, hB, q0, q1⟩ := HQ.out
  replace q0 := (hst.block _ (Array.getElem?_eq_some_iff.1 q0).1).trans q0
  replace q1 := (hst.block _ (Array.getElem?_eq_some_iff.1 q1).1).trans q1
  have hBW := hB
  replace hB := below_step hB hB.size hst
  clear c0 c1
  go_upto_region 2 with (fail)
  have q5 := World.alloc_heap_new w1 (.cells #[.slice (some ⟨gr, 0, none⟩) d.blocks.length cap, .slice none 0 0] 39)
  have hst2 := (Below.refl w1.heap.size w1).alloc (Nat.le_refl _) (.cells #[.slice (some ⟨gr, 0, none⟩) d.blocks.length cap, .slice none 0 0] 39)
  have hl1 := (Array.getElem?_eq_some_iff.1 q1).1
  replace q0 := (hst2.block _ (Array.getElem?_eq_some_iff.1 q0).1).trans q0
  replace q1 := (hst2.block _ (Array.getElem?_eq_some_iff.1 q1).1).trans q1
  have hlr := (Array.getElem?_eq_some_iff.1 hcur).1
  replace hcur := (hst2.block _ hlr).trans hcur
  replace hB := below_step hB hB.size hst2
  have hwW : w.heap.size + 1 < W.heap.size := by
    have := (Array.getElem?_eq_some_iff.1 HQ.out.2.2.2).1
    exact this
  have hBW2 := below_step hst hst.size hst2
  obtain ⟨w2, hw2⟩ : ∃ w2, w1.alloc (.cells #[.slice (some ⟨gr, 0, none⟩) d.blocks.length cap, .slice none 0 0] 39) = w2 := ⟨_, rfl⟩
  rw [hw2] at q5 q0 q1 hcur hB hBW2 ⊢
  obtain ⟨g5, hg5⟩ : ∃ g5, w1.heap.size = g5 := ⟨_, rfl⟩
  rw [hg5] at q5 hlr hl1 ⊢
  have HG := Lib.hid (show (gr ≠ g5 ∧ w.heap.size + 1 ≠ g5 ∧ w.heap.size + 1 ≠ gr ∧ w.heap.size ≤ gr ∧ W.heap.size ≤ gr ∧ w.heap.size + 1 < W.heap.size ∧ w.heap.size ≤ g5) from ⟨by omega, by omega, by omega, by omega, hgr, hwW, by omega⟩)
  have HQ2 := Lib.hid (And.intro q5 (And.intro hcur (And.intro q1 (And.intro hB hBW2))))
  have HV := Lib.hid (And.intro hcv (And.intro hk1 hk2))
  clear hw2 hg5 q5 q0 q1 hcur hB hst hst2 hBW hBW2 hlr hl1 hwW hgr hcv hD hW HQ HC
  go_wp2_with fail
  go_loopw [14] (fun i wr => ∃ (k : Nat) (cur : Array Value), k ≤ l.length ∧ i = .int .i64 k ∧ wr.heap[g5]? = some (.cells #[.slice (some ⟨gr, 0, none⟩) d.blocks.length cap, .slice none 0 0] 39 (0, 0)) ∧ wr.heap[gr]? = some (.cells cur 28 (0, 0)) ∧ wr.heap[w.heap.size + 1]? = some (.cells #[.slice none 0 0, .slice none 0 0] 39 (0, 0)) ∧ Below w.heap.size w wr ∧ Below W.heap.size W wr ∧
    ∀ i, i < d.blocks.length → ∃ x, cur[i]? = some x ∧ Bytes wr 0 W.heap.size x ((putW d.blocks (l.take k)).getD i [])) (fun i _ => l.length - (intOf i).toNat)
  case atStart => exact ⟨0, cur, Nat.zero_le _, rfl, HQ2.out.1, HQ2.out.2.1, HQ2.out.2.2.1, HQ2.out.2.2.2.1, HQ2.out.2.2.2.2, fun i hi => by
    obtain ⟨x, h1, h2⟩ := HV.out.1 i hi
    exact ⟨x, h1, by simpa [putW] using h2.below HQ2.out.2.2.2.2 (Nat.le_refl _)⟩⟩
  case round =>
  obtain ⟨k, cur2, hk, rfl, q5, qr, q1, hB, hBW, hcv⟩ := hrel
  by_cases hlt : k < l.length
  · obtain ⟨bb, bo, cb', e', -, z1, z2, z3, hbe⟩ := (H0.out.below hBW (Nat.le_refl _)).at_ (by omega)
    injection e' with ea _ ec
    subst ea ec
    obtain ⟨f0, f1, x, f2, f3⟩ := hbe k (l.getD k ⟨0, []⟩) (get_l _ _ _ hlt)
    obtain ⟨ya, yc, rfl, -, hyc⟩ := f3.form rfl
    have hx := HM.out.2.2 _ (List.mem_of_getElem? (get_l l ⟨0, []⟩ k hlt))
    have hput := putW_take d.blocks l k hlt
    obtain ⟨y, hy⟩ : ∃ y, l.getD k ⟨0, []⟩ = y := ⟨_, rfl⟩
    rw [hy] at f0 f1 f2 hx hput f3
    clear hy hbe
    obtain ⟨at0, dt⟩ := y
    obtain ⟨at_, rfl⟩ : ∃ at_ : Nat, at0 = at_ := ⟨at0.toNat, by have := hx.1; simp only at this; omega⟩
    simp [rWrite] at f0 f2
    have hat : at_ < d.blocks.length := by have := HM.out.1; have := hx.2.1; simp only at this; omega
    unfold maxLen at z3 hyc
    obtain ⟨old, hold, -⟩ := hcv at_ hat
    have d0 := blk_cell q5 0
    have cr := (blk_cell qr at_).trans hold
    have fr := blk_frozen qr at_
    simp at d0
    have hlt5 := (Array.getElem?_eq_some_iff.1 q5).1
    have hltr := (Array.getElem?_eq_some_iff.1 qr).1
    have HP := Lib.hid (And.intro q5 (And.intro qr (And.intro q1 (And.intro hB (And.intro hBW (And.intro hcv (And.intro hx (And.intro hput f3))))))))
    clear q5 qr q1 hB hBW hcv hx hput hold f1 f3
    go_wp2_with fail
    go_roundw
    case rel =>
      obtain ⟨q5, qr, q1, hB, hBW, hcv, hx, hput, f3⟩ := HP.out
      have hG := HG.out
      have hset := set_block qr at_ (.slice ya dt.length yc)
      have hoth := set_other wr gr at_ (.slice ya dt.length yc)
      have hszz : (wr.setCell ⟨gr, at_, none⟩ (.slice ya dt.length yc)).heap.size = wr.heap.size := World.size_setCell _ _ _
      have hBz := hB.setCell (p := ⟨gr, at_, none⟩) (by show w.heap.size ≤ gr; omega) (.slice ya dt.length yc)
      have hBWz := hBW.setCell (p := ⟨gr, at_, none⟩) (by show W.heap.size ≤ gr; omega) (.slice ya dt.length yc)
      have hst : Below W.heap.size wr (wr.setCell ⟨gr, at_, none⟩ (.slice ya dt.length yc)) := (Below.refl _ _).setCell (p := ⟨gr, at_, none⟩) (by show W.heap.size ≤ gr; omega) _
      obtain ⟨wz, hwz⟩ : ∃ wz, wr.setCell ⟨gr, at_, none⟩ (.slice ya dt.length yc) = wz := ⟨_, rfl⟩
      rw [hwz] at hset hoth hBz hBWz hszz hst ⊢
      have hWs := hBW.size
      have hal := fun x hx => Below.heap_alloc wz (.cells #[.int .i64 (at_ : Int), .slice ya dt.length yc] 74) x hx
      have hst2 := hst.alloc (by omega) (.cells #[.int .i64 (at_ : Int), .slice ya dt.length yc] 74)
      have hat0 : at_ < (putW d.blocks (l.take k)).length := by rw [putW_length]; exact hat
      refine ⟨k + 1, _, by omega, by go_num, (hal _ (by omega)).trans ((hoth _ (by omega)).trans q5), (hal _ (by omega)).trans hset, (hal _ (by omega)).trans ((hoth _ (by omega)).trans q1), hBz.alloc hBz.size _, hBWz.alloc hBWz.size _, fun i hi => ?_⟩
      rw [hput]
      simp only [Int.toNat_natCast]
      rcases Decidable.em (at_ = i) with rfl | hne
      · have hsz := (Array.getElem?_eq_some_iff.1 ((blk_cell qr at_).symm.trans cr)).1
        refine ⟨.slice ya dt.length yc, by rw [Array.getElem?_setIfInBounds_self_of_lt hsz], ?_⟩
        rw [List.getD_eq_getElem?_getD, List.getElem?_set_self hat0]
        exact f3.below hst2 (Nat.le_refl _)
      · obtain ⟨x, h1, h2⟩ := hcv i hi
        refine ⟨x, by rw [Array.getElem?_setIfInBounds_ne hne]; exact h1, ?_⟩
        rw [List.getD_eq_getElem?_getD, List.getElem?_set_ne hne, ← List.getD_eq_getElem?_getD]
        exact h2.below hst2 (Nat.le_refl _)
    case measure => simp [intOf]; omega
  obtain rfl : k = l.length := by omega
  have d0 := blk_cell q5 0
  have d1 := blk_cell q5 1
  simp at d0 d1
  rw [List.take_length] at hcv
  have hpl : (putW d.blocks l).length = d.blocks.length := putW_length _ _
  have hDp : DiskV wr 0 wr.heap.size (.slice (some ⟨gr, 0, none⟩) d.blocks.length cap) (.slice none 0 0) ⟨putW d.blocks l, []⟩ := by
    refine ⟨⟨_, _, by rw [hpl], by rw [hpl]; exact HV.out.2.1, HV.out.2.2, fun _ => ⟨gr, 0, rfl, Nat.zero_le _, (Array.getElem?_eq_some_iff.1 qr).1, fun i x hx => ?_⟩, fun h => by cases h⟩, Sl.nil_ _ _ _⟩
    have hi : i < d.blocks.length := by rw [← hpl]; exact (List.getElem?_eq_some_iff.1 hx).1
    obtain ⟨y, h1, h2⟩ := hcv i hi
    rw [List.getD_eq_getElem?_getD, hx] at h2
    refine ⟨y, ?_, h2.more (Nat.le_refl _) hBW.size⟩
    show wr.cell? ⟨gr, 0 + i * 1 + 0, none⟩ = _
    rw [blk_cell qr, Nat.zero_add, Nat.mul_one, Nat.add_zero]
    exact h1
  have hTT : (datD ⟨putW d.blocks l, []⟩).flatten.length ≤ 100000000 := dat_le (by show (putW d.blocks l).length ≤ 300; rw [hpl, HM.out.1]; omega) (by simp) (fun x hx => Nat.le_of_eq (putW_mem _ _ HM.out.2.1 (fun x hx => (HM.out.2.2 x hx).2.2) x hx)) (fun x hx => by cases hx)
  have r0 := blk_cell q1 0
  have r1 := blk_cell q1 1
  simp at r0 r1
  have HZ := Lib.hid (And.intro q1 (And.intro hDp (And.intro hTT (And.intro hB hpl))))
  clear q5 qr q1 hB hBW hcv hpl hDp hTT hk hlt
  go_wp2_with fail
  have htw := dtwin_any (.slice (some ⟨gr, 0, none⟩) d.blocks.length cap) (.slice none 0 0) ⟨putW d.blocks l, []⟩ wr HZ.out.2.1 (by show (putW d.blocks l).length ≤ _; rw [HZ.out.2.2.2.2, HM.out.1]; omega) (by simp) HZ.out.2.2.1
  refine htw.mono ?_
  rintro e z ⟨gb, gw, g, cw, rfl, htw, hst⟩
  have p1 := (hst.block _ (Array.getElem?_eq_some_iff.1 HZ.out.1).1).trans HZ.out.1
  have r0' := blk_cell p1 0
  have r1' := blk_cell p1 1
  have f0' := blk_frozen p1 0
  have f1' := blk_frozen p1 1
  simp at r0' r1'
  have HT := Lib.hid (And.intro htw hst)
  clear r0 r1 d0 d1 htw hst p1
  go_wp2
  refine bodyPost_ret (v := .agg #[.slice (some ⟨gb, 0, none⟩) (putW d.blocks l).length (putW d.blocks l).length, .slice (some ⟨gw, 0, none⟩) 0 1]) (by simp [results, Try.results59, go_sem, r0', r1']) rfl ?_
  obtain ⟨q1, hDp, hTT, hB, hpl⟩ := HZ.out
  obtain ⟨htw, hst⟩ := HT.out
  have hdk := htw.disk hTT (by show (putW d.blocks l).length ≤ _; rw [hpl, HM.out.1]; omega) (by simp)
  have hlt := (Array.getElem?_eq_some_iff.1 q1).1
  have hBf := ((below_step hB hB.size hst).setCell (p := ⟨w.heap.size + 1, 0, none⟩) (Nat.le_succ _) (.slice (some ⟨gb, 0, none⟩) (putW d.blocks l).length (putW d.blocks l).length)).setCell (p := ⟨w.heap.size + 1, 1, none⟩) (Nat.le_succ _) (.slice (some ⟨gw, 0, none⟩) 0 1)
  refine ⟨_, _, rfl, (hdk.keep (kp_two z _ _ _ hlt)).more hB.size (by rw [World.size_setCell, World.size_setCell]; exact Nat.le_refl _), hBf⟩
end Go.Proofs.Ytldidclnfkmonaa

namespace Go.Proofs.Ytldidclnfkmonaa
open Go.RowKit

def errC (d : DiskL) : Int := if mayD d then 0 else 8
/-- A disk behind a barrier. -/
def barD (d : DiskL) : DiskL := if mayD d then ⟨putW d.blocks d.waits, []⟩ else ⟨[], []⟩

set_option maxRecDepth 100000 in
set_option maxHeartbeats 1000000 in
/-- dev.Barrier. -/
theorem dbar_any (b u : Value) (d : DiskL) (w : World) (h : DiskV w 0 w.heap.size b u d) :
    Calls Try.prog 26 #[.agg #[b, u]] w fun e w' => ∃ b' u', e = .returned (.tuple #[.agg #[b', u'], .int .i64 (errC d)]) ∧ MadeD w w' b' u' (barD d) := by
  have hB := ((Below.refl w.heap.size w).alloc (Nat.le_refl _) (.cells #[b, u] 39)).alloc (by simp) (.cells #[.slice none 0 0, .slice none 0 0] 39)
  have hD : DiskV _ 0 _ b u d := h.step hB
  have hq := two_new w (.cells #[b, u] 39) (.cells #[.slice none 0 0, .slice none 0 0] 39)
  have h1 := fun V hh => dcheck_any b u d V hh
  have h2 := fun V (hh : DiskV V 0 V.heap.size b u d) (hm : mayD d = true) => settle_any b u d u d.waits V hh hh.2 hm (by have := (may_len hm).2.1; omega) (may_len hm).2.2.2
  obtain ⟨ab, cb, rfl, g1, g2, -, -⟩ := h.1
  obtain ⟨au, cu, rfl, g1', g2', -, -⟩ := h.2
  unfold maxLen at g2 g2'
  clear h
  obtain ⟨W, hW⟩ : ∃ W, (w.alloc (.cells #[.slice ab d.blocks.length cb, .slice au d.waits.length cu] 39)).alloc (.cells #[.slice none 0 0, .slice none 0 0] 39) = W := ⟨_, rfl⟩
  rw [hW] at hB hD hq
  have c0 := blk_cell hq.1 0
  have c1 := blk_cell hq.1 1
  simp at c0 c1
  have HQ := Lib.hid (And.intro hD (And.intro hB hq))
  obtain ⟨ec, hec⟩ : ∃ ec, errC d = ec := ⟨_, rfl⟩
  obtain ⟨bd, hbd⟩ : ∃ bd, barD d = bd := ⟨_, rfl⟩
  rw [hec, hbd]
  have HE := Lib.hid (And.intro hec hbd)
  have HC := Lib.hid (And.intro h1 h2)
  clear hB hD hq h1 h2 hec hbd
  go_enter Try.func26, Try.ntmps26
  go_wp2_with fail
  refine (HC.out.1 W HQ.out.1).mono ?_
  rintro e w1 ⟨rfl, hst⟩
  obtain ⟨hD, hB, q0, q1⟩ := HQ.out
  replace q0 := (hst.block _ (Array.getElem?_eq_some_iff.1 q0).1).trans q0
  replace q1 := (hst.block _ (Array.getElem?_eq_some_iff.1 q1).1).trans q1
  replace hD := hD.step hst
  replace hB := below_step hB hB.size hst
  clear c0 c1
  have c0 := blk_cell q0 0
  have c1 := blk_cell q0 1
  have r0 := blk_cell q1 0
  have r1 := blk_cell q1 1
  have f0 := blk_frozen q1 0
  have f1 := blk_frozen q1 1
  simp at c0 c1 r0 r1
  have HQ1 := Lib.hid (And.intro hD (And.intro hB (And.intro q0 q1)))
  clear hD hB q0 q1 hst HQ
  cases hmay : mayD d
  case false =>
    have hw : ec = 8 ∧ bd = ⟨[], []⟩ := by
      obtain ⟨h1, h2⟩ := HE.out
      rw [← h1, ← h2]
      unfold errC barD
      rw [hmay]
      exact ⟨rfl, rfl⟩
    obtain ⟨rfl, rfl⟩ := hw
    clear hmay
    go_wp2
    refine bodyPost_ret (v := .tuple #[.agg #[.slice none 0 0, .slice none 0 0], .int .i64 8]) (by simp [results, Try.results26, go_sem, r0, r1]) rfl ⟨_, _, rfl, MadeD.nil_ ((HQ1.out.2.1.setCell (p := ⟨w.heap.size + 1, 0, none⟩) (Nat.le_succ _) _).setCell (p := ⟨w.heap.size + 1, 1, none⟩) (Nat.le_succ _) _)⟩
  have hw : ec = 0 ∧ bd = ⟨putW d.blocks d.waits, []⟩ := by
    obtain ⟨h1, h2⟩ := HE.out
    rw [← h1, ← h2]
    unfold errC barD
    rw [hmay]
    exact ⟨rfl, rfl⟩
  obtain ⟨rfl, rfl⟩ := hw
  have HM := Lib.hid hmay
  clear hmay
  go_wp2_with fail
  refine (HC.out.2 w1 HQ1.out.1 HM.out).mono ?_
  rintro e z ⟨b', u', rfl, hm⟩
  have hst := hm.below
  obtain ⟨ab', cb', rfl, -, -, -, -⟩ := hm.disk.1
  obtain ⟨au', cu', rfl, -, -, -, -⟩ := hm.disk.2
  have p1 := (hst.block _ (Array.getElem?_eq_some_iff.1 HQ1.out.2.2.2).1).trans HQ1.out.2.2.2
  have r0' := blk_cell p1 0
  have r1' := blk_cell p1 1
  have f0' := blk_frozen p1 0
  have f1' := blk_frozen p1 1
  simp at r0' r1'
  have HT := Lib.hid hm
  clear r0 r1 c0 c1 f0 f1 hst p1 hm
  generalize (DiskL.mk (putW d.blocks d.waits) []).blocks.length = n1 at *
  generalize (DiskL.mk (putW d.blocks d.waits) []).waits.length = n2 at *
  go_wp2
  refine bodyPost_ret (v := .tuple #[.agg #[.slice ab' n1 cb', .slice au' n2 cu'], .int .i64 0]) (by simp [results, Try.results26, go_sem, r0', r1']) rfl ?_
  have hB := HQ1.out.2.1
  have hlt := (Array.getElem?_eq_some_iff.1 HQ1.out.2.2.2).1
  have hBf := ((below_step hB hB.size HT.out.below).setCell (p := ⟨w.heap.size + 1, 0, none⟩) (Nat.le_succ _) (.slice ab' n1 cb')).setCell (p := ⟨w.heap.size + 1, 1, none⟩) (Nat.le_succ _) (.slice au' n2 cu')
  exact ⟨_, _, rfl, (HT.out.disk.keep (kp_two z _ _ _ hlt)).more hB.size (by rw [World.size_setCell, World.size_setCell]; exact Nat.le_refl _), hBf⟩
end Go.Proofs.Ytldidclnfkmonaa

