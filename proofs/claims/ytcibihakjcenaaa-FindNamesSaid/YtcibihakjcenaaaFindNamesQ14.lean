/- FindNames: the words and contracts, part 14. -/
import Derived.Test.YtcibihakjcenaaaFindNamesQ1
import Derived.Test.YtcibihakjcenaaaFindNamesQ2
import Derived.Test.YtcibihakjcenaaaFindNamesQ3
import Derived.Test.YtcibihakjcenaaaFindNamesQ4
import Derived.Test.YtcibihakjcenaaaFindNamesQ5
import Derived.Test.YtcibihakjcenaaaFindNamesQ6
import Derived.Test.YtcibihakjcenaaaFindNamesQ7
import Derived.Test.YtcibihakjcenaaaFindNamesQ8
import Derived.Test.YtcibihakjcenaaaFindNamesQ9
import Derived.Test.YtcibihakjcenaaaFindNamesQ10
import Derived.Test.YtcibihakjcenaaaFindNamesQ11
import Derived.Test.YtcibihakjcenaaaFindNamesQ12
import Derived.Test.YtcibihakjcenaaaFindNamesQ13
import Derived.WalkKit
import Derived.WalkLawsBesides
import Derived.WalkSpells
import Derived.Lib.Hide
import Derived.Laws.Rows
import Derived.Laws.AppendOwnNone
import Derived.Maps.AppendAt
import Derived.ProofKit
import Derived.Deep.Slices
import Derived.WideShapes
import Derived.RangeFuncNested
import Derived.RangeFuncBound
import Derived.RangeFuncCalls
import Derived.RangeFuncLeaves
import Derived.RangeFuncBox
import Derived.Shelf.Abstract
import Derived.Shelf.RegionOpen
import Derived.OwnWalkIn
import Derived.TacticsInMore
import Derived.LoopNIn
import Derived.LoopIn
import Derived.Lib.AppendZerosOnto
import Derived.Lib.SliceRun
import Derived.Lib.Walk
import Derived.Deep.LoopGhost
import Derived.Laws.CopyOwn
import Derived.Laws.CopyRow
import Derived.OrdersHeld
import Derived.Deep.QuietTactic
import Derived.BigQuiet
import Derived.StillTailTactics
import Derived.OpenShut
import Derived.Deep.DeepCutAuto
import Derived.Laws.MakeOwn
import Derived.Deep.RegionHeld
import Derived.KernelRfl
import Derived.BigFrameIn
import Derived.OrdersIn
import Derived.Laws.EntriesVeiled
namespace Go.Proofs.Ytcibihakjcenaaa
open Go.RowKit

/-- A node's items may be a tree's. -/
def topOk (s : StoreL) (n : NodeL) : Bool := n.items.isEmpty || (wkGo (oneW s n.level.toNat) none n.items).isSome
/-- What is wrong with a tree. -/
def errCk (s : StoreL) (p : Int) : Int := if errAs s p ≠ 0 then errAs s p else if errBn s p.toNat ≠ 0 then errBn s p.toNat else if topOk s (nodeB s p.toNat) then 0 else 8
/-- A tree's height. -/
def heiC (s : StoreL) (p : Int) : Int := if errCk s p = 0 then (nodeB s p.toNat).level + 1 else 0
def fndC (s : StoreL) (p : Int) (k : KeyL) : Option ItemL := fndW s (nodeB s p.toNat).level.toNat (nodeB s p.toNat) k
def errFd (s : StoreL) (p : Int) (k : KeyL) : Int := if errCk s p ≠ 0 then errCk s p else if (fndC s p k).isSome then 0 else 6
def itmF (s : StoreL) (p : Int) (k : KeyL) : ItemL := if errFd s p k = 0 then (fndC s p k).getD nokI else nokI
theorem errBn_zero {s : StoreL} {p : Nat} (h : errBn s p = 0) : s.now.getD p 0 ≠ 0 ∧ errNd (seenD s.disk p) = 0 ∧ nodeB s p = readNd (seenD s.disk p) := by
  have h0 := h
  unfold errBn at h
  by_cases h1 : s.now.getD p 0 = 0
  · rw [if_pos h1] at h; cases h
  rw [if_neg h1] at h
  by_cases h2 : errNd (seenD s.disk p) = 0
  · exact ⟨h1, h2, by unfold nodeB; rw [if_pos h0]⟩
  · rw [if_neg h2] at h; cases h
theorem errBn_of {s : StoreL} {p : Nat} (h1 : s.now.getD p 0 ≠ 0) (h2 : errNd (seenD s.disk p) = 0) : errBn s p = 0 := by unfold errBn; rw [if_neg h1, if_pos h2]
/-- A tree that may be. -/
structure TreeIs (s : StoreL) (p : Int) (l : Nat) : Prop where
  may : mayS s = true
  lo : 8 ≤ p
  hi : p < 256
  err : errBn s p.toNat = 0
  node : mayN (nodeB s p.toNat) = true
  level : (nodeB s p.toNat).level = (l : Int)
  lev : l < 6
  top : ((nodeB s p.toNat).items = [] ∧ l = 0) ∨ ∃ r, wkGo (oneW s l) none (nodeB s p.toNat).items = some r
theorem errCk_zero {s : StoreL} {p : Int} (h : errCk s p = 0) : TreeIs s p (nodeB s p.toNat).level.toNat := by
  unfold errCk at h
  by_cases h1 : errAs s p = 0
  case neg => rw [if_pos h1] at h; exact absurd h h1
  rw [if_neg (by simp [h1])] at h
  by_cases h2 : errBn s p.toNat = 0
  case neg => rw [if_pos h2] at h; exact absurd h h2
  rw [if_neg (by simp [h2])] at h
  by_cases h3 : topOk s (nodeB s p.toNat) = true
  case neg => rw [if_neg h3] at h; cases h
  obtain ⟨a1, a2, a3, -⟩ := errAs_zero h1
  have hm := nodeB_may h2
  obtain ⟨⟨m1, m2⟩, m3, m4, -⟩ := mayN_all hm
  have hl : (nodeB s p.toNat).level = ((nodeB s p.toNat).level.toNat : Int) := by omega
  refine ⟨a1, a2, a3, h2, hm, hl, by omega, ?_⟩
  unfold topOk at h3
  rw [Bool.or_eq_true] at h3
  rcases h3 with h3 | h3
  · refine .inl ⟨List.isEmpty_iff.1 h3, ?_⟩
    rcases m4 with m4 | m4
    · omega
    · rw [List.isEmpty_iff.1 h3] at m4; exact absurd rfl m4
  · exact .inr (Option.isSome_iff_exists.1 h3)
theorem ref_of {s : StoreL} {l : Nat} {x : ItemL} {ab : KeyL × KeyL} (hm : mayS s = true) (h : oneW s (l + 1) x = some ab) (hr : x.ref = 0 ∨ (8 ≤ x.ref ∧ x.ref < 256)) : 8 ≤ x.ref ∧ x.ref < 256 := by
  rcases hr with hr | hr
  case inr => exact hr
  exfalso
  obtain ⟨e1, -, -, -⟩ := oneW_succ h
  obtain ⟨a1, -, -⟩ := errBn_zero e1
  have hT := (mayS_iff.1 hm).2.1
  unfold mayT at hT
  rw [Bool.and_eq_true, beq_iff_eq, beq_iff_eq] at hT
  rw [hr] at a1
  refine a1 ?_
  obtain ⟨t1, t2⟩ := hT
  cases hn : s.now with
  | nil => rfl
  | cons a L =>
    rw [hn] at t2
    have := ((maxL_zero _).1 t2) a (by simp)
    simpa using this
/-- Stores alike where one is referred to. -/
structure SameAt (s t : StoreL) : Prop where
  may : mayS t = true
  now : ∀ q, s.now.getD q 0 ≠ 0 → t.now.getD q 0 ≠ 0
  seen : ∀ q : Nat, s.now.getD q 0 ≠ 0 → seenD t.disk q = seenD s.disk q
theorem SameAt.node {s t : StoreL} (h : SameAt s t) {q : Nat} (he : errBn s q = 0) : errBn t q = 0 ∧ nodeB t q = nodeB s q := by
  obtain ⟨a1, a2, a3⟩ := errBn_zero he
  have h1 : errBn t q = 0 := errBn_of (h.now q a1) (by rw [h.seen q a1]; exact a2)
  exact ⟨h1, by rw [(errBn_zero h1).2.2, h.seen q a1, a3]⟩
theorem SameAt.find {s t : StoreL} (h : SameAt s t) : ∀ (l : Nat) (n : NodeL) (k : KeyL), (l = 0 ∨ ∃ r, wkGo (oneW s l) none n.items = some r) → fndW t l n k = fndW s l n k
  | 0, n, k, _ => by rw [fndW, fndW]
  | l + 1, n, k, ht => by
    obtain ⟨r, hr⟩ := ht.resolve_left (by omega)
    have key : ∀ j, j < n.items.length → fndW t l (nodeB t (n.items.getD j nokI).ref.toNat) k = fndW s l (nodeB s (n.items.getD j nokI).ref.toNat) k := fun j hj => by
      have hx : n.items.getD j nokI ∈ n.items := by
        rw [List.getD_eq_getElem?_getD, List.getElem?_eq_getElem hj]
        exact List.getElem_mem hj
      obtain ⟨ab, ho⟩ := wkGo_each _ _ _ _ hr _ hx
      obtain ⟨e1, e2, e3, e4⟩ := oneW_succ ho
      rw [(h.node e1).2]
      exact h.find l _ k (.inr ⟨ab, e4⟩)
    rw [fndW, fndW]
    by_cases hi : isN n.items k = true
    · rw [if_pos hi, if_pos hi]
      refine key _ ?_
      unfold isN at hi
      rw [Bool.and_eq_true, decide_eq_true_eq] at hi
      exact hi.1
    · rw [if_neg hi, if_neg hi]
      by_cases h0 : cntN n.items k = 0
      · rw [if_pos h0, if_pos h0]
      · rw [if_neg h0, if_neg h0]
        exact key _ (by have := cntN_le n.items k; omega)
end Go.Proofs.Ytcibihakjcenaaa

namespace Go.Proofs.Ytcibihakjcenaaa
open Go.RowKit

theorem fwalk_any : ∀ L, WalkC L
  | 0 => fwalk_step 0 fun _ h => by omega
  | L + 1 => fwalk_step (L + 1) fun L' h => by
    obtain rfl : L' = L := by omega
    exact fwalk_any _
theorem check_ways (s : StoreL) (p : Int) : (errS s = 8 ∧ errCk s p = 8 ∧ heiC s p = 0) ∨ (errS s = 0 ∧ mayS s = true ∧ (((p < 8 ∨ 256 ≤ p) ∧ errCk s p = 2 ∧ heiC s p = 0) ∨ ∃ pn : Nat, p = pn ∧ 8 ≤ pn ∧ pn < 256 ∧
    ((s.now.getD pn 0 = 0 ∧ errCk s p = 6 ∧ heiC s p = 0) ∨ (s.now.getD pn 0 ≠ 0 ∧ ((errBn s pn = 8 ∧ errCk s p = 8 ∧ heiC s p = 0) ∨ (errBn s pn = 0 ∧ ∃ (l : Nat) (its : List ItemL), nodeB s pn = ⟨l, its⟩ ∧ mayN ⟨l, its⟩ = true ∧
      ((its.length = 0 ∧ errCk s p = 0 ∧ heiC s p = (l : Int) + 1) ∨ (its.length ≠ 0 ∧ ((wkGo (oneW s l) none its = none ∧ errCk s p = 8 ∧ heiC s p = 0) ∨ ((∃ r, wkGo (oneW s l) none its = some r) ∧ errCk s p = 0 ∧ heiC s p = (l : Int) + 1)))))))))) := by
  have hz : ∀ e : Int, e ≠ 0 → errCk s p = e → errCk s p = e ∧ heiC s p = 0 := fun e h1 h2 => ⟨h2, by unfold heiC; rw [h2, if_neg h1]⟩
  cases hm : mayS s with
  | false =>
    have h : errAs s p = 8 := by unfold errAs; rw [hm]; rfl
    exact .inl ⟨by unfold errS; rw [hm]; rfl, hz 8 (by decide) (by unfold errCk; rw [h, if_pos (by decide)])⟩
  | true =>
    refine .inr ⟨by unfold errS; rw [hm]; rfl, rfl, ?_⟩
    by_cases h1 : p < 8 ∨ 256 ≤ p
    · have h : errAs s p = 2 := by unfold errAs; rw [hm, if_pos rfl, if_pos h1]
      exact .inl ⟨h1, hz 2 (by decide) (by unfold errCk; rw [h, if_pos (by decide)])⟩
    obtain ⟨pn, rfl⟩ : ∃ pn : Nat, p = pn := ⟨p.toNat, by omega⟩
    refine .inr ⟨pn, rfl, by omega, by omega, ?_⟩
    by_cases h2 : s.now.getD pn 0 = 0
    · have h : errAs s (pn : Int) = 6 := by unfold errAs; rw [hm, if_pos rfl, if_neg h1, Int.toNat_natCast, if_pos h2]
      exact .inl ⟨h2, hz 6 (by decide) (by unfold errCk; rw [h, if_pos (by decide)])⟩
    have h : errAs s (pn : Int) = 0 := by unfold errAs; rw [hm, if_pos rfl, if_neg h1, Int.toNat_natCast, if_neg h2]
    refine .inr ⟨h2, ?_⟩
    by_cases h3 : errBn s pn = 0
    case neg =>
      have h4 : errBn s pn = 8 := by
        unfold errBn at h3 ⊢
        rw [if_neg h2] at h3 ⊢
        by_cases h5 : errNd (seenD s.disk pn) = 0
        · rw [if_pos h5] at h3; exact absurd rfl h3
        · rw [if_neg h5]
      exact .inl ⟨h4, hz 8 (by decide) (by unfold errCk; rw [h, if_neg (by decide), Int.toNat_natCast, h4, if_pos (by decide)])⟩
    have hn := nodeB_may h3
    have hl := (mayN_all hn).1
    refine .inr ⟨h3, (nodeB s pn).level.toNat, (nodeB s pn).items, ?_, ?_, ?_⟩
    · cases hh : nodeB s pn with
      | mk a b => rw [hh] at hl; simp only at hl ⊢; rw [show ((a.toNat : Nat) : Int) = a by omega]
    · rw [show (((nodeB s pn).level.toNat : Nat) : Int) = (nodeB s pn).level by omega]; exact hn
    have hc : errCk s (pn : Int) = if topOk s (nodeB s pn) then 0 else 8 := by unfold errCk; rw [h, if_neg (by decide), Int.toNat_natCast, h3, if_neg (by decide)]
    have hy : errCk s (pn : Int) = 0 → heiC s (pn : Int) = (((nodeB s pn).level.toNat : Nat) : Int) + 1 := fun e => by unfold heiC; rw [e, if_pos rfl, Int.toNat_natCast]; omega
    by_cases h4 : (nodeB s pn).items.length = 0
    · have e : errCk s (pn : Int) = 0 := by
        rw [hc]
        unfold topOk
        rw [List.length_eq_zero_iff.1 h4]
        rfl
      exact .inl ⟨h4, e, hy e⟩
    refine .inr ⟨h4, ?_⟩
    have hie : (nodeB s pn).items.isEmpty = false := by
      cases hh : (nodeB s pn).items with
      | nil => rw [hh] at h4; exact absurd rfl h4
      | cons a b => rfl
    cases hw : wkGo (oneW s (nodeB s pn).level.toNat) none (nodeB s pn).items with
    | none =>
      have e : errCk s (pn : Int) = 8 := by
        rw [hc]; unfold topOk; rw [hw, hie]; rfl
      exact .inl ⟨rfl, hz 8 (by decide) e⟩
    | some r =>
      have e : errCk s (pn : Int) = 0 := by
        rw [hc]; unfold topOk; rw [hw, hie]; rfl
      exact .inr ⟨⟨r, rfl⟩, e, hy e⟩
set_option maxRecDepth 100000 in
set_option maxHeartbeats 2000000 in
theorem fcheck_any (b_s u_s x_s y_s : Value) (s : StoreL) (p : Int) (w : World) (h_s : StoreV w 0 w.heap.size b_s u_s x_s y_s s) :
    Calls Try.prog 27 #[.agg #[b_s, u_s, x_s, y_s], .int .i64 p] w fun e w' => e = .returned (.tuple #[.int .i64 (heiC s p), .int .i64 (errCk s p)]) ∧ Below w.heap.size w w' := by
  obtain ⟨ab_s, cb_s, rfl, gb_s, gc_s, -, -⟩ := h_s.1.1
  obtain ⟨au_s, cu_s, rfl, gu_s, gv_s, -, -⟩ := h_s.1.2
  obtain ⟨ax_s, cx_s, rfl, gx_s, gz_s⟩ := h_s.2.1.form rfl
  obtain ⟨ay_s, cy_s, rfl, gy_s, gw_s⟩ := h_s.2.2.form rfl
  unfold maxLen at gc_s gv_s gz_s gw_s
  have hst := ((Below.refl w.heap.size w).alloc (Nat.le_refl _) (.cells #[.slice ab_s s.disk.blocks.length cb_s, .slice au_s s.disk.waits.length cu_s, .slice ax_s s.now.length cx_s, .slice ay_s s.last.length cy_s] 46))
  have q_s := LK.new w (.cells #[.slice ab_s s.disk.blocks.length cb_s, .slice au_s s.disk.waits.length cu_s, .slice ax_s s.now.length cx_s, .slice ay_s s.last.length cy_s] 46)
  have hB : LW w _ := hst
  have O_s := (LO.of h_s (Nat.le_refl _)).step hst
  have sz_V : w.heap.size + 0 < (w.alloc (.cells #[.slice ab_s s.disk.blocks.length cb_s, .slice au_s s.disk.waits.length cu_s, .slice ax_s s.now.length cx_s, .slice ay_s s.last.length cy_s] 46)).heap.size := by simp
  obtain ⟨V, hV⟩ : ∃ V, (w.alloc (.cells #[.slice ab_s s.disk.blocks.length cb_s, .slice au_s s.disk.waits.length cu_s, .slice ax_s s.now.length cx_s, .slice ay_s s.last.length cy_s] 46)) = V := ⟨_, rfl⟩
  rw [hV] at sz_V q_s O_s hB
  clear hst h_s
  have HQ := Lib.hid (And.intro q_s (And.intro O_s hB))
  clear q_s O_s hB
  have c_q_s0 := LK.cell HQ.out.1 0
  have c_q_s1 := LK.cell HQ.out.1 1
  have c_q_s2 := LK.cell HQ.out.1 2
  have c_q_s3 := LK.cell HQ.out.1 3
  simp at c_q_s0 c_q_s1 c_q_s2 c_q_s3
  have k_c := fun V b u x y hh => scheck_any b u x y s V hh
  have k_o := fun (h : s.now.length = 256) V b u x y hh => on_any b u x y s V hh h
  have k_b := fun (pn : Nat) (h : mayD s.disk = true) (hp : pn < 256) lo g nb no nc b u y V hh => bnode_any lo g nb no nc b u y s pn V hh h hp
  have hE := check_ways s p
  obtain ⟨es, hes⟩ : ∃ e, errS s = e := ⟨_, rfl⟩
  obtain ⟨ec, hec⟩ : ∃ e, errCk s p = e := ⟨_, rfl⟩
  obtain ⟨hc, hhc⟩ : ∃ e, heiC s p = e := ⟨_, rfl⟩
  simp only [hes, hec, hhc] at hE k_c ⊢
  clear hes hec hhc
  have HC := Lib.hid (And.intro k_c (And.intro k_o k_b))
  clear k_c k_o k_b
  go_enter Try.func27, Try.ntmps27
  go_upto_region 1 with (fail)
  clear hV
  go_wp2_with fail
  refine (HC.out.1 _ _ _ _ _ HQ.out.2.1.v).mono ?_
  rintro e w1 ⟨rfl, hst⟩
  clear c_q_s0 c_q_s1 c_q_s2 c_q_s3
  obtain ⟨q_s, O_s, hB⟩ := HQ.out
  clear HQ
  have sz_w1 : V.heap.size ≤ w1.heap.size := hst.size
  replace q_s := q_s.step hst
  replace O_s := O_s.step hst
  replace hB := hB.step hst
  clear hst
  have HQ := Lib.hid (And.intro q_s (And.intro O_s hB))
  clear q_s O_s hB
  have c_q_s0 := LK.cell HQ.out.1 0
  have c_q_s1 := LK.cell HQ.out.1 1
  have c_q_s2 := LK.cell HQ.out.1 2
  have c_q_s3 := LK.cell HQ.out.1 3
  simp at c_q_s0 c_q_s1 c_q_s2 c_q_s3
  rcases hE with ⟨rfl, rfl, rfl⟩ | ⟨rfl, hm, hE⟩
  case inl =>
    go_wp2
    go_ret2
    exact ⟨rfl, HQ.out.2.2⟩
  have HM := Lib.hid hm
  clear hm
  rcases hE with ⟨hp, rfl, rfl⟩ | ⟨pn, rfl, h8, hp, hE⟩
  case inr.inl =>
    by_cases hp1 : p < 8
    · skip
      go_wp2
      go_ret2
      exact ⟨rfl, HQ.out.2.2⟩
    have hp2 : 256 ≤ p := by omega
    go_wp2
    go_ret2
    exact ⟨rfl, HQ.out.2.2⟩
  have h256 := mayT_len (mayS_iff.1 HM.out).2.1
  have i8 : ¬ (pn : Int) < 8 := by omega
  have i9 : ¬ (256 : Int) ≤ pn := by omega
  obtain ⟨nw, hnw⟩ : ∃ z, s.now.getD pn 0 = z := ⟨_, rfl⟩
  obtain ⟨b3, o3, c3, e3, -, z3, -, z4, hc3⟩ := (HQ.out.2.1.n).at_n h256 (by decide)
  rw [h256] at e3
  injection e3 with e3 _ e4
  subst e3 e4
  have f5 := hc3 pn nw (by rw [← hnw]; simp [h256, hp])
  simp only [bV] at f5
  rw [hnw] at hE
  have HW := Lib.hid hnw
  clear hnw hc3
  unfold maxLen at z4
  have j9 : (pn : Int) < 256 := by omega
  clear c_q_s0 c_q_s1 c_q_s2 c_q_s3
  obtain ⟨q_s, O_s, hB⟩ := HQ.out
  clear HQ
  rw [h256] at q_s O_s
  have H6 := Lib.hid h256
  clear h256
  have HQ := Lib.hid (And.intro q_s (And.intro O_s hB))
  clear q_s O_s hB
  have c_q_s0 := LK.cell HQ.out.1 0
  have c_q_s1 := LK.cell HQ.out.1 1
  have c_q_s2 := LK.cell HQ.out.1 2
  have c_q_s3 := LK.cell HQ.out.1 3
  simp at c_q_s0 c_q_s1 c_q_s2 c_q_s3
  rcases hE with ⟨hn, rfl, rfl⟩ | ⟨hn, hE⟩
  case inl =>
    subst hn
    go_wp2
    go_ret2
    exact ⟨rfl, HQ.out.2.2⟩
  have hni : ¬ (nw.toNat : Int) = 0 := by
    intro h
    exact hn (UInt8.toNat_inj.1 (by show nw.toNat = (0 : UInt8).toNat; rw [show (0 : UInt8).toNat = 0 from rfl]; omega))
  go_wp2_with fail
  refine (HC.out.2.1 H6.out _ _ _ _ _ HQ.out.2.1.v).mono ?_
  rintro e w2 ⟨g, nb, no, nc, au, rfl, hben, hst⟩
  clear c_q_s0 c_q_s1 c_q_s2 c_q_s3
  obtain ⟨q_s, O_s, hB⟩ := HQ.out
  clear HQ
  have B_b := hben
  clear hben
  have sz_w2 : w1.heap.size ≤ w2.heap.size := hst.size
  replace q_s := q_s.step hst
  replace O_s := O_s.step hst
  replace hB := hB.step hst
  clear hst
  have HQ := Lib.hid (And.intro q_s (And.intro O_s (And.intro B_b hB)))
  clear q_s O_s B_b hB
  have c_q_s0 := LK.cell HQ.out.1 0
  have c_q_s1 := LK.cell HQ.out.1 1
  have c_q_s2 := LK.cell HQ.out.1 2
  have c_q_s3 := LK.cell HQ.out.1 3
  simp at c_q_s0 c_q_s1 c_q_s2 c_q_s3
  go_upto_region 9 with (fail)
  clear c_q_s0 c_q_s1 c_q_s2 c_q_s3
  obtain ⟨q_s, O_s, B_b, hB⟩ := HQ.out
  clear HQ
  have hst := (Below.refl w2.heap.size w2).alloc (Nat.le_refl _) (.cells #[.pointer (some ⟨g, 0, none⟩)] 116)
  have hlt : w2.heap.size < (w2.alloc (.cells #[.pointer (some ⟨g, 0, none⟩)] 116)).heap.size := by simp
  have q_b := LK.new w2 (.cells #[.pointer (some ⟨g, 0, none⟩)] 116)
  replace q_s := q_s.step hst
  replace O_s := O_s.step hst
  replace B_b := B_b.step hst
  replace hB := hB.step hst
  obtain ⟨w3, hw⟩ : ∃ v, w2.alloc (.cells #[.pointer (some ⟨g, 0, none⟩)] 116) = v := ⟨_, rfl⟩
  rw [hw] at hlt q_b q_s O_s B_b hB ⊢
  clear hw hst
  have sz_w3 := hlt
  clear hlt
  have HQ := Lib.hid (And.intro q_s (And.intro O_s (And.intro B_b (And.intro q_b hB))))
  clear q_s O_s B_b q_b hB
  have c_q_s0 := LK.cell HQ.out.1 0
  have c_q_s1 := LK.cell HQ.out.1 1
  have c_q_s2 := LK.cell HQ.out.1 2
  have c_q_s3 := LK.cell HQ.out.1 3
  have c_q_b0 := LK.cell HQ.out.2.2.2.1 0
  simp at c_q_s0 c_q_s1 c_q_s2 c_q_s3 c_q_b0
  go_wp2_with fail
  refine (HC.out.2.2 pn (mayS_iff.1 HM.out).1 hp _ _ _ _ _ _ _ _ _ HQ.out.2.2.1).mono ?_
  rintro e w4 ⟨vn, rfl, hsl, hst⟩
  clear c_q_s0 c_q_s1 c_q_s2 c_q_s3 c_q_b0
  obtain ⟨q_s, O_s, B_b, q_b, hB⟩ := HQ.out
  clear HQ
  have hvw := sl_itemT hsl
  clear hsl
  obtain ⟨ac, cc, rfl, gc1, gc2, -, -⟩ := id hvw
  unfold maxLen at gc2
  have sz_w4 : w3.heap.size ≤ w4.heap.size := hst.size
  replace q_s := q_s.step hst
  replace O_s := O_s.step hst
  replace B_b := B_b.step hst
  replace q_b := q_b.step hst
  replace hB := hB.step hst
  clear hst
  have HQ := Lib.hid (And.intro q_s (And.intro O_s (And.intro B_b (And.intro q_b hB))))
  clear q_s O_s B_b q_b hB
  have c_q_s0 := LK.cell HQ.out.1 0
  have c_q_s1 := LK.cell HQ.out.1 1
  have c_q_s2 := LK.cell HQ.out.1 2
  have c_q_s3 := LK.cell HQ.out.1 3
  have c_q_b0 := LK.cell HQ.out.2.2.2.1 0
  simp at c_q_s0 c_q_s1 c_q_s2 c_q_s3 c_q_b0
  rcases hE with ⟨he, rfl, rfl⟩ | ⟨he, l, its, hnd, hmn, hE⟩
  case inl =>
    rw [he]
    go_wp2
    go_ret2
    exact ⟨rfl, Below.alloc HQ.out.2.2.2.2 (Below.size HQ.out.2.2.2.2) _⟩
  rw [he]
  rw [hnd] at hvw ⊢
  simp only at hvw ⊢
  simp only [hnd] at gc1
  clear he hnd
  have m0 := (mayN_all hmn).1.2
  simp only at m0
  have HMN := Lib.hid hmn
  clear hmn
  clear c_q_s0 c_q_s1 c_q_s2 c_q_s3 c_q_b0
  obtain ⟨q_s, O_s, B_b, q_b, hB⟩ := HQ.out
  clear HQ
  have S_c := LS.of hvw (Nat.le_refl _)
  clear hvw
  have HQ := Lib.hid (And.intro q_s (And.intro O_s (And.intro B_b (And.intro q_b (And.intro S_c hB)))))
  clear q_s O_s B_b q_b S_c hB
  go_upto_region 10 with (fail)
  obtain ⟨q_s, O_s, B_b, q_b, S_c, hB⟩ := HQ.out
  clear HQ
  have hst := (Below.refl w4.heap.size w4).alloc (Nat.le_refl _) (.cells #[.int .i64 (l : Int), .slice ac its.length cc] 119)
  have hlt : w4.heap.size < (w4.alloc (.cells #[.int .i64 (l : Int), .slice ac its.length cc] 119)).heap.size := by simp
  have q_c := LK.new w4 (.cells #[.int .i64 (l : Int), .slice ac its.length cc] 119)
  replace q_s := q_s.step hst
  replace O_s := O_s.step hst
  replace B_b := B_b.step hst
  replace q_b := q_b.step hst
  replace S_c := S_c.step hst
  replace hB := hB.step hst
  obtain ⟨w5, hw⟩ : ∃ v, w4.alloc (.cells #[.int .i64 (l : Int), .slice ac its.length cc] 119) = v := ⟨_, rfl⟩
  rw [hw] at hlt q_c q_s O_s B_b q_b S_c hB ⊢
  clear hw hst
  have sz_w5 := hlt
  clear hlt
  have HQ := Lib.hid (And.intro q_s (And.intro O_s (And.intro B_b (And.intro q_b (And.intro S_c (And.intro q_c hB))))))
  clear q_s O_s B_b q_b S_c q_c hB
  have c_q_s0 := LK.cell HQ.out.1 0
  have c_q_s1 := LK.cell HQ.out.1 1
  have c_q_s2 := LK.cell HQ.out.1 2
  have c_q_s3 := LK.cell HQ.out.1 3
  have c_q_b0 := LK.cell HQ.out.2.2.2.1 0
  have c_q_c0 := LK.cell HQ.out.2.2.2.2.2.1 0
  have c_q_c1 := LK.cell HQ.out.2.2.2.2.2.1 1
  simp at c_q_s0 c_q_s1 c_q_s2 c_q_s3 c_q_b0 c_q_c0 c_q_c1
  rcases hE with ⟨hl0, rfl, rfl⟩ | ⟨hl0, hE⟩
  case inl =>
    have i6 : (its.length : Int) = 0 := by omega
    go_upto_region 14 with (fail)
    clear c_q_s0 c_q_s1 c_q_s2 c_q_s3 c_q_b0 c_q_c0 c_q_c1
    obtain ⟨q_s, O_s, B_b, q_b, S_c, q_c, hB⟩ := HQ.out
    clear HQ
    have hst := (Below.refl w5.heap.size w5).alloc (Nat.le_refl _) (.cells #[.func (.func 74) #[] #[.pointer (some ⟨w.heap.size, 0, none⟩), .pointer (some ⟨w2.heap.size, 0, none⟩), .pointer (some ⟨w5.heap.size, 0, none⟩)]] 122)
    have hlt : w5.heap.size < (w5.alloc (.cells #[.func (.func 74) #[] #[.pointer (some ⟨w.heap.size, 0, none⟩), .pointer (some ⟨w2.heap.size, 0, none⟩), .pointer (some ⟨w5.heap.size, 0, none⟩)]] 122)).heap.size := by simp
    have q_w := LK.new w5 (.cells #[.func (.func 74) #[] #[.pointer (some ⟨w.heap.size, 0, none⟩), .pointer (some ⟨w2.heap.size, 0, none⟩), .pointer (some ⟨w5.heap.size, 0, none⟩)]] 122)
    replace q_s := q_s.step hst
    replace O_s := O_s.step hst
    replace B_b := B_b.step hst
    replace q_b := q_b.step hst
    replace S_c := S_c.step hst
    replace q_c := q_c.step hst
    replace hB := hB.step hst
    obtain ⟨w6, hw⟩ : ∃ v, w5.alloc (.cells #[.func (.func 74) #[] #[.pointer (some ⟨w.heap.size, 0, none⟩), .pointer (some ⟨w2.heap.size, 0, none⟩), .pointer (some ⟨w5.heap.size, 0, none⟩)]] 122) = v := ⟨_, rfl⟩
    rw [hw] at hlt q_w q_s O_s B_b q_b S_c q_c hB ⊢
    clear hw hst
    have sz_w6 := hlt
    clear hlt
    have HQ := Lib.hid (And.intro q_s (And.intro O_s (And.intro B_b (And.intro q_b (And.intro S_c (And.intro q_c (And.intro q_w hB)))))))
    clear q_s O_s B_b q_b S_c q_c q_w hB
    have c_q_s0 := LK.cell HQ.out.1 0
    have c_q_s1 := LK.cell HQ.out.1 1
    have c_q_s2 := LK.cell HQ.out.1 2
    have c_q_s3 := LK.cell HQ.out.1 3
    have c_q_b0 := LK.cell HQ.out.2.2.2.1 0
    have c_q_c0 := LK.cell HQ.out.2.2.2.2.2.1 0
    have c_q_c1 := LK.cell HQ.out.2.2.2.2.2.1 1
    have c_q_w0 := LK.cell HQ.out.2.2.2.2.2.2.1 0
    simp at c_q_s0 c_q_s1 c_q_s2 c_q_s3 c_q_b0 c_q_c0 c_q_c1 c_q_w0
    go_wp2
    go_ret2
    exact ⟨rfl, HQ.out.2.2.2.2.2.2.2⟩
  have i6 : (0 : Int) < its.length := by omega
  go_upto_region 14 with (fail)
  clear c_q_s0 c_q_s1 c_q_s2 c_q_s3 c_q_b0 c_q_c0 c_q_c1
  obtain ⟨q_s, O_s, B_b, q_b, S_c, q_c, hB⟩ := HQ.out
  clear HQ
  have hst := (Below.refl w5.heap.size w5).alloc (Nat.le_refl _) (.cells #[.func (.func 74) #[] #[.pointer (some ⟨w.heap.size, 0, none⟩), .pointer (some ⟨w2.heap.size, 0, none⟩), .pointer (some ⟨w5.heap.size, 0, none⟩)]] 122)
  have hlt : w5.heap.size < (w5.alloc (.cells #[.func (.func 74) #[] #[.pointer (some ⟨w.heap.size, 0, none⟩), .pointer (some ⟨w2.heap.size, 0, none⟩), .pointer (some ⟨w5.heap.size, 0, none⟩)]] 122)).heap.size := by simp
  have q_w := LK.new w5 (.cells #[.func (.func 74) #[] #[.pointer (some ⟨w.heap.size, 0, none⟩), .pointer (some ⟨w2.heap.size, 0, none⟩), .pointer (some ⟨w5.heap.size, 0, none⟩)]] 122)
  replace q_s := q_s.step hst
  replace O_s := O_s.step hst
  replace B_b := B_b.step hst
  replace q_b := q_b.step hst
  replace S_c := S_c.step hst
  replace q_c := q_c.step hst
  replace hB := hB.step hst
  obtain ⟨w6, hw⟩ : ∃ v, w5.alloc (.cells #[.func (.func 74) #[] #[.pointer (some ⟨w.heap.size, 0, none⟩), .pointer (some ⟨w2.heap.size, 0, none⟩), .pointer (some ⟨w5.heap.size, 0, none⟩)]] 122) = v := ⟨_, rfl⟩
  rw [hw] at hlt q_w q_s O_s B_b q_b S_c q_c hB ⊢
  clear hw hst
  have sz_w6 := hlt
  clear hlt
  have HQ := Lib.hid (And.intro q_s (And.intro O_s (And.intro B_b (And.intro q_b (And.intro S_c (And.intro q_c (And.intro q_w hB)))))))
  clear q_s O_s B_b q_b S_c q_c q_w hB
  have c_q_s0 := LK.cell HQ.out.1 0
  have c_q_s1 := LK.cell HQ.out.1 1
  have c_q_s2 := LK.cell HQ.out.1 2
  have c_q_s3 := LK.cell HQ.out.1 3
  have c_q_b0 := LK.cell HQ.out.2.2.2.1 0
  have c_q_c0 := LK.cell HQ.out.2.2.2.2.2.1 0
  have c_q_c1 := LK.cell HQ.out.2.2.2.2.2.1 1
  have c_q_w0 := LK.cell HQ.out.2.2.2.2.2.2.1 0
  simp at c_q_s0 c_q_s1 c_q_s2 c_q_s3 c_q_b0 c_q_c0 c_q_c1 c_q_w0
  obtain ⟨ro, hro⟩ : ∃ z, wkGo (oneW s l) none its = z := ⟨_, rfl⟩
  obtain ⟨a1, b1, c1, hsp1⟩ : ∃ a1 b1 c1, spn ro = (a1, b1, c1) := ⟨_, _, _, rfl⟩
  have hA : WalkAt w6 w.heap.size w2.heap.size w5.heap.size w1.heap.size g nb no nc (.slice ab_s s.disk.blocks.length cb_s) (.slice au s.disk.waits.length s.disk.waits.length) (.slice ay_s s.last.length cy_s) (.slice ab_s s.disk.blocks.length cb_s) (.slice au_s s.disk.waits.length cu_s) (.slice ay_s s.last.length cy_s) (some ⟨b3, o3, none⟩) cx_s s := ⟨LK.blk HQ.out.1, HQ.out.2.1.n, LK.blk HQ.out.2.2.2.1, LK.blk HQ.out.2.2.2.2.2.2.1, HQ.out.2.2.1, HM.out⟩
  have hc9 := fwalk_any l _ _ _ _ _ _ _ _ _ _ _ _ _ _ _ _ s its (.slice ac its.length cc) _ hA HQ.out.2.2.2.2.1.v HMN.out
  rw [hro, hsp1] at hc9
  simp only [spanV, bV, wV] at hc9
  rw [hro] at hE
  have KW := Lib.hid hc9
  clear hA hc9
  have HRO := Lib.hid hro
  clear hro
  have hfd : ∀ (z1 z2 z3 z4 z5 z6 : Int) (c : Bool) (W : World), (Instr.field 124 (.agg #[.int .u8 z1, .int .u32 z2, .int .u32 z3, .int .u8 z4, .int .u32 z5, .int .u32 z6, .bool c]) 2).run Try.prog W = .ok (.bool c) W := fun _ _ _ _ _ _ _ _ => by kernel_rfl
  go_wp2_with fail
  refine (KW.out).mono ?_
  rintro e w7 ⟨rfl, hst⟩
  clear c_q_s0 c_q_s1 c_q_s2 c_q_s3 c_q_b0 c_q_c0 c_q_c1 c_q_w0
  obtain ⟨q_s, O_s, B_b, q_b, S_c, q_c, q_w, hB⟩ := HQ.out
  clear HQ
  have sz_w7 : w6.heap.size ≤ w7.heap.size := hst.size
  replace q_s := q_s.step hst
  replace O_s := O_s.step hst
  replace B_b := B_b.step hst
  replace q_b := q_b.step hst
  replace S_c := S_c.step hst
  replace q_c := q_c.step hst
  replace q_w := q_w.step hst
  replace hB := hB.step hst
  clear hst
  have HQ := Lib.hid (And.intro q_s (And.intro O_s (And.intro B_b (And.intro q_b (And.intro S_c (And.intro q_c (And.intro q_w hB)))))))
  clear q_s O_s B_b q_b S_c q_c q_w hB
  have c_q_s0 := LK.cell HQ.out.1 0
  have c_q_s1 := LK.cell HQ.out.1 1
  have c_q_s2 := LK.cell HQ.out.1 2
  have c_q_s3 := LK.cell HQ.out.1 3
  have c_q_b0 := LK.cell HQ.out.2.2.2.1 0
  have c_q_c0 := LK.cell HQ.out.2.2.2.2.2.1 0
  have c_q_c1 := LK.cell HQ.out.2.2.2.2.2.1 1
  have c_q_w0 := LK.cell HQ.out.2.2.2.2.2.2.1 0
  simp at c_q_s0 c_q_s1 c_q_s2 c_q_s3 c_q_b0 c_q_c0 c_q_c1 c_q_w0
  rcases hE with ⟨hr, rfl, rfl⟩ | ⟨⟨r, hr⟩, rfl, rfl⟩
  case inl =>
    subst hr
    cases hsp1
    go_wp2
    go_ret2
    exact ⟨rfl, HQ.out.2.2.2.2.2.2.2⟩
  subst hr
  cases hsp1
  go_wp2
  go_ret2
  exact ⟨rfl, HQ.out.2.2.2.2.2.2.2⟩
end Go.Proofs.Ytcibihakjcenaaa

