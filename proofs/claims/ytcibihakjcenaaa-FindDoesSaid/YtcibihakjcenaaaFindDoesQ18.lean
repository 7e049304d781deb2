/- FindDoes: the words and contracts, part 18. -/
import Derived.Test.YtcibihakjcenaaaFindDoesQ1
import Derived.Test.YtcibihakjcenaaaFindDoesQ2
import Derived.Test.YtcibihakjcenaaaFindDoesQ3
import Derived.Test.YtcibihakjcenaaaFindDoesQ4
import Derived.Test.YtcibihakjcenaaaFindDoesQ5
import Derived.Test.YtcibihakjcenaaaFindDoesQ6
import Derived.Test.YtcibihakjcenaaaFindDoesQ7
import Derived.Test.YtcibihakjcenaaaFindDoesQ9
import Derived.Test.YtcibihakjcenaaaFindDoesQ10
import Derived.Test.YtcibihakjcenaaaFindDoesQ11
import Derived.Test.YtcibihakjcenaaaFindDoesQ12
import Derived.Test.YtcibihakjcenaaaFindDoesQ13
import Derived.Test.YtcibihakjcenaaaFindDoesQ17
import Derived.WalkKit
import Derived.WalkLawsBesides
import Derived.WalkSpells
import Derived.Lib.Hide
import Derived.Laws.Rows
import Derived.Laws.AppendOwnNone
import Derived.Maps.AppendAt
import Derived.ProofKit
import Derived.Deep.Slices
import Derived.WideShapes
import Derived.RangeFuncNested
import Derived.RangeFuncBound
import Derived.RangeFuncCalls
import Derived.RangeFuncLeaves
import Derived.RangeFuncBox
import Derived.Shelf.Abstract
import Derived.Shelf.RegionOpen
import Derived.OwnWalkIn
import Derived.TacticsInMore
import Derived.LoopNIn
import Derived.LoopIn
import Derived.Lib.AppendZerosOnto
import Derived.Lib.SliceRun
import Derived.Lib.Walk
import Derived.Deep.LoopGhost
import Derived.Laws.CopyOwn
import Derived.Laws.CopyRow
import Derived.OrdersHeld
import Derived.Deep.QuietTactic
import Derived.BigQuiet
import Derived.StillTailTactics
import Derived.OpenShut
import Derived.Deep.DeepCutAuto
import Derived.Laws.MakeOwn
import Derived.Deep.RegionHeld
import Derived.KernelRfl
import Derived.BigFrameIn
import Derived.OrdersIn
import Derived.Laws.EntriesVeiled
import Derived.Sort.CutIn
import Derived.ArgAppend
namespace Go.Proofs.Ytcibihakjcenaaa
open Go.RowKit

theorem fwalk_any : ∀ L, WalkC L
  | 0 => fwalk_step 0 fun _ h => by omega
  | L + 1 => fwalk_step (L + 1) fun L' h => by
    obtain rfl : L' = L := by omega
    exact fwalk_any _
theorem check_ways (s : StoreL) (p : Int) : (errS s = 8 ∧ errCk s p = 8 ∧ heiC s p = 0) ∨ (errS s = 0 ∧ mayS s = true ∧ (((p < 8 ∨ 256 ≤ p) ∧ errCk s p = 2 ∧ heiC s p = 0) ∨ ∃ pn : Nat, p = pn ∧ 8 ≤ pn ∧ pn < 256 ∧
    ((s.now.getD pn 0 = 0 ∧ errCk s p = 6 ∧ heiC s p = 0) ∨ (s.now.getD pn 0 ≠ 0 ∧ ((errBn s pn = 8 ∧ errCk s p = 8 ∧ heiC s p = 0) ∨ (errBn s pn = 0 ∧ ∃ (l : Nat) (its : List ItemL), nodeB s pn = ⟨l, its⟩ ∧ mayN ⟨l, its⟩ = true ∧
      ((its.length = 0 ∧ errCk s p = 0 ∧ heiC s p = (l : Int) + 1) ∨ (its.length ≠ 0 ∧ ((wkGo (oneW s l) none its = none ∧ errCk s p = 8 ∧ heiC s p = 0) ∨ ((∃ r, wkGo (oneW s l) none its = some r) ∧ errCk s p = 0 ∧ heiC s p = (l : Int) + 1)))))))))) := by
  have hz : ∀ e : Int, e ≠ 0 → errCk s p = e → errCk s p = e ∧ heiC s p = 0 := fun e h1 h2 => ⟨h2, by unfold heiC; rw [h2, if_neg h1]⟩
  cases hm : mayS s with
  | false =>
    have h : errAs s p = 8 := by unfold errAs; rw [hm]; rfl
    exact .inl ⟨by unfold errS; rw [hm]; rfl, hz 8 (by decide) (by unfold errCk; rw [h, if_pos (by decide)])⟩
  | true =>
    refine .inr ⟨by unfold errS; rw [hm]; rfl, rfl, ?_⟩
    by_cases h1 : p < 8 ∨ 256 ≤ p
    · have h : errAs s p = 2 := by unfold errAs; rw [hm, if_pos rfl, if_pos h1]
      exact .inl ⟨h1, hz 2 (by decide) (by unfold errCk; rw [h, if_pos (by decide)])⟩
    obtain ⟨pn, rfl⟩ : ∃ pn : Nat, p = pn := ⟨p.toNat, by omega⟩
    refine .inr ⟨pn, rfl, by omega, by omega, ?_⟩
    by_cases h2 : s.now.getD pn 0 = 0
    · have h : errAs s (pn : Int) = 6 := by unfold errAs; rw [hm, if_pos rfl, if_neg h1, Int.toNat_natCast, if_pos h2]
      exact .inl ⟨h2, hz 6 (by decide) (by unfold errCk; rw [h, if_pos (by decide)])⟩
    have h : errAs s (pn : Int) = 0 := by unfold errAs; rw [hm, if_pos rfl, if_neg h1, Int.toNat_natCast, if_neg h2]
    refine .inr ⟨h2, ?_⟩
    by_cases h3 : errBn s pn = 0
    case neg =>
      have h4 : errBn s pn = 8 := by
        unfold errBn at h3 ⊢
        rw [if_neg h2] at h3 ⊢
        by_cases h5 : errNd (seenD s.disk pn) = 0
        · rw [if_pos h5] at h3; exact absurd rfl h3
        · rw [if_neg h5]
      exact .inl ⟨h4, hz 8 (by decide) (by unfold errCk; rw [h, if_neg (by decide), Int.toNat_natCast, h4, if_pos (by decide)])⟩
    have hn := nodeB_may h3
    have hl := (mayN_all hn).1
    refine .inr ⟨h3, (nodeB s pn).level.toNat, (nodeB s pn).items, ?_, ?_, ?_⟩
    · cases hh : nodeB s pn with
      | mk a b => rw [hh] at hl; simp only at hl ⊢; rw [show ((a.toNat : Nat) : Int) = a by omega]
    · rw [show (((nodeB s pn).level.toNat : Nat) : Int) = (nodeB s pn).level by omega]; exact hn
    have hc : errCk s (pn : Int) = if topOk s (nodeB s pn) then 0 else 8 := by unfold errCk; rw [h, if_neg (by decide), Int.toNat_natCast, h3, if_neg (by decide)]
    have hy : errCk s (pn : Int) = 0 → heiC s (pn : Int) = (((nodeB s pn).level.toNat : Nat) : Int) + 1 := fun e => by unfold heiC; rw [e, if_pos rfl, Int.toNat_natCast]; omega
    by_cases h4 : (nodeB s pn).items.length = 0
    · have e : errCk s (pn : Int) = 0 := by
        rw [hc]
        unfold topOk
        rw [List.length_eq_zero_iff.1 h4]
        rfl
      exact .inl ⟨h4, e, hy e⟩
    refine .inr ⟨h4, ?_⟩
    have hie : (nodeB s pn).items.isEmpty = false := by
      cases hh : (nodeB s pn).items with
      | nil => rw [hh] at h4; exact absurd rfl h4
      | cons a b => rfl
    cases hw : wkGo (oneW s (nodeB s pn).level.toNat) none (nodeB s pn).items with
    | none =>
      have e : errCk s (pn : Int) = 8 := by
        rw [hc]; unfold topOk; rw [hw, hie]; rfl
      exact .inl ⟨rfl, hz 8 (by decide) e⟩
    | some r =>
      have e : errCk s (pn : Int) = 0 := by
        rw [hc]; unfold topOk; rw [hw, hie]; rfl
      exact .inr ⟨⟨r, rfl⟩, e, hy e⟩
set_option maxRecDepth 100000 in
set_option maxHeartbeats 2000000 in
theorem fcheck_any (b_s u_s x_s y_s : Value) (s : StoreL) (p : Int) (w : World) (h_s : StoreV w 0 w.heap.size b_s u_s x_s y_s s) :
    Calls Try.prog 27 #[.agg #[b_s, u_s, x_s, y_s], .int .i64 p] w fun e w' => e = .returned (.tuple #[.int .i64 (heiC s p), .int .i64 (errCk s p)]) ∧ Below w.heap.size w w' := by
  obtain ⟨ab_s, cb_s, rfl, gb_s, gc_s, -, -⟩ := h_s.1.1
  obtain ⟨au_s, cu_s, rfl, gu_s, gv_s, -, -⟩ := h_s.1.2
  obtain ⟨ax_s, cx_s, rfl, gx_s, gz_s⟩ := h_s.2.1.form rfl
  obtain ⟨ay_s, cy_s, rfl, gy_s, gw_s⟩ := h_s.2.2.form rfl
  unfold maxLen at gc_s gv_s gz_s gw_s
  have hst := ((Below.refl w.heap.size w).alloc (Nat.le_refl _) (.cells #[.slice ab_s s.disk.blocks.length cb_s, .slice au_s s.disk.waits.length cu_s, .slice ax_s s.now.length cx_s, .slice ay_s s.last.length cy_s] 46))
  have q_s := LK.new w (.cells #[.slice ab_s s.disk.blocks.length cb_s, .slice au_s s.disk.waits.length cu_s, .slice ax_s s.now.length cx_s, .slice ay_s s.last.length cy_s] 46)
  have hB : LW w _ := hst
  have O_s := (LO.of h_s (Nat.le_refl _)).step hst
  have sz_V : w.heap.size + 0 < (w.alloc (.cells #[.slice ab_s s.disk.blocks.length cb_s, .slice au_s s.disk.waits.length cu_s, .slice ax_s s.now.length cx_s, .slice ay_s s.last.length cy_s] 46)).heap.size := by simp
  obtain ⟨V, hV⟩ : ∃ V, (w.alloc (.cells #[.slice ab_s s.disk.blocks.length cb_s, .slice au_s s.disk.waits.length cu_s, .slice ax_s s.now.length cx_s, .slice ay_s s.last.length cy_s] 46)) = V := ⟨_, rfl⟩
  rw [hV] at sz_V q_s O_s hB
  clear hst h_s
  have HQ := Lib.hid (And.intro q_s (And.intro O_s hB))
  clear q_s O_s hB
  have c_q_s0 := LK.cell HQ.out.1 0
  have c_q_s1 := LK.cell HQ.out.1 1
  have c_q_s2 := LK.cell HQ.out.1 2
  have c_q_s3 := LK.cell HQ.out.1 3
  simp at c_q_s0 c_q_s1 c_q_s2 c_q_s3
  have k_c := fun V b u x y hh => scheck_any b u x y s V hh
  have k_o := fun (h : s.now.length = 256) V b u x y hh => on_any b u x y s V hh h
  have k_b := fun (pn : Nat) (h : mayD s.disk = true) (hp : pn < 256) lo g nb no nc b u y V hh => bnode_any lo g nb no nc b u y s pn V hh h hp
  have hE := check_ways s p
  obtain ⟨es, hes⟩ : ∃ e, errS s = e := ⟨_, rfl⟩
  obtain ⟨ec, hec⟩ : ∃ e, errCk s p = e := ⟨_, rfl⟩
  obtain ⟨hc, hhc⟩ : ∃ e, heiC s p = e := ⟨_, rfl⟩
  simp only [hes, hec, hhc] at hE k_c ⊢
  clear hes hec hhc
  have HC := Lib.hid (And.intro k_c (And.intro k_o k_b))
  clear k_c k_o k_b
  go_enter Try.func27, Try.ntmps27
  go_upto_region 1 with (fail)
  clear hV
  go_wp2_with fail
  refine (HC.out.1 _ _ _ _ _ HQ.out.2.1.v).mono ?_
  rintro e w1 ⟨rfl, hst⟩
  clear c_q_s0 c_q_s1 c_q_s2 c_q_s3
  obtain ⟨q_s, O_s, hB⟩ := HQ.out
  clear HQ
  have sz_w1 : V.heap.size ≤ w1.heap.size := hst.size
  replace q_s := q_s.step hst
  replace O_s := O_s.step hst
  replace hB := hB.step hst
  clear hst
  have HQ := Lib.hid (And.intro q_s (And.intro O_s hB))
  clear q_s O_s hB
  have c_q_s0 := LK.cell HQ.out.1 0
  have c_q_s1 := LK.cell HQ.out.1 1
  have c_q_s2 := LK.cell HQ.out.1 2
  have c_q_s3 := LK.cell HQ.out.1 3
  simp at c_q_s0 c_q_s1 c_q_s2 c_q_s3
  rcases hE with ⟨rfl, rfl, rfl⟩ | ⟨rfl, hm, hE⟩
  case inl =>
    go_wp2
    go_ret2
    exact ⟨rfl, HQ.out.2.2⟩
  have HM := Lib.hid hm
  clear hm
  rcases hE with ⟨hp, rfl, rfl⟩ | ⟨pn, rfl, h8, hp, hE⟩
  case inr.inl =>
    by_cases hp1 : p < 8
    · skip
      go_wp2
      go_ret2
      exact ⟨rfl, HQ.out.2.2⟩
    have hp2 : 256 ≤ p := by omega
    go_wp2
    go_ret2
    exact ⟨rfl, HQ.out.2.2⟩
  have h256 := mayT_len (mayS_iff.1 HM.out).2.1
  have i8 : ¬ (pn : Int) < 8 := by omega
  have i9 : ¬ (256 : Int) ≤ pn := by omega
  obtain ⟨nw, hnw⟩ : ∃ z, s.now.getD pn 0 = z := ⟨_, rfl⟩
  obtain ⟨b3, o3, c3, e3, -, z3, -, z4, hc3⟩ := (HQ.out.2.1.n).at_n h256 (by decide)
  rw [h256] at e3
  injection e3 with e3 _ e4
  subst e3 e4
  have f5 := hc3 pn nw (by rw [← hnw]; simp [h256, hp])
  simp only [bV] at f5
  rw [hnw] at hE
  have HW := Lib.hid hnw
  clear hnw hc3
  unfold maxLen at z4
  have j9 : (pn : Int) < 256 := by omega
  clear c_q_s0 c_q_s1 c_q_s2 c_q_s3
  obtain ⟨q_s, O_s, hB⟩ := HQ.out
  clear HQ
  rw [h256] at q_s O_s
  have H6 := Lib.hid h256
  clear h256
  have HQ := Lib.hid (And.intro q_s (And.intro O_s hB))
  clear q_s O_s hB
  have c_q_s0 := LK.cell HQ.out.1 0
  have c_q_s1 := LK.cell HQ.out.1 1
  have c_q_s2 := LK.cell HQ.out.1 2
  have c_q_s3 := LK.cell HQ.out.1 3
  simp at c_q_s0 c_q_s1 c_q_s2 c_q_s3
  rcases hE with ⟨hn, rfl, rfl⟩ | ⟨hn, hE⟩
  case inl =>
    subst hn
    go_wp2
    go_ret2
    exact ⟨rfl, HQ.out.2.2⟩
  have hni : ¬ (nw.toNat : Int) = 0 := by
    intro h
    exact hn (UInt8.toNat_inj.1 (by show nw.toNat = (0 : UInt8).toNat; rw [show (0 : UInt8).toNat = 0 from rfl]; omega))
  go_wp2_with fail
  refine (HC.out.2.1 H6.out _ _ _ _ _ HQ.out.2.1.v).mono ?_
  rintro e w2 ⟨g, nb, no, nc, au, rfl, hben, hst⟩
  clear c_q_s0 c_q_s1 c_q_s2 c_q_s3
  obtain ⟨q_s, O_s, hB⟩ := HQ.out
  clear HQ
  have B_b := hben
  clear hben
  have sz_w2 : w1.heap.size ≤ w2.heap.size := hst.size
  replace q_s := q_s.step hst
  replace O_s := O_s.step hst
  replace hB := hB.step hst
  clear hst
  have HQ := Lib.hid (And.intro q_s (And.intro O_s (And.intro B_b hB)))
  clear q_s O_s B_b hB
  have c_q_s0 := LK.cell HQ.out.1 0
  have c_q_s1 := LK.cell HQ.out.1 1
  have c_q_s2 := LK.cell HQ.out.1 2
  have c_q_s3 := LK.cell HQ.out.1 3
  simp at c_q_s0 c_q_s1 c_q_s2 c_q_s3
  go_upto_region 9 with (fail)
  clear c_q_s0 c_q_s1 c_q_s2 c_q_s3
  obtain ⟨q_s, O_s, B_b, hB⟩ := HQ.out
  clear HQ
  have hst := (Below.refl w2.heap.size w2).alloc (Nat.le_refl _) (.cells #[.pointer (some ⟨g, 0, none⟩)] 116)
  have hlt : w2.heap.size < (w2.alloc (.cells #[.pointer (some ⟨g, 0, none⟩)] 116)).heap.size := by simp
  have q_b := LK.new w2 (.cells #[.pointer (some ⟨g, 0, none⟩)] 116)
  replace q_s := q_s.step hst
  replace O_s := O_s.step hst
  replace B_b := B_b.step hst
  replace hB := hB.step hst
  obtain ⟨w3, hw⟩ : ∃ v, w2.alloc (.cells #[.pointer (some ⟨g, 0, none⟩)] 116) = v := ⟨_, rfl⟩
  rw [hw] at hlt q_b q_s O_s B_b hB ⊢
  clear hw hst
  have sz_w3 := hlt
  clear hlt
  have HQ := Lib.hid (And.intro q_s (And.intro O_s (And.intro B_b (And.intro q_b hB))))
  clear q_s O_s B_b q_b hB
  have c_q_s0 := LK.cell HQ.out.1 0
  have c_q_s1 := LK.cell HQ.out.1 1
  have c_q_s2 := LK.cell HQ.out.1 2
  have c_q_s3 := LK.cell HQ.out.1 3
  have c_q_b0 := LK.cell HQ.out.2.2.2.1 0
  simp at c_q_s0 c_q_s1 c_q_s2 c_q_s3 c_q_b0
  go_wp2_with fail
  refine (HC.out.2.2 pn (mayS_iff.1 HM.out).1 hp _ _ _ _ _ _ _ _ _ HQ.out.2.2.1).mono ?_
  rintro e w4 ⟨vn, rfl, hsl, hst⟩
  clear c_q_s0 c_q_s1 c_q_s2 c_q_s3 c_q_b0
  obtain ⟨q_s, O_s, B_b, q_b, hB⟩ := HQ.out
  clear HQ
  have hvw := sl_itemT hsl
  clear hsl
  obtain ⟨ac, cc, rfl, gc1, gc2, -, -⟩ := id hvw
  unfold maxLen at gc2
  have sz_w4 : w3.heap.size ≤ w4.heap.size := hst.size
  replace q_s := q_s.step hst
  replace O_s := O_s.step hst
  replace B_b := B_b.step hst
  replace q_b := q_b.step hst
  replace hB := hB.step hst
  clear hst
  have HQ := Lib.hid (And.intro q_s (And.intro O_s (And.intro B_b (And.intro q_b hB))))
  clear q_s O_s B_b q_b hB
  have c_q_s0 := LK.cell HQ.out.1 0
  have c_q_s1 := LK.cell HQ.out.1 1
  have c_q_s2 := LK.cell HQ.out.1 2
  have c_q_s3 := LK.cell HQ.out.1 3
  have c_q_b0 := LK.cell HQ.out.2.2.2.1 0
  simp at c_q_s0 c_q_s1 c_q_s2 c_q_s3 c_q_b0
  rcases hE with ⟨he, rfl, rfl⟩ | ⟨he, l, its, hnd, hmn, hE⟩
  case inl =>
    rw [he]
    go_wp2
    go_ret2
    exact ⟨rfl, Below.alloc HQ.out.2.2.2.2 (Below.size HQ.out.2.2.2.2) _⟩
  rw [he]
  rw [hnd] at hvw ⊢
  simp only at hvw ⊢
  simp only [hnd] at gc1
  clear he hnd
  have m0 := (mayN_all hmn).1.2
  simp only at m0
  have HMN := Lib.hid hmn
  clear hmn
  clear c_q_s0 c_q_s1 c_q_s2 c_q_s3 c_q_b0
  obtain ⟨q_s, O_s, B_b, q_b, hB⟩ := HQ.out
  clear HQ
  have S_c := LS.of hvw (Nat.le_refl _)
  clear hvw
  have HQ := Lib.hid (And.intro q_s (And.intro O_s (And.intro B_b (And.intro q_b (And.intro S_c hB)))))
  clear q_s O_s B_b q_b S_c hB
  go_upto_region 10 with (fail)
  obtain ⟨q_s, O_s, B_b, q_b, S_c, hB⟩ := HQ.out
  clear HQ
  have hst := (Below.refl w4.heap.size w4).alloc (Nat.le_refl _) (.cells #[.int .i64 (l : Int), .slice ac its.length cc] 119)
  have hlt : w4.heap.size < (w4.alloc (.cells #[.int .i64 (l : Int), .slice ac its.length cc] 119)).heap.size := by simp
  have q_c := LK.new w4 (.cells #[.int .i64 (l : Int), .slice ac its.length cc] 119)
  replace q_s := q_s.step hst
  replace O_s := O_s.step hst
  replace B_b := B_b.step hst
  replace q_b := q_b.step hst
  replace S_c := S_c.step hst
  replace hB := hB.step hst
  obtain ⟨w5, hw⟩ : ∃ v, w4.alloc (.cells #[.int .i64 (l : Int), .slice ac its.length cc] 119) = v := ⟨_, rfl⟩
  rw [hw] at hlt q_c q_s O_s B_b q_b S_c hB ⊢
  clear hw hst
  have sz_w5 := hlt
  clear hlt
  have HQ := Lib.hid (And.intro q_s (And.intro O_s (And.intro B_b (And.intro q_b (And.intro S_c (And.intro q_c hB))))))
  clear q_s O_s B_b q_b S_c q_c hB
  have c_q_s0 := LK.cell HQ.out.1 0
  have c_q_s1 := LK.cell HQ.out.1 1
  have c_q_s2 := LK.cell HQ.out.1 2
  have c_q_s3 := LK.cell HQ.out.1 3
  have c_q_b0 := LK.cell HQ.out.2.2.2.1 0
  have c_q_c0 := LK.cell HQ.out.2.2.2.2.2.1 0
  have c_q_c1 := LK.cell HQ.out.2.2.2.2.2.1 1
  simp at c_q_s0 c_q_s1 c_q_s2 c_q_s3 c_q_b0 c_q_c0 c_q_c1
  rcases hE with ⟨hl0, rfl, rfl⟩ | ⟨hl0, hE⟩
  case inl =>
    have i6 : (its.length : Int) = 0 := by omega
    go_upto_region 14 with (fail)
    clear c_q_s0 c_q_s1 c_q_s2 c_q_s3 c_q_b0 c_q_c0 c_q_c1
    obtain ⟨q_s, O_s, B_b, q_b, S_c, q_c, hB⟩ := HQ.out
    clear HQ
    have hst := (Below.refl w5.heap.size w5).alloc (Nat.le_refl _) (.cells #[.func (.func 74) #[] #[.pointer (some ⟨w.heap.size, 0, none⟩), .pointer (some ⟨w2.heap.size, 0, none⟩), .pointer (some ⟨w5.heap.size, 0, none⟩)]] 122)
    have hlt : w5.heap.size < (w5.alloc (.cells #[.func (.func 74) #[] #[.pointer (some ⟨w.heap.size, 0, none⟩), .pointer (some ⟨w2.heap.size, 0, none⟩), .pointer (some ⟨w5.heap.size, 0, none⟩)]] 122)).heap.size := by simp
    have q_w := LK.new w5 (.cells #[.func (.func 74) #[] #[.pointer (some ⟨w.heap.size, 0, none⟩), .pointer (some ⟨w2.heap.size, 0, none⟩), .pointer (some ⟨w5.heap.size, 0, none⟩)]] 122)
    replace q_s := q_s.step hst
    replace O_s := O_s.step hst
    replace B_b := B_b.step hst
    replace q_b := q_b.step hst
    replace S_c := S_c.step hst
    replace q_c := q_c.step hst
    replace hB := hB.step hst
    obtain ⟨w6, hw⟩ : ∃ v, w5.alloc (.cells #[.func (.func 74) #[] #[.pointer (some ⟨w.heap.size, 0, none⟩), .pointer (some ⟨w2.heap.size, 0, none⟩), .pointer (some ⟨w5.heap.size, 0, none⟩)]] 122) = v := ⟨_, rfl⟩
    rw [hw] at hlt q_w q_s O_s B_b q_b S_c q_c hB ⊢
    clear hw hst
    have sz_w6 := hlt
    clear hlt
    have HQ := Lib.hid (And.intro q_s (And.intro O_s (And.intro B_b (And.intro q_b (And.intro S_c (And.intro q_c (And.intro q_w hB)))))))
    clear q_s O_s B_b q_b S_c q_c q_w hB
    have c_q_s0 := LK.cell HQ.out.1 0
    have c_q_s1 := LK.cell HQ.out.1 1
    have c_q_s2 := LK.cell HQ.out.1 2
    have c_q_s3 := LK.cell HQ.out.1 3
    have c_q_b0 := LK.cell HQ.out.2.2.2.1 0
    have c_q_c0 := LK.cell HQ.out.2.2.2.2.2.1 0
    have c_q_c1 := LK.cell HQ.out.2.2.2.2.2.1 1
    have c_q_w0 := LK.cell HQ.out.2.2.2.2.2.2.1 0
    simp at c_q_s0 c_q_s1 c_q_s2 c_q_s3 c_q_b0 c_q_c0 c_q_c1 c_q_w0
    go_wp2
    go_ret2
    exact ⟨rfl, HQ.out.2.2.2.2.2.2.2⟩
  have i6 : (0 : Int) < its.length := by omega
  go_upto_region 14 with (fail)
  clear c_q_s0 c_q_s1 c_q_s2 c_q_s3 c_q_b0 c_q_c0 c_q_c1
  obtain ⟨q_s, O_s, B_b, q_b, S_c, q_c, hB⟩ := HQ.out
  clear HQ
  have hst := (Below.refl w5.heap.size w5).alloc (Nat.le_refl _) (.cells #[.func (.func 74) #[] #[.pointer (some ⟨w.heap.size, 0, none⟩), .pointer (some ⟨w2.heap.size, 0, none⟩), .pointer (some ⟨w5.heap.size, 0, none⟩)]] 122)
  have hlt : w5.heap.size < (w5.alloc (.cells #[.func (.func 74) #[] #[.pointer (some ⟨w.heap.size, 0, none⟩), .pointer (some ⟨w2.heap.size, 0, none⟩), .pointer (some ⟨w5.heap.size, 0, none⟩)]] 122)).heap.size := by simp
  have q_w := LK.new w5 (.cells #[.func (.func 74) #[] #[.pointer (some ⟨w.heap.size, 0, none⟩), .pointer (some ⟨w2.heap.size, 0, none⟩), .pointer (some ⟨w5.heap.size, 0, none⟩)]] 122)
  replace q_s := q_s.step hst
  replace O_s := O_s.step hst
  replace B_b := B_b.step hst
  replace q_b := q_b.step hst
  replace S_c := S_c.step hst
  replace q_c := q_c.step hst
  replace hB := hB.step hst
  obtain ⟨w6, hw⟩ : ∃ v, w5.alloc (.cells #[.func (.func 74) #[] #[.pointer (some ⟨w.heap.size, 0, none⟩), .pointer (some ⟨w2.heap.size, 0, none⟩), .pointer (some ⟨w5.heap.size, 0, none⟩)]] 122) = v := ⟨_, rfl⟩
  rw [hw] at hlt q_w q_s O_s B_b q_b S_c q_c hB ⊢
  clear hw hst
  have sz_w6 := hlt
  clear hlt
  have HQ := Lib.hid (And.intro q_s (And.intro O_s (And.intro B_b (And.intro q_b (And.intro S_c (And.intro q_c (And.intro q_w hB)))))))
  clear q_s O_s B_b q_b S_c q_c q_w hB
  have c_q_s0 := LK.cell HQ.out.1 0
  have c_q_s1 := LK.cell HQ.out.1 1
  have c_q_s2 := LK.cell HQ.out.1 2
  have c_q_s3 := LK.cell HQ.out.1 3
  have c_q_b0 := LK.cell HQ.out.2.2.2.1 0
  have c_q_c0 := LK.cell HQ.out.2.2.2.2.2.1 0
  have c_q_c1 := LK.cell HQ.out.2.2.2.2.2.1 1
  have c_q_w0 := LK.cell HQ.out.2.2.2.2.2.2.1 0
  simp at c_q_s0 c_q_s1 c_q_s2 c_q_s3 c_q_b0 c_q_c0 c_q_c1 c_q_w0
  obtain ⟨ro, hro⟩ : ∃ z, wkGo (oneW s l) none its = z := ⟨_, rfl⟩
  obtain ⟨a1, b1, c1, hsp1⟩ : ∃ a1 b1 c1, spn ro = (a1, b1, c1) := ⟨_, _, _, rfl⟩
  have hA : WalkAt w6 w.heap.size w2.heap.size w5.heap.size w1.heap.size g nb no nc (.slice ab_s s.disk.blocks.length cb_s) (.slice au s.disk.waits.length s.disk.waits.length) (.slice ay_s s.last.length cy_s) (.slice ab_s s.disk.blocks.length cb_s) (.slice au_s s.disk.waits.length cu_s) (.slice ay_s s.last.length cy_s) (some ⟨b3, o3, none⟩) cx_s s := ⟨LK.blk HQ.out.1, HQ.out.2.1.n, LK.blk HQ.out.2.2.2.1, LK.blk HQ.out.2.2.2.2.2.2.1, HQ.out.2.2.1, HM.out⟩
  have hc9 := fwalk_any l _ _ _ _ _ _ _ _ _ _ _ _ _ _ _ _ s its (.slice ac its.length cc) _ hA HQ.out.2.2.2.2.1.v HMN.out
  rw [hro, hsp1] at hc9
  simp only [spanV, bV, wV] at hc9
  rw [hro] at hE
  have KW := Lib.hid hc9
  clear hA hc9
  have HRO := Lib.hid hro
  clear hro
  have hfd : ∀ (z1 z2 z3 z4 z5 z6 : Int) (c : Bool) (W : World), (Instr.field 124 (.agg #[.int .u8 z1, .int .u32 z2, .int .u32 z3, .int .u8 z4, .int .u32 z5, .int .u32 z6, .bool c]) 2).run Try.prog W = .ok (.bool c) W := fun _ _ _ _ _ _ _ _ => by kernel_rfl
  go_wp2_with fail
  refine (KW.out).mono ?_
  rintro e w7 ⟨rfl, hst⟩
  clear c_q_s0 c_q_s1 c_q_s2 c_q_s3 c_q_b0 c_q_c0 c_q_c1 c_q_w0
  obtain ⟨q_s, O_s, B_b, q_b, S_c, q_c, q_w, hB⟩ := HQ.out
  clear HQ
  have sz_w7 : w6.heap.size ≤ w7.heap.size := hst.size
  replace q_s := q_s.step hst
  replace O_s := O_s.step hst
  replace B_b := B_b.step hst
  replace q_b := q_b.step hst
  replace S_c := S_c.step hst
  replace q_c := q_c.step hst
  replace q_w := q_w.step hst
  replace hB := hB.step hst
  clear hst
  have HQ := Lib.hid (And.intro q_s (And.intro O_s (And.intro B_b (And.intro q_b (And.intro S_c (And.intro q_c (And.intro q_w hB)))))))
  clear q_s O_s B_b q_b S_c q_c q_w hB
  have c_q_s0 := LK.cell HQ.out.1 0
  have c_q_s1 := LK.cell HQ.out.1 1
  have c_q_s2 := LK.cell HQ.out.1 2
  have c_q_s3 := LK.cell HQ.out.1 3
  have c_q_b0 := LK.cell HQ.out.2.2.2.1 0
  have c_q_c0 := LK.cell HQ.out.2.2.2.2.2.1 0
  have c_q_c1 := LK.cell HQ.out.2.2.2.2.2.1 1
  have c_q_w0 := LK.cell HQ.out.2.2.2.2.2.2.1 0
  simp at c_q_s0 c_q_s1 c_q_s2 c_q_s3 c_q_b0 c_q_c0 c_q_c1 c_q_w0
  rcases hE with ⟨hr, rfl, rfl⟩ | ⟨⟨r, hr⟩, rfl, rfl⟩
  case inl =>
    subst hr
    cases hsp1
    go_wp2
    go_ret2
    exact ⟨rfl, HQ.out.2.2.2.2.2.2.2⟩
  subst hr
  cases hsp1
  go_wp2
  go_ret2
  exact ⟨rfl, HQ.out.2.2.2.2.2.2.2⟩
end Go.Proofs.Ytcibihakjcenaaa

namespace Go.Proofs.Ytcibihakjcenaaa
open Go.RowKit

theorem kp_five {lo hi r : Nat} (z : World) (a b c d e : Value) (h : r < lo ∨ hi ≤ r) : Kp lo hi z (((((z.setCell ⟨r, 0, none⟩ a).setCell ⟨r, 1, none⟩ b).setCell ⟨r, 2, none⟩ c).setCell ⟨r, 3, none⟩ d).setCell ⟨r, 4, none⟩ e) :=
  (kp_four z a b c d h).trans (kp_at _ 4 e h)
/-- Bytes in new memory, behind stores into a box ahead of them. -/
theorem madeB_five {w z : World} {lo hi : Nat} {v : Value} {l : List UInt8} (hb : Bytes z lo hi v l) (ht : Thawed z v) (hB : Below w.heap.size w z) {r : Nat} (h1 : w.heap.size ≤ r) (h2 : r < lo) (h3 : hi ≤ z.heap.size) (a b c d e : Value) :
    MadeB w (((((z.setCell ⟨r, 0, none⟩ a).setCell ⟨r, 1, none⟩ b).setCell ⟨r, 2, none⟩ c).setCell ⟨r, 3, none⟩ d).setCell ⟨r, 4, none⟩ e) v l :=
  have hk := kp_five (lo := lo) (hi := hi) z a b c d e (.inl h2)
  ⟨(hb.kept hk).more (by omega) (by simp only [World.size_setCell]; exact h3), thawed_kept hb ht hk, (below_four z a b c d h1 |> fun h => (hB.trans h)).setCell (p := ⟨r, 4, none⟩) h1 e⟩
theorem find_ways (s : StoreL) (p : Int) (K : KeyL) : (errCk s p ≠ 0 ∧ errFd s p K = errCk s p ∧ itmF s p K = nokI) ∨ (errCk s p = 0 ∧ mayS s = true ∧ ∃ (pn l : Nat) (R : Option ItemL), p = pn ∧ 8 ≤ pn ∧ pn < 256 ∧ errBn s pn = 0 ∧ (nodeB s pn).level = (l : Int) ∧ l < 6 ∧
    (l = 0 ∨ ∃ r, wkGo (oneW s l) none (nodeB s pn).items = some r) ∧ R = fndW s l (nodeB s pn) K ∧ (R = none → errFd s p K = 6 ∧ itmF s p K = nokI) ∧ ∀ y, R = some y → errFd s p K = 0 ∧ itmF s p K = y) := by
  by_cases h : errCk s p = 0
  case neg =>
    have e : errFd s p K = errCk s p := by unfold errFd; rw [if_pos h]
    exact .inl ⟨h, e, by unfold itmF; rw [e, if_neg h]⟩
  have T := errCk_zero h
  obtain ⟨pn, rfl⟩ : ∃ pn : Nat, p = pn := ⟨p.toNat, by have := T.lo; omega⟩
  have t1 := T.lo
  have t2 := T.hi
  refine .inr ⟨h, T.may, pn, _, _, rfl, by omega, by omega, T.err, T.level, T.lev, ?_, rfl, fun hR => ?_, fun y hR => ?_⟩
  · rcases T.top with ⟨_, h3⟩ | h3
    · exact .inl h3
    · exact .inr h3
  · rw [Int.toNat_natCast] at hR
    have e : errFd s (pn : Int) K = 6 := by
      unfold errFd fndC
      rw [if_neg (by simp [h]), Int.toNat_natCast, hR]; rfl
    exact ⟨e, by unfold itmF; rw [e]; rfl⟩
  · rw [Int.toNat_natCast] at hR
    have e : errFd s (pn : Int) K = 0 := by
      unfold errFd fndC
      rw [if_neg (by simp [h]), Int.toNat_natCast, hR]; rfl
    exact ⟨e, by unfold itmF fndC; rw [e, if_pos rfl, Int.toNat_natCast, hR]; rfl⟩
/-- A round: where the way goes on. -/
theorem find_round {s : StoreL} (hm : mayS s = true) {l q : Nat} {its : List ItemL} {K : KeyL} {R : Option ItemL} (he : errBn s q = 0) (hn : nodeB s q = ⟨(l : Int), its⟩) (ht : l = 0 ∨ ∃ r, wkGo (oneW s l) none (nodeB s q).items = some r) (hR : R = fndW s l (nodeB s q) K) :
    cntN its K ≤ its.length ∧ (isN its K = true → cntN its K < its.length) ∧ (l = 0 → R = if isN its K = true then some (its.getD (cntN its K) nokI) else none) ∧ ∀ l', l = l' + 1 →
      (isN its K = false → cntN its K = 0 → R = none) ∧ ∀ j, j < its.length → ∃ q2 : Nat, (its.getD j nokI).ref = q2 ∧ 8 ≤ q2 ∧ q2 < 256 ∧ errBn s q2 = 0 ∧ (nodeB s q2).level = (l' : Int) ∧ (l' = 0 ∨ ∃ r, wkGo (oneW s l') none (nodeB s q2).items = some r) ∧
        (isN its K = true → j = cntN its K → R = fndW s l' (nodeB s q2) K) ∧ (isN its K = false → cntN its K ≠ 0 → j = cntN its K - 1 → R = fndW s l' (nodeB s q2) K) := by
  have hmn := nodeB_may he
  rw [hn] at ht hR hmn
  refine ⟨cntN_le _ _, fun h => ?_, ?_, ?_⟩
  · unfold isN at h
    rw [Bool.and_eq_true, decide_eq_true_eq] at h
    exact h.1
  · rintro rfl
    rw [hR, fndW]
  · rintro l' rfl
    obtain ⟨r, hr⟩ := ht.resolve_left (by omega)
    rw [fndW] at hR
    refine ⟨fun h1 h2 => by rw [hR, h1, if_neg (by decide), if_pos h2], fun j hj => ?_⟩
    have hx : its.getD j nokI ∈ its := by
      rw [List.getD_eq_getElem?_getD, List.getElem?_eq_getElem hj]
      exact List.getElem_mem hj
    obtain ⟨ab, ho⟩ := wkGo_each _ _ _ _ hr _ hx
    obtain ⟨e1, e2, e3, e4⟩ := oneW_succ ho
    obtain ⟨r1, r2⟩ := ref_of hm ho (may_refs hmn _ hx)
    obtain ⟨q2, hq2⟩ : ∃ q2 : Nat, (its.getD j nokI).ref = q2 := ⟨(its.getD j nokI).ref.toNat, by omega⟩
    rw [hq2, Int.toNat_natCast] at e1 e2 e4
    refine ⟨q2, hq2, by omega, by omega, e1, e2, .inr ⟨ab, e4⟩, fun h1 h2 => ?_, fun h1 h2 h3 => ?_⟩
    · rw [hR, if_pos h1, ← h2, hq2, Int.toNat_natCast]
    · rw [hR, h1, if_neg (by decide), if_neg h2, ← h3, hq2, Int.toNat_natCast]
set_option maxRecDepth 100000 in
set_option maxHeartbeats 2000000 in
theorem ffind_any (b_s u_s x_s y_s : Value) (s : StoreL) (p : Int) (k : KeyL) (w : World) (h_s : StoreV w 0 w.heap.size b_s u_s x_s y_s s) :
    Calls Try.prog 29 #[.agg #[b_s, u_s, x_s, y_s], .int .i64 p, .agg #[bV k.kind, wV k.id, wV k.off]] w fun e w' => ∃ v, e = .returned (.tuple #[itemV (itmF s p k) v, .int .i64 (errFd s p k)]) ∧ MadeB w w' v (itmF s p k).val := by
  obtain ⟨ab_s, cb_s, rfl, gb_s, gc_s, -, -⟩ := h_s.1.1
  obtain ⟨au_s, cu_s, rfl, gu_s, gv_s, -, -⟩ := h_s.1.2
  obtain ⟨ax_s, cx_s, rfl, gx_s, gz_s⟩ := h_s.2.1.form rfl
  obtain ⟨ay_s, cy_s, rfl, gy_s, gw_s⟩ := h_s.2.2.form rfl
  unfold maxLen at gc_s gv_s gz_s gw_s
  obtain ⟨k_k, k_i, k_o⟩ := k
  simp only [bV, wV]
  have hst := ((((Below.refl w.heap.size w).alloc (Nat.le_refl _) (.cells #[.slice ab_s s.disk.blocks.length cb_s, .slice au_s s.disk.waits.length cu_s, .slice ax_s s.now.length cx_s, .slice ay_s s.last.length cy_s] 46)).alloc (by simp) (.cells #[.int .u8 (k_k.toNat : Int), .int .u32 (k_i.toNat : Int), .int .u32 (k_o.toNat : Int)] 48)).alloc (by simp; omega) (.cells #[.int .u8 0, .int .u32 0, .int .u32 0, .int .i64 0, .slice none 0 0] 56))
  have hq := three_new w (.cells #[.slice ab_s s.disk.blocks.length cb_s, .slice au_s s.disk.waits.length cu_s, .slice ax_s s.now.length cx_s, .slice ay_s s.last.length cy_s] 46) (.cells #[.int .u8 (k_k.toNat : Int), .int .u32 (k_i.toNat : Int), .int .u32 (k_o.toNat : Int)] 48) (.cells #[.int .u8 0, .int .u32 0, .int .u32 0, .int .i64 0, .slice none 0 0] 56)
  have q_s := LK.of hq.1
  have q_k := LK.of hq.2.1
  have q_r := LK.of hq.2.2
  have hB : LW w _ := hst
  have O_s := (LO.of h_s (Nat.le_refl _)).step hst
  have sz_V : w.heap.size + 2 < (((w.alloc (.cells #[.slice ab_s s.disk.blocks.length cb_s, .slice au_s s.disk.waits.length cu_s, .slice ax_s s.now.length cx_s, .slice ay_s s.last.length cy_s] 46)).alloc (.cells #[.int .u8 (k_k.toNat : Int), .int .u32 (k_i.toNat : Int), .int .u32 (k_o.toNat : Int)] 48)).alloc (.cells #[.int .u8 0, .int .u32 0, .int .u32 0, .int .i64 0, .slice none 0 0] 56)).heap.size := by simp
  obtain ⟨V, hV⟩ : ∃ V, (((w.alloc (.cells #[.slice ab_s s.disk.blocks.length cb_s, .slice au_s s.disk.waits.length cu_s, .slice ax_s s.now.length cx_s, .slice ay_s s.last.length cy_s] 46)).alloc (.cells #[.int .u8 (k_k.toNat : Int), .int .u32 (k_i.toNat : Int), .int .u32 (k_o.toNat : Int)] 48)).alloc (.cells #[.int .u8 0, .int .u32 0, .int .u32 0, .int .i64 0, .slice none 0 0] 56)) = V := ⟨_, rfl⟩
  rw [hV] at sz_V q_s q_k q_r O_s hB
  clear hst h_s hq
  have HQ := Lib.hid (And.intro q_s (And.intro q_k (And.intro q_r (And.intro O_s hB))))
  clear q_s q_k q_r O_s hB
  have c_q_s0 := LK.cell HQ.out.1 0
  have c_q_s1 := LK.cell HQ.out.1 1
  have c_q_s2 := LK.cell HQ.out.1 2
  have c_q_s3 := LK.cell HQ.out.1 3
  have c_q_k0 := LK.cell HQ.out.2.1 0
  have c_q_k1 := LK.cell HQ.out.2.1 1
  have c_q_k2 := LK.cell HQ.out.2.1 2
  have c_q_r0 := LK.cell HQ.out.2.2.1 0
  have c_q_r1 := LK.cell HQ.out.2.2.1 1
  have c_q_r2 := LK.cell HQ.out.2.2.1 2
  have c_q_r3 := LK.cell HQ.out.2.2.1 3
  have c_q_r4 := LK.cell HQ.out.2.2.1 4
  simp at c_q_s0 c_q_s1 c_q_s2 c_q_s3 c_q_k0 c_q_k1 c_q_k2 c_q_r0 c_q_r1 c_q_r2 c_q_r3 c_q_r4
  have m_c := fun V b u x y hh => fcheck_any b u x y s p V hh
  have m_o := fun (h : s.now.length = 256) V b u x y hh => on_any b u x y s V hh h
  have m_b := fun (pn : Nat) (h : mayD s.disk = true) (hp : pn < 256) lo g nb no nc b u y V hh => bnode_any lo g nb no nc b u y s pn V hh h hp
  have m_p := fun lv its v V hh => nplace_any lv its v ⟨k_k, k_i, k_o⟩ V hh
  simp only [keyV, bV, wV] at m_p
  have hE := find_ways s p ⟨k_k, k_i, k_o⟩
  simp only [itemV]
  obtain ⟨ec, hec⟩ : ∃ e, errCk s p = e := ⟨_, rfl⟩
  obtain ⟨ef, hef⟩ : ∃ e, errFd s p ⟨k_k, k_i, k_o⟩ = e := ⟨_, rfl⟩
  obtain ⟨it, hit⟩ : ∃ e, itmF s p ⟨k_k, k_i, k_o⟩ = e := ⟨_, rfl⟩
  obtain ⟨hc, hhc⟩ : ∃ e, heiC s p = e := ⟨_, rfl⟩
  simp only [hec, hef, hit, hhc] at hE m_c ⊢
  clear hec hef hit hhc
  have HC := Lib.hid (And.intro m_c (And.intro m_o (And.intro m_b m_p)))
  clear m_c m_o m_b m_p
  go_enter Try.func29, Try.ntmps29
  go_upto_region 1 with (fail)
  clear hV
  go_step3
  go_wp2_with fail
  refine (HC.out.1 _ _ _ _ _ HQ.out.2.2.2.1.v).mono ?_
  rintro e w1 ⟨rfl, hst⟩
  clear c_q_s0 c_q_s1 c_q_s2 c_q_s3 c_q_k0 c_q_k1 c_q_k2 c_q_r0 c_q_r1 c_q_r2 c_q_r3 c_q_r4
  obtain ⟨q_s, q_k, q_r, O_s, hB⟩ := HQ.out
  clear HQ
  have sz_w1 : V.heap.size ≤ w1.heap.size := hst.size
  replace q_s := q_s.step hst
  replace q_k := q_k.step hst
  replace q_r := q_r.step hst
  replace O_s := O_s.step hst
  replace hB := hB.step hst
  clear hst
  have HQ := Lib.hid (And.intro q_s (And.intro q_k (And.intro q_r (And.intro O_s hB))))
  clear q_s q_k q_r O_s hB
  have c_q_s0 := LK.cell HQ.out.1 0
  have c_q_s1 := LK.cell HQ.out.1 1
  have c_q_s2 := LK.cell HQ.out.1 2
  have c_q_s3 := LK.cell HQ.out.1 3
  have c_q_k0 := LK.cell HQ.out.2.1 0
  have c_q_k1 := LK.cell HQ.out.2.1 1
  have c_q_k2 := LK.cell HQ.out.2.1 2
  have c_q_r0 := LK.cell HQ.out.2.2.1 0
  have c_q_r1 := LK.cell HQ.out.2.2.1 1
  have c_q_r2 := LK.cell HQ.out.2.2.1 2
  have c_q_r3 := LK.cell HQ.out.2.2.1 3
  have c_q_r4 := LK.cell HQ.out.2.2.1 4
  have z_q_r0 := LK.frozen HQ.out.2.2.1 0
  have z_q_r1 := LK.frozen HQ.out.2.2.1 1
  have z_q_r2 := LK.frozen HQ.out.2.2.1 2
  have z_q_r3 := LK.frozen HQ.out.2.2.1 3
  have z_q_r4 := LK.frozen HQ.out.2.2.1 4
  simp at c_q_s0 c_q_s1 c_q_s2 c_q_s3 c_q_k0 c_q_k1 c_q_k2 c_q_r0 c_q_r1 c_q_r2 c_q_r3 c_q_r4
  rcases hE with ⟨hn, rfl, rfl⟩ | ⟨rfl, hm, pn, l0, R, rfl, h8, h9, he0, hl0, hl6, ht0, hR0, hRn, hRs⟩
  case inl =>
    have i1 : (ef == 0) = false := by simp [hn]
    have i2 : (ef != 0) = true := by simp [hn]
    clear z_q_r0 z_q_r1 z_q_r2 z_q_r3 z_q_r4 c_q_s0 c_q_s1 c_q_s2 c_q_s3 c_q_k0 c_q_k1 c_q_k2 c_q_r0 c_q_r1 c_q_r2 c_q_r3 c_q_r4
    have c_q_s0 := LK.cell HQ.out.1 0
    have c_q_s1 := LK.cell HQ.out.1 1
    have c_q_s2 := LK.cell HQ.out.1 2
    have c_q_s3 := LK.cell HQ.out.1 3
    have c_q_k0 := LK.cell HQ.out.2.1 0
    have c_q_k1 := LK.cell HQ.out.2.1 1
    have c_q_k2 := LK.cell HQ.out.2.1 2
    have c_q_r0 := LK.cell HQ.out.2.2.1 0
    have c_q_r1 := LK.cell HQ.out.2.2.1 1
    have c_q_r2 := LK.cell HQ.out.2.2.1 2
    have c_q_r3 := LK.cell HQ.out.2.2.1 3
    have c_q_r4 := LK.cell HQ.out.2.2.1 4
    have z_q_r0 := LK.frozen HQ.out.2.2.1 0
    have z_q_r1 := LK.frozen HQ.out.2.2.1 1
    have z_q_r2 := LK.frozen HQ.out.2.2.1 2
    have z_q_r3 := LK.frozen HQ.out.2.2.1 3
    have z_q_r4 := LK.frozen HQ.out.2.2.1 4
    simp at c_q_s0 c_q_s1 c_q_s2 c_q_s3 c_q_k0 c_q_k1 c_q_k2 c_q_r0 c_q_r1 c_q_r2 c_q_r3 c_q_r4
    have hBf := HQ.out.2.2.2.2
    go_wp2
    first | rw [Exit.noGoto_ret] | skip
    refine bodyPost_ret (v := .tuple #[.agg #[.int .u8 0, .int .u32 0, .int .u32 0, .int .i64 0, .slice none 0 0], .int .i64 ef]) (by simp [results, Try.results29, go_sem, c_q_r0, c_q_r1, c_q_r2, c_q_r3, c_q_r4]) rfl ⟨.slice none 0 0, rfl, ?_⟩
    exact MadeB.nil_ (((below_four _ _ _ _ _ (by omega) |> fun h => (hBf.trans h)).setCell (p := ⟨(w.heap.size + 1 + 1), 4, none⟩) (by simp; omega) _))
  have h256 := mayT_len (mayS_iff.1 hm).2.1
  have HM := Lib.hid (And.intro hm h256)
  have HR := Lib.hid (And.intro hRn hRs)
  have H0 := Lib.hid (And.intro he0 (And.intro hl0 (And.intro ht0 hR0)))
  clear hm h256 hRn hRs he0 hl0 ht0 hR0
  go_wp2_with fail
  refine (HC.out.2.1 HM.out.2 _ _ _ _ _ HQ.out.2.2.2.1.v).mono ?_
  rintro e w2 ⟨g, nb, no, nc, au, rfl, hben, hst⟩
  clear z_q_r0 z_q_r1 z_q_r2 z_q_r3 z_q_r4 c_q_s0 c_q_s1 c_q_s2 c_q_s3 c_q_k0 c_q_k1 c_q_k2 c_q_r0 c_q_r1 c_q_r2 c_q_r3 c_q_r4
  obtain ⟨q_s, q_k, q_r, O_s, hB⟩ := HQ.out
  clear HQ
  have B_b := hben
  clear hben
  have sz_w2 : w1.heap.size ≤ w2.heap.size := hst.size
  replace q_s := q_s.step hst
  replace q_k := q_k.step hst
  replace q_r := q_r.step hst
  replace O_s := O_s.step hst
  replace hB := hB.step hst
  clear hst
  have HQ := Lib.hid (And.intro q_s (And.intro q_k (And.intro q_r (And.intro O_s (And.intro B_b hB)))))
  clear q_s q_k q_r O_s B_b hB
  have c_q_s0 := LK.cell HQ.out.1 0
  have c_q_s1 := LK.cell HQ.out.1 1
  have c_q_s2 := LK.cell HQ.out.1 2
  have c_q_s3 := LK.cell HQ.out.1 3
  have c_q_k0 := LK.cell HQ.out.2.1 0
  have c_q_k1 := LK.cell HQ.out.2.1 1
  have c_q_k2 := LK.cell HQ.out.2.1 2
  have c_q_r0 := LK.cell HQ.out.2.2.1 0
  have c_q_r1 := LK.cell HQ.out.2.2.1 1
  have c_q_r2 := LK.cell HQ.out.2.2.1 2
  have c_q_r3 := LK.cell HQ.out.2.2.1 3
  have c_q_r4 := LK.cell HQ.out.2.2.1 4
  simp at c_q_s0 c_q_s1 c_q_s2 c_q_s3 c_q_k0 c_q_k1 c_q_k2 c_q_r0 c_q_r1 c_q_r2 c_q_r3 c_q_r4
  go_wp2
  go_step3
  go_wp2_with fail
  go_loopg [10] 6 (fun g2 at_ wr => ∃ l q : Nat, l ≤ g2 ∧ l < 6 ∧ at_ = .int .i64 q ∧ 8 ≤ q ∧ q < 256 ∧ errBn s q = 0 ∧ (nodeB s q).level = (l : Int) ∧ (l = 0 ∨ ∃ r, wkGo (oneW s l) none (nodeB s q).items = some r) ∧ R = fndW s l (nodeB s q) ⟨k_k, k_i, k_o⟩ ∧ Below w2.heap.size w2 wr)
  case atStart => exact ⟨l0, pn, by omega, hl6, rfl, h8, h9, H0.out.1, H0.out.2.1, H0.out.2.2.1, H0.out.2.2.2, Below.refl _ _⟩
  case round =>
  obtain ⟨l, q, hg, hl6q, rfl, h8q, h9q, he, hlv, ht, hR, hst⟩ := hrel
  clear H0 h8 h9 hl6
  clear c_q_s0 c_q_s1 c_q_s2 c_q_s3 c_q_k0 c_q_k1 c_q_k2 c_q_r0 c_q_r1 c_q_r2 c_q_r3 c_q_r4
  obtain ⟨q_s, q_k, q_r, O_s, B_b, hB⟩ := HQ.out
  clear HQ
  replace q_s := q_s.step hst
  replace q_k := q_k.step hst
  replace q_r := q_r.step hst
  replace O_s := O_s.step hst
  replace B_b := B_b.step hst
  replace hB := hB.step hst
  have sz_wr := hst.size
  have hW : LW w2 wr := hst
  clear hst
  have HQ := Lib.hid (And.intro q_s (And.intro q_k (And.intro q_r (And.intro O_s (And.intro B_b (And.intro hW hB))))))
  clear q_s q_k q_r O_s B_b hW hB
  obtain ⟨its, hnd⟩ : ∃ its, nodeB s q = ⟨(l : Int), its⟩ := ⟨(nodeB s q).items, by
    cases hh : nodeB s q with
    | mk a b => rw [hh] at hlv; simp only at hlv; rw [hlv]⟩
  have hfr := find_round HM.out.1 he hnd ht hR
  obtain ⟨hc1, hc2, hc3, hc4⟩ := hfr
  have hnn := its.length
  clear hnn
  go_wp2_with fail
  refine (HC.out.2.2.1 q (mayS_iff.1 HM.out.1).1 h9q _ _ _ _ _ _ _ _ _ HQ.out.2.2.2.2.1).mono ?_
  rintro e w3 ⟨vn, rfl, hsl, hst⟩
  obtain ⟨q_s, q_k, q_r, O_s, B_b, hW, hB⟩ := HQ.out
  clear HQ
  rw [hnd] at hsl
  simp only at hsl
  have S_c := LS.of hsl (Nat.le_refl _)
  obtain ⟨ac, cc, rfl, gc1, gc2, -, -⟩ := id hsl
  unfold maxLen at gc2
  clear hsl
  have sz_w3 : wr.heap.size ≤ w3.heap.size := hst.size
  replace q_s := q_s.step hst
  replace q_k := q_k.step hst
  replace q_r := q_r.step hst
  replace O_s := O_s.step hst
  replace B_b := B_b.step hst
  replace hW := hW.step hst
  replace hB := hB.step hst
  clear hst
  have HQ := Lib.hid (And.intro q_s (And.intro q_k (And.intro q_r (And.intro O_s (And.intro B_b (And.intro hW (And.intro S_c hB)))))))
  clear q_s q_k q_r O_s B_b hW S_c hB
  have c_q_s0 := LK.cell HQ.out.1 0
  have c_q_s1 := LK.cell HQ.out.1 1
  have c_q_s2 := LK.cell HQ.out.1 2
  have c_q_s3 := LK.cell HQ.out.1 3
  have c_q_k0 := LK.cell HQ.out.2.1 0
  have c_q_k1 := LK.cell HQ.out.2.1 1
  have c_q_k2 := LK.cell HQ.out.2.1 2
  have c_q_r0 := LK.cell HQ.out.2.2.1 0
  have c_q_r1 := LK.cell HQ.out.2.2.1 1
  have c_q_r2 := LK.cell HQ.out.2.2.1 2
  have c_q_r3 := LK.cell HQ.out.2.2.1 3
  have c_q_r4 := LK.cell HQ.out.2.2.1 4
  simp at c_q_s0 c_q_s1 c_q_s2 c_q_s3 c_q_k0 c_q_k1 c_q_k2 c_q_r0 c_q_r1 c_q_r2 c_q_r3 c_q_r4
  rw [hnd, he]
  simp only
  go_upto_region 6 with (fail)
  clear c_q_s0 c_q_s1 c_q_s2 c_q_s3 c_q_k0 c_q_k1 c_q_k2 c_q_r0 c_q_r1 c_q_r2 c_q_r3 c_q_r4
  obtain ⟨q_s, q_k, q_r, O_s, B_b, hW, S_c, hB⟩ := HQ.out
  clear HQ
  have hst := (Below.refl w3.heap.size w3).alloc (Nat.le_refl _) (.cells #[.int .i64 (l : Int), .slice ac its.length cc] 119)
  have hlt : w3.heap.size < (w3.alloc (.cells #[.int .i64 (l : Int), .slice ac its.length cc] 119)).heap.size := by simp
  have q_c := LK.new w3 (.cells #[.int .i64 (l : Int), .slice ac its.length cc] 119)
  replace q_s := q_s.step hst
  replace q_k := q_k.step hst
  replace q_r := q_r.step hst
  replace O_s := O_s.step hst
  replace B_b := B_b.step hst
  replace hW := hW.step hst
  replace S_c := S_c.step hst
  replace hB := hB.step hst
  obtain ⟨w4, hw⟩ : ∃ v, w3.alloc (.cells #[.int .i64 (l : Int), .slice ac its.length cc] 119) = v := ⟨_, rfl⟩
  rw [hw] at hlt q_c q_s q_k q_r O_s B_b hW S_c hB ⊢
  clear hw hst
  have sz_w4 := hlt
  clear hlt
  have HQ := Lib.hid (And.intro q_s (And.intro q_k (And.intro q_r (And.intro O_s (And.intro B_b (And.intro hW (And.intro S_c (And.intro q_c hB))))))))
  clear q_s q_k q_r O_s B_b hW S_c q_c hB
  have c_q_s0 := LK.cell HQ.out.1 0
  have c_q_s1 := LK.cell HQ.out.1 1
  have c_q_s2 := LK.cell HQ.out.1 2
  have c_q_s3 := LK.cell HQ.out.1 3
  have c_q_k0 := LK.cell HQ.out.2.1 0
  have c_q_k1 := LK.cell HQ.out.2.1 1
  have c_q_k2 := LK.cell HQ.out.2.1 2
  have c_q_r0 := LK.cell HQ.out.2.2.1 0
  have c_q_r1 := LK.cell HQ.out.2.2.1 1
  have c_q_r2 := LK.cell HQ.out.2.2.1 2
  have c_q_r3 := LK.cell HQ.out.2.2.1 3
  have c_q_r4 := LK.cell HQ.out.2.2.1 4
  have c_q_c0 := LK.cell HQ.out.2.2.2.2.2.2.2.1 0
  have c_q_c1 := LK.cell HQ.out.2.2.2.2.2.2.2.1 1
  simp at c_q_s0 c_q_s1 c_q_s2 c_q_s3 c_q_k0 c_q_k1 c_q_k2 c_q_r0 c_q_r1 c_q_r2 c_q_r3 c_q_r4 c_q_c0 c_q_c1
  have hsi := sl_itemT HQ.out.2.2.2.2.2.2.1.v
  clear hnd he hlv ht hR
  obtain ⟨ct, hct⟩ : ∃ z, cntN its ⟨k_k, k_i, k_o⟩ = z := ⟨_, rfl⟩
  obtain ⟨bs, hbs⟩ : ∃ z, isN its ⟨k_k, k_i, k_o⟩ = z := ⟨_, rfl⟩
  have kp := HC.out.2.2.2 (l : Int) its
  rw [hct, hbs] at kp
  rw [hct, hbs] at hc2 hc3 hc4
  rw [hct] at hc1
  clear hct hbs
  have H1 := Lib.hid (And.intro hc3 hc4)
  have KP := Lib.hid kp
  have HS := Lib.hid hsi
  clear hc3 hc4 kp hsi
  go_wp2_with fail
  refine (KP.out _ _ HS.out).mono ?_
  rintro e w5 ⟨rfl, hst⟩
  clear c_q_s0 c_q_s1 c_q_s2 c_q_s3 c_q_k0 c_q_k1 c_q_k2 c_q_r0 c_q_r1 c_q_r2 c_q_r3 c_q_r4 c_q_c0 c_q_c1
  obtain ⟨q_s, q_k, q_r, O_s, B_b, hW, S_c, q_c, hB⟩ := HQ.out
  clear HQ
  have sz_w5 : w4.heap.size ≤ w5.heap.size := hst.size
  replace q_s := q_s.step hst
  replace q_k := q_k.step hst
  replace q_r := q_r.step hst
  replace O_s := O_s.step hst
  replace B_b := B_b.step hst
  replace hW := hW.step hst
  replace S_c := S_c.step hst
  replace q_c := q_c.step hst
  replace hB := hB.step hst
  clear hst
  have HQ := Lib.hid (And.intro q_s (And.intro q_k (And.intro q_r (And.intro O_s (And.intro B_b (And.intro hW (And.intro S_c (And.intro q_c hB))))))))
  clear q_s q_k q_r O_s B_b hW S_c q_c hB
  have c_q_s0 := LK.cell HQ.out.1 0
  have c_q_s1 := LK.cell HQ.out.1 1
  have c_q_s2 := LK.cell HQ.out.1 2
  have c_q_s3 := LK.cell HQ.out.1 3
  have c_q_k0 := LK.cell HQ.out.2.1 0
  have c_q_k1 := LK.cell HQ.out.2.1 1
  have c_q_k2 := LK.cell HQ.out.2.1 2
  have c_q_r0 := LK.cell HQ.out.2.2.1 0
  have c_q_r1 := LK.cell HQ.out.2.2.1 1
  have c_q_r2 := LK.cell HQ.out.2.2.1 2
  have c_q_r3 := LK.cell HQ.out.2.2.1 3
  have c_q_r4 := LK.cell HQ.out.2.2.1 4
  have z_q_r0 := LK.frozen HQ.out.2.2.1 0
  have z_q_r1 := LK.frozen HQ.out.2.2.1 1
  have z_q_r2 := LK.frozen HQ.out.2.2.1 2
  have z_q_r3 := LK.frozen HQ.out.2.2.1 3
  have z_q_r4 := LK.frozen HQ.out.2.2.1 4
  have c_q_c0 := LK.cell HQ.out.2.2.2.2.2.2.2.1 0
  have c_q_c1 := LK.cell HQ.out.2.2.2.2.2.2.2.1 1
  simp at c_q_s0 c_q_s1 c_q_s2 c_q_s3 c_q_k0 c_q_k1 c_q_k2 c_q_r0 c_q_r1 c_q_r2 c_q_r3 c_q_r4 c_q_c0 c_q_c1
  by_cases hl : l = 0
  case pos =>
    subst hl
    have hR := H1.out.1 rfl
    clear H1
    cases bs
    case false =>
      rw [if_neg (by decide)] at hR
      obtain ⟨rfl, rfl⟩ := HR.out.1 hR
      clear z_q_r0 z_q_r1 z_q_r2 z_q_r3 z_q_r4 c_q_s0 c_q_s1 c_q_s2 c_q_s3 c_q_k0 c_q_k1 c_q_k2 c_q_r0 c_q_r1 c_q_r2 c_q_r3 c_q_r4 c_q_c0 c_q_c1
      have c_q_s0 := LK.cell HQ.out.1 0
      have c_q_s1 := LK.cell HQ.out.1 1
      have c_q_s2 := LK.cell HQ.out.1 2
      have c_q_s3 := LK.cell HQ.out.1 3
      have c_q_k0 := LK.cell HQ.out.2.1 0
      have c_q_k1 := LK.cell HQ.out.2.1 1
      have c_q_k2 := LK.cell HQ.out.2.1 2
      have c_q_r0 := LK.cell HQ.out.2.2.1 0
      have c_q_r1 := LK.cell HQ.out.2.2.1 1
      have c_q_r2 := LK.cell HQ.out.2.2.1 2
      have c_q_r3 := LK.cell HQ.out.2.2.1 3
      have c_q_r4 := LK.cell HQ.out.2.2.1 4
      have z_q_r0 := LK.frozen HQ.out.2.2.1 0
      have z_q_r1 := LK.frozen HQ.out.2.2.1 1
      have z_q_r2 := LK.frozen HQ.out.2.2.1 2
      have z_q_r3 := LK.frozen HQ.out.2.2.1 3
      have z_q_r4 := LK.frozen HQ.out.2.2.1 4
      have c_q_c0 := LK.cell HQ.out.2.2.2.2.2.2.2.1 0
      have c_q_c1 := LK.cell HQ.out.2.2.2.2.2.2.2.1 1
      simp at c_q_s0 c_q_s1 c_q_s2 c_q_s3 c_q_k0 c_q_k1 c_q_k2 c_q_r0 c_q_r1 c_q_r2 c_q_r3 c_q_r4 c_q_c0 c_q_c1
      have hBf := HQ.out.2.2.2.2.2.2.2.2
      go_wp2
      first | rw [Exit.noGoto_ret] | skip
      refine bodyPost_ret (v := .tuple #[.agg #[.int .u8 0, .int .u32 0, .int .u32 0, .int .i64 0, .slice none 0 0], .int .i64 6]) (by simp [results, Try.results29, go_sem, c_q_r0, c_q_r1, c_q_r2, c_q_r3, c_q_r4]) rfl ⟨.slice none 0 0, rfl, ?_⟩
      exact MadeB.nil_ (((below_four _ _ _ _ _ (by omega) |> fun h => (hBf.trans h)).setCell (p := ⟨(w.heap.size + 1 + 1), 4, none⟩) (by simp; omega) _))
    case true =>
      rw [if_pos rfl] at hR
      obtain ⟨rfl, hy⟩ := HR.out.2 _ hR
      have hct := hc2 rfl
      clear z_q_r0 z_q_r1 z_q_r2 z_q_r3 z_q_r4 c_q_s0 c_q_s1 c_q_s2 c_q_s3 c_q_k0 c_q_k1 c_q_k2 c_q_r0 c_q_r1 c_q_r2 c_q_r3 c_q_r4 c_q_c0 c_q_c1
      have c_q_s0 := LK.cell HQ.out.1 0
      have c_q_s1 := LK.cell HQ.out.1 1
      have c_q_s2 := LK.cell HQ.out.1 2
      have c_q_s3 := LK.cell HQ.out.1 3
      have c_q_k0 := LK.cell HQ.out.2.1 0
      have c_q_k1 := LK.cell HQ.out.2.1 1
      have c_q_k2 := LK.cell HQ.out.2.1 2
      have c_q_r0 := LK.cell HQ.out.2.2.1 0
      have c_q_r1 := LK.cell HQ.out.2.2.1 1
      have c_q_r2 := LK.cell HQ.out.2.2.1 2
      have c_q_r3 := LK.cell HQ.out.2.2.1 3
      have c_q_r4 := LK.cell HQ.out.2.2.1 4
      have z_q_r0 := LK.frozen HQ.out.2.2.1 0
      have z_q_r1 := LK.frozen HQ.out.2.2.1 1
      have z_q_r2 := LK.frozen HQ.out.2.2.1 2
      have z_q_r3 := LK.frozen HQ.out.2.2.1 3
      have z_q_r4 := LK.frozen HQ.out.2.2.1 4
      have c_q_c0 := LK.cell HQ.out.2.2.2.2.2.2.2.1 0
      have c_q_c1 := LK.cell HQ.out.2.2.2.2.2.2.2.1 1
      simp at c_q_s0 c_q_s1 c_q_s2 c_q_s3 c_q_k0 c_q_k1 c_q_k2 c_q_r0 c_q_r1 c_q_r2 c_q_r3 c_q_r4 c_q_c0 c_q_c1
      have hjl : ct < its.length := by omega
      obtain ⟨bb, bo, cb, e1, lob, zb, -, zc, hcell⟩ := (Lv.get HQ.out.2.2.2.2.2.2.1).at_ (by omega)
      injection e1 with e1 _ e2
      subst e1 e2
      obtain ⟨f0, f1, f2, f3, -, vx, f4, hvx, htx⟩ := hcell (ct) (its.getD (ct) nokI) (get_l _ _ _ hjl)
      have hn5 : rItemT.n = 5 := rfl
      rw [hn5] at f0 f1 f2 f3 f4
      simp only [bV, wV, Nat.add_zero] at f0 f1 f2 f3 f4
      unfold maxLen at zc
      clear hcell hn5
      rw [← hy] at f0 f1 f2 f3 hvx
      obtain ⟨xn, hxn⟩ : ∃ xn, it.val.length = xn := ⟨_, rfl⟩
      obtain ⟨a_x, c_x, rfl, -, -⟩ := hvx.form hxn
      have hBf := HQ.out.2.2.2.2.2.2.2.2
      have hhi := Lv.hi_le HQ.out.2.2.2.2.2.2.1
      have HV := Lib.hid (And.intro hvx (And.intro htx hBf))
      clear hvx htx hBf hxn hR hy
      have i1 : (ct : Int) < its.length := by omega
      go_wp2
      first | rw [Exit.noGoto_ret] | skip
      refine bodyPost_ret (v := .tuple #[.agg #[.int .u8 (it.key.kind.toNat : Int), .int .u32 (it.key.id.toNat : Int), .int .u32 (it.key.off.toNat : Int), .int .i64 it.ref, .slice a_x xn c_x], .int .i64 0]) (by simp [results, Try.results29, go_sem, c_q_r0, c_q_r1, c_q_r2, c_q_r3, c_q_r4]) rfl ⟨_, rfl, ?_⟩
      exact madeB_five HV.out.1 HV.out.2.1 HV.out.2.2 (by omega) (by omega) hhi _ _ _ _ _
  obtain ⟨l, rfl⟩ : ∃ m, l = m + 1 := ⟨l - 1, by omega⟩
  clear hl
  obtain ⟨hx1, hx2⟩ := H1.out.2 l rfl
  clear H1
  have i3 : ¬ ((l + 1 : Nat) : Int) = 0 := by omega
  cases bs
  case false =>
    by_cases hc0 : ct = 0
    · subst hc0
      obtain ⟨rfl, rfl⟩ := HR.out.1 (hx1 rfl rfl)
      clear z_q_r0 z_q_r1 z_q_r2 z_q_r3 z_q_r4 c_q_s0 c_q_s1 c_q_s2 c_q_s3 c_q_k0 c_q_k1 c_q_k2 c_q_r0 c_q_r1 c_q_r2 c_q_r3 c_q_r4 c_q_c0 c_q_c1
      have c_q_s0 := LK.cell HQ.out.1 0
      have c_q_s1 := LK.cell HQ.out.1 1
      have c_q_s2 := LK.cell HQ.out.1 2
      have c_q_s3 := LK.cell HQ.out.1 3
      have c_q_k0 := LK.cell HQ.out.2.1 0
      have c_q_k1 := LK.cell HQ.out.2.1 1
      have c_q_k2 := LK.cell HQ.out.2.1 2
      have c_q_r0 := LK.cell HQ.out.2.2.1 0
      have c_q_r1 := LK.cell HQ.out.2.2.1 1
      have c_q_r2 := LK.cell HQ.out.2.2.1 2
      have c_q_r3 := LK.cell HQ.out.2.2.1 3
      have c_q_r4 := LK.cell HQ.out.2.2.1 4
      have z_q_r0 := LK.frozen HQ.out.2.2.1 0
      have z_q_r1 := LK.frozen HQ.out.2.2.1 1
      have z_q_r2 := LK.frozen HQ.out.2.2.1 2
      have z_q_r3 := LK.frozen HQ.out.2.2.1 3
      have z_q_r4 := LK.frozen HQ.out.2.2.1 4
      have c_q_c0 := LK.cell HQ.out.2.2.2.2.2.2.2.1 0
      have c_q_c1 := LK.cell HQ.out.2.2.2.2.2.2.2.1 1
      simp at c_q_s0 c_q_s1 c_q_s2 c_q_s3 c_q_k0 c_q_k1 c_q_k2 c_q_r0 c_q_r1 c_q_r2 c_q_r3 c_q_r4 c_q_c0 c_q_c1
      have hBf := HQ.out.2.2.2.2.2.2.2.2
      go_wp2
      first | rw [Exit.noGoto_ret] | skip
      refine bodyPost_ret (v := .tuple #[.agg #[.int .u8 0, .int .u32 0, .int .u32 0, .int .i64 0, .slice none 0 0], .int .i64 6]) (by simp [results, Try.results29, go_sem, c_q_r0, c_q_r1, c_q_r2, c_q_r3, c_q_r4]) rfl ⟨.slice none 0 0, rfl, ?_⟩
      exact MadeB.nil_ (((below_four _ _ _ _ _ (by omega) |> fun h => (hBf.trans h)).setCell (p := ⟨(w.heap.size + 1 + 1), 4, none⟩) (by simp; omega) _))
    have hc9 : (ct : Int) - 1 = ((ct - 1 : Nat) : Int) := by omega
    have i1 : ¬ (ct : Int) = 0 := by omega
    have i2 : ((ct - 1 : Nat) : Int) < its.length := by omega
    have hjl : ct - 1 < its.length := by omega
    obtain ⟨bb, bo, cb, e1, lob, zb, -, zc, hcell⟩ := (Lv.get HQ.out.2.2.2.2.2.2.1).at_ (by omega)
    injection e1 with e1 _ e2
    subst e1 e2
    obtain ⟨f0, f1, f2, f3, -, vx, f4, hvx, htx⟩ := hcell (ct - 1) (its.getD (ct - 1) nokI) (get_l _ _ _ hjl)
    have hn5 : rItemT.n = 5 := rfl
    rw [hn5] at f0 f1 f2 f3 f4
    simp only [bV, wV, Nat.add_zero] at f0 f1 f2 f3 f4
    unfold maxLen at zc
    clear hcell hn5
    obtain ⟨q2, hq2, h82, h92, he2, hl2, ht2, hy1, hy2⟩ := hx2 (ct - 1) hjl
    rw [hq2] at f3
    have hR2 := hy2 rfl hc0 rfl
    have hBf : Below w2.heap.size w2 w5 := HQ.out.2.2.2.2.2.1
    have HY := Lib.hid (And.intro he2 (And.intro hl2 (And.intro ht2 (And.intro hR2 hBf))))
    clear he2 hl2 ht2 hR2 hBf hy1 hy2 hx1 hx2 hq2 f0 f1 f2 f4 hvx htx
    go_wp2
    go_roundg l
    case measure => omega
    case rel => exact ⟨l, q2, Nat.le_refl _, by omega, rfl, h82, h92, HY.out.1, HY.out.2.1, HY.out.2.2.1, HY.out.2.2.2.1, HY.out.2.2.2.2⟩
  by_cases hc0 : ct = 0
  case pos =>
    subst hc0
    have hct := hc2 rfl
    have i1 : (0 : Int) < its.length := by omega
    have hjl : 0 < its.length := by omega
    obtain ⟨bb, bo, cb, e1, lob, zb, -, zc, hcell⟩ := (Lv.get HQ.out.2.2.2.2.2.2.1).at_ (by omega)
    injection e1 with e1 _ e2
    subst e1 e2
    obtain ⟨f0, f1, f2, f3, -, vx, f4, hvx, htx⟩ := hcell (0) (its.getD (0) nokI) (get_l _ _ _ hjl)
    have hn5 : rItemT.n = 5 := rfl
    rw [hn5] at f0 f1 f2 f3 f4
    simp only [bV, wV, Nat.add_zero] at f0 f1 f2 f3 f4
    unfold maxLen at zc
    clear hcell hn5
    obtain ⟨q2, hq2, h82, h92, he2, hl2, ht2, hy1, hy2⟩ := hx2 (0) hjl
    rw [hq2] at f3
    simp only [Nat.zero_mul, Nat.add_zero] at f3
    have hR2 := hy1 rfl rfl
    have hBf : Below w2.heap.size w2 w5 := HQ.out.2.2.2.2.2.1
    have HY := Lib.hid (And.intro he2 (And.intro hl2 (And.intro ht2 (And.intro hR2 hBf))))
    clear he2 hl2 ht2 hR2 hBf hy1 hy2 hx1 hx2 hq2 f0 f1 f2 f4 hvx htx
    go_wp2
    go_roundg l
    case measure => omega
    case rel => exact ⟨l, q2, Nat.le_refl _, by omega, rfl, h82, h92, HY.out.1, HY.out.2.1, HY.out.2.2.1, HY.out.2.2.2.1, HY.out.2.2.2.2⟩
  have hct := hc2 rfl
  have i1 : (ct : Int) < its.length := by omega
  have i2 : ((ct : Int) == 0) = false := by simp; omega
  have hjl : ct < its.length := by omega
  obtain ⟨bb, bo, cb, e1, lob, zb, -, zc, hcell⟩ := (Lv.get HQ.out.2.2.2.2.2.2.1).at_ (by omega)
  injection e1 with e1 _ e2
  subst e1 e2
  obtain ⟨f0, f1, f2, f3, -, vx, f4, hvx, htx⟩ := hcell (ct) (its.getD (ct) nokI) (get_l _ _ _ hjl)
  have hn5 : rItemT.n = 5 := rfl
  rw [hn5] at f0 f1 f2 f3 f4
  simp only [bV, wV, Nat.add_zero] at f0 f1 f2 f3 f4
  unfold maxLen at zc
  clear hcell hn5
  obtain ⟨q2, hq2, h82, h92, he2, hl2, ht2, hy1, hy2⟩ := hx2 (ct) hjl
  rw [hq2] at f3
  have hR2 := hy1 rfl rfl
  have hBf : Below w2.heap.size w2 w5 := HQ.out.2.2.2.2.2.1
  have HY := Lib.hid (And.intro he2 (And.intro hl2 (And.intro ht2 (And.intro hR2 hBf))))
  clear he2 hl2 ht2 hR2 hBf hy1 hy2 hx1 hx2 hq2 f0 f1 f2 f4 hvx htx
  go_wp2
  go_roundg l
  case measure => omega
  case rel => exact ⟨l, q2, Nat.le_refl _, by omega, rfl, h82, h92, HY.out.1, HY.out.2.1, HY.out.2.2.1, HY.out.2.2.2.1, HY.out.2.2.2.2⟩
end Go.Proofs.Ytcibihakjcenaaa

namespace Go.Proofs.Ytcibihakjcenaaa
open Go.RowKit

/-- No count is more, and all is as long; fixed blocks stay. -/
structure Less (now now' : List UInt8) : Prop where
  len : now'.length = now.length
  le : ∀ i, (now'.getD i 0).toNat ≤ (now.getD i 0).toNat
  fixed : now'.take 8 = now.take 8
theorem Less.refl (l : List UInt8) : Less l l := ⟨rfl, fun _ => Nat.le_refl _, rfl⟩
theorem Less.trans {a b c : List UInt8} (h : Less a b) (k : Less b c) : Less a c := ⟨k.len.trans h.len, fun i => Nat.le_trans (k.le i) (h.le i), k.fixed.trans h.fixed⟩
theorem take_set8 (l : List UInt8) (i : Nat) (x : UInt8) (h : 8 ≤ i) : (l.set i x).take 8 = l.take 8 := by
  apply List.ext_getElem?
  intro j
  rw [List.getElem?_take, List.getElem?_take]
  split
  · rw [List.getElem?_set_ne (by omega)]
  · rfl
theorem Less.set {l : List UInt8} {i : Nat} {x : UInt8} (h : x.toNat ≤ (l.getD i 0).toNat) (h8 : 8 ≤ i) : Less l (l.set i x) := by
  refine ⟨by simp, fun j => ?_, take_set8 l i x h8⟩
  by_cases hij : i = j
  · subst hij
    rcases Nat.lt_or_ge i l.length with h1 | h1
    · rw [cgetD_set_self _ _ _ h1]; exact h
    · rw [List.set_eq_of_length_le h1]; exact Nat.le_refl _
  · rw [bget_set_ne _ _ _ _ hij]; exact Nat.le_refl _
theorem Less.may {now now' : List UInt8} (h : Less now now') (hm : mayT now = true) : mayT now' = true := by
  unfold mayT at hm ⊢
  rw [h.len, h.fixed]
  exact hm
end Go.Proofs.Ytcibihakjcenaaa

namespace Go.Proofs.Ytcibihakjcenaaa
open Go.RowKit Go.Shelf
attribute [local go_sem] Oper.semAt_some

/-- What the rounds must keep: the items' block, and the iterator's own. -/
def KeepI (b Bs : Nat) (A B : World) : Prop := B.heap[b]? = A.heap[b]? ∧ B.heap[Bs]? = A.heap[Bs]?
theorem KeepI.refl (b Bs : Nat) (A : World) : KeepI b Bs A A := ⟨rfl, rfl⟩
theorem KeepI.trans {b Bs : Nat} {A B C : World} (h : KeepI b Bs A B) (k : KeepI b Bs B C) : KeepI b Bs A C := ⟨k.1.trans h.1, k.2.trans h.2⟩
end Go.Proofs.Ytcibihakjcenaaa

namespace Go.Proofs.Ytcibihakjcenaaa
open Go.RowKit Go.Shelf
attribute [local go_sem] Oper.semAt_some

/-- A bench whose counts have turned since w; all else is as it was there. -/
structure BL (w : World) (lo g nb no nc : Nat) (b u y : Value) (s : StoreL) (now : List UInt8) (V : World) : Prop where
  base : BenAt w lo g nb no nc b u y s
  fr : ∀ k, k < w.heap.size → k ≠ nb → V.heap[k]? = w.heap[k]?
  size : w.heap.size ≤ V.heap.size
  cells : ∀ i x, now[i]? = some x → V.cell? ⟨nb, no + i, none⟩ = some (bV x)
  thaw : ∀ i, i < 256 → V.frozen? ⟨nb, no + i, none⟩ = false
  len : now.length = 256
section
variable {w V V' : World} {lo g nb no nc : Nat} {b u y : Value} {s : StoreL} {now : List UInt8}
theorem BL.nbl (h : BL w lo g nb no nc b u y s now V) : nb < w.heap.size := h.base.lo_.2.2.2
theorem BL.gl (h : BL w lo g nb no nc b u y s now V) : g < w.heap.size := (Array.getElem?_eq_some_iff.1 h.base.blk).1
theorem BL.keep (h : BL w lo g nb no nc b u y s now V) (hk : ∀ k, k < w.heap.size → V'.heap[k]? = V.heap[k]?) (hs : V.heap.size ≤ V'.heap.size) : BL w lo g nb no nc b u y s now V' :=
  ⟨h.base, fun k h1 h2 => (hk k h1).trans (h.fr k h1 h2), Nat.le_trans h.size hs, fun i x hx => (World.cell?_of_block (hk nb h.nbl)).trans (h.cells i x hx), fun i hi => (World.frozen?_of_block (hk nb h.nbl)).trans (h.thaw i hi), h.len⟩
theorem BL.step (h : BL w lo g nb no nc b u y s now V) (hb : Below V.heap.size V V') : BL w lo g nb no nc b u y s now V' := h.keep (fun k hk => hb.block k (Nat.lt_of_lt_of_le hk h.size)) hb.size
theorem BL.out {n0 h0 : Nat} (h : BL w lo g nb no nc b u y s now V) (hs : V.heap.size ≤ V'.heap.size) (hf : ∀ x, x < V.heap.size → (x < n0 ∨ h0 ≤ x) → V'.heap[x]? = V.heap[x]?) (hd : w.heap.size ≤ n0) : BL w lo g nb no nc b u y s now V' :=
  h.keep (fun k hk => hf k (Nat.lt_of_lt_of_le hk h.size) (.inl (Nat.lt_of_lt_of_le hk hd))) hs
theorem BL.set (h : BL w lo g nb no nc b u y s now V) (i : Nat) (x : UInt8) (_ : i < 256) : BL w lo g nb no nc b u y s (now.set i x) (V.setCell ⟨nb, no + i, none⟩ (bV x)) := by
  refine ⟨h.base, fun k h1 h2 => (set_other V nb _ _ k h2).trans (h.fr k h1 h2), by rw [World.size_setCell]; exact h.size, fun j z hj => ?_, fun j hj => ?_, by simp [h.len]⟩
  · rcases Nat.lt_or_ge j now.length with hl | hl
    · by_cases e : i = j
      · subst e
        rw [List.getElem?_set_self hl] at hj
        cases hj
        exact World.cell?_setCell_same' _ _ _ (by rw [h.cells i _ (get_l _ 0 i hl)]; rfl)
      · rw [List.getElem?_set_ne e] at hj
        rw [World.cell?_setCell_other _ _ _ _ (by simp only [ne_eq, Addr.mk.injEq]; omega)]
        exact h.cells j z hj
    · rw [List.getElem?_eq_none (by simpa using hl)] at hj
      cases hj
  · have : Thawed V (.slice (some ⟨nb, no, none⟩) 256 256) := by
      intro b off n c e i hi
      cases e
      exact h.thaw i hi
    exact (this.set ⟨nb, no + i, none⟩ (bV x)) _ _ _ _ rfl j hj
theorem BL.cell (h : BL w lo g nb no nc b u y s now V) (i : Nat) (hi : i < 256) : V.cell? ⟨nb, no + i, none⟩ = some (bV (now.getD i 0)) := h.cells i _ (get_l _ _ _ (by rw [h.len]; exact hi))
theorem BL.blk (h : BL w lo g nb no nc b u y s now V) : V.heap[g]? = some (.cells #[b, u, .slice (some ⟨nb, no, none⟩) 256 nc, y] 163 (0, 0)) := (h.fr g h.gl h.base.lo_.2.2.1).trans h.base.blk
end

/-- Marks of loops that are over: behind base each, unlike, and empty. -/
def mkD (D : Nat) : Deferred := { target := .collected D, args := #[] }
def MK (base : Nat) (ds : List Deferred) (V : World) : Prop := ∃ Ds : List Nat, ds = Ds.map mkD ∧ Ds.Nodup ∧ ∀ D ∈ Ds, base ≤ D ∧ V.heap[D]? = some (.deferred (some []))
section
variable {base : Nat} {ds : List Deferred} {V V' : World}
theorem MK.nil_ (base : Nat) (V : World) : MK base [] V := ⟨[], rfl, List.nodup_nil, fun D h => by cases h⟩
theorem MK.of (h : MK base ds V) (hk : ∀ k, base ≤ k → V.heap[k]? = some (.deferred (some [])) → V'.heap[k]? = V.heap[k]?) : MK base ds V' := by
  obtain ⟨Ds, h1, h2, h3⟩ := h
  exact ⟨Ds, h1, h2, fun D hD => ⟨(h3 D hD).1, (hk D (h3 D hD).1 (h3 D hD).2).trans (h3 D hD).2⟩⟩
theorem MK.step (h : MK base ds V) (hb : Below V.heap.size V V') : MK base ds V' := h.of fun k _ hk => hb.block k (Array.getElem?_eq_some_iff.1 hk).1
theorem MK.out {n0 h0 : Nat} (h : MK base ds V) (_ : V.heap.size ≤ V'.heap.size) (hf : ∀ x, x < V.heap.size → (x < n0 ∨ h0 ≤ x) → V'.heap[x]? = V.heap[x]?) (hd : h0 ≤ base) : MK base ds V' :=
  h.of fun k hb hk => hf k (Array.getElem?_eq_some_iff.1 hk).1 (.inr (Nat.le_trans hd hb))
theorem MK.cons {D : Nat} (h : MK base ds V) (hD : V.heap[D]? = some (.deferred (some []))) (hb : base ≤ D) (hn : ∀ d ∈ ds, d ≠ mkD D) : MK base (mkD D :: ds) V := by
  obtain ⟨Ds, h1, h2, h3⟩ := h
  refine ⟨D :: Ds, by rw [h1]; rfl, List.nodup_cons.2 ⟨fun hm => hn (mkD D) (by rw [h1]; exact List.mem_map.2 ⟨D, hm, rfl⟩) rfl, h2⟩, fun E hE => ?_⟩
  rcases List.mem_cons.1 hE with rfl | hE
  · exact ⟨hb, hD⟩
  · exact h3 E hE
theorem MK.lt (h : MK base ds V) {D : Nat} (hD : V.heap.size ≤ D) : ∀ d ∈ ds, d ≠ mkD D := by
  obtain ⟨Ds, h1, h2, h3⟩ := h
  intro d hd e
  rw [h1] at hd
  obtain ⟨E, hE, rfl⟩ := List.mem_map.1 hd
  have := (Array.getElem?_eq_some_iff.1 (h3 E hE).2).1
  unfold mkD at e
  injection e with e1
  injection e1 with e1
  omega
end

end Go.Proofs.Ytcibihakjcenaaa

namespace Go.Proofs.Ytcibihakjcenaaa
open Go.RowKit

/-- The nodes below one. -/
theorem below_nodes {s : StoreL} (hm : mayS s = true) {l : Nat} {its : List ItemL} {q : Nat} (he : errBn s q = 0) (hn : nodeB s q = ⟨((l + 1 : Nat) : Int), its⟩) (ht : ∃ r, wkGo (oneW s (l + 1)) none its = some r) : ∀ j, j < its.length → ∃ q2 : Nat, (its.getD j nokI).ref = q2 ∧ 8 ≤ q2 ∧ q2 < 256 ∧ errBn s q2 = 0 ∧ (nodeB s q2).level = (l : Int) ∧
    (∃ r, wkGo (oneW s l) none (nodeB s q2).items = some r) ∧ 0 < (allW s l (nodeB s q2).items).length := fun j hj => by
  obtain ⟨r, hr⟩ := ht
  have hx : its.getD j nokI ∈ its := by
    rw [List.getD_eq_getElem?_getD, List.getElem?_eq_getElem hj]
    exact List.getElem_mem hj
  obtain ⟨ab, ho⟩ := wkGo_each _ _ _ _ hr _ hx
  obtain ⟨e1, e2, e3, e4⟩ := oneW_succ ho
  have hmn := nodeB_may he
  rw [hn] at hmn
  obtain ⟨r1, r2⟩ := ref_of hm ho (may_refs hmn _ hx)
  obtain ⟨q2, hq2⟩ : ∃ q2 : Nat, (its.getD j nokI).ref = q2 := ⟨(its.getD j nokI).ref.toNat, by omega⟩
  obtain ⟨x, rr, hf, -⟩ := (oneW_from s (l + 1) _ ab.1 ab.2 ho).first
  have hf2 : allW s l (nodeB s (its.getD j nokI).ref.toNat).items = x :: rr := hf
  rw [hq2, Int.toNat_natCast] at e1 e2 e4 hf2
  exact ⟨q2, hq2, by omega, by omega, e1, e2, ⟨ab, e4⟩, by rw [hf2]; simp⟩
end Go.Proofs.Ytcibihakjcenaaa

