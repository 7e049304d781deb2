/- DropLooses: the words and contracts, part 9. -/
import Derived.Test.YtbddbadmfhplmaaDropLoosesQ1
import Derived.Test.YtbddbadmfhplmaaDropLoosesQ2
import Derived.Test.YtbddbadmfhplmaaDropLoosesQ3
import Derived.Test.YtbddbadmfhplmaaDropLoosesQ4
import Derived.Test.YtbddbadmfhplmaaDropLoosesQ5
import Derived.Test.YtbddbadmfhplmaaDropLoosesQ6
import Derived.Test.YtbddbadmfhplmaaDropLoosesQ7
import Derived.Test.YtbddbadmfhplmaaDropLoosesQ8
import Derived.WalkKit
import Derived.WalkLawsBesides
import Derived.WalkSpells
import Derived.Lib.Hide
import Derived.Laws.Rows
import Derived.Laws.AppendOwnNone
import Derived.Maps.AppendAt
import Derived.ProofKit
import Derived.Deep.Slices
import Derived.WideShapes
import Derived.RangeFuncNested
import Derived.RangeFuncBound
import Derived.RangeFuncCalls
import Derived.RangeFuncLeaves
import Derived.RangeFuncBox
import Derived.Shelf.Abstract
import Derived.Shelf.RegionOpen
import Derived.OwnWalkIn
import Derived.TacticsInMore
import Derived.LoopNIn
import Derived.LoopIn
import Derived.Lib.AppendZerosOnto
import Derived.Lib.SliceRun
import Derived.Lib.Walk
import Derived.Deep.LoopGhost
import Derived.Laws.CopyOwn
import Derived.Laws.CopyRow
import Derived.OrdersHeld
import Derived.Deep.QuietTactic
import Derived.BigQuiet
import Derived.StillTailTactics
import Derived.OpenShut
import Derived.Deep.DeepCutAuto
import Derived.Laws.MakeOwn
import Derived.Deep.RegionHeld
import Derived.KernelRfl
import Derived.BigFrameIn
import Derived.OrdersIn
namespace Go.Proofs.Ytbddbadmfhplmaa
open Go.RowKit

/-- A store that is not great. -/
def SmallS (s : StoreL) : Prop := (s.disk.blocks.length ≤ 300 ∧ s.disk.waits.length ≤ 5000 ∧ (datD s.disk).flatten.length ≤ 800000) ∧ s.now.length ≤ 10000 ∧ s.last.length ≤ 10000
set_option maxRecDepth 100000 in
set_option maxHeartbeats 1000000 in
theorem great8_any (b_s u_s x_s y_s : Value) (s : StoreL) (w : World) (h_s : StoreV w 0 w.heap.size b_s u_s x_s y_s s) :
    Calls Try.prog 16 #[.agg #[b_s, u_s, x_s, y_s]] w fun e w' => ∃ g, e = .returned (.bool g) ∧ Below w.heap.size w w' ∧ (g = false → SmallS s) := by
  obtain ⟨ab_s, cb_s, rfl, gb_s, gc_s, -, -⟩ := h_s.1.1
  obtain ⟨au_s, cu_s, rfl, gu_s, gv_s, -, -⟩ := h_s.1.2
  obtain ⟨ax_s, cx_s, rfl, gx_s, gz_s⟩ := h_s.2.1.form rfl
  obtain ⟨ay_s, cy_s, rfl, gy_s, gw_s⟩ := h_s.2.2.form rfl
  unfold maxLen at gc_s gv_s gz_s gw_s
  have hst := ((Below.refl w.heap.size w).alloc (Nat.le_refl _) (.cells #[.slice ab_s s.disk.blocks.length cb_s, .slice au_s s.disk.waits.length cu_s, .slice ax_s s.now.length cx_s, .slice ay_s s.last.length cy_s] 28))
  have q_s := LK.new w (.cells #[.slice ab_s s.disk.blocks.length cb_s, .slice au_s s.disk.waits.length cu_s, .slice ax_s s.now.length cx_s, .slice ay_s s.last.length cy_s] 28)
  have hB : LW w _ := hst
  have O_s := (LO.of h_s (Nat.le_refl _)).step hst
  have sz_V : w.heap.size + 0 < (w.alloc (.cells #[.slice ab_s s.disk.blocks.length cb_s, .slice au_s s.disk.waits.length cu_s, .slice ax_s s.now.length cx_s, .slice ay_s s.last.length cy_s] 28)).heap.size := by simp
  obtain ⟨V, hV⟩ : ∃ V, (w.alloc (.cells #[.slice ab_s s.disk.blocks.length cb_s, .slice au_s s.disk.waits.length cu_s, .slice ax_s s.now.length cx_s, .slice ay_s s.last.length cy_s] 28)) = V := ⟨_, rfl⟩
  rw [hV] at sz_V q_s O_s hB
  clear hst h_s
  have HQ := Lib.hid (And.intro q_s (And.intro O_s hB))
  clear q_s O_s hB
  have c_q_s0 := LK.cell HQ.out.1 0
  have c_q_s1 := LK.cell HQ.out.1 1
  have c_q_s2 := LK.cell HQ.out.1 2
  have c_q_s3 := LK.cell HQ.out.1 3
  simp at c_q_s0 c_q_s1 c_q_s2 c_q_s3
  have k_g := fun V b u hh => great_any b u s.disk V hh
  have HC := Lib.hid (k_g)
  clear k_g
  go_enter Try.func16, Try.ntmps16
  go_upto_region 1 with (fail)
  clear hV
  go_wp2_with fail
  refine (HC.out _ _ _ HQ.out.2.1.d).mono ?_
  rintro e w1 ⟨g, rfl, hst, hg⟩
  clear c_q_s0 c_q_s1 c_q_s2 c_q_s3
  obtain ⟨q_s, O_s, hB⟩ := HQ.out
  clear HQ
  have sz_w1 : V.heap.size ≤ w1.heap.size := hst.size
  replace q_s := q_s.step hst
  replace O_s := O_s.step hst
  replace hB := hB.step hst
  clear hst
  have HQ := Lib.hid (And.intro q_s (And.intro O_s hB))
  clear q_s O_s hB
  have c_q_s0 := LK.cell HQ.out.1 0
  have c_q_s1 := LK.cell HQ.out.1 1
  have c_q_s2 := LK.cell HQ.out.1 2
  have c_q_s3 := LK.cell HQ.out.1 3
  simp at c_q_s0 c_q_s1 c_q_s2 c_q_s3
  cases g
  case true =>
    go_wp2
    go_ret
    exact ⟨true, rfl, HQ.out.2.2, fun h => by cases h⟩
  have hg := hg rfl
  have HG := Lib.hid hg
  clear hg
  by_cases h1 : 10000 < s.now.length
  · have i1 : (10000 : Int) < s.now.length := by omega
    go_wp2
    go_ret
    exact ⟨true, rfl, HQ.out.2.2, fun h => by cases h⟩
  have i1 : decide ((10000 : Int) < s.now.length) = false := by simp; omega
  by_cases h2 : 10000 < s.last.length
  · have i2 : (10000 : Int) < s.last.length := by omega
    go_wp2
    go_ret
    exact ⟨true, rfl, HQ.out.2.2, fun h => by cases h⟩
  have i2 : decide ((10000 : Int) < s.last.length) = false := by simp; omega
  go_wp2
  go_ret
  exact ⟨false, rfl, HQ.out.2.2, fun _ => ⟨HG.out, by omega, by omega⟩⟩

theorem errAs_cases (s : StoreL) (p : Int) : (errS s = 8 ∧ errAs s p = 8) ∨ (errS s = 0 ∧ mayS s = true ∧ ((p < 8 ∧ errAs s p = 2) ∨ (256 ≤ p ∧ errAs s p = 2) ∨
    ∃ pn : Nat, p = pn ∧ 8 ≤ pn ∧ pn < 256 ∧ ((s.now.getD pn 0 = 0 ∧ errAs s p = 6) ∨ (s.now.getD pn 0 ≠ 0 ∧ errAs s p = 0)))) := by
  unfold errS errAs
  cases hm : mayS s with
  | false => exact .inl ⟨rfl, rfl⟩
  | true =>
    refine .inr ⟨rfl, rfl, ?_⟩
    rw [if_pos rfl]
    by_cases h1 : p < 8
    · exact .inl ⟨h1, by rw [if_pos (.inl h1)]⟩
    by_cases h2 : 256 ≤ p
    · exact .inr (.inl ⟨h2, by rw [if_pos (.inr h2)]⟩)
    obtain ⟨pn, rfl⟩ : ∃ pn : Nat, p = pn := ⟨p.toNat, by omega⟩
    refine .inr (.inr ⟨pn, rfl, by omega, by omega, ?_⟩)
    rw [if_neg (by omega), Int.toNat_natCast]
    by_cases h3 : s.now.getD pn 0 = 0
    · exact .inl ⟨h3, by rw [if_pos h3]⟩
    · exact .inr ⟨h3, by rw [if_neg h3]⟩
theorem u8_nz {x : UInt8} (h : x ≠ 0) : ¬ (x.toNat : Int) = 0 := fun e => h (u8_inj (by show x.toNat = 0; omega))

set_option maxRecDepth 100000 in
set_option maxHeartbeats 1000000 in
theorem sasked_any (b_s u_s x_s y_s : Value) (s : StoreL) (p : Int) (w : World) (h_s : StoreV w 0 w.heap.size b_s u_s x_s y_s s) :
    Calls Try.prog 56 #[.agg #[b_s, u_s, x_s, y_s], .int .i64 p] w fun e w' => e = .returned (.int .i64 (errAs s p)) ∧ Below w.heap.size w w' := by
  obtain ⟨ab_s, cb_s, rfl, gb_s, gc_s, -, -⟩ := h_s.1.1
  obtain ⟨au_s, cu_s, rfl, gu_s, gv_s, -, -⟩ := h_s.1.2
  obtain ⟨ax_s, cx_s, rfl, gx_s, gz_s⟩ := h_s.2.1.form rfl
  obtain ⟨ay_s, cy_s, rfl, gy_s, gw_s⟩ := h_s.2.2.form rfl
  unfold maxLen at gc_s gv_s gz_s gw_s
  have hst := ((Below.refl w.heap.size w).alloc (Nat.le_refl _) (.cells #[.slice ab_s s.disk.blocks.length cb_s, .slice au_s s.disk.waits.length cu_s, .slice ax_s s.now.length cx_s, .slice ay_s s.last.length cy_s] 28))
  have q_s := LK.new w (.cells #[.slice ab_s s.disk.blocks.length cb_s, .slice au_s s.disk.waits.length cu_s, .slice ax_s s.now.length cx_s, .slice ay_s s.last.length cy_s] 28)
  have hB : LW w _ := hst
  have O_s := (LO.of h_s (Nat.le_refl _)).step hst
  have sz_V : w.heap.size + 0 < (w.alloc (.cells #[.slice ab_s s.disk.blocks.length cb_s, .slice au_s s.disk.waits.length cu_s, .slice ax_s s.now.length cx_s, .slice ay_s s.last.length cy_s] 28)).heap.size := by simp
  obtain ⟨V, hV⟩ : ∃ V, (w.alloc (.cells #[.slice ab_s s.disk.blocks.length cb_s, .slice au_s s.disk.waits.length cu_s, .slice ax_s s.now.length cx_s, .slice ay_s s.last.length cy_s] 28)) = V := ⟨_, rfl⟩
  rw [hV] at sz_V q_s O_s hB
  clear hst h_s
  have HQ := Lib.hid (And.intro q_s (And.intro O_s hB))
  clear q_s O_s hB
  have c_q_s0 := LK.cell HQ.out.1 0
  have c_q_s1 := LK.cell HQ.out.1 1
  have c_q_s2 := LK.cell HQ.out.1 2
  have c_q_s3 := LK.cell HQ.out.1 3
  simp at c_q_s0 c_q_s1 c_q_s2 c_q_s3
  have hE := errAs_cases s p
  obtain ⟨es, hes⟩ : ∃ e, errS s = e := ⟨_, rfl⟩
  obtain ⟨ea, hea⟩ : ∃ e, errAs s p = e := ⟨_, rfl⟩
  have k_c := fun V b u x y hh => scheck_any b u x y s V hh
  rw [hes] at k_c hE
  rw [hea] at hE ⊢
  clear hes hea
  have HC := Lib.hid (k_c)
  clear k_c
  go_enter Try.func56, Try.ntmps56
  go_upto_region 1 with (fail)
  clear hV
  go_wp2_with fail
  refine (HC.out _ _ _ _ _ HQ.out.2.1.v).mono ?_
  rintro e w1 ⟨rfl, hst⟩
  clear c_q_s0 c_q_s1 c_q_s2 c_q_s3
  obtain ⟨q_s, O_s, hB⟩ := HQ.out
  clear HQ
  have sz_w1 : V.heap.size ≤ w1.heap.size := hst.size
  replace q_s := q_s.step hst
  replace O_s := O_s.step hst
  replace hB := hB.step hst
  clear hst
  have HQ := Lib.hid (And.intro q_s (And.intro O_s hB))
  clear q_s O_s hB
  have c_q_s0 := LK.cell HQ.out.1 0
  have c_q_s1 := LK.cell HQ.out.1 1
  have c_q_s2 := LK.cell HQ.out.1 2
  have c_q_s3 := LK.cell HQ.out.1 3
  simp at c_q_s0 c_q_s1 c_q_s2 c_q_s3
  rcases hE with ⟨rfl, rfl⟩ | ⟨rfl, hm, ⟨hp, rfl⟩ | ⟨hp, rfl⟩ | ⟨pn, rfl, h8, h9, hx⟩⟩
  · skip
    go_wp2
    go_ret
    exact ⟨rfl, HQ.out.2.2⟩
  · have i1 : p < 8 := hp
    go_wp2
    go_ret
    exact ⟨rfl, HQ.out.2.2⟩
  · have i1 : ¬ p < 8 := by omega
    go_wp2
    go_ret
    exact ⟨rfl, HQ.out.2.2⟩
  have h256 := mayT_len (mayS_iff.1 hm).2.1
  obtain ⟨nb, no, nc, e1, -, zb, z1, zc, hcell⟩ := HQ.out.2.1.n.at_n h256 (by omega)
  injection e1 with e1 _ e2
  subst e1 e2
  have hcx := hcell pn (s.now.getD pn 0) (get_l _ _ _ (by omega))
  unfold maxLen at zc
  rw [h256] at c_q_s2
  obtain ⟨z, hz⟩ : ∃ z, s.now.getD pn 0 = z := ⟨_, rfl⟩
  rw [hz] at hx hcx
  simp only [bV] at hcx
  have HM := Lib.hid (And.intro hcell h256)
  clear hcell h256 hz hm
  have i1 : ¬ ((pn : Int) < 8) := by omega
  have i2 : ¬ ((256 : Int) ≤ pn) := by omega
  rcases hx with ⟨rfl, rfl⟩ | ⟨hx, rfl⟩
  · have z0 : ((0 : UInt8).toNat : Int) = 0 := rfl
    rw [z0] at hcx
    go_wp2
    go_ret
    exact ⟨rfl, HQ.out.2.2⟩
  · have hx2 := u8_nz hx
    generalize (z.toNat : Int) = zi at *
    go_wp2
    go_ret
    exact ⟨rfl, HQ.out.2.2⟩

set_option maxRecDepth 100000 in
set_option maxHeartbeats 1000000 in
theorem ssame_any (b_s u_s x_s y_s : Value) (s : StoreL) (b_t u_t x_t y_t : Value) (t : StoreL) (w : World) (h_s : StoreV w 0 w.heap.size b_s u_s x_s y_s s) (h_t : StoreV w 0 w.heap.size b_t u_t x_t y_t t) :
    Calls Try.prog 23 #[.agg #[b_s, u_s, x_s, y_s], .agg #[b_t, u_t, x_t, y_t]] w fun e w' => e = .returned (.bool (decide (s = t))) ∧ Below w.heap.size w w' := by
  obtain ⟨ab_s, cb_s, rfl, gb_s, gc_s, -, -⟩ := h_s.1.1
  obtain ⟨au_s, cu_s, rfl, gu_s, gv_s, -, -⟩ := h_s.1.2
  obtain ⟨ax_s, cx_s, rfl, gx_s, gz_s⟩ := h_s.2.1.form rfl
  obtain ⟨ay_s, cy_s, rfl, gy_s, gw_s⟩ := h_s.2.2.form rfl
  unfold maxLen at gc_s gv_s gz_s gw_s
  obtain ⟨ab_t, cb_t, rfl, gb_t, gc_t, -, -⟩ := h_t.1.1
  obtain ⟨au_t, cu_t, rfl, gu_t, gv_t, -, -⟩ := h_t.1.2
  obtain ⟨ax_t, cx_t, rfl, gx_t, gz_t⟩ := h_t.2.1.form rfl
  obtain ⟨ay_t, cy_t, rfl, gy_t, gw_t⟩ := h_t.2.2.form rfl
  unfold maxLen at gc_t gv_t gz_t gw_t
  have hst := (((Below.refl w.heap.size w).alloc (Nat.le_refl _) (.cells #[.slice ab_s s.disk.blocks.length cb_s, .slice au_s s.disk.waits.length cu_s, .slice ax_s s.now.length cx_s, .slice ay_s s.last.length cy_s] 28)).alloc (by simp) (.cells #[.slice ab_t t.disk.blocks.length cb_t, .slice au_t t.disk.waits.length cu_t, .slice ax_t t.now.length cx_t, .slice ay_t t.last.length cy_t] 28))
  have hq := two_new w (.cells #[.slice ab_s s.disk.blocks.length cb_s, .slice au_s s.disk.waits.length cu_s, .slice ax_s s.now.length cx_s, .slice ay_s s.last.length cy_s] 28) (.cells #[.slice ab_t t.disk.blocks.length cb_t, .slice au_t t.disk.waits.length cu_t, .slice ax_t t.now.length cx_t, .slice ay_t t.last.length cy_t] 28)
  have q_s := LK.of hq.1
  have q_t := LK.of hq.2
  have hB : LW w _ := hst
  have O_s := (LO.of h_s (Nat.le_refl _)).step hst
  have O_t := (LO.of h_t (Nat.le_refl _)).step hst
  have sz_V : w.heap.size + 1 < ((w.alloc (.cells #[.slice ab_s s.disk.blocks.length cb_s, .slice au_s s.disk.waits.length cu_s, .slice ax_s s.now.length cx_s, .slice ay_s s.last.length cy_s] 28)).alloc (.cells #[.slice ab_t t.disk.blocks.length cb_t, .slice au_t t.disk.waits.length cu_t, .slice ax_t t.now.length cx_t, .slice ay_t t.last.length cy_t] 28)).heap.size := by simp
  obtain ⟨V, hV⟩ : ∃ V, ((w.alloc (.cells #[.slice ab_s s.disk.blocks.length cb_s, .slice au_s s.disk.waits.length cu_s, .slice ax_s s.now.length cx_s, .slice ay_s s.last.length cy_s] 28)).alloc (.cells #[.slice ab_t t.disk.blocks.length cb_t, .slice au_t t.disk.waits.length cu_t, .slice ax_t t.now.length cx_t, .slice ay_t t.last.length cy_t] 28)) = V := ⟨_, rfl⟩
  rw [hV] at sz_V q_s q_t O_s O_t hB
  clear hst h_s h_t hq
  have HQ := Lib.hid (And.intro q_s (And.intro q_t (And.intro O_s (And.intro O_t hB))))
  clear q_s q_t O_s O_t hB
  have c_q_s0 := LK.cell HQ.out.1 0
  have c_q_s1 := LK.cell HQ.out.1 1
  have c_q_s2 := LK.cell HQ.out.1 2
  have c_q_s3 := LK.cell HQ.out.1 3
  have c_q_t0 := LK.cell HQ.out.2.1 0
  have c_q_t1 := LK.cell HQ.out.2.1 1
  have c_q_t2 := LK.cell HQ.out.2.1 2
  have c_q_t3 := LK.cell HQ.out.2.1 3
  simp at c_q_s0 c_q_s1 c_q_s2 c_q_s3 c_q_t0 c_q_t1 c_q_t2 c_q_t3
  obtain ⟨bd, hbd⟩ : ∃ b, decide (s.disk = t.disk) = b := ⟨_, rfl⟩
  obtain ⟨bn, hbn⟩ : ∃ b, decide (s.now = t.now) = b := ⟨_, rfl⟩
  obtain ⟨bl, hbl⟩ : ∃ b, decide (s.last = t.last) = b := ⟨_, rfl⟩
  have hE : decide (s = t) = (bd && (bn && bl)) := by
    rw [← hbd, ← hbn, ← hbl]
    obtain ⟨s1, s2, s3⟩ := s
    obtain ⟨t1, t2, t3⟩ := t
    simp [StoreL.mk.injEq]
  rw [hE]
  have k_d := fun V b u b2 u2 hh h2 => dsame_any b u b2 u2 s.disk t.disk V hh h2
  have k_n := fun V v v2 hh h2 => bequal_any v v2 s.now t.now V 0 V.heap.size 0 V.heap.size hh h2
  have k_l := fun V v v2 hh h2 => bequal_any v v2 s.last t.last V 0 V.heap.size 0 V.heap.size hh h2
  rw [hbd] at k_d
  rw [hbn] at k_n
  rw [hbl] at k_l
  clear hE hbd hbn hbl
  have HC := Lib.hid (And.intro k_d (And.intro k_n k_l))
  clear k_d k_n k_l
  go_enter Try.func23, Try.ntmps23
  go_upto_region 1 with (fail)
  clear hV
  go_wp2_with fail
  refine (HC.out.1 _ _ _ _ _ HQ.out.2.2.1.d HQ.out.2.2.2.1.d).mono ?_
  rintro e w1 ⟨rfl, hst⟩
  clear c_q_s0 c_q_s1 c_q_s2 c_q_s3 c_q_t0 c_q_t1 c_q_t2 c_q_t3
  obtain ⟨q_s, q_t, O_s, O_t, hB⟩ := HQ.out
  clear HQ
  have sz_w1 : V.heap.size ≤ w1.heap.size := hst.size
  replace q_s := q_s.step hst
  replace q_t := q_t.step hst
  replace O_s := O_s.step hst
  replace O_t := O_t.step hst
  replace hB := hB.step hst
  clear hst
  have HQ := Lib.hid (And.intro q_s (And.intro q_t (And.intro O_s (And.intro O_t hB))))
  clear q_s q_t O_s O_t hB
  have c_q_s0 := LK.cell HQ.out.1 0
  have c_q_s1 := LK.cell HQ.out.1 1
  have c_q_s2 := LK.cell HQ.out.1 2
  have c_q_s3 := LK.cell HQ.out.1 3
  have c_q_t0 := LK.cell HQ.out.2.1 0
  have c_q_t1 := LK.cell HQ.out.2.1 1
  have c_q_t2 := LK.cell HQ.out.2.1 2
  have c_q_t3 := LK.cell HQ.out.2.1 3
  simp at c_q_s0 c_q_s1 c_q_s2 c_q_s3 c_q_t0 c_q_t1 c_q_t2 c_q_t3
  cases bd
  case false =>
    go_wp2
    go_ret
    exact ⟨rfl, HQ.out.2.2.2.2⟩
  go_wp2_with fail
  refine (HC.out.2.1 _ _ _ HQ.out.2.2.1.n HQ.out.2.2.2.1.n).mono ?_
  rintro e w0 ⟨rfl, hw0⟩
  rw [hw0]
  clear hw0 w0
  cases bn
  case false =>
    go_wp2
    go_ret
    exact ⟨rfl, HQ.out.2.2.2.2⟩
  go_wp2_with fail
  refine (HC.out.2.2 _ _ _ HQ.out.2.2.1.l HQ.out.2.2.2.1.l).mono ?_
  rintro e w0 ⟨rfl, hw0⟩
  rw [hw0]
  clear hw0 w0
  cases bl
  case false =>
    go_wp2
    go_ret
    exact ⟨rfl, HQ.out.2.2.2.2⟩
  go_wp2
  go_ret
  exact ⟨rfl, HQ.out.2.2.2.2⟩

def newS : StoreL := ⟨newD, List.replicate 256 0, List.replicate 256 0⟩

set_option maxRecDepth 100000 in
set_option maxHeartbeats 1000000 in
theorem snew_any  (w : World)  :
    Calls Try.prog 24 #[] w fun e w' => ∃ b u x y, e = .returned (.agg #[b, u, x, y]) ∧ MadeS w w' b u x y newS := by
  have hst := ((Below.refl w.heap.size w).alloc (Nat.le_refl _) (.cells #[.slice none 0 0, .slice none 0 0, .slice none 0 0, .slice none 0 0] 28))
  have q_r := LK.new w (.cells #[.slice none 0 0, .slice none 0 0, .slice none 0 0, .slice none 0 0] 28)
  have hB : LW w _ := hst
  have sz_V : w.heap.size + 0 < (w.alloc (.cells #[.slice none 0 0, .slice none 0 0, .slice none 0 0, .slice none 0 0] 28)).heap.size := by simp
  obtain ⟨V, hV⟩ : ∃ V, (w.alloc (.cells #[.slice none 0 0, .slice none 0 0, .slice none 0 0, .slice none 0 0] 28)) = V := ⟨_, rfl⟩
  rw [hV] at sz_V q_r hB
  clear hst 
  have HQ := Lib.hid (And.intro q_r hB)
  clear q_r hB
  have c_q_r0 := LK.cell HQ.out.1 0
  have c_q_r1 := LK.cell HQ.out.1 1
  have c_q_r2 := LK.cell HQ.out.1 2
  have c_q_r3 := LK.cell HQ.out.1 3
  simp at c_q_r0 c_q_r1 c_q_r2 c_q_r3
  obtain ⟨dn, hdn⟩ : ∃ d, newD = d := ⟨_, rfl⟩
  obtain ⟨R, hR⟩ : ∃ R, List.replicate 256 (0 : UInt8) = R := ⟨_, rfl⟩
  have k_d := fun V => dnew_any V
  have k_n := fun V => cnew_any V
  rw [hdn] at k_d
  rw [hR] at k_n
  have hs : newS = ⟨dn, R, R⟩ := by rw [← hdn, ← hR]; rfl
  rw [hs]
  have hdw : dn.waits.length = 0 := by rw [← hdn]; rfl
  have HDW := Lib.hid hdw
  clear hs hdn hR hdw
  have HC := Lib.hid (And.intro k_d k_n)
  clear k_d k_n
  go_enter Try.func24, Try.ntmps24
  go_upto_region 1 with (fail)
  clear hV
  go_wp2_with fail
  refine (HC.out.1 _).mono ?_
  rintro e w1 ⟨b1, rfl, hm⟩
  clear c_q_r0 c_q_r1 c_q_r2 c_q_r3
  obtain ⟨q_r, hB⟩ := HQ.out
  clear HQ
  have D_d := LT.of hm
  have hst := hm.below
  obtain ⟨ab_r, cb_r, rfl, -, -, -, -⟩ := hm.v0.1
  clear hm
  have sz_w1 : V.heap.size ≤ w1.heap.size := hst.size
  replace q_r := q_r.step hst
  replace hB := hB.step hst
  clear hst
  have HQ := Lib.hid (And.intro q_r (And.intro D_d hB))
  clear q_r D_d hB
  have c_q_r0 := LK.cell HQ.out.1 0
  have c_q_r1 := LK.cell HQ.out.1 1
  have c_q_r2 := LK.cell HQ.out.1 2
  have c_q_r3 := LK.cell HQ.out.1 3
  simp at c_q_r0 c_q_r1 c_q_r2 c_q_r3
  go_wp2_with fail
  refine (HC.out.2 _).mono ?_
  rintro e w2 ⟨v1, rfl, hm⟩
  clear c_q_r0 c_q_r1 c_q_r2 c_q_r3
  obtain ⟨q_r, D_d, hB⟩ := HQ.out
  clear HQ
  have B_n := LM.of hm
  have hst := hm.below
  obtain ⟨a_n, c_n, rfl, -, -⟩ := hm.bytes.form rfl
  clear hm
  have sz_w2 : w1.heap.size ≤ w2.heap.size := hst.size
  replace q_r := q_r.step hst
  replace D_d := D_d.step hst
  replace hB := hB.step hst
  clear hst
  have HQ := Lib.hid (And.intro q_r (And.intro D_d (And.intro B_n hB)))
  clear q_r D_d B_n hB
  have c_q_r0 := LK.cell HQ.out.1 0
  have c_q_r1 := LK.cell HQ.out.1 1
  have c_q_r2 := LK.cell HQ.out.1 2
  have c_q_r3 := LK.cell HQ.out.1 3
  simp at c_q_r0 c_q_r1 c_q_r2 c_q_r3
  go_wp2_with fail
  refine (HC.out.2 _).mono ?_
  rintro e w3 ⟨v2, rfl, hm⟩
  clear c_q_r0 c_q_r1 c_q_r2 c_q_r3
  obtain ⟨q_r, D_d, B_n, hB⟩ := HQ.out
  clear HQ
  have B_l := LM.of hm
  have hst := hm.below
  obtain ⟨a_l, c_l, rfl, -, -⟩ := hm.bytes.form rfl
  clear hm
  have sz_w3 : w2.heap.size ≤ w3.heap.size := hst.size
  replace q_r := q_r.step hst
  replace D_d := D_d.step hst
  replace B_n := B_n.step hst
  replace hB := hB.step hst
  clear hst
  have HQ := Lib.hid (And.intro q_r (And.intro D_d (And.intro B_n (And.intro B_l hB))))
  clear q_r D_d B_n B_l hB
  have c_q_r0 := LK.cell HQ.out.1 0
  have c_q_r1 := LK.cell HQ.out.1 1
  have c_q_r2 := LK.cell HQ.out.1 2
  have c_q_r3 := LK.cell HQ.out.1 3
  have z_q_r0 := LK.frozen HQ.out.1 0
  have z_q_r1 := LK.frozen HQ.out.1 1
  have z_q_r2 := LK.frozen HQ.out.1 2
  have z_q_r3 := LK.frozen HQ.out.1 3
  simp at c_q_r0 c_q_r1 c_q_r2 c_q_r3
  go_wp2
  refine bodyPost_ret (v := .agg #[.slice ab_r dn.blocks.length cb_r, .slice none 0 0, .slice a_n R.length c_n, .slice a_l R.length c_l]) (by simp [results, Try.results24, go_sem, c_q_r0, c_q_r1, c_q_r2, c_q_r3]) rfl ⟨_, _, _, _, rfl, ?_⟩
  have hL : MadeL w w3 (w.heap.size + 1) _ _ _ _ ⟨dn, R, R⟩ := ⟨⟨DiskT.more HQ.out.2.1.t (by omega) (Lv.hi_le HQ.out.2.1), ⟨HQ.out.2.2.1.m.1.more (by omega) (Lv.hi_le HQ.out.2.2.1), HQ.out.2.2.1.m.2⟩, ⟨HQ.out.2.2.2.1.m.1.more (by omega) (Lv.hi_le HQ.out.2.2.2.1), HQ.out.2.2.2.1.m.2⟩⟩, HQ.out.2.2.2.2⟩
  exact (hL.four w.heap.size _ _ _ _ (Nat.le_refl _) (Nat.lt_succ_self _)).made (Nat.le_succ _)

end Go.Proofs.Ytbddbadmfhplmaa

namespace Go.Proofs.Ytbddbadmfhplmaa
open Go.RowKit

theorem share_cases (s : StoreL) (p : Int) : (errAs s p ≠ 0 ∧ errSh s p = errAs s p ∧ shareS s p = noS) ∨ (errAs s p = 0 ∧ errT s.now p 255 ≠ 0 ∧ errSh s p = errT s.now p 255 ∧ shareS s p = noS) ∨
    (errAs s p = 0 ∧ errT s.now p 255 = 0 ∧ errSh s p = 0 ∧ shareS s p = ⟨s.disk, outT s.now p 1 255, s.last⟩ ∧ FewS ⟨s.disk, outT s.now p 1 255, s.last⟩) := by
  by_cases h : errAs s p = 0
  · have h1 : errSh s p = errT s.now p 255 := by
      obtain ⟨hm, h8, h9, hn⟩ := errAs_zero h
      unfold errSh errT
      rw [if_neg (by simp [h]), if_pos (mayS_iff.1 hm).2.1, if_neg (show ¬ (p < 8 ∨ 256 ≤ p) by omega)]
    by_cases h2 : errT s.now p 255 = 0
    · refine .inr (.inr ⟨h, h2, by rw [h1, h2], ?_⟩)
      have h3 : errSh s p = 0 := by rw [h1, h2]
      have e : shareS s p = ⟨s.disk, outT s.now p 1 255, s.last⟩ := by
        rw [(share_is h3).1]
        unfold outT
        rw [if_pos h2]
      refine ⟨e, ?_⟩
      rw [← e]
      exact FewS.of_may (share_is h3).2.1
    · exact .inr (.inl ⟨h, h2, h1, by unfold shareS; rw [h1, if_neg h2]⟩)
  · have h1 : errSh s p = errAs s p := by unfold errSh; rw [if_pos h]
    exact .inl ⟨h, h1, by unfold shareS; rw [h1, if_neg h]⟩

set_option maxRecDepth 100000 in
set_option maxHeartbeats 1000000 in
theorem sshare_any (b_s u_s x_s y_s : Value) (s : StoreL) (p : Int) (w : World) (h_s : StoreV w 0 w.heap.size b_s u_s x_s y_s s) :
    Calls Try.prog 21 #[.agg #[b_s, u_s, x_s, y_s], .int .i64 p] w fun e w' => ∃ b u x y, e = .returned (.tuple #[.agg #[b, u, x, y], .int .i64 (errSh s p)]) ∧ MadeS w w' b u x y (shareS s p) := by
  obtain ⟨ab_s, cb_s, rfl, gb_s, gc_s, -, -⟩ := h_s.1.1
  obtain ⟨au_s, cu_s, rfl, gu_s, gv_s, -, -⟩ := h_s.1.2
  obtain ⟨ax_s, cx_s, rfl, gx_s, gz_s⟩ := h_s.2.1.form rfl
  obtain ⟨ay_s, cy_s, rfl, gy_s, gw_s⟩ := h_s.2.2.form rfl
  unfold maxLen at gc_s gv_s gz_s gw_s
  have hst := (((Below.refl w.heap.size w).alloc (Nat.le_refl _) (.cells #[.slice ab_s s.disk.blocks.length cb_s, .slice au_s s.disk.waits.length cu_s, .slice ax_s s.now.length cx_s, .slice ay_s s.last.length cy_s] 28)).alloc (by simp) (.cells #[.slice none 0 0, .slice none 0 0, .slice none 0 0, .slice none 0 0] 28))
  have hq := two_new w (.cells #[.slice ab_s s.disk.blocks.length cb_s, .slice au_s s.disk.waits.length cu_s, .slice ax_s s.now.length cx_s, .slice ay_s s.last.length cy_s] 28) (.cells #[.slice none 0 0, .slice none 0 0, .slice none 0 0, .slice none 0 0] 28)
  have q_s := LK.of hq.1
  have q_r := LK.of hq.2
  have hB : LW w _ := hst
  have O_s := (LO.of h_s (Nat.le_refl _)).step hst
  have sz_V : w.heap.size + 1 < ((w.alloc (.cells #[.slice ab_s s.disk.blocks.length cb_s, .slice au_s s.disk.waits.length cu_s, .slice ax_s s.now.length cx_s, .slice ay_s s.last.length cy_s] 28)).alloc (.cells #[.slice none 0 0, .slice none 0 0, .slice none 0 0, .slice none 0 0] 28)).heap.size := by simp
  obtain ⟨V, hV⟩ : ∃ V, ((w.alloc (.cells #[.slice ab_s s.disk.blocks.length cb_s, .slice au_s s.disk.waits.length cu_s, .slice ax_s s.now.length cx_s, .slice ay_s s.last.length cy_s] 28)).alloc (.cells #[.slice none 0 0, .slice none 0 0, .slice none 0 0, .slice none 0 0] 28)) = V := ⟨_, rfl⟩
  rw [hV] at sz_V q_s q_r O_s hB
  clear hst h_s hq
  have HQ := Lib.hid (And.intro q_s (And.intro q_r (And.intro O_s hB)))
  clear q_s q_r O_s hB
  have c_q_s0 := LK.cell HQ.out.1 0
  have c_q_s1 := LK.cell HQ.out.1 1
  have c_q_s2 := LK.cell HQ.out.1 2
  have c_q_s3 := LK.cell HQ.out.1 3
  have c_q_r0 := LK.cell HQ.out.2.1 0
  have c_q_r1 := LK.cell HQ.out.2.1 1
  have c_q_r2 := LK.cell HQ.out.2.1 2
  have c_q_r3 := LK.cell HQ.out.2.1 3
  simp at c_q_s0 c_q_s1 c_q_s2 c_q_s3 c_q_r0 c_q_r1 c_q_r2 c_q_r3
  have hE := share_cases s p
  obtain ⟨ea, hea⟩ : ∃ e, errAs s p = e := ⟨_, rfl⟩
  obtain ⟨et, het⟩ : ∃ e, errT s.now p 255 = e := ⟨_, rfl⟩
  obtain ⟨ot, hot⟩ : ∃ e, outT s.now p 1 255 = e := ⟨_, rfl⟩
  have k_a := fun V b u x y hh => sasked_any b u x y s p V hh
  have k_u := fun V v hh => cup_any v s.now p V hh
  rw [hea] at k_a hE
  rw [het, hot] at k_u
  rw [het, hot] at hE
  have k_t := fun (hf : FewS ⟨s.disk, ot, s.last⟩) V b u x y (h1 : DiskV V 0 V.heap.size b u s.disk) (h2 : Bytes V 0 V.heap.size x ot) (h3 : Bytes V 0 V.heap.size y s.last) => stwin_any b u x y ⟨s.disk, ot, s.last⟩ V ⟨h1, h2, h3⟩ hf
  obtain ⟨es, hes⟩ : ∃ e, errSh s p = e := ⟨_, rfl⟩
  obtain ⟨so, hso⟩ : ∃ e, shareS s p = e := ⟨_, rfl⟩
  rw [hes, hso] at hE ⊢
  clear hea het hot hes hso
  have HC := Lib.hid (And.intro k_a (And.intro k_u k_t))
  clear k_a k_u k_t
  go_enter Try.func21, Try.ntmps21
  go_upto_region 1 with (fail)
  clear hV
  go_wp2_with fail
  refine (HC.out.1 _ _ _ _ _ HQ.out.2.2.1.v).mono ?_
  rintro e w1 ⟨rfl, hst⟩
  clear c_q_s0 c_q_s1 c_q_s2 c_q_s3 c_q_r0 c_q_r1 c_q_r2 c_q_r3
  obtain ⟨q_s, q_r, O_s, hB⟩ := HQ.out
  clear HQ
  have sz_w1 : V.heap.size ≤ w1.heap.size := hst.size
  replace q_s := q_s.step hst
  replace q_r := q_r.step hst
  replace O_s := O_s.step hst
  replace hB := hB.step hst
  clear hst
  have HQ := Lib.hid (And.intro q_s (And.intro q_r (And.intro O_s hB)))
  clear q_s q_r O_s hB
  have c_q_s0 := LK.cell HQ.out.1 0
  have c_q_s1 := LK.cell HQ.out.1 1
  have c_q_s2 := LK.cell HQ.out.1 2
  have c_q_s3 := LK.cell HQ.out.1 3
  have c_q_r0 := LK.cell HQ.out.2.1 0
  have c_q_r1 := LK.cell HQ.out.2.1 1
  have c_q_r2 := LK.cell HQ.out.2.1 2
  have c_q_r3 := LK.cell HQ.out.2.1 3
  have z_q_r0 := LK.frozen HQ.out.2.1 0
  have z_q_r1 := LK.frozen HQ.out.2.1 1
  have z_q_r2 := LK.frozen HQ.out.2.1 2
  have z_q_r3 := LK.frozen HQ.out.2.1 3
  simp at c_q_s0 c_q_s1 c_q_s2 c_q_s3 c_q_r0 c_q_r1 c_q_r2 c_q_r3
  rcases hE with ⟨hn, rfl, rfl⟩ | ⟨rfl, hn, rfl, rfl⟩ | ⟨rfl, rfl, rfl, rfl, hf⟩
  · have i1 : (es != 0) = true := by simp [hn]
    go_wp2
    refine bodyPost_ret (v := .tuple #[.agg #[.slice none 0 0, .slice none 0 0, .slice none 0 0, .slice none 0 0], .int .i64 es]) (by simp [results, Try.results21, go_sem, c_q_r0, c_q_r1, c_q_r2, c_q_r3]) rfl ⟨_, _, _, _, rfl, ?_⟩
    exact ((MadeL.nil_ (w.heap.size + 2) HQ.out.2.2.2).four (w.heap.size + 1) _ _ _ _ (Nat.le_succ _) (Nat.lt_succ_self _)).made (by omega)
  · skip
    go_wp2_with fail
    refine (HC.out.2.1 _ _ HQ.out.2.2.1.n).mono ?_
    rintro e w2 ⟨v, rfl, hm⟩
    clear z_q_r0 z_q_r1 z_q_r2 z_q_r3 c_q_s0 c_q_s1 c_q_s2 c_q_s3 c_q_r0 c_q_r1 c_q_r2 c_q_r3
    obtain ⟨q_s, q_r, O_s, hB⟩ := HQ.out
    clear HQ
    have hst := hm.below
    obtain ⟨a_n, c_n, rfl, -, -⟩ := hm.bytes.form rfl
    clear hm
    have sz_w2 : w1.heap.size ≤ w2.heap.size := hst.size
    replace q_s := q_s.step hst
    replace q_r := q_r.step hst
    replace O_s := O_s.step hst
    replace hB := hB.step hst
    clear hst
    have HQ := Lib.hid (And.intro q_s (And.intro q_r (And.intro O_s hB)))
    clear q_s q_r O_s hB
    have c_q_s0 := LK.cell HQ.out.1 0
    have c_q_s1 := LK.cell HQ.out.1 1
    have c_q_s2 := LK.cell HQ.out.1 2
    have c_q_s3 := LK.cell HQ.out.1 3
    have c_q_r0 := LK.cell HQ.out.2.1 0
    have c_q_r1 := LK.cell HQ.out.2.1 1
    have c_q_r2 := LK.cell HQ.out.2.1 2
    have c_q_r3 := LK.cell HQ.out.2.1 3
    have z_q_r0 := LK.frozen HQ.out.2.1 0
    have z_q_r1 := LK.frozen HQ.out.2.1 1
    have z_q_r2 := LK.frozen HQ.out.2.1 2
    have z_q_r3 := LK.frozen HQ.out.2.1 3
    simp at c_q_s0 c_q_s1 c_q_s2 c_q_s3 c_q_r0 c_q_r1 c_q_r2 c_q_r3
    have i1 : (es != 0) = true := by simp [hn]
    go_wp2
    refine bodyPost_ret (v := .tuple #[.agg #[.slice none 0 0, .slice none 0 0, .slice none 0 0, .slice none 0 0], .int .i64 es]) (by simp [results, Try.results21, go_sem, c_q_r0, c_q_r1, c_q_r2, c_q_r3]) rfl ⟨_, _, _, _, rfl, ?_⟩
    exact ((MadeL.nil_ (w.heap.size + 2) HQ.out.2.2.2).four (w.heap.size + 1) _ _ _ _ (Nat.le_succ _) (Nat.lt_succ_self _)).made (by omega)
  go_wp2_with fail
  refine (HC.out.2.1 _ _ HQ.out.2.2.1.n).mono ?_
  rintro e w2 ⟨v, rfl, hm⟩
  clear z_q_r0 z_q_r1 z_q_r2 z_q_r3 c_q_s0 c_q_s1 c_q_s2 c_q_s3 c_q_r0 c_q_r1 c_q_r2 c_q_r3
  obtain ⟨q_s, q_r, O_s, hB⟩ := HQ.out
  clear HQ
  have B_n := LM.of hm
  have hst := hm.below
  obtain ⟨a_n, c_n, rfl, -, -⟩ := hm.bytes.form rfl
  clear hm
  have sz_w2 : w1.heap.size ≤ w2.heap.size := hst.size
  replace q_s := q_s.step hst
  replace q_r := q_r.step hst
  replace O_s := O_s.step hst
  replace hB := hB.step hst
  clear hst
  have HQ := Lib.hid (And.intro q_s (And.intro q_r (And.intro O_s (And.intro B_n hB))))
  clear q_s q_r O_s B_n hB
  have c_q_s0 := LK.cell HQ.out.1 0
  have c_q_s1 := LK.cell HQ.out.1 1
  have c_q_s2 := LK.cell HQ.out.1 2
  have c_q_s3 := LK.cell HQ.out.1 3
  have c_q_r0 := LK.cell HQ.out.2.1 0
  have c_q_r1 := LK.cell HQ.out.2.1 1
  have c_q_r2 := LK.cell HQ.out.2.1 2
  have c_q_r3 := LK.cell HQ.out.2.1 3
  simp at c_q_s0 c_q_s1 c_q_s2 c_q_s3 c_q_r0 c_q_r1 c_q_r2 c_q_r3
  go_wp2_with fail
  refine (HC.out.2.2 hf _ _ _ _ _ HQ.out.2.2.1.d HQ.out.2.2.2.1.v HQ.out.2.2.1.l).mono ?_
  rintro e w3 ⟨b1, u1, x1, y1, rfl, hm⟩
  clear c_q_s0 c_q_s1 c_q_s2 c_q_s3 c_q_r0 c_q_r1 c_q_r2 c_q_r3
  obtain ⟨q_s, q_r, O_s, B_n, hB⟩ := HQ.out
  clear HQ
  have P_t := LP.of hm
  have hst := hm.below
  obtain ⟨ab_t, cb_t, rfl, -, -, -, -⟩ := hm.store.v.1.1
  obtain ⟨au_t, cu_t, rfl, -, -, -, -⟩ := hm.store.v.1.2
  obtain ⟨ax_t, cx_t, rfl, -, -⟩ := hm.store.v.2.1.form rfl
  obtain ⟨ay_t, cy_t, rfl, -, -⟩ := hm.store.v.2.2.form rfl
  clear hm
  have sz_w3 : w2.heap.size ≤ w3.heap.size := hst.size
  replace q_s := q_s.step hst
  replace q_r := q_r.step hst
  replace O_s := O_s.step hst
  replace B_n := B_n.step hst
  replace hB := hB.step hst
  clear hst
  have HQ := Lib.hid (And.intro q_s (And.intro q_r (And.intro O_s (And.intro B_n (And.intro P_t hB)))))
  clear q_s q_r O_s B_n P_t hB
  have c_q_s0 := LK.cell HQ.out.1 0
  have c_q_s1 := LK.cell HQ.out.1 1
  have c_q_s2 := LK.cell HQ.out.1 2
  have c_q_s3 := LK.cell HQ.out.1 3
  have c_q_r0 := LK.cell HQ.out.2.1 0
  have c_q_r1 := LK.cell HQ.out.2.1 1
  have c_q_r2 := LK.cell HQ.out.2.1 2
  have c_q_r3 := LK.cell HQ.out.2.1 3
  have z_q_r0 := LK.frozen HQ.out.2.1 0
  have z_q_r1 := LK.frozen HQ.out.2.1 1
  have z_q_r2 := LK.frozen HQ.out.2.1 2
  have z_q_r3 := LK.frozen HQ.out.2.1 3
  simp at c_q_s0 c_q_s1 c_q_s2 c_q_s3 c_q_r0 c_q_r1 c_q_r2 c_q_r3
  go_wp2
  refine bodyPost_ret (v := .tuple #[.agg #[.slice ab_t s.disk.blocks.length cb_t, .slice au_t s.disk.waits.length cu_t, .slice ax_t ot.length cx_t, .slice ay_t s.last.length cy_t], .int .i64 0]) (by simp [results, Try.results21, go_sem, c_q_r0, c_q_r1, c_q_r2, c_q_r3]) rfl ⟨_, _, _, _, rfl, ?_⟩
  exact (((MadeL.mk ((HQ.out.2.2.2.2.1.t).more (by omega) (Lv.hi_le HQ.out.2.2.2.2.1)) HQ.out.2.2.2.2.2 : MadeL w _ (w.heap.size + 2) _ _ _ _ ⟨s.disk, ot, s.last⟩)).four (w.heap.size + 1) _ _ _ _ (Nat.le_succ _) (Nat.lt_succ_self _)).made (by omega)

end Go.Proofs.Ytbddbadmfhplmaa

namespace Go.Proofs.Ytbddbadmfhplmaa
open Go.RowKit

section
variable {F : Fence} {n : Nat} {P : Program} {ops : Array Oper} {Q : Exit → Act → World → Prop} {md : Region.Mode}

/-- The operations but z. -/
def OpsQ (F : Fence) (n : Nat) (P : Program) (ops : Array Oper) (Q : Exit → Act → World → Prop) (z : Nat) (deps : Nat → List Nat) (f : Nat → Value → Value → Prop) (Gz : Value → World → Prop) (W0 : World) (is : List Nat) (a0 : Act) (l : List Nat) : Prop :=
  ∀ i ∈ l, i ≠ z → ∀ o, ops[i]? = some o → ∀ (vs : Nat → Value) (W : World), (∀ j ∈ deps i, j ≠ z → f j (vs j) (vs z)) → ((deps i).contains z = true → Gz (vs z) W) → ((deps i).contains z = false → W = W0) → ∀ K : Act → World → Prop,
    (∀ v, f i v (vs z) → K ((putAll ops vs is a0).put o.dst v) W) →
    if Region.wanted o (yielded ops (putAll ops vs is a0).tmps) = true then Oper.wpIn F n P o (putAll ops vs is a0) W K Q else (∀ g, o.about P W (putAll ops vs is a0).eval = some g → F.fn g) ∧ K ((putAll ops vs is a0).put o.dst undef) W
theorem OpsQ.nil {z : Nat} {deps : Nat → List Nat} {f : Nat → Value → Value → Prop} {Gz : Value → World → Prop} {W0 : World} {is : List Nat} {a0 : Act} : OpsQ F n P ops Q z deps f Gz W0 is a0 [] := fun _ h => by cases h
/-- It is the same for each. -/
theorem OpsQ.cons {z : Nat} {deps : Nat → List Nat} {f : Nat → Value → Value → Prop} {Gz : Value → World → Prop} {W0 : World} {is : List Nat} {a0 : Act} {i : Nat} {l : List Nat} (o : Oper) (ho : ops[i]? = some o)
    (h : ∀ (vs : Nat → Value) (W : World), (∀ j ∈ deps i, j ≠ z → f j (vs j) (vs z)) → ((deps i).contains z = true → Gz (vs z) W) → ((deps i).contains z = false → W = W0) → ∀ K : Act → World → Prop,
      (∀ v, f i v (vs z) → K ((putAll ops vs is a0).put o.dst v) W) →
      if Region.wanted o (yielded ops (putAll ops vs is a0).tmps) = true then Oper.wpIn F n P o (putAll ops vs is a0) W K Q else (∀ g, o.about P W (putAll ops vs is a0).eval = some g → F.fn g) ∧ K ((putAll ops vs is a0).put o.dst undef) W)
    (hs : OpsQ F n P ops Q z deps f Gz W0 is a0 l) : OpsQ F n P ops Q z deps f Gz W0 is a0 (i :: l) := fun j hj hne o' ho' => by
  rcases List.mem_cons.1 hj with rfl | hj
  · rw [ho] at ho'; cases ho'; exact h
  · exact hs j hj hne o' ho'
theorem OpsQ.skip {z : Nat} {deps : Nat → List Nat} {f : Nat → Value → Value → Prop} {Gz : Value → World → Prop} {W0 : World} {is : List Nat} {a0 : Act} {l : List Nat}
    (hs : OpsQ F n P ops Q z deps f Gz W0 is a0 l) : OpsQ F n P ops Q z deps f Gz W0 is a0 (z :: l) := fun j hj hne o' ho' => by
  rcases List.mem_cons.1 hj with rfl | hj
  · exact absurd rfl hne
  · exact hs j hj hne o' ho'

end
end Go.Proofs.Ytbddbadmfhplmaa

namespace Go.Proofs.Ytbddbadmfhplmaa
open Go.RowKit Go.Shelf
attribute [local go_sem] Oper.semAt_some

theorem or_u8 (a b : UInt8) : bits .or .u8 (a.toNat : Int) (b.toNat : Int) = ((a ||| b).toNat : Int) := by
  simp only [bits, IntKind.bits]
  rw [BitVec.ofInt_natCast, BitVec.ofInt_natCast]
  have ha := a.toNat_lt
  have hb := b.toNat_lt
  rw [IntKind.wrap_u8]
  have e : ((BitVec.ofNat 8 a.toNat ||| BitVec.ofNat 8 b.toNat).toNat) = (a ||| b).toNat := by
    rw [BitVec.toNat_or, BitVec.toNat_ofNat, BitVec.toNat_ofNat, UInt8.toNat_or, Nat.mod_eq_of_lt ha, Nat.mod_eq_of_lt hb]
  have h2 := (a ||| b).toNat_lt
  show (((BitVec.ofNat 8 a.toNat ||| BitVec.ofNat 8 b.toNat).toNat : Nat) : Int) % 256 = _
  rw [e]
  omega
theorem or_zero_iff (a b : UInt8) : (a ||| b).toNat = 0 ↔ a = 0 ∧ b = 0 := by
  rw [UInt8.toNat_or]
  constructor
  · intro h
    have h1 := Nat.left_le_or (n := a.toNat) (m := b.toNat)
    have h2 := Nat.right_le_or (n := a.toNat) (m := b.toNat)
    exact ⟨u8_inj (by show a.toNat = 0; omega), u8_inj (by show b.toNat = 0; omega)⟩
  · rintro ⟨rfl, rfl⟩
    rfl

/-- What the rounds must keep: all below n0, and the block Bs. -/
def KeepF (n₀ Bs : Nat) (A B : World) : Prop := Below n₀ A B ∧ B.heap[Bs]? = A.heap[Bs]?
theorem KeepF.refl (n₀ Bs : Nat) (A : World) : KeepF n₀ Bs A A := ⟨Below.refl _ _, rfl⟩
theorem KeepF.trans {n₀ Bs : Nat} {A B C : World} (h : KeepF n₀ Bs A B) (k : KeepF n₀ Bs B C) : KeepF n₀ Bs A C := ⟨h.1.trans k.1, k.2.trans h.2⟩
def encF (x : Fin 256) : Array Value := #[.int .i64 (x.1 : Int)]

end Go.Proofs.Ytbddbadmfhplmaa

namespace Go.Proofs.Ytbddbadmfhplmaa
open Go.RowKit Go.Shelf
attribute [local go_sem] Oper.semAt_some encF

theorem ownsRow_grown {W W' : World} {base : Nat} {e : TypeId} {size n : Nat} {v : Value} {xs : List Value} {row : Option Nat} (h : W.ownsRow base e size v n xs) (hg : W.grownBy W' row) (hr : ∀ r, row = some r → ∃ o : Obj, W.heap[r]? = some o ∧ o.isCells = false) : W'.ownsRow base e size v n xs := by
  refine h.kept hg ?_
  rcases h.2 with ⟨rfl, _⟩ | ⟨g, cap, cur, rfl, _, hgb, _⟩
  · exact .inl rfl
  · refine .inr fun e' => ?_
    obtain ⟨o, ho, hc⟩ := hr g e'.symm
    rw [hgb] at ho
    cases ho
    cases hc
theorem hidp {p : Prop} (h : Hid p) : p := h.out
end Go.Proofs.Ytbddbadmfhplmaa

namespace Go.Proofs.Ytbddbadmfhplmaa
open Go.RowKit Go.Shelf
attribute [local go_sem] Oper.semAt_some encF

theorem StoreT.ck {w w' : World} {lo : Nat} {b u x y : Value} {s : StoreL} (h : StoreT w lo w.heap.size b u x y s) (hc : CKc w w') (hs : w.heap.size ≤ w'.heap.size) : StoreT w' lo w'.heap.size b u x y s :=
  StoreT.more (w := w') (lo := lo) (hi := w.heap.size) ⟨⟨Sl.ck rBytesT_ck h.1.1 hc, Sl.ck rWriteT_ck h.1.2 hc⟩, ⟨h.2.1.1.ck hc, thawed_ck hc h.2.1.1 h.2.1.2⟩, ⟨h.2.2.1.ck hc, thawed_ck hc h.2.2.1 h.2.2.2⟩⟩ (Nat.le_refl _) hs
end Go.Proofs.Ytbddbadmfhplmaa

