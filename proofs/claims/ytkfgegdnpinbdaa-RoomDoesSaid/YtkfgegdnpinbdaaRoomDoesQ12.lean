/- RoomDoes: the words and contracts, part 12. -/
import Derived.Test.YtkfgegdnpinbdaaRoomDoesQ1
import Derived.Test.YtkfgegdnpinbdaaRoomDoesQ2
import Derived.Test.YtkfgegdnpinbdaaRoomDoesQ3
import Derived.Test.YtkfgegdnpinbdaaRoomDoesQ4
import Derived.Test.YtkfgegdnpinbdaaRoomDoesQ5
import Derived.Test.YtkfgegdnpinbdaaRoomDoesQ6
import Derived.Test.YtkfgegdnpinbdaaRoomDoesQ7
import Derived.Test.YtkfgegdnpinbdaaRoomDoesQ11
import Derived.WalkKit
import Derived.WalkLawsBesides
import Derived.WalkSpells
import Derived.Lib.Hide
import Derived.Laws.Rows
import Derived.Laws.AppendOwnNone
import Derived.Maps.AppendAt
import Derived.ProofKit
import Derived.Deep.Slices
import Derived.WideShapes
import Derived.RangeFuncNested
import Derived.RangeFuncBound
import Derived.RangeFuncCalls
import Derived.RangeFuncLeaves
import Derived.RangeFuncBox
import Derived.Shelf.Abstract
import Derived.Shelf.RegionOpen
import Derived.OwnWalkIn
import Derived.TacticsInMore
import Derived.LoopNIn
import Derived.LoopIn
import Derived.Lib.AppendZerosOnto
import Derived.Lib.SliceRun
import Derived.Lib.Walk
import Derived.Deep.LoopGhost
import Derived.Laws.CopyOwn
import Derived.Laws.CopyRow
import Derived.OrdersHeld
import Derived.Deep.QuietTactic
import Derived.BigQuiet
import Derived.StillTailTactics
import Derived.OpenShut
import Derived.Deep.DeepCutAuto
import Derived.Laws.MakeOwn
import Derived.Deep.RegionHeld
import Derived.KernelRfl
import Derived.BigFrameIn
import Derived.OrdersIn
namespace Go.Proofs.Ytkfgegdnpinbdaa
open Go.RowKit

/-- A store that is not great. -/
def SmallS (s : StoreL) : Prop := (s.disk.blocks.length ≤ 300 ∧ s.disk.waits.length ≤ 5000 ∧ (datD s.disk).flatten.length ≤ 800000) ∧ s.now.length ≤ 10000 ∧ s.last.length ≤ 10000
theorem SmallS.few {s : StoreL} (h : SmallS s) : FewS s := by
  obtain ⟨⟨h1, h2, h3⟩, h4, h5⟩ := h
  exact ⟨by omega, by omega, by omega, by omega, by omega⟩

set_option maxRecDepth 100000 in
set_option maxHeartbeats 1000000 in
theorem great8_any (b_s u_s x_s y_s : Value) (s : StoreL) (w : World) (h_s : StoreV w 0 w.heap.size b_s u_s x_s y_s s) :
    Calls Try.prog 5 #[.agg #[b_s, u_s, x_s, y_s]] w fun e w' => ∃ g, e = .returned (.bool g) ∧ Below w.heap.size w w' ∧ (g = false → SmallS s) := by
  obtain ⟨ab_s, cb_s, rfl, gb_s, gc_s, -, -⟩ := h_s.1.1
  obtain ⟨au_s, cu_s, rfl, gu_s, gv_s, -, -⟩ := h_s.1.2
  obtain ⟨ax_s, cx_s, rfl, gx_s, gz_s⟩ := h_s.2.1.form rfl
  obtain ⟨ay_s, cy_s, rfl, gy_s, gw_s⟩ := h_s.2.2.form rfl
  unfold maxLen at gc_s gv_s gz_s gw_s
  have hst := ((Below.refl w.heap.size w).alloc (Nat.le_refl _) (.cells #[.slice ab_s s.disk.blocks.length cb_s, .slice au_s s.disk.waits.length cu_s, .slice ax_s s.now.length cx_s, .slice ay_s s.last.length cy_s] 28))
  have q_s := LK.new w (.cells #[.slice ab_s s.disk.blocks.length cb_s, .slice au_s s.disk.waits.length cu_s, .slice ax_s s.now.length cx_s, .slice ay_s s.last.length cy_s] 28)
  have hB : LW w _ := hst
  have O_s := (LO.of h_s (Nat.le_refl _)).step hst
  have sz_V : w.heap.size + 0 < (w.alloc (.cells #[.slice ab_s s.disk.blocks.length cb_s, .slice au_s s.disk.waits.length cu_s, .slice ax_s s.now.length cx_s, .slice ay_s s.last.length cy_s] 28)).heap.size := by simp
  obtain ⟨V, hV⟩ : ∃ V, (w.alloc (.cells #[.slice ab_s s.disk.blocks.length cb_s, .slice au_s s.disk.waits.length cu_s, .slice ax_s s.now.length cx_s, .slice ay_s s.last.length cy_s] 28)) = V := ⟨_, rfl⟩
  rw [hV] at sz_V q_s O_s hB
  clear hst h_s
  have HQ := Lib.hid (And.intro q_s (And.intro O_s hB))
  clear q_s O_s hB
  have c_q_s0 := LK.cell HQ.out.1 0
  have c_q_s1 := LK.cell HQ.out.1 1
  have c_q_s2 := LK.cell HQ.out.1 2
  have c_q_s3 := LK.cell HQ.out.1 3
  simp at c_q_s0 c_q_s1 c_q_s2 c_q_s3
  have k_g := fun V b u hh => great_any b u s.disk V hh
  have HC := Lib.hid (k_g)
  clear k_g
  go_enter Try.func5, Try.ntmps5
  go_upto_region 1 with (fail)
  clear hV
  go_wp2_with fail
  refine (HC.out _ _ _ HQ.out.2.1.d).mono ?_
  rintro e w1 ⟨g, rfl, hst, hg⟩
  clear c_q_s0 c_q_s1 c_q_s2 c_q_s3
  obtain ⟨q_s, O_s, hB⟩ := HQ.out
  clear HQ
  have sz_w1 : V.heap.size ≤ w1.heap.size := hst.size
  replace q_s := q_s.step hst
  replace O_s := O_s.step hst
  replace hB := hB.step hst
  clear hst
  have HQ := Lib.hid (And.intro q_s (And.intro O_s hB))
  clear q_s O_s hB
  have c_q_s0 := LK.cell HQ.out.1 0
  have c_q_s1 := LK.cell HQ.out.1 1
  have c_q_s2 := LK.cell HQ.out.1 2
  have c_q_s3 := LK.cell HQ.out.1 3
  simp at c_q_s0 c_q_s1 c_q_s2 c_q_s3
  cases g
  case true =>
    go_wp2
    go_ret
    exact ⟨true, rfl, HQ.out.2.2, fun h => by cases h⟩
  have hg := hg rfl
  have HG := Lib.hid hg
  clear hg
  by_cases h1 : 10000 < s.now.length
  · have i1 : (10000 : Int) < s.now.length := by omega
    go_wp2
    go_ret
    exact ⟨true, rfl, HQ.out.2.2, fun h => by cases h⟩
  have i1 : decide ((10000 : Int) < s.now.length) = false := by simp; omega
  by_cases h2 : 10000 < s.last.length
  · have i2 : (10000 : Int) < s.last.length := by omega
    go_wp2
    go_ret
    exact ⟨true, rfl, HQ.out.2.2, fun h => by cases h⟩
  have i2 : decide ((10000 : Int) < s.last.length) = false := by simp; omega
  go_wp2
  go_ret
  exact ⟨false, rfl, HQ.out.2.2, fun _ => ⟨HG.out, by omega, by omega⟩⟩

theorem errAs_cases (s : StoreL) (p : Int) : (errS s = 8 ∧ errAs s p = 8) ∨ (errS s = 0 ∧ mayS s = true ∧ ((p < 8 ∧ errAs s p = 2) ∨ (256 ≤ p ∧ errAs s p = 2) ∨
    ∃ pn : Nat, p = pn ∧ 8 ≤ pn ∧ pn < 256 ∧ ((s.now.getD pn 0 = 0 ∧ errAs s p = 6) ∨ (s.now.getD pn 0 ≠ 0 ∧ errAs s p = 0)))) := by
  unfold errS errAs
  cases hm : mayS s with
  | false => exact .inl ⟨rfl, rfl⟩
  | true =>
    refine .inr ⟨rfl, rfl, ?_⟩
    rw [if_pos rfl]
    by_cases h1 : p < 8
    · exact .inl ⟨h1, by rw [if_pos (.inl h1)]⟩
    by_cases h2 : 256 ≤ p
    · exact .inr (.inl ⟨h2, by rw [if_pos (.inr h2)]⟩)
    obtain ⟨pn, rfl⟩ : ∃ pn : Nat, p = pn := ⟨p.toNat, by omega⟩
    refine .inr (.inr ⟨pn, rfl, by omega, by omega, ?_⟩)
    rw [if_neg (by omega), Int.toNat_natCast]
    by_cases h3 : s.now.getD pn 0 = 0
    · exact .inl ⟨h3, by rw [if_pos h3]⟩
    · exact .inr ⟨h3, by rw [if_neg h3]⟩
theorem u8_nz {x : UInt8} (h : x ≠ 0) : ¬ (x.toNat : Int) = 0 := fun e => h (u8_inj (by show x.toNat = 0; omega))

set_option maxRecDepth 100000 in
set_option maxHeartbeats 1000000 in
theorem sasked_any (b_s u_s x_s y_s : Value) (s : StoreL) (p : Int) (w : World) (h_s : StoreV w 0 w.heap.size b_s u_s x_s y_s s) :
    Calls Try.prog 42 #[.agg #[b_s, u_s, x_s, y_s], .int .i64 p] w fun e w' => e = .returned (.int .i64 (errAs s p)) ∧ Below w.heap.size w w' := by
  obtain ⟨ab_s, cb_s, rfl, gb_s, gc_s, -, -⟩ := h_s.1.1
  obtain ⟨au_s, cu_s, rfl, gu_s, gv_s, -, -⟩ := h_s.1.2
  obtain ⟨ax_s, cx_s, rfl, gx_s, gz_s⟩ := h_s.2.1.form rfl
  obtain ⟨ay_s, cy_s, rfl, gy_s, gw_s⟩ := h_s.2.2.form rfl
  unfold maxLen at gc_s gv_s gz_s gw_s
  have hst := ((Below.refl w.heap.size w).alloc (Nat.le_refl _) (.cells #[.slice ab_s s.disk.blocks.length cb_s, .slice au_s s.disk.waits.length cu_s, .slice ax_s s.now.length cx_s, .slice ay_s s.last.length cy_s] 28))
  have q_s := LK.new w (.cells #[.slice ab_s s.disk.blocks.length cb_s, .slice au_s s.disk.waits.length cu_s, .slice ax_s s.now.length cx_s, .slice ay_s s.last.length cy_s] 28)
  have hB : LW w _ := hst
  have O_s := (LO.of h_s (Nat.le_refl _)).step hst
  have sz_V : w.heap.size + 0 < (w.alloc (.cells #[.slice ab_s s.disk.blocks.length cb_s, .slice au_s s.disk.waits.length cu_s, .slice ax_s s.now.length cx_s, .slice ay_s s.last.length cy_s] 28)).heap.size := by simp
  obtain ⟨V, hV⟩ : ∃ V, (w.alloc (.cells #[.slice ab_s s.disk.blocks.length cb_s, .slice au_s s.disk.waits.length cu_s, .slice ax_s s.now.length cx_s, .slice ay_s s.last.length cy_s] 28)) = V := ⟨_, rfl⟩
  rw [hV] at sz_V q_s O_s hB
  clear hst h_s
  have HQ := Lib.hid (And.intro q_s (And.intro O_s hB))
  clear q_s O_s hB
  have c_q_s0 := LK.cell HQ.out.1 0
  have c_q_s1 := LK.cell HQ.out.1 1
  have c_q_s2 := LK.cell HQ.out.1 2
  have c_q_s3 := LK.cell HQ.out.1 3
  simp at c_q_s0 c_q_s1 c_q_s2 c_q_s3
  have hE := errAs_cases s p
  obtain ⟨es, hes⟩ : ∃ e, errS s = e := ⟨_, rfl⟩
  obtain ⟨ea, hea⟩ : ∃ e, errAs s p = e := ⟨_, rfl⟩
  have k_c := fun V b u x y hh => scheck_any b u x y s V hh
  rw [hes] at k_c hE
  rw [hea] at hE ⊢
  clear hes hea
  have HC := Lib.hid (k_c)
  clear k_c
  go_enter Try.func42, Try.ntmps42
  go_upto_region 1 with (fail)
  clear hV
  go_wp2_with fail
  refine (HC.out _ _ _ _ _ HQ.out.2.1.v).mono ?_
  rintro e w1 ⟨rfl, hst⟩
  clear c_q_s0 c_q_s1 c_q_s2 c_q_s3
  obtain ⟨q_s, O_s, hB⟩ := HQ.out
  clear HQ
  have sz_w1 : V.heap.size ≤ w1.heap.size := hst.size
  replace q_s := q_s.step hst
  replace O_s := O_s.step hst
  replace hB := hB.step hst
  clear hst
  have HQ := Lib.hid (And.intro q_s (And.intro O_s hB))
  clear q_s O_s hB
  have c_q_s0 := LK.cell HQ.out.1 0
  have c_q_s1 := LK.cell HQ.out.1 1
  have c_q_s2 := LK.cell HQ.out.1 2
  have c_q_s3 := LK.cell HQ.out.1 3
  simp at c_q_s0 c_q_s1 c_q_s2 c_q_s3
  rcases hE with ⟨rfl, rfl⟩ | ⟨rfl, hm, ⟨hp, rfl⟩ | ⟨hp, rfl⟩ | ⟨pn, rfl, h8, h9, hx⟩⟩
  · skip
    go_wp2
    go_ret
    exact ⟨rfl, HQ.out.2.2⟩
  · have i1 : p < 8 := hp
    go_wp2
    go_ret
    exact ⟨rfl, HQ.out.2.2⟩
  · have i1 : ¬ p < 8 := by omega
    go_wp2
    go_ret
    exact ⟨rfl, HQ.out.2.2⟩
  have h256 := mayT_len (mayS_iff.1 hm).2.1
  obtain ⟨nb, no, nc, e1, -, zb, z1, zc, hcell⟩ := HQ.out.2.1.n.at_n h256 (by omega)
  injection e1 with e1 _ e2
  subst e1 e2
  have hcx := hcell pn (s.now.getD pn 0) (get_l _ _ _ (by omega))
  unfold maxLen at zc
  rw [h256] at c_q_s2
  obtain ⟨z, hz⟩ : ∃ z, s.now.getD pn 0 = z := ⟨_, rfl⟩
  rw [hz] at hx hcx
  simp only [bV] at hcx
  have HM := Lib.hid (And.intro hcell h256)
  clear hcell h256 hz hm
  have i1 : ¬ ((pn : Int) < 8) := by omega
  have i2 : ¬ ((256 : Int) ≤ pn) := by omega
  rcases hx with ⟨rfl, rfl⟩ | ⟨hx, rfl⟩
  · have z0 : ((0 : UInt8).toNat : Int) = 0 := rfl
    rw [z0] at hcx
    go_wp2
    go_ret
    exact ⟨rfl, HQ.out.2.2⟩
  · have hx2 := u8_nz hx
    generalize (z.toNat : Int) = zi at *
    go_wp2
    go_ret
    exact ⟨rfl, HQ.out.2.2⟩

set_option maxRecDepth 100000 in
set_option maxHeartbeats 1000000 in
theorem ssame_any (b_s u_s x_s y_s : Value) (s : StoreL) (b_t u_t x_t y_t : Value) (t : StoreL) (w : World) (h_s : StoreV w 0 w.heap.size b_s u_s x_s y_s s) (h_t : StoreV w 0 w.heap.size b_t u_t x_t y_t t) :
    Calls Try.prog 20 #[.agg #[b_s, u_s, x_s, y_s], .agg #[b_t, u_t, x_t, y_t]] w fun e w' => e = .returned (.bool (decide (s = t))) ∧ Below w.heap.size w w' := by
  obtain ⟨ab_s, cb_s, rfl, gb_s, gc_s, -, -⟩ := h_s.1.1
  obtain ⟨au_s, cu_s, rfl, gu_s, gv_s, -, -⟩ := h_s.1.2
  obtain ⟨ax_s, cx_s, rfl, gx_s, gz_s⟩ := h_s.2.1.form rfl
  obtain ⟨ay_s, cy_s, rfl, gy_s, gw_s⟩ := h_s.2.2.form rfl
  unfold maxLen at gc_s gv_s gz_s gw_s
  obtain ⟨ab_t, cb_t, rfl, gb_t, gc_t, -, -⟩ := h_t.1.1
  obtain ⟨au_t, cu_t, rfl, gu_t, gv_t, -, -⟩ := h_t.1.2
  obtain ⟨ax_t, cx_t, rfl, gx_t, gz_t⟩ := h_t.2.1.form rfl
  obtain ⟨ay_t, cy_t, rfl, gy_t, gw_t⟩ := h_t.2.2.form rfl
  unfold maxLen at gc_t gv_t gz_t gw_t
  have hst := (((Below.refl w.heap.size w).alloc (Nat.le_refl _) (.cells #[.slice ab_s s.disk.blocks.length cb_s, .slice au_s s.disk.waits.length cu_s, .slice ax_s s.now.length cx_s, .slice ay_s s.last.length cy_s] 28)).alloc (by simp) (.cells #[.slice ab_t t.disk.blocks.length cb_t, .slice au_t t.disk.waits.length cu_t, .slice ax_t t.now.length cx_t, .slice ay_t t.last.length cy_t] 28))
  have hq := two_new w (.cells #[.slice ab_s s.disk.blocks.length cb_s, .slice au_s s.disk.waits.length cu_s, .slice ax_s s.now.length cx_s, .slice ay_s s.last.length cy_s] 28) (.cells #[.slice ab_t t.disk.blocks.length cb_t, .slice au_t t.disk.waits.length cu_t, .slice ax_t t.now.length cx_t, .slice ay_t t.last.length cy_t] 28)
  have q_s := LK.of hq.1
  have q_t := LK.of hq.2
  have hB : LW w _ := hst
  have O_s := (LO.of h_s (Nat.le_refl _)).step hst
  have O_t := (LO.of h_t (Nat.le_refl _)).step hst
  have sz_V : w.heap.size + 1 < ((w.alloc (.cells #[.slice ab_s s.disk.blocks.length cb_s, .slice au_s s.disk.waits.length cu_s, .slice ax_s s.now.length cx_s, .slice ay_s s.last.length cy_s] 28)).alloc (.cells #[.slice ab_t t.disk.blocks.length cb_t, .slice au_t t.disk.waits.length cu_t, .slice ax_t t.now.length cx_t, .slice ay_t t.last.length cy_t] 28)).heap.size := by simp
  obtain ⟨V, hV⟩ : ∃ V, ((w.alloc (.cells #[.slice ab_s s.disk.blocks.length cb_s, .slice au_s s.disk.waits.length cu_s, .slice ax_s s.now.length cx_s, .slice ay_s s.last.length cy_s] 28)).alloc (.cells #[.slice ab_t t.disk.blocks.length cb_t, .slice au_t t.disk.waits.length cu_t, .slice ax_t t.now.length cx_t, .slice ay_t t.last.length cy_t] 28)) = V := ⟨_, rfl⟩
  rw [hV] at sz_V q_s q_t O_s O_t hB
  clear hst h_s h_t hq
  have HQ := Lib.hid (And.intro q_s (And.intro q_t (And.intro O_s (And.intro O_t hB))))
  clear q_s q_t O_s O_t hB
  have c_q_s0 := LK.cell HQ.out.1 0
  have c_q_s1 := LK.cell HQ.out.1 1
  have c_q_s2 := LK.cell HQ.out.1 2
  have c_q_s3 := LK.cell HQ.out.1 3
  have c_q_t0 := LK.cell HQ.out.2.1 0
  have c_q_t1 := LK.cell HQ.out.2.1 1
  have c_q_t2 := LK.cell HQ.out.2.1 2
  have c_q_t3 := LK.cell HQ.out.2.1 3
  simp at c_q_s0 c_q_s1 c_q_s2 c_q_s3 c_q_t0 c_q_t1 c_q_t2 c_q_t3
  obtain ⟨bd, hbd⟩ : ∃ b, decide (s.disk = t.disk) = b := ⟨_, rfl⟩
  obtain ⟨bn, hbn⟩ : ∃ b, decide (s.now = t.now) = b := ⟨_, rfl⟩
  obtain ⟨bl, hbl⟩ : ∃ b, decide (s.last = t.last) = b := ⟨_, rfl⟩
  have hE : decide (s = t) = (bd && (bn && bl)) := by
    rw [← hbd, ← hbn, ← hbl]
    obtain ⟨s1, s2, s3⟩ := s
    obtain ⟨t1, t2, t3⟩ := t
    simp [StoreL.mk.injEq]
  rw [hE]
  have k_d := fun V b u b2 u2 hh h2 => dsame_any b u b2 u2 s.disk t.disk V hh h2
  have k_n := fun V v v2 hh h2 => bequal_any v v2 s.now t.now V 0 V.heap.size 0 V.heap.size hh h2
  have k_l := fun V v v2 hh h2 => bequal_any v v2 s.last t.last V 0 V.heap.size 0 V.heap.size hh h2
  rw [hbd] at k_d
  rw [hbn] at k_n
  rw [hbl] at k_l
  clear hE hbd hbn hbl
  have HC := Lib.hid (And.intro k_d (And.intro k_n k_l))
  clear k_d k_n k_l
  go_enter Try.func20, Try.ntmps20
  go_upto_region 1 with (fail)
  clear hV
  go_wp2_with fail
  refine (HC.out.1 _ _ _ _ _ HQ.out.2.2.1.d HQ.out.2.2.2.1.d).mono ?_
  rintro e w1 ⟨rfl, hst⟩
  clear c_q_s0 c_q_s1 c_q_s2 c_q_s3 c_q_t0 c_q_t1 c_q_t2 c_q_t3
  obtain ⟨q_s, q_t, O_s, O_t, hB⟩ := HQ.out
  clear HQ
  have sz_w1 : V.heap.size ≤ w1.heap.size := hst.size
  replace q_s := q_s.step hst
  replace q_t := q_t.step hst
  replace O_s := O_s.step hst
  replace O_t := O_t.step hst
  replace hB := hB.step hst
  clear hst
  have HQ := Lib.hid (And.intro q_s (And.intro q_t (And.intro O_s (And.intro O_t hB))))
  clear q_s q_t O_s O_t hB
  have c_q_s0 := LK.cell HQ.out.1 0
  have c_q_s1 := LK.cell HQ.out.1 1
  have c_q_s2 := LK.cell HQ.out.1 2
  have c_q_s3 := LK.cell HQ.out.1 3
  have c_q_t0 := LK.cell HQ.out.2.1 0
  have c_q_t1 := LK.cell HQ.out.2.1 1
  have c_q_t2 := LK.cell HQ.out.2.1 2
  have c_q_t3 := LK.cell HQ.out.2.1 3
  simp at c_q_s0 c_q_s1 c_q_s2 c_q_s3 c_q_t0 c_q_t1 c_q_t2 c_q_t3
  cases bd
  case false =>
    go_wp2
    go_ret
    exact ⟨rfl, HQ.out.2.2.2.2⟩
  go_wp2_with fail
  refine (HC.out.2.1 _ _ _ HQ.out.2.2.1.n HQ.out.2.2.2.1.n).mono ?_
  rintro e w0 ⟨rfl, hw0⟩
  rw [hw0]
  clear hw0 w0
  cases bn
  case false =>
    go_wp2
    go_ret
    exact ⟨rfl, HQ.out.2.2.2.2⟩
  go_wp2_with fail
  refine (HC.out.2.2 _ _ _ HQ.out.2.2.1.l HQ.out.2.2.2.1.l).mono ?_
  rintro e w0 ⟨rfl, hw0⟩
  rw [hw0]
  clear hw0 w0
  cases bl
  case false =>
    go_wp2
    go_ret
    exact ⟨rfl, HQ.out.2.2.2.2⟩
  go_wp2
  go_ret
  exact ⟨rfl, HQ.out.2.2.2.2⟩

def newS : StoreL := ⟨newD, List.replicate 256 0, List.replicate 256 0⟩

set_option maxRecDepth 100000 in
set_option maxHeartbeats 1000000 in
theorem snew_any  (w : World)  :
    Calls Try.prog 21 #[] w fun e w' => ∃ b u x y, e = .returned (.agg #[b, u, x, y]) ∧ MadeS w w' b u x y newS := by
  have hst := ((Below.refl w.heap.size w).alloc (Nat.le_refl _) (.cells #[.slice none 0 0, .slice none 0 0, .slice none 0 0, .slice none 0 0] 28))
  have q_r := LK.new w (.cells #[.slice none 0 0, .slice none 0 0, .slice none 0 0, .slice none 0 0] 28)
  have hB : LW w _ := hst
  have sz_V : w.heap.size + 0 < (w.alloc (.cells #[.slice none 0 0, .slice none 0 0, .slice none 0 0, .slice none 0 0] 28)).heap.size := by simp
  obtain ⟨V, hV⟩ : ∃ V, (w.alloc (.cells #[.slice none 0 0, .slice none 0 0, .slice none 0 0, .slice none 0 0] 28)) = V := ⟨_, rfl⟩
  rw [hV] at sz_V q_r hB
  clear hst 
  have HQ := Lib.hid (And.intro q_r hB)
  clear q_r hB
  have c_q_r0 := LK.cell HQ.out.1 0
  have c_q_r1 := LK.cell HQ.out.1 1
  have c_q_r2 := LK.cell HQ.out.1 2
  have c_q_r3 := LK.cell HQ.out.1 3
  simp at c_q_r0 c_q_r1 c_q_r2 c_q_r3
  obtain ⟨dn, hdn⟩ : ∃ d, newD = d := ⟨_, rfl⟩
  obtain ⟨R, hR⟩ : ∃ R, List.replicate 256 (0 : UInt8) = R := ⟨_, rfl⟩
  have k_d := fun V => dnew_any V
  have k_n := fun V => cnew_any V
  rw [hdn] at k_d
  rw [hR] at k_n
  have hs : newS = ⟨dn, R, R⟩ := by rw [← hdn, ← hR]; rfl
  rw [hs]
  have hdw : dn.waits.length = 0 := by rw [← hdn]; rfl
  have HDW := Lib.hid hdw
  clear hs hdn hR hdw
  have HC := Lib.hid (And.intro k_d k_n)
  clear k_d k_n
  go_enter Try.func21, Try.ntmps21
  go_upto_region 1 with (fail)
  clear hV
  go_wp2_with fail
  refine (HC.out.1 _).mono ?_
  rintro e w1 ⟨b1, rfl, hm⟩
  clear c_q_r0 c_q_r1 c_q_r2 c_q_r3
  obtain ⟨q_r, hB⟩ := HQ.out
  clear HQ
  have D_d := LT.of hm
  have hst := hm.below
  obtain ⟨ab_r, cb_r, rfl, -, -, -, -⟩ := hm.v0.1
  clear hm
  have sz_w1 : V.heap.size ≤ w1.heap.size := hst.size
  replace q_r := q_r.step hst
  replace hB := hB.step hst
  clear hst
  have HQ := Lib.hid (And.intro q_r (And.intro D_d hB))
  clear q_r D_d hB
  have c_q_r0 := LK.cell HQ.out.1 0
  have c_q_r1 := LK.cell HQ.out.1 1
  have c_q_r2 := LK.cell HQ.out.1 2
  have c_q_r3 := LK.cell HQ.out.1 3
  simp at c_q_r0 c_q_r1 c_q_r2 c_q_r3
  go_wp2_with fail
  refine (HC.out.2 _).mono ?_
  rintro e w2 ⟨v1, rfl, hm⟩
  clear c_q_r0 c_q_r1 c_q_r2 c_q_r3
  obtain ⟨q_r, D_d, hB⟩ := HQ.out
  clear HQ
  have B_n := LM.of hm
  have hst := hm.below
  obtain ⟨a_n, c_n, rfl, -, -⟩ := hm.bytes.form rfl
  clear hm
  have sz_w2 : w1.heap.size ≤ w2.heap.size := hst.size
  replace q_r := q_r.step hst
  replace D_d := D_d.step hst
  replace hB := hB.step hst
  clear hst
  have HQ := Lib.hid (And.intro q_r (And.intro D_d (And.intro B_n hB)))
  clear q_r D_d B_n hB
  have c_q_r0 := LK.cell HQ.out.1 0
  have c_q_r1 := LK.cell HQ.out.1 1
  have c_q_r2 := LK.cell HQ.out.1 2
  have c_q_r3 := LK.cell HQ.out.1 3
  simp at c_q_r0 c_q_r1 c_q_r2 c_q_r3
  go_wp2_with fail
  refine (HC.out.2 _).mono ?_
  rintro e w3 ⟨v2, rfl, hm⟩
  clear c_q_r0 c_q_r1 c_q_r2 c_q_r3
  obtain ⟨q_r, D_d, B_n, hB⟩ := HQ.out
  clear HQ
  have B_l := LM.of hm
  have hst := hm.below
  obtain ⟨a_l, c_l, rfl, -, -⟩ := hm.bytes.form rfl
  clear hm
  have sz_w3 : w2.heap.size ≤ w3.heap.size := hst.size
  replace q_r := q_r.step hst
  replace D_d := D_d.step hst
  replace B_n := B_n.step hst
  replace hB := hB.step hst
  clear hst
  have HQ := Lib.hid (And.intro q_r (And.intro D_d (And.intro B_n (And.intro B_l hB))))
  clear q_r D_d B_n B_l hB
  have c_q_r0 := LK.cell HQ.out.1 0
  have c_q_r1 := LK.cell HQ.out.1 1
  have c_q_r2 := LK.cell HQ.out.1 2
  have c_q_r3 := LK.cell HQ.out.1 3
  have z_q_r0 := LK.frozen HQ.out.1 0
  have z_q_r1 := LK.frozen HQ.out.1 1
  have z_q_r2 := LK.frozen HQ.out.1 2
  have z_q_r3 := LK.frozen HQ.out.1 3
  simp at c_q_r0 c_q_r1 c_q_r2 c_q_r3
  go_wp2
  refine bodyPost_ret (v := .agg #[.slice ab_r dn.blocks.length cb_r, .slice none 0 0, .slice a_n R.length c_n, .slice a_l R.length c_l]) (by simp [results, Try.results21, go_sem, c_q_r0, c_q_r1, c_q_r2, c_q_r3]) rfl ⟨_, _, _, _, rfl, ?_⟩
  have hL : MadeL w w3 (w.heap.size + 1) _ _ _ _ ⟨dn, R, R⟩ := ⟨⟨DiskT.more HQ.out.2.1.t (by omega) (Lv.hi_le HQ.out.2.1), ⟨HQ.out.2.2.1.m.1.more (by omega) (Lv.hi_le HQ.out.2.2.1), HQ.out.2.2.1.m.2⟩, ⟨HQ.out.2.2.2.1.m.1.more (by omega) (Lv.hi_le HQ.out.2.2.2.1), HQ.out.2.2.2.1.m.2⟩⟩, HQ.out.2.2.2.2⟩
  exact (hL.four w.heap.size _ _ _ _ (Nat.le_refl _) (Nat.lt_succ_self _)).made (Nat.le_succ _)

end Go.Proofs.Ytkfgegdnpinbdaa

namespace Go.Proofs.Ytkfgegdnpinbdaa
open Go.RowKit

theorem share_cases (s : StoreL) (p : Int) : (errAs s p ≠ 0 ∧ errSh s p = errAs s p ∧ shareS s p = noS) ∨ (errAs s p = 0 ∧ errT s.now p 255 ≠ 0 ∧ errSh s p = errT s.now p 255 ∧ shareS s p = noS) ∨
    (errAs s p = 0 ∧ errT s.now p 255 = 0 ∧ errSh s p = 0 ∧ shareS s p = ⟨s.disk, outT s.now p 1 255, s.last⟩ ∧ FewS ⟨s.disk, outT s.now p 1 255, s.last⟩) := by
  by_cases h : errAs s p = 0
  · have h1 : errSh s p = errT s.now p 255 := by
      obtain ⟨hm, h8, h9, hn⟩ := errAs_zero h
      unfold errSh errT
      rw [if_neg (by simp [h]), if_pos (mayS_iff.1 hm).2.1, if_neg (show ¬ (p < 8 ∨ 256 ≤ p) by omega)]
    by_cases h2 : errT s.now p 255 = 0
    · refine .inr (.inr ⟨h, h2, by rw [h1, h2], ?_⟩)
      have h3 : errSh s p = 0 := by rw [h1, h2]
      have e : shareS s p = ⟨s.disk, outT s.now p 1 255, s.last⟩ := by
        rw [(share_is h3).1]
        unfold outT
        rw [if_pos h2]
      refine ⟨e, ?_⟩
      rw [← e]
      exact FewS.of_may (share_is h3).2.1
    · exact .inr (.inl ⟨h, h2, h1, by unfold shareS; rw [h1, if_neg h2]⟩)
  · have h1 : errSh s p = errAs s p := by unfold errSh; rw [if_pos h]
    exact .inl ⟨h, h1, by unfold shareS; rw [h1, if_neg h]⟩

set_option maxRecDepth 100000 in
set_option maxHeartbeats 1000000 in
theorem sshare_any (b_s u_s x_s y_s : Value) (s : StoreL) (p : Int) (w : World) (h_s : StoreV w 0 w.heap.size b_s u_s x_s y_s s) :
    Calls Try.prog 11 #[.agg #[b_s, u_s, x_s, y_s], .int .i64 p] w fun e w' => ∃ b u x y, e = .returned (.tuple #[.agg #[b, u, x, y], .int .i64 (errSh s p)]) ∧ MadeS w w' b u x y (shareS s p) := by
  obtain ⟨ab_s, cb_s, rfl, gb_s, gc_s, -, -⟩ := h_s.1.1
  obtain ⟨au_s, cu_s, rfl, gu_s, gv_s, -, -⟩ := h_s.1.2
  obtain ⟨ax_s, cx_s, rfl, gx_s, gz_s⟩ := h_s.2.1.form rfl
  obtain ⟨ay_s, cy_s, rfl, gy_s, gw_s⟩ := h_s.2.2.form rfl
  unfold maxLen at gc_s gv_s gz_s gw_s
  have hst := (((Below.refl w.heap.size w).alloc (Nat.le_refl _) (.cells #[.slice ab_s s.disk.blocks.length cb_s, .slice au_s s.disk.waits.length cu_s, .slice ax_s s.now.length cx_s, .slice ay_s s.last.length cy_s] 28)).alloc (by simp) (.cells #[.slice none 0 0, .slice none 0 0, .slice none 0 0, .slice none 0 0] 28))
  have hq := two_new w (.cells #[.slice ab_s s.disk.blocks.length cb_s, .slice au_s s.disk.waits.length cu_s, .slice ax_s s.now.length cx_s, .slice ay_s s.last.length cy_s] 28) (.cells #[.slice none 0 0, .slice none 0 0, .slice none 0 0, .slice none 0 0] 28)
  have q_s := LK.of hq.1
  have q_r := LK.of hq.2
  have hB : LW w _ := hst
  have O_s := (LO.of h_s (Nat.le_refl _)).step hst
  have sz_V : w.heap.size + 1 < ((w.alloc (.cells #[.slice ab_s s.disk.blocks.length cb_s, .slice au_s s.disk.waits.length cu_s, .slice ax_s s.now.length cx_s, .slice ay_s s.last.length cy_s] 28)).alloc (.cells #[.slice none 0 0, .slice none 0 0, .slice none 0 0, .slice none 0 0] 28)).heap.size := by simp
  obtain ⟨V, hV⟩ : ∃ V, ((w.alloc (.cells #[.slice ab_s s.disk.blocks.length cb_s, .slice au_s s.disk.waits.length cu_s, .slice ax_s s.now.length cx_s, .slice ay_s s.last.length cy_s] 28)).alloc (.cells #[.slice none 0 0, .slice none 0 0, .slice none 0 0, .slice none 0 0] 28)) = V := ⟨_, rfl⟩
  rw [hV] at sz_V q_s q_r O_s hB
  clear hst h_s hq
  have HQ := Lib.hid (And.intro q_s (And.intro q_r (And.intro O_s hB)))
  clear q_s q_r O_s hB
  have c_q_s0 := LK.cell HQ.out.1 0
  have c_q_s1 := LK.cell HQ.out.1 1
  have c_q_s2 := LK.cell HQ.out.1 2
  have c_q_s3 := LK.cell HQ.out.1 3
  have c_q_r0 := LK.cell HQ.out.2.1 0
  have c_q_r1 := LK.cell HQ.out.2.1 1
  have c_q_r2 := LK.cell HQ.out.2.1 2
  have c_q_r3 := LK.cell HQ.out.2.1 3
  simp at c_q_s0 c_q_s1 c_q_s2 c_q_s3 c_q_r0 c_q_r1 c_q_r2 c_q_r3
  have hE := share_cases s p
  obtain ⟨ea, hea⟩ : ∃ e, errAs s p = e := ⟨_, rfl⟩
  obtain ⟨et, het⟩ : ∃ e, errT s.now p 255 = e := ⟨_, rfl⟩
  obtain ⟨ot, hot⟩ : ∃ e, outT s.now p 1 255 = e := ⟨_, rfl⟩
  have k_a := fun V b u x y hh => sasked_any b u x y s p V hh
  have k_u := fun V v hh => cup_any v s.now p V hh
  rw [hea] at k_a hE
  rw [het, hot] at k_u
  rw [het, hot] at hE
  have k_t := fun (hf : FewS ⟨s.disk, ot, s.last⟩) V b u x y (h1 : DiskV V 0 V.heap.size b u s.disk) (h2 : Bytes V 0 V.heap.size x ot) (h3 : Bytes V 0 V.heap.size y s.last) => stwin_any b u x y ⟨s.disk, ot, s.last⟩ V ⟨h1, h2, h3⟩ hf
  obtain ⟨es, hes⟩ : ∃ e, errSh s p = e := ⟨_, rfl⟩
  obtain ⟨so, hso⟩ : ∃ e, shareS s p = e := ⟨_, rfl⟩
  rw [hes, hso] at hE ⊢
  clear hea het hot hes hso
  have HC := Lib.hid (And.intro k_a (And.intro k_u k_t))
  clear k_a k_u k_t
  go_enter Try.func11, Try.ntmps11
  go_upto_region 1 with (fail)
  clear hV
  go_wp2_with fail
  refine (HC.out.1 _ _ _ _ _ HQ.out.2.2.1.v).mono ?_
  rintro e w1 ⟨rfl, hst⟩
  clear c_q_s0 c_q_s1 c_q_s2 c_q_s3 c_q_r0 c_q_r1 c_q_r2 c_q_r3
  obtain ⟨q_s, q_r, O_s, hB⟩ := HQ.out
  clear HQ
  have sz_w1 : V.heap.size ≤ w1.heap.size := hst.size
  replace q_s := q_s.step hst
  replace q_r := q_r.step hst
  replace O_s := O_s.step hst
  replace hB := hB.step hst
  clear hst
  have HQ := Lib.hid (And.intro q_s (And.intro q_r (And.intro O_s hB)))
  clear q_s q_r O_s hB
  have c_q_s0 := LK.cell HQ.out.1 0
  have c_q_s1 := LK.cell HQ.out.1 1
  have c_q_s2 := LK.cell HQ.out.1 2
  have c_q_s3 := LK.cell HQ.out.1 3
  have c_q_r0 := LK.cell HQ.out.2.1 0
  have c_q_r1 := LK.cell HQ.out.2.1 1
  have c_q_r2 := LK.cell HQ.out.2.1 2
  have c_q_r3 := LK.cell HQ.out.2.1 3
  have z_q_r0 := LK.frozen HQ.out.2.1 0
  have z_q_r1 := LK.frozen HQ.out.2.1 1
  have z_q_r2 := LK.frozen HQ.out.2.1 2
  have z_q_r3 := LK.frozen HQ.out.2.1 3
  simp at c_q_s0 c_q_s1 c_q_s2 c_q_s3 c_q_r0 c_q_r1 c_q_r2 c_q_r3
  rcases hE with ⟨hn, rfl, rfl⟩ | ⟨rfl, hn, rfl, rfl⟩ | ⟨rfl, rfl, rfl, rfl, hf⟩
  · have i1 : (es != 0) = true := by simp [hn]
    go_wp2
    refine bodyPost_ret (v := .tuple #[.agg #[.slice none 0 0, .slice none 0 0, .slice none 0 0, .slice none 0 0], .int .i64 es]) (by simp [results, Try.results11, go_sem, c_q_r0, c_q_r1, c_q_r2, c_q_r3]) rfl ⟨_, _, _, _, rfl, ?_⟩
    exact ((MadeL.nil_ (w.heap.size + 2) HQ.out.2.2.2).four (w.heap.size + 1) _ _ _ _ (Nat.le_succ _) (Nat.lt_succ_self _)).made (by omega)
  · skip
    go_wp2_with fail
    refine (HC.out.2.1 _ _ HQ.out.2.2.1.n).mono ?_
    rintro e w2 ⟨v, rfl, hm⟩
    clear z_q_r0 z_q_r1 z_q_r2 z_q_r3 c_q_s0 c_q_s1 c_q_s2 c_q_s3 c_q_r0 c_q_r1 c_q_r2 c_q_r3
    obtain ⟨q_s, q_r, O_s, hB⟩ := HQ.out
    clear HQ
    have hst := hm.below
    obtain ⟨a_n, c_n, rfl, -, -⟩ := hm.bytes.form rfl
    clear hm
    have sz_w2 : w1.heap.size ≤ w2.heap.size := hst.size
    replace q_s := q_s.step hst
    replace q_r := q_r.step hst
    replace O_s := O_s.step hst
    replace hB := hB.step hst
    clear hst
    have HQ := Lib.hid (And.intro q_s (And.intro q_r (And.intro O_s hB)))
    clear q_s q_r O_s hB
    have c_q_s0 := LK.cell HQ.out.1 0
    have c_q_s1 := LK.cell HQ.out.1 1
    have c_q_s2 := LK.cell HQ.out.1 2
    have c_q_s3 := LK.cell HQ.out.1 3
    have c_q_r0 := LK.cell HQ.out.2.1 0
    have c_q_r1 := LK.cell HQ.out.2.1 1
    have c_q_r2 := LK.cell HQ.out.2.1 2
    have c_q_r3 := LK.cell HQ.out.2.1 3
    have z_q_r0 := LK.frozen HQ.out.2.1 0
    have z_q_r1 := LK.frozen HQ.out.2.1 1
    have z_q_r2 := LK.frozen HQ.out.2.1 2
    have z_q_r3 := LK.frozen HQ.out.2.1 3
    simp at c_q_s0 c_q_s1 c_q_s2 c_q_s3 c_q_r0 c_q_r1 c_q_r2 c_q_r3
    have i1 : (es != 0) = true := by simp [hn]
    go_wp2
    refine bodyPost_ret (v := .tuple #[.agg #[.slice none 0 0, .slice none 0 0, .slice none 0 0, .slice none 0 0], .int .i64 es]) (by simp [results, Try.results11, go_sem, c_q_r0, c_q_r1, c_q_r2, c_q_r3]) rfl ⟨_, _, _, _, rfl, ?_⟩
    exact ((MadeL.nil_ (w.heap.size + 2) HQ.out.2.2.2).four (w.heap.size + 1) _ _ _ _ (Nat.le_succ _) (Nat.lt_succ_self _)).made (by omega)
  go_wp2_with fail
  refine (HC.out.2.1 _ _ HQ.out.2.2.1.n).mono ?_
  rintro e w2 ⟨v, rfl, hm⟩
  clear z_q_r0 z_q_r1 z_q_r2 z_q_r3 c_q_s0 c_q_s1 c_q_s2 c_q_s3 c_q_r0 c_q_r1 c_q_r2 c_q_r3
  obtain ⟨q_s, q_r, O_s, hB⟩ := HQ.out
  clear HQ
  have B_n := LM.of hm
  have hst := hm.below
  obtain ⟨a_n, c_n, rfl, -, -⟩ := hm.bytes.form rfl
  clear hm
  have sz_w2 : w1.heap.size ≤ w2.heap.size := hst.size
  replace q_s := q_s.step hst
  replace q_r := q_r.step hst
  replace O_s := O_s.step hst
  replace hB := hB.step hst
  clear hst
  have HQ := Lib.hid (And.intro q_s (And.intro q_r (And.intro O_s (And.intro B_n hB))))
  clear q_s q_r O_s B_n hB
  have c_q_s0 := LK.cell HQ.out.1 0
  have c_q_s1 := LK.cell HQ.out.1 1
  have c_q_s2 := LK.cell HQ.out.1 2
  have c_q_s3 := LK.cell HQ.out.1 3
  have c_q_r0 := LK.cell HQ.out.2.1 0
  have c_q_r1 := LK.cell HQ.out.2.1 1
  have c_q_r2 := LK.cell HQ.out.2.1 2
  have c_q_r3 := LK.cell HQ.out.2.1 3
  simp at c_q_s0 c_q_s1 c_q_s2 c_q_s3 c_q_r0 c_q_r1 c_q_r2 c_q_r3
  go_wp2_with fail
  refine (HC.out.2.2 hf _ _ _ _ _ HQ.out.2.2.1.d HQ.out.2.2.2.1.v HQ.out.2.2.1.l).mono ?_
  rintro e w3 ⟨b1, u1, x1, y1, rfl, hm⟩
  clear c_q_s0 c_q_s1 c_q_s2 c_q_s3 c_q_r0 c_q_r1 c_q_r2 c_q_r3
  obtain ⟨q_s, q_r, O_s, B_n, hB⟩ := HQ.out
  clear HQ
  have P_t := LP.of hm
  have hst := hm.below
  obtain ⟨ab_t, cb_t, rfl, -, -, -, -⟩ := hm.store.v.1.1
  obtain ⟨au_t, cu_t, rfl, -, -, -, -⟩ := hm.store.v.1.2
  obtain ⟨ax_t, cx_t, rfl, -, -⟩ := hm.store.v.2.1.form rfl
  obtain ⟨ay_t, cy_t, rfl, -, -⟩ := hm.store.v.2.2.form rfl
  clear hm
  have sz_w3 : w2.heap.size ≤ w3.heap.size := hst.size
  replace q_s := q_s.step hst
  replace q_r := q_r.step hst
  replace O_s := O_s.step hst
  replace B_n := B_n.step hst
  replace hB := hB.step hst
  clear hst
  have HQ := Lib.hid (And.intro q_s (And.intro q_r (And.intro O_s (And.intro B_n (And.intro P_t hB)))))
  clear q_s q_r O_s B_n P_t hB
  have c_q_s0 := LK.cell HQ.out.1 0
  have c_q_s1 := LK.cell HQ.out.1 1
  have c_q_s2 := LK.cell HQ.out.1 2
  have c_q_s3 := LK.cell HQ.out.1 3
  have c_q_r0 := LK.cell HQ.out.2.1 0
  have c_q_r1 := LK.cell HQ.out.2.1 1
  have c_q_r2 := LK.cell HQ.out.2.1 2
  have c_q_r3 := LK.cell HQ.out.2.1 3
  have z_q_r0 := LK.frozen HQ.out.2.1 0
  have z_q_r1 := LK.frozen HQ.out.2.1 1
  have z_q_r2 := LK.frozen HQ.out.2.1 2
  have z_q_r3 := LK.frozen HQ.out.2.1 3
  simp at c_q_s0 c_q_s1 c_q_s2 c_q_s3 c_q_r0 c_q_r1 c_q_r2 c_q_r3
  go_wp2
  refine bodyPost_ret (v := .tuple #[.agg #[.slice ab_t s.disk.blocks.length cb_t, .slice au_t s.disk.waits.length cu_t, .slice ax_t ot.length cx_t, .slice ay_t s.last.length cy_t], .int .i64 0]) (by simp [results, Try.results11, go_sem, c_q_r0, c_q_r1, c_q_r2, c_q_r3]) rfl ⟨_, _, _, _, rfl, ?_⟩
  exact (((MadeL.mk ((HQ.out.2.2.2.2.1.t).more (by omega) (Lv.hi_le HQ.out.2.2.2.2.1)) HQ.out.2.2.2.2.2 : MadeL w _ (w.heap.size + 2) _ _ _ _ ⟨s.disk, ot, s.last⟩)).four (w.heap.size + 1) _ _ _ _ (Nat.le_succ _) (Nat.lt_succ_self _)).made (by omega)

end Go.Proofs.Ytkfgegdnpinbdaa

namespace Go.Proofs.Ytkfgegdnpinbdaa
open Go.RowKit

section
variable {F : Fence} {n : Nat} {P : Program} {ops : Array Oper} {Q : Exit → Act → World → Prop} {md : Region.Mode}

/-- The operations but z. -/
def OpsQ (F : Fence) (n : Nat) (P : Program) (ops : Array Oper) (Q : Exit → Act → World → Prop) (z : Nat) (deps : Nat → List Nat) (f : Nat → Value → Value → Prop) (Gz : Value → World → Prop) (W0 : World) (is : List Nat) (a0 : Act) (l : List Nat) : Prop :=
  ∀ i ∈ l, i ≠ z → ∀ o, ops[i]? = some o → ∀ (vs : Nat → Value) (W : World), (∀ j ∈ deps i, j ≠ z → f j (vs j) (vs z)) → ((deps i).contains z = true → Gz (vs z) W) → ((deps i).contains z = false → W = W0) → ∀ K : Act → World → Prop,
    (∀ v, f i v (vs z) → K ((putAll ops vs is a0).put o.dst v) W) →
    if Region.wanted o (yielded ops (putAll ops vs is a0).tmps) = true then Oper.wpIn F n P o (putAll ops vs is a0) W K Q else (∀ g, o.about P W (putAll ops vs is a0).eval = some g → F.fn g) ∧ K ((putAll ops vs is a0).put o.dst undef) W
/-- The operation z. -/
def OpZ (F : Fence) (n : Nat) (P : Program) (ops : Array Oper) (Q : Exit → Act → World → Prop) (z : Nat) (deps : Nat → List Nat) (f : Nat → Value → Value → Prop) (Gz : Value → World → Prop) (W0 : World) (is : List Nat) (a0 : Act) : Prop :=
  ∀ o, ops[z]? = some o → ∀ (vs : Nat → Value) (W : World), W = W0 → (∀ j ∈ deps z, j ≠ z → f j (vs j) (vs z)) → ∀ K : Act → World → Prop,
    (∀ v W', Gz v W' → K ((putAll ops vs is a0).put o.dst v) W') →
    if Region.wanted o (yielded ops (putAll ops vs is a0).tmps) = true then Oper.wpIn F n P o (putAll ops vs is a0) W K Q else (∀ g, o.about P W (putAll ops vs is a0).eval = some g → F.fn g) ∧ K ((putAll ops vs is a0).put o.dst undef) W
theorem OpsQ.nil {z : Nat} {deps : Nat → List Nat} {f : Nat → Value → Value → Prop} {Gz : Value → World → Prop} {W0 : World} {is : List Nat} {a0 : Act} : OpsQ F n P ops Q z deps f Gz W0 is a0 [] := fun _ h => by cases h
/-- It is the same for each. -/
theorem OpsQ.cons {z : Nat} {deps : Nat → List Nat} {f : Nat → Value → Value → Prop} {Gz : Value → World → Prop} {W0 : World} {is : List Nat} {a0 : Act} {i : Nat} {l : List Nat} (o : Oper) (ho : ops[i]? = some o)
    (h : ∀ (vs : Nat → Value) (W : World), (∀ j ∈ deps i, j ≠ z → f j (vs j) (vs z)) → ((deps i).contains z = true → Gz (vs z) W) → ((deps i).contains z = false → W = W0) → ∀ K : Act → World → Prop,
      (∀ v, f i v (vs z) → K ((putAll ops vs is a0).put o.dst v) W) →
      if Region.wanted o (yielded ops (putAll ops vs is a0).tmps) = true then Oper.wpIn F n P o (putAll ops vs is a0) W K Q else (∀ g, o.about P W (putAll ops vs is a0).eval = some g → F.fn g) ∧ K ((putAll ops vs is a0).put o.dst undef) W)
    (hs : OpsQ F n P ops Q z deps f Gz W0 is a0 l) : OpsQ F n P ops Q z deps f Gz W0 is a0 (i :: l) := fun j hj hne o' ho' => by
  rcases List.mem_cons.1 hj with rfl | hj
  · rw [ho] at ho'; cases ho'; exact h
  · exact hs j hj hne o' ho'
theorem OpsQ.skip {z : Nat} {deps : Nat → List Nat} {f : Nat → Value → Value → Prop} {Gz : Value → World → Prop} {W0 : World} {is : List Nat} {a0 : Act} {l : List Nat}
    (hs : OpsQ F n P ops Q z deps f Gz W0 is a0 l) : OpsQ F n P ops Q z deps f Gz W0 is a0 (z :: l) := fun j hj hne o' ho' => by
  rcases List.mem_cons.1 hj with rfl | hj
  · exact absurd rfl hne
  · exact hs j hj hne o' ho'

theorem wpAnyIn_inv (z : Nat) (is : List Nat) (deps : Nat → List Nat) (f : Nat → Value → Value → Prop) (Gz : Value → World → Prop) (W0 : World) (L0 : Array Bool) (a0 : Act)
    (hds : dsOk ops is = true) (hchk : invOk md ops L0 is deps = true) (hz : (is.all fun i => i == z || ((deps z).contains i || (deps i).contains z)) = true) (hzi : z ∈ is) (hf : ∀ i, (deps i).contains z = false → ∀ v a b, f i v a → f i v b)
    (hops : OpsQ F n P ops Q z deps f Gz W0 is a0 is) (hopz : OpZ F n P ops Q z deps f Gz W0 is a0)
    (hend : ∀ (vs : Nat → Value) (W : World), Gz (vs z) W → (∀ i ∈ is, i ≠ z → f i (vs i) (vs z)) → Q .normal (putAll ops vs is a0) W) :
    ∀ (fuel : Nat) (L : Array Bool) (vs : Nat → Value) (W : World), L.size = L0.size → (∀ j, j ∉ is → L.getD j true = L0.getD j true) →
      (∀ i ∈ is, L.getD i true = true → (i ≠ z → f i (vs i) (vs z)) ∧ ∀ j ∈ deps i, L.getD j true = true) → ((L.getD z true = true → Gz (vs z) W) ∧ (L.getD z true = false → W = W0)) → (is.filter fun i => !L.getD i true).length ≤ fuel →
      wpAnyIn F n P md ops Q fuel L (putAll ops vs is a0) W := by
  simp only [invOk, Bool.and_eq_true, List.all_eq_true, List.mem_range, Bool.or_eq_true, List.contains_iff_mem, decide_eq_true_eq] at hchk
  obtain ⟨hall, hone⟩ := hchk
  have hlist : ∀ (L : Array Bool), L.size = L0.size → (∀ j, j ∉ is → L.getD j true = L0.getD j true) → ∀ i, i ∈ Region.ready md ops L → i ∈ is ∧ L.getD i true = false := by
    intro L hsz hL i hi
    obtain ⟨h1, o, ho, _⟩ := mem_ready.1 hi
    refine ⟨?_, h1⟩
    have hlt : i < ops.size := (Array.getElem?_eq_some_iff.1 ho).1
    rcases hall i hlt with h | h
    · by_cases hm : i ∈ is
      · exact hm
      · rw [hL i hm, h] at h1; cases h1
    · exact h
  have hready : ∀ (L : Array Bool), L.size = L0.size → (∀ j, j ∉ is → L.getD j true = L0.getD j true) → Region.ready md ops L = [] → ∀ i ∈ is, L.getD i true = true := by
    intro L hsz hL hr
    have hind : ∀ i, i < ops.size → L.getD i true = true := by
      intro i
      induction i using Nat.strongRecOn with
      | _ i ih =>
        intro hlt
        cases hx : L.getD i true with
        | true => rfl
        | false =>
          exfalso
          have hm : i ∈ is := by
            rcases hall i hlt with h | h
            · by_cases hm : i ∈ is
              · exact hm
              · rw [← hL i hm, hx] at h; cases h
            · exact h
          obtain ⟨⟨⟨h1, h2⟩, h3⟩, _⟩ := hone i hm
          have hmem : i ∈ Region.ready md ops L := by
            refine mem_ready.2 ⟨hx, ops[i], by simp [hlt], fun e he hb => ?_⟩
            simp only [Array.getElem?_eq_getElem hlt, Option.map_some, Option.getD_some, Array.all_eq_true'] at h3
            have h4 := h3 e he
            simp only [hb, Bool.not_true, Bool.false_or, decide_eq_true_eq] at h4
            have h5 := ih e.on h4 (by omega)
            rw [getD_any L e.on false true (by omega)]
            exact h5
          rw [hr] at hmem
          cases hmem
    intro i hi
    exact hind i (hone i hi).1.1.2
  have hcount : ∀ (i : Nat) (L : Array Bool) {fuel : Nat}, i ∈ is → L.getD i true = false → L.size = L0.size → (is.filter fun i => !L.getD i true).length ≤ fuel + 1 → (is.filter fun k => !(L.setIfInBounds i true).getD k true).length ≤ fuel := by
    intro i L fuel him hun hsz hf
    have hi1 := (hone i him).1.1.1
    have hlt : (is.filter fun k => !(L.setIfInBounds i true).getD k true).length < (is.filter fun k => !L.getD k true).length := by
      have key : ∀ l : List Nat, (l.filter fun k => !(L.setIfInBounds i true).getD k true).length ≤ (l.filter fun k => !L.getD k true).length ∧
          (i ∈ l → (l.filter fun k => !(L.setIfInBounds i true).getD k true).length < (l.filter fun k => !L.getD k true).length) := by
        intro l
        induction l with
        | nil => exact ⟨Nat.le_refl _, fun h => by cases h⟩
        | cons x l ihl =>
          by_cases e : i = x
          · subst e
            have h1 : (!(L.setIfInBounds i true).getD i true) = false := by rw [getD_set_self L i true (by omega)]; rfl
            have h2 : (!L.getD i true) = true := by rw [hun]; rfl
            rw [List.filter_cons_of_neg (by rw [h1]; decide), List.filter_cons_of_pos (by rw [h2])]
            simp only [List.length_cons]
            exact ⟨by omega, fun _ => by omega⟩
          · have h1 : (L.setIfInBounds i true).getD x true = L.getD x true := getD_set_ne true e
            simp only [List.filter_cons, h1]
            split
            · simp only [List.length_cons]
              exact ⟨by omega, fun hm => by
                rcases List.mem_cons.1 hm with h | h
                · exact absurd h e
                · have := ihl.2 h; omega⟩
            · exact ⟨ihl.1, fun hm => by
                rcases List.mem_cons.1 hm with h | h
                · exact absurd h e
                · exact ihl.2 h⟩
      exact (key is).2 him
    omega
  intro fuel
  induction fuel with
  | zero =>
    intro L vs W hsz hL hI hZ hf
    have hnil : (is.filter fun i => !L.getD i true) = [] := List.eq_nil_of_length_eq_zero (by omega)
    have hdone : ∀ i ∈ is, L.getD i true = true := fun i hi => by
      cases hx : L.getD i true with
      | true => rfl
      | false =>
        have : i ∈ (is.filter fun i => !L.getD i true) := List.mem_filter.2 ⟨hi, by simp only [hx, Bool.not_false]⟩
        rw [hnil] at this
        cases this
    refine ⟨?_, hend vs W ((hZ).1 (hdone z hzi)) (fun i hi => (hI i hi (hdone i hi)).1)⟩
    cases hr : Region.ready md ops L with
    | nil => rfl
    | cons x xs =>
      obtain ⟨h1, h2⟩ := hlist L hsz hL x (by rw [hr]; exact List.mem_cons_self ..)
      rw [hdone x h1] at h2
      cases h2
  | succ fuel ih =>
    intro L vs W hsz hL hI hZ hf
    refine ⟨fun hr => ?_, fun i hi => ?_⟩
    · have hdone := hready L hsz hL hr
      exact hend vs W ((hZ).1 (hdone z hzi)) (fun i hi => (hI i hi (hdone i hi)).1)
    · obtain ⟨him, hun⟩ := hlist L hsz hL i hi
      obtain ⟨_, o, ho, hbind⟩ := mem_ready.1 hi
      obtain ⟨⟨⟨hi1, hi2⟩, _⟩, hdep⟩ := hone i him
      have hdeps : ∀ j ∈ deps i, j ∈ is ∧ L.getD j true = true := by
        intro j hj
        obtain ⟨hjm, hx⟩ := hdep j hj
        refine ⟨hjm, ?_⟩
        simp only [ho, Option.map_some, Option.getD_some, Array.any_eq_true'] at hx
        obtain ⟨e, he, hx⟩ := hx
        simp only [Bool.and_eq_true, Bool.or_eq_true, beq_iff_eq, List.contains_iff_mem] at hx
        obtain ⟨hb, hx⟩ := hx
        have hl := hbind e he hb
        have hl' : L.getD e.on true = true := by
          rcases Nat.lt_or_ge e.on L.size with h | h
          · rw [getD_any L e.on true false h]; exact hl
          · simp [Array.getD, Nat.not_lt.2 h]
        rcases hx with rfl | ⟨hem, hej⟩
        · exact hl'
        · exact (hI e.on hem hl').2 j hej
      have hd : o.dst = dstOf ops i := by simp [dstOf, ho]
      have hgo : ∀ v W', (i ≠ z → f i v (updV vs i v z)) → (∀ k ∈ is, L.getD k true = true → k ≠ z → f k (vs k) (updV vs i v z)) → ((L.setIfInBounds i true).getD z true = true → Gz (updV vs i v z) W') → ((L.setIfInBounds i true).getD z true = false → W' = W0) → wpAnyIn F n P md ops Q fuel (L.setIfInBounds i true) ((putAll ops vs is a0).put o.dst v) W' := by
        intro v W' hGv hkeep hz1 hz2
        rw [hd, putAll_put vs i v is a0 hds him]
        refine ih _ _ _ (by simp [hsz]) (fun j hj => ?_) (fun k hk hlk => ?_) ⟨hz1, hz2⟩ ?_
        · have : i ≠ j := fun h => hj (h ▸ him)
          rw [getD_set_ne true this]; exact hL j hj
        · by_cases e : i = k
          · subst e
            refine ⟨fun hne => by simpa [updV] using hGv hne, fun j hj => ?_⟩
            by_cases e2 : i = j
            · subst e2; exact getD_set_self L i true (by omega)
            · rw [getD_set_ne true e2]; exact (hdeps j hj).2
          · rw [getD_set_ne true e] at hlk
            obtain ⟨h1, h2⟩ := hI k hk hlk
            refine ⟨fun hne => ?_, fun j hj => ?_⟩
            · have : updV vs i v k = vs k := by simp [updV, Ne.symm e]
              rw [this]
              exact hkeep k hk hlk hne
            · by_cases e2 : i = j
              · subst e2; exact getD_set_self L i true (by omega)
              · rw [getD_set_ne true e2]; exact h2 j hj
        · exact hcount i L him hun hsz hf
      unfold wpOpIn
      simp only [ho]
      by_cases e : i = z
      · subst e
        refine hopz o ho vs W (hZ.2 hun) (fun j hj hne => (hI j (hdeps j hj).1 (hdeps j hj).2).1 hne) _ (fun v W' hg => ?_)
        exact hgo v W' (fun h => absurd rfl h) (fun k hk hlk hne => hf k (by
          cases hx : (deps k).contains i with
          | false => rfl
          | true =>
            have := (hI k hk hlk).2 i (List.contains_iff_mem.1 hx)
            rw [hun] at this
            cases this) _ _ _ ((hI k hk hlk).1 hne)) (fun _ => by simpa [updV] using hg) (fun h => by rw [getD_set_self L i true (by omega)] at h; cases h)
      · have hzz : (L.setIfInBounds i true).getD z true = L.getD z true := getD_set_ne true e
        refine hops i him e o ho vs W (fun j hj hne => (hI j (hdeps j hj).1 (hdeps j hj).2).1 hne) (fun hc => ?_) (fun hc => ?_) _ (fun v hv => ?_)
        · exact hZ.1 (hdeps z (List.contains_iff_mem.1 hc)).2
        · have hzd := List.all_eq_true.1 hz i him
          simp only [Bool.or_eq_true, beq_iff_eq, hc, Bool.false_eq_true, or_false] at hzd
          have him2 : i ∈ deps z := by
            rcases hzd with h | h
            · exact absurd h e
            · exact List.contains_iff_mem.1 h
          refine hZ.2 ?_
          cases hx : L.getD z true with
          | false => rfl
          | true =>
            have := (hI z hzi hx).2 i him2
            rw [hun] at this
            cases this
        · have hvz : updV vs i v z = vs z := by simp [updV, Ne.symm e]
          refine hgo v W (fun _ => by rw [hvz]; exact hv) (fun k hk hlk hne => by rw [hvz]; exact (hI k hk hlk).1 hne) (fun h => ?_) (fun h => ?_)
          · rw [hzz] at h
            have : updV vs i v z = vs z := by simp [updV, Ne.symm e]
            rw [this]
            exact hZ.1 h
          · rw [hzz] at h
            exact hZ.2 h

/-- A whole region. -/
theorem wpIn_region_inv {id : Nat} {a : Act} {w : World} (hm : P.follows .mixedOrders = true) (z : Nat) (is : List Nat) (deps : Nat → List Nat) (f : Nat → Value → Value → Prop) (Gz : Value → World → Prop)
    (hlen : is.length ≤ ops.size) (hds : dsOk ops is = true) (hchk : invOk .any ops (Array.replicate ops.size false) is deps = true) (hz : (is.all fun i => i == z || ((deps z).contains i || (deps i).contains z)) = true) (hzi : z ∈ is) (hf : ∀ i, (deps i).contains z = false → ∀ v a b, f i v a → f i v b)
    (hops : OpsQ F n P ops Q z deps f Gz w.drew is a is) (hopz : OpZ F n P ops Q z deps f Gz w.drew is a)
    (hend : ∀ (vs : Nat → Value) (W : World), Gz (vs z) W → (∀ i ∈ is, i ≠ z → f i (vs i) (vs z)) → Q .normal (putAll ops vs is a) W) : (Code.region id ops true).wpIn F n P Q a w := by
  refine wpIn_region_any hm ?_
  have hfalse : ∀ i, i ∈ is → (Array.replicate ops.size false).getD i true = false := by
    intro i hi
    simp only [invOk, Bool.and_eq_true, List.all_eq_true, decide_eq_true_eq] at hchk
    have := (hchk.2 i hi).1.1.2
    simp [Array.getD, this]
  have hcnt : (is.filter fun i => !(Array.replicate ops.size false).getD i true).length ≤ ops.size := Nat.le_trans (List.length_filter_le _ _) hlen
  have := wpAnyIn_inv (F := F) (n := n) (P := P) (md := .any) (Q := Q) z is deps f Gz w.drew (Array.replicate ops.size false) a hds hchk hz hzi hf hops hopz hend ops.size (Array.replicate ops.size false) (fun i => ownV a (dstOf ops i)) w.drew rfl (fun _ _ => rfl)
    (fun i hi hx => by rw [hfalse i hi] at hx; cases hx) ⟨fun hx => (by rw [hfalse z hzi] at hx; cases hx), fun _ => rfl⟩ hcnt
  rw [putAll_self] at this
  exact this
end
end Go.Proofs.Ytkfgegdnpinbdaa

