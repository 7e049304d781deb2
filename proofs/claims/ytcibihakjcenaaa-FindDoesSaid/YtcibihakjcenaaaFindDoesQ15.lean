/- FindDoes: the words and contracts, part 15. -/
import Derived.Test.YtcibihakjcenaaaFindDoesQ1
import Derived.Test.YtcibihakjcenaaaFindDoesQ2
import Derived.Test.YtcibihakjcenaaaFindDoesQ3
import Derived.Test.YtcibihakjcenaaaFindDoesQ4
import Derived.Test.YtcibihakjcenaaaFindDoesQ5
import Derived.Test.YtcibihakjcenaaaFindDoesQ6
import Derived.Test.YtcibihakjcenaaaFindDoesQ7
import Derived.Test.YtcibihakjcenaaaFindDoesQ8
import Derived.Test.YtcibihakjcenaaaFindDoesQ9
import Derived.Test.YtcibihakjcenaaaFindDoesQ10
import Derived.Test.YtcibihakjcenaaaFindDoesQ11
import Derived.Test.YtcibihakjcenaaaFindDoesQ12
import Derived.Test.YtcibihakjcenaaaFindDoesQ13
import Derived.Test.YtcibihakjcenaaaFindDoesQ14
import Derived.WalkKit
import Derived.WalkLawsBesides
import Derived.WalkSpells
import Derived.Lib.Hide
import Derived.Laws.Rows
import Derived.Laws.AppendOwnNone
import Derived.Maps.AppendAt
import Derived.RangeFuncNested
import Derived.RangeFuncBound
import Derived.RangeFuncCalls
import Derived.RangeFuncLeaves
import Derived.RangeFuncBox
import Derived.Shelf.Abstract
import Derived.Shelf.RegionOpen
import Derived.OwnWalkIn
import Derived.TacticsInMore
import Derived.LoopNIn
import Derived.LoopIn
import Derived.ProofKit
import Derived.Deep.Slices
import Derived.WideShapes
import Derived.OrdersHeld
import Derived.Deep.QuietTactic
import Derived.BigQuiet
import Derived.StillTailTactics
import Derived.OpenShut
import Derived.Lib.SliceRun
import Derived.Lib.AppendZerosOnto
import Derived.Lib.Walk
import Derived.Deep.LoopGhost
import Derived.Laws.CopyOwn
import Derived.Deep.DeepCutAuto
import Derived.Laws.CopyRow
import Derived.Laws.MakeOwn
import Derived.Deep.RegionHeld
import Derived.KernelRfl
import Derived.BigFrameIn
import Derived.OrdersIn
namespace Go.Proofs.Ytcibihakjcenaaa
open Go.RowKit

set_option linter.unusedSimpArgs false
theorem Sl.cellV {α : Type} {r : Rd α} {w : World} {lo hi b off n c : Nat} {l : List α} (h : Sl r w lo hi (.slice (some ⟨b, off, none⟩) n c) l) (i : Nat) (x : α) (hx : l[i]? = some x) : r.R w lo hi x (fun j => w.cell? ⟨b, off + i * r.n + j, none⟩) := by
  obtain ⟨a, c', e, h1, h2, h3, h4⟩ := h
  cases e
  obtain ⟨b', off', ea, _, _, hc⟩ := h3 (by have := (List.getElem?_eq_some_iff.1 hx).1; omega)
  cases ea
  exact hc i x hx
theorem now_len {s : StoreL} (hm : mayS s = true) : s.now.length = 256 := by
  obtain ⟨-, hmt, -⟩ := mayS_iff.1 hm
  unfold mayT at hmt
  rw [Bool.and_eq_true, beq_iff_eq] at hmt
  exact hmt.1
set_option maxRecDepth 100000 in
set_option maxHeartbeats 2000000 in
theorem rleaf_any (b_s u_s x_s y_s : Value) (s : StoreL) (n : NodeL) (u_n : Value) (w : World) (h_s : StoreV w 0 w.heap.size b_s u_s x_s y_s s) (h_n : Sl rItem w 0 w.heap.size u_n n.items) (hm : mayS s = true) (hr : ∀ x ∈ n.items, x.ref = 0 ∨ (8 ≤ x.ref ∧ x.ref < 256)) :
    Calls Try.prog 142 #[.agg #[b_s, u_s, x_s, y_s], .agg #[.int .i64 n.level, u_n]] w fun e w' => e = .returned (.bool (n.items.all (leafR s))) ∧ Below w.heap.size w w' := by
  obtain ⟨lv, its⟩ := n
  simp only at h_n hr ⊢
  obtain ⟨ab_s, cb_s, rfl, gb_s, gc_s, -, -⟩ := h_s.1.1
  obtain ⟨au_s, cu_s, rfl, gu_s, gv_s, -, -⟩ := h_s.1.2
  obtain ⟨ax_s, cx_s, rfl, gx_s, gz_s⟩ := h_s.2.1.form rfl
  obtain ⟨ay_s, cy_s, rfl, gy_s, gw_s⟩ := h_s.2.2.form rfl
  unfold maxLen at gc_s gv_s gz_s gw_s
  obtain ⟨a_n, c_n, rfl, g_n, gm_n, -, -⟩ := id h_n
  unfold maxLen at gm_n
  have hst := (((Below.refl w.heap.size w).alloc (Nat.le_refl _) (.cells #[.slice ab_s s.disk.blocks.length cb_s, .slice au_s s.disk.waits.length cu_s, .slice ax_s s.now.length cx_s, .slice ay_s s.last.length cy_s] 46)).alloc (by simp) (.cells #[.int .i64 lv, .slice a_n its.length c_n] 119))
  have hq := two_new w (.cells #[.slice ab_s s.disk.blocks.length cb_s, .slice au_s s.disk.waits.length cu_s, .slice ax_s s.now.length cx_s, .slice ay_s s.last.length cy_s] 46) (.cells #[.int .i64 lv, .slice a_n its.length c_n] 119)
  have q_s := LK.of hq.1
  have q_n := LK.of hq.2
  have hB : LW w _ := hst
  have O_s := (LO.of h_s (Nat.le_refl _)).step hst
  have S_n := (LS.of h_n (Nat.le_refl _)).step hst
  have sz_V : w.heap.size + 1 < ((w.alloc (.cells #[.slice ab_s s.disk.blocks.length cb_s, .slice au_s s.disk.waits.length cu_s, .slice ax_s s.now.length cx_s, .slice ay_s s.last.length cy_s] 46)).alloc (.cells #[.int .i64 lv, .slice a_n its.length c_n] 119)).heap.size := by simp
  obtain ⟨V, hV⟩ : ∃ V, ((w.alloc (.cells #[.slice ab_s s.disk.blocks.length cb_s, .slice au_s s.disk.waits.length cu_s, .slice ax_s s.now.length cx_s, .slice ay_s s.last.length cy_s] 46)).alloc (.cells #[.int .i64 lv, .slice a_n its.length c_n] 119)) = V := ⟨_, rfl⟩
  rw [hV] at sz_V q_s q_n O_s S_n hB
  clear hst h_s h_n hq
  have HQ := Lib.hid (And.intro q_s (And.intro q_n (And.intro O_s (And.intro S_n hB))))
  clear q_s q_n O_s S_n hB
  have c_q_s0 := LK.cell HQ.out.1 0
  have c_q_s1 := LK.cell HQ.out.1 1
  have c_q_s2 := LK.cell HQ.out.1 2
  have c_q_s3 := LK.cell HQ.out.1 3
  have c_q_n0 := LK.cell HQ.out.2.1 0
  have c_q_n1 := LK.cell HQ.out.2.1 1
  simp at c_q_s0 c_q_s1 c_q_s2 c_q_s3 c_q_n0 c_q_n1
  have htl := now_len hm
  have hno : ∀ i, i < its.length → leafR s (its.getD i nokI) = false → its.all (leafR s) = false := fun i hi h => by
    rw [List.all_eq_false]
    refine ⟨its.getD i nokI, ?_, by rw [h]; simp⟩
    rw [List.getD_eq_getElem?_getD, List.getElem?_eq_getElem hi]
    exact List.getElem_mem hi
  have hyes : (∀ i, i < its.length → leafR s (its.getD i nokI) = true) → its.all (leafR s) = true := fun h => by
    rw [List.all_eq_true]
    intro x hx
    obtain ⟨i, hi, rfl⟩ := mem_getD (d := nokI) hx
    exact h i hi
  generalize its.all (leafR s) = r at *
  have HR := Lib.hid (And.intro hno (And.intro hyes (And.intro hr htl)))
  clear hno hyes hr htl hm
  go_enter Try.func142, Try.ntmps142
  go_upto_region 1 with (fail)
  clear hV
  go_wp2_with fail
  go_loop [5] (fun i => ∃ j : Nat, j ≤ its.length ∧ i = .int .i64 j ∧ ∀ m, m < j → leafR s (its.getD m nokI) = true) (fun i => its.length - (intOf i).toNat)
  case atStart => exact ⟨0, Nat.zero_le _, rfl, fun m hm => absurd hm (Nat.not_lt_zero _)⟩
  case round =>
  obtain ⟨j, hj, rfl, hall⟩ := hrel
  have HALL := Lib.hid hall
  clear hall
  by_cases hlt : j < its.length
  case pos =>
    obtain ⟨bb, bo, cb, e1, -, zb, -, zc, -⟩ := Sl.at_ HQ.out.2.2.2.1.v (by omega)
    injection e1 with e1 _ e2
    subst e1 e2
    unfold maxLen at zc
    have hyl := get_l its nokI j hlt
    have hrf := HR.out.2.2.1 _ (List.mem_of_getElem? hyl)
    have hlf : leafR s (its.getD j nokI) = ((its.getD j nokI).ref == 0 || s.now.getD (its.getD j nokI).ref.toNat 0 != 0) := rfl
    have hbd := HR.out.1 j hlt
    obtain ⟨y, hy⟩ : ∃ y, its.getD j nokI = y := ⟨_, rfl⟩
    obtain ⟨lj, hlj⟩ : ∃ q, leafR s (its.getD j nokI) = q := ⟨_, rfl⟩
    rw [hlj] at hbd hlf
    rw [hy] at hyl hrf hlf
    have HJ := Lib.hid (And.intro hbd hlj)
    clear hbd hlj hy
    obtain ⟨-, -, -, f3, -⟩ := Sl.cellV HQ.out.2.2.2.1.v j _ hyl
    have hn5 : rItem.n = 5 := rfl
    rw [hn5] at f3
    clear hn5 hyl
    have i6 : (j : Int) < its.length := by omega
    have i7 : ¬ (its.length : Int) ≤ j := by omega
    by_cases h0 : y.ref = 0
    case pos =>
      have i8 : (y.ref == 0) = true := by simp [h0]
      obtain rfl : lj = true := by rw [hlf]; simp [h0]
      clear hlf
      have H0 := Lib.hid h0
      rw [h0] at f3
      clear h0 i8
      have hal := fun m (hm : m < j + 1) => (Nat.lt_succ_iff_lt_or_eq.1 hm).elim (HALL.out m) (fun e => e ▸ HJ.out.2)
      have HAL := Lib.hid hal
      clear hal
      go_wp2
      go_round
      case rel => exact ⟨j + 1, by omega, by go_num, HAL.out⟩
      case measure => simp [intOf]; omega
    obtain ⟨q, hq⟩ : ∃ q : Nat, y.ref = q := ⟨y.ref.toNat, by omega⟩
    rw [hq] at f3 hlf hrf h0
    rw [Int.toNat_natCast] at hlf
    obtain ⟨bn, on_, cn, e1, -, zn, zn1, zn2, hcn⟩ := HQ.out.2.2.1.n.at_n HR.out.2.2.2 (by omega)
    injection e1 with e1 e3 e2
    subst e1 e2
    have cq := hcn q (s.now.getD q 0) (get_l _ _ _ (by have := HR.out.2.2.2; omega))
    unfold maxLen at zn2
    simp only [bV] at cq
    obtain ⟨x, hx⟩ : ∃ x, s.now.getD q 0 = x := ⟨_, rfl⟩
    rw [hx] at cq hlf
    clear hcn hx hq
    have iq : ¬ (s.now.length : Int) ≤ (q : Int) := by have := HR.out.2.2.2; omega
    have iq2 : (q : Int) < s.now.length := by have := HR.out.2.2.2; omega
    have iz : ((q : Int) == 0) = false := by rw [beq_eq_false_iff_ne]; omega
    have iz2 : ((q : Int) != 0) = true := by rw [bne, iz]; rfl
    have iz3 : (q == 0) = false := by rw [beq_eq_false_iff_ne]; omega
    rw [iz] at hlf
    have H0 := Lib.hid h0
    clear h0 hrf
    have iz4 : ¬ q = 0 := by have := H0.out; omega
    by_cases hx0 : x = 0
    case pos =>
      subst hx0
      obtain rfl : lj = false := by rw [hlf]; rfl
      clear hlf
      have hrr := HJ.out.1 rfl
      subst hrr
      go_wp2
      go_ret
      exact ⟨rfl, HQ.out.2.2.2.2⟩
    have ix : ((x.toNat : Int) == 0) = false := by
      rw [beq_eq_false_iff_ne]
      intro e
      exact hx0 (UInt8.toNat_inj.1 (by simpa using e))
    obtain rfl : lj = true := by rw [hlf]; simp [hx0]
    clear hlf hx0
    have hal := fun m (hm : m < j + 1) => (Nat.lt_succ_iff_lt_or_eq.1 hm).elim (HALL.out m) (fun e => e ▸ HJ.out.2)
    have HAL := Lib.hid hal
    clear hal
    go_wp2
    go_round
    case rel => exact ⟨j + 1, by omega, by go_num, HAL.out⟩
    case measure => simp [intOf]; omega
  obtain rfl : j = its.length := by omega
  have hrr := HR.out.2.1 HALL.out
  subst hrr
  go_wp2
  go_ret
  exact ⟨rfl, HQ.out.2.2.2.2⟩

/-- What is said of inner, and of right, at a level. -/
def InnC (l : Nat) : Prop := ∀ (b u x y v : Value) (s : StoreL) (its : List ItemL) (t : KeyL) (ends : Bool) (w : World), StoreV w 0 w.heap.size b u x y s → mayS s = true → Sl rItem w 0 w.heap.size v its → mayN ⟨(l : Int), its⟩ = true →
  Calls Try.prog 118 #[.agg #[b, u, x, y], .agg #[.int .i64 l, v], .agg #[bV t.kind, wV t.id, wV t.off], .bool ends] w fun e w' => e = .returned (.bool (innerR s l its t ends)) ∧ Below w.heap.size w w'
def RgtC (l : Nat) : Prop := ∀ (b u x y : Value) (s : StoreL) (p : Int) (f t : KeyL) (ends : Bool) (w : World), StoreV w 0 w.heap.size b u x y s → mayS s = true →
  Calls Try.prog 143 #[.agg #[b, u, x, y], .int .i64 p, .int .i64 l, .agg #[bV f.kind, wV f.id, wV f.off], .agg #[bV t.kind, wV t.id, wV t.off], .bool ends] w fun e w' => e = .returned (.bool (rgtW (innerR s l) s l p f t ends)) ∧ Below w.heap.size w w'

set_option maxRecDepth 100000 in
set_option maxHeartbeats 4000000 in
theorem rgt_step (l : Nat) (ih : InnC l) : RgtC l := by
  intro b_s u_s x_s y_s s p f t ends w h_s hm
  obtain ⟨ab_s, cb_s, rfl, gb_s, gc_s, -, -⟩ := h_s.1.1
  obtain ⟨au_s, cu_s, rfl, gu_s, gv_s, -, -⟩ := h_s.1.2
  obtain ⟨ax_s, cx_s, rfl, gx_s, gz_s⟩ := h_s.2.1.form rfl
  obtain ⟨ay_s, cy_s, rfl, gy_s, gw_s⟩ := h_s.2.2.form rfl
  unfold maxLen at gc_s gv_s gz_s gw_s
  obtain ⟨f_k, f_i, f_o⟩ := f
  simp only [bV, wV]
  obtain ⟨t_k, t_i, t_o⟩ := t
  dsimp only
  have hst := ((((Below.refl w.heap.size w).alloc (Nat.le_refl _) (.cells #[.slice ab_s s.disk.blocks.length cb_s, .slice au_s s.disk.waits.length cu_s, .slice ax_s s.now.length cx_s, .slice ay_s s.last.length cy_s] 46)).alloc (by simp) (.cells #[.int .u8 (f_k.toNat : Int), .int .u32 (f_i.toNat : Int), .int .u32 (f_o.toNat : Int)] 48)).alloc (by simp; omega) (.cells #[.int .u8 (t_k.toNat : Int), .int .u32 (t_i.toNat : Int), .int .u32 (t_o.toNat : Int)] 48))
  have hq := three_new w (.cells #[.slice ab_s s.disk.blocks.length cb_s, .slice au_s s.disk.waits.length cu_s, .slice ax_s s.now.length cx_s, .slice ay_s s.last.length cy_s] 46) (.cells #[.int .u8 (f_k.toNat : Int), .int .u32 (f_i.toNat : Int), .int .u32 (f_o.toNat : Int)] 48) (.cells #[.int .u8 (t_k.toNat : Int), .int .u32 (t_i.toNat : Int), .int .u32 (t_o.toNat : Int)] 48)
  have q_s := LK.of hq.1
  have q_f := LK.of hq.2.1
  have q_t := LK.of hq.2.2
  have hB : LW w _ := hst
  have O_s := (LO.of h_s (Nat.le_refl _)).step hst
  have sz_V : w.heap.size + 2 < (((w.alloc (.cells #[.slice ab_s s.disk.blocks.length cb_s, .slice au_s s.disk.waits.length cu_s, .slice ax_s s.now.length cx_s, .slice ay_s s.last.length cy_s] 46)).alloc (.cells #[.int .u8 (f_k.toNat : Int), .int .u32 (f_i.toNat : Int), .int .u32 (f_o.toNat : Int)] 48)).alloc (.cells #[.int .u8 (t_k.toNat : Int), .int .u32 (t_i.toNat : Int), .int .u32 (t_o.toNat : Int)] 48)).heap.size := by simp
  obtain ⟨V, hV⟩ : ∃ V, (((w.alloc (.cells #[.slice ab_s s.disk.blocks.length cb_s, .slice au_s s.disk.waits.length cu_s, .slice ax_s s.now.length cx_s, .slice ay_s s.last.length cy_s] 46)).alloc (.cells #[.int .u8 (f_k.toNat : Int), .int .u32 (f_i.toNat : Int), .int .u32 (f_o.toNat : Int)] 48)).alloc (.cells #[.int .u8 (t_k.toNat : Int), .int .u32 (t_i.toNat : Int), .int .u32 (t_o.toNat : Int)] 48)) = V := ⟨_, rfl⟩
  rw [hV] at sz_V q_s q_f q_t O_s hB
  clear hst h_s hq
  have HQ := Lib.hid (And.intro q_s (And.intro q_f (And.intro q_t (And.intro O_s hB))))
  clear q_s q_f q_t O_s hB
  have c_q_s0 := LK.cell HQ.out.1 0
  have c_q_s1 := LK.cell HQ.out.1 1
  have c_q_s2 := LK.cell HQ.out.1 2
  have c_q_s3 := LK.cell HQ.out.1 3
  have c_q_f0 := LK.cell HQ.out.2.1 0
  have c_q_f1 := LK.cell HQ.out.2.1 1
  have c_q_f2 := LK.cell HQ.out.2.1 2
  have c_q_t0 := LK.cell HQ.out.2.2.1 0
  have c_q_t1 := LK.cell HQ.out.2.2.1 1
  have c_q_t2 := LK.cell HQ.out.2.2.1 2
  simp at c_q_s0 c_q_s1 c_q_s2 c_q_s3 c_q_f0 c_q_f1 c_q_f2 c_q_t0 c_q_t1 c_q_t2
  have hE : rgtW (innerR s l) s l p (⟨f_k, f_i, f_o⟩ : KeyL) (⟨t_k, t_i, t_o⟩ : KeyL) ends = (isR s p && (decide ((rdR s p).level = (l : Int)) && (!(rdR s p).items.isEmpty && (decide (((rdR s p).items.getD 0 nokI).key = (⟨f_k, f_i, f_o⟩ : KeyL)) && ((!ends || lessK ((rdR s p).items.getD ((rdR s p).items.length - 1) nokI).key (⟨t_k, t_i, t_o⟩ : KeyL)) && innerR s l (rdR s p).items (⟨t_k, t_i, t_o⟩ : KeyL) ends))))) := rfl
  generalize rgtW (innerR s l) s l p (⟨f_k, f_i, f_o⟩ : KeyL) (⟨t_k, t_i, t_o⟩ : KeyL) ends = R at *
  have hmn : isR s p = true → mayN (rdR s p) = true := fun h => by
    have h2 := h
    unfold isR at h2
    rw [decide_eq_true_eq] at h2
    unfold rdR
    rw [h, if_pos rfl]
    exact nodeB_may h2.2.2
  have k_r := fun V b u x y hh => rsread_any b u x y s p V hh hm
  have k_l := fun (x : ItemL) V => rless_any x.key (⟨t_k, t_i, t_o⟩ : KeyL) V
  simp only [keyV, bV, wV] at k_l
  obtain ⟨ir, hir⟩ : ∃ q, isR s p = q := ⟨_, rfl⟩
  obtain ⟨lv, its, hN⟩ : ∃ lv its, rdR s p = ⟨lv, its⟩ := ⟨_, _, rfl⟩
  rw [hir, hN] at hE k_r hmn
  simp only at hE k_r hmn
  have k_i := fun (hl : lv = (l : Int)) (hr : ir = true) V b u x y v hh h2 => ih b u x y v s its (⟨t_k, t_i, t_o⟩ : KeyL) ends V hh hm h2 (by rw [← hl]; exact hmn hr)
  simp only [bV, wV] at k_i
  generalize innerR s l its (⟨t_k, t_i, t_o⟩ : KeyL) ends = inn at *
  have HE := Lib.hid hE
  clear hE hmn hir hN ih hm
  have HC := Lib.hid (And.intro k_r (And.intro k_l k_i))
  clear k_r k_l k_i
  go_enter Try.func143, Try.ntmps143
  go_upto_region 1 with (fail)
  clear hV
  go_wp2_with fail
  refine (HC.out.1 _ _ _ _ _ HQ.out.2.2.2.1.v).mono ?_
  rintro e w1 ⟨v9, rfl, hsl, hst⟩
  clear c_q_s0 c_q_s1 c_q_s2 c_q_s3 c_q_f0 c_q_f1 c_q_f2 c_q_t0 c_q_t1 c_q_t2
  obtain ⟨q_s, q_f, q_t, O_s, hB⟩ := HQ.out
  clear HQ
  have S_n := LS.of hsl (Nat.le_refl _)
  obtain ⟨a_n, c_n, rfl, g_n, gm_n, -, -⟩ := id hsl
  unfold maxLen at gm_n
  clear hsl
  have sz_w1 : V.heap.size ≤ w1.heap.size := hst.size
  replace q_s := q_s.step hst
  replace q_f := q_f.step hst
  replace q_t := q_t.step hst
  replace O_s := O_s.step hst
  replace hB := hB.step hst
  clear hst
  have HQ := Lib.hid (And.intro q_s (And.intro q_f (And.intro q_t (And.intro O_s (And.intro S_n hB)))))
  clear q_s q_f q_t O_s S_n hB
  have c_q_s0 := LK.cell HQ.out.1 0
  have c_q_s1 := LK.cell HQ.out.1 1
  have c_q_s2 := LK.cell HQ.out.1 2
  have c_q_s3 := LK.cell HQ.out.1 3
  have c_q_f0 := LK.cell HQ.out.2.1 0
  have c_q_f1 := LK.cell HQ.out.2.1 1
  have c_q_f2 := LK.cell HQ.out.2.1 2
  have c_q_t0 := LK.cell HQ.out.2.2.1 0
  have c_q_t1 := LK.cell HQ.out.2.2.1 1
  have c_q_t2 := LK.cell HQ.out.2.2.1 2
  simp at c_q_s0 c_q_s1 c_q_s2 c_q_s3 c_q_f0 c_q_f1 c_q_f2 c_q_t0 c_q_t1 c_q_t2
  go_upto_region 2 with (fail)
  clear c_q_s0 c_q_s1 c_q_s2 c_q_s3 c_q_f0 c_q_f1 c_q_f2 c_q_t0 c_q_t1 c_q_t2
  obtain ⟨q_s, q_f, q_t, O_s, S_n, hB⟩ := HQ.out
  clear HQ
  have hst := (Below.refl w1.heap.size w1).alloc (Nat.le_refl _) (.cells #[.int .i64 lv, .slice a_n its.length c_n] 119)
  have hlt : w1.heap.size < (w1.alloc (.cells #[.int .i64 lv, .slice a_n its.length c_n] 119)).heap.size := by simp
  have q_n := LK.new w1 (.cells #[.int .i64 lv, .slice a_n its.length c_n] 119)
  replace q_s := q_s.step hst
  replace q_f := q_f.step hst
  replace q_t := q_t.step hst
  replace O_s := O_s.step hst
  replace S_n := S_n.step hst
  replace hB := hB.step hst
  obtain ⟨w2, hw⟩ : ∃ v, w1.alloc (.cells #[.int .i64 lv, .slice a_n its.length c_n] 119) = v := ⟨_, rfl⟩
  rw [hw] at hlt q_n q_s q_f q_t O_s S_n hB ⊢
  clear hw hst
  have sz_w2 := hlt
  clear hlt
  have HQ := Lib.hid (And.intro q_s (And.intro q_f (And.intro q_t (And.intro O_s (And.intro S_n (And.intro q_n hB))))))
  clear q_s q_f q_t O_s S_n q_n hB
  have c_q_s0 := LK.cell HQ.out.1 0
  have c_q_s1 := LK.cell HQ.out.1 1
  have c_q_s2 := LK.cell HQ.out.1 2
  have c_q_s3 := LK.cell HQ.out.1 3
  have c_q_f0 := LK.cell HQ.out.2.1 0
  have c_q_f1 := LK.cell HQ.out.2.1 1
  have c_q_f2 := LK.cell HQ.out.2.1 2
  have c_q_t0 := LK.cell HQ.out.2.2.1 0
  have c_q_t1 := LK.cell HQ.out.2.2.1 1
  have c_q_t2 := LK.cell HQ.out.2.2.1 2
  have c_q_n0 := LK.cell HQ.out.2.2.2.2.2.1 0
  have c_q_n1 := LK.cell HQ.out.2.2.2.2.2.1 1
  simp at c_q_s0 c_q_s1 c_q_s2 c_q_s3 c_q_f0 c_q_f1 c_q_f2 c_q_t0 c_q_t1 c_q_t2 c_q_n0 c_q_n1
  obtain ⟨Q1, hQ1⟩ : ∃ q, (ir && (decide (lv = (l : Int)) && (!its.isEmpty && decide ((its.getD 0 nokI).key = (⟨f_k, f_i, f_o⟩ : KeyL))))) = q := ⟨_, rfl⟩
  have HQ1 := Lib.hid hQ1
  clear hQ1
  go_cut [43] (fun t wx => t = .bool (!Q1) ∧ Below w2.heap.size w2 wx)
  case first =>
    cases ir
    case false =>
      obtain rfl : Q1 = false := by rw [← HQ1.out]; rfl
      go_quiet (fail)
      go_wp2
      go_meet
      exact ⟨rfl, below_dn _ _ _⟩
    by_cases hlv : lv = (l : Int)
    case neg =>
      obtain rfl : Q1 = false := by rw [← HQ1.out]; simp [hlv]
      have i1 : (lv == (l : Int)) = false := by simp [hlv]
      have i2 : (lv != (l : Int)) = true := by rw [bne, i1]; rfl
      have HLV := Lib.hid hlv
      clear hlv
      go_quiet (fail)
      go_wp2
      go_meet
      exact ⟨rfl, below_dn _ _ _⟩
    have i1 : (lv == (l : Int)) = true := by simp [hlv]
    have i2 : (lv != (l : Int)) = false := by rw [bne, i1]; rfl
    have HLV := Lib.hid hlv
    clear hlv
    by_cases hne : its = []
    case pos =>
      obtain rfl : Q1 = false := by rw [← HQ1.out, hne]; simp
      subst hne
      go_quiet (fail)
      go_wp2
      go_meet
      exact ⟨rfl, below_dn _ _ _⟩
    have hpos : 0 < its.length := by
      rcases Nat.eq_zero_or_pos its.length with h | h
      · exact absurd (List.eq_nil_of_length_eq_zero h) hne
      · exact h
    have i3 : ((its.length : Int) == 0) = false := by rw [beq_eq_false_iff_ne]; omega
    have i4 : ¬ (its.length : Int) ≤ 0 := by omega
    have i5 : (0 : Int) < its.length := by omega
    have i6 : ¬ its.length = 0 := by omega
    have HNE := Lib.hid hne
    obtain ⟨bb, bo, cb, e1, -, zb, -, zc, -⟩ := Sl.at_ HQ.out.2.2.2.2.1.v (by omega)
    injection e1 with e1 _ e2
    subst e1 e2
    unfold maxLen at zc
    have hyl := get_l its nokI 0 hpos
    obtain ⟨y, hy⟩ : ∃ y, its.getD 0 nokI = y := ⟨_, rfl⟩
    have HY := Lib.hid hy
    rw [hy] at hyl
    clear hy
    obtain ⟨f0, f1, f2, -, -, -⟩ := Sl.cellV HQ.out.2.2.2.2.1.v 0 _ hyl
    have hn5 : rItem.n = 5 := rfl
    rw [hn5] at f0 f1 f2
    simp only [bV, wV, Nat.add_zero, Nat.zero_mul] at f0 f1 f2
    clear hn5
    clear hyl
    by_cases hk : y.key = (⟨f_k, f_i, f_o⟩ : KeyL)
    case pos =>
      obtain rfl : Q1 = true := by rw [← HQ1.out, HY.out, HLV.out]; simp [hk, HNE.out]
      have ek : ∀ W, (Op.equalIn 10000 48 (.agg #[.int .u8 (y.key.kind.toNat : Int), .int .u32 (y.key.id.toNat : Int), .int .u32 (y.key.off.toNat : Int)]) (.agg #[.int .u8 (f_k.toNat : Int), .int .u32 (f_i.toNat : Int), .int .u32 (f_o.toNat : Int)])).run Try.prog W = .ok true W := fun W => (eq_key y.key (⟨f_k, f_i, f_o⟩ : KeyL) W).trans (congrArg (fun z => Result.ok z W) (decide_eq_true hk))
      have HK := Lib.hid hk
      clear hk
      go_quiet (fail)
      go_wp2
      go_meet
      exact ⟨rfl, below_dn _ _ _⟩
    obtain rfl : Q1 = false := by rw [← HQ1.out, HY.out]; simp [hk]
    have ek : ∀ W, (Op.equalIn 10000 48 (.agg #[.int .u8 (y.key.kind.toNat : Int), .int .u32 (y.key.id.toNat : Int), .int .u32 (y.key.off.toNat : Int)]) (.agg #[.int .u8 (f_k.toNat : Int), .int .u32 (f_i.toNat : Int), .int .u32 (f_o.toNat : Int)])).run Try.prog W = .ok false W := fun W => (eq_key y.key (⟨f_k, f_i, f_o⟩ : KeyL) W).trans (congrArg (fun z => Result.ok z W) (decide_eq_false hk))
    have HK := Lib.hid hk
    clear hk
    go_quiet (fail)
    go_wp2
    go_meet
    exact ⟨rfl, below_dn _ _ _⟩
  case rest =>
  obtain ⟨rfl, hst⟩ := hcut
  obtain ⟨wn, hwn⟩ := named_w hst
  subst hwn
  obtain ⟨w3, hwn⟩ : ∃ v, v = wn := ⟨_, rfl⟩
  subst hwn
  clear c_q_s0 c_q_s1 c_q_s2 c_q_s3 c_q_f0 c_q_f1 c_q_f2 c_q_t0 c_q_t1 c_q_t2 c_q_n0 c_q_n1
  obtain ⟨q_s, q_f, q_t, O_s, S_n, q_n, hB⟩ := HQ.out
  clear HQ
  have sz_w3 : w2.heap.size ≤ w3.heap.size := hst.size
  replace q_s := q_s.step hst
  replace q_f := q_f.step hst
  replace q_t := q_t.step hst
  replace O_s := O_s.step hst
  replace S_n := S_n.step hst
  replace q_n := q_n.step hst
  replace hB := hB.step hst
  clear hst
  have HQ := Lib.hid (And.intro q_s (And.intro q_f (And.intro q_t (And.intro O_s (And.intro S_n (And.intro q_n hB))))))
  clear q_s q_f q_t O_s S_n q_n hB
  have c_q_s0 := LK.cell HQ.out.1 0
  have c_q_s1 := LK.cell HQ.out.1 1
  have c_q_s2 := LK.cell HQ.out.1 2
  have c_q_s3 := LK.cell HQ.out.1 3
  have c_q_f0 := LK.cell HQ.out.2.1 0
  have c_q_f1 := LK.cell HQ.out.2.1 1
  have c_q_f2 := LK.cell HQ.out.2.1 2
  have c_q_t0 := LK.cell HQ.out.2.2.1 0
  have c_q_t1 := LK.cell HQ.out.2.2.1 1
  have c_q_t2 := LK.cell HQ.out.2.2.1 2
  have c_q_n0 := LK.cell HQ.out.2.2.2.2.2.1 0
  have c_q_n1 := LK.cell HQ.out.2.2.2.2.2.1 1
  simp at c_q_s0 c_q_s1 c_q_s2 c_q_s3 c_q_f0 c_q_f1 c_q_f2 c_q_t0 c_q_t1 c_q_t2 c_q_n0 c_q_n1
  cases Q1
  case false =>
    obtain rfl : R = false := by
      rw [HE.out]
      have := HQ1.out
      revert this
      cases ir <;> cases decide (lv = (l : Int)) <;> cases its.isEmpty <;> cases decide ((its.getD 0 nokI).key = (⟨f_k, f_i, f_o⟩ : KeyL)) <;> simp
    go_wp2
    go_ret
    exact ⟨rfl, HQ.out.2.2.2.2.2.2⟩
  have hq := HQ1.out
  rw [Bool.and_eq_true, Bool.and_eq_true, Bool.and_eq_true, decide_eq_true_eq] at hq
  obtain ⟨hq1, hq2, hq3, hq4⟩ := hq
  have hR : R = ((!ends || lessK (its.getD (its.length - 1) nokI).key (⟨t_k, t_i, t_o⟩ : KeyL)) && inn) := by rw [HE.out, hq1, hq3, hq4, decide_eq_true hq2]; rfl
  have hpos : 0 < its.length := by
    cases its with
    | nil => simp at hq3
    | cons a l => simp
  have HR := Lib.hid (And.intro hR (And.intro hq1 hq2))
  clear hR hq1 hq2 hq3 hq4 HE HQ1
  obtain ⟨Q2, hQ2⟩ : ∃ q, (!ends || lessK (its.getD (its.length - 1) nokI).key (⟨t_k, t_i, t_o⟩ : KeyL)) = q := ⟨_, rfl⟩
  rw [hQ2] at HR
  have HQ2 := Lib.hid hQ2
  clear hQ2
  go_upto_region 4 with (fail)
  go_cut [58] (fun t wx => t = .bool (!Q2) ∧ Below w3.heap.size w3 wx)
  case first =>
    cases ends
    case false =>
      obtain rfl : Q2 = true := by rw [← HQ2.out]; rfl
      go_quiet (fail)
      go_wp2
      go_meet
      exact ⟨rfl, below_dn _ _ _⟩
    obtain ⟨bb, bo, cb, e1, -, zb, -, zc, -⟩ := Sl.at_ HQ.out.2.2.2.2.1.v (by omega)
    injection e1 with e1 _ e2
    subst e1 e2
    unfold maxLen at zc
    have hyl := get_l its nokI (its.length - 1) (by omega)
    have kl := HC.out.2.1 (its.getD (its.length - 1) nokI)
    have hq := HQ2.out
    rw [Bool.not_true, Bool.false_or] at hq
    rw [hq] at kl
    clear hq
    obtain ⟨y, hy⟩ : ∃ y, its.getD (its.length - 1) nokI = y := ⟨_, rfl⟩
    rw [hy] at hyl kl
    have KL := Lib.hid kl
    clear kl hy
    obtain ⟨f0, f1, f2, -, -, -⟩ := Sl.cellV HQ.out.2.2.2.2.1.v (its.length - 1) _ hyl
    have hn5 : rItem.n = 5 := rfl
    rw [hn5] at f0 f1 f2
    simp only [bV, wV, Nat.add_zero, Nat.zero_mul] at f0 f1 f2
    clear hn5
    clear hyl
    have i1 : (its.length : Int) - 1 = ((its.length - 1 : Nat) : Int) := by omega
    have i2 : ((its.length - 1 : Nat) : Int) < its.length := by omega
    have i3 : ¬ (its.length : Int) ≤ ((its.length - 1 : Nat) : Int) := by omega
    have i4 : ¬ (its.length : Int) - 1 < 0 := by omega
    have zz : bb < w3.heap.size := by omega
    replace f0 := fun X => ((aft_below w3 X).cell (p := ⟨bb, bo + (its.length - 1) * 5, none⟩) zz).trans f0
    replace f1 := fun X => ((aft_below w3 X).cell (p := ⟨bb, bo + (its.length - 1) * 5 + 1, none⟩) zz).trans f1
    replace f2 := fun X => ((aft_below w3 X).cell (p := ⟨bb, bo + (its.length - 1) * 5 + 2, none⟩) zz).trans f2
    clear c_q_s0 c_q_s1 c_q_s2 c_q_s3 c_q_f0 c_q_f1 c_q_f2 c_q_t0 c_q_t1 c_q_t2 c_q_n0 c_q_n1
    have x_q_n0 := fun X => LK.cell (HQ.out.2.2.2.2.2.1.step (aft_below w3 X)) 0
    have x_q_n1 := fun X => LK.cell (HQ.out.2.2.2.2.2.1.step (aft_below w3 X)) 1
    have x_q_t0 := fun X => LK.cell (HQ.out.2.2.1.step (aft_below w3 X)) 0
    have x_q_t1 := fun X => LK.cell (HQ.out.2.2.1.step (aft_below w3 X)) 1
    have x_q_t2 := fun X => LK.cell (HQ.out.2.2.1.step (aft_below w3 X)) 2
    simp at x_q_n0 x_q_n1 x_q_t0 x_q_t1 x_q_t2
    refine wp_region_held_drew (S := Cls w3) (by kernel_rfl) (Cls.drew w3) (fun hCl => ?_)
    refine wpAnyH_seg (fuel := 3) (by kernel_rfl) (fun _ d _ _ _ h => by cases d <;> exact h) hCl [0, 1, 2, 3, 4, 5, 6, 7, 8, 9, 10, 11] _ _ _ (by kernel_rfl) (by kernel_rfl) ?_
    simp only [opsOf_cons, opsOf_nil, consOp_some, List.getElem?_toArray, List.getElem?_cons_succ, List.getElem?_cons_zero]
    repeat (first | go_big_quiet_step (fail) | quiet_step (fail))
    refine wpQuiet_nil ?_
    refine wpAnyH_each (fuel := 2) [12] (by kernel_rfl) (by simp) (by kernel_rfl) ?_
    refine Each.cons _ rfl (fun K' hK => ?_) Each.nil
    go_simp
    refine (KL.out _).mono ?_
    rintro e z1 ⟨rfl, hb⟩
    have hst := below_step hCl.below hCl.below.size hb
    clear hb
    have hCl := Cls.of hst
    refine hK.out (Cls w3) (fun _ h => h) hCl ?_
    clear hK K'
    refine wpAnyH_seg (fuel := 0) (by kernel_rfl) (fun _ d _ _ _ h => by cases d <;> exact h) hCl [13, 14] _ _ _ (by kernel_rfl) (by kernel_rfl) ?_
    simp only [opsOf_cons, opsOf_nil, consOp_some, List.getElem?_toArray, List.getElem?_cons_succ, List.getElem?_cons_zero]
    repeat (first | go_big_quiet_step (fail) | quiet_step (fail))
    refine wpQuiet_nil ?_
    refine wpAnyH_done (by kernel_rfl) ?_ _
    go_wp2
    go_meet
    exact ⟨rfl, hst⟩
  case rest =>
  obtain ⟨rfl, hst⟩ := hcut
  obtain ⟨wn, hwn⟩ := named_w hst
  subst hwn
  obtain ⟨w4, hwn⟩ : ∃ v, v = wn := ⟨_, rfl⟩
  subst hwn
  clear c_q_s0 c_q_s1 c_q_s2 c_q_s3 c_q_f0 c_q_f1 c_q_f2 c_q_t0 c_q_t1 c_q_t2 c_q_n0 c_q_n1
  obtain ⟨q_s, q_f, q_t, O_s, S_n, q_n, hB⟩ := HQ.out
  clear HQ
  have sz_w4 : w3.heap.size ≤ w4.heap.size := hst.size
  replace q_s := q_s.step hst
  replace q_f := q_f.step hst
  replace q_t := q_t.step hst
  replace O_s := O_s.step hst
  replace S_n := S_n.step hst
  replace q_n := q_n.step hst
  replace hB := hB.step hst
  clear hst
  have HQ := Lib.hid (And.intro q_s (And.intro q_f (And.intro q_t (And.intro O_s (And.intro S_n (And.intro q_n hB))))))
  clear q_s q_f q_t O_s S_n q_n hB
  have c_q_s0 := LK.cell HQ.out.1 0
  have c_q_s1 := LK.cell HQ.out.1 1
  have c_q_s2 := LK.cell HQ.out.1 2
  have c_q_s3 := LK.cell HQ.out.1 3
  have c_q_f0 := LK.cell HQ.out.2.1 0
  have c_q_f1 := LK.cell HQ.out.2.1 1
  have c_q_f2 := LK.cell HQ.out.2.1 2
  have c_q_t0 := LK.cell HQ.out.2.2.1 0
  have c_q_t1 := LK.cell HQ.out.2.2.1 1
  have c_q_t2 := LK.cell HQ.out.2.2.1 2
  have c_q_n0 := LK.cell HQ.out.2.2.2.2.2.1 0
  have c_q_n1 := LK.cell HQ.out.2.2.2.2.2.1 1
  simp at c_q_s0 c_q_s1 c_q_s2 c_q_s3 c_q_f0 c_q_f1 c_q_f2 c_q_t0 c_q_t1 c_q_t2 c_q_n0 c_q_n1
  cases Q2
  case false =>
    obtain rfl : R = false := HR.out.1
    go_wp2
    go_ret
    exact ⟨rfl, HQ.out.2.2.2.2.2.2⟩
  obtain rfl : R = inn := by rw [HR.out.1]; rfl
  have hlv := HR.out.2.2
  subst hlv
  have ki := HC.out.2.2 rfl HR.out.2.1
  have KI := Lib.hid ki
  clear ki
  go_wp2_with fail
  refine (KI.out _ _ _ _ _ _ HQ.out.2.2.2.1.v HQ.out.2.2.2.2.1.v).mono ?_
  rintro e w5 ⟨rfl, hst⟩
  clear c_q_s0 c_q_s1 c_q_s2 c_q_s3 c_q_f0 c_q_f1 c_q_f2 c_q_t0 c_q_t1 c_q_t2 c_q_n0 c_q_n1
  obtain ⟨q_s, q_f, q_t, O_s, S_n, q_n, hB⟩ := HQ.out
  clear HQ
  have sz_w5 : w4.heap.size ≤ w5.heap.size := hst.size
  replace q_s := q_s.step hst
  replace q_f := q_f.step hst
  replace q_t := q_t.step hst
  replace O_s := O_s.step hst
  replace S_n := S_n.step hst
  replace q_n := q_n.step hst
  replace hB := hB.step hst
  clear hst
  have HQ := Lib.hid (And.intro q_s (And.intro q_f (And.intro q_t (And.intro O_s (And.intro S_n (And.intro q_n hB))))))
  clear q_s q_f q_t O_s S_n q_n hB
  have c_q_s0 := LK.cell HQ.out.1 0
  have c_q_s1 := LK.cell HQ.out.1 1
  have c_q_s2 := LK.cell HQ.out.1 2
  have c_q_s3 := LK.cell HQ.out.1 3
  have c_q_f0 := LK.cell HQ.out.2.1 0
  have c_q_f1 := LK.cell HQ.out.2.1 1
  have c_q_f2 := LK.cell HQ.out.2.1 2
  have c_q_t0 := LK.cell HQ.out.2.2.1 0
  have c_q_t1 := LK.cell HQ.out.2.2.1 1
  have c_q_t2 := LK.cell HQ.out.2.2.1 2
  have c_q_n0 := LK.cell HQ.out.2.2.2.2.2.1 0
  have c_q_n1 := LK.cell HQ.out.2.2.2.2.2.1 1
  simp at c_q_s0 c_q_s1 c_q_s2 c_q_s3 c_q_f0 c_q_f1 c_q_f2 c_q_t0 c_q_t1 c_q_t2 c_q_n0 c_q_n1
  go_wp2
  go_ret
  exact ⟨rfl, HQ.out.2.2.2.2.2.2⟩

set_option maxRecDepth 100000 in
set_option maxHeartbeats 4000000 in
theorem inn_step (l : Nat) (ih : ∀ l', l = l' + 1 → RgtC l') : InnC l := by
  intro b_s u_s x_s y_s u_n s its t ends w h_s hm h_n hmn
  obtain ⟨ab_s, cb_s, rfl, gb_s, gc_s, -, -⟩ := h_s.1.1
  obtain ⟨au_s, cu_s, rfl, gu_s, gv_s, -, -⟩ := h_s.1.2
  obtain ⟨ax_s, cx_s, rfl, gx_s, gz_s⟩ := h_s.2.1.form rfl
  obtain ⟨ay_s, cy_s, rfl, gy_s, gw_s⟩ := h_s.2.2.form rfl
  unfold maxLen at gc_s gv_s gz_s gw_s
  obtain ⟨a_n, c_n, rfl, g_n, gm_n, -, -⟩ := id h_n
  unfold maxLen at gm_n
  obtain ⟨t_k, t_i, t_o⟩ := t
  simp only [bV, wV]
  have hst := ((((Below.refl w.heap.size w).alloc (Nat.le_refl _) (.cells #[.slice ab_s s.disk.blocks.length cb_s, .slice au_s s.disk.waits.length cu_s, .slice ax_s s.now.length cx_s, .slice ay_s s.last.length cy_s] 46)).alloc (by simp) (.cells #[.int .i64 (l : Int), .slice a_n its.length c_n] 119)).alloc (by simp; omega) (.cells #[.int .u8 (t_k.toNat : Int), .int .u32 (t_i.toNat : Int), .int .u32 (t_o.toNat : Int)] 48))
  have hq := three_new w (.cells #[.slice ab_s s.disk.blocks.length cb_s, .slice au_s s.disk.waits.length cu_s, .slice ax_s s.now.length cx_s, .slice ay_s s.last.length cy_s] 46) (.cells #[.int .i64 (l : Int), .slice a_n its.length c_n] 119) (.cells #[.int .u8 (t_k.toNat : Int), .int .u32 (t_i.toNat : Int), .int .u32 (t_o.toNat : Int)] 48)
  have q_s := LK.of hq.1
  have q_n := LK.of hq.2.1
  have q_t := LK.of hq.2.2
  have hB : LW w _ := hst
  have O_s := (LO.of h_s (Nat.le_refl _)).step hst
  have S_n := (LS.of h_n (Nat.le_refl _)).step hst
  have sz_V : w.heap.size + 2 < (((w.alloc (.cells #[.slice ab_s s.disk.blocks.length cb_s, .slice au_s s.disk.waits.length cu_s, .slice ax_s s.now.length cx_s, .slice ay_s s.last.length cy_s] 46)).alloc (.cells #[.int .i64 (l : Int), .slice a_n its.length c_n] 119)).alloc (.cells #[.int .u8 (t_k.toNat : Int), .int .u32 (t_i.toNat : Int), .int .u32 (t_o.toNat : Int)] 48)).heap.size := by simp
  obtain ⟨V, hV⟩ : ∃ V, (((w.alloc (.cells #[.slice ab_s s.disk.blocks.length cb_s, .slice au_s s.disk.waits.length cu_s, .slice ax_s s.now.length cx_s, .slice ay_s s.last.length cy_s] 46)).alloc (.cells #[.int .i64 (l : Int), .slice a_n its.length c_n] 119)).alloc (.cells #[.int .u8 (t_k.toNat : Int), .int .u32 (t_i.toNat : Int), .int .u32 (t_o.toNat : Int)] 48)) = V := ⟨_, rfl⟩
  rw [hV] at sz_V q_s q_n q_t O_s S_n hB
  clear hst h_s h_n hq
  have HQ := Lib.hid (And.intro q_s (And.intro q_n (And.intro q_t (And.intro O_s (And.intro S_n hB)))))
  clear q_s q_n q_t O_s S_n hB
  have c_q_s0 := LK.cell HQ.out.1 0
  have c_q_s1 := LK.cell HQ.out.1 1
  have c_q_s2 := LK.cell HQ.out.1 2
  have c_q_s3 := LK.cell HQ.out.1 3
  have c_q_n0 := LK.cell HQ.out.2.1 0
  have c_q_n1 := LK.cell HQ.out.2.1 1
  have c_q_t0 := LK.cell HQ.out.2.2.1 0
  have c_q_t1 := LK.cell HQ.out.2.2.1 1
  have c_q_t2 := LK.cell HQ.out.2.2.1 2
  simp at c_q_s0 c_q_s1 c_q_s2 c_q_s3 c_q_n0 c_q_n1 c_q_t0 c_q_t1 c_q_t2
  have hl5 : its.length ≤ 5 := (mayN_all hmn).2.1
  have hl6 : l < 6 := by
    have := (mayN_all hmn).1.2
    simp only at this
    omega
  have hrf := fun x hx => may_refs hmn x hx
  have k_f := fun V b u x y v hh h2 => rleaf_any b u x y s ⟨(l : Int), its⟩ v V hh h2 hm hrf
  simp only at k_f
  have hR0 : l = 0 → innerR s l its (⟨t_k, t_i, t_o⟩ : KeyL) ends = its.all (leafR s) := fun h => by subst h; rfl
  have hR1 : ∀ m, l = m + 1 → innerR s l its (⟨t_k, t_i, t_o⟩ : KeyL) ends = innL (fun x t e => rgtW (innerR s m) s m x.ref x.key t e) its (⟨t_k, t_i, t_o⟩ : KeyL) ends := fun m h => by subst h; rw [innerR]
  generalize innerR s l its (⟨t_k, t_i, t_o⟩ : KeyL) ends = R at *
  have HM := Lib.hid (And.intro ih (And.intro hm (And.intro hR0 hR1)))
  clear ih hm hmn hrf hR0 hR1
  have HC := Lib.hid (k_f)
  clear k_f
  go_enter Try.func118, Try.ntmps118
  go_upto_region 1 with (fail)
  clear hV
  by_cases hl : l = 0
  case pos =>
    have hi := HM.out.2.2.1 hl
    subst hl
    subst hi
    go_wp2_with fail
    refine (HC.out _ _ _ _ _ _ HQ.out.2.2.2.1.v HQ.out.2.2.2.2.1.v).mono ?_
    rintro e w1 ⟨rfl, hst⟩
    clear c_q_s0 c_q_s1 c_q_s2 c_q_s3 c_q_n0 c_q_n1 c_q_t0 c_q_t1 c_q_t2
    obtain ⟨q_s, q_n, q_t, O_s, S_n, hB⟩ := HQ.out
    clear HQ
    have sz_w1 : V.heap.size ≤ w1.heap.size := hst.size
    replace q_s := q_s.step hst
    replace q_n := q_n.step hst
    replace q_t := q_t.step hst
    replace O_s := O_s.step hst
    replace S_n := S_n.step hst
    replace hB := hB.step hst
    clear hst
    have HQ := Lib.hid (And.intro q_s (And.intro q_n (And.intro q_t (And.intro O_s (And.intro S_n hB)))))
    clear q_s q_n q_t O_s S_n hB
    have c_q_s0 := LK.cell HQ.out.1 0
    have c_q_s1 := LK.cell HQ.out.1 1
    have c_q_s2 := LK.cell HQ.out.1 2
    have c_q_s3 := LK.cell HQ.out.1 3
    have c_q_n0 := LK.cell HQ.out.2.1 0
    have c_q_n1 := LK.cell HQ.out.2.1 1
    have c_q_t0 := LK.cell HQ.out.2.2.1 0
    have c_q_t1 := LK.cell HQ.out.2.2.1 1
    have c_q_t2 := LK.cell HQ.out.2.2.1 2
    simp at c_q_s0 c_q_s1 c_q_s2 c_q_s3 c_q_n0 c_q_n1 c_q_t0 c_q_t1 c_q_t2
    go_wp2
    go_ret
    exact ⟨rfl, HQ.out.2.2.2.2.2⟩
  obtain ⟨m, hm1⟩ : ∃ m, l = m + 1 := ⟨l - 1, by omega⟩
  have i1 : ((l : Int) == 0) = false := by rw [beq_eq_false_iff_ne]; omega
  have i2 : (l : Int) - 1 = (m : Int) := by omega
  have i3 : ¬ (l : Int) = 0 := by omega
  have i11 : (m : Int) < 6 := by omega
  have i12 : wrap64 (m : Int) = (m : Int) := by unfold wrap64; omega
  have hR := HM.out.2.2.2 m hm1
  have hall := innL_all (fun x t e => rgtW (innerR s m) s m x.ref x.key t e) (⟨t_k, t_i, t_o⟩ : KeyL) ends its
  have hno := fun i (hi : i < its.length) => innL_no (g := fun x t e => rgtW (innerR s m) s m x.ref x.key t e) (tk := (⟨t_k, t_i, t_o⟩ : KeyL)) (ends := ends) hi
  rw [← hR] at hall hno
  have k_r := HM.out.1 m hm1
  have k_r2 := fun V b u x y p f t e hh => k_r b u x y s p f t e V hh HM.out.2.1
  simp only [bV, wV] at k_r2
  have KR := Lib.hid k_r2
  have HR := Lib.hid (And.intro hall hno)
  clear hR hall hno k_r k_r2 hl hm1 HC
  go_wp2_with fail
  go_loopw [9] (fun i wr => ∃ j : Nat, j ≤ its.length ∧ i = .int .i64 j ∧ (∀ i, i < j → rgtW (innerR s m) s m (its.getD i nokI).ref (its.getD i nokI).key (nxtK its i (⟨t_k, t_i, t_o⟩ : KeyL)) (nxtB its i ends) = true) ∧ Below V.heap.size V wr) (fun i _ => its.length - (intOf i).toNat)
  case atStart => exact ⟨0, Nat.zero_le _, rfl, fun m hm => absurd hm (Nat.not_lt_zero _), Below.refl _ _⟩
  case round =>
  obtain ⟨j, hj, rfl, hall, hst⟩ := hrel
  have HALL := Lib.hid hall
  clear hall
  clear c_q_s0 c_q_s1 c_q_s2 c_q_s3 c_q_n0 c_q_n1 c_q_t0 c_q_t1 c_q_t2
  obtain ⟨q_s, q_n, q_t, O_s, S_n, hB⟩ := HQ.out
  clear HQ
  replace q_s := q_s.step hst
  replace q_n := q_n.step hst
  replace q_t := q_t.step hst
  replace O_s := O_s.step hst
  replace S_n := S_n.step hst
  replace hB := hB.step hst
  have sz_wr := hst.size
  have hW : LW V wr := hst
  clear hst
  have HQ := Lib.hid (And.intro q_s (And.intro q_n (And.intro q_t (And.intro O_s (And.intro S_n (And.intro hW hB))))))
  clear q_s q_n q_t O_s S_n hW hB
  have c_q_s0 := LK.cell HQ.out.1 0
  have c_q_s1 := LK.cell HQ.out.1 1
  have c_q_s2 := LK.cell HQ.out.1 2
  have c_q_s3 := LK.cell HQ.out.1 3
  have c_q_n0 := LK.cell HQ.out.2.1 0
  have c_q_n1 := LK.cell HQ.out.2.1 1
  have c_q_t0 := LK.cell HQ.out.2.2.1 0
  have c_q_t1 := LK.cell HQ.out.2.2.1 1
  have c_q_t2 := LK.cell HQ.out.2.2.1 2
  simp at c_q_s0 c_q_s1 c_q_s2 c_q_s3 c_q_n0 c_q_n1 c_q_t0 c_q_t1 c_q_t2
  by_cases hlt : j < its.length
  case pos =>
    obtain ⟨bb, bo, cb, e1, -, zb, -, zc, -⟩ := Sl.at_ HQ.out.2.2.2.2.1.v (by omega)
    injection e1 with e1 _ e2
    subst e1 e2
    unfold maxLen at zc
    have hyl := get_l its nokI j hlt
    have hno := HR.out.2 j hlt
    have hk1 : ∀ h : j + 1 < its.length, nxtK its j (⟨t_k, t_i, t_o⟩ : KeyL) = (its.getD (j + 1) nokI).key ∧ nxtB its j ends = true := fun h => by unfold nxtK nxtB; simp [h]
    have hk2 : ¬ j + 1 < its.length → nxtK its j (⟨t_k, t_i, t_o⟩ : KeyL) = (⟨t_k, t_i, t_o⟩ : KeyL) ∧ nxtB its j ends = ends := fun h => by unfold nxtK nxtB; simp [h]
    obtain ⟨nk, hnk⟩ : ∃ q, nxtK its j (⟨t_k, t_i, t_o⟩ : KeyL) = q := ⟨_, rfl⟩
    obtain ⟨nb, hnb⟩ : ∃ q, nxtB its j ends = q := ⟨_, rfl⟩
    obtain ⟨y, hy⟩ : ∃ y, its.getD j nokI = y := ⟨_, rfl⟩
    rw [hnk, hnb] at hno hk1 hk2
    rw [hy] at hyl hno
    obtain ⟨rj, hrj⟩ : ∃ q, rgtW (innerR s m) s m y.ref y.key nk nb = q := ⟨_, rfl⟩
    rw [hrj] at hno
    have kr := fun V b u x z hh => KR.out V b u x z y.ref y.key nk nb hh
    rw [hrj] at kr
    have HJ := Lib.hid (And.intro hno (And.intro hyl (And.intro kr (by rw [hy, hnk, hnb]; exact hrj : rgtW (innerR s m) s m (its.getD j nokI).ref (its.getD j nokI).key (nxtK its j (⟨t_k, t_i, t_o⟩ : KeyL)) (nxtB its j ends) = rj))))
    have HK := Lib.hid (And.intro hk1 hk2)
    clear hno hyl kr hnk hnb hrj hk1 hk2 hy
    have i6 : (j : Int) < its.length := by omega
    have i7 : ¬ (its.length : Int) ≤ j := by omega
    go_upto_region 7 with (fail)
    clear c_q_s0 c_q_s1 c_q_s2 c_q_s3 c_q_n0 c_q_n1 c_q_t0 c_q_t1 c_q_t2
    obtain ⟨q_s, q_n, q_t, O_s, S_n, hW, hB⟩ := HQ.out
    clear HQ
    have hst := (Below.refl wr.heap.size wr).alloc (Nat.le_refl _) (.cells #[.int .u8 (t_k.toNat : Int), .int .u32 (t_i.toNat : Int), .int .u32 (t_o.toNat : Int)] 48)
    have hlt : wr.heap.size < (wr.alloc (.cells #[.int .u8 (t_k.toNat : Int), .int .u32 (t_i.toNat : Int), .int .u32 (t_o.toNat : Int)] 48)).heap.size := by simp
    have q_x := LK.new wr (.cells #[.int .u8 (t_k.toNat : Int), .int .u32 (t_i.toNat : Int), .int .u32 (t_o.toNat : Int)] 48)
    replace q_s := q_s.step hst
    replace q_n := q_n.step hst
    replace q_t := q_t.step hst
    replace O_s := O_s.step hst
    replace S_n := S_n.step hst
    replace hW := hW.step hst
    replace hB := hB.step hst
    obtain ⟨w1, hw⟩ : ∃ v, wr.alloc (.cells #[.int .u8 (t_k.toNat : Int), .int .u32 (t_i.toNat : Int), .int .u32 (t_o.toNat : Int)] 48) = v := ⟨_, rfl⟩
    rw [hw] at hlt q_x q_s q_n q_t O_s S_n hW hB ⊢
    clear hw hst
    have sz_w1 := hlt
    clear hlt
    have HQ := Lib.hid (And.intro q_s (And.intro q_n (And.intro q_t (And.intro O_s (And.intro S_n (And.intro hW (And.intro q_x hB)))))))
    clear q_s q_n q_t O_s S_n hW q_x hB
    have c_q_s0 := LK.cell HQ.out.1 0
    have c_q_s1 := LK.cell HQ.out.1 1
    have c_q_s2 := LK.cell HQ.out.1 2
    have c_q_s3 := LK.cell HQ.out.1 3
    have c_q_n0 := LK.cell HQ.out.2.1 0
    have c_q_n1 := LK.cell HQ.out.2.1 1
    have c_q_t0 := LK.cell HQ.out.2.2.1 0
    have c_q_t1 := LK.cell HQ.out.2.2.1 1
    have c_q_t2 := LK.cell HQ.out.2.2.1 2
    have c_q_x0 := LK.cell HQ.out.2.2.2.2.2.2.1 0
    have c_q_x1 := LK.cell HQ.out.2.2.2.2.2.2.1 1
    have c_q_x2 := LK.cell HQ.out.2.2.2.2.2.2.1 2
    simp at c_q_s0 c_q_s1 c_q_s2 c_q_s3 c_q_n0 c_q_n1 c_q_t0 c_q_t1 c_q_t2 c_q_x0 c_q_x1 c_q_x2
    by_cases hj1 : j + 1 < its.length
    case neg =>
      obtain ⟨hk, hb⟩ := HK.out.2 hj1
      subst hk hb
      have i8 : ¬ (j : Int) + 1 < its.length := by omega
      obtain ⟨f0, f1, f2, f3, -, -, -⟩ := Sl.cellV HQ.out.2.2.2.2.1.v j _ HJ.out.2.1
      have hn5 : rItem.n = 5 := rfl
      rw [hn5] at f0 f1 f2 f3
      simp only [bV, wV, Nat.add_zero] at f0 f1 f2
      clear hn5
      have zz : bb < w1.heap.size := by omega
      replace f0 := fun X => ((aft_below w1 X).cell (p := ⟨bb, bo + j * 5, none⟩) zz).trans f0
      replace f1 := fun X => ((aft_below w1 X).cell (p := ⟨bb, bo + j * 5 + 1, none⟩) zz).trans f1
      replace f2 := fun X => ((aft_below w1 X).cell (p := ⟨bb, bo + j * 5 + 2, none⟩) zz).trans f2
      replace f3 := fun X => ((aft_below w1 X).cell (p := ⟨bb, bo + j * 5 + 3, none⟩) zz).trans f3
      clear zz
      go_upto_region 9 with (fail)
      clear c_q_s0 c_q_s1 c_q_s2 c_q_s3 c_q_n0 c_q_n1 c_q_t0 c_q_t1 c_q_t2 c_q_x0 c_q_x1 c_q_x2
      have x_q_s0 := fun X => LK.cell (HQ.out.1.step (aft_below w1 X)) 0
      have x_q_s1 := fun X => LK.cell (HQ.out.1.step (aft_below w1 X)) 1
      have x_q_s2 := fun X => LK.cell (HQ.out.1.step (aft_below w1 X)) 2
      have x_q_s3 := fun X => LK.cell (HQ.out.1.step (aft_below w1 X)) 3
      have x_q_n0 := fun X => LK.cell (HQ.out.2.1.step (aft_below w1 X)) 0
      have x_q_n1 := fun X => LK.cell (HQ.out.2.1.step (aft_below w1 X)) 1
      have x_q_x0 := fun X => LK.cell (HQ.out.2.2.2.2.2.2.1.step (aft_below w1 X)) 0
      have x_q_x1 := fun X => LK.cell (HQ.out.2.2.2.2.2.2.1.step (aft_below w1 X)) 1
      have x_q_x2 := fun X => LK.cell (HQ.out.2.2.2.2.2.2.1.step (aft_below w1 X)) 2
      simp at x_q_s0 x_q_s1 x_q_s2 x_q_s3 x_q_n0 x_q_n1 x_q_x0 x_q_x1 x_q_x2
      refine wp_region_held_drew (S := Cls w1) (by kernel_rfl) (Cls.drew w1) (fun hCl => ?_)
      refine wpAnyH_seg (fuel := 2) (by kernel_rfl) (fun _ d _ _ _ h => by cases d <;> exact h) hCl [0, 1, 2, 3, 4, 5, 6, 7, 8, 9, 10, 11, 12, 13, 14, 15, 16, 17] _ _ _ (by kernel_rfl) (by kernel_rfl) ?_
      simp only [opsOf_cons, opsOf_nil, consOp_some, List.getElem?_toArray, List.getElem?_cons_succ, List.getElem?_cons_zero]
      repeat (first | go_big_quiet_step (fail) | quiet_step (fail))
      refine wpQuiet_nil ?_
      refine wpAnyH_each (fuel := 1) [18] (by kernel_rfl) (by simp) (by kernel_rfl) ?_
      refine Each.cons _ rfl (fun K' hK => ?_) Each.nil
      go_simp
      refine (HJ.out.2.2.1 _ _ _ _ _ (HQ.out.2.2.2.1.step hCl.below).v).mono ?_
      rintro e z1 ⟨rfl, hb⟩
      have hst := below_step hCl.below hCl.below.size hb
      clear hb
      have hCl := Cls.of hst
      refine hK.out (Cls w1) (fun _ h => h) hCl ?_
      clear hK K'
      refine wpAnyH_seg (fuel := 0) (by kernel_rfl) (fun _ d _ _ _ h => by cases d <;> exact h) hCl [19] _ _ _ (by kernel_rfl) (by kernel_rfl) ?_
      simp only [opsOf_cons, opsOf_nil, consOp_some, List.getElem?_toArray, List.getElem?_cons_succ, List.getElem?_cons_zero]
      repeat (first | go_big_quiet_step (fail) | quiet_step (fail))
      refine wpQuiet_nil ?_
      refine wpAnyH_done (by kernel_rfl) ?_ _
      have hBf := LW.step HQ.out.2.2.2.2.2.2.2 hst
      have hWf := LW.step HQ.out.2.2.2.2.2.1 hst
      clear hst f0 f1 f2 f3 x_q_s0 x_q_s1 x_q_s2 x_q_s3 x_q_n0 x_q_n1 x_q_x0 x_q_x1 x_q_x2
      cases rj
      case false =>
        have hrr := HJ.out.1 rfl
        subst hrr
        go_wp2
        go_ret
        exact ⟨rfl, hBf⟩
      have hal := fun m (hm : m < j + 1) => (Nat.lt_succ_iff_lt_or_eq.1 hm).elim (HALL.out m) (fun e => e ▸ HJ.out.2.2.2)
      have HAL := Lib.hid hal
      clear hal
      go_wp2
      go_roundw
      case rel => exact ⟨j + 1, by omega, by go_num, HAL.out, hWf⟩
      case measure => simp [intOf]; omega
    obtain ⟨hk, hb⟩ := HK.out.1 hj1
    subst hb
    have i8 : (j : Int) + 1 < its.length := by omega
    have i9 : ¬ (its.length : Int) ≤ (j : Int) + 1 := by omega
    obtain ⟨g0, g1, g2, -, -, -⟩ := Sl.cellV HQ.out.2.2.2.2.1.v (j + 1) _ (get_l its nokI (j + 1) hj1)
    have hn5 : rItem.n = 5 := rfl
    rw [hn5] at g0 g1 g2
    rw [← hk] at g0 g1 g2
    simp only [bV, wV, Nat.add_zero] at g0 g1 g2
    clear hn5 hk
    have z_q_x0 := LK.frozen HQ.out.2.2.2.2.2.2.1 0
    have z_q_x1 := LK.frozen HQ.out.2.2.2.2.2.2.1 1
    have z_q_x2 := LK.frozen HQ.out.2.2.2.2.2.2.1 2
    go_upto_region 9 with (fail)
    clear c_q_s0 c_q_s1 c_q_s2 c_q_s3 c_q_n0 c_q_n1 c_q_t0 c_q_t1 c_q_t2 c_q_x0 c_q_x1 c_q_x2 z_q_x0 z_q_x1 z_q_x2
    obtain ⟨q_s, q_n, q_t, O_s, S_n, hW, q_x, hB⟩ := HQ.out
    clear HQ
    have hcb := LK.blk q_x
    have hF : LK (wr.heap.size) (.cells #[.int .u8 (nk.kind.toNat : Int), .int .u32 (nk.id.toNat : Int), .int .u32 (nk.off.toNat : Int)] 48) (((w1.setCell ⟨wr.heap.size, 0, none⟩ (.int .u8 (nk.kind.toNat : Int))).setCell ⟨wr.heap.size, 1, none⟩ (.int .u32 (nk.id.toNat : Int))).setCell ⟨wr.heap.size, 2, none⟩ (.int .u32 (nk.off.toNat : Int))) := LK.of (set_block (set_block (set_block hcb 0 _) 1 _) 2 _)
    have hbel : Below (wr.heap.size) w1 (((w1.setCell ⟨wr.heap.size, 0, none⟩ (.int .u8 (nk.kind.toNat : Int))).setCell ⟨wr.heap.size, 1, none⟩ (.int .u32 (nk.id.toNat : Int))).setCell ⟨wr.heap.size, 2, none⟩ (.int .u32 (nk.off.toNat : Int))) := (((Below.refl _ w1).setCell (p := ⟨wr.heap.size, 0, none⟩) (Nat.le_refl _) _).setCell (p := ⟨wr.heap.size, 1, none⟩) (Nat.le_refl _) _).setCell (p := ⟨wr.heap.size, 2, none⟩) (Nat.le_refl _) _
    have hfr : ∀ x, x < w1.heap.size → (x < wr.heap.size ∨ wr.heap.size + 1 ≤ x) → (((w1.setCell ⟨wr.heap.size, 0, none⟩ (.int .u8 (nk.kind.toNat : Int))).setCell ⟨wr.heap.size, 1, none⟩ (.int .u32 (nk.id.toNat : Int))).setCell ⟨wr.heap.size, 2, none⟩ (.int .u32 (nk.off.toNat : Int))).heap[x]? = w1.heap[x]? := fun x _ h => (set_other _ _ _ _ _ (by omega)).trans ((set_other _ _ _ _ _ (by omega)).trans ((set_other _ _ _ _ _ (by omega))))
    have hs4 : (((w1.setCell ⟨wr.heap.size, 0, none⟩ (.int .u8 (nk.kind.toNat : Int))).setCell ⟨wr.heap.size, 1, none⟩ (.int .u32 (nk.id.toNat : Int))).setCell ⟨wr.heap.size, 2, none⟩ (.int .u32 (nk.off.toNat : Int))).heap.size = w1.heap.size := by simp only [World.size_setCell]
    replace q_s := q_s.out (Nat.le_of_eq hs4.symm) hfr (by omega)
    replace q_n := q_n.out (Nat.le_of_eq hs4.symm) hfr (by omega)
    replace q_t := q_t.out (Nat.le_of_eq hs4.symm) hfr (by omega)
    replace O_s := O_s.out (Nat.le_of_eq hs4.symm) hfr (by omega)
    replace S_n := S_n.out (Nat.le_of_eq hs4.symm) hfr (by omega)
    replace hW := LW.outB hW hbel (by omega)
    replace hB := hB.outB hbel (by omega)
    replace q_x := hF
    obtain ⟨w2, hw⟩ : ∃ v, (((w1.setCell ⟨wr.heap.size, 0, none⟩ (.int .u8 (nk.kind.toNat : Int))).setCell ⟨wr.heap.size, 1, none⟩ (.int .u32 (nk.id.toNat : Int))).setCell ⟨wr.heap.size, 2, none⟩ (.int .u32 (nk.off.toNat : Int))) = v := ⟨_, rfl⟩
    rw [hw] at hs4 q_s q_n q_t O_s S_n hW q_x hB ⊢
    have sz_w2 := Nat.le_of_eq hs4
    have sy_w2 := Nat.le_of_eq hs4.symm
    clear hw hF hbel hfr hcb hs4
    have HQ := Lib.hid (And.intro q_s (And.intro q_n (And.intro q_t (And.intro O_s (And.intro S_n (And.intro hW (And.intro q_x hB)))))))
    clear q_s q_n q_t O_s S_n hW q_x hB
    have c_q_s0 := LK.cell HQ.out.1 0
    have c_q_s1 := LK.cell HQ.out.1 1
    have c_q_s2 := LK.cell HQ.out.1 2
    have c_q_s3 := LK.cell HQ.out.1 3
    have c_q_n0 := LK.cell HQ.out.2.1 0
    have c_q_n1 := LK.cell HQ.out.2.1 1
    have c_q_t0 := LK.cell HQ.out.2.2.1 0
    have c_q_t1 := LK.cell HQ.out.2.2.1 1
    have c_q_t2 := LK.cell HQ.out.2.2.1 2
    have c_q_x0 := LK.cell HQ.out.2.2.2.2.2.2.1 0
    have c_q_x1 := LK.cell HQ.out.2.2.2.2.2.2.1 1
    have c_q_x2 := LK.cell HQ.out.2.2.2.2.2.2.1 2
    simp at c_q_s0 c_q_s1 c_q_s2 c_q_s3 c_q_n0 c_q_n1 c_q_t0 c_q_t1 c_q_t2 c_q_x0 c_q_x1 c_q_x2
    clear g0 g1 g2
    obtain ⟨f0, f1, f2, f3, -, -, -⟩ := Sl.cellV HQ.out.2.2.2.2.1.v j _ HJ.out.2.1
    have hn5 : rItem.n = 5 := rfl
    rw [hn5] at f0 f1 f2 f3
    simp only [bV, wV, Nat.add_zero] at f0 f1 f2
    clear hn5
    have zz : bb < w2.heap.size := by omega
    replace f0 := fun X => ((aft_below w2 X).cell (p := ⟨bb, bo + j * 5, none⟩) zz).trans f0
    replace f1 := fun X => ((aft_below w2 X).cell (p := ⟨bb, bo + j * 5 + 1, none⟩) zz).trans f1
    replace f2 := fun X => ((aft_below w2 X).cell (p := ⟨bb, bo + j * 5 + 2, none⟩) zz).trans f2
    replace f3 := fun X => ((aft_below w2 X).cell (p := ⟨bb, bo + j * 5 + 3, none⟩) zz).trans f3
    clear zz
    go_upto_region 9 with (fail)
    clear c_q_s0 c_q_s1 c_q_s2 c_q_s3 c_q_n0 c_q_n1 c_q_t0 c_q_t1 c_q_t2 c_q_x0 c_q_x1 c_q_x2
    have x_q_s0 := fun X => LK.cell (HQ.out.1.step (aft_below w2 X)) 0
    have x_q_s1 := fun X => LK.cell (HQ.out.1.step (aft_below w2 X)) 1
    have x_q_s2 := fun X => LK.cell (HQ.out.1.step (aft_below w2 X)) 2
    have x_q_s3 := fun X => LK.cell (HQ.out.1.step (aft_below w2 X)) 3
    have x_q_n0 := fun X => LK.cell (HQ.out.2.1.step (aft_below w2 X)) 0
    have x_q_n1 := fun X => LK.cell (HQ.out.2.1.step (aft_below w2 X)) 1
    have x_q_x0 := fun X => LK.cell (HQ.out.2.2.2.2.2.2.1.step (aft_below w2 X)) 0
    have x_q_x1 := fun X => LK.cell (HQ.out.2.2.2.2.2.2.1.step (aft_below w2 X)) 1
    have x_q_x2 := fun X => LK.cell (HQ.out.2.2.2.2.2.2.1.step (aft_below w2 X)) 2
    simp at x_q_s0 x_q_s1 x_q_s2 x_q_s3 x_q_n0 x_q_n1 x_q_x0 x_q_x1 x_q_x2
    refine wp_region_held_drew (S := Cls w2) (by kernel_rfl) (Cls.drew w2) (fun hCl => ?_)
    refine wpAnyH_seg (fuel := 2) (by kernel_rfl) (fun _ d _ _ _ h => by cases d <;> exact h) hCl [0, 1, 2, 3, 4, 5, 6, 7, 8, 9, 10, 11, 12, 13, 14, 15, 16, 17] _ _ _ (by kernel_rfl) (by kernel_rfl) ?_
    simp only [opsOf_cons, opsOf_nil, consOp_some, List.getElem?_toArray, List.getElem?_cons_succ, List.getElem?_cons_zero]
    repeat (first | go_big_quiet_step (fail) | quiet_step (fail))
    refine wpQuiet_nil ?_
    refine wpAnyH_each (fuel := 1) [18] (by kernel_rfl) (by simp) (by kernel_rfl) ?_
    refine Each.cons _ rfl (fun K' hK => ?_) Each.nil
    go_simp
    refine (HJ.out.2.2.1 _ _ _ _ _ (HQ.out.2.2.2.1.step hCl.below).v).mono ?_
    rintro e z1 ⟨rfl, hb⟩
    have hst := below_step hCl.below hCl.below.size hb
    clear hb
    have hCl := Cls.of hst
    refine hK.out (Cls w2) (fun _ h => h) hCl ?_
    clear hK K'
    refine wpAnyH_seg (fuel := 0) (by kernel_rfl) (fun _ d _ _ _ h => by cases d <;> exact h) hCl [19] _ _ _ (by kernel_rfl) (by kernel_rfl) ?_
    simp only [opsOf_cons, opsOf_nil, consOp_some, List.getElem?_toArray, List.getElem?_cons_succ, List.getElem?_cons_zero]
    repeat (first | go_big_quiet_step (fail) | quiet_step (fail))
    refine wpQuiet_nil ?_
    refine wpAnyH_done (by kernel_rfl) ?_ _
    have hBf := LW.step HQ.out.2.2.2.2.2.2.2 hst
    have hWf := LW.step HQ.out.2.2.2.2.2.1 hst
    clear hst f0 f1 f2 f3 x_q_s0 x_q_s1 x_q_s2 x_q_s3 x_q_n0 x_q_n1 x_q_x0 x_q_x1 x_q_x2
    cases rj
    case false =>
      have hrr := HJ.out.1 rfl
      subst hrr
      go_wp2
      go_ret
      exact ⟨rfl, hBf⟩
    have hal := fun m (hm : m < j + 1) => (Nat.lt_succ_iff_lt_or_eq.1 hm).elim (HALL.out m) (fun e => e ▸ HJ.out.2.2.2)
    have HAL := Lib.hid hal
    clear hal
    go_wp2
    go_roundw
    case rel => exact ⟨j + 1, by omega, by go_num, HAL.out, hWf⟩
    case measure => simp [intOf]; omega
  obtain rfl : j = its.length := by omega
  have hrr := HR.out.1.2 HALL.out
  subst hrr
  go_wp2
  go_ret
  exact ⟨rfl, HQ.out.2.2.2.2.2.2⟩

theorem inn_any : ∀ l, InnC l
  | 0 => inn_step 0 fun _ h => by omega
  | l + 1 => inn_step (l + 1) fun l' h => by
    obtain rfl : l' = l := by omega
    exact rgt_step _ (inn_any _)
end Go.Proofs.Ytcibihakjcenaaa

