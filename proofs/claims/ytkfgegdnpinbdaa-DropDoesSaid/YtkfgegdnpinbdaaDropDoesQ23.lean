/- DropDoes: the words and contracts, part 23. -/
import Derived.Test.YtkfgegdnpinbdaaDropDoesQ1
import Derived.Test.YtkfgegdnpinbdaaDropDoesQ2
import Derived.Test.YtkfgegdnpinbdaaDropDoesQ3
import Derived.Test.YtkfgegdnpinbdaaDropDoesQ4
import Derived.Test.YtkfgegdnpinbdaaDropDoesQ5
import Derived.Test.YtkfgegdnpinbdaaDropDoesQ6
import Derived.Test.YtkfgegdnpinbdaaDropDoesQ7
import Derived.Test.YtkfgegdnpinbdaaDropDoesQ8
import Derived.Test.YtkfgegdnpinbdaaDropDoesQ9
import Derived.Test.YtkfgegdnpinbdaaDropDoesQ10
import Derived.Test.YtkfgegdnpinbdaaDropDoesQ11
import Derived.Test.YtkfgegdnpinbdaaDropDoesQ12
import Derived.Test.YtkfgegdnpinbdaaDropDoesQ13
import Derived.Test.YtkfgegdnpinbdaaDropDoesQ14
import Derived.Test.YtkfgegdnpinbdaaDropDoesQ15
import Derived.Test.YtkfgegdnpinbdaaDropDoesQ16
import Derived.Test.YtkfgegdnpinbdaaDropDoesQ17
import Derived.Test.YtkfgegdnpinbdaaDropDoesQ18
import Derived.Test.YtkfgegdnpinbdaaDropDoesQ19
import Derived.Test.YtkfgegdnpinbdaaDropDoesQ20
import Derived.Test.YtkfgegdnpinbdaaDropDoesQ21
import Derived.Test.YtkfgegdnpinbdaaDropDoesQ22
import Derived.WalkKit
import Derived.WalkLawsBesides
import Derived.WalkSpells
import Derived.Lib.Hide
import Derived.Laws.Rows
import Derived.Laws.AppendOwnNone
import Derived.Maps.AppendAt
import Derived.RangeFuncNested
import Derived.RangeFuncBound
import Derived.RangeFuncCalls
import Derived.RangeFuncLeaves
import Derived.RangeFuncBox
import Derived.Shelf.Abstract
import Derived.Shelf.RegionOpen
import Derived.OwnWalkIn
import Derived.TacticsInMore
import Derived.LoopNIn
import Derived.LoopIn
import Derived.ProofKit
import Derived.Deep.Slices
import Derived.WideShapes
import Derived.OrdersHeld
import Derived.Deep.QuietTactic
import Derived.BigQuiet
import Derived.StillTailTactics
import Derived.OpenShut
import Derived.Lib.SliceRun
import Derived.Lib.AppendZerosOnto
import Derived.Lib.Walk
import Derived.Deep.LoopGhost
import Derived.Laws.CopyOwn
import Derived.Deep.DeepCutAuto
import Derived.Laws.CopyRow
import Derived.Laws.MakeOwn
import Derived.Deep.RegionHeld
import Derived.KernelRfl
import Derived.BigFrameIn
import Derived.OrdersIn
import Derived.Sort.CutIn
import Derived.ArgAppend
namespace Go.Proofs.Ytkfgegdnpinbdaa
open Go.RowKit

set_option linter.unusedSimpArgs false
/-- What Made comes to, in the program's words. -/
theorem made_cases {s : StoreL} {n : NodeL} (hm : mayS s = true) (hn : mayN n = true) : (shE s n.items ≠ 0 ∧ errDm s n = shE s n.items ∧ atD s n = 0 ∧ madS s n = noS) ∨
    (shE s n.items = 0 ∧ mayS (shS s n.items) = true ∧ (shS s n.items).disk = s.disk ∧ (shS s n.items).last = s.last ∧ (blockN n).length = 128 ∧
      ((atR (shS s n.items) < 0 ∧ errDm s n = 9 ∧ atD s n = 0 ∧ madS s n = noS) ∨ (0 ≤ atR (shS s n.items) ∧ errDm s n = 0 ∧ atD s n = atR (shS s n.items) ∧ madS s n = tkR (shS s n.items) (blockN n)))) := by
  have hz : ∀ e : Int, e ≠ 0 → errDm s n = e → atD s n = 0 ∧ madS s n = noS := fun e h1 h2 => by unfold atD madS; rw [h2, if_neg h1, if_neg h1]; exact ⟨rfl, rfl⟩
  have hd : errDm s n = errMk s n := by unfold errDm; rw [hm]; rfl
  have hk : errMk s n = if shE s n.items = 0 then errTk (shS s n.items) (blockN n) else shE s n.items := by unfold errMk; rw [hn]; rfl
  by_cases h0 : shE s n.items = 0
  · rw [if_pos h0] at hk
    obtain ⟨a1, a2, a3, a4⟩ := shS_is s n.items hm (may_refs hn)
    have hb := (back1 hn).2.2
    refine .inr ⟨h0, a1, a2, a3, hb, ?_⟩
    rcases tk_is a1 hb with ⟨b1, b2, b3, b4⟩ | ⟨b1, b2, b3, b4⟩
    · have e : errDm s n = 9 := by rw [hd, hk, b2]
      exact .inl ⟨b1, e, hz 9 (by decide) e⟩
    · have e : errDm s n = 0 := by rw [hd, hk, b2]
      have e2 : errMk s n = 0 := by rw [hk, b2]
      refine .inr ⟨b1, e, ?_, ?_⟩
      · have ht : atTk (shS s n.items) (blockN n) = (headS (shS s n.items) : Int) := by unfold atTk; rw [if_pos b2]
        unfold atD atMk
        rw [if_pos e, if_pos e2, ← ht, b3]
      · unfold madS mkS
        rw [if_pos e, b4]
  · rw [if_neg h0] at hk
    have e : errDm s n = shE s n.items := hd.trans hk
    exact .inl ⟨h0, e, hz _ h0 e⟩
/-- What is hidden of a world: what was made between T and w, and two boxes. -/
def mS (T w : World) (r g k : Nat) : Bool := decide (T.heap.size ≤ k ∧ k < w.heap.size) || (decide (k = r) || decide (k = g))
theorem mS_no {T w : World} {r g k : Nat} (h1 : k < T.heap.size ∨ w.heap.size ≤ k) (h2 : k ≠ r) (h3 : k ≠ g) : mS T w r g k = false := by
  unfold mS
  rw [decide_eq_false (by omega), decide_eq_false h2, decide_eq_false h3]
  rfl
theorem mS_false {T w : World} {r g k : Nat} (h : mS T w r g k = false) : (k < T.heap.size ∨ w.heap.size ≤ k) ∧ k ≠ r ∧ k ≠ g := by
  unfold mS at h
  simp only [Bool.or_eq_false_iff, decide_eq_false_iff_not] at h
  omega
/-- A store whose data lies in T (all of which stays), or in what was made from w on. -/
structure GotU (T w w' : World) (b u x y : Value) (s : StoreL) : Prop where
  store : ∀ W : World, w'.heap.size ≤ W.heap.size → Below T.heap.size T W → (∀ k, w.heap.size ≤ k → k < w'.heap.size → W.heap[k]? = w'.heap[k]?) → StoreV W 0 W.heap.size b u x y s
  below : Below w.heap.size w w'
theorem GotU.got {T w w' : World} {b u x y : Value} {s : StoreL} (h : GotU T w w' b u x y s) (hc : Below T.heap.size T w) (hs : T.heap.size ≤ w.heap.size) : StoreV w' 0 w'.heap.size b u x y s := h.store w' (Nat.le_refl _) (hc.trans (h.below.mono hs)) (fun _ _ _ => rfl)
theorem made_got {T w cur z wx : World} {r g g1 : Nat} {b u x y : Value} {s : StoreL} (F : GotS (hideW cur (mS T w r g1)) cur z b u x y s) (h0 : Below T.heap.size T cur) (_hw : T.heap.size ≤ w.heap.size) (_hwc : w.heap.size ≤ cur.heap.size) (hr : w.heap.size ≤ r) (hrc : r < cur.heap.size)
    (hg : g < cur.heap.size ∨ z.heap.size ≤ g) (hg1 : g1 = g ∨ cur.heap.size ≤ g) (hs : z.heap.size ≤ wx.heap.size) (hx : ∀ k, k < z.heap.size → k ≠ g → wx.heap[k]? = z.heap[k]?) :
    ∀ X : World, wx.heap.size ≤ X.heap.size → Below T.heap.size T X → (∀ k, w.heap.size ≤ k → k < wx.heap.size → k ≠ r → k ≠ g → X.heap[k]? = wx.heap[k]?) → StoreV X 0 X.heap.size b u x y s := by
  intro X hX hTX hk
  have hb := F.below
  refine F.store X (Nat.le_trans hs hX) ?_ (fun k h1 h2 => ?_)
  · have hsub : ∀ k, k < cur.heap.size → mS T w r g1 k = false → X.heap[k]? = cur.heap[k]? := fun k h1 h2 => by
      obtain ⟨a1, a2, a3⟩ := mS_false h2
      rcases a1 with a1 | a1
      · exact (hTX.block k a1).trans (h0.block k a1).symm
      · have hkg : k ≠ g := by omega
        have hkz : k < z.heap.size := Nat.lt_of_lt_of_le h1 hb.size
        exact (hk k a1 (by omega) a2 hkg).trans ((hx k hkz hkg).trans (hb.block k h1))
    exact hide_ckT hsub
  · have hkg : k ≠ g := by omega
    exact (hk k (by omega) (by omega) (by omega) hkg).trans (hx k h2 hkg)
theorem cls_allocM {w X : World} (_ : Cls w X) (o : Obj) : Below X.heap.size X (X.alloc o) := (Below.refl _ _).alloc (Nat.le_refl _) o
theorem cls_newM {w X : World} (_ : Cls w X) (o : Obj) : LK X.heap.size o (X.alloc o) := LK.new X o
theorem nil_gotU {T w z : World} {r : Nat} (hB : LW w z) (h1 : w.heap.size ≤ r) (a1 a2 a3 a4 : Value) :
    GotU T w ((((z.setCell ⟨r, 0, none⟩ a1).setCell ⟨r, 1, none⟩ a2).setCell ⟨r, 2, none⟩ a3).setCell ⟨r, 3, none⟩ a4) (.slice none 0 0) (.slice none 0 0) (.slice none 0 0) (.slice none 0 0) noS := ⟨fun X _ _ _ => storeV_nil X, (nil_four hB h1 a1 a2 a3 a4).2⟩

set_option maxRecDepth 100000 in
set_option maxHeartbeats 4000000 in
theorem rmade_any (b_s u_s x_s y_s : Value) (s : StoreL) (n : NodeL) (u_n : Value) (w T : World) (hT : Below T.heap.size T w) (hsT : T.heap.size ≤ w.heap.size) (hT_s : StoreV T 0 T.heap.size b_s u_s x_s y_s s) (hwn : (Lit.int .i64 n.level).wf = true) (hT_n : Sl rItem T 0 T.heap.size u_n n.items) (hm : mayS s = true) (hn : mayN n = true) :
    Calls Try.prog 65 #[.agg #[b_s, u_s, x_s, y_s], .agg #[.int .i64 n.level, u_n]] w fun e w' => ∃ b' u' x' y', e = .returned (.tuple #[.agg #[b', u', x', y'], .int .i64 (atD s n), .int .i64 (errDm s n)]) ∧ GotU T w w' b' u' x' y' (madS s n) := by
  have hkT : Kp 0 T.heap.size T w := fun b o _ h2 => ⟨hT.cell (p := ⟨b, o, none⟩) h2, hT.frozen (p := ⟨b, o, none⟩) h2⟩
  have h_s : StoreV w 0 w.heap.size b_s u_s x_s y_s s := (hT_s.keep hkT).more (Nat.le_refl _) hsT
  have h_n : (Lit.int .i64 n.level).wf = true ∧ Sl rItem w 0 w.heap.size u_n n.items := ⟨hwn, (hT_n.keep hkT).more (Nat.le_refl _) hsT⟩
  have HT := Lib.hid (And.intro hT (And.intro hsT hT_s))
  clear hT hsT hT_s hT_n hwn hkT
  obtain ⟨ab_s, cb_s, rfl, gb_s, gc_s, -, -⟩ := h_s.1.1
  obtain ⟨au_s, cu_s, rfl, gu_s, gv_s, -, -⟩ := h_s.1.2
  obtain ⟨ax_s, cx_s, rfl, gx_s, gz_s⟩ := h_s.2.1.form rfl
  obtain ⟨ay_s, cy_s, rfl, gy_s, gw_s⟩ := h_s.2.2.form rfl
  unfold maxLen at gc_s gv_s gz_s gw_s
  obtain ⟨hw_n, h_n⟩ := h_n
  obtain ⟨a_n, c_n, rfl, g_n, gm_n, -, -⟩ := id h_n
  unfold maxLen at gm_n
  have hst := ((((Below.refl w.heap.size w).alloc (Nat.le_refl _) (.cells #[.slice ab_s s.disk.blocks.length cb_s, .slice au_s s.disk.waits.length cu_s, .slice ax_s s.now.length cx_s, .slice ay_s s.last.length cy_s] 28)).alloc (by simp) (.cells #[.int .i64 n.level, .slice a_n n.items.length c_n] 47)).alloc (by simp; omega) (.cells #[.slice none 0 0, .slice none 0 0, .slice none 0 0, .slice none 0 0] 28))
  have hq := three_new w (.cells #[.slice ab_s s.disk.blocks.length cb_s, .slice au_s s.disk.waits.length cu_s, .slice ax_s s.now.length cx_s, .slice ay_s s.last.length cy_s] 28) (.cells #[.int .i64 n.level, .slice a_n n.items.length c_n] 47) (.cells #[.slice none 0 0, .slice none 0 0, .slice none 0 0, .slice none 0 0] 28)
  have q_s := LK.of hq.1
  have q_n := LK.of hq.2.1
  have q_r := LK.of hq.2.2
  have hB : LW w _ := hst
  have O_s := (LO.of h_s (Nat.le_refl _)).step hst
  have S_n := (LS.of h_n (Nat.le_refl _)).step hst
  have sz_V : w.heap.size + 2 < (((w.alloc (.cells #[.slice ab_s s.disk.blocks.length cb_s, .slice au_s s.disk.waits.length cu_s, .slice ax_s s.now.length cx_s, .slice ay_s s.last.length cy_s] 28)).alloc (.cells #[.int .i64 n.level, .slice a_n n.items.length c_n] 47)).alloc (.cells #[.slice none 0 0, .slice none 0 0, .slice none 0 0, .slice none 0 0] 28)).heap.size := by simp
  obtain ⟨V, hV⟩ : ∃ V, (((w.alloc (.cells #[.slice ab_s s.disk.blocks.length cb_s, .slice au_s s.disk.waits.length cu_s, .slice ax_s s.now.length cx_s, .slice ay_s s.last.length cy_s] 28)).alloc (.cells #[.int .i64 n.level, .slice a_n n.items.length c_n] 47)).alloc (.cells #[.slice none 0 0, .slice none 0 0, .slice none 0 0, .slice none 0 0] 28)) = V := ⟨_, rfl⟩
  rw [hV] at sz_V q_s q_n q_r O_s S_n hB
  clear hst h_s h_n hq
  have HQ := Lib.hid (And.intro q_s (And.intro q_n (And.intro q_r (And.intro O_s (And.intro S_n hB)))))
  clear q_s q_n q_r O_s S_n hB
  have c_q_s0 := LK.cell HQ.out.1 0
  have c_q_s1 := LK.cell HQ.out.1 1
  have c_q_s2 := LK.cell HQ.out.1 2
  have c_q_s3 := LK.cell HQ.out.1 3
  have c_q_n0 := LK.cell HQ.out.2.1 0
  have c_q_n1 := LK.cell HQ.out.2.1 1
  have c_q_r0 := LK.cell HQ.out.2.2.1 0
  have c_q_r1 := LK.cell HQ.out.2.2.1 1
  have c_q_r2 := LK.cell HQ.out.2.2.1 2
  have c_q_r3 := LK.cell HQ.out.2.2.1 3
  simp at c_q_s0 c_q_s1 c_q_s2 c_q_s3 c_q_n0 c_q_n1 c_q_r0 c_q_r1 c_q_r2 c_q_r3
  have hC := made_cases hm hn
  have h256 := mayT_len (mayS_iff.1 hm).2.1
  have hrf := may_refs hn
  have k_c := fun V b u x y v hh hv => rcounted_any b u x y s n v V hh ⟨hw_n, hv⟩ h256 hrf
  have k_b := fun V v hv => rnblock_any n v V hv hn
  have k_t := fun (S : StoreL) V T2 b u x y v hc hs h1 h2 h3 => rstaken_T b u x y S v (blockN n) V T2 hc hs h1 h2 h3
  generalize blockN n = BL at *
  generalize errDm s n = ed at *
  generalize atD s n = ad at *
  generalize madS s n = ms at *
  generalize shE s n.items = se at *
  generalize shS s n.items = S at *
  have HC0 := Lib.hid hC
  clear hC h256 hrf hm hn hw_n
  have HC := Lib.hid (And.intro k_c (And.intro k_b k_t))
  clear k_c k_b k_t
  go_enter Try.func65, Try.ntmps65
  go_upto_region 1 with (fail)
  clear hV
  rcases HC0.out with ⟨h0, rfl, rfl, rfl⟩ | ⟨h0, hS, hSd, hSl, hbl, hC⟩
  case inl =>
    go_wp2_with fail
    refine (HC.out.1 _ _ _ _ _ _ HQ.out.2.2.2.1.v HQ.out.2.2.2.2.1.v).mono ?_
    rintro e w1 ⟨b1, u1, x1, y1, rfl, hst, -, hnz⟩
    clear c_q_s0 c_q_s1 c_q_s2 c_q_s3 c_q_n0 c_q_n1 c_q_r0 c_q_r1 c_q_r2 c_q_r3
    obtain ⟨q_s, q_n, q_r, O_s, S_n, hB⟩ := HQ.out
    clear HQ
    obtain ⟨rfl, rfl, rfl, rfl⟩ := hnz h0
    have sz_w1 : V.heap.size ≤ w1.heap.size := hst.size
    replace q_s := q_s.step hst
    replace q_n := q_n.step hst
    replace q_r := q_r.step hst
    replace O_s := O_s.step hst
    replace S_n := S_n.step hst
    replace hB := hB.step hst
    clear hst
    have HQ := Lib.hid (And.intro q_s (And.intro q_n (And.intro q_r (And.intro O_s (And.intro S_n hB)))))
    clear q_s q_n q_r O_s S_n hB
    have c_q_s0 := LK.cell HQ.out.1 0
    have c_q_s1 := LK.cell HQ.out.1 1
    have c_q_s2 := LK.cell HQ.out.1 2
    have c_q_s3 := LK.cell HQ.out.1 3
    have c_q_n0 := LK.cell HQ.out.2.1 0
    have c_q_n1 := LK.cell HQ.out.2.1 1
    have c_q_r0 := LK.cell HQ.out.2.2.1 0
    have c_q_r1 := LK.cell HQ.out.2.2.1 1
    have c_q_r2 := LK.cell HQ.out.2.2.1 2
    have c_q_r3 := LK.cell HQ.out.2.2.1 3
    simp at c_q_s0 c_q_s1 c_q_s2 c_q_s3 c_q_n0 c_q_n1 c_q_r0 c_q_r1 c_q_r2 c_q_r3
    go_upto_region 2 with (fail)
    clear c_q_s0 c_q_s1 c_q_s2 c_q_s3 c_q_n0 c_q_n1 c_q_r0 c_q_r1 c_q_r2 c_q_r3
    obtain ⟨q_s, q_n, q_r, O_s, S_n, hB⟩ := HQ.out
    clear HQ
    have hst := (Below.refl w1.heap.size w1).alloc (Nat.le_refl _) (.cells #[.slice none 0 0, .slice none 0 0, .slice none 0 0, .slice none 0 0] 28)
    have hlt : w1.heap.size < (w1.alloc (.cells #[.slice none 0 0, .slice none 0 0, .slice none 0 0, .slice none 0 0] 28)).heap.size := by simp
    have q_t := LK.new w1 (.cells #[.slice none 0 0, .slice none 0 0, .slice none 0 0, .slice none 0 0] 28)
    replace q_s := q_s.step hst
    replace q_n := q_n.step hst
    replace q_r := q_r.step hst
    replace O_s := O_s.step hst
    replace S_n := S_n.step hst
    replace hB := hB.step hst
    obtain ⟨w2, hw⟩ : ∃ v, w1.alloc (.cells #[.slice none 0 0, .slice none 0 0, .slice none 0 0, .slice none 0 0] 28) = v := ⟨_, rfl⟩
    rw [hw] at hlt q_t q_s q_n q_r O_s S_n hB ⊢
    clear hw hst
    have sz_w2 := hlt
    clear hlt
    have HQ := Lib.hid (And.intro q_s (And.intro q_n (And.intro q_r (And.intro O_s (And.intro S_n (And.intro q_t hB))))))
    clear q_s q_n q_r O_s S_n q_t hB
    have c_q_s0 := LK.cell HQ.out.1 0
    have c_q_s1 := LK.cell HQ.out.1 1
    have c_q_s2 := LK.cell HQ.out.1 2
    have c_q_s3 := LK.cell HQ.out.1 3
    have c_q_n0 := LK.cell HQ.out.2.1 0
    have c_q_n1 := LK.cell HQ.out.2.1 1
    have c_q_r0 := LK.cell HQ.out.2.2.1 0
    have c_q_r1 := LK.cell HQ.out.2.2.1 1
    have c_q_r2 := LK.cell HQ.out.2.2.1 2
    have c_q_r3 := LK.cell HQ.out.2.2.1 3
    have c_q_t0 := LK.cell HQ.out.2.2.2.2.2.1 0
    have c_q_t1 := LK.cell HQ.out.2.2.2.2.2.1 1
    have c_q_t2 := LK.cell HQ.out.2.2.2.2.2.1 2
    have c_q_t3 := LK.cell HQ.out.2.2.2.2.2.1 3
    simp at c_q_s0 c_q_s1 c_q_s2 c_q_s3 c_q_n0 c_q_n1 c_q_r0 c_q_r1 c_q_r2 c_q_r3 c_q_t0 c_q_t1 c_q_t2 c_q_t3
    have i1 : (ed != 0) = true := by simp [h0]
    clear c_q_s0 c_q_s1 c_q_s2 c_q_s3 c_q_n0 c_q_n1 c_q_r0 c_q_r1 c_q_r2 c_q_r3 c_q_t0 c_q_t1 c_q_t2 c_q_t3
    have c_q_r0 := LK.cell HQ.out.2.2.1 0
    have c_q_r1 := LK.cell HQ.out.2.2.1 1
    have c_q_r2 := LK.cell HQ.out.2.2.1 2
    have c_q_r3 := LK.cell HQ.out.2.2.1 3
    have z_q_r0 := LK.frozen HQ.out.2.2.1 0
    have z_q_r1 := LK.frozen HQ.out.2.2.1 1
    have z_q_r2 := LK.frozen HQ.out.2.2.1 2
    have z_q_r3 := LK.frozen HQ.out.2.2.1 3
    simp at c_q_r0 c_q_r1 c_q_r2 c_q_r3
    have hBf := HQ.out.2.2.2.2.2.2
    go_wp2
    refine bodyPost_ret (v := .tuple #[.agg #[.slice none 0 0, .slice none 0 0, .slice none 0 0, .slice none 0 0], .int .i64 0, .int .i64 ed]) (by simp [results, Try.results65, go_sem, c_q_r0, c_q_r1, c_q_r2, c_q_r3]) rfl ⟨_, _, _, _, rfl, nil_gotU hBf (by omega) _ _ _ _⟩
  case inr =>
  subst h0
  obtain ⟨Sd, N, Sl_⟩ := S
  dsimp only at hSd hSl
  subst hSd hSl
  have hN := mayT_len (mayS_iff.1 hS).2.1
  have HS0 := Lib.hid (And.intro hS (And.intro hbl hN))
  clear hS hbl hN
  go_wp2_with fail
  refine (HC.out.1 _ _ _ _ _ _ HQ.out.2.2.2.1.v HQ.out.2.2.2.2.1.v).mono ?_
  rintro e w1 ⟨b1, u1, x1, y1, rfl, hst, hz, -⟩
  clear c_q_s0 c_q_s1 c_q_s2 c_q_s3 c_q_n0 c_q_n1 c_q_r0 c_q_r1 c_q_r2 c_q_r3
  obtain ⟨q_s, q_n, q_r, O_s, S_n, hB⟩ := HQ.out
  clear HQ
  obtain ⟨rfl, rfl, rfl, hb⟩ := hz (by trivial)
  have B_x := LB.of hb (Nat.le_refl _)
  obtain ⟨ax_t, cx_t, rfl, -, -⟩ := hb.form rfl
  clear hb
  have sz_w1 : V.heap.size ≤ w1.heap.size := hst.size
  replace q_s := q_s.step hst
  replace q_n := q_n.step hst
  replace q_r := q_r.step hst
  replace O_s := O_s.step hst
  replace S_n := S_n.step hst
  replace hB := hB.step hst
  clear hst
  have HQ := Lib.hid (And.intro q_s (And.intro q_n (And.intro q_r (And.intro O_s (And.intro S_n (And.intro B_x hB))))))
  clear q_s q_n q_r O_s S_n B_x hB
  have c_q_s0 := LK.cell HQ.out.1 0
  have c_q_s1 := LK.cell HQ.out.1 1
  have c_q_s2 := LK.cell HQ.out.1 2
  have c_q_s3 := LK.cell HQ.out.1 3
  have c_q_n0 := LK.cell HQ.out.2.1 0
  have c_q_n1 := LK.cell HQ.out.2.1 1
  have c_q_r0 := LK.cell HQ.out.2.2.1 0
  have c_q_r1 := LK.cell HQ.out.2.2.1 1
  have c_q_r2 := LK.cell HQ.out.2.2.1 2
  have c_q_r3 := LK.cell HQ.out.2.2.1 3
  simp at c_q_s0 c_q_s1 c_q_s2 c_q_s3 c_q_n0 c_q_n1 c_q_r0 c_q_r1 c_q_r2 c_q_r3
  go_upto_region 2 with (fail)
  clear c_q_s0 c_q_s1 c_q_s2 c_q_s3 c_q_n0 c_q_n1 c_q_r0 c_q_r1 c_q_r2 c_q_r3
  obtain ⟨q_s, q_n, q_r, O_s, S_n, B_x, hB⟩ := HQ.out
  clear HQ
  have hst := (Below.refl w1.heap.size w1).alloc (Nat.le_refl _) (.cells #[.slice ab_s s.disk.blocks.length cb_s, .slice au_s s.disk.waits.length cu_s, .slice ax_t N.length cx_t, .slice ay_s s.last.length cy_s] 28)
  have hlt : w1.heap.size < (w1.alloc (.cells #[.slice ab_s s.disk.blocks.length cb_s, .slice au_s s.disk.waits.length cu_s, .slice ax_t N.length cx_t, .slice ay_s s.last.length cy_s] 28)).heap.size := by simp
  have q_t := LK.new w1 (.cells #[.slice ab_s s.disk.blocks.length cb_s, .slice au_s s.disk.waits.length cu_s, .slice ax_t N.length cx_t, .slice ay_s s.last.length cy_s] 28)
  replace q_s := q_s.step hst
  replace q_n := q_n.step hst
  replace q_r := q_r.step hst
  replace O_s := O_s.step hst
  replace S_n := S_n.step hst
  replace B_x := B_x.step hst
  replace hB := hB.step hst
  obtain ⟨w2, hw⟩ : ∃ v, w1.alloc (.cells #[.slice ab_s s.disk.blocks.length cb_s, .slice au_s s.disk.waits.length cu_s, .slice ax_t N.length cx_t, .slice ay_s s.last.length cy_s] 28) = v := ⟨_, rfl⟩
  rw [hw] at hlt q_t q_s q_n q_r O_s S_n B_x hB ⊢
  clear hw hst
  have sz_w2 := hlt
  clear hlt
  have HQ := Lib.hid (And.intro q_s (And.intro q_n (And.intro q_r (And.intro O_s (And.intro S_n (And.intro B_x (And.intro q_t hB)))))))
  clear q_s q_n q_r O_s S_n B_x q_t hB
  have c_q_s0 := LK.cell HQ.out.1 0
  have c_q_s1 := LK.cell HQ.out.1 1
  have c_q_s2 := LK.cell HQ.out.1 2
  have c_q_s3 := LK.cell HQ.out.1 3
  have c_q_n0 := LK.cell HQ.out.2.1 0
  have c_q_n1 := LK.cell HQ.out.2.1 1
  have c_q_r0 := LK.cell HQ.out.2.2.1 0
  have c_q_r1 := LK.cell HQ.out.2.2.1 1
  have c_q_r2 := LK.cell HQ.out.2.2.1 2
  have c_q_r3 := LK.cell HQ.out.2.2.1 3
  have c_q_t0 := LK.cell HQ.out.2.2.2.2.2.2.1 0
  have c_q_t1 := LK.cell HQ.out.2.2.2.2.2.2.1 1
  have c_q_t2 := LK.cell HQ.out.2.2.2.2.2.2.1 2
  have c_q_t3 := LK.cell HQ.out.2.2.2.2.2.2.1 3
  simp at c_q_s0 c_q_s1 c_q_s2 c_q_s3 c_q_n0 c_q_n1 c_q_r0 c_q_r1 c_q_r2 c_q_r3 c_q_t0 c_q_t1 c_q_t2 c_q_t3
  obtain ⟨ta, hta⟩ : ∃ q, atR ⟨s.disk, N, s.last⟩ = q := ⟨_, rfl⟩
  obtain ⟨TS, hTS⟩ : ∃ q, tkR ⟨s.disk, N, s.last⟩ BL = q := ⟨_, rfl⟩
  rw [hta, hTS] at hC
  have k_t := HC.out.2.2 ⟨s.disk, N, s.last⟩
  rw [hta, hTS] at k_t
  have KT := Lib.hid k_t
  have HC1 := Lib.hid hC
  clear k_t hC hta hTS
  go_upto_region 4 with (fail)
  go_cut [9, 10] (fun t1 t2 wx => ∃ (g : Nat) (a1 a2 a3 a4 : Option Addr) (c1 c2 c3 c4 : Nat), t1 = .pointer (some ⟨g, 0, none⟩) ∧ t2 = .int .i64 ta ∧ LK g (.cells #[.slice a1 TS.disk.blocks.length c1, .slice a2 TS.disk.waits.length c2, .slice a3 TS.now.length c3, .slice a4 TS.last.length c4] 28) wx ∧ w2.heap.size ≤ g ∧ (∀ X : World, wx.heap.size ≤ X.heap.size → Below T.heap.size T X → (∀ k, w.heap.size ≤ k → k < wx.heap.size → k ≠ (w.heap.size + 2) → k ≠ g → X.heap[k]? = wx.heap[k]?) → StoreV X 0 X.heap.size (.slice a1 TS.disk.blocks.length c1) (.slice a2 TS.disk.waits.length c2) (.slice a3 TS.now.length c3) (.slice a4 TS.last.length c4) TS) ∧ Below w2.heap.size w2 wx)
  case first =>
    clear c_q_s0 c_q_s1 c_q_s2 c_q_s3 c_q_n0 c_q_n1 c_q_r0 c_q_r1 c_q_r2 c_q_r3 c_q_t0 c_q_t1 c_q_t2 c_q_t3
    have x_t0 := fun X => LK.cell (HQ.out.2.2.2.2.2.2.1.step (aft_below w2 X)) 0
    have x_t1 := fun X => LK.cell (HQ.out.2.2.2.2.2.2.1.step (aft_below w2 X)) 1
    have x_t2 := fun X => LK.cell (HQ.out.2.2.2.2.2.2.1.step (aft_below w2 X)) 2
    have x_t3 := fun X => LK.cell (HQ.out.2.2.2.2.2.2.1.step (aft_below w2 X)) 3
    have x_n0 := fun X => LK.cell (HQ.out.2.1.step (aft_below w2 X)) 0
    have x_n1 := fun X => LK.cell (HQ.out.2.1.step (aft_below w2 X)) 1
    simp at x_t0 x_t1 x_t2 x_t3 x_n0 x_n1
    have hdr : w2.drew.heap.size = w2.heap.size := rfl
    have hTw := HT.out.2.1
    refine wp_region_held_drew (S := Cls w2) (by kernel_rfl) (Cls.drew w2) (fun hCl => ?_)
    refine wpAnyH_seg (fuel := 8) (by kernel_rfl) (fun _ d _ _ _ h => by cases d <;> exact h) hCl [0, 1] _ _ _ (by kernel_rfl) (by kernel_rfl) ?_
    simp only [opsOf_cons, opsOf_nil, consOp_some, List.getElem?_toArray, List.getElem?_cons_succ, List.getElem?_cons_zero]
    repeat (first | go_big_quiet_step (fail) | quiet_step (fail))
    refine wpQuiet_nil ?_
    refine wpAnyH_each (fuel := 7) [2, 7] (by kernel_rfl) (by simp) (by kernel_rfl) ?_
    refine Each.cons _ rfl (fun K' hK => ?_) ?_
    · go_simp
      refine (HC.out.2.1 _ _ (HQ.out.2.2.2.2.1.step hCl.below).v).mono ?_
      rintro e z1 ⟨u5, rfl, hm⟩
      have hs := hm.below
      obtain ⟨a5, c5, rfl, -, -⟩ := hm.bytes.form rfl
      have F2 := LM.of hm
      have sz_z1 : (w2.drew).heap.size ≤ z1.heap.size := hs.size
      have hst := below_step hCl.below hCl.below.size hs
      clear hs hm
      have hCl := Cls.of hst
      refine hK.out (Cls w2) (fun _ h => h) hCl ?_
      clear hK K'
      refine wpAnyH_each (fuel := 6) [3, 7] (by kernel_rfl) (by simp) (by kernel_rfl) ?_
      refine Each.cons _ rfl (fun K' hK => ?_) ?_
      · have hTc : Below T.heap.size T (z1) := HT.out.1.trans ((HQ.out.2.2.2.2.2.2.2.trans (hCl.below.mono (Below.size HQ.out.2.2.2.2.2.2.2))).mono HT.out.2.1)
        have hT0 : ∀ k, k < T.heap.size → (hideW (z1) (mS T w (w.heap.size + 2) ((w.heap.size + 2)))).heap[k]? = T.heap[k]? := fun k hk => (hideW_get _ _ _ (mS_no (.inl hk) (by have := HT.out.2.1; omega) (by have := HT.out.2.1; omega))).trans (hTc.block k hk)
        have hkT : Kp 0 T.heap.size T (hideW (z1) (mS T w (w.heap.size + 2) ((w.heap.size + 2)))) := fun b o _ h2 => ⟨heap_cell (hT0 b h2) o, heap_frozen (hT0 b h2) o⟩
        have szT : T.heap.size ≤ (hideW (z1) (mS T w (w.heap.size + 2) ((w.heap.size + 2)))).heap.size := by rw [hide_sizeT]; have := HT.out.2.1; omega
        have hBx := HQ.out.2.2.2.2.2.1.step hCl.below
        have hb1 := hBx.2 (hideW (z1) (mS T w (w.heap.size + 2) ((w.heap.size + 2)))) (fun k h1 h2 => hideW_get _ _ _ (mS_no (.inr (by omega)) (by omega) (by omega)))
        have hb2 := (F2.2 (hideW (z1) (mS T w (w.heap.size + 2) ((w.heap.size + 2)))) (fun k h1 h2 => hideW_get _ _ _ (mS_no (.inr (by omega)) (by omega) (by omega)))).1
        have hq1 := Lv.hi_le hBx
        have hq2 := Lv.hi_le F2
        have hst0 : StoreV (hideW (z1) (mS T w (w.heap.size + 2) ((w.heap.size + 2)))) 0 (hideW (z1) (mS T w (w.heap.size + 2) ((w.heap.size + 2)))).heap.size (.slice ab_s s.disk.blocks.length cb_s) (.slice au_s s.disk.waits.length cu_s) (.slice ax_t N.length cx_t) (.slice ay_s s.last.length cy_s) ⟨s.disk, N, s.last⟩ := ⟨((HT.out.2.2.keep hkT).more (Nat.le_refl _) szT).1, hb1.more (Nat.zero_le _) (by rw [hide_sizeT]; omega), ((HT.out.2.2.keep hkT).more (Nat.le_refl _) szT).2.2⟩
        have hck : CKc (hideW (z1) (mS T w (w.heap.size + 2) ((w.heap.size + 2)))) (z1) := hide_ckT fun _ _ _ => rfl
        go_simp
        refine (KT.out _ (hideW (z1) (mS T w (w.heap.size + 2) ((w.heap.size + 2)))) _ _ _ _ _ hck (by rw [hide_sizeT]; exact Nat.le_refl _) hst0 (hb2.more (Nat.zero_le _) (by rw [hide_sizeT]; omega)) HS0.out.1).mono ?_
        rintro e z2 ⟨b6, u6, x6, y6, rfl, hg⟩
        have hs := hg.below
        have hv := hg.got hck
        obtain ⟨ab_g, cb_g, rfl, -, -, -, -⟩ := hv.1.1
        obtain ⟨au_g, cu_g, rfl, -, -, -, -⟩ := hv.1.2
        obtain ⟨ax_g, cx_g, rfl, -, -⟩ := hv.2.1.form rfl
        obtain ⟨ay_g, cy_g, rfl, -, -⟩ := hv.2.2.form rfl
        have HG := Lib.hid (And.intro hg hTc)
        clear hg hv hTc hT0 hkT szT hBx hb1 hb2 hq1 hq2 hst0 hck
        replace F2 := F2.step hs
        have sz_z2 : (z1).heap.size ≤ z2.heap.size := hs.size
        have hst := below_step hCl.below hCl.below.size hs
        clear hs
        have hCl := Cls.of hst
        refine hK.out (Cls w2) (fun _ h => h) hCl ?_
        clear hK K'
        refine wpAnyH_seg (fuel := 3) (by kernel_rfl) (fun _ d _ _ _ h => by cases d <;> exact h) hCl [4, 5, 6] _ _ _ (by kernel_rfl) (by kernel_rfl) ?_
        simp only [opsOf_cons, opsOf_nil, consOp_some, List.getElem?_toArray, List.getElem?_cons_succ, List.getElem?_cons_zero]
        repeat (first | go_big_quiet_step (fail) | quiet_step (fail))
        refine wpQuiet_nil ?_
        refine wpAnyH_each (fuel := 2) [7] (by kernel_rfl) (by simp) (by kernel_rfl) ?_
        refine Each.cons _ rfl (fun K' hK => ?_) Each.nil
        go_simp
        have hs := cls_allocM hCl (.cells #[.slice none 0 0, .slice none 0 0, .slice none 0 0, .slice none 0 0] 28)
        have F7 : LK z2.heap.size (.cells #[.slice none 0 0, .slice none 0 0, .slice none 0 0, .slice none 0 0] 28) _ := cls_newM hCl (.cells #[.slice none 0 0, .slice none 0 0, .slice none 0 0, .slice none 0 0] 28)
        have hlt : z2.heap.size < (z2.alloc (.cells #[.slice none 0 0, .slice none 0 0, .slice none 0 0, .slice none 0 0] 28)).heap.size := by simp
        replace F2 := F2.step hs
        have hst := below_step hCl.below hCl.below.size hs
        have lo_F7 := hCl.below.size
        have hal : ∀ k, k < z2.heap.size → (z2.alloc (.cells #[.slice none 0 0, .slice none 0 0, .slice none 0 0, .slice none 0 0] 28)).heap[k]? = z2.heap[k]? := fun k hk => Below.heap_alloc z2 _ k hk
        obtain ⟨z3, hz⟩ : ∃ v, z2.alloc (.cells #[.slice none 0 0, .slice none 0 0, .slice none 0 0, .slice none 0 0] 28) = v := ⟨_, rfl⟩
        have hz2 : z2.alloc (.cells #[.slice none 0 0, .slice none 0 0, .slice none 0 0, .slice none 0 0] 28) = z3 := hz
        rw [hz] at ⊢
        rw [hz2] at hst hlt F2 F7 hal
        have sz_z3 := hlt
        clear hz hz2 hs hlt
        have HAL := Lib.hid hal
        clear hal
        have hCl := Cls.of hst
        refine hK.out (Cls w2) (fun _ h => h) hCl ?_
        clear hK K'
        refine wpAnyH_each (fuel := 1) [8] (by kernel_rfl) (by simp) (by kernel_rfl) ?_
        refine Each.cons _ rfl (fun K' hK => ?_) Each.nil
        have hcb := LK.blk F7
        have r0 := LK.cell F7 0
        have r1 := LK.cell F7 1
        have r2 := LK.cell F7 2
        have r3 := LK.cell F7 3
        simp at r0 r1 r2 r3
        have s0_ := LK.frozen F7 0
        have s1_ := LK.frozen F7 1
        have s2_ := LK.frozen F7 2
        have s3_ := LK.frozen F7 3
        go_simp
        have F8 : LK (z2.heap.size) (.cells #[.slice ab_g TS.disk.blocks.length cb_g, .slice au_g TS.disk.waits.length cu_g, .slice ax_g TS.now.length cx_g, .slice ay_g TS.last.length cy_g] 28) ((((z3.setCell ⟨z2.heap.size, 0, none⟩ (.slice ab_g TS.disk.blocks.length cb_g)).setCell ⟨z2.heap.size, 1, none⟩ (.slice au_g TS.disk.waits.length cu_g)).setCell ⟨z2.heap.size, 2, none⟩ (.slice ax_g TS.now.length cx_g)).setCell ⟨z2.heap.size, 3, none⟩ (.slice ay_g TS.last.length cy_g)) := LK.of (set_block (set_block (set_block (set_block hcb 0 _) 1 _) 2 _) 3 _)
        obtain ⟨hsx, hso⟩ := four_frame (z3) (z2.heap.size) (.slice ab_g TS.disk.blocks.length cb_g) (.slice au_g TS.disk.waits.length cu_g) (.slice ax_g TS.now.length cx_g) (.slice ay_g TS.last.length cy_g)
        have hgl : z2.heap.size < z3.heap.size := LK.lt F7
        have hst := Below.trans hCl.below ((below_four (n := z2.heap.size) (z3) (.slice ab_g TS.disk.blocks.length cb_g) (.slice au_g TS.disk.waits.length cu_g) (.slice ax_g TS.now.length cx_g) (.slice ay_g TS.last.length cy_g) (Nat.le_refl _)).mono lo_F7)
        have hwc : w.heap.size + 2 < z1.heap.size := by omega
        have hGX := made_got (g := z2.heap.size) (wx := ((((z3.setCell ⟨z2.heap.size, 0, none⟩ (.slice ab_g TS.disk.blocks.length cb_g)).setCell ⟨z2.heap.size, 1, none⟩ (.slice au_g TS.disk.waits.length cu_g)).setCell ⟨z2.heap.size, 2, none⟩ (.slice ax_g TS.now.length cx_g)).setCell ⟨z2.heap.size, 3, none⟩ (.slice ay_g TS.last.length cy_g))) HG.out.1 HG.out.2 HT.out.2.1 (by omega) (by omega) hwc (.inr (Nat.le_refl _)) (.inr (by omega)) (by omega) (fun k h1 h2 => (hso k (by omega) (by omega)).trans (HAL.out k h1))
        have hCl := Cls.of hst
        refine hK.out (Cls w2) (fun _ h => h) hCl ?_
        clear hK K'
        refine wpAnyH_seg (fuel := 0) (by kernel_rfl) (fun _ d _ _ _ h => by cases d <;> exact h) hCl [9] _ _ _ (by kernel_rfl) (by kernel_rfl) ?_
        simp only [opsOf_cons, opsOf_nil, consOp_some, List.getElem?_toArray, List.getElem?_cons_succ, List.getElem?_cons_zero]
        repeat (first | go_big_quiet_step (fail) | quiet_step (fail))
        refine wpQuiet_nil ?_
        refine wpAnyH_done (by kernel_rfl) ?_ _
        go_wp2
        go_meet
        exact ⟨_, _, _, _, _, _, _, _, _, rfl, rfl, F8, lo_F7, hGX, hst⟩
      refine Each.cons _ rfl (fun K' hK => ?_) ?_
      · go_simp
        have hs := cls_allocM hCl (.cells #[.slice none 0 0, .slice none 0 0, .slice none 0 0, .slice none 0 0] 28)
        have F7 : LK z1.heap.size (.cells #[.slice none 0 0, .slice none 0 0, .slice none 0 0, .slice none 0 0] 28) _ := cls_newM hCl (.cells #[.slice none 0 0, .slice none 0 0, .slice none 0 0, .slice none 0 0] 28)
        have hlt : z1.heap.size < (z1.alloc (.cells #[.slice none 0 0, .slice none 0 0, .slice none 0 0, .slice none 0 0] 28)).heap.size := by simp
        replace F2 := F2.step hs
        have hst := below_step hCl.below hCl.below.size hs
        have lo_F7 := hCl.below.size
        obtain ⟨z5, hz⟩ : ∃ v, z1.alloc (.cells #[.slice none 0 0, .slice none 0 0, .slice none 0 0, .slice none 0 0] 28) = v := ⟨_, rfl⟩
        have hz2 : z1.alloc (.cells #[.slice none 0 0, .slice none 0 0, .slice none 0 0, .slice none 0 0] 28) = z5 := hz
        rw [hz] at ⊢
        rw [hz2] at hst hlt F2 F7
        have sz_z5 := hlt
        clear hz hz2 hs hlt
        have hCl := Cls.of hst
        refine hK.out (Cls w2) (fun _ h => h) hCl ?_
        clear hK K'
        refine wpAnyH_each (fuel := 5) [3] (by kernel_rfl) (by simp) (by kernel_rfl) ?_
        refine Each.cons _ rfl (fun K' hK => ?_) Each.nil
        have hTc : Below T.heap.size T (z5) := HT.out.1.trans ((HQ.out.2.2.2.2.2.2.2.trans (hCl.below.mono (Below.size HQ.out.2.2.2.2.2.2.2))).mono HT.out.2.1)
        have hT0 : ∀ k, k < T.heap.size → (hideW (z5) (mS T w (w.heap.size + 2) (z1.heap.size))).heap[k]? = T.heap[k]? := fun k hk => (hideW_get _ _ _ (mS_no (.inl hk) (by have := HT.out.2.1; omega) (by have := HT.out.2.1; omega))).trans (hTc.block k hk)
        have hkT : Kp 0 T.heap.size T (hideW (z5) (mS T w (w.heap.size + 2) (z1.heap.size))) := fun b o _ h2 => ⟨heap_cell (hT0 b h2) o, heap_frozen (hT0 b h2) o⟩
        have szT : T.heap.size ≤ (hideW (z5) (mS T w (w.heap.size + 2) (z1.heap.size))).heap.size := by rw [hide_sizeT]; have := HT.out.2.1; omega
        have hBx := HQ.out.2.2.2.2.2.1.step hCl.below
        have hb1 := hBx.2 (hideW (z5) (mS T w (w.heap.size + 2) (z1.heap.size))) (fun k h1 h2 => hideW_get _ _ _ (mS_no (.inr (by omega)) (by omega) (by omega)))
        have hb2 := (F2.2 (hideW (z5) (mS T w (w.heap.size + 2) (z1.heap.size))) (fun k h1 h2 => hideW_get _ _ _ (mS_no (.inr (by omega)) (by omega) (by omega)))).1
        have hq1 := Lv.hi_le hBx
        have hq2 := Lv.hi_le F2
        have hst0 : StoreV (hideW (z5) (mS T w (w.heap.size + 2) (z1.heap.size))) 0 (hideW (z5) (mS T w (w.heap.size + 2) (z1.heap.size))).heap.size (.slice ab_s s.disk.blocks.length cb_s) (.slice au_s s.disk.waits.length cu_s) (.slice ax_t N.length cx_t) (.slice ay_s s.last.length cy_s) ⟨s.disk, N, s.last⟩ := ⟨((HT.out.2.2.keep hkT).more (Nat.le_refl _) szT).1, hb1.more (Nat.zero_le _) (by rw [hide_sizeT]; omega), ((HT.out.2.2.keep hkT).more (Nat.le_refl _) szT).2.2⟩
        have hck : CKc (hideW (z5) (mS T w (w.heap.size + 2) (z1.heap.size))) (z5) := hide_ckT fun _ _ _ => rfl
        go_simp
        refine (KT.out _ (hideW (z5) (mS T w (w.heap.size + 2) (z1.heap.size))) _ _ _ _ _ hck (by rw [hide_sizeT]; exact Nat.le_refl _) hst0 (hb2.more (Nat.zero_le _) (by rw [hide_sizeT]; omega)) HS0.out.1).mono ?_
        rintro e z6 ⟨b6, u6, x6, y6, rfl, hg⟩
        have hs := hg.below
        have hv := hg.got hck
        obtain ⟨ab_g, cb_g, rfl, -, -, -, -⟩ := hv.1.1
        obtain ⟨au_g, cu_g, rfl, -, -, -, -⟩ := hv.1.2
        obtain ⟨ax_g, cx_g, rfl, -, -⟩ := hv.2.1.form rfl
        obtain ⟨ay_g, cy_g, rfl, -, -⟩ := hv.2.2.form rfl
        have HG := Lib.hid (And.intro hg hTc)
        clear hg hv hTc hT0 hkT szT hBx hb1 hb2 hq1 hq2 hst0 hck
        replace F2 := F2.step hs
        replace F7 := F7.step hs
        have sz_z6 : (z5).heap.size ≤ z6.heap.size := hs.size
        have hst := below_step hCl.below hCl.below.size hs
        clear hs
        have hCl := Cls.of hst
        refine hK.out (Cls w2) (fun _ h => h) hCl ?_
        clear hK K'
        refine wpAnyH_seg (fuel := 2) (by kernel_rfl) (fun _ d _ _ _ h => by cases d <;> exact h) hCl [4, 5, 6] _ _ _ (by kernel_rfl) (by kernel_rfl) ?_
        simp only [opsOf_cons, opsOf_nil, consOp_some, List.getElem?_toArray, List.getElem?_cons_succ, List.getElem?_cons_zero]
        repeat (first | go_big_quiet_step (fail) | quiet_step (fail))
        refine wpQuiet_nil ?_
        refine wpAnyH_each (fuel := 1) [8] (by kernel_rfl) (by simp) (by kernel_rfl) ?_
        refine Each.cons _ rfl (fun K' hK => ?_) Each.nil
        have hcb := LK.blk F7
        have r0 := LK.cell F7 0
        have r1 := LK.cell F7 1
        have r2 := LK.cell F7 2
        have r3 := LK.cell F7 3
        simp at r0 r1 r2 r3
        have s0_ := LK.frozen F7 0
        have s1_ := LK.frozen F7 1
        have s2_ := LK.frozen F7 2
        have s3_ := LK.frozen F7 3
        go_simp
        have F8 : LK (z1.heap.size) (.cells #[.slice ab_g TS.disk.blocks.length cb_g, .slice au_g TS.disk.waits.length cu_g, .slice ax_g TS.now.length cx_g, .slice ay_g TS.last.length cy_g] 28) ((((z6.setCell ⟨z1.heap.size, 0, none⟩ (.slice ab_g TS.disk.blocks.length cb_g)).setCell ⟨z1.heap.size, 1, none⟩ (.slice au_g TS.disk.waits.length cu_g)).setCell ⟨z1.heap.size, 2, none⟩ (.slice ax_g TS.now.length cx_g)).setCell ⟨z1.heap.size, 3, none⟩ (.slice ay_g TS.last.length cy_g)) := LK.of (set_block (set_block (set_block (set_block hcb 0 _) 1 _) 2 _) 3 _)
        obtain ⟨hsx, hso⟩ := four_frame (z6) (z1.heap.size) (.slice ab_g TS.disk.blocks.length cb_g) (.slice au_g TS.disk.waits.length cu_g) (.slice ax_g TS.now.length cx_g) (.slice ay_g TS.last.length cy_g)
        have hgl : z1.heap.size < z6.heap.size := LK.lt F7
        have hst := Below.trans hCl.below ((below_four (n := z1.heap.size) (z6) (.slice ab_g TS.disk.blocks.length cb_g) (.slice au_g TS.disk.waits.length cu_g) (.slice ax_g TS.now.length cx_g) (.slice ay_g TS.last.length cy_g) (Nat.le_refl _)).mono lo_F7)
        have hwc : w.heap.size + 2 < z5.heap.size := by omega
        have hGX := made_got (g := z1.heap.size) (wx := ((((z6.setCell ⟨z1.heap.size, 0, none⟩ (.slice ab_g TS.disk.blocks.length cb_g)).setCell ⟨z1.heap.size, 1, none⟩ (.slice au_g TS.disk.waits.length cu_g)).setCell ⟨z1.heap.size, 2, none⟩ (.slice ax_g TS.now.length cx_g)).setCell ⟨z1.heap.size, 3, none⟩ (.slice ay_g TS.last.length cy_g))) HG.out.1 HG.out.2 HT.out.2.1 (by omega) (by omega) hwc (.inl (by omega)) (.inl rfl) (Nat.le_of_eq hsx.symm) (fun k h1 h2 => hso k h1 (by omega))
        have hCl := Cls.of hst
        refine hK.out (Cls w2) (fun _ h => h) hCl ?_
        clear hK K'
        refine wpAnyH_seg (fuel := 0) (by kernel_rfl) (fun _ d _ _ _ h => by cases d <;> exact h) hCl [9] _ _ _ (by kernel_rfl) (by kernel_rfl) ?_
        simp only [opsOf_cons, opsOf_nil, consOp_some, List.getElem?_toArray, List.getElem?_cons_succ, List.getElem?_cons_zero]
        repeat (first | go_big_quiet_step (fail) | quiet_step (fail))
        refine wpQuiet_nil ?_
        refine wpAnyH_done (by kernel_rfl) ?_ _
        go_wp2
        go_meet
        exact ⟨_, _, _, _, _, _, _, _, _, rfl, rfl, F8, lo_F7, hGX, hst⟩
      exact Each.nil
    refine Each.cons _ rfl (fun K' hK => ?_) ?_
    · go_simp
      have hs := cls_allocM hCl (.cells #[.slice none 0 0, .slice none 0 0, .slice none 0 0, .slice none 0 0] 28)
      have F7 : LK w2.heap.size (.cells #[.slice none 0 0, .slice none 0 0, .slice none 0 0, .slice none 0 0] 28) _ := cls_newM hCl (.cells #[.slice none 0 0, .slice none 0 0, .slice none 0 0, .slice none 0 0] 28)
      have hlt : w2.drew.heap.size < (w2.drew.alloc (.cells #[.slice none 0 0, .slice none 0 0, .slice none 0 0, .slice none 0 0] 28)).heap.size := by simp
      have hst := below_step hCl.below hCl.below.size hs
      have lo_F7 := hCl.below.size
      obtain ⟨z8, hz⟩ : ∃ v, (w2.alloc (.cells #[.slice none 0 0, .slice none 0 0, .slice none 0 0, .slice none 0 0] 28)).drew = v := ⟨_, rfl⟩
      have hz2 : w2.drew.alloc (.cells #[.slice none 0 0, .slice none 0 0, .slice none 0 0, .slice none 0 0] 28) = z8 := hz
      rw [hz] at ⊢
      rw [hz2] at hst hlt F7
      have sz_z8 := hlt
      clear hz hz2 hs hlt
      have hCl := Cls.of hst
      refine hK.out (Cls w2) (fun _ h => h) hCl ?_
      clear hK K'
      refine wpAnyH_each (fuel := 6) [2] (by kernel_rfl) (by simp) (by kernel_rfl) ?_
      refine Each.cons _ rfl (fun K' hK => ?_) Each.nil
      go_simp
      refine (HC.out.2.1 _ _ (HQ.out.2.2.2.2.1.step hCl.below).v).mono ?_
      rintro e z9 ⟨u5, rfl, hm⟩
      have hs := hm.below
      obtain ⟨a5, c5, rfl, -, -⟩ := hm.bytes.form rfl
      replace F7 := F7.step hs
      have F2 := LM.of hm
      have sz_z9 : (z8).heap.size ≤ z9.heap.size := hs.size
      have hst := below_step hCl.below hCl.below.size hs
      clear hs hm
      have hCl := Cls.of hst
      refine hK.out (Cls w2) (fun _ h => h) hCl ?_
      clear hK K'
      refine wpAnyH_each (fuel := 5) [3] (by kernel_rfl) (by simp) (by kernel_rfl) ?_
      refine Each.cons _ rfl (fun K' hK => ?_) Each.nil
      have hTc : Below T.heap.size T (z9) := HT.out.1.trans ((HQ.out.2.2.2.2.2.2.2.trans (hCl.below.mono (Below.size HQ.out.2.2.2.2.2.2.2))).mono HT.out.2.1)
      have hT0 : ∀ k, k < T.heap.size → (hideW (z9) (mS T w (w.heap.size + 2) (w2.heap.size))).heap[k]? = T.heap[k]? := fun k hk => (hideW_get _ _ _ (mS_no (.inl hk) (by have := HT.out.2.1; omega) (by have := HT.out.2.1; omega))).trans (hTc.block k hk)
      have hkT : Kp 0 T.heap.size T (hideW (z9) (mS T w (w.heap.size + 2) (w2.heap.size))) := fun b o _ h2 => ⟨heap_cell (hT0 b h2) o, heap_frozen (hT0 b h2) o⟩
      have szT : T.heap.size ≤ (hideW (z9) (mS T w (w.heap.size + 2) (w2.heap.size))).heap.size := by rw [hide_sizeT]; have := HT.out.2.1; omega
      have hBx := HQ.out.2.2.2.2.2.1.step hCl.below
      have hb1 := hBx.2 (hideW (z9) (mS T w (w.heap.size + 2) (w2.heap.size))) (fun k h1 h2 => hideW_get _ _ _ (mS_no (.inr (by omega)) (by omega) (by omega)))
      have hb2 := (F2.2 (hideW (z9) (mS T w (w.heap.size + 2) (w2.heap.size))) (fun k h1 h2 => hideW_get _ _ _ (mS_no (.inr (by omega)) (by omega) (by omega)))).1
      have hq1 := Lv.hi_le hBx
      have hq2 := Lv.hi_le F2
      have hst0 : StoreV (hideW (z9) (mS T w (w.heap.size + 2) (w2.heap.size))) 0 (hideW (z9) (mS T w (w.heap.size + 2) (w2.heap.size))).heap.size (.slice ab_s s.disk.blocks.length cb_s) (.slice au_s s.disk.waits.length cu_s) (.slice ax_t N.length cx_t) (.slice ay_s s.last.length cy_s) ⟨s.disk, N, s.last⟩ := ⟨((HT.out.2.2.keep hkT).more (Nat.le_refl _) szT).1, hb1.more (Nat.zero_le _) (by rw [hide_sizeT]; omega), ((HT.out.2.2.keep hkT).more (Nat.le_refl _) szT).2.2⟩
      have hck : CKc (hideW (z9) (mS T w (w.heap.size + 2) (w2.heap.size))) (z9) := hide_ckT fun _ _ _ => rfl
      go_simp
      refine (KT.out _ (hideW (z9) (mS T w (w.heap.size + 2) (w2.heap.size))) _ _ _ _ _ hck (by rw [hide_sizeT]; exact Nat.le_refl _) hst0 (hb2.more (Nat.zero_le _) (by rw [hide_sizeT]; omega)) HS0.out.1).mono ?_
      rintro e z10 ⟨b6, u6, x6, y6, rfl, hg⟩
      have hs := hg.below
      have hv := hg.got hck
      obtain ⟨ab_g, cb_g, rfl, -, -, -, -⟩ := hv.1.1
      obtain ⟨au_g, cu_g, rfl, -, -, -, -⟩ := hv.1.2
      obtain ⟨ax_g, cx_g, rfl, -, -⟩ := hv.2.1.form rfl
      obtain ⟨ay_g, cy_g, rfl, -, -⟩ := hv.2.2.form rfl
      have HG := Lib.hid (And.intro hg hTc)
      clear hg hv hTc hT0 hkT szT hBx hb1 hb2 hq1 hq2 hst0 hck
      replace F7 := F7.step hs
      replace F2 := F2.step hs
      have sz_z10 : (z9).heap.size ≤ z10.heap.size := hs.size
      have hst := below_step hCl.below hCl.below.size hs
      clear hs
      have hCl := Cls.of hst
      refine hK.out (Cls w2) (fun _ h => h) hCl ?_
      clear hK K'
      refine wpAnyH_seg (fuel := 2) (by kernel_rfl) (fun _ d _ _ _ h => by cases d <;> exact h) hCl [4, 5, 6] _ _ _ (by kernel_rfl) (by kernel_rfl) ?_
      simp only [opsOf_cons, opsOf_nil, consOp_some, List.getElem?_toArray, List.getElem?_cons_succ, List.getElem?_cons_zero]
      repeat (first | go_big_quiet_step (fail) | quiet_step (fail))
      refine wpQuiet_nil ?_
      refine wpAnyH_each (fuel := 1) [8] (by kernel_rfl) (by simp) (by kernel_rfl) ?_
      refine Each.cons _ rfl (fun K' hK => ?_) Each.nil
      have hcb := LK.blk F7
      have r0 := LK.cell F7 0
      have r1 := LK.cell F7 1
      have r2 := LK.cell F7 2
      have r3 := LK.cell F7 3
      simp at r0 r1 r2 r3
      have s0_ := LK.frozen F7 0
      have s1_ := LK.frozen F7 1
      have s2_ := LK.frozen F7 2
      have s3_ := LK.frozen F7 3
      go_simp
      have F8 : LK (w2.heap.size) (.cells #[.slice ab_g TS.disk.blocks.length cb_g, .slice au_g TS.disk.waits.length cu_g, .slice ax_g TS.now.length cx_g, .slice ay_g TS.last.length cy_g] 28) ((((z10.setCell ⟨w2.heap.size, 0, none⟩ (.slice ab_g TS.disk.blocks.length cb_g)).setCell ⟨w2.heap.size, 1, none⟩ (.slice au_g TS.disk.waits.length cu_g)).setCell ⟨w2.heap.size, 2, none⟩ (.slice ax_g TS.now.length cx_g)).setCell ⟨w2.heap.size, 3, none⟩ (.slice ay_g TS.last.length cy_g)) := LK.of (set_block (set_block (set_block (set_block hcb 0 _) 1 _) 2 _) 3 _)
      obtain ⟨hsx, hso⟩ := four_frame (z10) (w2.heap.size) (.slice ab_g TS.disk.blocks.length cb_g) (.slice au_g TS.disk.waits.length cu_g) (.slice ax_g TS.now.length cx_g) (.slice ay_g TS.last.length cy_g)
      have hgl : w2.heap.size < z10.heap.size := LK.lt F7
      have hst := Below.trans hCl.below ((below_four (n := w2.heap.size) (z10) (.slice ab_g TS.disk.blocks.length cb_g) (.slice au_g TS.disk.waits.length cu_g) (.slice ax_g TS.now.length cx_g) (.slice ay_g TS.last.length cy_g) (Nat.le_refl _)).mono lo_F7)
      have hwc : w.heap.size + 2 < z9.heap.size := by omega
      have hGX := made_got (g := w2.heap.size) (wx := ((((z10.setCell ⟨w2.heap.size, 0, none⟩ (.slice ab_g TS.disk.blocks.length cb_g)).setCell ⟨w2.heap.size, 1, none⟩ (.slice au_g TS.disk.waits.length cu_g)).setCell ⟨w2.heap.size, 2, none⟩ (.slice ax_g TS.now.length cx_g)).setCell ⟨w2.heap.size, 3, none⟩ (.slice ay_g TS.last.length cy_g))) HG.out.1 HG.out.2 HT.out.2.1 (by omega) (by omega) hwc (.inl (by omega)) (.inl rfl) (Nat.le_of_eq hsx.symm) (fun k h1 h2 => hso k h1 (by omega))
      have hCl := Cls.of hst
      refine hK.out (Cls w2) (fun _ h => h) hCl ?_
      clear hK K'
      refine wpAnyH_seg (fuel := 0) (by kernel_rfl) (fun _ d _ _ _ h => by cases d <;> exact h) hCl [9] _ _ _ (by kernel_rfl) (by kernel_rfl) ?_
      simp only [opsOf_cons, opsOf_nil, consOp_some, List.getElem?_toArray, List.getElem?_cons_succ, List.getElem?_cons_zero]
      repeat (first | go_big_quiet_step (fail) | quiet_step (fail))
      refine wpQuiet_nil ?_
      refine wpAnyH_done (by kernel_rfl) ?_ _
      go_wp2
      go_meet
      exact ⟨_, _, _, _, _, _, _, _, _, rfl, rfl, F8, lo_F7, hGX, hst⟩
    exact Each.nil
  case rest =>
  obtain ⟨g, a1, a2, a3, a4, c1, c2, c3, c4, rfl, rfl, q_o, hgW, hGX, hst⟩ := hcut
  obtain ⟨wn, hwn⟩ := named_w hst
  subst hwn
  obtain ⟨wq, hwn⟩ : ∃ v, v = wn := ⟨_, rfl⟩
  subst hwn
  clear c_q_s0 c_q_s1 c_q_s2 c_q_s3 c_q_n0 c_q_n1 c_q_r0 c_q_r1 c_q_r2 c_q_r3 c_q_t0 c_q_t1 c_q_t2 c_q_t3
  obtain ⟨q_s, q_n, q_r, O_s, S_n, B_x, q_t, hB⟩ := HQ.out
  clear HQ
  have sz_wq : w2.heap.size ≤ wq.heap.size := hst.size
  replace q_s := q_s.step hst
  replace q_n := q_n.step hst
  replace q_r := q_r.step hst
  replace O_s := O_s.step hst
  replace S_n := S_n.step hst
  replace B_x := B_x.step hst
  replace q_t := q_t.step hst
  replace hB := hB.step hst
  have HGX := Lib.hid hGX
  clear hst hGX
  have HQ := Lib.hid (And.intro q_s (And.intro q_n (And.intro q_r (And.intro O_s (And.intro S_n (And.intro B_x (And.intro q_t (And.intro q_o hB))))))))
  clear q_s q_n q_r O_s S_n B_x q_t q_o hB
  have c_q_r0 := LK.cell HQ.out.2.2.1 0
  have c_q_r1 := LK.cell HQ.out.2.2.1 1
  have c_q_r2 := LK.cell HQ.out.2.2.1 2
  have c_q_r3 := LK.cell HQ.out.2.2.1 3
  have z_q_r0 := LK.frozen HQ.out.2.2.1 0
  have z_q_r1 := LK.frozen HQ.out.2.2.1 1
  have z_q_r2 := LK.frozen HQ.out.2.2.1 2
  have z_q_r3 := LK.frozen HQ.out.2.2.1 3
  have c_q_o0 := LK.cell HQ.out.2.2.2.2.2.2.2.1 0
  have c_q_o1 := LK.cell HQ.out.2.2.2.2.2.2.2.1 1
  have c_q_o2 := LK.cell HQ.out.2.2.2.2.2.2.2.1 2
  have c_q_o3 := LK.cell HQ.out.2.2.2.2.2.2.2.1 3
  simp at c_q_r0 c_q_r1 c_q_r2 c_q_r3 c_q_o0 c_q_o1 c_q_o2 c_q_o3
  rcases HC1.out with ⟨ht, rfl, rfl, rfl⟩ | ⟨ht, rfl, rfl, rfl⟩
  case inl =>
    skip
    clear z_q_r0 z_q_r1 z_q_r2 z_q_r3 c_q_r0 c_q_r1 c_q_r2 c_q_r3 c_q_o0 c_q_o1 c_q_o2 c_q_o3
    have c_q_r0 := LK.cell HQ.out.2.2.1 0
    have c_q_r1 := LK.cell HQ.out.2.2.1 1
    have c_q_r2 := LK.cell HQ.out.2.2.1 2
    have c_q_r3 := LK.cell HQ.out.2.2.1 3
    have z_q_r0 := LK.frozen HQ.out.2.2.1 0
    have z_q_r1 := LK.frozen HQ.out.2.2.1 1
    have z_q_r2 := LK.frozen HQ.out.2.2.1 2
    have z_q_r3 := LK.frozen HQ.out.2.2.1 3
    simp at c_q_r0 c_q_r1 c_q_r2 c_q_r3
    have hBf := HQ.out.2.2.2.2.2.2.2.2
    go_wp2
    refine bodyPost_ret (v := .tuple #[.agg #[.slice none 0 0, .slice none 0 0, .slice none 0 0, .slice none 0 0], .int .i64 0, .int .i64 9]) (by simp [results, Try.results65, go_sem, c_q_r0, c_q_r1, c_q_r2, c_q_r3]) rfl ⟨_, _, _, _, rfl, nil_gotU hBf (by omega) _ _ _ _⟩
  case inr =>
  have i1 : ¬ ad < 0 := by omega
  clear ht
  have hBf := HQ.out.2.2.2.2.2.2.2.2
  have hgl := LK.lt HQ.out.2.2.2.2.2.2.2.1
  go_wp2
  refine bodyPost_ret (v := .tuple #[.agg #[.slice a1 ms.disk.blocks.length c1, .slice a2 ms.disk.waits.length c2, .slice a3 ms.now.length c3, .slice a4 ms.last.length c4], .int .i64 ad, .int .i64 0]) (by simp [results, Try.results65, go_sem, c_q_r0, c_q_r1, c_q_r2, c_q_r3]) rfl ⟨_, _, _, _, rfl, ⟨fun X hsX hTX hk => ?_, Below.trans hBf (below_four wq _ _ _ _ (by omega))⟩⟩
  obtain ⟨hs, hf⟩ := four_frame wq (w.heap.size + 2) (.slice a1 ms.disk.blocks.length c1) (.slice a2 ms.disk.waits.length c2) (.slice a3 ms.now.length c3) (.slice a4 ms.last.length c4)
  exact HGX.out X (Nat.le_trans (Nat.le_of_eq hs.symm) hsX) hTX (fun k h1 h2 h3 h4 => (hk k h1 (Nat.lt_of_lt_of_le h2 (Nat.le_of_eq hs.symm))).trans (hf k h2 (by omega)))

set_option maxRecDepth 100000 in
set_option maxHeartbeats 1000000 in
theorem rmake_any (b_s u_s x_s y_s : Value) (s : StoreL) (n : NodeL) (u_n : Value) (w : World) (h_s : StoreV w 0 w.heap.size b_s u_s x_s y_s s) (h_n : (Lit.int .i64 n.level).wf = true ∧ Sl rItem w 0 w.heap.size u_n n.items) :
    Calls Try.prog 27 #[.agg #[b_s, u_s, x_s, y_s], .agg #[.int .i64 n.level, u_n]] w fun e w' => ∃ b' u' x' y', e = .returned (.tuple #[.agg #[b', u', x', y'], .int .i64 (atD s n), .int .i64 (errDm s n)]) ∧ StoreV w' 0 w'.heap.size b' u' x' y' (madS s n) ∧ Below w.heap.size w w' := by
  have HT := Lib.hid (And.intro h_s h_n)
  obtain ⟨ab_s, cb_s, rfl, gb_s, gc_s, -, -⟩ := h_s.1.1
  obtain ⟨au_s, cu_s, rfl, gu_s, gv_s, -, -⟩ := h_s.1.2
  obtain ⟨ax_s, cx_s, rfl, gx_s, gz_s⟩ := h_s.2.1.form rfl
  obtain ⟨ay_s, cy_s, rfl, gy_s, gw_s⟩ := h_s.2.2.form rfl
  unfold maxLen at gc_s gv_s gz_s gw_s
  obtain ⟨hw_n, h_n⟩ := h_n
  obtain ⟨a_n, c_n, rfl, g_n, gm_n, -, -⟩ := id h_n
  unfold maxLen at gm_n
  have hst := ((((Below.refl w.heap.size w).alloc (Nat.le_refl _) (.cells #[.slice ab_s s.disk.blocks.length cb_s, .slice au_s s.disk.waits.length cu_s, .slice ax_s s.now.length cx_s, .slice ay_s s.last.length cy_s] 28)).alloc (by simp) (.cells #[.int .i64 n.level, .slice a_n n.items.length c_n] 47)).alloc (by simp; omega) (.cells #[.slice none 0 0, .slice none 0 0, .slice none 0 0, .slice none 0 0] 28))
  have hq := three_new w (.cells #[.slice ab_s s.disk.blocks.length cb_s, .slice au_s s.disk.waits.length cu_s, .slice ax_s s.now.length cx_s, .slice ay_s s.last.length cy_s] 28) (.cells #[.int .i64 n.level, .slice a_n n.items.length c_n] 47) (.cells #[.slice none 0 0, .slice none 0 0, .slice none 0 0, .slice none 0 0] 28)
  have q_s := LK.of hq.1
  have q_n := LK.of hq.2.1
  have q_r := LK.of hq.2.2
  have hB : LW w _ := hst
  have O_s := (LO.of h_s (Nat.le_refl _)).step hst
  have S_n := (LS.of h_n (Nat.le_refl _)).step hst
  have sz_V : w.heap.size + 2 < (((w.alloc (.cells #[.slice ab_s s.disk.blocks.length cb_s, .slice au_s s.disk.waits.length cu_s, .slice ax_s s.now.length cx_s, .slice ay_s s.last.length cy_s] 28)).alloc (.cells #[.int .i64 n.level, .slice a_n n.items.length c_n] 47)).alloc (.cells #[.slice none 0 0, .slice none 0 0, .slice none 0 0, .slice none 0 0] 28)).heap.size := by simp
  obtain ⟨V, hV⟩ : ∃ V, (((w.alloc (.cells #[.slice ab_s s.disk.blocks.length cb_s, .slice au_s s.disk.waits.length cu_s, .slice ax_s s.now.length cx_s, .slice ay_s s.last.length cy_s] 28)).alloc (.cells #[.int .i64 n.level, .slice a_n n.items.length c_n] 47)).alloc (.cells #[.slice none 0 0, .slice none 0 0, .slice none 0 0, .slice none 0 0] 28)) = V := ⟨_, rfl⟩
  rw [hV] at sz_V q_s q_n q_r O_s S_n hB
  clear hst h_s h_n hq
  have HQ := Lib.hid (And.intro q_s (And.intro q_n (And.intro q_r (And.intro O_s (And.intro S_n hB)))))
  clear q_s q_n q_r O_s S_n hB
  have c_q_s0 := LK.cell HQ.out.1 0
  have c_q_s1 := LK.cell HQ.out.1 1
  have c_q_s2 := LK.cell HQ.out.1 2
  have c_q_s3 := LK.cell HQ.out.1 3
  have c_q_n0 := LK.cell HQ.out.2.1 0
  have c_q_n1 := LK.cell HQ.out.2.1 1
  have c_q_r0 := LK.cell HQ.out.2.2.1 0
  have c_q_r1 := LK.cell HQ.out.2.2.1 1
  have c_q_r2 := LK.cell HQ.out.2.2.1 2
  have c_q_r3 := LK.cell HQ.out.2.2.1 3
  simp at c_q_s0 c_q_s1 c_q_s2 c_q_s3 c_q_n0 c_q_n1 c_q_r0 c_q_r1 c_q_r2 c_q_r3
  have h1 : mayS s = false → errDm s n = 8 ∧ atD s n = 0 ∧ madS s n = noS := fun h => by
    have e : errDm s n = 8 := by unfold errDm; rw [h]; rfl
    unfold atD madS
    rw [e]
    exact ⟨rfl, rfl, rfl⟩
  have h2 : mayN n = false → errDm s n = 8 ∧ atD s n = 0 ∧ madS s n = noS := fun h => by
    have e : errDm s n = 8 := by
      unfold errDm errMk
      rw [h]
      cases mayS s <;> rfl
    unfold atD madS
    rw [e]
    exact ⟨rfl, rfl, rfl⟩
  have k_1 := fun V b u x y hh => rsmay_any b u x y s V hh
  have k_2 := fun V v hh => rnmay_any n v V hh
  have k_m := fun V h1 h2 h3 h4 => rmade_any _ _ _ _ s n _ V w h1 h2 HT.out.1 HT.out.2.1 HT.out.2.2 h3 h4
  generalize errDm s n = ed at *
  generalize atD s n = ad at *
  generalize madS s n = ms at *
  generalize mayS s = m1 at *
  generalize mayN n = m2 at *
  have HE := Lib.hid (And.intro h1 h2)
  clear h1 h2 hw_n
  have HC := Lib.hid (And.intro k_1 (And.intro k_2 k_m))
  clear k_1 k_2 k_m
  go_enter Try.func27, Try.ntmps27
  go_upto_region 1 with (fail)
  clear hV
  go_wp2_with fail
  refine (HC.out.1 _ _ _ _ _ HQ.out.2.2.2.1.v).mono ?_
  rintro e w1 ⟨rfl, hst⟩
  clear c_q_s0 c_q_s1 c_q_s2 c_q_s3 c_q_n0 c_q_n1 c_q_r0 c_q_r1 c_q_r2 c_q_r3
  obtain ⟨q_s, q_n, q_r, O_s, S_n, hB⟩ := HQ.out
  clear HQ
  have sz_w1 : V.heap.size ≤ w1.heap.size := hst.size
  replace q_s := q_s.step hst
  replace q_n := q_n.step hst
  replace q_r := q_r.step hst
  replace O_s := O_s.step hst
  replace S_n := S_n.step hst
  replace hB := hB.step hst
  clear hst
  have HQ := Lib.hid (And.intro q_s (And.intro q_n (And.intro q_r (And.intro O_s (And.intro S_n hB)))))
  clear q_s q_n q_r O_s S_n hB
  have c_q_s0 := LK.cell HQ.out.1 0
  have c_q_s1 := LK.cell HQ.out.1 1
  have c_q_s2 := LK.cell HQ.out.1 2
  have c_q_s3 := LK.cell HQ.out.1 3
  have c_q_n0 := LK.cell HQ.out.2.1 0
  have c_q_n1 := LK.cell HQ.out.2.1 1
  have c_q_r0 := LK.cell HQ.out.2.2.1 0
  have c_q_r1 := LK.cell HQ.out.2.2.1 1
  have c_q_r2 := LK.cell HQ.out.2.2.1 2
  have c_q_r3 := LK.cell HQ.out.2.2.1 3
  simp at c_q_s0 c_q_s1 c_q_s2 c_q_s3 c_q_n0 c_q_n1 c_q_r0 c_q_r1 c_q_r2 c_q_r3
  cases m1
  case false =>
    obtain ⟨rfl, rfl, rfl⟩ := HE.out.1 (by trivial)
    clear c_q_s0 c_q_s1 c_q_s2 c_q_s3 c_q_n0 c_q_n1 c_q_r0 c_q_r1 c_q_r2 c_q_r3
    have c_q_r0 := LK.cell HQ.out.2.2.1 0
    have c_q_r1 := LK.cell HQ.out.2.2.1 1
    have c_q_r2 := LK.cell HQ.out.2.2.1 2
    have c_q_r3 := LK.cell HQ.out.2.2.1 3
    have z_q_r0 := LK.frozen HQ.out.2.2.1 0
    have z_q_r1 := LK.frozen HQ.out.2.2.1 1
    have z_q_r2 := LK.frozen HQ.out.2.2.1 2
    have z_q_r3 := LK.frozen HQ.out.2.2.1 3
    simp at c_q_r0 c_q_r1 c_q_r2 c_q_r3
    have hBf := HQ.out.2.2.2.2.2
    go_wp2
    refine bodyPost_ret (v := .tuple #[.agg #[.slice none 0 0, .slice none 0 0, .slice none 0 0, .slice none 0 0], .int .i64 0, .int .i64 8]) (by simp [results, Try.results27, go_sem, c_q_r0, c_q_r1, c_q_r2, c_q_r3]) rfl ⟨_, _, _, _, rfl, nil_four hBf (by omega) _ _ _ _⟩
  go_wp2_with fail
  refine (HC.out.2.1 _ _ HQ.out.2.2.2.2.1.v).mono ?_
  rintro e w2 ⟨rfl, hst⟩
  clear c_q_s0 c_q_s1 c_q_s2 c_q_s3 c_q_n0 c_q_n1 c_q_r0 c_q_r1 c_q_r2 c_q_r3
  obtain ⟨q_s, q_n, q_r, O_s, S_n, hB⟩ := HQ.out
  clear HQ
  have sz_w2 : w1.heap.size ≤ w2.heap.size := hst.size
  replace q_s := q_s.step hst
  replace q_n := q_n.step hst
  replace q_r := q_r.step hst
  replace O_s := O_s.step hst
  replace S_n := S_n.step hst
  replace hB := hB.step hst
  clear hst
  have HQ := Lib.hid (And.intro q_s (And.intro q_n (And.intro q_r (And.intro O_s (And.intro S_n hB)))))
  clear q_s q_n q_r O_s S_n hB
  have c_q_s0 := LK.cell HQ.out.1 0
  have c_q_s1 := LK.cell HQ.out.1 1
  have c_q_s2 := LK.cell HQ.out.1 2
  have c_q_s3 := LK.cell HQ.out.1 3
  have c_q_n0 := LK.cell HQ.out.2.1 0
  have c_q_n1 := LK.cell HQ.out.2.1 1
  have c_q_r0 := LK.cell HQ.out.2.2.1 0
  have c_q_r1 := LK.cell HQ.out.2.2.1 1
  have c_q_r2 := LK.cell HQ.out.2.2.1 2
  have c_q_r3 := LK.cell HQ.out.2.2.1 3
  simp at c_q_s0 c_q_s1 c_q_s2 c_q_s3 c_q_n0 c_q_n1 c_q_r0 c_q_r1 c_q_r2 c_q_r3
  cases m2
  case false =>
    obtain ⟨rfl, rfl, rfl⟩ := HE.out.2 (by trivial)
    clear c_q_s0 c_q_s1 c_q_s2 c_q_s3 c_q_n0 c_q_n1 c_q_r0 c_q_r1 c_q_r2 c_q_r3
    have c_q_r0 := LK.cell HQ.out.2.2.1 0
    have c_q_r1 := LK.cell HQ.out.2.2.1 1
    have c_q_r2 := LK.cell HQ.out.2.2.1 2
    have c_q_r3 := LK.cell HQ.out.2.2.1 3
    have z_q_r0 := LK.frozen HQ.out.2.2.1 0
    have z_q_r1 := LK.frozen HQ.out.2.2.1 1
    have z_q_r2 := LK.frozen HQ.out.2.2.1 2
    have z_q_r3 := LK.frozen HQ.out.2.2.1 3
    simp at c_q_r0 c_q_r1 c_q_r2 c_q_r3
    have hBf := HQ.out.2.2.2.2.2
    go_wp2
    refine bodyPost_ret (v := .tuple #[.agg #[.slice none 0 0, .slice none 0 0, .slice none 0 0, .slice none 0 0], .int .i64 0, .int .i64 8]) (by simp [results, Try.results27, go_sem, c_q_r0, c_q_r1, c_q_r2, c_q_r3]) rfl ⟨_, _, _, _, rfl, nil_four hBf (by omega) _ _ _ _⟩
  go_wp2_with fail
  refine (HC.out.2.2 _ HQ.out.2.2.2.2.2 (Below.size HQ.out.2.2.2.2.2) (by trivial) (by trivial)).mono ?_
  rintro e w3 ⟨b1, u1, x1, y1, rfl, hg⟩
  clear c_q_s0 c_q_s1 c_q_s2 c_q_s3 c_q_n0 c_q_n1 c_q_r0 c_q_r1 c_q_r2 c_q_r3
  obtain ⟨q_s, q_n, q_r, O_s, S_n, hB⟩ := HQ.out
  clear HQ
  have hv := hg.got hB (Below.size hB)
  obtain ⟨ab_t, cb_t, rfl, -, -, -, -⟩ := hv.1.1
  obtain ⟨au_t, cu_t, rfl, -, -, -, -⟩ := hv.1.2
  obtain ⟨ax_t, cx_t, rfl, -, -⟩ := hv.2.1.form rfl
  obtain ⟨ay_t, cy_t, rfl, -, -⟩ := hv.2.2.form rfl
  have hst := hg.below
  have HG := Lib.hid hg
  clear hg hv
  have sz_w3 : w2.heap.size ≤ w3.heap.size := hst.size
  replace q_s := q_s.step hst
  replace q_n := q_n.step hst
  replace q_r := q_r.step hst
  replace O_s := O_s.step hst
  replace S_n := S_n.step hst
  replace hB := hB.step hst
  clear hst
  have HQ := Lib.hid (And.intro q_s (And.intro q_n (And.intro q_r (And.intro O_s (And.intro S_n hB)))))
  clear q_s q_n q_r O_s S_n hB
  have c_q_s0 := LK.cell HQ.out.1 0
  have c_q_s1 := LK.cell HQ.out.1 1
  have c_q_s2 := LK.cell HQ.out.1 2
  have c_q_s3 := LK.cell HQ.out.1 3
  have c_q_n0 := LK.cell HQ.out.2.1 0
  have c_q_n1 := LK.cell HQ.out.2.1 1
  have c_q_r0 := LK.cell HQ.out.2.2.1 0
  have c_q_r1 := LK.cell HQ.out.2.2.1 1
  have c_q_r2 := LK.cell HQ.out.2.2.1 2
  have c_q_r3 := LK.cell HQ.out.2.2.1 3
  have z_q_r0 := LK.frozen HQ.out.2.2.1 0
  have z_q_r1 := LK.frozen HQ.out.2.2.1 1
  have z_q_r2 := LK.frozen HQ.out.2.2.1 2
  have z_q_r3 := LK.frozen HQ.out.2.2.1 3
  simp at c_q_s0 c_q_s1 c_q_s2 c_q_s3 c_q_n0 c_q_n1 c_q_r0 c_q_r1 c_q_r2 c_q_r3
  clear z_q_r0 z_q_r1 z_q_r2 z_q_r3 c_q_s0 c_q_s1 c_q_s2 c_q_s3 c_q_n0 c_q_n1 c_q_r0 c_q_r1 c_q_r2 c_q_r3
  have c_q_r0 := LK.cell HQ.out.2.2.1 0
  have c_q_r1 := LK.cell HQ.out.2.2.1 1
  have c_q_r2 := LK.cell HQ.out.2.2.1 2
  have c_q_r3 := LK.cell HQ.out.2.2.1 3
  have z_q_r0 := LK.frozen HQ.out.2.2.1 0
  have z_q_r1 := LK.frozen HQ.out.2.2.1 1
  have z_q_r2 := LK.frozen HQ.out.2.2.1 2
  have z_q_r3 := LK.frozen HQ.out.2.2.1 3
  simp at c_q_r0 c_q_r1 c_q_r2 c_q_r3
  have hBf := HQ.out.2.2.2.2.2
  go_wp2
  refine bodyPost_ret (v := .tuple #[.agg #[.slice ab_t ms.disk.blocks.length cb_t, .slice au_t ms.disk.waits.length cu_t, .slice ax_t ms.now.length cx_t, .slice ay_t ms.last.length cy_t], .int .i64 ad, .int .i64 ed]) (by simp [results, Try.results27, go_sem, c_q_r0, c_q_r1, c_q_r2, c_q_r3]) rfl ⟨_, _, _, _, rfl, ?_, Below.trans hBf (below_four w3 _ _ _ _ (by omega))⟩
  obtain ⟨hs, hf⟩ := four_frame w3 (w.heap.size + 2) (.slice ab_t ms.disk.blocks.length cb_t) (.slice au_t ms.disk.waits.length cu_t) (.slice ax_t ms.now.length cx_t) (.slice ay_t ms.last.length cy_t)
  refine HG.out.store _ (Nat.le_of_eq hs.symm) (Below.trans hBf (below_four w3 _ _ _ _ (by omega))) (fun k h1 h2 => hf k h2 (by omega))

end Go.Proofs.Ytkfgegdnpinbdaa

