/- DropDoes: the words and contracts, part 19. -/
import Derived.Test.YtkfgegdnpinbdaaDropDoesQ1
import Derived.Test.YtkfgegdnpinbdaaDropDoesQ2
import Derived.Test.YtkfgegdnpinbdaaDropDoesQ3
import Derived.Test.YtkfgegdnpinbdaaDropDoesQ4
import Derived.Test.YtkfgegdnpinbdaaDropDoesQ5
import Derived.Test.YtkfgegdnpinbdaaDropDoesQ6
import Derived.Test.YtkfgegdnpinbdaaDropDoesQ7
import Derived.Test.YtkfgegdnpinbdaaDropDoesQ8
import Derived.Test.YtkfgegdnpinbdaaDropDoesQ10
import Derived.Test.YtkfgegdnpinbdaaDropDoesQ11
import Derived.Test.YtkfgegdnpinbdaaDropDoesQ12
import Derived.Test.YtkfgegdnpinbdaaDropDoesQ13
import Derived.Test.YtkfgegdnpinbdaaDropDoesQ14
import Derived.Test.YtkfgegdnpinbdaaDropDoesQ16
import Derived.Test.YtkfgegdnpinbdaaDropDoesQ17
import Derived.Test.YtkfgegdnpinbdaaDropDoesQ18
import Derived.WalkKit
import Derived.WalkLawsBesides
import Derived.WalkSpells
import Derived.Lib.Hide
import Derived.Laws.Rows
import Derived.Laws.AppendOwnNone
import Derived.Maps.AppendAt
import Derived.ProofKit
import Derived.Deep.Slices
import Derived.WideShapes
import Derived.RangeFuncNested
import Derived.RangeFuncBound
import Derived.RangeFuncCalls
import Derived.RangeFuncLeaves
import Derived.RangeFuncBox
import Derived.Shelf.Abstract
import Derived.Shelf.RegionOpen
import Derived.OwnWalkIn
import Derived.TacticsInMore
import Derived.LoopNIn
import Derived.LoopIn
import Derived.Lib.AppendZerosOnto
import Derived.Lib.SliceRun
import Derived.Lib.Walk
import Derived.Deep.LoopGhost
import Derived.Laws.CopyOwn
import Derived.Laws.CopyRow
import Derived.OrdersHeld
import Derived.Deep.QuietTactic
import Derived.BigQuiet
import Derived.StillTailTactics
import Derived.OpenShut
import Derived.Deep.DeepCutAuto
import Derived.Laws.MakeOwn
import Derived.Deep.RegionHeld
import Derived.KernelRfl
import Derived.BigFrameIn
import Derived.OrdersIn
import Derived.ArgAppend
import Derived.Sort.CutIn
namespace Go.Proofs.Ytkfgegdnpinbdaa
open Go.RowKit

theorem bmake_no (lo g : Nat) (n : NodeL) (v : Value) (w : World) (hlo : lo ≤ w.heap.size) (hit : Sl rItem w 0 lo v n.items) (hm : mayN n = false) :
    Calls Try.prog 62 #[.pointer (some ⟨g, 0, none⟩), .agg #[.int .i64 n.level, v]] w fun e w' => e = .returned (.tuple #[.int .i64 0, .int .i64 8]) ∧ Below w.heap.size w w' := by
  obtain ⟨av, cv, rfl, g1, g2, -, -⟩ := id hit
  have k1 := fun V hh => nwrite_any n (.slice av n.items.length cv) V hh
  rw [hm, show mayE false = 8 from rfl] at k1
  obtain ⟨lv, its⟩ := n
  simp only at *
  have hst := (Below.refl w.heap.size w).alloc (Nat.le_refl _) (.cells #[.int .i64 lv, .slice av its.length cv] 47)
  have qn := LK.new w (.cells #[.int .i64 lv, .slice av its.length cv] 47)
  have hB : LW w _ := hst
  have hS := (LS.of hit hlo).step hst
  obtain ⟨V, hV⟩ : ∃ V, w.alloc (.cells #[.int .i64 lv, .slice av its.length cv] 47) = V := ⟨_, rfl⟩
  rw [hV] at hB hS qn
  have K1 := Lib.hid (k1 V hS.v)
  have q0 := LK.cell qn 0
  have q1 := LK.cell qn 1
  simp at q0 q1
  clear k1 hst hS hit qn hm
  go_enter Try.func62, Try.ntmps62
  go_upto_region 1 with (fail)
  clear hV
  go_wp2_with fail
  refine K1.out.mono ?_
  rintro e w1 ⟨u, rfl, hm⟩
  go_wp2
  go_ret2
  exact ⟨rfl, hB.step hm.below⟩

theorem below_grown {w w' : World} (h : w.grownBy w' none) : Below w.heap.size w w' := (Below.refl w.heap.size w).grown h (Nat.le_refl _) (fun k hk => by cases hk)
/-- append of one write to a full row. -/
theorem wpList_appF {w : World} {ops : Array Oper} {rest : List Oper} {o : Oper} {a : Act} {Q : Exit → Act → World → Prop} (hgd : o.guard = none) (s x : Operand)
    (ho : o.op = .call { callee := .builtin .append, args := #[s, x], argTypes := #[23, 23] }) (ao : Option Addr) (n : Nat) (olds : List Value) (hs : a.eval s = .slice ao n n) (hnone : ao = none → n = 0 ∧ n = 0) (hlo : olds.length = n * 2)
    (holds : ∀ b, ao = some b → ∀ j u, olds[j]? = some u → w.cell? (b.add j) = some u) (g0 : Nat) (k : Int) (a1 : Option Addr) (n1 c1 : Nat) (hx : a.eval x = .slice (some ⟨g0, 0, none⟩) 1 1) (hc : w.heap[g0]? = some (.cells #[.int .i64 k, .slice a1 n1 c1] 92 (0, 0))) (hn : n ≤ 100000)
    (h : ∀ ad cc w', w'.ownsRow w.heap.size 92 2 (.slice ad (n + 1) cc) (n + 1) (olds ++ [.int .i64 k, .slice a1 n1 c1]) → w.grownBy w' none → wpList Try.prog ops Q rest (a.put o.dst (.slice ad (n + 1) cc)) w') : wpList Try.prog ops Q (o :: rest) a w := by
  obtain ⟨i0, hi0, hz0, hz1, hz2⟩ := info_parts (P := Try.prog) (e := 92) (z := .agg #[.int .i64 0, .slice none 0 0]) (size := 2) (bytes := 32) (by kernel_rfl)
  refine wpList_append_grows w hgd s x 23 ho 92 i0 _ 2 32 Try.underlying23 hi0 hz0 hz1 hz2 rfl (by decide) ao n n olds hs hnone hlo holds ⟨g0, 0, none⟩ 1 1 [.int .i64 k, .slice a1 n1 c1] hx rfl (fun j u hj => ?_) (fun u hu => ?_) (by omega) (by unfold maxLen; omega) (by omega) (fun v' w' hown hg => ?_)
  · rw [Addr.add_lit, cell_of_row w g0 (0 + j) _ _ (0, 0) hc, Nat.zero_add]
    simpa using hj
  · simp at hu
    rcases hu with rfl | rfl <;> rfl
  · rcases hown.2 with ⟨rfl, h0⟩ | ⟨g', cap, cur, rfl, -⟩
    · omega
    · exact h _ _ _ hown hg

set_option maxRecDepth 100000 in
set_option maxHeartbeats 2000000 in
theorem bmake_yes (lo g nb no nc : Nat) (b y : Value) (au : Option Addr) (s : StoreL) (n : NodeL) (v : Value) (w : World)
    (h : BenAt w lo g nb no nc b (.slice au s.disk.waits.length s.disk.waits.length) y s) (hms : mayS s = true) (hit : Sl rItem w 0 lo v n.items) (hm : mayN n = true) :
    Calls Try.prog 62 #[.pointer (some ⟨g, 0, none⟩), .agg #[.int .i64 n.level, v]] w fun e w' =>
      e = .returned (.tuple #[.int .i64 (atMk s n), .int .i64 (errMk s n)]) ∧ Below lo w w' ∧ (errMk s n = 0 → ∃ u', BenAt w' lo g nb no nc b u' y (mkS s n)) := by
  obtain ⟨av, cv, rfl, g1, g2, -, -⟩ := id hit
  unfold maxLen at g2
  obtain ⟨l1, l2, l3, l4⟩ := h.lo_
  have k1 := fun V hh => nwrite_any n (.slice av n.items.length cv) V hh
  rw [hm, show mayE true = 0 from rfl] at k1
  have hbl := (back1 hm).2.2
  have HL2 := Lib.hid (mayT_len (mayS_iff.1 hms).2.2)
  have HLW := Lib.hid (may_len (mayS_iff.1 hms).1).2.1
  have hmk := fun h0 => mk_cases hms hm h0 hbl
  have hnx := fun j hj h0 => shE_next s n.items j hj h0
  have hrf := may_refs hm
  have hE8 : shE s n.items ≠ 0 → errMk s n = shE s n.items ∧ atMk s n = 0 := fun h0 => by
    have : errMk s n = shE s n.items := by unfold errMk; rw [hm, if_pos rfl, if_neg h0]
    exact ⟨this, by unfold atMk; rw [this, if_neg h0]⟩
  obtain ⟨blk, hblk⟩ : ∃ x, blockN n = x := ⟨_, rfl⟩
  obtain ⟨em, hem⟩ : ∃ x, errMk s n = x := ⟨_, rfl⟩
  obtain ⟨am, ham⟩ : ∃ x, atMk s n = x := ⟨_, rfl⟩
  obtain ⟨ms, hms2⟩ : ∃ x, mkS s n = x := ⟨_, rfl⟩
  rw [hblk] at k1 hbl
  simp only [hblk, hem, ham, hms2] at hmk hE8 ⊢
  clear hblk hem ham hms2 hms hm
  obtain ⟨lv, its⟩ := n
  simp only at *
  have hst := (Below.refl w.heap.size w).alloc (Nat.le_refl _) (.cells #[.int .i64 lv, .slice av its.length cv] 47)
  have qn := LK.new w (.cells #[.int .i64 lv, .slice av its.length cv] 47)
  have hB : LU lo w _ := ⟨Nat.le_trans (Nat.le_of_lt (Nat.lt_of_le_of_lt l1 l4)) hst.size, hst.mono (Nat.le_of_lt (Nat.lt_of_le_of_lt l1 l4))⟩
  have hS := (LS.of hit (Nat.le_of_lt (Nat.lt_of_le_of_lt l1 l4))).step hst
  have hb := h.step hst
  have sz_V : w.heap.size < (w.alloc (.cells #[.int .i64 lv, .slice av its.length cv] 47)).heap.size := by simp
  have l5 : g < w.heap.size := (Array.getElem?_eq_some_iff.1 h.blk).1
  obtain ⟨V, hV⟩ : ∃ V, w.alloc (.cells #[.int .i64 lv, .slice av its.length cv] 47) = V := ⟨_, rfl⟩
  rw [hV] at hB hS qn sz_V hb
  have HF := Lib.hid (And.intro hmk (And.intro hnx (And.intro hrf (And.intro hE8 hbl))))
  have K1 := Lib.hid k1
  clear h hst k1 hit hmk hnx hrf hE8 hbl
  have HQ := Lib.hid (And.intro qn (And.intro hS (And.intro hb hB)))
  clear qn hS hb hB
  have c_qn0 := LK.cell HQ.out.1 0
  have c_qn1 := LK.cell HQ.out.1 1
  simp at c_qn0 c_qn1
  go_enter Try.func62, Try.ntmps62
  go_upto_region 1 with (fail)
  clear hV
  go_wp2_with fail
  refine (K1.out _ HQ.out.2.1.v).mono ?_
  rintro e w1 ⟨u, rfl, hm⟩
  clear c_qn0 c_qn1
  obtain ⟨qn, hS, hb, hB⟩ := HQ.out
  clear HQ
  have B_u := LM.of hm
  have hst := hm.below
  obtain ⟨a_u, c_u, rfl, -, -⟩ := hm.bytes.form rfl
  clear hm
  have sz_w1 : V.heap.size ≤ w1.heap.size := hst.size
  replace qn := qn.step hst
  replace hS := hS.step hst
  replace hb := hb.step hst
  replace hB := hB.step hst
  clear hst
  have HQ := Lib.hid (And.intro qn (And.intro hS (And.intro hb (And.intro B_u hB))))
  clear qn hS hb B_u hB
  have c_qn0 := LK.cell HQ.out.1 0
  have c_qn1 := LK.cell HQ.out.1 1
  simp at c_qn0 c_qn1
  rw [HF.out.2.2.2.2] at HQ ⊢
  go_wp2_with fail
  go_loopw [21] (fun i wr => ∃ j : Nat, j ≤ its.length ∧ i = .int .i64 j ∧ shE s (its.take j) = 0 ∧ BenAt wr lo g nb no nc b (.slice au s.disk.waits.length s.disk.waits.length) y (shS s (its.take j)) ∧ w1.heap.size ≤ wr.heap.size ∧ (∀ x, x < w1.heap.size → (x < nb ∨ nb + 1 ≤ x) → wr.heap[x]? = w1.heap[x]?) ∧ Below lo w1 wr) (fun i _ => its.length - (intOf i).toNat)
  case atStart => exact ⟨0, Nat.zero_le _, rfl, rfl, HQ.out.2.2.1, Nat.le_refl _, fun _ _ _ => rfl, Below.refl _ _⟩
  case round =>
  obtain ⟨j, hj, rfl, h0, hbr, hsr, hfr, hBr⟩ := hrel
  have wrlo : lo ≤ wr.heap.size := by omega
  clear c_qn0 c_qn1
  obtain ⟨qn, hS, hb, B_u, hB⟩ := HQ.out
  clear HQ
  clear hb
  replace qn := qn.out hsr hfr (by omega)
  replace hS := hS.out hsr hfr (by omega)
  replace B_u := B_u.out hsr hfr (by omega)
  replace hB := hB.outB hBr (Nat.le_refl lo)
  have hb := hbr
  clear hbr
  have HQ := Lib.hid (And.intro qn (And.intro hS (And.intro B_u (And.intro hb hB))))
  clear qn hS B_u hb hB
  have c_qn0 := LK.cell HQ.out.1 0
  have c_qn1 := LK.cell HQ.out.1 1
  simp at c_qn0 c_qn1
  have HR := Lib.hid (And.intro h0 (And.intro hsr (And.intro hfr hBr)))
  clear h0 hfr hBr
  by_cases hlt : j < its.length
  · obtain ⟨bb, bo, cb, e1, -, hbb, -, zc, hcell⟩ := (Lv.get HQ.out.2.1).at_ (by omega)
    injection e1 with e1 _ e2
    subst e1 e2
    obtain ⟨f0, f1, f2, f3, f3w, vx, f4, hvx⟩ := hcell j (its.getD j nokI) (get_l _ _ _ hlt)
    have hrx := HF.out.2.2.1 (its.getD j nokI) (List.mem_of_getElem? (get_l _ _ _ hlt))
    obtain ⟨n1, n2, n3⟩ := HF.out.2.1 j hlt HR.out.1
    obtain ⟨x, hx⟩ : ∃ x, its.getD j nokI = x := ⟨_, rfl⟩
    rw [hx] at f0 f1 f2 f3 hvx hrx n1 n2 n3
    obtain ⟨xn, hxn⟩ : ∃ xn, x.val.length = xn := ⟨_, rfl⟩
    obtain ⟨ax, cx, rfl, -, -⟩ := hvx.form hxn
    obtain ⟨xr, hxr⟩ : ∃ xr : Nat, x.ref = xr := ⟨x.ref.toNat, by omega⟩
    rw [hxr] at f3 hrx n1 n2 n3
    rw [Int.toNat_natCast] at n2 n3
    simp only [bV, wV, Nat.add_zero] at f0 f1 f2 f3 f4
    have hn5 : rItem.n = 5 := rfl
    rw [hn5] at f0 f1 f2 f3 f4
    unfold maxLen at zc
    obtain ⟨S1, hS1⟩ : ∃ S1, shS s (its.take j) = S1 := ⟨_, rfl⟩
    rw [hS1] at HQ n1 n2 n3
    have HN := Lib.hid (And.intro n1 (And.intro n2 n3))
    clear hvx hcell hx hxn hn5 f3w hS1 n1 n2 n3
    obtain ⟨qn, hS, B_u, hb, hB⟩ := HQ.out
    clear HQ
    have hR : LW wr wr := Below.refl _ _
    have HQ := Lib.hid (And.intro qn (And.intro hS (And.intro B_u (And.intro hb (And.intro hR hB)))))
    clear qn hS B_u hb hR hB
    go_upto_region 7 with (fail)
    clear c_qn0 c_qn1
    obtain ⟨qn, hS, B_u, hb, hR, hB⟩ := HQ.out
    clear HQ
    have hst := (Below.refl wr.heap.size wr).alloc (Nat.le_refl _) (.cells #[.int .u8 (x.key.kind.toNat : Int), .int .u32 (x.key.id.toNat : Int), .int .u32 (x.key.off.toNat : Int), .int .i64 xr, .slice ax xn cx] 97)
    have hlt : wr.heap.size < (wr.alloc (.cells #[.int .u8 (x.key.kind.toNat : Int), .int .u32 (x.key.id.toNat : Int), .int .u32 (x.key.off.toNat : Int), .int .i64 xr, .slice ax xn cx] 97)).heap.size := by simp
    have qx := LK.new wr (.cells #[.int .u8 (x.key.kind.toNat : Int), .int .u32 (x.key.id.toNat : Int), .int .u32 (x.key.off.toNat : Int), .int .i64 xr, .slice ax xn cx] 97)
    replace qn := qn.step hst
    replace hS := hS.step hst
    replace B_u := B_u.step hst
    replace hb := hb.step hst
    replace hR := hR.step hst
    replace hB := hB.step hst
    obtain ⟨w2, hw⟩ : ∃ v, wr.alloc (.cells #[.int .u8 (x.key.kind.toNat : Int), .int .u32 (x.key.id.toNat : Int), .int .u32 (x.key.off.toNat : Int), .int .i64 xr, .slice ax xn cx] 97) = v := ⟨_, rfl⟩
    rw [hw] at hlt qx qn hS B_u hb hR hB ⊢
    clear hw hst
    have sz_w2 := hlt
    clear hlt
    have HQ := Lib.hid (And.intro qn (And.intro hS (And.intro B_u (And.intro hb (And.intro hR (And.intro qx hB))))))
    clear qn hS B_u hb hR qx hB
    have c_qn0 := LK.cell HQ.out.1 0
    have c_qn1 := LK.cell HQ.out.1 1
    have c_qx0 := LK.cell HQ.out.2.2.2.2.2.1 0
    have c_qx1 := LK.cell HQ.out.2.2.2.2.2.1 1
    have c_qx2 := LK.cell HQ.out.2.2.2.2.2.1 2
    have c_qx3 := LK.cell HQ.out.2.2.2.2.2.1 3
    have c_qx4 := LK.cell HQ.out.2.2.2.2.2.1 4
    simp at c_qn0 c_qn1 c_qx0 c_qx1 c_qx2 c_qx3 c_qx4
    clear f0 f1 f2 f3 f4
    by_cases hz : xr = 0
    · subst hz
      obtain ⟨m1, m2⟩ := HN.out.1 rfl
      have HM := Lib.hid (And.intro m1 m2)
      clear m1 m2
      go_wp2
      go_roundw
      case rel => exact ⟨j + 1, by omega, by go_num, HM.out.1, by rw [HM.out.2]; exact HQ.out.2.2.2.1, by omega, fun x hx hd => (Below.block HQ.out.2.2.2.2.1 x (by omega)).trans (HR.out.2.2.1 x hx hd), HR.out.2.2.2.trans (Below.mono HQ.out.2.2.2.2.1 (by omega))⟩
      case measure => simp [intOf]; omega
    have i1 : ¬ (xr : Int) = 0 := by omega
    have hp : xr < 256 := by omega
    go_wp2_with fail
    refine (bshare_any lo g nb no nc _ _ _ S1 xr w2 HQ.out.2.2.2.1 hp).mono ?_
    rintro e z ⟨rfl, hb2, hbel, hsz, hfr2⟩
    clear c_qn0 c_qn1 c_qx0 c_qx1 c_qx2 c_qx3 c_qx4
    have hB2 := LU.outB HQ.out.2.2.2.2.2.2 hbel (Nat.le_refl lo)
    have HZ := Lib.hid (And.intro hb2 (And.intro hB2 (And.intro hbel (And.intro hsz hfr2))))
    clear hb2 hB2 hbel hsz hfr2
    obtain ⟨er, her⟩ : ∃ e, errBs S1 xr = e := ⟨_, rfl⟩
    rw [her] at HN ⊢
    clear her
    by_cases he : er = 0
    · subst he
      obtain ⟨m1, m2⟩ := HN.out.2.1 i1 rfl
      have HM := Lib.hid (And.intro m1 m2)
      clear m1 m2
      go_wp2
      go_roundw
      case rel => exact ⟨j + 1, by omega, by go_num, HM.out.1, by rw [HM.out.2]; exact HZ.out.1, by have := HZ.out.2.2.2.1; omega, fun x hx hd => (HZ.out.2.2.2.2 x (by omega)).trans ((Below.block HQ.out.2.2.2.2.1 x (by omega)).trans (HR.out.2.2.1 x hx hd)), (HR.out.2.2.2.trans (Below.mono HQ.out.2.2.2.2.1 (by omega))).trans HZ.out.2.2.1⟩
      case measure => simp [intOf]; omega
    have m3 := HN.out.2.2 i1 he
    obtain ⟨t1, t2⟩ := HF.out.2.2.2.1 (by rw [m3]; exact he)
    rw [m3] at t1
    clear m3
    subst t1 t2
    have i2 : (em == 0) = false := by simp [he]
    have i3 : (em != 0) = true := by simp [he]
    go_wp2
    go_ret2
    exact ⟨rfl, HZ.out.2.1.2, fun h => absurd h he⟩
  obtain rfl : j = its.length := by omega
  clear hj hlt
  obtain ⟨qn, hS, B_u, hb, hB⟩ := HQ.out
  clear HQ
  have h0 := HR.out.1
  rw [List.take_length] at h0 hb
  obtain ⟨y1, y2, y3, y4, y5⟩ := HF.out.1 h0
  have hl256 := mayT_len y3
  obtain ⟨S1, hS1⟩ : ∃ S1, shS s its = S1 := ⟨_, rfl⟩
  rw [hS1] at hb y1 y2 y3 y4 y5
  have HM := Lib.hid (And.intro y4 (And.intro y5 (And.intro y1 (And.intro y2 hl256))))
  clear y1 y2 y3 y4 y5 hl256 h0 HF HR hS1
  clear hS
  have HQ := Lib.hid (And.intro qn (And.intro B_u (And.intro hb hB)))
  clear qn B_u hb hB
  clear c_qn0 c_qn1
  have c_qn0 := LK.cell HQ.out.1 0
  have c_qn1 := LK.cell HQ.out.1 1
  simp at c_qn0 c_qn1
  rename World => w5
  obtain ⟨lb, lf, lc, rfl, -, zb, z1, zc, hlast⟩ := (BenAt.last HQ.out.2.2.1).at_n (n := 256) (by rw [HM.out.2.2.2.1]; exact HL2.out) (by omega)
  unfold maxLen at zc
  have hlast2 := fun i x hx => (hideW_out w5 _ _ _ (hlast i x hx)).1
  have HLA := Lib.hid (And.intro zb hlast2)
  clear hlast hlast2 zb
  go_wp2_with fail
  go_loopw [4] (fun i wr => ∃ k : Nat, 8 ≤ k ∧ k ≤ 256 ∧ i = .int .i64 k ∧ freeN S1 k = [] ∧ Below w5.heap.size w5 wr) (fun i _ => 256 - (intOf i).toNat)
  case atStart => exact ⟨8, by omega, by omega, rfl, freeN_eight _, Below.refl _ _⟩
  case round =>
  obtain ⟨k, hk8, hk, rfl, hfn, hst⟩ := hrel
  clear c_qn0 c_qn1
  obtain ⟨qn, B_u, hb, hB⟩ := HQ.out
  clear HQ
  have sz_wr : w5.heap.size ≤ wr.heap.size := hst.size
  have hBx := hst
  replace qn := qn.step hst
  replace B_u := B_u.step hst
  replace hb := hb.step hst
  replace hB := hB.step hst
  clear hst
  have HQ := Lib.hid (And.intro qn (And.intro B_u (And.intro hb hB)))
  clear qn B_u hb hB
  have y0 := blk_cell (BenAt.blk HQ.out.2.2.1)
  have x0 := y0 0
  have x1 := y0 1
  have x2 := y0 2
  have x3 := y0 3
  simp at x0 x1 x2 x3
  clear y0
  by_cases hlt : k < 256
  · have i9 : ¬ ((256 : Int) ≤ k) := by omega
    have e1 := BenAt.cell HQ.out.2.2.1 k hlt
    have e2 := (hBx.cell (p := ⟨lb, lf + k, none⟩) HLA.out.1).trans (HLA.out.2 k (S1.last.getD k 0) (get_l _ _ _ (by rw [HM.out.2.2.2.1, HL2.out]; exact hlt)))
    have hsucc := freeN_succ S1 k
    have hor := or_u8 (S1.now.getD k 0) (S1.last.getD k 0)
    have hoz := or_zero_iff (S1.now.getD k 0) (S1.last.getD k 0)
    have hna : noneAt S1 k = true ↔ S1.now.getD k 0 = 0 ∧ S1.last.getD k 0 = 0 := by rw [noneAt_iff]; exact ⟨fun h => h.2, fun h => ⟨hk8, h⟩⟩
    obtain ⟨r, hr⟩ := freeN_pre (s := S1) (show k + 1 ≤ 256 by omega)
    simp only [bV] at e1 e2
    generalize ((S1.now.getD k 0) ||| (S1.last.getD k 0)).toNat = oq at *
    rw [← hoz] at hna
    clear hoz
    generalize ((S1.now.getD k 0).toNat : Int) = q1 at *
    generalize ((S1.last.getD k 0).toNat : Int) = q2 at *
    cases hnone : noneAt S1 k
    · rw [hnone, if_neg (by decide)] at hsucc
      rw [hnone] at hna
      have hq : ¬ (oq : Int) = 0 := fun e => by have := hna.2 (by omega); cases this
      have hq1 : ((oq : Int) == 0) = false := by simp only [beq_eq_false_iff_ne]; exact hq
      have hq2 : ((oq : Int) != 0) = true := by simp only [bne_iff_ne, ne_eq]; exact hq
      have HK := Lib.hid (And.intro (hsucc.trans hfn) hBx)
      clear hsucc hna hnone hfn hr hBx
      go_wp2_with fail
      go_quiet (fail)
      go_wp2
      go_roundw
      case rel => exact ⟨k + 1, by omega, by omega, by go_num, HK.out.1, HK.out.2.trans (below_dn _ _ _)⟩
      case measure => simp [intOf]; omega
    rw [hnone, if_pos rfl, hfn, List.nil_append] at hsucc
    rw [hsucc] at hr
    rw [hnone] at hna
    obtain rfl : oq = 0 := hna.1 rfl
    have z0 : ((0 : Nat) : Int) = 0 := rfl
    rw [z0] at hor
    obtain ⟨t1, t2⟩ := HM.out.2.1 k r hr
    have HT := Lib.hid (And.intro t1 t2)
    clear hsucc hna hnone hfn hr hBx z0 t1 t2
    have i10 : ¬ (k : Int) = 256 := by omega
    have i11 : ((k : Int) == 256) = false := by simp; omega
    go_wp2_with fail
    go_quiet (fail)
    obtain ⟨q, hq⟩ : ∃ v, wr.drewN nq = v := ⟨_, rfl⟩
    have hst := below_dn wr.heap.size wr nq
    rw [hq] at hst ⊢
    clear hq
    obtain ⟨qn, B_u, hb, hB⟩ := HQ.out
    clear HQ
    have sz_q : wr.heap.size ≤ q.heap.size := hst.size
    clear x0 x1 x2 x3 e1 e2
    replace qn := qn.step hst
    replace B_u := B_u.step hst
    replace hb := hb.step hst
    replace hB := hB.step hst
    clear hst
    have HQ := Lib.hid (And.intro qn (And.intro B_u (And.intro hb hB)))
    clear qn B_u hb hB
    have y0 := blk_cell (BenAt.blk HQ.out.2.2.1)
    have x0 := y0 0
    have x1 := y0 1
    have x2 := y0 2
    have x3 := y0 3
    simp at x0 x1 x2 x3
    clear y0
    have hlw := HLW.out
    obtain ⟨wl, hwl⟩ : ∃ n, s.disk.waits.length = n := ⟨_, rfl⟩
    rw [hwl] at HT hlw HQ x1
    by_cases hw : wl = 4096
    · obtain ⟨rfl, rfl⟩ := HT.out.1 hw
      have j1 : ((wl : Int) == 4096) = true := by simp; omega
      go_wp2
      go_ret2
      exact ⟨rfl, (HQ.out.2.2.2).2⟩
    obtain ⟨rfl, rfl, rfl⟩ := HT.out.2 hw
    have j1 : ((wl : Int) == 4096) = false := by simp; omega
    clear hw
    have hst := (Below.refl q.heap.size q).alloc (Nat.le_refl _) (.cells #[.int .i64 (k : Int), .slice a_u 128 c_u] 92)
    have hnew := World.alloc_heap_new q (.cells #[.int .i64 (k : Int), .slice a_u 128 c_u] 92)
    have hgq := (Array.getElem?_eq_some_iff.1 (BenAt.blk HQ.out.2.2.1)).1
    have hrow := waits_row (nb := nb) (g := g) (W := q.alloc (.cells #[.int .i64 (k : Int), .slice a_u 128 c_u] 92)) (by have := (BenAt.disk (BenAt.step HQ.out.2.2.1 hst)).2; rw [HM.out.2.2.1] at this; exact this) (by have := (BenAt.lo_ HQ.out.2.2.1).2.2.2; simp; omega) (by simp; omega)
    obtain ⟨olds, r1, r2, r3, r4⟩ := hrow
    have HO := Lib.hid (And.intro r2 (And.intro hnew r4))
    clear hst hnew r2 r4
    go_upto_region 18 with (at_builtin; refine wpList_appF rfl (.tmp 78) (.tmp 82) rfl au wl olds rfl r3 r1 HO.out.1 q.heap.size (k : Int) a_u 128 c_u rfl HO.out.2.1 (by omega) ?_; intro ad cc Z hown hgr; have hst := (((Below.refl q.heap.size q).alloc (Nat.le_refl _) (.cells #[.int .i64 (k : Int), .slice a_u 128 c_u] 92)).trans ((below_grown hgr).mono (by simp))); have hbZ := BenAt.step HQ.out.2.2.1 hst; have y0 := blk_cell hbZ.blk; have u0 := y0 0; have u1 := y0 1; have u2 := y0 2; have u3 := y0 3; have uz := blk_frozen hbZ.blk 1; simp at u0 u1 u2 u3; have HW := Lib.hid (And.intro hown (And.intro hgr (And.intro hst hbZ))); clear hown hgr hst hbZ y0 x0 x1 x2 x3)
    obtain ⟨Z2, hZ2⟩ : ∃ v, Z.setCell ⟨g, 1, none⟩ (.slice ad (wl + 1) cc) = v := ⟨_, rfl⟩
    have hw2 : BenAt Z2 lo g nb no nc b (.slice ad (wl + 1) cc) (.slice (some ⟨lb, lf, none⟩) 256 lc) ⟨⟨S1.disk.blocks, s.disk.waits ++ [⟨(k : Int), blk⟩]⟩, S1.now, S1.last⟩ := by
      rw [← hZ2]
      refine BenAt.waits HW.out.2.2.2 _ (fun x _ hx => set_other Z g _ _ x hx) (by rw [World.size_setCell]; exact Nat.le_refl _) _ (set_block (BenAt.blk HW.out.2.2.2) 1 _) _ ?_
      rw [World.size_setCell]
      refine Sl.ck rWrite_ck (HO.out.2.2 Z _ _ k _ blk HW.out.2.1 HW.out.1 (WalkArith.wf_i64 (by omega)) ?_) (hideW_ck fun x _ hS => ⟨hS, set_other Z g _ _ x (fun e => by subst e; simp [hidN] at hS)⟩)
      have hzs := HW.out.2.2.1.size
      exact ((Lv.get HQ.out.2.1).1.kept (hideW_kp fun x h1 h2 => ⟨by simp [hidN]; omega, HW.out.2.2.1.block x (by omega)⟩)).more (Nat.zero_le _) (by omega)
    have hBZ : Below lo w Z2 := by
      rw [← hZ2]
      exact ((HQ.out.2.2.2).2.trans (HW.out.2.2.1.mono (by omega))).setCell (p := ⟨g, 1, none⟩) l2 _
    rw [hZ2]
    clear u0 u1 u2 u3 uz hZ2 HW HO r1 r3
    have y0 := blk_cell hw2.blk 2
    simp at y0
    have e1 := BenAt.cell hw2 k hlt
    have ez := hw2.thaw _ _ _ _ rfl k hlt
    simp only [bV] at e1
    have HW2 := Lib.hid (And.intro hw2 hBZ)
    clear hw2 hBZ
    generalize ((S1.now.getD k 0).toNat : Int) = q3 at e1
    generalize q1 = q4 at *
    go_wp2
    go_ret2
    have hfin := BenAt.set HW2.out.1 k 1 hlt
    rw [HM.out.2.2.1, HM.out.2.2.2.1] at hfin
    exact ⟨rfl, HW2.out.2.setCell (p := ⟨nb, no + k, none⟩) l1 _, ⟨_, hfin⟩⟩
  · obtain rfl : k = 256 := by omega
    obtain ⟨rfl, rfl⟩ := HM.out.1 hfn
    have HBf := Lib.hid (HQ.out.2.2.2)
    clear x0 x1 x2 x3
    go_wp2_with fail
    go_quiet (fail)
    go_wp2
    go_ret2
    exact ⟨rfl, HBf.out.2.trans (below_dn _ _ _), fun e => absurd e (by decide)⟩

/-- bench.Make. -/
theorem bmake_any (lo g nb no nc : Nat) (b y : Value) (au : Option Addr) (s : StoreL) (n : NodeL) (v : Value) (w : World)
    (h : BenAt w lo g nb no nc b (.slice au s.disk.waits.length s.disk.waits.length) y s) (hms : mayS s = true) (hit : Sl rItem w 0 lo v n.items) :
    Calls Try.prog 62 #[.pointer (some ⟨g, 0, none⟩), .agg #[.int .i64 n.level, v]] w fun e w' =>
      e = .returned (.tuple #[.int .i64 (atMk s n), .int .i64 (errMk s n)]) ∧ Below lo w w' ∧ (errMk s n = 0 → ∃ u', BenAt w' lo g nb no nc b u' y (mkS s n)) := by
  cases hm : mayN n with
  | true => exact bmake_yes lo g nb no nc b y au s n v w h hms hit hm
  | false =>
    have hlo : lo ≤ w.heap.size := by obtain ⟨l1, -, -, l4⟩ := h.lo_; omega
    have hE : errMk s n = 8 := by unfold errMk; rw [hm]; rfl
    have hA : atMk s n = 0 := by unfold atMk; rw [hE]; rfl
    rw [hE, hA]
    exact (bmake_no lo g n v w hlo hit hm).mono fun e w' hh => ⟨hh.1, hh.2.mono hlo, fun e => absurd e (by decide)⟩

end Go.Proofs.Ytkfgegdnpinbdaa

namespace Go.Proofs.Ytkfgegdnpinbdaa
open Go.RowKit

def errLv (s : StoreL) (p : Int) : Int := if errAs s p ≠ 0 then errAs s p else if lvS s p.toNat = none then 8 else 0
def leftS (s : StoreL) (p : Int) : StoreL := if errLv s p = 0 then ⟨s.disk, (lvS s p.toNat).getD [], s.last⟩ else noS
def loosS (s : StoreL) (p : Int) : StoreL := if errAs s p = 0 then ⟨s.disk, s.now.set p.toNat (s.now.getD p.toNat 0 + 255), s.last⟩ else noS
def errDm (s : StoreL) (n : NodeL) : Int := if mayS s then errMk s n else 8
def madS (s : StoreL) (n : NodeL) : StoreL := if errDm s n = 0 then mkS s n else noS
def atD (s : StoreL) (n : NodeL) : Int := if errDm s n = 0 then atMk s n else 0
theorem mayS_now {s : StoreL} {now : List UInt8} (hm : mayS s = true) (h : mayT now = true) : mayS ⟨s.disk, now, s.last⟩ = true := by
  obtain ⟨a, b, c⟩ := mayS_iff.1 hm
  exact mayS_iff.2 ⟨a, h, c⟩
/-- All that is so of what is left. -/
theorem left_is {s : StoreL} {p : Int} (h : errLv s p = 0) : errAs s p = 0 ∧ mayS s = true ∧ 8 ≤ p ∧ p < 256 ∧ ∃ now', lvS s p.toNat = some now' ∧ leftS s p = ⟨s.disk, now', s.last⟩ ∧ Less s.now now' ∧ mayS (leftS s p) = true := by
  have h1 : errAs s p = 0 := by
    unfold errLv at h
    split at h
    · rename_i h1; exact absurd h h1
    · rename_i h1; exact Classical.not_not.1 h1
  obtain ⟨m, h8, h9, -⟩ := errAs_zero h1
  cases hl : lvS s p.toNat with
  | none => unfold errLv at h; rw [h1, if_neg (by decide), hl, if_pos rfl] at h; cases h
  | some now' =>
    have e : leftS s p = ⟨s.disk, now', s.last⟩ := by unfold leftS; rw [if_pos h, hl]; rfl
    have hle := lvS_less (by omega : 8 ≤ p.toNat) hl
    exact ⟨h1, m, h8, h9, now', rfl, e, hle, by rw [e]; exact mayS_now m (hle.may (mayS_iff.1 m).2.1)⟩
theorem loos_is {s : StoreL} {p : Int} (h : errAs s p = 0) : loosS s p = ⟨s.disk, s.now.set p.toNat (s.now.getD p.toNat 0 + 255), s.last⟩ ∧ mayS (loosS s p) = true ∧ mayS s = true ∧ 8 ≤ p ∧ p < 256 ∧ s.now.getD p.toNat 0 ≠ 0 := by
  obtain ⟨m, h8, h9, hn⟩ := errAs_zero h
  have e : loosS s p = ⟨s.disk, s.now.set p.toNat (s.now.getD p.toNat 0 + 255), s.last⟩ := by unfold loosS; rw [if_pos h]
  exact ⟨e, by rw [e]; exact mayS_now m (by rw [mayT_set _ _ _ (by omega)]; exact (mayS_iff.1 m).2.1), m, h8, h9, hn⟩
theorem errDm_zero {s : StoreL} {n : NodeL} (h : errDm s n = 0) : mayS s = true ∧ mayN n = true ∧ shE s n.items = 0 ∧ errTk (shS s n.items) (blockN n) = 0 ∧ madS s n = mkS s n ∧ mayS (madS s n) = true ∧ atD s n = (headS (shS s n.items) : Int) := by
  have hm : mayS s = true := by
    cases hm : mayS s with
    | true => rfl
    | false => unfold errDm at h; rw [hm] at h; cases h
  have h2 : errMk s n = 0 := by unfold errDm at h; rw [hm, if_pos rfl] at h; exact h
  have hn : mayN n = true := by
    cases hn : mayN n with
    | true => rfl
    | false => unfold errMk at h2; rw [hn] at h2; cases h2
  have hs : shE s n.items = 0 := by
    by_cases hs : shE s n.items = 0
    · exact hs
    · unfold errMk at h2; rw [hn, if_pos rfl, if_neg hs] at h2; exact absurd h2 hs
  have ht : errTk (shS s n.items) (blockN n) = 0 := by unfold errMk at h2; rw [hn, if_pos rfl, if_pos hs] at h2; exact h2
  have e : madS s n = mkS s n := by unfold madS; rw [if_pos h]
  exact ⟨hm, hn, hs, ht, e, by rw [e]; exact (take_is ht).2.1, by unfold atD atMk; rw [if_pos h, if_pos h2]⟩

set_option maxRecDepth 100000 in
set_option maxHeartbeats 1000000 in
theorem drasked_any (b_s u_s x_s y_s : Value) (s : StoreL) (p : Int) (w : World) (h_s : StoreV w 0 w.heap.size b_s u_s x_s y_s s) :
    Calls Try.prog 66 #[.agg #[b_s, u_s, x_s, y_s], .int .i64 p] w fun e w' => e = .returned (.int .i64 (errAs s p)) ∧ Below w.heap.size w w' := by
  obtain ⟨ab_s, cb_s, rfl, gb_s, gc_s, -, -⟩ := h_s.1.1
  obtain ⟨au_s, cu_s, rfl, gu_s, gv_s, -, -⟩ := h_s.1.2
  obtain ⟨ax_s, cx_s, rfl, gx_s, gz_s⟩ := h_s.2.1.form rfl
  obtain ⟨ay_s, cy_s, rfl, gy_s, gw_s⟩ := h_s.2.2.form rfl
  unfold maxLen at gc_s gv_s gz_s gw_s
  have hst := ((Below.refl w.heap.size w).alloc (Nat.le_refl _) (.cells #[.slice ab_s s.disk.blocks.length cb_s, .slice au_s s.disk.waits.length cu_s, .slice ax_s s.now.length cx_s, .slice ay_s s.last.length cy_s] 28))
  have q_s := LK.new w (.cells #[.slice ab_s s.disk.blocks.length cb_s, .slice au_s s.disk.waits.length cu_s, .slice ax_s s.now.length cx_s, .slice ay_s s.last.length cy_s] 28)
  have hB : LW w _ := hst
  have O_s := (LO.of h_s (Nat.le_refl _)).step hst
  have sz_V : w.heap.size + 0 < (w.alloc (.cells #[.slice ab_s s.disk.blocks.length cb_s, .slice au_s s.disk.waits.length cu_s, .slice ax_s s.now.length cx_s, .slice ay_s s.last.length cy_s] 28)).heap.size := by simp
  obtain ⟨V, hV⟩ : ∃ V, (w.alloc (.cells #[.slice ab_s s.disk.blocks.length cb_s, .slice au_s s.disk.waits.length cu_s, .slice ax_s s.now.length cx_s, .slice ay_s s.last.length cy_s] 28)) = V := ⟨_, rfl⟩
  rw [hV] at sz_V q_s O_s hB
  clear hst h_s
  have HQ := Lib.hid (And.intro q_s (And.intro O_s hB))
  clear q_s O_s hB
  have c_q_s0 := LK.cell HQ.out.1 0
  have c_q_s1 := LK.cell HQ.out.1 1
  have c_q_s2 := LK.cell HQ.out.1 2
  have c_q_s3 := LK.cell HQ.out.1 3
  simp at c_q_s0 c_q_s1 c_q_s2 c_q_s3
  have hE := errAs_cases s p
  obtain ⟨es, hes⟩ : ∃ e, errS s = e := ⟨_, rfl⟩
  obtain ⟨ea, hea⟩ : ∃ e, errAs s p = e := ⟨_, rfl⟩
  have k_c := fun V b u x y hh => scheck_any b u x y s V hh
  rw [hes] at k_c hE
  rw [hea] at hE ⊢
  clear hes hea
  have HC := Lib.hid (k_c)
  clear k_c
  go_enter Try.func66, Try.ntmps66
  go_upto_region 1 with (fail)
  clear hV
  go_wp2_with fail
  refine (HC.out _ _ _ _ _ HQ.out.2.1.v).mono ?_
  rintro e w1 ⟨rfl, hst⟩
  clear c_q_s0 c_q_s1 c_q_s2 c_q_s3
  obtain ⟨q_s, O_s, hB⟩ := HQ.out
  clear HQ
  have sz_w1 : V.heap.size ≤ w1.heap.size := hst.size
  replace q_s := q_s.step hst
  replace O_s := O_s.step hst
  replace hB := hB.step hst
  clear hst
  have HQ := Lib.hid (And.intro q_s (And.intro O_s hB))
  clear q_s O_s hB
  have c_q_s0 := LK.cell HQ.out.1 0
  have c_q_s1 := LK.cell HQ.out.1 1
  have c_q_s2 := LK.cell HQ.out.1 2
  have c_q_s3 := LK.cell HQ.out.1 3
  simp at c_q_s0 c_q_s1 c_q_s2 c_q_s3
  rcases hE with ⟨rfl, rfl⟩ | ⟨rfl, hm, ⟨hp, rfl⟩ | ⟨hp, rfl⟩ | ⟨pn, rfl, h8, h9, hx⟩⟩
  · skip
    go_wp2
    go_ret
    exact ⟨rfl, HQ.out.2.2⟩
  · have i1 : p < 8 := hp
    go_wp2
    go_ret
    exact ⟨rfl, HQ.out.2.2⟩
  · have i1 : ¬ p < 8 := by omega
    go_wp2
    go_ret
    exact ⟨rfl, HQ.out.2.2⟩
  have h256 := mayT_len (mayS_iff.1 hm).2.1
  obtain ⟨nb, no, nc, e1, -, zb, z1, zc, hcell⟩ := HQ.out.2.1.n.at_n h256 (by omega)
  injection e1 with e1 _ e2
  subst e1 e2
  have hcx := hcell pn (s.now.getD pn 0) (get_l _ _ _ (by omega))
  unfold maxLen at zc
  rw [h256] at c_q_s2
  obtain ⟨z, hz⟩ : ∃ z, s.now.getD pn 0 = z := ⟨_, rfl⟩
  rw [hz] at hx hcx
  simp only [bV] at hcx
  have HM := Lib.hid (And.intro hcell h256)
  clear hcell h256 hz hm
  have i1 : ¬ ((pn : Int) < 8) := by omega
  have i2 : ¬ ((256 : Int) ≤ pn) := by omega
  rcases hx with ⟨rfl, rfl⟩ | ⟨hx, rfl⟩
  · have z0 : ((0 : UInt8).toNat : Int) = 0 := rfl
    rw [z0] at hcx
    go_wp2
    go_ret
    exact ⟨rfl, HQ.out.2.2⟩
  · have hx2 := u8_nz hx
    generalize (z.toNat : Int) = zi at *
    go_wp2
    go_ret
    exact ⟨rfl, HQ.out.2.2⟩

set_option maxRecDepth 100000 in
set_option maxHeartbeats 400000 in
theorem left1_any (lo g nb no nc bp : Nat) (b u y : Value) (s : StoreL) (p : Nat) (w : World) (h : BenAt w lo g nb no nc b u y s) (hmd : mayD s.disk = true) (hp : p < 256) (hb : w.heap[bp]? = some (.cells #[.int .i64 (p : Int)] 3 (0, 0))) :
    Calls Try.prog 68 #[.pointer (some ⟨g, 0, none⟩), .pointer (some ⟨bp, 0, none⟩)] w fun e w' => Below lo w w' ∧ (lvS s p = none → e = .returned (.int .i64 8)) ∧ ∀ now', lvS s p = some now' → e = .returned (.int .i64 0) ∧ BenAt w' lo g nb no nc b u y ⟨s.disk, now', s.last⟩ := by
  have c0 := blk_cell hb 0
  simp at c0
  have k1 := bleave_any lo g nb no nc b u y s p w h hmd hp
  obtain ⟨R, hR⟩ : ∃ R, lvS s p = R := ⟨_, rfl⟩
  rw [hR] at k1 ⊢
  clear hR
  have K1 := Lib.hid k1
  clear k1 h hmd hb
  go_enter Try.func68, Try.ntmps68
  go_wp2_with fail
  refine K1.out.mono ?_
  rintro e w1 hh
  obtain ⟨h1, h2, h3⟩ := hh
  cases R with
  | none =>
    obtain rfl := h2 rfl
    have HB := Lib.hid h1
    clear h1 h2 h3
    go_wp2
    go_ret
    exact ⟨HB.out, rfl⟩
  | some now2 =>
    obtain ⟨rfl, h4⟩ := h3 now2 rfl
    have HB := Lib.hid (And.intro h1 h4)
    clear h1 h2 h3 h4
    go_wp2
    go_ret
    exact ⟨HB.out.1, (fun e => (by cases e)), fun now3 e => (by cases e; exact ⟨rfl, HB.out.2⟩)⟩

set_option maxRecDepth 100000 in
set_option maxHeartbeats 400000 in
theorem loos1_any (lo g nb no nc bp : Nat) (b u y : Value) (s : StoreL) (p : Nat) (w : World) (h : BenAt w lo g nb no nc b u y s) (hp : p < 256) (hb : w.heap[bp]? = some (.cells #[.int .i64 (p : Int)] 3 (0, 0))) :
    Calls Try.prog 72 #[.pointer (some ⟨g, 0, none⟩), .pointer (some ⟨bp, 0, none⟩)] w fun e w' => e = .returned (.int .i64 (errBl s p)) ∧ BenAt w' lo g nb no nc b u y (dnS s p) ∧ Below lo w w' ∧ w'.heap.size = w.heap.size ∧ ∀ k, k ≠ nb → w'.heap[k]? = w.heap[k]? := by
  have c0 := blk_cell hb 0
  simp at c0
  have k1 := bloose_any lo g nb no nc b u y s p w h hp
  have K1 := Lib.hid k1
  clear k1 h hb
  go_enter Try.func72, Try.ntmps72
  go_wp2_with fail
  refine K1.out.mono ?_
  rintro e w1 hh
  obtain ⟨rfl, h2⟩ := hh
  have HB := Lib.hid h2
  clear h2
  go_wp2
  go_ret
  exact ⟨rfl, HB.out⟩

end Go.Proofs.Ytkfgegdnpinbdaa

