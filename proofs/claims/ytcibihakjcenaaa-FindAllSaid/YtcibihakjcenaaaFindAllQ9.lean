/- FindAll: the words and contracts, part 9. -/
import Derived.Test.YtcibihakjcenaaaFindAllQ1
import Derived.Test.YtcibihakjcenaaaFindAllQ2
import Derived.Test.YtcibihakjcenaaaFindAllQ3
import Derived.Test.YtcibihakjcenaaaFindAllQ4
import Derived.Test.YtcibihakjcenaaaFindAllQ5
import Derived.Test.YtcibihakjcenaaaFindAllQ6
import Derived.Test.YtcibihakjcenaaaFindAllQ7
import Derived.Test.YtcibihakjcenaaaFindAllQ8
import Derived.WalkKit
import Derived.WalkLawsBesides
import Derived.WalkSpells
import Derived.Lib.Hide
import Derived.Laws.Rows
import Derived.Laws.AppendOwnNone
import Derived.Maps.AppendAt
import Derived.ProofKit
import Derived.Deep.Slices
import Derived.WideShapes
import Derived.RangeFuncNested
import Derived.RangeFuncBound
import Derived.RangeFuncCalls
import Derived.RangeFuncLeaves
import Derived.RangeFuncBox
import Derived.Shelf.Abstract
import Derived.Shelf.RegionOpen
import Derived.OwnWalkIn
import Derived.TacticsInMore
import Derived.LoopNIn
import Derived.LoopIn
import Derived.Lib.AppendZerosOnto
import Derived.Lib.SliceRun
import Derived.Lib.Walk
import Derived.Deep.LoopGhost
import Derived.Laws.CopyOwn
import Derived.Laws.CopyRow
import Derived.OrdersHeld
import Derived.Deep.QuietTactic
import Derived.BigQuiet
import Derived.StillTailTactics
import Derived.OpenShut
import Derived.Deep.DeepCutAuto
import Derived.Deep.RegionHeld
import Derived.Laws.MakeOwn
import Derived.KernelRfl
namespace Go.Proofs.Ytcibihakjcenaaa
open Go.RowKit

def bodyN (its : List ItemL) : List UInt8 := (its.map itemB).flatten
def headN (n : NodeL) : List UInt8 := [78, UInt8.ofNat n.level.toNat, UInt8.ofNat n.items.length]
def bytesN (n : NodeL) : List UInt8 := headN n ++ bodyN n.items
def blockN (n : NodeL) : List UInt8 := if mayN n then sealL (bytesN n) else []
theorem mayN_all {n : NodeL} (h : mayN n = true) : (0 ≤ n.level ∧ n.level < 6) ∧ n.items.length ≤ 5 ∧ (n.level ≤ 0 ∨ n.items.length ≠ 0) ∧ ∀ i, i < n.items.length → stepN n i = true := by
  unfold mayN at h
  simp only [Bool.and_eq_true, decide_eq_true_eq, Bool.or_eq_true, bne_iff_ne, List.all_eq_true, List.mem_range] at h
  exact ⟨⟨h.1.1.1.1, h.1.1.1.2⟩, h.1.1.2, h.1.2, h.2⟩
theorem stepN_may {n : NodeL} {i : Nat} (h : stepN n i = true) : mayI (n.items.getD i nokI) = true := by
  unfold stepN at h
  simp only [Bool.and_eq_true] at h
  exact h.1.1
theorem itemB_len' {x : ItemL} (h : mayI x = true) : (itemB x).length ≤ 24 := by
  have h1 : x.val.length ≤ 12 := by
    unfold mayI at h
    exact (of_decide_eq_true h).2
  have h2 : (itemB x).length = 12 + x.val.length := itemB_length x
  omega
theorem bodyN_len (its : List ItemL) (h : ∀ x ∈ its, mayI x = true) : (bodyN its).length ≤ its.length * 24 := by
  induction its with
  | nil => simp [bodyN]
  | cons x l ih =>
    have h1 := itemB_len' (h x (List.mem_cons_self ..))
    have h2 := ih (fun y hy => h y (List.mem_cons_of_mem _ hy))
    unfold bodyN at h2 ⊢
    simp only [List.map_cons, List.flatten_cons, List.length_append, List.length_cons]
    omega
theorem mem_getD {α : Type} {l : List α} {x d : α} (h : x ∈ l) : ∃ i, i < l.length ∧ l.getD i d = x := by
  obtain ⟨i, hi, e⟩ := List.mem_iff_getElem.1 h
  exact ⟨i, hi, by simp [hi, e]⟩
theorem mayN_items {n : NodeL} (h : mayN n = true) : ∀ x ∈ n.items, mayI x = true := fun x hx => by
  obtain ⟨i, hi, rfl⟩ := mem_getD (d := nokI) hx
  exact stepN_may ((mayN_all h).2.2.2 i hi)
theorem bytesN_len {n : NodeL} (h : mayN n = true) : (bytesN n).length ≤ 124 := by
  have h1 := bodyN_len n.items (mayN_items h)
  have h2 := (mayN_all h).2.1
  unfold bytesN headN
  simp only [List.length_append, List.length_cons, List.length_nil]
  omega
theorem bodyN_succ (its : List ItemL) (k : Nat) (h : k < its.length) : bodyN (its.take (k + 1)) = bodyN (its.take k) ++ itemB (its.getD k nokI) := by
  unfold bodyN
  rw [List.take_succ_eq_append_getElem h, List.map_append, List.flatten_append]
  simp [h]
theorem own_lit (w : World) (l : List UInt8) (cs : Array Value) (e : TypeId) (base : Nat) (hb : base ≤ w.heap.size) (hl : l.length ≤ maxLen) (hcs : cs = (l.map bV).toArray) (n : Nat) (hn : n = l.length) : OwnB base e (w.alloc (.cells cs e)) (.slice (some ⟨w.heap.size, 0, none⟩) n n) l := by
  subst hcs hn
  refine ⟨by simp, .inr ⟨w.heap.size, l.length, _, rfl, hb, World.alloc_heap_new w _, Nat.le_refl _, hl, by simp, by simp only [Nat.mul_one]; exact List.take_of_length_le (by simp)⟩⟩

set_option maxRecDepth 100000 in
set_option maxHeartbeats 4000000 in
/-- node.Write. -/
theorem nwrite_any (n : NodeL) (v : Value) (w : World) (h : Sl rItem w 0 w.heap.size v n.items) :
    Calls Try.prog 145 #[.agg #[.int .i64 n.level, v]] w fun e w' => ∃ u, e = .returned (.tuple #[u, .int .i64 (mayE (mayN n))]) ∧ MadeB w w' u (blockN n) := by
  have k1 := fun V v hh => ncheck_any n v V hh
  cases hm : mayN n with
  | false =>
    rw [hm] at k1
    obtain ⟨av, cv, rfl, -, -, -, -⟩ := id h
    have hst := (Below.refl w.heap.size w).alloc (Nat.le_refl _) (.cells #[.int .i64 n.level, .slice av n.items.length cv] 119)
    have hq := World.alloc_heap_new w (.cells #[.int .i64 n.level, .slice av n.items.length cv] 119)
    have K1 := Lib.hid (k1 _ _ (h.step hst))
    have hbl : blockN n = [] := by unfold blockN; rw [hm]; rfl
    rw [hbl]
    clear k1 hm h hbl
    obtain ⟨V, hV⟩ : ∃ V, w.alloc (.cells #[.int .i64 n.level, .slice av n.items.length cv] 119) = V := ⟨_, rfl⟩
    rw [hV] at hst hq K1
    have c0 := blk_cell hq 0
    have c1 := blk_cell hq 1
    simp at c0 c1
    have HB := Lib.hid hst
    clear hst hq
    go_enter Try.func145, Try.ntmps145
    go_wp2_with fail
    refine K1.out.mono ?_
    rintro e w1 ⟨rfl, hst⟩
    have me8 : mayE false = 8 := rfl
    rw [me8]
    go_wp2
    go_ret2
    exact ⟨_, rfl, MadeB.nil_ (below_step HB.out HB.out.size hst)⟩
  | true =>
  rw [hm] at k1
  have me0 : mayE true = 0 := rfl
  rw [me0] at k1 ⊢
  obtain ⟨⟨l0, l6⟩, l5, -, -⟩ := mayN_all hm
  have hbl : blockN n = sealL (headN n ++ bodyN n.items) := by unfold blockN; rw [hm]; rfl
  have HLN := Lib.hid (bytesN_len hm)
  have HIT := Lib.hid (mayN_items hm)
  rw [hbl]
  obtain ⟨lvi, its⟩ := n
  simp only at *
  obtain ⟨lv, rfl⟩ : ∃ lv : Nat, lvi = lv := ⟨lvi.toNat, by omega⟩
  obtain ⟨hd, hhd⟩ : ∃ hd, headN ⟨lv, its⟩ = hd := ⟨_, rfl⟩
  have hhd2 : hd = [78, UInt8.ofNat lv, UInt8.ofNat its.length] := by rw [← hhd]; unfold headN; simp
  unfold bytesN at HLN
  simp only at HLN
  rw [hhd] at HLN ⊢
  have HHD := Lib.hid hhd2
  obtain ⟨av, cv, rfl, g1, g2, -, -⟩ := id h
  unfold maxLen at g2
  have hst := (Below.refl w.heap.size w).alloc (Nat.le_refl _) (.cells #[.int .i64 (lv : Nat), .slice av its.length cv] 119)
  have qn := LK.new w (.cells #[.int .i64 (lv : Nat), .slice av its.length cv] 119)
  have hB : LW w _ := hst
  have hS := (LS.of h (Nat.le_refl _)).step hst
  have sz_V : w.heap.size < (w.alloc (.cells #[.int .i64 (lv : Nat), .slice av its.length cv] 119)).heap.size := by simp
  obtain ⟨V, hV⟩ : ∃ V, w.alloc (.cells #[.int .i64 (lv : Nat), .slice av its.length cv] 119) = V := ⟨_, rfl⟩
  rw [hV] at hB hS qn sz_V
  clear h hst hm hbl me0 hhd hhd2
  have K1 := Lib.hid k1
  clear k1
  have HQ := Lib.hid (And.intro qn (And.intro hS hB))
  clear qn hS hB
  have c_qn0 := LK.cell HQ.out.1 0
  have c_qn1 := LK.cell HQ.out.1 1
  simp at c_qn0 c_qn1
  go_enter Try.func145, Try.ntmps145
  go_upto_region 1 with (fail)
  clear hV
  go_wp2_with fail
  refine (K1.out _ _ HQ.out.2.1.v).mono ?_
  rintro e w1 ⟨rfl, hst⟩
  clear c_qn0 c_qn1
  obtain ⟨qn, hS, hB⟩ := HQ.out
  clear HQ
  have sz_w1 : V.heap.size ≤ w1.heap.size := hst.size
  replace qn := qn.step hst
  replace hS := hS.step hst
  replace hB := hB.step hst
  clear hst
  have HQ := Lib.hid (And.intro qn (And.intro hS hB))
  clear qn hS hB
  have c_qn0 := LK.cell HQ.out.1 0
  have c_qn1 := LK.cell HQ.out.1 1
  simp at c_qn0 c_qn1
  have i5 : (its.length : Int) < 256 := by omega
  have i6 : (lv : Int) < 256 := by omega
  go_upto_region 5 with (fail)
  clear c_qn0 c_qn1
  obtain ⟨qn, hS, hB⟩ := HQ.out
  clear HQ
  have hst := (Below.refl w1.heap.size w1).alloc (Nat.le_refl _) (.cells #[.int .u8 78, .int .u8 (lv : Nat), .int .u8 (its.length : Nat)] 5)
  have hown := own_lit w1 hd #[.int .u8 78, .int .u8 (lv : Nat), .int .u8 (its.length : Nat)] 5 w1.heap.size (Nat.le_refl _) (by rw [HHD.out]; simp [maxLen]) (by rw [HHD.out]; simp [bV]; constructor <;> omega) 3 (by rw [HHD.out]; rfl)
  obtain ⟨wb, hw⟩ : ∃ v, w1.alloc (.cells #[.int .u8 78, .int .u8 (lv : Nat), .int .u8 (its.length : Nat)] 5) = v := ⟨_, rfl⟩
  have hqb := qn.step hst
  rw [hw] at hst hown hqb ⊢
  clear hw
  have cb0 := LK.cell hqb 0
  have cb1 := LK.cell hqb 1
  simp at cb0 cb1
  have HQ := Lib.hid (And.intro qn (And.intro hS hB))
  clear qn hS hB
  have HOW := Lib.hid (And.intro hown hst)
  clear hown hst hqb
  go_wp2_with fail
  go_loopw [5, 26] (fun s i wr => ∃ j : Nat, j ≤ its.length ∧ i = .int .i64 j ∧ OwnB w1.heap.size 5 wr s (hd ++ bodyN (its.take j)) ∧ Below w1.heap.size w1 wr) (fun _ i _ => its.length - (intOf i).toNat)
  case atStart => exact ⟨0, Nat.zero_le _, rfl, by simpa [bodyN] using HOW.out.1, HOW.out.2⟩
  case round =>
  obtain ⟨j, hj, rfl, hown, hBr⟩ := hrel
  clear cb0 cb1
  have hst := hBr
  obtain ⟨qn, hS, hB⟩ := HQ.out
  clear HQ
  have sz_wr : w1.heap.size ≤ wr.heap.size := hst.size
  replace qn := qn.step hst
  replace hS := hS.step hst
  replace hB := hB.step hst
  clear hst
  have HQ := Lib.hid (And.intro qn (And.intro hS hB))
  clear qn hS hB
  have c_qn0 := LK.cell HQ.out.1 0
  have c_qn1 := LK.cell HQ.out.1 1
  simp at c_qn0 c_qn1
  by_cases hlt : j < its.length
  · obtain ⟨bb, bo, cb, e1, -, -, -, zc, hcell⟩ := HQ.out.2.1.v.at_ (by omega)
    injection e1 with e1 _ e2
    subst e1 e2
    obtain ⟨f0, f1, f2, f3, f3w, vx, f4, hvx⟩ := hcell j (its.getD j nokI) (get_l _ _ _ hlt)
    have hsc := bodyN_succ its j hlt
    have hmi := HIT.out (its.getD j nokI) (List.mem_of_getElem? (get_l _ _ _ hlt))
    have htk := bodyN_len (its.take j) (fun x hx => HIT.out x (List.mem_of_mem_take hx))
    rw [List.length_take] at htk
    obtain ⟨x, hx⟩ : ∃ x, its.getD j nokI = x := ⟨_, rfl⟩
    rw [hx] at f0 f1 f2 f3 hsc hmi hvx
    obtain ⟨xn, hxn⟩ : ∃ xn, x.val.length = xn := ⟨_, rfl⟩
    obtain ⟨ax, cx, rfl, -, -⟩ := hvx.form hxn
    simp only [bV, wV, Nat.add_zero] at f0 f1 f2 f3 f4
    have hn5 : rItem.n = 5 := rfl
    rw [hn5] at f0 f1 f2 f3 f4
    unfold maxLen at zc
    obtain ⟨bd, hbd⟩ : ∃ bd, bodyN (its.take j) = bd := ⟨_, rfl⟩
    rw [hbd] at hsc htk hown
    have hix := itemB_len' hmi
    have k_w := fun V hh => iwrite_any x (.slice ax xn cx) V hh
    rw [show wrI x = itemB x by unfold wrI; rw [hmi]; rfl, hmi, show mayE true = 0 from rfl] at k_w
    simp only [itemV, bV, wV] at k_w
    have hXB := LB.of hvx (Nat.le_refl _)
    have HX := Lib.hid (And.intro k_w (And.intro hsc (And.intro hBr hown)))
    have hbl : bd.length ≤ 120 := by omega
    clear hvx hcell hx hxn hbd k_w hsc hBr hn5 hmi htk hown
    obtain ⟨qn, hS, hB⟩ := HQ.out
    clear HQ
    have hR : LW wr wr := Below.refl _ _
    have HQ := Lib.hid (And.intro qn (And.intro hS (And.intro hXB (And.intro hR hB))))
    clear qn hS hXB hR hB
    go_upto_region 8 with (fail)
    clear c_qn0 c_qn1
    obtain ⟨qn, hS, hXB, hR, hB⟩ := HQ.out
    clear HQ
    have hst := (Below.refl wr.heap.size wr).alloc (Nat.le_refl _) (.cells #[.int .u8 (x.key.kind.toNat : Int), .int .u32 (x.key.id.toNat : Int), .int .u32 (x.key.off.toNat : Int), .int .i64 x.ref, .slice ax xn cx] 56)
    have hlt : wr.heap.size < (wr.alloc (.cells #[.int .u8 (x.key.kind.toNat : Int), .int .u32 (x.key.id.toNat : Int), .int .u32 (x.key.off.toNat : Int), .int .i64 x.ref, .slice ax xn cx] 56)).heap.size := by simp
    have qx := LK.new wr (.cells #[.int .u8 (x.key.kind.toNat : Int), .int .u32 (x.key.id.toNat : Int), .int .u32 (x.key.off.toNat : Int), .int .i64 x.ref, .slice ax xn cx] 56)
    replace qn := qn.step hst
    replace hS := hS.step hst
    replace hXB := hXB.step hst
    replace hR := hR.step hst
    replace hB := hB.step hst
    obtain ⟨w2, hw⟩ : ∃ v, wr.alloc (.cells #[.int .u8 (x.key.kind.toNat : Int), .int .u32 (x.key.id.toNat : Int), .int .u32 (x.key.off.toNat : Int), .int .i64 x.ref, .slice ax xn cx] 56) = v := ⟨_, rfl⟩
    rw [hw] at hlt qx qn hS hXB hR hB ⊢
    clear hw hst
    have sz_w2 := hlt
    clear hlt
    have HQ := Lib.hid (And.intro qn (And.intro hS (And.intro hXB (And.intro hR (And.intro qx hB)))))
    clear qn hS hXB hR qx hB
    have c_qn0 := LK.cell HQ.out.1 0
    have c_qn1 := LK.cell HQ.out.1 1
    have c_qx0 := LK.cell HQ.out.2.2.2.2.1 0
    have c_qx1 := LK.cell HQ.out.2.2.2.2.1 1
    have c_qx2 := LK.cell HQ.out.2.2.2.2.1 2
    have c_qx3 := LK.cell HQ.out.2.2.2.2.1 3
    have c_qx4 := LK.cell HQ.out.2.2.2.2.1 4
    simp at c_qn0 c_qn1 c_qx0 c_qx1 c_qx2 c_qx3 c_qx4
    clear f0 f1 f2 f3 f4
    go_wp2_with fail
    refine (HX.out.1 _ HQ.out.2.2.1.v).mono ?_
    rintro e w3 ⟨vi, rfl, hm⟩
    clear c_qn0 c_qn1 c_qx0 c_qx1 c_qx2 c_qx3 c_qx4
    obtain ⟨qn, hS, hXB, hR, qx, hB⟩ := HQ.out
    clear HQ
    have hI := LM.of hm
    have hst := hm.below
    clear hm
    have sz_w3 : w2.heap.size ≤ w3.heap.size := hst.size
    replace qn := qn.step hst
    replace hS := hS.step hst
    replace hXB := hXB.step hst
    replace hR := hR.step hst
    replace qx := qx.step hst
    replace hB := hB.step hst
    clear hst
    have HQ := Lib.hid (And.intro qn (And.intro hS (And.intro hXB (And.intro hR (And.intro qx (And.intro hI hB))))))
    clear qn hS hXB hR qx hI hB
    have c_qn0 := LK.cell HQ.out.1 0
    have c_qn1 := LK.cell HQ.out.1 1
    have c_qx0 := LK.cell HQ.out.2.2.2.2.1 0
    have c_qx1 := LK.cell HQ.out.2.2.2.2.1 1
    have c_qx2 := LK.cell HQ.out.2.2.2.2.1 2
    have c_qx3 := LK.cell HQ.out.2.2.2.2.1 3
    have c_qx4 := LK.cell HQ.out.2.2.2.2.1 4
    simp at c_qn0 c_qn1 c_qx0 c_qx1 c_qx2 c_qx3 c_qx4
    obtain ⟨ib, hib⟩ : ∃ ib, itemB x = ib := ⟨_, rfl⟩
    have hir := HX.out.2.1
    rw [hib] at HQ hir hix
    have hown2 : OwnB w1.heap.size 5 w3 _ (hd ++ bd) := World.ownsRow.kept HX.out.2.2.2 (row := none) ⟨(HQ.out.2.2.2.1).os, (HQ.out.2.2.2.1).tape, (HQ.out.2.2.2.1).output, (HQ.out.2.2.2.1).size, fun q hq _ => (HQ.out.2.2.2.1).block q hq⟩ (by cases hvv : Value.ownBlock _ <;> simp)
    have HI2 := Lib.hid (And.intro hir hown2)
    have hhl : hd.length = 3 := by rw [HHD.out]; rfl
    clear hib hir hown2
    have HHL := Lib.hid hhl
    clear hhl
    go_wp2_with (at_builtin; refine wpList_appB rfl _ _ 26 rfl w1.heap.size 5 Try.underlying26 info_u8 _ (hd ++ bd) rfl HI2.out.2 0 w3.heap.size vi ib rfl HQ.out.2.2.2.2.2.1.v (by rw [List.length_append, HHL.out]; omega) (by omega) ?_; intro v5 w5 hown5 hB5)
    rw [List.append_assoc, ← HI2.out.1] at hown5
    have hBf := HX.out.2.2.1.trans ((Below.mono HQ.out.2.2.2.1 (show w1.heap.size ≤ wr.heap.size from sz_wr)).trans hB5)
    have HF := Lib.hid (And.intro hown5 hBf)
    clear hown5 hBf hB5
    clear c_qn0 c_qn1 c_qx0 c_qx1 c_qx2 c_qx3 c_qx4
    go_wp2
    go_roundw
    case rel => exact ⟨j + 1, by omega, by go_num, HF.out.1, HF.out.2⟩
    case measure => simp [intOf]; omega
  obtain rfl : j = its.length := by omega
  rw [List.take_length] at hown
  have hbs := hown.bytes.all0
  have k_s := seal_yes _ (hd ++ bodyN its) wr hbs HLN.out
  have KS := Lib.hid k_s
  clear k_s hbs hown
  have HBf := Lib.hid (HQ.out.2.2)
  go_wp2_with fail
  refine KS.out.mono ?_
  rintro e w6 ⟨u, rfl, hm⟩
  go_wp2
  go_ret2
  exact ⟨_, rfl, hm.bytes.more (by have := Below.size HBf.out; omega) (Nat.le_refl _), hm.thawed, LW.step HBf.out hm.below⟩
end Go.Proofs.Ytcibihakjcenaaa

namespace Go.Proofs.Ytcibihakjcenaaa
open Go.RowKit

/-- s[i:j:j] of a slice that is not nil. -/
theorem cut3_run (b off n c i j : Nat) (I J : Int) (hI : I = i) (hJ : J = j) (hij : i ≤ j) (hjc : j ≤ c) (hcm : c ≤ maxLen) : ∃ A : Addr,
    (∀ w, (Instr.sliceAt 26 (.slice (some ⟨b, off, none⟩) n c) (some (.int .i64 I)) (some (.int .i64 J)) (some (.int .i64 J))).run Try.prog w = .ok (.slice (some A) (j - i) (j - i)) w) ∧
    ∀ W lo hi l, Bytes W lo hi (.slice (some ⟨b, off, none⟩) n c) l → j ≤ l.length → Bytes W lo hi (.slice (some A) (j - i) (j - i)) ((l.drop i).take (j - i)) := by
  subst hI hJ
  by_cases h : j = i
  · refine ⟨⟨b, off, none⟩, fun w => ?_, fun W lo hi l hb hj => ?_⟩
    · simp [go_sem]
      rw [if_pos hjc, if_pos hij, if_pos h]
    · have e : j - i = 0 := by omega
      rw [e]
      obtain ⟨a, c', e1, h1, h2, h3, h4⟩ := hb
      cases e1
      exact ⟨some ⟨b, off, none⟩, 0, by simp, by simp, by omega, fun hp => by simp at hp, fun h => by cases h⟩
  · refine ⟨⟨b, off + i, none⟩, fun w => ?_, fun W lo hi l hb hj => ?_⟩
    · simp [go_sem]
      rw [if_pos hjc, if_pos hij, if_neg h]
    · exact hb.cut i (j - i) (j - i) (by omega) (by omega) (by omega)

set_option maxRecDepth 100000 in
set_option maxHeartbeats 1000000 in
theorem iread_no (v : Value) (l : List UInt8) (w : World) (hv : Bytes w 0 w.heap.size v l) (hn : lenOk l = false) :
    Calls Try.prog 140 #[v] w fun e w' => e = .returned (.tuple #[itemV zeroI (.slice none 0 0), .int .i64 0, .int .i64 8]) ∧ Below w.heap.size w w' := by
  have hB := (Below.refl w.heap.size w).alloc (Nat.le_refl _) (.cells #[.int .u8 0, .int .u32 0, .int .u32 0, .int .i64 0, .slice none 0 0] 56)
  have hz : (itemV zeroI (.slice none 0 0)) = .agg #[.int .u8 0, .int .u32 0, .int .u32 0, .int .i64 0, .slice none 0 0] := rfl
  rw [hz]
  by_cases h12 : l.length < 12
  · obtain ⟨a, c, rfl, g1, g2, -, -⟩ := hv
    clear hz
    go_enter Try.func140, Try.ntmps140
    go_wp2_with fail
    exact bodyPost_ret (v := .tuple #[.agg #[.int .u8 0, .int .u32 0, .int .u32 0, .int .i64 0, .slice none 0 0], .int .i64 0, .int .i64 8]) (by simp [results, Try.results140, go_sem]) rfl ⟨rfl, hB⟩
  · obtain ⟨b, off, c, rfl, g0, g1, g2, g3, g4⟩ := hv.at_ (by omega)
    have c11 := g4 11 (l.getD 11 0) (by rw [List.getElem?_eq_getElem (by omega)]; simp [List.getD, show 11 < l.length by omega])
    have hlt : (l.length : Int) < 12 + (l.getD 11 0).toNat := by
      unfold lenOk at hn
      simp only [decide_eq_false_iff_not] at hn
      omega
    have hx := (l.getD 11 0).toNat_lt
    generalize l.getD 11 0 = x at *
    simp only [bV] at c11
    clear hz hv g4
    go_enter Try.func140, Try.ntmps140
    go_wp2_with fail
    exact bodyPost_ret (v := .tuple #[.agg #[.int .u8 0, .int .u32 0, .int .u32 0, .int .i64 0, .slice none 0 0], .int .i64 0, .int .i64 8]) (by simp [results, Try.results140, go_sem]) rfl ⟨rfl, hB⟩

set_option maxRecDepth 100000 in
set_option maxHeartbeats 2000000 in
theorem iread_yes (v : Value) (l : List UInt8) (w : World) (hv : Bytes w 0 w.heap.size v l) (hn : lenOk l = true) :
    Calls Try.prog 140 #[v] w fun e w' => ∃ u, e = .returned (.tuple #[itemV (readI l) u, .int .i64 (readN l), .int .i64 (mayE (readOk l))]) ∧ MadeB w w' u (readI l).val := by
  unfold lenOk at hn
  simp only [decide_eq_true_eq] at hn
  have hB0 := (Below.refl w.heap.size w).alloc (Nat.le_refl _) (.cells #[.int .u8 ((l.getD 0 0).toNat : Int), .int .u32 0, .int .u32 0, .int .i64 0, .slice none 0 0] 56)
  have hv0 := hv.below hB0 (Nat.le_refl _)
  have q0 := alloc_cells w #[.int .u8 ((l.getD 0 0).toNat : Int), .int .u32 0, .int .u32 0, .int .i64 0, .slice none 0 0] 56
  obtain ⟨b, off, c, rfl, g0, g1, g2, g3, g4⟩ := hv.at_ (by omega)
  have c11 := g4 11 (l.getD 11 0) (by rw [List.getElem?_eq_getElem (by omega)]; simp [List.getD, show 11 < l.length by omega])
  have c0 := g4 0 (l.getD 0 0) (by rw [List.getElem?_eq_getElem (by omega)]; simp [List.getD, show 0 < l.length by omega])
  have hlt : 12 + ((l.getD 11 0).toNat : Int) ≤ (l.length : Int) := by omega
  have hl12 : (12 : Int) ≤ (l.length : Int) := by omega
  have hx := (l.getD 11 0).toNat_lt
  have hg1 := fun w h => getFour_any (.slice (some ⟨b, off, none⟩) l.length c) l 1 w h
  have hg5 := fun w h => getFour_any (.slice (some ⟨b, off, none⟩) l.length c) l 5 w h
  have hg9 := fun w h => getTwo_any (.slice (some ⟨b, off, none⟩) l.length c) l 9 w h
  have e1 := (get_yes' l 1 4 (by omega)).2
  have e5 := (get_yes' l 5 4 (by omega)).2
  have e9 := (get_yes' l 9 2 (by omega)).2
  have n1 := getN_lt l 1 4
  have n5 := getN_lt l 5 4
  simp only [Int.cast_ofNat_Int] at e1 e5 e9
  rw [e1] at hg1
  rw [e5] at hg5
  rw [e9] at hg9
  have hraw : rawI l = ⟨⟨l.getD 0 0, UInt32.ofNat (getN l 1 4), UInt32.ofNat (getN l 5 4)⟩, (getN l 9 2 : Nat), (l.drop 12).take (l.getD 11 0).toNat⟩ := rfl
  have hrI : readI l = if mayI (rawI l) then rawI l else zeroI := by unfold readI readOk lenOk; rw [decide_eq_true hn]; rfl
  have hrN : readN l = if mayI (rawI l) then 12 + (l.getD 11 0).toNat else 0 := by unfold readN readOk lenOk; rw [decide_eq_true hn]; rfl
  have hrO : readOk l = mayI (rawI l) := by unfold readOk lenOk; rw [decide_eq_true hn]; rfl
  have hvl : (List.take (l.getD 11 0).toNat (List.drop 12 l)).length = (l.getD 11 0).toNat := by rw [List.length_take, List.length_drop]; omega
  obtain ⟨A, hsl, hcut0⟩ := cut3_run b off l.length c 12 (12 + (l.getD 11 0).toNat) 12 (12 + ((l.getD 11 0).toNat : Int)) rfl (by omega) (by omega) (by omega) (by unfold maxLen at *; omega)
  simp only [Nat.add_sub_cancel_left] at hsl hcut0
  have hcut := fun W h => hcut0 W 0 w.heap.size l h (by omega)
  generalize getN l 1 4 = i1 at *
  generalize getN l 5 4 = i5 at *
  generalize getN l 9 2 = i9 at *
  generalize l.getD 11 0 = x at *
  generalize l.getD 0 0 = k at *
  generalize rawI l = R at *
  generalize readI l = RI at *
  generalize readN l = RN at *
  generalize readOk l = RO at *
  generalize List.take x.toNat (List.drop 12 l) = val at *
  have e1R : ∀ u, itemV R u = .agg #[.int .u8 (k.toNat : Int), .int .u32 (i1 : Int), .int .u32 (i5 : Int), .int .i64 (i9 : Int), u] := fun u => by
    rw [hraw, wV_of i1 n1, wV_of i5 n5]; rfl
  have hmay : ∀ w1 u, Bytes w1 0 w1.heap.size u val → Calls Try.prog 144 #[.agg #[.int .u8 (k.toNat : Int), .int .u32 (i1 : Int), .int .u32 (i5 : Int), .int .i64 (i9 : Int), u]] w1 fun e w' => e = .returned (.int .i64 (mayE (mayI R))) ∧ Below w1.heap.size w1 w' := fun w1 u hu => by
    rw [← e1R]
    exact icheck_any R u w1 (by rw [hraw]; exact hu)
  have htwin : ∀ w1 u, Bytes w1 0 w1.heap.size u val → Calls Try.prog 158 #[.agg #[.int .u8 (k.toNat : Int), .int .u32 (i1 : Int), .int .u32 (i5 : Int), .int .i64 (i9 : Int), u]] w1 fun e w' => ∃ u', e = .returned (.agg #[.int .u8 (k.toNat : Int), .int .u32 (i1 : Int), .int .u32 (i5 : Int), .int .i64 (i9 : Int), u']) ∧ MadeB w1 w' u' val := fun w1 u hu => by
    have h := itwin_any R u w1 (by rw [hraw]; exact hu) (by rw [hraw]; show val.length ≤ _; rw [hvl]; omega)
    rw [← e1R]
    refine h.mono fun e w' ⟨u', he, hm⟩ => ⟨u', ?_, ?_⟩
    · rw [he, e1R]
    · rw [hraw] at hm; exact hm
  unfold maxLen at g3
  have HG := Lib.hid (And.intro hg1 (And.intro hg5 hg9))
  have HF := Lib.hid (And.intro hrI (And.intro hrN (And.intro hrO (And.intro e1R hraw))))
  have HM := Lib.hid (And.intro hmay htwin)
  have HC := Lib.hid (And.intro hcut hvl)
  have HV := Lib.hid (And.intro hv0 (And.intro q0 hB0))
  simp only [bV, Nat.add_zero] at c11 c0
  clear hg1 hg5 hg9 hraw hrI hrN hrO n1 n5 e1 e5 e9 g4 hn hv e1R hmay htwin hcut0 hcut hvl hv0 q0 hB0
  go_enter Try.func140, Try.ntmps140
  go_wp2_with fail
  obtain ⟨hv, q, hB⟩ := HV.out
  clear HV
  generalize w.alloc (.cells #[.int .u8 (k.toNat : Int), .int .u32 0, .int .u32 0, .int .i64 0, .slice none 0 0] 56) = W at *
  have hlt0 := (Array.getElem?_eq_some_iff.1 q).1
  refine (HG.out.1 _ (hv.more (Nat.le_refl _) hB.size)).mono ?_
  rintro e x0 ⟨rfl, hb⟩
  replace q := (hb.block w.heap.size hlt0).trans q
  replace hv := hv.below hb hB.size
  replace hB := below_step hB hB.size hb
  clear hb hlt0
  have a0 := blk_cell q 0
  have f0 := blk_frozen q 0
  have a1 := blk_cell q 1
  have f1 := blk_frozen q 1
  have a2 := blk_cell q 2
  have f2 := blk_frozen q 2
  have a3 := blk_cell q 3
  have f3 := blk_frozen q 3
  have a4 := blk_cell q 4
  have f4 := blk_frozen q 4
  simp at a0 a1 a2 a3 a4
  have Hq := Lib.hid (And.intro q (And.intro hv hB))
  clear q hv hB
  go_upto_region 8 with (fail)
  obtain ⟨q, hv, hB⟩ := Hq.out
  replace q := set_block q 1 (.int .u32 (i1 : Int))
  simp only [List.setIfInBounds_toArray, List.set_cons_succ, List.set_cons_zero] at q
  replace hv := hv.setOff (g := w.heap.size) (i := 1) (u := .int .u32 (i1 : Int)) (.inr (Nat.le_refl _))
  replace hB := hB.setCell (p := ⟨w.heap.size, 1, none⟩) (Nat.le_refl _) (.int .u32 (i1 : Int))
  clear Hq
  clear a0 a1 a2 a3 a4 f0 f1 f2 f3 f4
  generalize x0.setCell ⟨w.heap.size, 1, none⟩ (.int .u32 (i1 : Int)) = y0 at *
  go_wp2_with fail
  have hlt0 := (Array.getElem?_eq_some_iff.1 q).1
  refine (HG.out.2.1 _ (hv.more (Nat.le_refl _) hB.size)).mono ?_
  rintro e x1 ⟨rfl, hb⟩
  replace q := (hb.block w.heap.size hlt0).trans q
  replace hv := hv.below hb hB.size
  replace hB := below_step hB hB.size hb
  clear hb hlt0
  have a0 := blk_cell q 0
  have f0 := blk_frozen q 0
  have a1 := blk_cell q 1
  have f1 := blk_frozen q 1
  have a2 := blk_cell q 2
  have f2 := blk_frozen q 2
  have a3 := blk_cell q 3
  have f3 := blk_frozen q 3
  have a4 := blk_cell q 4
  have f4 := blk_frozen q 4
  simp at a0 a1 a2 a3 a4
  have Hq := Lib.hid (And.intro q (And.intro hv hB))
  clear q hv hB
  go_upto_region 9 with (fail)
  obtain ⟨q, hv, hB⟩ := Hq.out
  replace q := set_block q 2 (.int .u32 (i5 : Int))
  simp only [List.setIfInBounds_toArray, List.set_cons_succ, List.set_cons_zero] at q
  replace hv := hv.setOff (g := w.heap.size) (i := 2) (u := .int .u32 (i5 : Int)) (.inr (Nat.le_refl _))
  replace hB := hB.setCell (p := ⟨w.heap.size, 2, none⟩) (Nat.le_refl _) (.int .u32 (i5 : Int))
  clear Hq
  clear a0 a1 a2 a3 a4 f0 f1 f2 f3 f4
  generalize x1.setCell ⟨w.heap.size, 2, none⟩ (.int .u32 (i5 : Int)) = y1 at *
  go_wp2_with fail
  have hlt0 := (Array.getElem?_eq_some_iff.1 q).1
  refine (HG.out.2.2 _ (hv.more (Nat.le_refl _) hB.size)).mono ?_
  rintro e x2 ⟨rfl, hb⟩
  replace q := (hb.block w.heap.size hlt0).trans q
  replace hv := hv.below hb hB.size
  replace hB := below_step hB hB.size hb
  clear hb hlt0
  have a0 := blk_cell q 0
  have f0 := blk_frozen q 0
  have a1 := blk_cell q 1
  have f1 := blk_frozen q 1
  have a2 := blk_cell q 2
  have f2 := blk_frozen q 2
  have a3 := blk_cell q 3
  have f3 := blk_frozen q 3
  have a4 := blk_cell q 4
  have f4 := blk_frozen q 4
  simp at a0 a1 a2 a3 a4
  have Hq := Lib.hid (And.intro q (And.intro hv hB))
  clear q hv hB
  go_upto_region 10 with (fail)
  obtain ⟨q, hv, hB⟩ := Hq.out
  replace q := set_block q 3 (.int .i64 (i9 : Int))
  simp only [List.setIfInBounds_toArray, List.set_cons_succ, List.set_cons_zero] at q
  replace hv := hv.setOff (g := w.heap.size) (i := 3) (u := .int .i64 (i9 : Int)) (.inr (Nat.le_refl _))
  replace hB := hB.setCell (p := ⟨w.heap.size, 3, none⟩) (Nat.le_refl _) (.int .i64 (i9 : Int))
  clear Hq
  clear a0 a1 a2 a3 a4 f0 f1 f2 f3 f4
  generalize x2.setCell ⟨w.heap.size, 3, none⟩ (.int .i64 (i9 : Int)) = y2 at *
  have a0 := blk_cell q 0
  have f0 := blk_frozen q 0
  have a1 := blk_cell q 1
  have f1 := blk_frozen q 1
  have a2 := blk_cell q 2
  have f2 := blk_frozen q 2
  have a3 := blk_cell q 3
  have f3 := blk_frozen q 3
  have a4 := blk_cell q 4
  have f4 := blk_frozen q 4
  simp at a0 a1 a2 a3 a4
  have Hq := Lib.hid (And.intro q (And.intro hv hB))
  clear q hv hB
  go_upto_region 11 with (fail)
  obtain ⟨q, hv, hB⟩ := Hq.out
  replace q := set_block q 4 (.slice (some A) x.toNat x.toNat)
  simp only [List.setIfInBounds_toArray, List.set_cons_succ, List.set_cons_zero] at q
  replace hv := hv.setOff (g := w.heap.size) (i := 4) (u := .slice (some A) x.toNat x.toNat) (.inr (Nat.le_refl _))
  replace hB := hB.setCell (p := ⟨w.heap.size, 4, none⟩) (Nat.le_refl _) (.slice (some A) x.toNat x.toNat)
  clear Hq hsl
  clear a0 a1 a2 a3 a4 f0 f1 f2 f3 f4
  generalize y2.setCell ⟨w.heap.size, 4, none⟩ (.slice (some A) x.toNat x.toNat) = V at *
  have a0 := blk_cell q 0
  have f0 := blk_frozen q 0
  have a1 := blk_cell q 1
  have f1 := blk_frozen q 1
  have a2 := blk_cell q 2
  have f2 := blk_frozen q 2
  have a3 := blk_cell q 3
  have f3 := blk_frozen q 3
  have a4 := blk_cell q 4
  have f4 := blk_frozen q 4
  simp at a0 a1 a2 a3 a4
  have hcv := HC.out.1 V hv
  have Hq := Lib.hid (And.intro q (And.intro hcv hB))
  clear q hv hB hcv
  go_wp2_with fail
  obtain ⟨q, hcv, hB⟩ := Hq.out
  have hlt0 := (Array.getElem?_eq_some_iff.1 q).1
  refine (HM.out.1 _ _ (hcv.more (Nat.le_refl _) hB.size)).mono ?_
  rintro e V1 ⟨rfl, hb⟩
  replace q := (hb.block w.heap.size hlt0).trans q
  replace hcv := hcv.below hb hB.size
  replace hB := below_step hB hB.size hb
  clear hb hlt0 Hq
  clear a0 a1 a2 a3 a4 f0 f1 f2 f3 f4
  have a0 := blk_cell q 0
  have f0 := blk_frozen q 0
  have a1 := blk_cell q 1
  have f1 := blk_frozen q 1
  have a2 := blk_cell q 2
  have f2 := blk_frozen q 2
  have a3 := blk_cell q 3
  have f3 := blk_frozen q 3
  have a4 := blk_cell q 4
  have f4 := blk_frozen q 4
  simp at a0 a1 a2 a3 a4
  have Hq := Lib.hid (And.intro q (And.intro hcv hB))
  clear q hcv hB
  obtain ⟨hRI, hRN, hRO, he1, hR⟩ := HF.out
  cases hmR : mayI R
  · rw [hmR] at hRI hRN hRO
    have e5 : itemV RI (.slice none 0 0) = .agg #[.int .u8 0, .int .u32 0, .int .u32 0, .int .i64 0, .slice none 0 0] := by rw [hRI]; rfl
    have e6 : (RN : Int) = 0 := by rw [hRN]; rfl
    have e7 : mayE RO = 8 := by rw [hRO]; rfl
    have e8 : RI.val = [] := by rw [hRI]; rfl
    have HE := Lib.hid (And.intro e5 (And.intro e6 (And.intro e7 e8)))
    have e9 : mayE false = 8 := rfl
    rw [e9]
    clear hR hRI hRN hRO e5 e6 e7 e8 hmR e9 he1
    go_wp2_with fail
    refine bodyPost_ret (v := .tuple #[.agg #[.int .u8 0, .int .u32 0, .int .u32 0, .int .i64 0, .slice none 0 0], .int .i64 0, .int .i64 8]) (by simp [results, Try.results140, go_sem, a0, a1, a2, a3, a4]) rfl ⟨.slice none 0 0, ?_, ?_⟩
    · rw [HE.out.1, HE.out.2.1, HE.out.2.2.1]
    · rw [HE.out.2.2.2]
      refine MadeB.nil_ ?_
      exact ((((Hq.out.2.2.setCell (p := ⟨w.heap.size, 0, none⟩) (Nat.le_refl _) _).setCell (p := ⟨w.heap.size, 1, none⟩) (Nat.le_refl _) _).setCell (p := ⟨w.heap.size, 2, none⟩) (Nat.le_refl _) _).setCell (p := ⟨w.heap.size, 3, none⟩) (Nat.le_refl _) _).setCell (p := ⟨w.heap.size, 4, none⟩) (Nat.le_refl _) _
  · rw [hmR] at hRI hRN hRO
    have e5 : ∀ u, itemV RI u = .agg #[.int .u8 (k.toNat : Int), .int .u32 (i1 : Int), .int .u32 (i5 : Int), .int .i64 (i9 : Int), u] := fun u => by
      rw [hRI, if_pos rfl, he1]
    have e6 : (RN : Int) = 12 + (x.toNat : Int) := by rw [hRN, if_pos rfl]; omega
    have e7 : mayE RO = 0 := by rw [hRO]; rfl
    have e8 : RI.val = val := by rw [hRI, if_pos rfl, hR]
    have HE := Lib.hid (And.intro e5 (And.intro e6 (And.intro e7 e8)))
    have e9 : mayE true = 0 := rfl
    rw [e9]
    clear hR hRI hRN hRO e5 e6 e7 e8 hmR e9 he1
    go_wp2_with fail
    obtain ⟨q, hcv, hB⟩ := Hq.out
    have hlt0 := (Array.getElem?_eq_some_iff.1 q).1
    refine (HM.out.2 _ _ (hcv.more (Nat.le_refl _) hB.size)).mono ?_
    rintro e V2 ⟨u, rfl, hm⟩
    obtain ⟨ua, uc, rfl, u1, u2⟩ := hm.bytes.form HC.out.2
    replace q := (hm.below.block w.heap.size hlt0).trans q
    have hB2 := below_step hB hB.size hm.below
    clear Hq
    clear a0 a1 a2 a3 a4 f0 f1 f2 f3 f4
    have a0 := blk_cell q 0
    have f0 := blk_frozen q 0
    have a1 := blk_cell q 1
    have f1 := blk_frozen q 1
    have a2 := blk_cell q 2
    have f2 := blk_frozen q 2
    have a3 := blk_cell q 3
    have f3 := blk_frozen q 3
    have a4 := blk_cell q 4
    have f4 := blk_frozen q 4
    simp at a0 a1 a2 a3 a4
    have HZ := Lib.hid (And.intro hm (And.intro hB2 hlt0))
    clear q hcv hB hB2 hm hlt0
    go_wp2_with fail
    refine bodyPost_ret (v := .tuple #[.agg #[.int .u8 (k.toNat : Int), .int .u32 (i1 : Int), .int .u32 (i5 : Int), .int .i64 (i9 : Int), .slice ua x.toNat uc], .int .i64 (12 + (x.toNat : Int)), .int .i64 0]) (by simp [results, Try.results140, go_sem, a0, a1, a2, a3, a4]) rfl ⟨.slice ua x.toNat uc, ?_, ?_⟩
    · rw [HE.out.1, HE.out.2.1, HE.out.2.2.1]
    · rw [HE.out.2.2.2]
      obtain ⟨hm, hB3, s1⟩ := HZ.out
      refine ⟨?_, ?_, ?_⟩
      · refine Bytes.more (lo := V1.heap.size) (hi := V2.heap.size) ?_ (Nat.le_of_lt s1) (by simp)
        exact ((((hm.bytes.setOff (.inl s1)).setOff (.inl s1)).setOff (.inl s1)).setOff (.inl s1)).setOff (.inl s1)
      · exact ((((hm.thawed.set _ _).set _ _).set _ _).set _ _).set _ _
      · exact ((((hB3.setCell (p := ⟨w.heap.size, 0, none⟩) (Nat.le_refl _) _).setCell (p := ⟨w.heap.size, 1, none⟩) (Nat.le_refl _) _).setCell (p := ⟨w.heap.size, 2, none⟩) (Nat.le_refl _) _).setCell (p := ⟨w.heap.size, 3, none⟩) (Nat.le_refl _) _).setCell (p := ⟨w.heap.size, 4, none⟩) (Nat.le_refl _) _

theorem iread_any (v : Value) (l : List UInt8) (w : World) (hv : Bytes w 0 w.heap.size v l) :
    Calls Try.prog 140 #[v] w fun e w' => ∃ u, e = .returned (.tuple #[itemV (readI l) u, .int .i64 (readN l), .int .i64 (mayE (readOk l))]) ∧ MadeB w w' u (readI l).val := by
  cases h : lenOk l
  · have h1 : readOk l = false := by unfold readOk; rw [h]; rfl
    have h2 : readI l = zeroI := by unfold readI; rw [h1]; rfl
    have h3 : readN l = 0 := by unfold readN; rw [h1]; rfl
    rw [h1, h2, h3]
    exact (iread_no v l w hv h).mono fun e w' ⟨he, hB⟩ => ⟨_, he, MadeB.nil_ hB⟩
  · exact iread_yes v l w hv h
end Go.Proofs.Ytcibihakjcenaaa

namespace Go.Proofs.Ytcibihakjcenaaa
open Go.RowKit

theorem u32_of_toNat (x : UInt32) : UInt32.ofNat x.toNat = x := by simp
theorem twelve (b : List UInt8) (h : 12 ≤ b.length) : ∃ x0 x1 x2 x3 x4 x5 x6 x7 x8 x9 x10 x11 r, b = x0 :: x1 :: x2 :: x3 :: x4 :: x5 :: x6 :: x7 :: x8 :: x9 :: x10 :: x11 :: r := by
  match b, h with
  | x0 :: x1 :: x2 :: x3 :: x4 :: x5 :: x6 :: x7 :: x8 :: x9 :: x10 :: x11 :: r, _ => exact ⟨x0, x1, x2, x3, x4, x5, x6, x7, x8, x9, x10, x11, r, rfl⟩
/-- The bytes of an item, whatever is behind, are read as that item. -/
theorem raw_item (x : ItemL) (h : mayI x = true) (bh : List UInt8) : lenOk (itemB x ++ bh) = true ∧ rawI (itemB x ++ bh) = x ∧ ((itemB x ++ bh).getD 11 0).toNat = x.val.length := by
  obtain ⟨h0, h1, h2⟩ := may_ref h
  obtain ⟨⟨k, i, o⟩, r, l⟩ := x
  obtain ⟨r, rfl⟩ := Int.eq_ofNat_of_zero_le h0
  simp only at h1 h2
  have hn : (UInt8.ofNat l.length).toNat = l.length := by rw [UInt8.toNat_ofNat']; omega
  have hb : itemB ⟨⟨k, i, o⟩, (r : Int), l⟩ ++ bh = k :: (fourL i.toNat ++ (fourL o.toNat ++ (twoL r ++ (UInt8.ofNat l.length :: (l ++ bh))))) := by
    simp [itemB]
  have h11 : (itemB ⟨⟨k, i, o⟩, (r : Int), l⟩ ++ bh).getD 11 0 = UInt8.ofNat l.length := by rw [hb]; simp [fourL, twoL]
  have hl : (itemB ⟨⟨k, i, o⟩, (r : Int), l⟩ ++ bh).length = 12 + l.length + bh.length := by rw [List.length_append, itemB_length]
  have g1 := (get_yes' (itemB ⟨⟨k, i, o⟩, (r : Int), l⟩ ++ bh) 1 4 (by omega)).1
  have g5 := (get_yes' (itemB ⟨⟨k, i, o⟩, (r : Int), l⟩ ++ bh) 5 4 (by omega)).1
  have g9 := (get_yes' (itemB ⟨⟨k, i, o⟩, (r : Int), l⟩ ++ bh) 9 2 (by omega)).1
  have e1 : ((itemB ⟨⟨k, i, o⟩, (r : Int), l⟩ ++ bh).drop 1).take 4 = fourL i.toNat := by rw [hb]; simp [fourL]
  have e5 : ((itemB ⟨⟨k, i, o⟩, (r : Int), l⟩ ++ bh).drop 5).take 4 = fourL o.toNat := by rw [hb]; simp [fourL]
  have e9 : ((itemB ⟨⟨k, i, o⟩, (r : Int), l⟩ ++ bh).drop 9).take 2 = twoL r := by rw [hb]; simp [fourL, twoL]
  have e12 : (itemB ⟨⟨k, i, o⟩, (r : Int), l⟩ ++ bh).drop 12 = l ++ bh := by rw [hb]; simp [fourL, twoL]
  have e0 : (itemB ⟨⟨k, i, o⟩, (r : Int), l⟩ ++ bh).getD 0 0 = k := by rw [hb]; simp
  have hi := i.toNat_lt
  have ho := o.toNat_lt
  rw [e1, numOf_fourL _ (by omega)] at g1
  rw [e5, numOf_fourL _ (by omega)] at g5
  rw [e9, numOf_twoL _ (by omega)] at g9
  refine ⟨?_, ?_, ?_⟩
  · unfold lenOk
    rw [h11, hn, hl]
    simp only [decide_eq_true_eq]
    omega
  · unfold rawI
    simp only [Int.cast_ofNat_Int] at g1 g5 g9
    rw [e0, g1, g5, g9, h11, hn, e12, u32_of_toNat, u32_of_toNat, List.take_left]
  · rw [h11, hn]
theorem read_item (x : ItemL) (h : mayI x = true) (bh : List UInt8) : readOk (itemB x ++ bh) = true ∧ readI (itemB x ++ bh) = x ∧ readN (itemB x ++ bh) = (itemB x).length := by
  obtain ⟨h1, h2, h3⟩ := raw_item x h bh
  have h4 : readOk (itemB x ++ bh) = true := by unfold readOk; rw [h1, h2, h]; rfl
  exact ⟨h4, by unfold readI; rw [if_pos h4, h2], by unfold readN; rw [if_pos h4, h3, itemB_length]⟩
/-- What is read has just these bytes. -/
theorem item_read (b : List UInt8) (h : readOk b = true) : mayI (readI b) = true ∧ itemB (readI b) = b.take (readN b) ∧ readN b ≤ b.length := by
  have h' := h
  unfold readOk at h'
  simp only [Bool.and_eq_true] at h'
  obtain ⟨h1, h2⟩ := h'
  have e1 : readI b = rawI b := by unfold readI; rw [if_pos h]
  have e2 : readN b = 12 + (b.getD 11 0).toNat := by unfold readN; rw [if_pos h]
  have h3 := h1
  unfold lenOk at h3
  simp only [decide_eq_true_eq] at h3
  obtain ⟨h4, h5⟩ := h3
  rw [e1, e2]
  refine ⟨h2, ?_, h5⟩
  have n1 := getN_lt b 1 4
  have n5 := getN_lt b 5 4
  have g1 := (get_yes' b 1 4 (by omega)).1
  have g5 := (get_yes' b 5 4 (by omega)).1
  have g9 := (get_yes' b 9 2 (by omega)).1
  have f1 := four_of b 1 (by omega)
  have f5 := four_of b 5 (by omega)
  have f9 := two_of b 9 (by omega)
  simp only [Int.cast_ofNat_Int] at g1 g5 g9
  rw [← g1] at f1
  rw [← g5] at f5
  rw [← g9] at f9
  have hv : ((b.drop 12).take (b.getD 11 0).toNat).length = (b.getD 11 0).toNat := by rw [List.length_take, List.length_drop]; omega
  have hi : (UInt32.ofNat (getN b 1 4)).toNat = getN b 1 4 := by rw [UInt32.toNat_ofNat']; omega
  have ho : (UInt32.ofNat (getN b 5 4)).toNat = getN b 5 4 := by rw [UInt32.toNat_ofNat']; omega
  unfold itemB rawI
  simp only
  rw [hi, ho, hv, Int.toNat_natCast, f1, f5, f9, List.take_add]
  congr 1
  obtain ⟨x0, x1, x2, x3, x4, x5, x6, x7, x8, x9, x10, x11, r, rfl⟩ := twelve b h4
  simp
end Go.Proofs.Ytcibihakjcenaaa

namespace Go.Proofs.Ytcibihakjcenaaa
open Go.RowKit

/-- A disk, and where it lies. -/
structure DR (V : World) (lo hi : Nat) (b u : Value) (d : DiskL) : Prop where
  v : DiskV V lo hi b u d
  hi : hi ≤ V.heap.size
theorem DR.step {V V' : World} {lo hi : Nat} {b u : Value} {d : DiskL} (h : DR V lo hi b u d) (hst : Below V.heap.size V V') : DR V' lo hi b u d := ⟨⟨h.v.1.below hst h.hi, h.v.2.below hst h.hi⟩, Nat.le_trans h.hi hst.size⟩
theorem DR.v0 {V : World} {lo hi : Nat} {b u : Value} {d : DiskL} (h : DR V lo hi b u d) : DiskV V 0 V.heap.size b u d := h.v.more (Nat.zero_le _) h.hi
theorem DR.of {V V' : World} {b u : Value} {d : DiskL} (h : MadeD V V' b u d) : DR V' V.heap.size V'.heap.size b u d := ⟨h.disk.v, Nat.le_refl _⟩
structure BR (V : World) (lo hi : Nat) (v : Value) (l : List UInt8) : Prop where
  v : Bytes V lo hi v l
  hi : hi ≤ V.heap.size
theorem BR.step {V V' : World} {lo hi : Nat} {v : Value} {l : List UInt8} (h : BR V lo hi v l) (hst : Below V.heap.size V V') : BR V' lo hi v l := ⟨h.v.below hst h.hi, Nat.le_trans h.hi hst.size⟩
theorem BR.v0 {V : World} {lo hi : Nat} {v : Value} {l : List UInt8} (h : BR V lo hi v l) : Bytes V 0 V.heap.size v l := h.v.more (Nat.zero_le _) h.hi

end Go.Proofs.Ytcibihakjcenaaa

namespace Go.Proofs.Ytcibihakjcenaaa
open Go.RowKit

/-- The cells of some writes. -/
def wcells (bs : List (Int × Value)) : List Value := bs.flatMap fun x => [.int .i64 x.1, x.2]
theorem wcells_length (bs : List (Int × Value)) : (wcells bs).length = bs.length * 2 := by
  induction bs with
  | nil => rfl
  | cons x l ih =>
    show ([Value.int .i64 x.1, x.2] ++ wcells l).length = _
    rw [List.length_append, ih]
    simp
    omega
theorem wcells_get (bs : List (Int × Value)) (i : Nat) (x : Int × Value) (h : bs[i]? = some x) : (wcells bs)[i * 2]? = some (.int .i64 x.1) ∧ (wcells bs)[i * 2 + 1]? = some x.2 := by
  induction bs generalizing i with
  | nil => simp at h
  | cons y l ih =>
    cases i with
    | zero => simp at h; subst h; exact ⟨rfl, rfl⟩
    | succ i =>
      obtain ⟨h1, h2⟩ := ih i (by simpa using h)
      have e : wcells (y :: l) = .int .i64 y.1 :: y.2 :: wcells l := rfl
      rw [e, show (i + 1) * 2 = i * 2 + 1 + 1 by omega, show i * 2 + 1 + 1 + 1 = (i * 2 + 1) + 1 + 1 by omega, List.getElem?_cons_succ, List.getElem?_cons_succ, List.getElem?_cons_succ, List.getElem?_cons_succ]
      exact ⟨h1, h2⟩
theorem wcells_inv (bs : List (Int × Value)) (j : Nat) (u : Value) (h : (wcells bs)[j]? = some u) : ∃ i x, bs[i]? = some x ∧ ((j = i * 2 ∧ u = .int .i64 x.1) ∨ (j = i * 2 + 1 ∧ u = x.2)) := by
  have hj : j < bs.length * 2 := by rw [← wcells_length]; exact (List.getElem?_eq_some_iff.1 h).1
  have hi : j / 2 < bs.length := by omega
  refine ⟨j / 2, bs[j / 2], by simp [hi], ?_⟩
  obtain ⟨h1, h2⟩ := wcells_get bs (j / 2) bs[j / 2] (by simp [hi])
  rcases Nat.mod_two_eq_zero_or_one j with e | e
  · left
    have e2 : j = j / 2 * 2 := by omega
    rw [e2] at h
    exact ⟨e2, Option.some.inj (h.symm.trans h1)⟩
  · right
    have e2 : j = j / 2 * 2 + 1 := by omega
    rw [e2] at h
    exact ⟨e2, Option.some.inj (h.symm.trans h2)⟩

/-- Writes that may be appended: their cells are there; their bytes lie in W. -/
def SrcW (W w : World) (sv : Value) (l : List WrL) : Prop := ∃ a c, sv = .slice a l.length c ∧ (a = none → c = 0 ∧ l = []) ∧
  ∃ bs : List (Int × Value), bs.length = l.length ∧ (∀ (i : Nat) (x : WrL), l[i]? = some x → ∃ y : Value, bs[i]? = some (x.at_, y) ∧ (Lit.int .i64 x.at_).wf = true ∧ Bytes W 0 W.heap.size y x.data) ∧
    ∀ ad, a = some ad → ∀ j u, (wcells bs)[j]? = some u → w.cell? (ad.add j) = some u
theorem SrcW.of {W w : World} {sv : Value} {l : List WrL} (h : Sl rWrite W 0 W.heap.size sv l) (hB : Below W.heap.size W w) : SrcW W w sv l := by
  obtain ⟨a, c, rfl, h1, h2, h3, h4⟩ := id h
  refine ⟨a, c, rfl, fun e => ⟨h4 e, List.eq_nil_of_length_eq_zero (by have := h4 e; omega)⟩, ?_⟩
  obtain ⟨bs, hbl, hba⟩ := list_of (n := l.length) (p := fun i (x : Int × Value) => x.1 = (l.getD i ⟨0, []⟩).at_ ∧ (Lit.int .i64 x.1).wf = true ∧ Bytes W 0 W.heap.size x.2 (l.getD i ⟨0, []⟩).data ∧ ∀ ad, a = some ad → W.cell? (ad.add (i * 2)) = some (.int .i64 x.1) ∧ W.cell? (ad.add (i * 2 + 1)) = some x.2 ∧ ad.block < W.heap.size ∧ ad.spot = none) (fun i hi => by
    obtain ⟨b, off, rfl, hlo, hhi, hc⟩ := h3 (by omega)
    obtain ⟨f0, f1, v, f2, f3⟩ := hc i _ (get_l l ⟨0, []⟩ i hi)
    refine ⟨((l.getD i ⟨0, []⟩).at_, v), rfl, f1, f3, fun ad e => ?_⟩
    cases e
    have e2 : ∀ j, (⟨b, off, none⟩ : Addr).add j = ⟨b, off + j, none⟩ := fun j => by unfold Addr.add; split <;> simp_all
    rw [e2, e2]
    exact ⟨f0, f2, hhi, rfl⟩)
  refine ⟨bs, hbl, fun i x hx => ?_, fun ad e j u hj => ?_⟩
  · have hi : i < l.length := (List.getElem?_eq_some_iff.1 hx).1
    have hb : bs[i]? = some (bs[i]'(by omega)) := by simp
    obtain ⟨p1, p2, p3, -⟩ := hba i _ hb
    rw [get_l l ⟨0, []⟩ i hi] at hx
    cases hx
    refine ⟨(bs[i]'(by omega)).2, ?_, by rw [← p1]; exact p2, p3⟩
    rw [hb, ← p1]
  · obtain ⟨i, x, hx, hh⟩ := wcells_inv bs j u hj
    obtain ⟨-, -, -, p4⟩ := hba i x hx
    obtain ⟨q1, q2, q3, q4⟩ := p4 ad e
    have hk : ∀ k, w.cell? (ad.add k) = W.cell? (ad.add k) := fun k => by
      obtain ⟨bb, oo, ss⟩ := ad
      simp only at q3 q4
      subst q4
      have e2 : (⟨bb, oo, none⟩ : Addr).add k = ⟨bb, oo + k, none⟩ := by unfold Addr.add; split <;> simp_all
      rw [e2]
      exact hB.cell (p := ⟨bb, oo + k, none⟩) q3
    rcases hh with ⟨rfl, rfl⟩ | ⟨rfl, rfl⟩
    · rw [hk]; exact q1
    · rw [hk]; exact q2
theorem OwnW.same {base : Nat} {W w w' : World} {v : Value} {l : List WrL} (h : OwnW base W w v l) (hs : ∀ k, base ≤ k → ∀ o, w.heap[k]? = some o → w'.heap[k]? = some o) : OwnW base W w' v l := by
  obtain ⟨xs, ⟨hl, hrow⟩, hx⟩ := h
  refine ⟨xs, ⟨hl, ?_⟩, hx⟩
  rcases hrow with h | ⟨g, cap, cur, e, hg, hh, h1, h2, h3, h4⟩
  · exact .inl h
  · exact .inr ⟨g, cap, cur, e, hg, hs g hg _ hh, h1, h2, h3, h4⟩
theorem OwnW.set {base : Nat} {W w : World} {v : Value} {l : List WrL} (h : OwnW base W w v l) (r o : Nat) (u : Value) (hr : r < base) : OwnW base W (w.setCell ⟨r, o, none⟩ u) v l :=
  h.same fun k hk _ hx => (set_other w r o u k (by omega)).trans hx
theorem OwnW.alloc {base : Nat} {W w : World} {v : Value} {l : List WrL} (h : OwnW base W w v l) (o : Obj) : OwnW base W (w.alloc o) v l :=
  h.same fun k _ _ hx => (Below.heap_alloc w o k (Array.getElem?_eq_some_iff.1 hx).1).trans hx

/-- What a call answered: a disk; nothing that was there has turned. -/
structure GotD (w w' : World) (b u : Value) (d : DiskL) : Prop where
  disk : DiskV w' 0 w'.heap.size b u d
  below : Below w.heap.size w w'
/-- A disk whose data lies below hi, or in what was made from w on. -/
structure GotK (hi : Nat) (w w' : World) (b u : Value) (d : DiskL) : Prop where
  disk : ∀ W : World, w'.heap.size ≤ W.heap.size → (∀ k, k < hi ∨ w.heap.size ≤ k → k < w'.heap.size → W.heap[k]? = w'.heap[k]?) → DiskV W 0 W.heap.size b u d
  below : Below w.heap.size w w'
end Go.Proofs.Ytcibihakjcenaaa

namespace Go.Proofs.Ytcibihakjcenaaa
open Go.RowKit

theorem GotD.nil_ {w w' : World} (h : Below w.heap.size w w') : GotD w w' (.slice none 0 0) (.slice none 0 0) ⟨[], []⟩ := ⟨DiskV.nil_ _ _ _, h⟩

theorem GotK.nil_ {hi : Nat} {w w' : World} (h : Below w.heap.size w w') : GotK hi w w' (.slice none 0 0) (.slice none 0 0) ⟨[], []⟩ := ⟨fun _ _ _ => ⟨Sl.nil_ _ _ _, Sl.nil_ _ _ _⟩, h⟩
end Go.Proofs.Ytcibihakjcenaaa

namespace Go.Proofs.Ytcibihakjcenaaa
open Go.RowKit

theorem SrcW.to {W W2 w : World} {sv : Value} {l : List WrL} (h : SrcW W w sv l) (hk : ∀ v x, Bytes W 0 W.heap.size v x → Bytes W2 0 W2.heap.size v x) : SrcW W2 w sv l := by
  obtain ⟨a, c, e, hn, bs, hbl, hba, hcl⟩ := h
  exact ⟨a, c, e, hn, bs, hbl, fun i x hx => by obtain ⟨y, p1, p2, p3⟩ := hba i x hx; exact ⟨y, p1, p2, hk _ _ p3⟩, hcl⟩

end Go.Proofs.Ytcibihakjcenaaa

namespace Go.Proofs.Ytcibihakjcenaaa
open Go.RowKit

/-- The blocks of a call's own variables. -/
def boxS (lo n : Nat) (k : Nat) : Bool := decide (lo ≤ k) && decide (k < lo + n)
theorem boxS_no {lo n k : Nat} (h : lo + n ≤ k) : boxS lo n k = false := by unfold boxS; simp; omega
theorem boxS_yes {lo n k : Nat} (h1 : lo ≤ k) (h2 : k < lo + n) : boxS lo n k = true := by unfold boxS; simp; omega
end Go.Proofs.Ytcibihakjcenaaa

