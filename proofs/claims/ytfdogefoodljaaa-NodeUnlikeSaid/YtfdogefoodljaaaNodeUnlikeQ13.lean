/- NodeUnlike: the words and contracts, part 13. -/
import Derived.Test.YtfdogefoodljaaaNodeUnlikeQ1
import Derived.Test.YtfdogefoodljaaaNodeUnlikeQ2
import Derived.Test.YtfdogefoodljaaaNodeUnlikeQ3
import Derived.Test.YtfdogefoodljaaaNodeUnlikeQ4
import Derived.Test.YtfdogefoodljaaaNodeUnlikeQ5
import Derived.Test.YtfdogefoodljaaaNodeUnlikeQ6
import Derived.Test.YtfdogefoodljaaaNodeUnlikeQ7
import Derived.Test.YtfdogefoodljaaaNodeUnlikeQ8
import Derived.Test.YtfdogefoodljaaaNodeUnlikeQ9
import Derived.Test.YtfdogefoodljaaaNodeUnlikeQ10
import Derived.Test.YtfdogefoodljaaaNodeUnlikeQ11
import Derived.Test.YtfdogefoodljaaaNodeUnlikeQ12
import Derived.WalkKit
import Derived.WalkLawsBesides
import Derived.WalkSpells
import Derived.Lib.Hide
import Derived.Laws.Rows
import Derived.Laws.AppendOwnNone
import Derived.Maps.AppendAt
import Derived.ProofKit
import Derived.Deep.Slices
import Derived.WideShapes
import Derived.RangeFuncNested
import Derived.RangeFuncBound
import Derived.RangeFuncCalls
import Derived.RangeFuncLeaves
import Derived.RangeFuncBox
import Derived.Shelf.Abstract
import Derived.Shelf.RegionOpen
import Derived.OwnWalkIn
import Derived.TacticsInMore
import Derived.LoopNIn
import Derived.LoopIn
import Derived.Lib.AppendZerosOnto
import Derived.Lib.SliceRun
import Derived.Lib.Walk
import Derived.Deep.LoopGhost
import Derived.Laws.CopyOwn
import Derived.Laws.CopyRow
import Derived.OrdersHeld
import Derived.Deep.QuietTactic
import Derived.BigQuiet
import Derived.StillTailTactics
import Derived.OpenShut
import Derived.Deep.DeepCutAuto
import Derived.Deep.RegionHeld
import Derived.Laws.MakeOwn
import Derived.KernelRfl
namespace Go.Proofs.Ytfdogefoodljaaa
open Go.RowKit

def bodyN (its : List ItemL) : List UInt8 := (its.map itemB).flatten
def headN (n : NodeL) : List UInt8 := [78, UInt8.ofNat n.level.toNat, UInt8.ofNat n.items.length]
def bytesN (n : NodeL) : List UInt8 := headN n ++ bodyN n.items
def blockN (n : NodeL) : List UInt8 := if mayN n then sealL (bytesN n) else []
theorem mayN_all {n : NodeL} (h : mayN n = true) : (0 ≤ n.level ∧ n.level < 6) ∧ n.items.length ≤ 5 ∧ (n.level ≤ 0 ∨ n.items.length ≠ 0) ∧ ∀ i, i < n.items.length → stepN n i = true := by
  unfold mayN at h
  simp only [Bool.and_eq_true, decide_eq_true_eq, Bool.or_eq_true, bne_iff_ne, List.all_eq_true, List.mem_range] at h
  exact ⟨⟨h.1.1.1.1, h.1.1.1.2⟩, h.1.1.2, h.1.2, h.2⟩
theorem stepN_may {n : NodeL} {i : Nat} (h : stepN n i = true) : mayI (n.items.getD i nokI) = true := by
  unfold stepN at h
  simp only [Bool.and_eq_true] at h
  exact h.1.1
theorem itemB_len' {x : ItemL} (h : mayI x = true) : (itemB x).length ≤ 24 := by
  have h1 : x.val.length ≤ 12 := by
    unfold mayI at h
    exact (of_decide_eq_true h).2
  have h2 : (itemB x).length = 12 + x.val.length := itemB_length x
  omega
theorem bodyN_len (its : List ItemL) (h : ∀ x ∈ its, mayI x = true) : (bodyN its).length ≤ its.length * 24 := by
  induction its with
  | nil => simp [bodyN]
  | cons x l ih =>
    have h1 := itemB_len' (h x (List.mem_cons_self ..))
    have h2 := ih (fun y hy => h y (List.mem_cons_of_mem _ hy))
    unfold bodyN at h2 ⊢
    simp only [List.map_cons, List.flatten_cons, List.length_append, List.length_cons]
    omega
theorem mem_getD {α : Type} {l : List α} {x d : α} (h : x ∈ l) : ∃ i, i < l.length ∧ l.getD i d = x := by
  obtain ⟨i, hi, e⟩ := List.mem_iff_getElem.1 h
  exact ⟨i, hi, by simp [hi, e]⟩
theorem mayN_items {n : NodeL} (h : mayN n = true) : ∀ x ∈ n.items, mayI x = true := fun x hx => by
  obtain ⟨i, hi, rfl⟩ := mem_getD (d := nokI) hx
  exact stepN_may ((mayN_all h).2.2.2 i hi)
theorem bytesN_len {n : NodeL} (h : mayN n = true) : (bytesN n).length ≤ 124 := by
  have h1 := bodyN_len n.items (mayN_items h)
  have h2 := (mayN_all h).2.1
  unfold bytesN headN
  simp only [List.length_append, List.length_cons, List.length_nil]
  omega
theorem bodyN_succ (its : List ItemL) (k : Nat) (h : k < its.length) : bodyN (its.take (k + 1)) = bodyN (its.take k) ++ itemB (its.getD k nokI) := by
  unfold bodyN
  rw [List.take_succ_eq_append_getElem h, List.map_append, List.flatten_append]
  simp [h]
theorem own_lit (w : World) (l : List UInt8) (cs : Array Value) (e : TypeId) (base : Nat) (hb : base ≤ w.heap.size) (hl : l.length ≤ maxLen) (hcs : cs = (l.map bV).toArray) (n : Nat) (hn : n = l.length) : OwnB base e (w.alloc (.cells cs e)) (.slice (some ⟨w.heap.size, 0, none⟩) n n) l := by
  subst hcs hn
  refine ⟨by simp, .inr ⟨w.heap.size, l.length, _, rfl, hb, World.alloc_heap_new w _, Nat.le_refl _, hl, by simp, by simp only [Nat.mul_one]; exact List.take_of_length_le (by simp)⟩⟩

set_option maxRecDepth 100000 in
set_option maxHeartbeats 4000000 in
/-- node.Write. -/
theorem nwrite_any (n : NodeL) (v : Value) (w : World) (h : Sl rItem w 0 w.heap.size v n.items) :
    Calls Try.prog 36 #[.agg #[.int .i64 n.level, v]] w fun e w' => ∃ u, e = .returned (.tuple #[u, .int .i64 (mayE (mayN n))]) ∧ MadeB w w' u (blockN n) := by
  have k1 := fun V v hh => ncheck_any n v V hh
  cases hm : mayN n with
  | false =>
    rw [hm] at k1
    obtain ⟨av, cv, rfl, -, -, -, -⟩ := id h
    have hst := (Below.refl w.heap.size w).alloc (Nat.le_refl _) (.cells #[.int .i64 n.level, .slice av n.items.length cv] 62)
    have hq := World.alloc_heap_new w (.cells #[.int .i64 n.level, .slice av n.items.length cv] 62)
    have K1 := Lib.hid (k1 _ _ (h.step hst))
    have hbl : blockN n = [] := by unfold blockN; rw [hm]; rfl
    rw [hbl]
    clear k1 hm h hbl
    obtain ⟨V, hV⟩ : ∃ V, w.alloc (.cells #[.int .i64 n.level, .slice av n.items.length cv] 62) = V := ⟨_, rfl⟩
    rw [hV] at hst hq K1
    have c0 := blk_cell hq 0
    have c1 := blk_cell hq 1
    simp at c0 c1
    have HB := Lib.hid hst
    clear hst hq
    go_enter Try.func36, Try.ntmps36
    go_wp2_with fail
    refine K1.out.mono ?_
    rintro e w1 ⟨rfl, hst⟩
    have me8 : mayE false = 8 := rfl
    rw [me8]
    go_wp2
    go_ret2
    exact ⟨_, rfl, MadeB.nil_ (below_step HB.out HB.out.size hst)⟩
  | true =>
  rw [hm] at k1
  have me0 : mayE true = 0 := rfl
  rw [me0] at k1 ⊢
  obtain ⟨⟨l0, l6⟩, l5, -, -⟩ := mayN_all hm
  have hbl : blockN n = sealL (headN n ++ bodyN n.items) := by unfold blockN; rw [hm]; rfl
  have HLN := Lib.hid (bytesN_len hm)
  have HIT := Lib.hid (mayN_items hm)
  rw [hbl]
  obtain ⟨lvi, its⟩ := n
  simp only at *
  obtain ⟨lv, rfl⟩ : ∃ lv : Nat, lvi = lv := ⟨lvi.toNat, by omega⟩
  obtain ⟨hd, hhd⟩ : ∃ hd, headN ⟨lv, its⟩ = hd := ⟨_, rfl⟩
  have hhd2 : hd = [78, UInt8.ofNat lv, UInt8.ofNat its.length] := by rw [← hhd]; unfold headN; simp
  unfold bytesN at HLN
  simp only at HLN
  rw [hhd] at HLN ⊢
  have HHD := Lib.hid hhd2
  obtain ⟨av, cv, rfl, g1, g2, -, -⟩ := id h
  unfold maxLen at g2
  have hst := (Below.refl w.heap.size w).alloc (Nat.le_refl _) (.cells #[.int .i64 (lv : Nat), .slice av its.length cv] 62)
  have qn := LK.new w (.cells #[.int .i64 (lv : Nat), .slice av its.length cv] 62)
  have hB : LW w _ := hst
  have hS := (LS.of h (Nat.le_refl _)).step hst
  have sz_V : w.heap.size < (w.alloc (.cells #[.int .i64 (lv : Nat), .slice av its.length cv] 62)).heap.size := by simp
  obtain ⟨V, hV⟩ : ∃ V, w.alloc (.cells #[.int .i64 (lv : Nat), .slice av its.length cv] 62) = V := ⟨_, rfl⟩
  rw [hV] at hB hS qn sz_V
  clear h hst hm hbl me0 hhd hhd2
  have K1 := Lib.hid k1
  clear k1
  have HQ := Lib.hid (And.intro qn (And.intro hS hB))
  clear qn hS hB
  have c_qn0 := LK.cell HQ.out.1 0
  have c_qn1 := LK.cell HQ.out.1 1
  simp at c_qn0 c_qn1
  go_enter Try.func36, Try.ntmps36
  go_upto_region 1 with (fail)
  clear hV
  go_wp2_with fail
  refine (K1.out _ _ HQ.out.2.1.v).mono ?_
  rintro e w1 ⟨rfl, hst⟩
  clear c_qn0 c_qn1
  obtain ⟨qn, hS, hB⟩ := HQ.out
  clear HQ
  have sz_w1 : V.heap.size ≤ w1.heap.size := hst.size
  replace qn := qn.step hst
  replace hS := hS.step hst
  replace hB := hB.step hst
  clear hst
  have HQ := Lib.hid (And.intro qn (And.intro hS hB))
  clear qn hS hB
  have c_qn0 := LK.cell HQ.out.1 0
  have c_qn1 := LK.cell HQ.out.1 1
  simp at c_qn0 c_qn1
  have i5 : (its.length : Int) < 256 := by omega
  have i6 : (lv : Int) < 256 := by omega
  go_upto_region 5 with (fail)
  clear c_qn0 c_qn1
  obtain ⟨qn, hS, hB⟩ := HQ.out
  clear HQ
  have hst := (Below.refl w1.heap.size w1).alloc (Nat.le_refl _) (.cells #[.int .u8 78, .int .u8 (lv : Nat), .int .u8 (its.length : Nat)] 5)
  have hown := own_lit w1 hd #[.int .u8 78, .int .u8 (lv : Nat), .int .u8 (its.length : Nat)] 5 w1.heap.size (Nat.le_refl _) (by rw [HHD.out]; simp [maxLen]) (by rw [HHD.out]; simp [bV]; constructor <;> omega) 3 (by rw [HHD.out]; rfl)
  obtain ⟨wb, hw⟩ : ∃ v, w1.alloc (.cells #[.int .u8 78, .int .u8 (lv : Nat), .int .u8 (its.length : Nat)] 5) = v := ⟨_, rfl⟩
  have hqb := qn.step hst
  rw [hw] at hst hown hqb ⊢
  clear hw
  have cb0 := LK.cell hqb 0
  have cb1 := LK.cell hqb 1
  simp at cb0 cb1
  have HQ := Lib.hid (And.intro qn (And.intro hS hB))
  clear qn hS hB
  have HOW := Lib.hid (And.intro hown hst)
  clear hown hst hqb
  go_wp2_with fail
  go_loopw [5, 26] (fun s i wr => ∃ j : Nat, j ≤ its.length ∧ i = .int .i64 j ∧ OwnB w1.heap.size 5 wr s (hd ++ bodyN (its.take j)) ∧ Below w1.heap.size w1 wr) (fun _ i _ => its.length - (intOf i).toNat)
  case atStart => exact ⟨0, Nat.zero_le _, rfl, by simpa [bodyN] using HOW.out.1, HOW.out.2⟩
  case round =>
  obtain ⟨j, hj, rfl, hown, hBr⟩ := hrel
  clear cb0 cb1
  have hst := hBr
  obtain ⟨qn, hS, hB⟩ := HQ.out
  clear HQ
  have sz_wr : w1.heap.size ≤ wr.heap.size := hst.size
  replace qn := qn.step hst
  replace hS := hS.step hst
  replace hB := hB.step hst
  clear hst
  have HQ := Lib.hid (And.intro qn (And.intro hS hB))
  clear qn hS hB
  have c_qn0 := LK.cell HQ.out.1 0
  have c_qn1 := LK.cell HQ.out.1 1
  simp at c_qn0 c_qn1
  by_cases hlt : j < its.length
  · obtain ⟨bb, bo, cb, e1, -, -, -, zc, hcell⟩ := HQ.out.2.1.v.at_ (by omega)
    injection e1 with e1 _ e2
    subst e1 e2
    obtain ⟨f0, f1, f2, f3, f3w, vx, f4, hvx⟩ := hcell j (its.getD j nokI) (get_l _ _ _ hlt)
    have hsc := bodyN_succ its j hlt
    have hmi := HIT.out (its.getD j nokI) (List.mem_of_getElem? (get_l _ _ _ hlt))
    have htk := bodyN_len (its.take j) (fun x hx => HIT.out x (List.mem_of_mem_take hx))
    rw [List.length_take] at htk
    obtain ⟨x, hx⟩ : ∃ x, its.getD j nokI = x := ⟨_, rfl⟩
    rw [hx] at f0 f1 f2 f3 hsc hmi hvx
    obtain ⟨xn, hxn⟩ : ∃ xn, x.val.length = xn := ⟨_, rfl⟩
    obtain ⟨ax, cx, rfl, -, -⟩ := hvx.form hxn
    simp only [bV, wV, Nat.add_zero] at f0 f1 f2 f3 f4
    have hn5 : rItem.n = 5 := rfl
    rw [hn5] at f0 f1 f2 f3 f4
    unfold maxLen at zc
    obtain ⟨bd, hbd⟩ : ∃ bd, bodyN (its.take j) = bd := ⟨_, rfl⟩
    rw [hbd] at hsc htk hown
    have hix := itemB_len' hmi
    have k_w := fun V hh => iwrite_any x (.slice ax xn cx) V hh
    rw [show wrI x = itemB x by unfold wrI; rw [hmi]; rfl, hmi, show mayE true = 0 from rfl] at k_w
    simp only [itemV, bV, wV] at k_w
    have hXB := LB.of hvx (Nat.le_refl _)
    have HX := Lib.hid (And.intro k_w (And.intro hsc (And.intro hBr hown)))
    have hbl : bd.length ≤ 120 := by omega
    clear hvx hcell hx hxn hbd k_w hsc hBr hn5 hmi htk hown
    obtain ⟨qn, hS, hB⟩ := HQ.out
    clear HQ
    have hR : LW wr wr := Below.refl _ _
    have HQ := Lib.hid (And.intro qn (And.intro hS (And.intro hXB (And.intro hR hB))))
    clear qn hS hXB hR hB
    go_upto_region 8 with (fail)
    clear c_qn0 c_qn1
    obtain ⟨qn, hS, hXB, hR, hB⟩ := HQ.out
    clear HQ
    have hst := (Below.refl wr.heap.size wr).alloc (Nat.le_refl _) (.cells #[.int .u8 (x.key.kind.toNat : Int), .int .u32 (x.key.id.toNat : Int), .int .u32 (x.key.off.toNat : Int), .int .i64 x.ref, .slice ax xn cx] 73)
    have hlt : wr.heap.size < (wr.alloc (.cells #[.int .u8 (x.key.kind.toNat : Int), .int .u32 (x.key.id.toNat : Int), .int .u32 (x.key.off.toNat : Int), .int .i64 x.ref, .slice ax xn cx] 73)).heap.size := by simp
    have qx := LK.new wr (.cells #[.int .u8 (x.key.kind.toNat : Int), .int .u32 (x.key.id.toNat : Int), .int .u32 (x.key.off.toNat : Int), .int .i64 x.ref, .slice ax xn cx] 73)
    replace qn := qn.step hst
    replace hS := hS.step hst
    replace hXB := hXB.step hst
    replace hR := hR.step hst
    replace hB := hB.step hst
    obtain ⟨w2, hw⟩ : ∃ v, wr.alloc (.cells #[.int .u8 (x.key.kind.toNat : Int), .int .u32 (x.key.id.toNat : Int), .int .u32 (x.key.off.toNat : Int), .int .i64 x.ref, .slice ax xn cx] 73) = v := ⟨_, rfl⟩
    rw [hw] at hlt qx qn hS hXB hR hB ⊢
    clear hw hst
    have sz_w2 := hlt
    clear hlt
    have HQ := Lib.hid (And.intro qn (And.intro hS (And.intro hXB (And.intro hR (And.intro qx hB)))))
    clear qn hS hXB hR qx hB
    have c_qn0 := LK.cell HQ.out.1 0
    have c_qn1 := LK.cell HQ.out.1 1
    have c_qx0 := LK.cell HQ.out.2.2.2.2.1 0
    have c_qx1 := LK.cell HQ.out.2.2.2.2.1 1
    have c_qx2 := LK.cell HQ.out.2.2.2.2.1 2
    have c_qx3 := LK.cell HQ.out.2.2.2.2.1 3
    have c_qx4 := LK.cell HQ.out.2.2.2.2.1 4
    simp at c_qn0 c_qn1 c_qx0 c_qx1 c_qx2 c_qx3 c_qx4
    clear f0 f1 f2 f3 f4
    go_wp2_with fail
    refine (HX.out.1 _ HQ.out.2.2.1.v).mono ?_
    rintro e w3 ⟨vi, rfl, hm⟩
    clear c_qn0 c_qn1 c_qx0 c_qx1 c_qx2 c_qx3 c_qx4
    obtain ⟨qn, hS, hXB, hR, qx, hB⟩ := HQ.out
    clear HQ
    have hI := LM.of hm
    have hst := hm.below
    clear hm
    have sz_w3 : w2.heap.size ≤ w3.heap.size := hst.size
    replace qn := qn.step hst
    replace hS := hS.step hst
    replace hXB := hXB.step hst
    replace hR := hR.step hst
    replace qx := qx.step hst
    replace hB := hB.step hst
    clear hst
    have HQ := Lib.hid (And.intro qn (And.intro hS (And.intro hXB (And.intro hR (And.intro qx (And.intro hI hB))))))
    clear qn hS hXB hR qx hI hB
    have c_qn0 := LK.cell HQ.out.1 0
    have c_qn1 := LK.cell HQ.out.1 1
    have c_qx0 := LK.cell HQ.out.2.2.2.2.1 0
    have c_qx1 := LK.cell HQ.out.2.2.2.2.1 1
    have c_qx2 := LK.cell HQ.out.2.2.2.2.1 2
    have c_qx3 := LK.cell HQ.out.2.2.2.2.1 3
    have c_qx4 := LK.cell HQ.out.2.2.2.2.1 4
    simp at c_qn0 c_qn1 c_qx0 c_qx1 c_qx2 c_qx3 c_qx4
    obtain ⟨ib, hib⟩ : ∃ ib, itemB x = ib := ⟨_, rfl⟩
    have hir := HX.out.2.1
    rw [hib] at HQ hir hix
    have hown2 : OwnB w1.heap.size 5 w3 _ (hd ++ bd) := World.ownsRow.kept HX.out.2.2.2 (row := none) ⟨(HQ.out.2.2.2.1).os, (HQ.out.2.2.2.1).tape, (HQ.out.2.2.2.1).output, (HQ.out.2.2.2.1).size, fun q hq _ => (HQ.out.2.2.2.1).block q hq⟩ (by cases hvv : Value.ownBlock _ <;> simp)
    have HI2 := Lib.hid (And.intro hir hown2)
    have hhl : hd.length = 3 := by rw [HHD.out]; rfl
    clear hib hir hown2
    have HHL := Lib.hid hhl
    clear hhl
    go_wp2_with (at_builtin; refine wpList_appB rfl _ _ 22 rfl w1.heap.size 5 Try.underlying22 info_u8 _ (hd ++ bd) rfl HI2.out.2 0 w3.heap.size vi ib rfl HQ.out.2.2.2.2.2.1.v (by rw [List.length_append, HHL.out]; omega) (by omega) ?_; intro v5 w5 hown5 hB5)
    rw [List.append_assoc, ← HI2.out.1] at hown5
    have hBf := HX.out.2.2.1.trans ((Below.mono HQ.out.2.2.2.1 (show w1.heap.size ≤ wr.heap.size from sz_wr)).trans hB5)
    have HF := Lib.hid (And.intro hown5 hBf)
    clear hown5 hBf hB5
    clear c_qn0 c_qn1 c_qx0 c_qx1 c_qx2 c_qx3 c_qx4
    go_wp2
    go_roundw
    case rel => exact ⟨j + 1, by omega, by go_num, HF.out.1, HF.out.2⟩
    case measure => simp [intOf]; omega
  obtain rfl : j = its.length := by omega
  rw [List.take_length] at hown
  have hbs := hown.bytes.all0
  have k_s := seal_yes _ (hd ++ bodyN its) wr hbs HLN.out
  have KS := Lib.hid k_s
  clear k_s hbs hown
  have HBf := Lib.hid (HQ.out.2.2)
  go_wp2_with fail
  refine KS.out.mono ?_
  rintro e w6 ⟨u, rfl, hm⟩
  go_wp2
  go_ret2
  exact ⟨_, rfl, hm.bytes.more (by have := Below.size HBf.out; omega) (Nat.le_refl _), hm.thawed, LW.step HBf.out hm.below⟩
end Go.Proofs.Ytfdogefoodljaaa

