/- NodeCodes: the words and contracts, part 15. -/
import Derived.Test.YthealkfpflkipaaNodeCodesQ1
import Derived.Test.YthealkfpflkipaaNodeCodesQ2
import Derived.Test.YthealkfpflkipaaNodeCodesQ3
import Derived.Test.YthealkfpflkipaaNodeCodesQ4
import Derived.Test.YthealkfpflkipaaNodeCodesQ5
import Derived.Test.YthealkfpflkipaaNodeCodesQ6
import Derived.Test.YthealkfpflkipaaNodeCodesQ7
import Derived.Test.YthealkfpflkipaaNodeCodesQ8
import Derived.Test.YthealkfpflkipaaNodeCodesQ9
import Derived.Test.YthealkfpflkipaaNodeCodesQ10
import Derived.Test.YthealkfpflkipaaNodeCodesQ14
import Derived.WalkKit
import Derived.WalkLawsBesides
import Derived.WalkSpells
import Derived.Lib.Hide
import Derived.Laws.Rows
import Derived.Laws.AppendOwnNone
import Derived.Maps.AppendAt
import Derived.ProofKit
import Derived.Deep.Slices
import Derived.WideShapes
import Derived.RangeFuncNested
import Derived.RangeFuncBound
import Derived.RangeFuncCalls
import Derived.RangeFuncLeaves
import Derived.RangeFuncBox
import Derived.Shelf.Abstract
import Derived.Shelf.RegionOpen
import Derived.OwnWalkIn
import Derived.TacticsInMore
import Derived.LoopNIn
import Derived.LoopIn
import Derived.Lib.AppendZerosOnto
import Derived.Lib.SliceRun
import Derived.Lib.Walk
import Derived.Deep.LoopGhost
import Derived.Laws.CopyOwn
import Derived.Laws.CopyRow
import Derived.OrdersHeld
import Derived.Deep.QuietTactic
import Derived.BigQuiet
import Derived.StillTailTactics
import Derived.OpenShut
import Derived.Deep.DeepCutAuto
import Derived.Deep.RegionHeld
import Derived.Laws.MakeOwn
import Derived.KernelRfl
namespace Go.Proofs.Ythealkfpflkipaa
open Go.RowKit

set_option maxRecDepth 100000 in
set_option maxHeartbeats 2000000 in
theorem rntold_any (n : NodeL) (u_n : Value) (w : World) (h_n : Sl rItem w 0 w.heap.size u_n n.items) (hm : mayN n = true) :
    Calls Try.prog 59 #[.agg #[.int .i64 n.level, u_n]] w fun e w' => ∃ u, e = .returned u ∧ MadeB w w' u (bytesN n) := by
  obtain ⟨lv, its⟩ := n
  obtain ⟨⟨m1, m2⟩, m3, -, m4⟩ := mayN_all hm
  have hit := mayN_items hm
  simp only at h_n m1 m2 m3 hit ⊢
  obtain ⟨q, rfl⟩ : ∃ q : Nat, lv = q := ⟨lv.toNat, by omega⟩
  have hfin : bytesN ⟨(q : Int), its⟩ = [78, UInt8.ofNat q, UInt8.ofNat its.length] ++ bodyN its := rfl
  rw [hfin]
  clear hfin m4 hm
  obtain ⟨a_n, c_n, rfl, g_n, gm_n, -, -⟩ := id h_n
  unfold maxLen at gm_n
  have hst := ((Below.refl w.heap.size w).alloc (Nat.le_refl _) (.cells #[.int .i64 (q : Int), .slice a_n its.length c_n] 54))
  have q_n := LK.new w (.cells #[.int .i64 (q : Int), .slice a_n its.length c_n] 54)
  have hB : LW w _ := hst
  have S_n := (LS.of h_n (Nat.le_refl _)).step hst
  have sz_V : w.heap.size + 0 < (w.alloc (.cells #[.int .i64 (q : Int), .slice a_n its.length c_n] 54)).heap.size := by simp
  obtain ⟨V, hV⟩ : ∃ V, (w.alloc (.cells #[.int .i64 (q : Int), .slice a_n its.length c_n] 54)) = V := ⟨_, rfl⟩
  rw [hV] at sz_V q_n S_n hB
  clear hst h_n
  have HQ := Lib.hid (And.intro q_n (And.intro S_n hB))
  clear q_n S_n hB
  have c_q_n0 := LK.cell HQ.out.1 0
  have c_q_n1 := LK.cell HQ.out.1 1
  simp at c_q_n0 c_q_n1
  have k_b := fun (x : ItemL) v V hh h0 h1 hl => rbytes_any x v V hh h0 h1 hl
  simp only [itemV, bV, wV] at k_b
  have hlb : (bodyN its).length ≤ 120 := by
    have := bodyN_len its hit
    omega
  have HI := Lib.hid (And.intro hit hlb)
  clear hit hlb
  have HC := Lib.hid (k_b)
  clear k_b
  have hBV0 := HQ.out.2.2
  have HBV := Lib.hid hBV0
  clear hBV0
  go_enter Try.func59, Try.ntmps59
  go_upto_region 1 with (fail)
  clear hV
  have i1 : (its.length : Int) < 256 := by omega
  have i2 : (q : Int) < 256 := by omega
  have i3 : ¬ (q : Int) < 0 := by omega
  go_upto_region 2 with (fail)
  clear i1 i2 i3
  have hown := own_lit V [78, UInt8.ofNat q, UInt8.ofNat its.length] #[.int .u8 78, .int .u8 (q : Int), .int .u8 (its.length : Int)] 5 V.heap.size (Nat.le_refl _) (by simp [maxLen]) (by simp [bV]; omega) 3 rfl
  have hst := (Below.refl V.heap.size V).alloc (Nat.le_refl _) (.cells #[.int .u8 78, .int .u8 (q : Int), .int .u8 (its.length : Int)] 5)
  have HO := Lib.hid (And.intro hown hst)
  clear hown hst
  clear c_q_n0 c_q_n1
  go_wp2_with fail
  go_loopw [3, 4] (fun x i wr => ∃ j : Nat, j ≤ its.length ∧ i = .int .i64 j ∧ OwnB V.heap.size 5 wr x ([78, UInt8.ofNat q, UInt8.ofNat its.length] ++ bodyN (its.take j)) ∧ Below V.heap.size V wr) (fun _ i _ => its.length - (intOf i).toNat)
  case atStart => exact ⟨0, Nat.zero_le _, rfl, by simpa [bodyN] using HO.out.1, HO.out.2⟩
  case round =>
  obtain ⟨j, hj, rfl, hown, hst⟩ := hrel
  have HR := Lib.hid (And.intro hown hst)
  obtain ⟨q_n, S_n, hB⟩ := HQ.out
  clear HQ
  replace q_n := q_n.step hst
  replace S_n := S_n.step hst
  replace hB := hB.step hst
  have sz_wr := hst.size
  have hW : LW V wr := hst
  clear hst hown
  have HQ := Lib.hid (And.intro q_n (And.intro S_n (And.intro hW hB)))
  clear q_n S_n hW hB
  have c_q_n0 := LK.cell HQ.out.1 0
  have c_q_n1 := LK.cell HQ.out.1 1
  simp at c_q_n0 c_q_n1
  by_cases hlt : j < its.length
  case pos =>
    obtain ⟨bb, bo, cb, e1, -, zb, -, zc, -⟩ := Sl.at_ HQ.out.2.1.v (by omega)
    injection e1 with e1 _ e2
    subst e1 e2
    unfold maxLen at zc
    have hyl := get_l its nokI j hlt
    have hbs := bodyN_succ its j hlt
    have hyi := HI.out.1 _ (List.mem_of_getElem? hyl)
    obtain ⟨y, hy⟩ : ∃ y, its.getD j nokI = y := ⟨_, rfl⟩
    rw [hy] at hyl hbs hyi
    clear hy
    obtain ⟨f0, f1, f2, f3, -, fv, f4, fb⟩ := Sl.cellW HQ.out.2.1.v j _ hyl
    have hn5 : rItem.n = 5 := rfl
    rw [hn5] at f0 f1 f2 f3 f4
    simp only [bV, wV, Nat.add_zero] at f0 f1 f2
    clear hn5
    obtain ⟨fa, fc, rfl, -, fcm⟩ := fb.form rfl
    unfold maxLen at fcm
    obtain ⟨hr1, hr2, hr3⟩ := may_ref hyi
    have hbl := bodyN_len (its.take (j + 1)) (fun x hx => HI.out.1 x (List.mem_of_mem_take hx))
    rw [hbs, List.length_append, List.length_take] at hbl
    have kb := HC.out y (.slice fa y.val.length fc) wr (Bytes.all0 fb) hr1 hr2 (by omega)
    have HB := Lib.hid (And.intro kb (And.intro hbs hbl))
    clear kb hbs hbl fb hyl hyi hr1 hr2 hr3
    obtain ⟨dj, hdj⟩ : ∃ d, bodyN (its.take j) = d := ⟨_, rfl⟩
    rw [hdj] at HB HR
    clear hdj
    have i6 : (j : Int) < its.length := by omega
    have i7 : ¬ (its.length : Int) ≤ j := by omega
    go_wp2_with fail
    refine HB.out.1.mono ?_
    rintro e w3 ⟨v3, rfl, hm3, hb3⟩
    clear f0 f1 f2 f3 f4
    clear c_q_n0 c_q_n1
    have HO2 := Lib.hid (And.intro (HR.out.1.step hb3) (And.intro (HR.out.2.trans (hb3.mono HR.out.2.size)) hm3.bytes.all0))
    have hsz3 := hb3.size
    clear hm3 hb3
    obtain ⟨yb, hyb⟩ : ∃ l, itemB y = l := ⟨_, rfl⟩
    rw [hyb] at HO2 HB
    clear hyb
    obtain ⟨va3, vc3, rfl, -, -⟩ := HO2.out.2.2.form rfl
    go_wp2_with (at_builtin; refine wpList_appB rfl _ _ 22 rfl V.heap.size 5 Try.underlying22 info_u8 _ ([78, UInt8.ofNat q, UInt8.ofNat its.length] ++ dj) rfl HO2.out.1 0 w3.heap.size _ yb rfl HO2.out.2.2 (by have := HB.out.2.2; simp only [List.length_append, List.length_cons, List.length_nil]; omega) HO2.out.2.1.size ?_; intro x5 w5 hown5 hB5; rw [List.append_assoc, ← HB.out.2.1] at hown5; have HE := Lib.hid (And.intro hown5 (HO2.out.2.1.trans hB5)); clear hown5 hB5)
    go_wp2
    go_roundw
    case rel => exact ⟨j + 1, by omega, by go_num, HE.out.1, HE.out.2⟩
    case measure => simp [intOf]; omega
  obtain rfl : j = its.length := by omega
  have hr := HR.out.1
  rw [List.take_length] at hr
  have hmd := OwnB.made hr HR.out.2
  have HM := Lib.hid hmd
  clear hmd hr
  go_wp2
  go_ret
  exact ⟨_, rfl, HM.out.bytes.more (Below.size HBV.out) (Nat.le_refl _), HM.out.thawed, HQ.out.2.2.2⟩

/-- Do bytes begin with others, with noughts behind? -/
def okZ (b l : List UInt8) (i : Nat) : Bool := if i < l.length then b.getD i 0 == l.getD i 0 else b.getD i 0 == 0
def samZ (b l : List UInt8) : Bool := (List.range b.length).all (okZ b l) && decide (l.length ≤ b.length)
theorem samZ_iff {b l : List UInt8} : samZ b l = true ↔ ∃ z, b = l ++ z ∧ ∀ x ∈ z, x = 0 := by
  unfold samZ
  rw [Bool.and_eq_true, List.all_eq_true, decide_eq_true_eq]
  constructor
  · rintro ⟨h1, h2⟩
    have hk : ∀ i, i < b.length → okZ b l i = true := fun i hi => h1 i (List.mem_range.2 hi)
    refine ⟨b.drop l.length, ?_, ?_⟩
    · refine List.ext_getElem? fun i => ?_
      by_cases hi : i < l.length
      · have := hk i (by omega)
        unfold okZ at this
        rw [if_pos hi, beq_iff_eq, List.getD_eq_getElem?_getD, List.getD_eq_getElem?_getD, List.getElem?_eq_getElem hi, List.getElem?_eq_getElem (show i < b.length by omega)] at this
        rw [List.getElem?_append_left hi, List.getElem?_eq_getElem hi, List.getElem?_eq_getElem (show i < b.length by omega)]
        exact congrArg some this
      · rw [List.getElem?_append_right (by omega), List.getElem?_drop]
        congr 1
        omega
    · intro x hx
      obtain ⟨i, hi, rfl⟩ := List.getElem_of_mem hx
      rw [List.length_drop] at hi
      have := hk (l.length + i) (by omega)
      unfold okZ at this
      rw [if_neg (by omega), beq_iff_eq, List.getD_eq_getElem?_getD, List.getElem?_eq_getElem (show l.length + i < b.length by omega)] at this
      rw [List.getElem_drop]
      exact this
  · rintro ⟨z, rfl, hz⟩
    refine ⟨fun i hi => ?_, by simp⟩
    rw [List.mem_range, List.length_append] at hi
    unfold okZ
    by_cases hl : i < l.length
    · rw [if_pos hl, beq_iff_eq, List.getD_eq_getElem?_getD, List.getD_eq_getElem?_getD, List.getElem?_append_left hl]
    · rw [if_neg hl, beq_iff_eq, List.getD_eq_getElem?_getD, List.getElem?_append_right (by omega), List.getElem?_eq_getElem (by omega)]
      exact hz _ (List.getElem_mem _)

set_option maxRecDepth 100000 in
set_option maxHeartbeats 2000000 in
/-- The reference's same. -/
theorem rnsam_any (v u : Value) (b l : List UInt8) (w : World) (hv : Bytes w 0 w.heap.size v b) (hu : Bytes w 0 w.heap.size u l) :
    Calls Try.prog 58 #[v, u] w fun e w' => e = .returned (.bool (samZ b l)) ∧ Below w.heap.size w w' := by
  have HV := Lib.hid hv
  have HU := Lib.hid hu
  obtain ⟨av, cv, rfl, g1, g2⟩ := hv.form rfl
  obtain ⟨au, cu, rfl, g1', g2'⟩ := hu.form rfl
  unfold maxLen at g2 g2'
  have hr1 : ∀ i, i < b.length → okZ b l i = false → samZ b l = false := fun i hi h => by
    unfold samZ
    rw [Bool.and_eq_false_iff]
    left
    rw [List.all_eq_false]
    exact ⟨i, List.mem_range.2 hi, by rw [h]; simp⟩
  have hr2 : (∀ i, i < b.length → okZ b l i = true) → samZ b l = decide (l.length ≤ b.length) := fun h => by
    unfold samZ
    rw [List.all_eq_true.2 fun i hi => h i (List.mem_range.1 hi), Bool.true_and]
  generalize samZ b l = r at *
  have HR := Lib.hid (And.intro hr1 hr2)
  clear hr1 hr2 hv hu
  go_enter Try.func58, Try.ntmps58
  go_wp2_with fail
  go_loopw [5] (fun i wr => ∃ k : Nat, k ≤ b.length ∧ i = .int .i64 k ∧ Below w.heap.size w wr ∧ ∀ j, j < k → okZ b l j = true) (fun i _ => b.length - (intOf i).toNat)
  case atStart => exact ⟨0, Nat.zero_le _, rfl, Below.refl _ _, fun j hj => absurd hj (Nat.not_lt_zero _)⟩
  case round =>
  obtain ⟨k, hk, rfl, hB, hall⟩ := hrel
  have HB := Lib.hid (And.intro hB hall)
  clear hB hall
  by_cases hlt : k < b.length
  · obtain ⟨b1, o1, c1, e1, -, hz1, -, z3, hcell⟩ := HV.out.at_ (by omega)
    injection e1 with ea _ ec
    subst ea ec
    have ck1 := (HB.out.1.cell (p := ⟨b1, o1 + k, none⟩) hz1).trans (hcell k (b.getD k 0) (get_l _ _ _ hlt))
    have hok : okZ b l k = (if k < l.length then b.getD k 0 == l.getD k 0 else b.getD k 0 == 0) := rfl
    simp only [bV] at ck1
    obtain ⟨x, hx⟩ : ∃ x, b.getD k 0 = x := ⟨_, rfl⟩
    rw [hx] at ck1 hok
    obtain ⟨X, hX⟩ : ∃ X : Int, (x.toNat : Int) = X := ⟨_, rfl⟩
    rw [hX] at ck1
    have h0 : (x == 0) = (X == 0) := by
      rw [← hX, Bool.eq_iff_iff, beq_iff_eq, beq_iff_eq]
      constructor
      · intro h; rw [h]; rfl
      · intro h; exact UInt8.toNat_inj.1 (by simpa using h)
    rw [h0] at hok
    obtain ⟨ok, hk0⟩ : ∃ q, okZ b l k = q := ⟨_, rfl⟩
    rw [hk0] at hok
    have HK := Lib.hid hk0
    clear hcell h0 hx hk0
    have i7 : ¬ (b.length : Int) ≤ k := by omega
    have i8 : (k : Int) < b.length := by omega
    unfold maxLen at z3
    by_cases hl : k < l.length
    · obtain ⟨b2, o2, c2, e2, -, hz2, -, z3', hcell⟩ := HU.out.at_ (by omega)
      injection e2 with ea _ ec
      subst ea ec
      have ck2 := (HB.out.1.cell (p := ⟨b2, o2 + k, none⟩) hz2).trans (hcell k (l.getD k 0) (get_l _ _ _ hl))
      rw [if_pos hl] at hok
      simp only [bV] at ck2
      obtain ⟨y, hy⟩ : ∃ y, l.getD k 0 = y := ⟨_, rfl⟩
      rw [hy] at ck2 hok
      obtain ⟨Y, hY⟩ : ∃ Y : Int, (y.toNat : Int) = Y := ⟨_, rfl⟩
      rw [hY] at ck2
      have h0 : (x == y) = (X == Y) := by
        rw [← hX, ← hY, Bool.eq_iff_iff, beq_iff_eq, beq_iff_eq]
        constructor
        · intro h; rw [h]
        · intro h; exact UInt8.toNat_inj.1 (by omega)
      rw [h0] at hok
      clear hcell h0 hy hY hX
      unfold maxLen at z3'
      have j1 : (k : Int) < l.length := by omega
      have j2 : ¬ (l.length : Int) ≤ k := by omega
      have j3 : decide ((k : Int) < (l.length : Int)) = true := by simp; omega
      have j4 : decide ((l.length : Int) ≤ (k : Int)) = false := by simp; omega
      have j5 : decide (k < l.length) = true := by simp; omega
      have j6 : decide (l.length ≤ k) = false := by simp; omega
      have j7 : ¬ l.length ≤ k := by omega
      cases ok
      case false =>
        have n1 : (X == Y) = false := hok.symm
        have n2 : (X != Y) = true := by rw [bne, n1]; rfl
        obtain rfl := HR.out.1 k hlt HK.out
        clear hok
        go_upto_region 4 with (fail)
        go_quiet (fail)
        go_wp2
        go_ret
        exact ⟨rfl, below_step HB.out.1 HB.out.1.size (below_dn _ _ _)⟩
      case true =>
        have n0 : X = Y := by simpa using hok.symm
        subst n0
        clear hok
        go_upto_region 4 with (fail)
        go_quiet (fail)
        go_wp2
        go_roundw
        case rel => exact ⟨k + 1, by omega, by go_num, below_step HB.out.1 HB.out.1.size (below_dn _ _ _), fun j hj => (Nat.lt_succ_iff_lt_or_eq.1 hj).elim (HB.out.2 j) (fun e => e ▸ HK.out)⟩
        case measure => simp [intOf]; omega
    · rw [if_neg hl] at hok
      have j1 : ¬ (k : Int) < l.length := by omega
      have j2 : (l.length : Int) ≤ k := by omega
      have j3 : decide ((k : Int) < (l.length : Int)) = false := by simp; omega
      have j4 : decide ((l.length : Int) ≤ (k : Int)) = true := by simp; omega
      have j5 : decide (k < l.length) = false := by simp; omega
      have j6 : decide (l.length ≤ k) = true := by simp; omega
      have j7 : l.length ≤ k := by omega
      cases ok
      case false =>
        have n1 : (X == 0) = false := hok.symm
        have n2 : (X != 0) = true := by rw [bne, n1]; rfl
        obtain rfl := HR.out.1 k hlt HK.out
        clear hok hX
        go_upto_region 4 with (fail)
        go_quiet (fail)
        go_wp2
        go_ret
        exact ⟨rfl, below_step HB.out.1 HB.out.1.size (below_dn _ _ _)⟩
      case true =>
        have n0 : X = 0 := by simpa using hok.symm
        subst n0
        clear hok hX
        go_upto_region 4 with (fail)
        go_quiet (fail)
        go_wp2
        go_roundw
        case rel => exact ⟨k + 1, by omega, by go_num, below_step HB.out.1 HB.out.1.size (below_dn _ _ _), fun j hj => (Nat.lt_succ_iff_lt_or_eq.1 hj).elim (HB.out.2 j) (fun e => e ▸ HK.out)⟩
        case measure => simp [intOf]; omega
  obtain rfl : k = b.length := by omega
  have hf := HR.out.2 HB.out.2
  subst hf
  by_cases hl : l.length ≤ b.length
  · have j1 : (l.length : Int) ≤ b.length := by omega
    go_wp2
    go_ret
    exact ⟨rfl, HB.out.1⟩
  · have j1 : ¬ (l.length : Int) ≤ b.length := by omega
    have j2 : (b.length : Int) < l.length := by omega
    go_wp2
    go_ret
    exact ⟨rfl, HB.out.1⟩
end Go.Proofs.Ythealkfpflkipaa

namespace Go.Proofs.Ythealkfpflkipaa
open Go.RowKit

theorem half_odd (s : BitVec 32) (h : (s.toNat : Int) % 2 = 1) : bits BinOp.xor IntKind.u32 ((s.toNat : Int) / 2) 3988292384 = ((half s).toNat : Int) := by
  have := half_nat s
  have e : bits BinOp.and IntKind.u32 (s.toNat : Int) 1 = 1 := by
    rw [show (1 : Int) = ((1#32).toNat : Int) by decide, and_u32, BitVec.toNat_and, show (1#32).toNat = 1 from rfl, Nat.and_one_is_mod]
    omega
  rw [e] at this
  exact this
theorem half_evn (s : BitVec 32) (h : ¬ (s.toNat : Int) % 2 = 1) : (s.toNat : Int) / 2 = ((half s).toNat : Int) := by
  have hb : s.getLsbD 0 = false := by
    simp only [BitVec.getLsbD, Nat.testBit_zero]
    simp; omega
  unfold half
  rw [hb]
  simp only [Bool.false_eq_true, if_false, BitVec.xor_zero, shr_nat]
  omega

set_option maxHeartbeats 1000000 in
theorem halved_any (s : BitVec 32) (many : Nat) (w : World) (hm : many ≤ 1000) : Calls Try.prog 70 #[u32v s, .int .i64 many] w fun e w' => e = .returned (u32v (halves many s)) ∧ w = w' := by
  unfold u32v
  go_enter Try.func70, Try.ntmps70
  go_wp2
  go_loop [0, 5] (fun v k => ∃ j : Nat, j ≤ many ∧ k = .int .i64 j ∧ v = u32v (halves j s)) (fun _ k => many - (intOf k).toNat)
  case atStart => exact ⟨0, Nat.zero_le _, rfl, rfl⟩
  case round =>
    obtain ⟨j, hj, rfl, hs⟩ := hrel
    unfold u32v at hs
    subst hs
    by_cases hlt : j < many
    · have hb := (halves j s).isLt
      have hf : half (halves j s) = halves (j + 1) s := rfl
      have HF := Lib.hid hf
      clear hf
      generalize halves j s = q at *
      by_cases ho : (q.toNat : Int) % 2 = 1
      · go_wp2
        go_round
        case rel => exact ⟨j + 1, by omega, by go_num, by rw [← HF.out, u32v, ← half_odd q ho]⟩
        case measure => simp [intOf]; omega
      · go_wp2
        go_round
        case rel => exact ⟨j + 1, by omega, by go_num, by rw [← HF.out, u32v, ← half_evn q ho]⟩
        case measure => simp [intOf]; omega
    · obtain rfl : j = many := by omega
      go_wp2
      go_ret
      exact ⟨rfl, rfl⟩
theorem rem15 (s : BitVec 32) : ∃ i : Nat, i < 16 ∧ (s.toNat : Int) % 16 = (i : Int) ∧ halves 4 (BitVec.ofNat 32 i) = halves 4 (s &&& 15#32) := by
  obtain ⟨i, h1, h2, h3⟩ := and15 s
  refine ⟨i, h1, ?_, h3⟩
  rw [show (15 : Int) = ((15#32).toNat : Int) by decide, and_u32, BitVec.toNat_and, show (15#32).toNat = 2 ^ 4 - 1 from rfl, Nat.and_two_pow_sub_one_eq_mod] at h2
  omega

set_option maxHeartbeats 2000000 in
theorem rof_any (v : Value) (l : List UInt8) (w : World) (hI : Bytes w 0 w.heap.size v l) : Calls Try.prog 40 #[v] w fun e w' => e = .returned (u32v (crc l)) ∧ Below w.heap.size w w' := by
  obtain ⟨a, c, rfl, g1, g2, g3, _⟩ := id hI
  unfold maxLen at g2
  go_enter Try.func40, Try.ntmps40
  go_wp2
  go_loopw [4] (fun k wr => ∃ n : Nat, n ≤ 16 ∧ k = .int .i64 n ∧ wr = w.alloc (.cells (tabV n) 103)) (fun k _ => 16 - (intOf k).toNat)
  case atStart => exact ⟨0, by omega, rfl, by rw [tabV_zero]⟩
  case round =>
    obtain ⟨n, hn, rfl, rfl⟩ := hrel
    by_cases h : n < 16
    · have hcell : (tabV n)[n]? = some (.int .u32 0) := by simp [tabV, h]
      have htab := fun v hv => tabV_set n h v hv
      have hH := halved_any (BitVec.ofNat 32 n) 4 (w.alloc (.cells (tabV n) 103)) (by omega)
      rw [show u32v (BitVec.ofNat 32 n) = .int .u32 n by rw [u32v, BitVec.toNat_ofNat, Nat.mod_eq_of_lt (by omega)]] at hH
      unfold u32v at hH
      have HH := Lib.hid hH
      have HT := Lib.hid htab
      have hn' : (n : Int) < 16 := by omega
      clear htab hH
      go_wp2_with (go_at_call 70; refine HH.out.mono ?_; rintro e w' ⟨rfl, rfl⟩)
      go_roundw
      case rel => exact ⟨n + 1, by omega, by go_num, by rw [← HT.out _ rfl]; rfl⟩
      case measure => simp [intOf]; omega
    · obtain rfl : n = 16 := by omega
      rw [tabV_lit]
      go_wp2
      rw [← tabV_lit]
      have hI2 := hI.step ((Below.refl w.heap.size w).alloc (Nat.le_refl _) (.cells (tabV 16) 103))
      have hBW := (Below.refl w.heap.size w).alloc (Nat.le_refl _) (.cells (tabV 16) 103)
      have htab : ∀ i : Nat, i < 16 → (w.alloc (.cells (tabV 16) 103)).cell? ⟨w.heap.size, i, none⟩ = some (u32v (halves 4 (BitVec.ofNat 32 i))) := fun i hi => by rw [World.cell?_alloc_new]; exact tabV_at i hi
      generalize w.alloc (.cells (tabV 16) 103) = W at *
      have HB := Lib.hid hBW
      clear hI g3 hBW
      generalize w.heap.size = tb at htab ⊢
      have HT := Lib.hid htab
      have HI := Lib.hid hI2
      clear htab hI2
      go_loop [5, 6] (fun s i => ∃ k : Nat, k ≤ l.length ∧ i = .int .i64 k ∧ s = u32v (crcS (BitVec.allOnes 32) (l.take k))) (fun _ i => l.length - (intOf i).toNat)
      case atStart => exact ⟨0, Nat.zero_le _, rfl, rfl⟩
      case round =>
        obtain ⟨k, hk, rfl, hs⟩ := hrel
        unfold u32v at hs
        subst hs
        by_cases hlt : k < l.length
        · obtain ⟨b, off, c', he, _, hb, _, _, hc⟩ := HI.out.at_ (by omega)
          cases he
          have hx := hc k l[k] (by simp [hlt])
          have hsn : crcS (BitVec.allOnes 32) (l.take (k + 1)) = stepB (crcS (BitVec.allOnes 32) (l.take k)) l[k] := by rw [List.take_succ_eq_append_getElem hlt, crcS_append]; rfl
          have HS := Lib.hid hsn
          clear hsn hc
          generalize crcS (BitVec.allOnes 32) (l.take k) = s at *
          generalize l[k] = x at *
          unfold bV at hx
          have hxl : (x.toNat : Int) < 256 := by have := x.toNat_lt; omega
          have e1 : bits BinOp.xor IntKind.u32 (s.toNat : Int) (x.toNat : Int) = ((s ^^^ b32 x).toNat : Int) := by rw [← b32_nat, xor_u32]
          have hs1 : stepB s x = halves 4 (halves 4 (s ^^^ b32 x)) := stepB_four s x
          have HS1 := Lib.hid hs1
          clear hs1
          generalize s ^^^ b32 x = s1 at *
          obtain ⟨i1, hi1, e2, e3⟩ := rem15 s1
          have t1 := HT.out i1 hi1
          have e4 := four_nat s1
          rw [← e3] at e4
          generalize halves 4 (BitVec.ofNat 32 i1) = y1 at *
          generalize halves 4 s1 = s2 at *
          obtain ⟨i2, hi2, e5, e6⟩ := rem15 s2
          have t2 := HT.out i2 hi2
          have e7 := four_nat s2
          rw [← e6] at e7
          generalize halves 4 (BitVec.ofNat 32 i2) = y2 at *
          generalize halves 4 s2 = s3 at *
          unfold u32v at t1 t2
          have b1 := s1.isLt
          have b2 := s2.isLt
          clear e3 e6
          go_wp2
          go_round
          case rel => exact ⟨k + 1, by omega, by go_num, by rw [HS.out, HS1.out]; rfl⟩
          case measure => simp [intOf]; omega
        · obtain rfl : k = l.length := by omega
          rw [List.take_length]
          have hfin : u32v (crc l) = .int .u32 (bits BinOp.xor IntKind.u32 ((crcS (BitVec.allOnes 32) l).toNat : Int) 4294967295) := by
            rw [show (4294967295 : Int) = ((BitVec.allOnes 32).toNat : Int) by decide, xor_u32, BitVec.xor_allOnes]
            rfl
          have HFin := Lib.hid hfin
          have hbd := (crcS (BitVec.allOnes 32) l).isLt
          clear hfin
          generalize crcS (BitVec.allOnes 32) l = s at *
          go_wp2
          go_ret
          exact ⟨by rw [HFin.out]; rfl, HB.out⟩
end Go.Proofs.Ythealkfpflkipaa

namespace Go.Proofs.Ythealkfpflkipaa
open Go.RowKit
theorem bytes_zero (w : World) (t : TypeId) :
    Bytes (w.alloc (.cells #[.int .u8 0] t)) w.heap.size (w.heap.size + 1) (.slice (some ⟨w.heap.size, 0, none⟩) 1 1) [0] :=
  Bytes.new w t [0] (by simp [maxLen]) (0, 0)
def lenOf : Value → Nat
  | .slice _ n _ => n
  | _ => 0

set_option maxHeartbeats 1000000 in
theorem rsealed_any (v : Value) (l : List UInt8) (w : World) (hI : Bytes w 0 w.heap.size v l) (hl : l.length ≤ 124) : Calls Try.prog 83 #[v] w fun e w' => ∃ u, e = .returned u ∧ MadeB w w' u (sealL l) := by
  obtain ⟨a, c, rfl, g1, g2, g3, _⟩ := id hI
  unfold maxLen at g2
  go_enter Try.func83, Try.ntmps83
  go_wp2_with (at_builtin; refine wpList_appB rfl _ _ 22 rfl w.heap.size 5 Try.underlying22 info_u8 _ [] rfl (OwnB.nil_ _ _ _) _ _ _ l rfl hI (by simp; omega) (Nat.le_refl _) ?_; intro v1 w1 hown1 hB1)
  rw [List.nil_append] at hown1
  go_loopw [3] (fun v wr => ∃ k : Nat, l.length + k ≤ 124 ∧ OwnB w.heap.size 5 wr v (l ++ List.replicate k 0) ∧ Below w.heap.size w wr) (fun v _ => 124 - lenOf v)
  case atStart => exact ⟨0, by omega, by simpa using hown1, hB1⟩
  case round =>
    obtain ⟨k, hk, hown, hB⟩ := hrel
    have hlen : (l ++ List.replicate k (0 : UInt8)).length = l.length + k := by simp
    obtain ⟨b1, c1, rfl, q1, q2, _, _⟩ := hown.bytes
    unfold maxLen at q2
    have hs : l ++ List.replicate (k + 1) (0 : UInt8) = (l ++ List.replicate k 0) ++ [0] := by rw [List.replicate_succ', ← List.append_assoc]
    have HS := Lib.hid hs
    by_cases hlt : l.length + k < 124
    · clear hs
      generalize l ++ List.replicate k (0 : UInt8) = r at *
      have hr : (r.length : Int) < 124 := by omega
      have HL := Lib.hid hlen
      clear hlen
      go_wp2_with (at_builtin; refine wpList_appB rfl _ _ 22 rfl w.heap.size 5 Try.underlying22 info_u8 _ r rfl (hown.alloc _) wr.heap.size (wr.heap.size + 1) _ [0] rfl (bytes_zero wr _) (by have := HL.out; simp; omega) (by have := hB.size; simp; omega) ?_; intro v' w1 hown' hB1)
      go_roundw
      case rel => exact ⟨k + 1, by omega, by rw [HS.out]; exact hown', (hB.alloc hB.size _).trans hB1⟩
      case measure => 
        obtain ⟨b2, c2, rfl, _, _, _, _⟩ := hown'.bytes
        have := HL.out
        simp [lenOf]; omega
    · have hkk : k = 124 - l.length := by omega
      have hp : l ++ List.replicate k (0 : UInt8) = padL l := by rw [hkk]; rfl
      rw [hp] at hown hlen q1 ⊢
      have hof := rof_any _ _ _ (hown.bytes.all0)
      have hx := (crc (padL l)).isLt
      have hfin : fourL (crc (padL l)).toNat ++ padL l = sealL l := rfl
      have HX := Lib.hid (And.intro hfin (And.intro hof hlen))
      clear hfin hof hs hp hown1
      unfold u32v at HX
      generalize crc (padL l) = C at *
      generalize C.toNat = cn at *
      have hr : ¬ ((padL l).length : Int) < 124 := by omega
      have HL := Lib.hid hlen
      generalize padL l = pl at *
      clear hlen hkk
      go_wp2_with fail
      refine HX.out.2.1.mono ?_
      rintro e w2 ⟨rfl, hb2⟩
      go_wp2_with fail
      refine (rfour_own _ _ (by omega)).mono ?_
      rintro e w3 ⟨v4, rfl, hown4, hb3⟩
      obtain ⟨b4, c4, rfl, _, _, _, _⟩ := id hown4.bytes
      have hpl := ((hown.bytes.all0).step hb2).step hb3
      have h4 : (fourL cn).length = 4 := rfl
      have HB := Lib.hid (And.intro (below_step (below_step hB hB.size hb2) (below_step hB hB.size hb2).size hb3) (below_step hB hB.size hb2).size)
      rw [h4] at *
      go_wp2_with (at_builtin; refine wpList_appB rfl _ _ 22 rfl w2.heap.size 5 Try.underlying22 info_u8 _ (fourL cn) rfl hown4 _ _ _ pl rfl hpl (by have := HL.out; simp [fourL]; omega) hb3.size ?_; intro u5 w5 hown5 hB5)
      go_ret
      rw [HX.out.1] at hown5
      have hm := hown5.made (hb3.trans hB5)
      exact ⟨_, rfl, (hown5.bytes.more HB.out.2 (Nat.le_refl _)), hm.thawed, HB.out.1.trans (hB5.mono HB.out.2)⟩

set_option maxHeartbeats 1000000 in
theorem ropen_any (v : Value) (l : List UInt8) (w : World) (hI : Bytes w 0 w.heap.size v l) :
    Calls Try.prog 56 #[v] w fun e w' => ∃ u, e = .returned (.tuple #[u, .int .i64 (openE l)]) ∧ MadeB w w' u (openL l) := by
  by_cases hl : l.length = 128
  · obtain ⟨b, off, c, rfl, g0, g1, g2, g3, g4⟩ := hI.at_ (by omega)
    clear g4
    rw [hl] at g2 hI ⊢
    unfold maxLen at g3
    have hcut := hI.cut 4 124 (c - 4) (by omega) (by omega) (by unfold maxLen; omega)
    rw [List.take_of_length_le (by simp; omega)] at hcut
    have hdl : (l.drop 4).length = 124 := by simp; omega
    have hget := rgetFour_any _ l 0 w hI
    have hE0 : getE l 0 4 = 0 := if_pos (by simp; omega)
    have hgl := getN_lt l 0 4
    rw [hE0] at hget
    have hof := rof_any _ _ _ hcut
    have hrel : opensL l = true ↔ (getN l 0 4 : Int) = ((crc (l.drop 4)).toNat : Int) := by simp only [opensL, beq_iff_eq]; omega
    unfold openL openE
    rw [if_pos hl]
    have hlt := (crc (l.drop 4)).isLt
    clear hE0 hI
    unfold u32v at hof
    generalize crc (l.drop 4) = C at *
    generalize C.toNat = cn at *
    generalize getN l 0 4 = gn at *
    generalize l.drop 4 = d at *
    have HH := Lib.hid (And.intro hcut hdl)
    clear hcut hdl
    by_cases ho : opensL l = true
    · rw [hrel] at ho
      rw [if_pos (hrel.2 ho), if_pos rfl]
      obtain rfl : gn = cn := by omega
      clear hrel ho
      go_enter Try.func56, Try.ntmps56
      go_wp2_with fail
      refine hget.mono ?_
      rintro e w1 ⟨rfl, rfl⟩
      go_wp2_with fail
      refine hof.mono ?_
      rintro e w2 ⟨rfl, hb2⟩
      go_wp2_with (at_builtin; refine wpList_appB rfl _ _ 22 rfl w.heap.size 5 Try.underlying22 info_u8 _ [] rfl (OwnB.nil_ _ _ _) _ _ _ d rfl (HH.out.1.step hb2) (by have := HH.out.2; simp; omega) hb2.size ?_; intro u5 w5 hown5 hB5)
      go_ret2
      exact ⟨_, rfl, hown5.made (hb2.trans hB5)⟩
    · have hne : ¬ ((gn : Int) = (cn : Int)) := fun h => ho (hrel.2 h)
      rw [if_neg ho, if_neg (by decide)]
      clear hrel ho
      go_enter Try.func56, Try.ntmps56
      go_wp2_with fail
      refine hget.mono ?_
      rintro e w1 ⟨rfl, rfl⟩
      go_wp2_with fail
      refine hof.mono ?_
      rintro e w2 ⟨rfl, hb2⟩
      go_wp2
      go_ret2
      exact ⟨_, rfl, MadeB.nil_ hb2⟩
  · have e1 : openE l = 3 := by simp [openE, hl]
    have e2 : openL l = [] := by simp [openL, e1]
    rw [e1, e2]
    obtain ⟨a, c, rfl, g1, g2, _, _⟩ := id hI
    clear hI e1 e2
    go_enter Try.func56, Try.ntmps56
    go_wp2
    go_ret2
    exact ⟨_, rfl, MadeB.nil_ (Below.refl _ _)⟩
end Go.Proofs.Ythealkfpflkipaa

