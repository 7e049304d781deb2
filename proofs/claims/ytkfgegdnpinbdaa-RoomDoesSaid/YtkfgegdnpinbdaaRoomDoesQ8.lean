/- RoomDoes: the words and contracts, part 8. -/
import Derived.Test.YtkfgegdnpinbdaaRoomDoesQ1
import Derived.Test.YtkfgegdnpinbdaaRoomDoesQ2
import Derived.Test.YtkfgegdnpinbdaaRoomDoesQ3
import Derived.Test.YtkfgegdnpinbdaaRoomDoesQ4
import Derived.Test.YtkfgegdnpinbdaaRoomDoesQ5
import Derived.Test.YtkfgegdnpinbdaaRoomDoesQ6
import Derived.Test.YtkfgegdnpinbdaaRoomDoesQ7
import Derived.WalkKit
import Derived.WalkLawsBesides
import Derived.WalkSpells
import Derived.Lib.Hide
import Derived.Laws.Rows
import Derived.Laws.AppendOwnNone
import Derived.Maps.AppendAt
import Derived.RangeFuncNested
import Derived.RangeFuncBound
import Derived.RangeFuncCalls
import Derived.RangeFuncLeaves
import Derived.RangeFuncBox
import Derived.Shelf.Abstract
import Derived.Shelf.RegionOpen
import Derived.OwnWalkIn
import Derived.TacticsInMore
import Derived.LoopNIn
import Derived.LoopIn
import Derived.KernelRfl
import Derived.Lib.AppendZerosOnto
import Derived.Lib.SliceRun
import Derived.Lib.Walk
import Derived.Deep.LoopGhost
import Derived.Laws.CopyOwn
import Derived.ProofKit
import Derived.Deep.Slices
import Derived.WideShapes
import Derived.OrdersHeld
import Derived.Deep.QuietTactic
import Derived.BigQuiet
import Derived.StillTailTactics
import Derived.OpenShut
import Derived.Deep.DeepCutAuto
import Derived.Laws.CopyRow
import Derived.Laws.MakeOwn
import Derived.Deep.RegionHeld
import Derived.BigFrameIn
namespace Go.Proofs.Ytkfgegdnpinbdaa
open Go.RowKit

theorem half_odd (s : BitVec 32) (h : (s.toNat : Int) % 2 = 1) : bits BinOp.xor IntKind.u32 ((s.toNat : Int) / 2) 3988292384 = ((half s).toNat : Int) := by
  have := half_nat s
  have e : bits BinOp.and IntKind.u32 (s.toNat : Int) 1 = 1 := by
    rw [show (1 : Int) = ((1#32).toNat : Int) by decide, and_u32, BitVec.toNat_and, show (1#32).toNat = 1 from rfl, Nat.and_one_is_mod]
    omega
  rw [e] at this
  exact this
theorem half_evn (s : BitVec 32) (h : ¬ (s.toNat : Int) % 2 = 1) : (s.toNat : Int) / 2 = ((half s).toNat : Int) := by
  have hb : s.getLsbD 0 = false := by
    simp only [BitVec.getLsbD, Nat.testBit_zero]
    simp; omega
  unfold half
  rw [hb]
  simp only [Bool.false_eq_true, if_false, BitVec.xor_zero, shr_nat]
  omega

set_option maxHeartbeats 1000000 in
theorem halved_any (s : BitVec 32) (many : Nat) (w : World) (hm : many ≤ 1000) : Calls Try.prog 137 #[u32v s, .int .i64 many] w fun e w' => e = .returned (u32v (halves many s)) ∧ w = w' := by
  unfold u32v
  go_enter Try.func137, Try.ntmps137
  go_wp2
  go_loop [0, 5] (fun v k => ∃ j : Nat, j ≤ many ∧ k = .int .i64 j ∧ v = u32v (halves j s)) (fun _ k => many - (intOf k).toNat)
  case atStart => exact ⟨0, Nat.zero_le _, rfl, rfl⟩
  case round =>
    obtain ⟨j, hj, rfl, hs⟩ := hrel
    unfold u32v at hs
    subst hs
    by_cases hlt : j < many
    · have hb := (halves j s).isLt
      have hf : half (halves j s) = halves (j + 1) s := rfl
      have HF := Lib.hid hf
      clear hf
      generalize halves j s = q at *
      by_cases ho : (q.toNat : Int) % 2 = 1
      · go_wp2
        go_round
        case rel => exact ⟨j + 1, by omega, by go_num, by rw [← HF.out, u32v, ← half_odd q ho]⟩
        case measure => simp [intOf]; omega
      · go_wp2
        go_round
        case rel => exact ⟨j + 1, by omega, by go_num, by rw [← HF.out, u32v, ← half_evn q ho]⟩
        case measure => simp [intOf]; omega
    · obtain rfl : j = many := by omega
      go_wp2
      go_ret
      exact ⟨rfl, rfl⟩
theorem rem15 (s : BitVec 32) : ∃ i : Nat, i < 16 ∧ (s.toNat : Int) % 16 = (i : Int) ∧ halves 4 (BitVec.ofNat 32 i) = halves 4 (s &&& 15#32) := by
  obtain ⟨i, h1, h2, h3⟩ := and15 s
  refine ⟨i, h1, ?_, h3⟩
  rw [show (15 : Int) = ((15#32).toNat : Int) by decide, and_u32, BitVec.toNat_and, show (15#32).toNat = 2 ^ 4 - 1 from rfl, Nat.and_two_pow_sub_one_eq_mod] at h2
  omega

set_option maxHeartbeats 2000000 in
theorem rof_any (v : Value) (l : List UInt8) (w : World) (hI : Bytes w 0 w.heap.size v l) : Calls Try.prog 125 #[v] w fun e w' => e = .returned (u32v (crc l)) ∧ Below w.heap.size w w' := by
  obtain ⟨a, c, rfl, g1, g2, g3, _⟩ := id hI
  unfold maxLen at g2
  go_enter Try.func125, Try.ntmps125
  go_wp2
  go_loopw [4] (fun k wr => ∃ n : Nat, n ≤ 16 ∧ k = .int .i64 n ∧ wr = w.alloc (.cells (tabV n) 164)) (fun k _ => 16 - (intOf k).toNat)
  case atStart => exact ⟨0, by omega, rfl, by rw [tabV_zero]⟩
  case round =>
    obtain ⟨n, hn, rfl, rfl⟩ := hrel
    by_cases h : n < 16
    · have hcell : (tabV n)[n]? = some (.int .u32 0) := by simp [tabV, h]
      have htab := fun v hv => tabV_set n h v hv
      have hH := halved_any (BitVec.ofNat 32 n) 4 (w.alloc (.cells (tabV n) 164)) (by omega)
      rw [show u32v (BitVec.ofNat 32 n) = .int .u32 n by rw [u32v, BitVec.toNat_ofNat, Nat.mod_eq_of_lt (by omega)]] at hH
      unfold u32v at hH
      have HH := Lib.hid hH
      have HT := Lib.hid htab
      have hn' : (n : Int) < 16 := by omega
      clear htab hH
      go_wp2_with (go_at_call 137; refine HH.out.mono ?_; rintro e w' ⟨rfl, rfl⟩)
      go_roundw
      case rel => exact ⟨n + 1, by omega, by go_num, by rw [← HT.out _ rfl]; rfl⟩
      case measure => simp [intOf]; omega
    · obtain rfl : n = 16 := by omega
      rw [tabV_lit]
      go_wp2
      rw [← tabV_lit]
      have hI2 := hI.step ((Below.refl w.heap.size w).alloc (Nat.le_refl _) (.cells (tabV 16) 164))
      have hBW := (Below.refl w.heap.size w).alloc (Nat.le_refl _) (.cells (tabV 16) 164)
      have htab : ∀ i : Nat, i < 16 → (w.alloc (.cells (tabV 16) 164)).cell? ⟨w.heap.size, i, none⟩ = some (u32v (halves 4 (BitVec.ofNat 32 i))) := fun i hi => by rw [World.cell?_alloc_new]; exact tabV_at i hi
      generalize w.alloc (.cells (tabV 16) 164) = W at *
      have HB := Lib.hid hBW
      clear hI g3 hBW
      generalize w.heap.size = tb at htab ⊢
      have HT := Lib.hid htab
      have HI := Lib.hid hI2
      clear htab hI2
      go_loop [5, 6] (fun s i => ∃ k : Nat, k ≤ l.length ∧ i = .int .i64 k ∧ s = u32v (crcS (BitVec.allOnes 32) (l.take k))) (fun _ i => l.length - (intOf i).toNat)
      case atStart => exact ⟨0, Nat.zero_le _, rfl, rfl⟩
      case round =>
        obtain ⟨k, hk, rfl, hs⟩ := hrel
        unfold u32v at hs
        subst hs
        by_cases hlt : k < l.length
        · obtain ⟨b, off, c', he, _, hb, _, _, hc⟩ := HI.out.at_ (by omega)
          cases he
          have hx := hc k l[k] (by simp [hlt])
          have hsn : crcS (BitVec.allOnes 32) (l.take (k + 1)) = stepB (crcS (BitVec.allOnes 32) (l.take k)) l[k] := by rw [List.take_succ_eq_append_getElem hlt, crcS_append]; rfl
          have HS := Lib.hid hsn
          clear hsn hc
          generalize crcS (BitVec.allOnes 32) (l.take k) = s at *
          generalize l[k] = x at *
          unfold bV at hx
          have hxl : (x.toNat : Int) < 256 := by have := x.toNat_lt; omega
          have e1 : bits BinOp.xor IntKind.u32 (s.toNat : Int) (x.toNat : Int) = ((s ^^^ b32 x).toNat : Int) := by rw [← b32_nat, xor_u32]
          have hs1 : stepB s x = halves 4 (halves 4 (s ^^^ b32 x)) := stepB_four s x
          have HS1 := Lib.hid hs1
          clear hs1
          generalize s ^^^ b32 x = s1 at *
          obtain ⟨i1, hi1, e2, e3⟩ := rem15 s1
          have t1 := HT.out i1 hi1
          have e4 := four_nat s1
          rw [← e3] at e4
          generalize halves 4 (BitVec.ofNat 32 i1) = y1 at *
          generalize halves 4 s1 = s2 at *
          obtain ⟨i2, hi2, e5, e6⟩ := rem15 s2
          have t2 := HT.out i2 hi2
          have e7 := four_nat s2
          rw [← e6] at e7
          generalize halves 4 (BitVec.ofNat 32 i2) = y2 at *
          generalize halves 4 s2 = s3 at *
          unfold u32v at t1 t2
          have b1 := s1.isLt
          have b2 := s2.isLt
          clear e3 e6
          go_wp2
          go_round
          case rel => exact ⟨k + 1, by omega, by go_num, by rw [HS.out, HS1.out]; rfl⟩
          case measure => simp [intOf]; omega
        · obtain rfl : k = l.length := by omega
          rw [List.take_length]
          have hfin : u32v (crc l) = .int .u32 (bits BinOp.xor IntKind.u32 ((crcS (BitVec.allOnes 32) l).toNat : Int) 4294967295) := by
            rw [show (4294967295 : Int) = ((BitVec.allOnes 32).toNat : Int) by decide, xor_u32, BitVec.xor_allOnes]
            rfl
          have HFin := Lib.hid hfin
          have hbd := (crcS (BitVec.allOnes 32) l).isLt
          clear hfin
          generalize crcS (BitVec.allOnes 32) l = s at *
          go_wp2
          go_ret
          exact ⟨by rw [HFin.out]; rfl, HB.out⟩
end Go.Proofs.Ytkfgegdnpinbdaa

namespace Go.Proofs.Ytkfgegdnpinbdaa
open Go.RowKit

theorem maxL_zero (l : List UInt8) : maxL l = 0 ↔ ∀ x ∈ l, x = 0 := by
  have h : ∀ (l : List UInt8) (m : Nat), l.foldl (fun m x => max m x.toNat) m = 0 ↔ m = 0 ∧ ∀ x ∈ l, x = 0 := by
    intro l
    induction l with
    | nil => intro m; simp
    | cons y l ih =>
      intro m
      rw [List.foldl_cons, ih]
      constructor
      · rintro ⟨h1, h2⟩
        have h3 : y.toNat = 0 := by omega
        have h4 : y = 0 := UInt8.toNat_inj.1 (by rw [h3]; rfl)
        exact ⟨by omega, fun x hx => by rcases List.mem_cons.1 hx with e | hx; (exact e.trans h4); (exact h2 x hx)⟩
      · rintro ⟨h1, h2⟩
        have h4 := h2 y (List.mem_cons_self ..)
        subst h4
        exact ⟨by subst h1; rfl, fun x hx => h2 x (List.mem_cons_of_mem _ hx)⟩
  have := h l 0
  unfold maxL
  rw [this]
  exact ⟨fun h => h.2, fun h => ⟨rfl, h⟩⟩
theorem mayT_iff {l : List UInt8} (hl : l.length = 256) : mayT l = true ↔ ∀ i, i < 8 → l.getD i 0 = 0 := by
  unfold mayT
  simp only [Bool.and_eq_true, beq_iff_eq, hl, true_and]
  rw [maxL_zero]
  constructor
  · intro h i hi
    apply h
    rw [List.mem_take_iff_getElem]
    exact ⟨i, by omega, by simp [show i < l.length by omega]⟩
  · intro h x hx
    rw [List.mem_take_iff_getElem] at hx
    obtain ⟨i, hi, rfl⟩ := hx
    have := h i (by omega)
    rw [List.getD_eq_getElem?_getD, List.getElem?_eq_getElem (by omega)] at this
    exact this

set_option maxRecDepth 100000 in
set_option maxHeartbeats 1000000 in
theorem rmayt_any (v : Value) (l : List UInt8) (w : World) (hI : Bytes w 0 w.heap.size v l) :
    Calls Try.prog 77 #[v] w fun e w' => e = .returned (.bool (mayT l)) ∧ w' = w := by
  by_cases h : l.length = 256
  · obtain ⟨b, off, c, rfl, -, hc2, hc3, hc4, hcell⟩ := hI.at_n h (by omega)
    unfold maxLen at hc4
    have HM := Lib.hid (mayT_iff h)
    have HC := Lib.hid hcell
    generalize mayT l = m at *
    clear hcell hI
    go_enter Try.func77, Try.ntmps77
    go_wp2
    go_loop [3] (fun i => ∃ k : Nat, k ≤ 8 ∧ i = .int .i64 k ∧ ∀ j, j < k → l.getD j 0 = 0) (fun i => 8 - (intOf i).toNat)
    case atStart => exact ⟨0, Nat.zero_le _, rfl, fun j hj => absurd hj (Nat.not_lt_zero _)⟩
    case round =>
    obtain ⟨k, hk, rfl, hall⟩ := hrel
    by_cases hlt : k < 8
    · have hc := HC.out k (l.getD k 0) (by simp [show k < l.length by omega])
      obtain ⟨x, hx⟩ : ∃ x, l.getD k 0 = x := ⟨_, rfl⟩
      rw [hx] at hc
      simp only [bV] at hc
      have HX := Lib.hid (And.intro hx hall)
      clear hx hall
      by_cases h0 : x = 0
      · subst h0
        go_wp2
        go_round
        case rel => exact ⟨k + 1, by omega, by go_num, fun j hj => by
          by_cases e : j = k
          · subst e; exact HX.out.1
          · exact HX.out.2 j (by omega)⟩
        case measure => simp [intOf]; omega
      · have h1 : ((x.toNat : Int) != 0) = true := by
          rw [bne_iff_ne]
          intro e
          exact h0 (UInt8.toNat_inj.1 (by simpa using e))
        have hm : m = false := by
          rw [Bool.eq_false_iff]
          intro e
          exact h0 (HX.out.1.symm.trans (HM.out.1 e k hlt))
        subst hm
        go_wp2
        go_ret
        exact ⟨rfl, rfl⟩
    obtain rfl : k = 8 := by omega
    have hm := HM.out.2 hall
    subst hm
    clear hall
    go_wp2
    go_ret
    exact ⟨rfl, rfl⟩
  · have hM : mayT l = false := by unfold mayT; simp [h]
    obtain ⟨a, c, rfl, g1, g2, -, -⟩ := hI
    rw [hM]
    have h1 : ¬ (l.length : Int) = 256 := by omega
    go_enter Try.func77, Try.ntmps77
    go_wp2
    go_ret
    exact ⟨rfl, rfl⟩

set_option maxRecDepth 100000 in
set_option maxHeartbeats 1000000 in
theorem rwitht_any (v : Value) (l : List UInt8) (q : Nat) (x : UInt8) (w : World) (hI : Bytes w 0 w.heap.size v l) (hl : l.length = 256) (hq : q < 256) :
    Calls Try.prog 45 #[v, .int .i64 q, bV x] w fun e w' => ∃ u, e = .returned u ∧ MadeB w w' u (l.set q x) := by
  obtain ⟨a, c, rfl, g1, g2⟩ := hI.form hl
  have hx : (x.toNat : Int) < 256 := by have := x.toNat_lt; omega
  have HI := Lib.hid hI
  have HL := Lib.hid hl
  unfold maxLen at g2
  clear hI hl
  simp only [bV]
  go_enter Try.func45, Try.ntmps45
  go_wp2_with (at_builtin; refine wpList_appB rfl _ _ 26 rfl w.heap.size 5 Try.underlying26 info_u8 _ [] rfl (OwnB.nil_ _ _ _) 0 w.heap.size _ l rfl HI.out (by have := HL.out; show 0 + l.length ≤ _; omega) (Nat.le_refl _) ?_; intro v1 w1 hown hB)
  rw [List.nil_append] at hown
  have hm := hown.made hB
  obtain ⟨b, off, c1, rfl, -, z2, z3, z4, z5⟩ := hm.bytes.at_n HL.out (by omega)
  have hcell := z5 q (l.getD q 0) (by simp [HL.out, hq])
  have hfz := hm.thawed b off _ _ rfl q hq
  have hst := hm.bytes.set q x (by rw [HL.out]; exact hq)
  have htt := hm.thawed.set ⟨b, off + q, none⟩ (bV x)
  have hw : w.heap.size ≤ b := by
    obtain ⟨b', off', c', e, h1, -⟩ := hm.bytes.at_n HL.out (by omega)
    cases e
    exact h1
  have hBf := hB.setCell (p := ⟨b, off + q, none⟩) hw (bV x)
  simp only [bV] at hcell
  unfold maxLen at z4
  have HF := Lib.hid (And.intro hst (And.intro htt hBf))
  clear hst htt hBf hm hown hB z5
  have hq1 : (q : Int) < 256 := by omega
  have hq0 : ¬ (256 : Int) ≤ q := by omega
  go_wp2
  go_ret
  obtain ⟨hst, htt, hBf⟩ := HF.out
  exact ⟨_, rfl, by rw [World.size_setCell]; exact hst, htt, hBf⟩


set_option maxRecDepth 100000 in
set_option maxHeartbeats 1000000 in
theorem rnewt_any (w : World) : Calls Try.prog 58 #[] w fun e w' => ∃ u, e = .returned u ∧ MadeB w w' u (List.replicate 256 0) := by
  go_enter Try.func58, Try.ntmps58
  go_wp2_with (refine wpList_makeB rfl (.const (.int .i64 256)) (.const (.int .i64 256)) 26 rfl 5 Try.underlying26 info_u8 256 rfl rfl (by omega) ?_; intro w1 hrow hb)
  go_ret
  have h1 := hrow.bytes (by rw [List.length_replicate]; unfold maxLen; omega)
  rw [List.length_replicate] at h1
  exact ⟨_, rfl, h1.more (Nat.le_refl _) (by have := hrow.lt; omega), hrow.thawed _ _, hb⟩
end Go.Proofs.Ytkfgegdnpinbdaa

namespace Go.Proofs.Ytkfgegdnpinbdaa
open Go.RowKit

theorem below_dr (w : World) (n : Nat) : Below w.heap.size w (w.drewN n) := ⟨rfl, rfl, rfl, Nat.le_refl _, fun _ _ => rfl⟩
def nokI : ItemL := ⟨⟨0, 0, 0⟩, 0, []⟩
/-- What is asked of item number i of a node. -/
def stepN (n : NodeL) (i : Nat) : Bool := mayI (n.items.getD i nokI) && (i == 0 || lessK (n.items.getD (i - 1) nokI).key (n.items.getD i nokI).key) && (decide (n.level ≤ 0) || (decide ((n.items.getD i nokI).ref ≠ 0) && (n.items.getD i nokI).val.length == 0))
def mayN (n : NodeL) : Bool := decide (0 ≤ n.level) && decide (n.level < 6) && decide (n.items.length ≤ 5) && (decide (n.level ≤ 0) || n.items.length != 0) && (List.range n.items.length).all (stepN n)
theorem mayN_bad {n : NodeL} {i : Nat} (hi : i < n.items.length) (h : stepN n i = false) : mayN n = false := by
  have : (List.range n.items.length).all (stepN n) = false := by
    rw [List.all_eq_false]
    exact ⟨i, List.mem_range.2 hi, by rw [h]; decide⟩
  unfold mayN
  rw [this, Bool.and_false]
theorem mayN_yes {n : NodeL} (h0 : 0 ≤ n.level) (h1 : n.level < 6) (h2 : n.items.length ≤ 5) (h3 : n.level ≤ 0 ∨ n.items.length ≠ 0) (h : ∀ i, i < n.items.length → stepN n i = true) : mayN n = true := by
  have : (List.range n.items.length).all (stepN n) = true := by
    rw [List.all_eq_true]
    intro x hx
    exact h x (List.mem_range.1 hx)
  unfold mayN
  rw [this]
  have h4 : (decide (n.level ≤ 0) || n.items.length != 0) = true := by
    rcases h3 with h | h
    · simp [h]
    · rw [bne_iff_ne.2 h, Bool.or_true]
  rw [decide_eq_true h0, decide_eq_true h1, decide_eq_true h2, h4]
  rfl

set_option maxRecDepth 100000 in
set_option maxHeartbeats 4000000 in
/-- node.Check. -/
theorem ncheck_any (n : NodeL) (v : Value) (w : World) (h : Sl rItem w 0 w.heap.size v n.items) :
    Calls Try.prog 60 #[.agg #[.int .i64 n.level, v]] w fun e w' => e = .returned (.int .i64 (mayE (mayN n))) ∧ Below w.heap.size w w' := by
  obtain ⟨av, cv, rfl, g1, g2, -, -⟩ := id h
  unfold maxLen at g2
  have hst := (Below.refl w.heap.size w).alloc (Nat.le_refl _) (.cells #[.int .i64 n.level, .slice av n.items.length cv] 47)
  have qn := LK.new w (.cells #[.int .i64 n.level, .slice av n.items.length cv] 47)
  have hB : LW w _ := hst
  have hS := (LS.of h (Nat.le_refl _)).step hst
  obtain ⟨V, hV⟩ : ∃ V, w.alloc (.cells #[.int .i64 n.level, .slice av n.items.length cv] 47) = V := ⟨_, rfl⟩
  rw [hV] at hB hS qn
  have HBAD := Lib.hid (fun i hi h => mayN_bad (n := n) (i := i) hi h)
  have HYES := Lib.hid (fun a b c d e => mayN_yes (n := n) a b c d e)
  have hb1 : ¬ 0 ≤ n.level → mayN n = false := fun h => by unfold mayN; simp [h]
  have hb2 : ¬ n.level < 6 → mayN n = false := fun h => by unfold mayN; simp [h]
  have hb3 : ¬ n.items.length ≤ 5 → mayN n = false := fun h => by unfold mayN; simp [h]
  have hb4 : ¬ n.level ≤ 0 → n.items.length = 0 → mayN n = false := fun h h2 => by unfold mayN; rw [h2, decide_eq_false h]; simp
  have HB4 := Lib.hid (And.intro hb1 (And.intro hb2 (And.intro hb3 hb4)))
  have hstep : ∀ i, stepN n i = (mayI (n.items.getD i nokI) && (i == 0 || lessK (n.items.getD (i - 1) nokI).key (n.items.getD i nokI).key) && (decide (n.level ≤ 0) || (decide ((n.items.getD i nokI).ref ≠ 0) && (n.items.getD i nokI).val.length == 0))) := fun i => rfl
  have HST := Lib.hid hstep
  generalize mayN n = mn at *
  clear h hst hb1 hb2 hb3 hb4 hstep
  obtain ⟨lv, its⟩ := n
  simp only at *
  have HQ := Lib.hid (And.intro qn (And.intro hS hB))
  have c0 := LK.cell qn 0
  have c1 := LK.cell qn 1
  simp at c0 c1
  clear qn hS hB
  obtain ⟨ab, hab⟩ : ∃ ab, decide (0 < lv) = ab := ⟨_, rfl⟩
  go_enter Try.func60, Try.ntmps60
  go_upto_region 1 with (fail)
  clear hV
  by_cases l0 : lv < 0
  · have hm := HB4.out.1 (by omega)
    subst hm
    go_wp2
    go_ret
    exact ⟨rfl, HQ.out.2.2⟩
  have d0 : decide (lv < 0) = false := by simp; omega
  by_cases l6 : 6 ≤ lv
  · have hm := HB4.out.2.1 (by omega)
    subst hm
    go_wp2
    go_ret
    exact ⟨rfl, HQ.out.2.2⟩
  have d6 : decide (6 ≤ lv) = false := by simp; omega
  by_cases l5 : 5 < its.length
  · have hm := HB4.out.2.2.1 (by omega)
    subst hm
    have d5 : (5 : Int) < its.length := by omega
    go_wp2
    go_ret
    exact ⟨rfl, HQ.out.2.2⟩
  have d5 : decide ((5 : Int) < its.length) = false := by simp; omega
  by_cases lz : 0 < lv ∧ its.length = 0
  · have hm := HB4.out.2.2.2 (by omega) lz.2
    subst hm
    obtain rfl : ab = true := by rw [← hab]; simpa using lz.1
    have e0 : ((its.length : Int) == 0) = true := by rw [lz.2]; rfl
    clear lz
    go_wp2
    go_ret
    exact ⟨rfl, HQ.out.2.2⟩
  have hz : ab = true → ((its.length : Int) == 0) = false := fun hh => by
    rw [hh] at hab
    have : 0 < lv := by simpa using hab
    rw [beq_eq_false_iff_ne]
    intro e
    exact lz ⟨this, by omega⟩
  have hlz : lv ≤ 0 ∨ its.length ≠ 0 := by
    by_cases e : its.length = 0
    · left
      by_cases e2 : 0 < lv
      · exact absurd ⟨e2, e⟩ lz
      · omega
    · exact .inr e
  have HLZ := Lib.hid (And.intro hlz hab)
  clear lz hlz
  go_upto_region 2 with (fail)
  clear hab
  go_cut [32] (fun t wx => t = .bool false ∧ wx = V)
  case first =>
    cases ab
    · clear hz
      go_wp2
      go_meet
      exact ⟨rfl, rfl⟩
    · have hz1 := hz rfl
      clear hz
      go_wp2
      go_meet
      exact ⟨rfl, rfl⟩
  case rest =>
  obtain ⟨rfl, rfl⟩ := hcut
  obtain ⟨V2, hV2⟩ : ∃ V2, V2 = wc := ⟨_, rfl⟩
  subst hV2
  clear hz d0 d6 d5
  go_wp2_with fail
  go_loopw [36] (fun i wr => ∃ k : Nat, k ≤ its.length ∧ i = .int .i64 k ∧ Below V2.heap.size V2 wr ∧ ∀ j, j < k → stepN ⟨lv, its⟩ j = true) (fun i _ => its.length - (intOf i).toNat)
  case atStart => exact ⟨0, Nat.zero_le _, rfl, Below.refl _ _, fun j hj => absurd hj (Nat.not_lt_zero _)⟩
  case round =>
  obtain ⟨k, hk, rfl, hBr, hall⟩ := hrel
  have hst := hBr
  clear c0 c1
  obtain ⟨qn, hS, hB⟩ := HQ.out
  clear HQ
  have sz_wr : V2.heap.size ≤ wr.heap.size := hst.size
  replace qn := qn.step hst
  replace hS := hS.step hst
  replace hB := hB.step hst
  clear hst
  have HQ := Lib.hid (And.intro qn (And.intro hS hB))
  clear qn hS hB
  have c_qn0 := LK.cell HQ.out.1 0
  have c_qn1 := LK.cell HQ.out.1 1
  simp at c_qn0 c_qn1
  by_cases hlt : k < its.length
  · obtain ⟨bb, bo, cb, e1, -, -, -, zc, hcell⟩ := HQ.out.2.1.v.at_ (by omega)
    injection e1 with e1 _ e2
    subst e1 e2
    obtain ⟨f0, f1, f2, f3, f3w, vx, f4, hvx⟩ := hcell k (its.getD k nokI) (get_l _ _ _ hlt)
    obtain ⟨xn, hxn⟩ : ∃ xn, (its.getD k nokI).val.length = xn := ⟨_, rfl⟩
    obtain ⟨ax, cx, rfl, -, hcx⟩ := hvx.form hxn
    have hbad := HBAD.out k hlt
    have hstk := HST.out k
    obtain ⟨x, hx⟩ : ∃ x, its.getD k nokI = x := ⟨_, rfl⟩
    rw [hx] at f0 f1 f2 f3 f3w hvx hstk hxn
    rw [hxn] at hstk
    simp only [bV, wV, Nat.add_zero] at f0 f1 f2 f3 f4
    have hn5 : rItem.n = 5 := rfl
    rw [hn5] at f0 f1 f2 f3 f4 hcell
    unfold maxLen at zc hcx
    have hX := LB.of hvx (Nat.le_refl _)
    have HBR := Lib.hid (And.intro hBr (And.intro hall (And.intro hcell (And.intro hbad (And.intro hstk (And.intro hx hxn))))))
    clear hxn hBr hall hcell hvx hbad hstk hx hn5
    obtain ⟨qn, hS, hB⟩ := HQ.out
    clear HQ
    have hR : LW wr wr := Below.refl _ _
    have HQ := Lib.hid (And.intro qn (And.intro hS (And.intro hX (And.intro hR hB))))
    clear qn hS hX hR hB
    go_upto_region 7 with (fail)
    clear c_qn0 c_qn1
    obtain ⟨qn, hS, hX, hR, hB⟩ := HQ.out
    clear HQ
    have hst := (Below.refl wr.heap.size wr).alloc (Nat.le_refl _) (.cells #[.int .u8 (x.key.kind.toNat : Int), .int .u32 (x.key.id.toNat : Int), .int .u32 (x.key.off.toNat : Int), .int .i64 x.ref, .slice ax xn cx] 97)
    have hlt : wr.heap.size < (wr.alloc (.cells #[.int .u8 (x.key.kind.toNat : Int), .int .u32 (x.key.id.toNat : Int), .int .u32 (x.key.off.toNat : Int), .int .i64 x.ref, .slice ax xn cx] 97)).heap.size := by simp
    have qx := LK.new wr (.cells #[.int .u8 (x.key.kind.toNat : Int), .int .u32 (x.key.id.toNat : Int), .int .u32 (x.key.off.toNat : Int), .int .i64 x.ref, .slice ax xn cx] 97)
    replace qn := qn.step hst
    replace hS := hS.step hst
    replace hX := hX.step hst
    replace hR := hR.step hst
    replace hB := hB.step hst
    obtain ⟨w1, hw⟩ : ∃ v, wr.alloc (.cells #[.int .u8 (x.key.kind.toNat : Int), .int .u32 (x.key.id.toNat : Int), .int .u32 (x.key.off.toNat : Int), .int .i64 x.ref, .slice ax xn cx] 97) = v := ⟨_, rfl⟩
    rw [hw] at hlt qx qn hS hX hR hB ⊢
    clear hw hst
    have sz_w1 := hlt
    clear hlt
    have HQ := Lib.hid (And.intro qn (And.intro hS (And.intro hX (And.intro hR (And.intro qx hB)))))
    clear qn hS hX hR qx hB
    have c_qn0 := LK.cell HQ.out.1 0
    have c_qn1 := LK.cell HQ.out.1 1
    have c_qx0 := LK.cell HQ.out.2.2.2.2.1 0
    have c_qx1 := LK.cell HQ.out.2.2.2.2.1 1
    have c_qx2 := LK.cell HQ.out.2.2.2.2.1 2
    have c_qx3 := LK.cell HQ.out.2.2.2.2.1 3
    have c_qx4 := LK.cell HQ.out.2.2.2.2.1 4
    simp at c_qn0 c_qn1 c_qx0 c_qx1 c_qx2 c_qx3 c_qx4
    clear f0 f1 f2 f3 f4
    have k_chk := icheck_any x (.slice ax xn cx) w1 HQ.out.2.2.1.v
    simp only [itemV, bV, wV] at k_chk
    have KC := Lib.hid k_chk
    clear k_chk
    go_wp2_with fail
    refine (KC.out).mono ?_
    rintro e w2 ⟨rfl, hst⟩
    clear c_qn0 c_qn1 c_qx0 c_qx1 c_qx2 c_qx3 c_qx4
    obtain ⟨qn, hS, hX, hR, qx, hB⟩ := HQ.out
    clear HQ
    have sz_w2 : w1.heap.size ≤ w2.heap.size := hst.size
    replace qn := qn.step hst
    replace hS := hS.step hst
    replace hX := hX.step hst
    replace hR := hR.step hst
    replace qx := qx.step hst
    replace hB := hB.step hst
    clear hst
    have HQ := Lib.hid (And.intro qn (And.intro hS (And.intro hX (And.intro hR (And.intro qx hB)))))
    clear qn hS hX hR qx hB
    have c_qn0 := LK.cell HQ.out.1 0
    have c_qn1 := LK.cell HQ.out.1 1
    have c_qx0 := LK.cell HQ.out.2.2.2.2.1 0
    have c_qx1 := LK.cell HQ.out.2.2.2.2.1 1
    have c_qx2 := LK.cell HQ.out.2.2.2.2.1 2
    have c_qx3 := LK.cell HQ.out.2.2.2.2.1 3
    have c_qx4 := LK.cell HQ.out.2.2.2.2.1 4
    simp at c_qn0 c_qn1 c_qx0 c_qx1 c_qx2 c_qx3 c_qx4
    cases hmx : mayI x
    case false =>
      have hm := HBR.out.2.2.2.1 (by rw [HBR.out.2.2.2.2.1, hmx]; rfl)
      subst hm
      have me8 : mayE false = 8 := rfl
      rw [me8]
      go_wp2
      go_ret
      exact ⟨rfl, HQ.out.2.2.2.2.2⟩
    have me0 : mayE true = 0 := rfl
    rw [me0]
    clear me0 KC
    have hstk := HBR.out.2.2.2.2.1
    rw [hmx, Bool.true_and] at hstk
    have HS2 := Lib.hid hstk
    clear hstk hmx
    go_upto_region 10 with (fail)
    rcases Nat.eq_zero_or_pos k with hk0 | hk0
    · have e0 : decide ((0 : Int) < (k : Int)) = false := by simp; omega
      have e00 : decide (0 < k) = false := by simp; omega
      have e01 : ¬ 0 < k := by omega
      have hs3 : stepN ⟨lv, its⟩ k = (decide (lv ≤ 0) || decide (x.ref ≠ 0) && xn == 0) := by
        rw [HS2.out, show (k == 0) = true by simp [hk0]]
        rfl
      have HS3 := Lib.hid hs3
      clear hs3 hk0
      cases ab
      · have hlv : decide (lv ≤ 0) = true := by
          have := HLZ.out.2
          rw [decide_eq_false_iff_not] at this
          rw [decide_eq_true_eq]
          omega
        have HLV := Lib.hid hlv
        clear hlv
        go_quiet (fail)
        have hok : stepN ⟨lv, its⟩ k = true := by rw [HS3.out]; rw [HLV.out]; rfl
        have hallk := fun j (hj : j < k + 1) => (Nat.lt_succ_iff_lt_or_eq.1 hj).elim (HBR.out.2.1 j) (fun e => e ▸ hok)
        have HAL := Lib.hid hallk
        clear hallk hok
        go_wp2
        go_roundw
        case rel => exact ⟨k + 1, by omega, by go_num, HBR.out.1.trans (Below.mono (LW.step HQ.out.2.2.2.1 (below_dr _ _)) HBR.out.1.size), HAL.out⟩
        case measure => simp [intOf]; omega
      have hlv : decide (lv ≤ 0) = false := by
        have := HLZ.out.2
        rw [decide_eq_true_eq] at this
        rw [decide_eq_false_iff_not]
        omega
      have HLV := Lib.hid hlv
      clear hlv
      by_cases hr0 : x.ref = 0
      · have r0 : (x.ref == 0) = true := by simp [hr0]
        have HR0 := Lib.hid hr0
        clear hr0
        go_quiet (fail)
        have hm := HBR.out.2.2.2.1 (by rw [HS3.out]; rw [HLV.out, HR0.out]; rfl)
        subst hm
        go_wp2
        go_ret
        exact ⟨rfl, LW.step HQ.out.2.2.2.2.2 (below_dr _ _)⟩
      have r0 : (x.ref == 0) = false := by simp [hr0]
      have hr1 : decide (x.ref ≠ 0) = true := by simp [hr0]
      have HR0 := Lib.hid hr1
      clear hr0 hr1
      by_cases hv0 : xn = 0
      · have v0 : decide ((0 : Int) < (xn : Int)) = false := by simp [hv0]
        have v00 : decide (0 < xn) = false := by simp [hv0]
        have v01 : ¬ 0 < xn := by omega
        have hv1 : (xn == 0) = true := by simp [hv0]
        have HV1 := Lib.hid hv1
        clear hv0 hv1
        go_quiet (fail)
        have hok : stepN ⟨lv, its⟩ k = true := by rw [HS3.out]; rw [HLV.out, HR0.out, HV1.out]; rfl
        have hallk := fun j (hj : j < k + 1) => (Nat.lt_succ_iff_lt_or_eq.1 hj).elim (HBR.out.2.1 j) (fun e => e ▸ hok)
        have HAL := Lib.hid hallk
        clear hallk hok
        go_wp2
        go_roundw
        case rel => exact ⟨k + 1, by omega, by go_num, HBR.out.1.trans (Below.mono (LW.step HQ.out.2.2.2.1 (below_dr _ _)) HBR.out.1.size), HAL.out⟩
        case measure => simp [intOf]; omega
      have v0 : decide ((0 : Int) < (xn : Int)) = true := by simp; omega
      have v00 : decide (0 < xn) = true := by simp; omega
      have v01 : 0 < xn := by omega
      have hv1 : (xn == 0) = false := by simp [hv0]
      have HV1 := Lib.hid hv1
      clear hv0 hv1
      go_quiet (fail)
      have hm := HBR.out.2.2.2.1 (by rw [HS3.out]; rw [HLV.out, HR0.out, HV1.out]; rfl)
      subst hm
      go_wp2
      go_ret
      exact ⟨rfl, LW.step HQ.out.2.2.2.2.2 (below_dr _ _)⟩
    obtain ⟨m, rfl⟩ : ∃ m, k = m + 1 := ⟨k - 1, by omega⟩
    have hcm := HBR.out.2.2.1 m (its.getD m nokI) (get_l _ _ _ (by omega))
    obtain ⟨y, hy⟩ : ∃ y, its.getD m nokI = y := ⟨_, rfl⟩
    rw [hy] at hcm
    obtain ⟨u0, u1, u2, -, -, -, -⟩ := hcm
    simp only [bV, wV, Nat.add_zero] at u0 u1 u2
    have hbb := cell_lt' u0
    simp only at hbb
    have y0 := fun X => (Below.cell (below_step HQ.out.2.2.2.1 (Below.size HQ.out.2.2.2.1) (aft_below w2 X)) (p := ⟨bb, bo + m * 5, none⟩) hbb).trans u0
    have y1 := fun X => (Below.cell (below_step HQ.out.2.2.2.1 (Below.size HQ.out.2.2.2.1) (aft_below w2 X)) (p := ⟨bb, bo + m * 5 + 1, none⟩) hbb).trans u1
    have y2 := fun X => (Below.cell (below_step HQ.out.2.2.2.1 (Below.size HQ.out.2.2.2.1) (aft_below w2 X)) (p := ⟨bb, bo + m * 5 + 2, none⟩) hbb).trans u2
    have k_less := fun W => less_any y.key x.key W
    simp only [keyV, bV, wV] at k_less
    have hs3 := HS2.out
    rw [show (m + 1 == 0) = false by simp, Bool.false_or, Nat.add_sub_cancel, hy] at hs3
    obtain ⟨bl, hbl⟩ : ∃ bl, lessK y.key x.key = bl := ⟨_, rfl⟩
    rw [hbl] at k_less hs3
    have HKL := Lib.hid k_less
    clear k_less hbl u0 u1 u2 hy
    clear c_qn0 c_qn1 c_qx0 c_qx1 c_qx2 c_qx3 c_qx4
    have x_qn0 := fun X => LK.cell (HQ.out.1.step (aft_below w2 X)) 0
    have x_qn1 := fun X => LK.cell (HQ.out.1.step (aft_below w2 X)) 1
    have x_qx0 := fun X => LK.cell (HQ.out.2.2.2.2.1.step (aft_below w2 X)) 0
    have x_qx1 := fun X => LK.cell (HQ.out.2.2.2.2.1.step (aft_below w2 X)) 1
    have x_qx2 := fun X => LK.cell (HQ.out.2.2.2.2.1.step (aft_below w2 X)) 2
    have x_qx3 := fun X => LK.cell (HQ.out.2.2.2.2.1.step (aft_below w2 X)) 3
    have x_qx4 := fun X => LK.cell (HQ.out.2.2.2.2.1.step (aft_below w2 X)) 4
    simp at x_qn0 x_qn1 x_qx0 x_qx1 x_qx2 x_qx3 x_qx4
    have im1 : (m : Int) < its.length := by omega
    have im2 : ¬ (its.length : Int) ≤ m := by omega
    have e0 : decide ((0 : Int) < ((m + 1 : Nat) : Int)) = true := by rw [decide_eq_true_eq]; omega
    have e1 : decide ((0 : Int) < (m : Int) + 1) = true := by rw [decide_eq_true_eq]; omega
    cases bl
    · have hs4 : stepN ⟨lv, its⟩ (m + 1) = false := hs3
      have HS3 := Lib.hid hs4
      clear hs3 hs4
      refine wp_region_held_drew (S := Cls w2) (by kernel_rfl) (Cls.drew w2) (fun hCl => ?_)
      refine wpAnyH_seg (fuel := 17) (by kernel_rfl) (fun _ d _ _ _ h => by cases d <;> exact h) hCl [0, 1, 2, 3, 4, 5, 6, 7, 8, 9, 10, 11] _ _ _ (by kernel_rfl) (by kernel_rfl) ?_
      simp only [opsOf_cons, opsOf_nil, consOp_some, List.getElem?_toArray, List.getElem?_cons_succ, List.getElem?_cons_zero]
      repeat (first | go_big_quiet_step (fail) | quiet_step (fail))
      refine wpQuiet_nil ?_
      refine wpAnyH_each (fuel := 16) [12] (by kernel_rfl) (by simp) (by kernel_rfl) ?_
      refine Each.cons _ rfl (fun K' hK => ?_) Each.nil
      go_simp
      refine (HKL.out _).mono ?_
      rintro e z1 ⟨rfl, hb⟩
      have hst := below_step hCl.below hCl.below.size hb
      clear hb
      have hCl := Cls.of hst
      refine hK.out (Cls w2) (fun _ h => h) hCl ?_
      clear hK K'
      refine wpAnyH_seg (fuel := 0) (by kernel_rfl) (fun _ d _ _ _ h => by cases d <;> exact h) hCl [13, 14, 15, 16, 17, 18, 19, 20, 21, 22, 23, 24, 25, 26, 27, 28] _ _ _ (by kernel_rfl) (by kernel_rfl) ?_
      simp only [opsOf_cons, opsOf_nil, consOp_some, List.getElem?_toArray, List.getElem?_cons_succ, List.getElem?_cons_zero]
      repeat (first | go_big_quiet_step (fail) | quiet_step (fail))
      refine wpQuiet_nil ?_
      refine wpAnyH_done (by kernel_rfl) ?_ _
      have hm := HBR.out.2.2.2.1 (by rw [HS3.out]; skip)
      subst hm
      go_wp2
      go_ret
      exact ⟨rfl, LW.step HQ.out.2.2.2.2.2 (hst)⟩
    rw [Bool.true_and] at hs3
    have HS3 := Lib.hid hs3
    clear hs3
    cases ab
    · have hlv : decide (lv ≤ 0) = true := by
        have := HLZ.out.2
        rw [decide_eq_false_iff_not] at this
        rw [decide_eq_true_eq]
        omega
      have HLV := Lib.hid hlv
      clear hlv
      refine wp_region_held_drew (S := Cls w2) (by kernel_rfl) (Cls.drew w2) (fun hCl => ?_)
      refine wpAnyH_seg (fuel := 17) (by kernel_rfl) (fun _ d _ _ _ h => by cases d <;> exact h) hCl [0, 1, 2, 3, 4, 5, 6, 7, 8, 9, 10, 11] _ _ _ (by kernel_rfl) (by kernel_rfl) ?_
      simp only [opsOf_cons, opsOf_nil, consOp_some, List.getElem?_toArray, List.getElem?_cons_succ, List.getElem?_cons_zero]
      repeat (first | go_big_quiet_step (fail) | quiet_step (fail))
      refine wpQuiet_nil ?_
      refine wpAnyH_each (fuel := 16) [12] (by kernel_rfl) (by simp) (by kernel_rfl) ?_
      refine Each.cons _ rfl (fun K' hK => ?_) Each.nil
      go_simp
      refine (HKL.out _).mono ?_
      rintro e z1 ⟨rfl, hb⟩
      have hst := below_step hCl.below hCl.below.size hb
      clear hb
      have hCl := Cls.of hst
      refine hK.out (Cls w2) (fun _ h => h) hCl ?_
      clear hK K'
      refine wpAnyH_seg (fuel := 0) (by kernel_rfl) (fun _ d _ _ _ h => by cases d <;> exact h) hCl [13, 14, 15, 16, 17, 18, 19, 20, 21, 22, 23, 24, 25, 26, 27, 28] _ _ _ (by kernel_rfl) (by kernel_rfl) ?_
      simp only [opsOf_cons, opsOf_nil, consOp_some, List.getElem?_toArray, List.getElem?_cons_succ, List.getElem?_cons_zero]
      repeat (first | go_big_quiet_step (fail) | quiet_step (fail))
      refine wpQuiet_nil ?_
      refine wpAnyH_done (by kernel_rfl) ?_ _
      have hok : stepN ⟨lv, its⟩ (m + 1) = true := by rw [HS3.out]; rw [HLV.out]; rfl
      have hallk := fun j (hj : j < (m + 1) + 1) => (Nat.lt_succ_iff_lt_or_eq.1 hj).elim (HBR.out.2.1 j) (fun e => e ▸ hok)
      have HAL := Lib.hid hallk
      clear hallk hok
      go_wp2
      go_roundw
      case rel => exact ⟨(m + 1) + 1, by omega, by go_num, HBR.out.1.trans (Below.mono (LW.step HQ.out.2.2.2.1 (hst)) HBR.out.1.size), HAL.out⟩
      case measure => simp [intOf]; omega
    have hlv : decide (lv ≤ 0) = false := by
      have := HLZ.out.2
      rw [decide_eq_true_eq] at this
      rw [decide_eq_false_iff_not]
      omega
    have HLV := Lib.hid hlv
    clear hlv
    by_cases hr0 : x.ref = 0
    · have r0 : (x.ref == 0) = true := by simp [hr0]
      have HR0 := Lib.hid hr0
      clear hr0
      refine wp_region_held_drew (S := Cls w2) (by kernel_rfl) (Cls.drew w2) (fun hCl => ?_)
      refine wpAnyH_seg (fuel := 17) (by kernel_rfl) (fun _ d _ _ _ h => by cases d <;> exact h) hCl [0, 1, 2, 3, 4, 5, 6, 7, 8, 9, 10, 11] _ _ _ (by kernel_rfl) (by kernel_rfl) ?_
      simp only [opsOf_cons, opsOf_nil, consOp_some, List.getElem?_toArray, List.getElem?_cons_succ, List.getElem?_cons_zero]
      repeat (first | go_big_quiet_step (fail) | quiet_step (fail))
      refine wpQuiet_nil ?_
      refine wpAnyH_each (fuel := 16) [12] (by kernel_rfl) (by simp) (by kernel_rfl) ?_
      refine Each.cons _ rfl (fun K' hK => ?_) Each.nil
      go_simp
      refine (HKL.out _).mono ?_
      rintro e z1 ⟨rfl, hb⟩
      have hst := below_step hCl.below hCl.below.size hb
      clear hb
      have hCl := Cls.of hst
      refine hK.out (Cls w2) (fun _ h => h) hCl ?_
      clear hK K'
      refine wpAnyH_seg (fuel := 0) (by kernel_rfl) (fun _ d _ _ _ h => by cases d <;> exact h) hCl [13, 14, 15, 16, 17, 18, 19, 20, 21, 22, 23, 24, 25, 26, 27, 28] _ _ _ (by kernel_rfl) (by kernel_rfl) ?_
      simp only [opsOf_cons, opsOf_nil, consOp_some, List.getElem?_toArray, List.getElem?_cons_succ, List.getElem?_cons_zero]
      repeat (first | go_big_quiet_step (fail) | quiet_step (fail))
      refine wpQuiet_nil ?_
      refine wpAnyH_done (by kernel_rfl) ?_ _
      have hm := HBR.out.2.2.2.1 (by rw [HS3.out]; rw [HLV.out, HR0.out]; rfl)
      subst hm
      go_wp2
      go_ret
      exact ⟨rfl, LW.step HQ.out.2.2.2.2.2 (hst)⟩
    have r0 : (x.ref == 0) = false := by simp [hr0]
    have hr1 : decide (x.ref ≠ 0) = true := by simp [hr0]
    have HR0 := Lib.hid hr1
    clear hr0 hr1
    by_cases hv0 : xn = 0
    · have v0 : decide ((0 : Int) < (xn : Int)) = false := by simp [hv0]
      have v00 : decide (0 < xn) = false := by simp [hv0]
      have v01 : ¬ 0 < xn := by omega
      have hv1 : (xn == 0) = true := by simp [hv0]
      have HV1 := Lib.hid hv1
      clear hv0 hv1
      refine wp_region_held_drew (S := Cls w2) (by kernel_rfl) (Cls.drew w2) (fun hCl => ?_)
      refine wpAnyH_seg (fuel := 17) (by kernel_rfl) (fun _ d _ _ _ h => by cases d <;> exact h) hCl [0, 1, 2, 3, 4, 5, 6, 7, 8, 9, 10, 11] _ _ _ (by kernel_rfl) (by kernel_rfl) ?_
      simp only [opsOf_cons, opsOf_nil, consOp_some, List.getElem?_toArray, List.getElem?_cons_succ, List.getElem?_cons_zero]
      repeat (first | go_big_quiet_step (fail) | quiet_step (fail))
      refine wpQuiet_nil ?_
      refine wpAnyH_each (fuel := 16) [12] (by kernel_rfl) (by simp) (by kernel_rfl) ?_
      refine Each.cons _ rfl (fun K' hK => ?_) Each.nil
      go_simp
      refine (HKL.out _).mono ?_
      rintro e z1 ⟨rfl, hb⟩
      have hst := below_step hCl.below hCl.below.size hb
      clear hb
      have hCl := Cls.of hst
      refine hK.out (Cls w2) (fun _ h => h) hCl ?_
      clear hK K'
      refine wpAnyH_seg (fuel := 0) (by kernel_rfl) (fun _ d _ _ _ h => by cases d <;> exact h) hCl [13, 14, 15, 16, 17, 18, 19, 20, 21, 22, 23, 24, 25, 26, 27, 28] _ _ _ (by kernel_rfl) (by kernel_rfl) ?_
      simp only [opsOf_cons, opsOf_nil, consOp_some, List.getElem?_toArray, List.getElem?_cons_succ, List.getElem?_cons_zero]
      repeat (first | go_big_quiet_step (fail) | quiet_step (fail))
      refine wpQuiet_nil ?_
      refine wpAnyH_done (by kernel_rfl) ?_ _
      have hok : stepN ⟨lv, its⟩ (m + 1) = true := by rw [HS3.out]; rw [HLV.out, HR0.out, HV1.out]; rfl
      have hallk := fun j (hj : j < (m + 1) + 1) => (Nat.lt_succ_iff_lt_or_eq.1 hj).elim (HBR.out.2.1 j) (fun e => e ▸ hok)
      have HAL := Lib.hid hallk
      clear hallk hok
      go_wp2
      go_roundw
      case rel => exact ⟨(m + 1) + 1, by omega, by go_num, HBR.out.1.trans (Below.mono (LW.step HQ.out.2.2.2.1 (hst)) HBR.out.1.size), HAL.out⟩
      case measure => simp [intOf]; omega
    have v0 : decide ((0 : Int) < (xn : Int)) = true := by simp; omega
    have v00 : decide (0 < xn) = true := by simp; omega
    have v01 : 0 < xn := by omega
    have hv1 : (xn == 0) = false := by simp [hv0]
    have HV1 := Lib.hid hv1
    clear hv0 hv1
    refine wp_region_held_drew (S := Cls w2) (by kernel_rfl) (Cls.drew w2) (fun hCl => ?_)
    refine wpAnyH_seg (fuel := 17) (by kernel_rfl) (fun _ d _ _ _ h => by cases d <;> exact h) hCl [0, 1, 2, 3, 4, 5, 6, 7, 8, 9, 10, 11] _ _ _ (by kernel_rfl) (by kernel_rfl) ?_
    simp only [opsOf_cons, opsOf_nil, consOp_some, List.getElem?_toArray, List.getElem?_cons_succ, List.getElem?_cons_zero]
    repeat (first | go_big_quiet_step (fail) | quiet_step (fail))
    refine wpQuiet_nil ?_
    refine wpAnyH_each (fuel := 16) [12] (by kernel_rfl) (by simp) (by kernel_rfl) ?_
    refine Each.cons _ rfl (fun K' hK => ?_) Each.nil
    go_simp
    refine (HKL.out _).mono ?_
    rintro e z1 ⟨rfl, hb⟩
    have hst := below_step hCl.below hCl.below.size hb
    clear hb
    have hCl := Cls.of hst
    refine hK.out (Cls w2) (fun _ h => h) hCl ?_
    clear hK K'
    refine wpAnyH_seg (fuel := 0) (by kernel_rfl) (fun _ d _ _ _ h => by cases d <;> exact h) hCl [13, 14, 15, 16, 17, 18, 19, 20, 21, 22, 23, 24, 25, 26, 27, 28] _ _ _ (by kernel_rfl) (by kernel_rfl) ?_
    simp only [opsOf_cons, opsOf_nil, consOp_some, List.getElem?_toArray, List.getElem?_cons_succ, List.getElem?_cons_zero]
    repeat (first | go_big_quiet_step (fail) | quiet_step (fail))
    refine wpQuiet_nil ?_
    refine wpAnyH_done (by kernel_rfl) ?_ _
    have hm := HBR.out.2.2.2.1 (by rw [HS3.out]; rw [HLV.out, HR0.out, HV1.out]; rfl)
    subst hm
    go_wp2
    go_ret
    exact ⟨rfl, LW.step HQ.out.2.2.2.2.2 (hst)⟩
  obtain rfl : k = its.length := by omega
  have hm := HYES.out l0 l6 (by omega) HLZ.out.1 hall
  subst hm
  clear hall
  go_wp2
  go_ret
  exact ⟨rfl, HQ.out.2.2⟩
end Go.Proofs.Ytkfgegdnpinbdaa

namespace Go.Proofs.Ytkfgegdnpinbdaa
open Go.RowKit

def bodyN (its : List ItemL) : List UInt8 := (its.map itemB).flatten
def headN (n : NodeL) : List UInt8 := [78, UInt8.ofNat n.level.toNat, UInt8.ofNat n.items.length]
def bytesN (n : NodeL) : List UInt8 := headN n ++ bodyN n.items
theorem mayN_all {n : NodeL} (h : mayN n = true) : (0 ≤ n.level ∧ n.level < 6) ∧ n.items.length ≤ 5 ∧ (n.level ≤ 0 ∨ n.items.length ≠ 0) ∧ ∀ i, i < n.items.length → stepN n i = true := by
  unfold mayN at h
  simp only [Bool.and_eq_true, decide_eq_true_eq, Bool.or_eq_true, bne_iff_ne, List.all_eq_true, List.mem_range] at h
  exact ⟨⟨h.1.1.1.1, h.1.1.1.2⟩, h.1.1.2, h.1.2, h.2⟩
theorem stepN_may {n : NodeL} {i : Nat} (h : stepN n i = true) : mayI (n.items.getD i nokI) = true := by
  unfold stepN at h
  simp only [Bool.and_eq_true] at h
  exact h.1.1
theorem itemB_len' {x : ItemL} (h : mayI x = true) : (itemB x).length ≤ 24 := by
  have h1 : x.val.length ≤ 12 := by
    unfold mayI at h
    exact (of_decide_eq_true h).2
  have h2 : (itemB x).length = 12 + x.val.length := itemB_length x
  omega
theorem bodyN_len (its : List ItemL) (h : ∀ x ∈ its, mayI x = true) : (bodyN its).length ≤ its.length * 24 := by
  induction its with
  | nil => simp [bodyN]
  | cons x l ih =>
    have h1 := itemB_len' (h x (List.mem_cons_self ..))
    have h2 := ih (fun y hy => h y (List.mem_cons_of_mem _ hy))
    unfold bodyN at h2 ⊢
    simp only [List.map_cons, List.flatten_cons, List.length_append, List.length_cons]
    omega
theorem mem_getD {α : Type} {l : List α} {x d : α} (h : x ∈ l) : ∃ i, i < l.length ∧ l.getD i d = x := by
  obtain ⟨i, hi, e⟩ := List.mem_iff_getElem.1 h
  exact ⟨i, hi, by simp [hi, e]⟩
theorem mayN_items {n : NodeL} (h : mayN n = true) : ∀ x ∈ n.items, mayI x = true := fun x hx => by
  obtain ⟨i, hi, rfl⟩ := mem_getD (d := nokI) hx
  exact stepN_may ((mayN_all h).2.2.2 i hi)
theorem bodyN_succ (its : List ItemL) (k : Nat) (h : k < its.length) : bodyN (its.take (k + 1)) = bodyN (its.take k) ++ itemB (its.getD k nokI) := by
  unfold bodyN
  rw [List.take_succ_eq_append_getElem h, List.map_append, List.flatten_append]
  simp [h]
theorem own_lit (w : World) (l : List UInt8) (cs : Array Value) (e : TypeId) (base : Nat) (hb : base ≤ w.heap.size) (hl : l.length ≤ maxLen) (hcs : cs = (l.map bV).toArray) (n : Nat) (hn : n = l.length) : OwnB base e (w.alloc (.cells cs e)) (.slice (some ⟨w.heap.size, 0, none⟩) n n) l := by
  subst hcs hn
  refine ⟨by simp, .inr ⟨w.heap.size, l.length, _, rfl, hb, World.alloc_heap_new w _, Nat.le_refl _, hl, by simp, by simp only [Nat.mul_one]; exact List.take_of_length_le (by simp)⟩⟩

end Go.Proofs.Ytkfgegdnpinbdaa

