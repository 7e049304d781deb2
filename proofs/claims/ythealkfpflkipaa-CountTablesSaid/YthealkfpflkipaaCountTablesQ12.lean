/- CountTables: the words and contracts, part 12. -/
import Derived.Test.YthealkfpflkipaaCountTablesQ1
import Derived.Test.YthealkfpflkipaaCountTablesQ2
import Derived.Test.YthealkfpflkipaaCountTablesQ3
import Derived.Test.YthealkfpflkipaaCountTablesQ4
import Derived.Test.YthealkfpflkipaaCountTablesQ5
import Derived.Test.YthealkfpflkipaaCountTablesQ6
import Derived.Test.YthealkfpflkipaaCountTablesQ7
import Derived.Test.YthealkfpflkipaaCountTablesQ8
import Derived.Test.YthealkfpflkipaaCountTablesQ9
import Derived.Test.YthealkfpflkipaaCountTablesQ10
import Derived.Test.YthealkfpflkipaaCountTablesQ11
import Derived.WalkKit
import Derived.WalkLawsBesides
import Derived.WalkSpells
import Derived.Lib.Hide
import Derived.Laws.Rows
import Derived.Laws.AppendOwnNone
import Derived.Maps.AppendAt
import Derived.ProofKit
import Derived.Deep.Slices
import Derived.WideShapes
import Derived.RangeFuncNested
import Derived.RangeFuncBound
import Derived.RangeFuncCalls
import Derived.RangeFuncLeaves
import Derived.RangeFuncBox
import Derived.Shelf.Abstract
import Derived.Shelf.RegionOpen
import Derived.OwnWalkIn
import Derived.TacticsInMore
import Derived.LoopNIn
import Derived.LoopIn
import Derived.Lib.AppendZerosOnto
import Derived.Lib.SliceRun
import Derived.Lib.Walk
import Derived.Deep.LoopGhost
import Derived.Laws.CopyOwn
import Derived.OrdersHeld
import Derived.Deep.QuietTactic
import Derived.BigQuiet
import Derived.StillTailTactics
import Derived.OpenShut
import Derived.Deep.DeepCutAuto
import Derived.Laws.CopyRow
import Derived.Laws.MakeOwn
import Derived.Deep.RegionHeld
import Derived.KernelRfl
import Derived.BigFrameIn
namespace Go.Proofs.Ythealkfpflkipaa
open Go.RowKit

theorem outX_no {d : DiskL} {s : Int} {t : List UInt8} (h : errX d s t ≠ 0) : outX d s t = ⟨[], []⟩ := by unfold outX; rw [if_neg h]
theorem errP_may {d : DiskL} (h : mayD d = true) (s : Int) : errP d s = if s = 0 ∨ s = 1 then 0 else 2 := by unfold errP; rw [h]; rfl
theorem side_zero {d : DiskL} {s : Int} (h : mayD d = true) (hs : s = 0 ∨ s = 1) : errR d s = (if mayT (sideL d s) then 0 else 8) ∧ readT d s = if mayT (sideL d s) then sideL d s else [] := by
  have h3 : errR d s = (if mayT (sideL d s) then 0 else 8) := by unfold errR; rw [errP_may h, if_pos hs, if_neg (by simp)]
  refine ⟨h3, ?_⟩
  unfold readT
  rw [h3]
  cases mayT (sideL d s) <;> rfl
end Go.Proofs.Ythealkfpflkipaa

namespace Go.Proofs.Ythealkfpflkipaa
open Go.RowKit

theorem half_odd (s : BitVec 32) (h : (s.toNat : Int) % 2 = 1) : bits BinOp.xor IntKind.u32 ((s.toNat : Int) / 2) 3988292384 = ((half s).toNat : Int) := by
  have := half_nat s
  have e : bits BinOp.and IntKind.u32 (s.toNat : Int) 1 = 1 := by
    rw [show (1 : Int) = ((1#32).toNat : Int) by decide, and_u32, BitVec.toNat_and, show (1#32).toNat = 1 from rfl, Nat.and_one_is_mod]
    omega
  rw [e] at this
  exact this
theorem half_evn (s : BitVec 32) (h : ¬ (s.toNat : Int) % 2 = 1) : (s.toNat : Int) / 2 = ((half s).toNat : Int) := by
  have hb : s.getLsbD 0 = false := by
    simp only [BitVec.getLsbD, Nat.testBit_zero]
    simp; omega
  unfold half
  rw [hb]
  simp only [Bool.false_eq_true, if_false, BitVec.xor_zero, shr_nat]
  omega

set_option maxHeartbeats 1000000 in
theorem halved_any (s : BitVec 32) (many : Nat) (w : World) (hm : many ≤ 1000) : Calls Try.prog 70 #[u32v s, .int .i64 many] w fun e w' => e = .returned (u32v (halves many s)) ∧ w = w' := by
  unfold u32v
  go_enter Try.func70, Try.ntmps70
  go_wp2
  go_loop [0, 5] (fun v k => ∃ j : Nat, j ≤ many ∧ k = .int .i64 j ∧ v = u32v (halves j s)) (fun _ k => many - (intOf k).toNat)
  case atStart => exact ⟨0, Nat.zero_le _, rfl, rfl⟩
  case round =>
    obtain ⟨j, hj, rfl, hs⟩ := hrel
    unfold u32v at hs
    subst hs
    by_cases hlt : j < many
    · have hb := (halves j s).isLt
      have hf : half (halves j s) = halves (j + 1) s := rfl
      have HF := Lib.hid hf
      clear hf
      generalize halves j s = q at *
      by_cases ho : (q.toNat : Int) % 2 = 1
      · go_wp2
        go_round
        case rel => exact ⟨j + 1, by omega, by go_num, by rw [← HF.out, u32v, ← half_odd q ho]⟩
        case measure => simp [intOf]; omega
      · go_wp2
        go_round
        case rel => exact ⟨j + 1, by omega, by go_num, by rw [← HF.out, u32v, ← half_evn q ho]⟩
        case measure => simp [intOf]; omega
    · obtain rfl : j = many := by omega
      go_wp2
      go_ret
      exact ⟨rfl, rfl⟩
theorem rem15 (s : BitVec 32) : ∃ i : Nat, i < 16 ∧ (s.toNat : Int) % 16 = (i : Int) ∧ halves 4 (BitVec.ofNat 32 i) = halves 4 (s &&& 15#32) := by
  obtain ⟨i, h1, h2, h3⟩ := and15 s
  refine ⟨i, h1, ?_, h3⟩
  rw [show (15 : Int) = ((15#32).toNat : Int) by decide, and_u32, BitVec.toNat_and, show (15#32).toNat = 2 ^ 4 - 1 from rfl, Nat.and_two_pow_sub_one_eq_mod] at h2
  omega

set_option maxHeartbeats 2000000 in
theorem rof_any (v : Value) (l : List UInt8) (w : World) (hI : Bytes w 0 w.heap.size v l) : Calls Try.prog 40 #[v] w fun e w' => e = .returned (u32v (crc l)) ∧ Below w.heap.size w w' := by
  obtain ⟨a, c, rfl, g1, g2, g3, _⟩ := id hI
  unfold maxLen at g2
  go_enter Try.func40, Try.ntmps40
  go_wp2
  go_loopw [4] (fun k wr => ∃ n : Nat, n ≤ 16 ∧ k = .int .i64 n ∧ wr = w.alloc (.cells (tabV n) 103)) (fun k _ => 16 - (intOf k).toNat)
  case atStart => exact ⟨0, by omega, rfl, by rw [tabV_zero]⟩
  case round =>
    obtain ⟨n, hn, rfl, rfl⟩ := hrel
    by_cases h : n < 16
    · have hcell : (tabV n)[n]? = some (.int .u32 0) := by simp [tabV, h]
      have htab := fun v hv => tabV_set n h v hv
      have hH := halved_any (BitVec.ofNat 32 n) 4 (w.alloc (.cells (tabV n) 103)) (by omega)
      rw [show u32v (BitVec.ofNat 32 n) = .int .u32 n by rw [u32v, BitVec.toNat_ofNat, Nat.mod_eq_of_lt (by omega)]] at hH
      unfold u32v at hH
      have HH := Lib.hid hH
      have HT := Lib.hid htab
      have hn' : (n : Int) < 16 := by omega
      clear htab hH
      go_wp2_with (go_at_call 70; refine HH.out.mono ?_; rintro e w' ⟨rfl, rfl⟩)
      go_roundw
      case rel => exact ⟨n + 1, by omega, by go_num, by rw [← HT.out _ rfl]; rfl⟩
      case measure => simp [intOf]; omega
    · obtain rfl : n = 16 := by omega
      rw [tabV_lit]
      go_wp2
      rw [← tabV_lit]
      have hI2 := hI.step ((Below.refl w.heap.size w).alloc (Nat.le_refl _) (.cells (tabV 16) 103))
      have hBW := (Below.refl w.heap.size w).alloc (Nat.le_refl _) (.cells (tabV 16) 103)
      have htab : ∀ i : Nat, i < 16 → (w.alloc (.cells (tabV 16) 103)).cell? ⟨w.heap.size, i, none⟩ = some (u32v (halves 4 (BitVec.ofNat 32 i))) := fun i hi => by rw [World.cell?_alloc_new]; exact tabV_at i hi
      generalize w.alloc (.cells (tabV 16) 103) = W at *
      have HB := Lib.hid hBW
      clear hI g3 hBW
      generalize w.heap.size = tb at htab ⊢
      have HT := Lib.hid htab
      have HI := Lib.hid hI2
      clear htab hI2
      go_loop [5, 6] (fun s i => ∃ k : Nat, k ≤ l.length ∧ i = .int .i64 k ∧ s = u32v (crcS (BitVec.allOnes 32) (l.take k))) (fun _ i => l.length - (intOf i).toNat)
      case atStart => exact ⟨0, Nat.zero_le _, rfl, rfl⟩
      case round =>
        obtain ⟨k, hk, rfl, hs⟩ := hrel
        unfold u32v at hs
        subst hs
        by_cases hlt : k < l.length
        · obtain ⟨b, off, c', he, _, hb, _, _, hc⟩ := HI.out.at_ (by omega)
          cases he
          have hx := hc k l[k] (by simp [hlt])
          have hsn : crcS (BitVec.allOnes 32) (l.take (k + 1)) = stepB (crcS (BitVec.allOnes 32) (l.take k)) l[k] := by rw [List.take_succ_eq_append_getElem hlt, crcS_append]; rfl
          have HS := Lib.hid hsn
          clear hsn hc
          generalize crcS (BitVec.allOnes 32) (l.take k) = s at *
          generalize l[k] = x at *
          unfold bV at hx
          have hxl : (x.toNat : Int) < 256 := by have := x.toNat_lt; omega
          have e1 : bits BinOp.xor IntKind.u32 (s.toNat : Int) (x.toNat : Int) = ((s ^^^ b32 x).toNat : Int) := by rw [← b32_nat, xor_u32]
          have hs1 : stepB s x = halves 4 (halves 4 (s ^^^ b32 x)) := stepB_four s x
          have HS1 := Lib.hid hs1
          clear hs1
          generalize s ^^^ b32 x = s1 at *
          obtain ⟨i1, hi1, e2, e3⟩ := rem15 s1
          have t1 := HT.out i1 hi1
          have e4 := four_nat s1
          rw [← e3] at e4
          generalize halves 4 (BitVec.ofNat 32 i1) = y1 at *
          generalize halves 4 s1 = s2 at *
          obtain ⟨i2, hi2, e5, e6⟩ := rem15 s2
          have t2 := HT.out i2 hi2
          have e7 := four_nat s2
          rw [← e6] at e7
          generalize halves 4 (BitVec.ofNat 32 i2) = y2 at *
          generalize halves 4 s2 = s3 at *
          unfold u32v at t1 t2
          have b1 := s1.isLt
          have b2 := s2.isLt
          clear e3 e6
          go_wp2
          go_round
          case rel => exact ⟨k + 1, by omega, by go_num, by rw [HS.out, HS1.out]; rfl⟩
          case measure => simp [intOf]; omega
        · obtain rfl : k = l.length := by omega
          rw [List.take_length]
          have hfin : u32v (crc l) = .int .u32 (bits BinOp.xor IntKind.u32 ((crcS (BitVec.allOnes 32) l).toNat : Int) 4294967295) := by
            rw [show (4294967295 : Int) = ((BitVec.allOnes 32).toNat : Int) by decide, xor_u32, BitVec.xor_allOnes]
            rfl
          have HFin := Lib.hid hfin
          have hbd := (crcS (BitVec.allOnes 32) l).isLt
          clear hfin
          generalize crcS (BitVec.allOnes 32) l = s at *
          go_wp2
          go_ret
          exact ⟨by rw [HFin.out]; rfl, HB.out⟩
end Go.Proofs.Ythealkfpflkipaa

namespace Go.Proofs.Ythealkfpflkipaa
open Go.RowKit

theorem maxL_zero (l : List UInt8) : maxL l = 0 ↔ ∀ x ∈ l, x = 0 := by
  have h : ∀ (l : List UInt8) (m : Nat), l.foldl (fun m x => max m x.toNat) m = 0 ↔ m = 0 ∧ ∀ x ∈ l, x = 0 := by
    intro l
    induction l with
    | nil => intro m; simp
    | cons y l ih =>
      intro m
      rw [List.foldl_cons, ih]
      constructor
      · rintro ⟨h1, h2⟩
        have h3 : y.toNat = 0 := by omega
        have h4 : y = 0 := UInt8.toNat_inj.1 (by rw [h3]; rfl)
        exact ⟨by omega, fun x hx => by rcases List.mem_cons.1 hx with e | hx; (exact e.trans h4); (exact h2 x hx)⟩
      · rintro ⟨h1, h2⟩
        have h4 := h2 y (List.mem_cons_self ..)
        subst h4
        exact ⟨by subst h1; rfl, fun x hx => h2 x (List.mem_cons_of_mem _ hx)⟩
  have := h l 0
  unfold maxL
  rw [this]
  exact ⟨fun h => h.2, fun h => ⟨rfl, h⟩⟩
theorem mayT_iff {l : List UInt8} (hl : l.length = 256) : mayT l = true ↔ ∀ i, i < 8 → l.getD i 0 = 0 := by
  unfold mayT
  simp only [Bool.and_eq_true, beq_iff_eq, hl, true_and]
  rw [maxL_zero]
  constructor
  · intro h i hi
    apply h
    rw [List.mem_take_iff_getElem]
    exact ⟨i, by omega, by simp [show i < l.length by omega]⟩
  · intro h x hx
    rw [List.mem_take_iff_getElem] at hx
    obtain ⟨i, hi, rfl⟩ := hx
    have := h i (by omega)
    rw [List.getD_eq_getElem?_getD, List.getElem?_eq_getElem (by omega)] at this
    exact this

set_option maxRecDepth 100000 in
set_option maxHeartbeats 1000000 in
theorem rmayt_any (v : Value) (l : List UInt8) (w : World) (hI : Bytes w 0 w.heap.size v l) :
    Calls Try.prog 37 #[v] w fun e w' => e = .returned (.bool (mayT l)) ∧ w' = w := by
  by_cases h : l.length = 256
  · obtain ⟨b, off, c, rfl, -, hc2, hc3, hc4, hcell⟩ := hI.at_n h (by omega)
    unfold maxLen at hc4
    have HM := Lib.hid (mayT_iff h)
    have HC := Lib.hid hcell
    generalize mayT l = m at *
    clear hcell hI
    go_enter Try.func37, Try.ntmps37
    go_wp2
    go_loop [3] (fun i => ∃ k : Nat, k ≤ 8 ∧ i = .int .i64 k ∧ ∀ j, j < k → l.getD j 0 = 0) (fun i => 8 - (intOf i).toNat)
    case atStart => exact ⟨0, Nat.zero_le _, rfl, fun j hj => absurd hj (Nat.not_lt_zero _)⟩
    case round =>
    obtain ⟨k, hk, rfl, hall⟩ := hrel
    by_cases hlt : k < 8
    · have hc := HC.out k (l.getD k 0) (by simp [show k < l.length by omega])
      obtain ⟨x, hx⟩ : ∃ x, l.getD k 0 = x := ⟨_, rfl⟩
      rw [hx] at hc
      simp only [bV] at hc
      have HX := Lib.hid (And.intro hx hall)
      clear hx hall
      by_cases h0 : x = 0
      · subst h0
        go_wp2
        go_round
        case rel => exact ⟨k + 1, by omega, by go_num, fun j hj => by
          by_cases e : j = k
          · subst e; exact HX.out.1
          · exact HX.out.2 j (by omega)⟩
        case measure => simp [intOf]; omega
      · have h1 : ((x.toNat : Int) != 0) = true := by
          rw [bne_iff_ne]
          intro e
          exact h0 (UInt8.toNat_inj.1 (by simpa using e))
        have hm : m = false := by
          rw [Bool.eq_false_iff]
          intro e
          exact h0 (HX.out.1.symm.trans (HM.out.1 e k hlt))
        subst hm
        go_wp2
        go_ret
        exact ⟨rfl, rfl⟩
    obtain rfl : k = 8 := by omega
    have hm := HM.out.2 hall
    subst hm
    clear hall
    go_wp2
    go_ret
    exact ⟨rfl, rfl⟩
  · have hM : mayT l = false := by unfold mayT; simp [h]
    obtain ⟨a, c, rfl, g1, g2, -, -⟩ := hI
    rw [hM]
    have h1 : ¬ (l.length : Int) = 256 := by omega
    go_enter Try.func37, Try.ntmps37
    go_wp2
    go_ret
    exact ⟨rfl, rfl⟩

set_option maxRecDepth 100000 in
set_option maxHeartbeats 1000000 in
theorem rcheckt_any (v : Value) (l : List UInt8) (w : World) (hI : Bytes w 0 w.heap.size v l) :
    Calls Try.prog 19 #[v] w fun e w' => e = .returned (.int .i64 (errU l)) ∧ w' = w := by
  have k1 := rmayt_any v l w hI
  obtain ⟨a, c, rfl, -, -, -, -⟩ := hI
  unfold errU
  cases hm : mayT l
  all_goals
    rw [hm] at k1
    have K1 := Lib.hid k1
    clear k1 hm
    go_enter Try.func19, Try.ntmps19
    go_wp2_with fail
    refine K1.out.mono ?_
    rintro e w1 ⟨rfl, rfl⟩
    go_wp2
    go_ret
    exact ⟨rfl, rfl⟩

set_option maxRecDepth 100000 in
set_option maxHeartbeats 1000000 in
theorem rwitht_any (v : Value) (l : List UInt8) (q : Nat) (x : UInt8) (w : World) (hI : Bytes w 0 w.heap.size v l) (hl : l.length = 256) (hq : q < 256) :
    Calls Try.prog 38 #[v, .int .i64 q, bV x] w fun e w' => ∃ u, e = .returned u ∧ MadeB w w' u (l.set q x) := by
  obtain ⟨a, c, rfl, g1, g2⟩ := hI.form hl
  have hx : (x.toNat : Int) < 256 := by have := x.toNat_lt; omega
  have HI := Lib.hid hI
  have HL := Lib.hid hl
  unfold maxLen at g2
  clear hI hl
  simp only [bV]
  go_enter Try.func38, Try.ntmps38
  go_wp2_with (at_builtin; refine wpList_appB rfl _ _ 22 rfl w.heap.size 5 Try.underlying22 info_u8 _ [] rfl (OwnB.nil_ _ _ _) 0 w.heap.size _ l rfl HI.out (by have := HL.out; show 0 + l.length ≤ _; omega) (Nat.le_refl _) ?_; intro v1 w1 hown hB)
  rw [List.nil_append] at hown
  have hm := hown.made hB
  obtain ⟨b, off, c1, rfl, -, z2, z3, z4, z5⟩ := hm.bytes.at_n HL.out (by omega)
  have hcell := z5 q (l.getD q 0) (by simp [HL.out, hq])
  have hfz := hm.thawed b off _ _ rfl q hq
  have hst := hm.bytes.set q x (by rw [HL.out]; exact hq)
  have htt := hm.thawed.set ⟨b, off + q, none⟩ (bV x)
  have hw : w.heap.size ≤ b := by
    obtain ⟨b', off', c', e, h1, -⟩ := hm.bytes.at_n HL.out (by omega)
    cases e
    exact h1
  have hBf := hB.setCell (p := ⟨b, off + q, none⟩) hw (bV x)
  simp only [bV] at hcell
  unfold maxLen at z4
  have HF := Lib.hid (And.intro hst (And.intro htt hBf))
  clear hst htt hBf hm hown hB z5
  have hq1 : (q : Int) < 256 := by omega
  have hq0 : ¬ (256 : Int) ≤ q := by omega
  go_wp2
  go_ret
  obtain ⟨hst, htt, hBf⟩ := HF.out
  exact ⟨_, rfl, by rw [World.size_setCell]; exact hst, htt, hBf⟩


set_option maxRecDepth 100000 in
set_option maxHeartbeats 1000000 in
theorem rupt_any (v : Value) (l : List UInt8) (p : Int) (w : World) (hI : Bytes w 0 w.heap.size v l) :
    Calls Try.prog 8 #[v, .int .i64 p] w fun x w' => ∃ u, x = .returned (.tuple #[u, .int .i64 (errT l p 255)]) ∧ MadeB w w' u (outT l p 1 255) := by
  have hck := rmayt_any v l w hI
  cases hm : mayT l
  · have h1 : errT l p 255 = 8 := by unfold errT; simp [hm]
    have h2 : outT l p 1 255 = [] := by unfold outT; simp [h1]
    rw [h1, h2]
    rw [hm] at hck
    obtain ⟨a, c, rfl, -, -, -, -⟩ := hI
    have HC := Lib.hid hck
    clear h1 h2 hm hck
    go_enter Try.func8, Try.ntmps8
    go_wp2_with fail
    refine HC.out.mono ?_
    rintro x w1 ⟨rfl, rfl⟩
    go_wp2
    go_ret2
    exact ⟨_, rfl, MadeB.nil_ (Below.refl _ _)⟩
  · have hl := mayT_len hm
    have h0 : errT l p 255 = (if p < 8 ∨ 256 ≤ p then 2 else if l.getD p.toNat 0 = 255 then 70 else 0) := by unfold errT; simp [hm]
    rw [hm] at hck
    obtain ⟨bb, off, c, rfl, -, hc2, hc3, hc4, hcell⟩ := hI.at_n hl (by omega)
    unfold maxLen at hc4
    have HC := Lib.hid hck
    clear hck hm
    by_cases h1 : p < 8
    · have h2 : errT l p 255 = 2 := by rw [h0]; simp [h1]
      have h3 : outT l p 1 255 = [] := by unfold outT; simp [h2]
      rw [h2, h3]
      clear h0 h2 h3 hcell hl hI
      go_enter Try.func8, Try.ntmps8
      go_wp2_with fail
      refine HC.out.mono ?_
      rintro x w1 ⟨rfl, rfl⟩
      go_wp2
      go_ret2
      exact ⟨_, rfl, MadeB.nil_ (Below.refl _ _)⟩
    have d1 : decide (p < 8) = false := by simp; omega
    by_cases h1' : 256 ≤ p
    · have h2 : errT l p 255 = 2 := by rw [h0]; simp [h1']
      have h3 : outT l p 1 255 = [] := by unfold outT; simp [h2]
      rw [h2, h3]
      clear h0 h2 h3 hcell hl hI
      go_enter Try.func8, Try.ntmps8
      go_wp2_with fail
      refine HC.out.mono ?_
      rintro x w1 ⟨rfl, rfl⟩
      go_wp2
      go_ret2
      exact ⟨_, rfl, MadeB.nil_ (Below.refl _ _)⟩
    have d2 : decide (256 ≤ p) = false := by simp; omega
    obtain ⟨q, rfl⟩ : ∃ q : Nat, p = q := ⟨p.toNat, by omega⟩
    rw [Int.toNat_natCast] at h0
    have hq : q < 256 := by omega
    have hq8 : 8 ≤ q := by omega
    rw [if_neg (by omega)] at h0
    have hcq := hcell q (l.getD q 0) (by simp [hl, hq])
    have hset : outT l q 1 255 = if errT l q 255 = 0 then l.set q (l.getD q 0 + 1) else [] := by unfold outT; rw [Int.toNat_natCast]
    rw [hset]
    obtain ⟨x, hx⟩ : ∃ x, l.getD q 0 = x := ⟨_, rfl⟩
    rw [hx] at h0 hcq ⊢
    simp only [bV] at hcq
    by_cases h3 : x = 255
    · have h4 : errT l q 255 = 70 := by rw [h0, if_pos h3]
      rw [h4, if_neg (by decide)]
      subst h3
      have hcq' : w.cell? ⟨bb, off + q, none⟩ = some (.int .u8 255) := hcq
      clear h0 h4 hset hcell hl hI hx hcq
      go_enter Try.func8, Try.ntmps8
      go_wp2_with fail
      refine HC.out.mono ?_
      rintro y w1 ⟨rfl, rfl⟩
      go_wp2
      go_ret2
      exact ⟨_, rfl, MadeB.nil_ (Below.refl _ _)⟩
    · have h4 : errT l q 255 = 0 := by rw [h0, if_neg h3]
      rw [h4, if_pos rfl]
      have hn : ¬ (x.toNat : Int) = 255 := fun e => by
        have h9 : x.toNat = 255 := by omega
        exact h3 (UInt8.toNat_inj.1 (by rw [h9]; rfl))
      have hx1 : (x.toNat : Int) < 256 := by have := x.toNat_lt; omega
      have hsum : ((x.toNat : Int) + 1) = ((x + 1).toNat : Int) := by
        rw [UInt8.toNat_add]
        have : (1 : UInt8).toNat = 1 := rfl
        rw [this]
        omega
      have hw := fun V => rwitht_any (.slice (some ⟨bb, off, none⟩) 256 c) l q (x + 1) V
      have HW := Lib.hid (And.intro hw (And.intro hI (And.intro hl hsum)))
      clear h0 h4 hset hcell hl hI hx hw hsum h3
      go_enter Try.func8, Try.ntmps8
      go_wp2_with fail
      refine HC.out.mono ?_
      rintro y w1 ⟨rfl, rfl⟩
      go_wp2_with fail
      rw [HW.out.2.2.2]
      refine (HW.out.1 _ HW.out.2.1 HW.out.2.2.1 hq).mono ?_
      rintro y w2 ⟨u, rfl, hm⟩
      go_wp2
      go_ret2
      exact ⟨_, rfl, hm⟩

set_option maxRecDepth 100000 in
set_option maxHeartbeats 1000000 in
theorem rdownt_any (v : Value) (l : List UInt8) (p : Int) (w : World) (hI : Bytes w 0 w.heap.size v l) :
    Calls Try.prog 10 #[v, .int .i64 p] w fun x w' => ∃ u, x = .returned (.tuple #[u, .int .i64 (errT l p 0)]) ∧ MadeB w w' u (outT l p 255 0) := by
  have hck := rmayt_any v l w hI
  cases hm : mayT l
  · have h1 : errT l p 0 = 8 := by unfold errT; simp [hm]
    have h2 : outT l p 255 0 = [] := by unfold outT; simp [h1]
    rw [h1, h2]
    rw [hm] at hck
    obtain ⟨a, c, rfl, -, -, -, -⟩ := hI
    have HC := Lib.hid hck
    clear h1 h2 hm hck
    go_enter Try.func10, Try.ntmps10
    go_wp2_with fail
    refine HC.out.mono ?_
    rintro x w1 ⟨rfl, rfl⟩
    go_wp2
    go_ret2
    exact ⟨_, rfl, MadeB.nil_ (Below.refl _ _)⟩
  · have hl := mayT_len hm
    have h0 : errT l p 0 = (if p < 8 ∨ 256 ≤ p then 2 else if l.getD p.toNat 0 = 0 then 70 else 0) := by unfold errT; simp [hm]
    rw [hm] at hck
    obtain ⟨bb, off, c, rfl, -, hc2, hc3, hc4, hcell⟩ := hI.at_n hl (by omega)
    unfold maxLen at hc4
    have HC := Lib.hid hck
    clear hck hm
    by_cases h1 : p < 8
    · have h2 : errT l p 0 = 2 := by rw [h0]; simp [h1]
      have h3 : outT l p 255 0 = [] := by unfold outT; simp [h2]
      rw [h2, h3]
      clear h0 h2 h3 hcell hl hI
      go_enter Try.func10, Try.ntmps10
      go_wp2_with fail
      refine HC.out.mono ?_
      rintro x w1 ⟨rfl, rfl⟩
      go_wp2
      go_ret2
      exact ⟨_, rfl, MadeB.nil_ (Below.refl _ _)⟩
    have d1 : decide (p < 8) = false := by simp; omega
    by_cases h1' : 256 ≤ p
    · have h2 : errT l p 0 = 2 := by rw [h0]; simp [h1']
      have h3 : outT l p 255 0 = [] := by unfold outT; simp [h2]
      rw [h2, h3]
      clear h0 h2 h3 hcell hl hI
      go_enter Try.func10, Try.ntmps10
      go_wp2_with fail
      refine HC.out.mono ?_
      rintro x w1 ⟨rfl, rfl⟩
      go_wp2
      go_ret2
      exact ⟨_, rfl, MadeB.nil_ (Below.refl _ _)⟩
    have d2 : decide (256 ≤ p) = false := by simp; omega
    obtain ⟨q, rfl⟩ : ∃ q : Nat, p = q := ⟨p.toNat, by omega⟩
    rw [Int.toNat_natCast] at h0
    have hq : q < 256 := by omega
    have hq8 : 8 ≤ q := by omega
    rw [if_neg (by omega)] at h0
    have hcq := hcell q (l.getD q 0) (by simp [hl, hq])
    have hset : outT l q 255 0 = if errT l q 0 = 0 then l.set q (l.getD q 0 + 255) else [] := by unfold outT; rw [Int.toNat_natCast]
    rw [hset]
    obtain ⟨x, hx⟩ : ∃ x, l.getD q 0 = x := ⟨_, rfl⟩
    rw [hx] at h0 hcq ⊢
    simp only [bV] at hcq
    by_cases h3 : x = 0
    · have h4 : errT l q 0 = 70 := by rw [h0, if_pos h3]
      rw [h4, if_neg (by decide)]
      subst h3
      have hcq' : w.cell? ⟨bb, off + q, none⟩ = some (.int .u8 0) := hcq
      clear h0 h4 hset hcell hl hI hx hcq
      go_enter Try.func10, Try.ntmps10
      go_wp2_with fail
      refine HC.out.mono ?_
      rintro y w1 ⟨rfl, rfl⟩
      go_wp2
      go_ret2
      exact ⟨_, rfl, MadeB.nil_ (Below.refl _ _)⟩
    · have h4 : errT l q 0 = 0 := by rw [h0, if_neg h3]
      rw [h4, if_pos rfl]
      have hn : ¬ (x.toNat : Int) = 0 := fun e => by
        have h9 : x.toNat = 0 := by omega
        exact h3 (UInt8.toNat_inj.1 (by rw [h9]; rfl))
      have hx1 : (x.toNat : Int) < 256 := by have := x.toNat_lt; omega
      have hsum : ((x.toNat : Int) - 1) = ((x + 255).toNat : Int) := by
        rw [UInt8.toNat_add]
        have : (255 : UInt8).toNat = 255 := rfl
        rw [this]
        omega
      have hw := fun V => rwitht_any (.slice (some ⟨bb, off, none⟩) 256 c) l q (x + 255) V
      have HW := Lib.hid (And.intro hw (And.intro hI (And.intro hl hsum)))
      clear h0 h4 hset hcell hl hI hx hw hsum h3
      go_enter Try.func10, Try.ntmps10
      go_wp2_with fail
      refine HC.out.mono ?_
      rintro y w1 ⟨rfl, rfl⟩
      go_wp2_with fail
      rw [HW.out.2.2.2]
      refine (HW.out.1 _ HW.out.2.1 HW.out.2.2.1 hq).mono ?_
      rintro y w2 ⟨u, rfl, hm⟩
      go_wp2
      go_ret2
      exact ⟨_, rfl, hm⟩

set_option maxRecDepth 100000 in
set_option maxHeartbeats 1000000 in
theorem rsumt_any (v : Value) (l : List UInt8) (w : World) (hv : Bytes w 0 w.heap.size v l) :
    Calls Try.prog 12 #[v] w fun e w' => e = .returned (.tuple #[u32v (sumT l), .int .i64 (errU l)]) ∧ Below w.heap.size w w' := by
  have k1 := rmayt_any v l w hv
  have k2 := rof_any v l w hv
  obtain ⟨a, c, rfl, g1, g2⟩ := hv.form rfl
  unfold errU sumT
  cases hm : mayT l
  all_goals
    rw [hm] at k1
    have K1 := Lib.hid k1
    have K2 := Lib.hid k2
    clear k1 k2 hm hv
    go_enter Try.func12, Try.ntmps12
    go_wp2_with fail
    refine K1.out.mono ?_
    rintro e w1 ⟨rfl, rfl⟩
  · go_wp2
    go_ret2
    exact ⟨rfl, Below.refl _ _⟩
  · go_wp2_with fail
    refine K2.out.mono ?_
    rintro e w2 ⟨rfl, hst⟩
    go_wp2
    go_ret2
    exact ⟨rfl, hst⟩

set_option maxRecDepth 100000 in
set_option maxHeartbeats 1000000 in
theorem rnewt_any (w : World) : Calls Try.prog 21 #[] w fun e w' => ∃ u, e = .returned u ∧ MadeB w w' u (List.replicate 256 0) := by
  go_enter Try.func21, Try.ntmps21
  go_wp2_with (refine wpList_makeB rfl (.const (.int .i64 256)) (.const (.int .i64 256)) 22 rfl 5 Try.underlying22 info_u8 256 rfl rfl (by omega) ?_; intro w1 hrow hb)
  go_ret
  have h1 := hrow.bytes (by rw [List.length_replicate]; unfold maxLen; omega)
  rw [List.length_replicate] at h1
  exact ⟨_, rfl, h1.more (Nat.le_refl _) (by have := hrow.lt; omega), hrow.thawed _ _, hb⟩
end Go.Proofs.Ythealkfpflkipaa

namespace Go.Proofs.Ythealkfpflkipaa
open Go.RowKit

/-- A row of the call's own that holds writes. -/
def OwnW (base : Nat) (W w : World) (v : Value) (l : List WrL) : Prop := ∃ xs, w.ownsRow base 50 2 v l.length xs ∧ ∀ j x, l[j]? = some x → (xs[j * 2]? = some (.int .i64 x.at_) ∧ (Lit.int .i64 x.at_).wf = true) ∧ ∃ y, xs[j * 2 + 1]? = some y ∧ Bytes W 0 W.heap.size y x.data
theorem OwnW.nil_ (base : Nat) (W w : World) : OwnW base W w (.slice none 0 0) [] := ⟨[], World.ownsRow_nil _ _ _ _, fun j x h => by simp at h⟩
theorem OwnW.sl {base : Nat} {W w : World} {v : Value} {l : List WrL} (h : OwnW base W w v l) (hB : Below W.heap.size W w) : Sl rWrite w 0 w.heap.size v l := by
  obtain ⟨xs, ⟨hl, hrow⟩, hx⟩ := h
  rcases hrow with ⟨rfl, h0⟩ | ⟨g, cap, cur, rfl, hg, hh, h1, h2, h3, h4⟩
  · have : l = [] := List.eq_nil_of_length_eq_zero (by omega)
    subst this
    exact Sl.nil_ _ _ _
  · refine ⟨_, _, rfl, h1, h2, fun _ => ⟨g, 0, rfl, Nat.zero_le _, (Array.getElem?_eq_some_iff.1 hh).1, fun i x hxi => ?_⟩, fun h => by cases h⟩
    have hi : i < l.length := (List.getElem?_eq_some_iff.1 hxi).1
    obtain ⟨⟨e1, e2⟩, y, e3, e4⟩ := hx i x hxi
    have hc : ∀ j u, xs[j]? = some u → w.cell? ⟨g, j, none⟩ = some u := by
      intro j u hj
      rw [blk_cell hh, ← hj, ← h4, List.getElem?_take, if_pos]
      · simp
      · have := (List.getElem?_eq_some_iff.1 hj).1
        rw [hl] at this
        exact this
    refine ⟨?_, e2, y, ?_, (e4.below hB (Nat.le_refl _)).more (Nat.le_refl _) hB.size⟩
    · show w.cell? ⟨g, 0 + i * 2 + 0, none⟩ = _
      rw [Nat.zero_add, Nat.add_zero]
      exact hc _ _ e1
    · show w.cell? ⟨g, 0 + i * 2 + 1, none⟩ = _
      rw [Nat.zero_add]
      exact hc _ _ e3

theorem own_block {base : Nat} {e : TypeId} {size n : Nat} {v : Value} {xs : List Value} {w : World} (h : w.ownsRow base e size v n xs) : ∀ g, v.ownBlock = some g → base ≤ g := by
  intro g e
  rcases h.2 with ⟨rfl, h0⟩ | ⟨g, cap, cur, rfl, hgg, hh, h1, h2, h3, h4⟩
  · cases e
  · cases e; exact hgg
end Go.Proofs.Ythealkfpflkipaa

namespace Go.Proofs.Ythealkfpflkipaa
open Go.RowKit

theorem ext_getD {α : Type} (l m : List α) (d : α) (hl : l.length = m.length) (h : ∀ j, j < l.length → l.getD j d = m.getD j d) : l = m := by
  apply List.ext_getElem? 
  intro j
  rcases Nat.lt_or_ge j l.length with hj | hj
  · rw [get_l l d j hj, get_l m d j (by omega), h j hj]
  · rw [List.getElem?_eq_none hj, List.getElem?_eq_none (by omega)]

end Go.Proofs.Ythealkfpflkipaa

namespace Go.Proofs.Ythealkfpflkipaa
open Go.RowKit

/-- A disk, and where it lies. -/
structure DR (V : World) (lo hi : Nat) (b u : Value) (d : DiskL) : Prop where
  v : DiskV V lo hi b u d
  hi : hi ≤ V.heap.size
theorem DR.step {V V' : World} {lo hi : Nat} {b u : Value} {d : DiskL} (h : DR V lo hi b u d) (hst : Below V.heap.size V V') : DR V' lo hi b u d := ⟨⟨h.v.1.below hst h.hi, h.v.2.below hst h.hi⟩, Nat.le_trans h.hi hst.size⟩
theorem DR.v0 {V : World} {lo hi : Nat} {b u : Value} {d : DiskL} (h : DR V lo hi b u d) : DiskV V 0 V.heap.size b u d := h.v.more (Nat.zero_le _) h.hi
theorem DR.of {V V' : World} {b u : Value} {d : DiskL} (h : MadeD V V' b u d) : DR V' V.heap.size V'.heap.size b u d := ⟨h.disk.v, Nat.le_refl _⟩
structure BR (V : World) (lo hi : Nat) (v : Value) (l : List UInt8) : Prop where
  v : Bytes V lo hi v l
  hi : hi ≤ V.heap.size
theorem BR.step {V V' : World} {lo hi : Nat} {v : Value} {l : List UInt8} (h : BR V lo hi v l) (hst : Below V.heap.size V V') : BR V' lo hi v l := ⟨h.v.below hst h.hi, Nat.le_trans h.hi hst.size⟩
theorem BR.v0 {V : World} {lo hi : Nat} {v : Value} {l : List UInt8} (h : BR V lo hi v l) : Bytes V 0 V.heap.size v l := h.v.more (Nat.zero_le _) h.hi

end Go.Proofs.Ythealkfpflkipaa

