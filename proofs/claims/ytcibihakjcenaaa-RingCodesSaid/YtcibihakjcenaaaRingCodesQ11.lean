/- RingCodes: the words and contracts, part 11. -/
import Derived.Test.YtcibihakjcenaaaRingCodesQ1
import Derived.Test.YtcibihakjcenaaaRingCodesQ2
import Derived.Test.YtcibihakjcenaaaRingCodesQ3
import Derived.Test.YtcibihakjcenaaaRingCodesQ4
import Derived.Test.YtcibihakjcenaaaRingCodesQ5
import Derived.Test.YtcibihakjcenaaaRingCodesQ6
import Derived.Test.YtcibihakjcenaaaRingCodesQ7
import Derived.Test.YtcibihakjcenaaaRingCodesQ8
import Derived.Test.YtcibihakjcenaaaRingCodesQ9
import Derived.Test.YtcibihakjcenaaaRingCodesQ10
import Derived.Test.YtcibihakjcenaaaChecked
import Derived.WalkKit
import Derived.WalkLawsBesides
import Derived.WalkSpells
import Derived.Lib.Hide
import Derived.Laws.Rows
import Derived.Laws.AppendOwnNone
import Derived.Maps.AppendAt
import Derived.RangeFuncNested
import Derived.RangeFuncBound
import Derived.RangeFuncCalls
import Derived.RangeFuncLeaves
import Derived.RangeFuncBox
import Derived.Shelf.Abstract
import Derived.Shelf.RegionOpen
import Derived.OwnWalkIn
import Derived.TacticsInMore
import Derived.LoopNIn
import Derived.LoopIn
import Derived.KernelRfl
import Derived.Lib.AppendZerosOnto
import Derived.Lib.SliceRun
import Derived.Lib.Walk
import Derived.Deep.LoopGhost
import Derived.Laws.CopyOwn
import Derived.ProofKit
import Derived.Deep.Slices
import Derived.WideShapes
import Derived.Laws.CopyRow
import Derived.OrdersHeld
import Derived.Deep.QuietTactic
import Derived.BigQuiet
import Derived.StillTailTactics
import Derived.OpenShut
import Derived.Deep.DeepCutAuto
import Derived.Deep.RegionHeld
import Derived.Laws.MakeOwn
import Derived.BigFrameIn
import Derived.ShutString
import Derived.ChangeOld
import Derived.Below
namespace Go.Proofs.Ytcibihakjcenaaa
open Go.RowKit

theorem half_odd (s : BitVec 32) (h : (s.toNat : Int) % 2 = 1) : bits BinOp.xor IntKind.u32 ((s.toNat : Int) / 2) 3988292384 = ((half s).toNat : Int) := by
  have := half_nat s
  have e : bits BinOp.and IntKind.u32 (s.toNat : Int) 1 = 1 := by
    rw [show (1 : Int) = ((1#32).toNat : Int) by decide, and_u32, BitVec.toNat_and, show (1#32).toNat = 1 from rfl, Nat.and_one_is_mod]
    omega
  rw [e] at this
  exact this
theorem half_evn (s : BitVec 32) (h : ¬ (s.toNat : Int) % 2 = 1) : (s.toNat : Int) / 2 = ((half s).toNat : Int) := by
  have hb : s.getLsbD 0 = false := by
    simp only [BitVec.getLsbD, Nat.testBit_zero]
    simp; omega
  unfold half
  rw [hb]
  simp only [Bool.false_eq_true, if_false, BitVec.xor_zero, shr_nat]
  omega

set_option maxHeartbeats 1000000 in
theorem halved_any (s : BitVec 32) (many : Nat) (w : World) (hm : many ≤ 1000) : Calls Try.prog 137 #[u32v s, .int .i64 many] w fun e w' => e = .returned (u32v (halves many s)) ∧ w = w' := by
  unfold u32v
  go_enter Try.func137, Try.ntmps137
  go_wp2
  go_loop [0, 5] (fun v k => ∃ j : Nat, j ≤ many ∧ k = .int .i64 j ∧ v = u32v (halves j s)) (fun _ k => many - (intOf k).toNat)
  case atStart => exact ⟨0, Nat.zero_le _, rfl, rfl⟩
  case round =>
    obtain ⟨j, hj, rfl, hs⟩ := hrel
    unfold u32v at hs
    subst hs
    by_cases hlt : j < many
    · have hb := (halves j s).isLt
      have hf : half (halves j s) = halves (j + 1) s := rfl
      have HF := Lib.hid hf
      clear hf
      generalize halves j s = q at *
      by_cases ho : (q.toNat : Int) % 2 = 1
      · go_wp2
        go_round
        case rel => exact ⟨j + 1, by omega, by go_num, by rw [← HF.out, u32v, ← half_odd q ho]⟩
        case measure => simp [intOf]; omega
      · go_wp2
        go_round
        case rel => exact ⟨j + 1, by omega, by go_num, by rw [← HF.out, u32v, ← half_evn q ho]⟩
        case measure => simp [intOf]; omega
    · obtain rfl : j = many := by omega
      go_wp2
      go_ret
      exact ⟨rfl, rfl⟩
theorem rem15 (s : BitVec 32) : ∃ i : Nat, i < 16 ∧ (s.toNat : Int) % 16 = (i : Int) ∧ halves 4 (BitVec.ofNat 32 i) = halves 4 (s &&& 15#32) := by
  obtain ⟨i, h1, h2, h3⟩ := and15 s
  refine ⟨i, h1, ?_, h3⟩
  rw [show (15 : Int) = ((15#32).toNat : Int) by decide, and_u32, BitVec.toNat_and, show (15#32).toNat = 2 ^ 4 - 1 from rfl, Nat.and_two_pow_sub_one_eq_mod] at h2
  omega

set_option maxHeartbeats 2000000 in
theorem rof_any (v : Value) (l : List UInt8) (w : World) (hI : Bytes w 0 w.heap.size v l) : Calls Try.prog 108 #[v] w fun e w' => e = .returned (u32v (crc l)) ∧ Below w.heap.size w w' := by
  obtain ⟨a, c, rfl, g1, g2, g3, _⟩ := id hI
  unfold maxLen at g2
  go_enter Try.func108, Try.ntmps108
  go_wp2
  go_loopw [4] (fun k wr => ∃ n : Nat, n ≤ 16 ∧ k = .int .i64 n ∧ wr = w.alloc (.cells (tabV n) 184)) (fun k _ => 16 - (intOf k).toNat)
  case atStart => exact ⟨0, by omega, rfl, by rw [tabV_zero]⟩
  case round =>
    obtain ⟨n, hn, rfl, rfl⟩ := hrel
    by_cases h : n < 16
    · have hcell : (tabV n)[n]? = some (.int .u32 0) := by simp [tabV, h]
      have htab := fun v hv => tabV_set n h v hv
      have hH := halved_any (BitVec.ofNat 32 n) 4 (w.alloc (.cells (tabV n) 184)) (by omega)
      rw [show u32v (BitVec.ofNat 32 n) = .int .u32 n by rw [u32v, BitVec.toNat_ofNat, Nat.mod_eq_of_lt (by omega)]] at hH
      unfold u32v at hH
      have HH := Lib.hid hH
      have HT := Lib.hid htab
      have hn' : (n : Int) < 16 := by omega
      clear htab hH
      go_wp2_with (go_at_call 137; refine HH.out.mono ?_; rintro e w' ⟨rfl, rfl⟩)
      go_roundw
      case rel => exact ⟨n + 1, by omega, by go_num, by rw [← HT.out _ rfl]; rfl⟩
      case measure => simp [intOf]; omega
    · obtain rfl : n = 16 := by omega
      rw [tabV_lit]
      go_wp2
      rw [← tabV_lit]
      have hI2 := hI.step ((Below.refl w.heap.size w).alloc (Nat.le_refl _) (.cells (tabV 16) 184))
      have hBW := (Below.refl w.heap.size w).alloc (Nat.le_refl _) (.cells (tabV 16) 184)
      have htab : ∀ i : Nat, i < 16 → (w.alloc (.cells (tabV 16) 184)).cell? ⟨w.heap.size, i, none⟩ = some (u32v (halves 4 (BitVec.ofNat 32 i))) := fun i hi => by rw [World.cell?_alloc_new]; exact tabV_at i hi
      generalize w.alloc (.cells (tabV 16) 184) = W at *
      have HB := Lib.hid hBW
      clear hI g3 hBW
      generalize w.heap.size = tb at htab ⊢
      have HT := Lib.hid htab
      have HI := Lib.hid hI2
      clear htab hI2
      go_loop [5, 6] (fun s i => ∃ k : Nat, k ≤ l.length ∧ i = .int .i64 k ∧ s = u32v (crcS (BitVec.allOnes 32) (l.take k))) (fun _ i => l.length - (intOf i).toNat)
      case atStart => exact ⟨0, Nat.zero_le _, rfl, rfl⟩
      case round =>
        obtain ⟨k, hk, rfl, hs⟩ := hrel
        unfold u32v at hs
        subst hs
        by_cases hlt : k < l.length
        · obtain ⟨b, off, c', he, _, hb, _, _, hc⟩ := HI.out.at_ (by omega)
          cases he
          have hx := hc k l[k] (by simp [hlt])
          have hsn : crcS (BitVec.allOnes 32) (l.take (k + 1)) = stepB (crcS (BitVec.allOnes 32) (l.take k)) l[k] := by rw [List.take_succ_eq_append_getElem hlt, crcS_append]; rfl
          have HS := Lib.hid hsn
          clear hsn hc
          generalize crcS (BitVec.allOnes 32) (l.take k) = s at *
          generalize l[k] = x at *
          unfold bV at hx
          have hxl : (x.toNat : Int) < 256 := by have := x.toNat_lt; omega
          have e1 : bits BinOp.xor IntKind.u32 (s.toNat : Int) (x.toNat : Int) = ((s ^^^ b32 x).toNat : Int) := by rw [← b32_nat, xor_u32]
          have hs1 : stepB s x = halves 4 (halves 4 (s ^^^ b32 x)) := stepB_four s x
          have HS1 := Lib.hid hs1
          clear hs1
          generalize s ^^^ b32 x = s1 at *
          obtain ⟨i1, hi1, e2, e3⟩ := rem15 s1
          have t1 := HT.out i1 hi1
          have e4 := four_nat s1
          rw [← e3] at e4
          generalize halves 4 (BitVec.ofNat 32 i1) = y1 at *
          generalize halves 4 s1 = s2 at *
          obtain ⟨i2, hi2, e5, e6⟩ := rem15 s2
          have t2 := HT.out i2 hi2
          have e7 := four_nat s2
          rw [← e6] at e7
          generalize halves 4 (BitVec.ofNat 32 i2) = y2 at *
          generalize halves 4 s2 = s3 at *
          unfold u32v at t1 t2
          have b1 := s1.isLt
          have b2 := s2.isLt
          clear e3 e6
          go_wp2
          go_round
          case rel => exact ⟨k + 1, by omega, by go_num, by rw [HS.out, HS1.out]; rfl⟩
          case measure => simp [intOf]; omega
        · obtain rfl : k = l.length := by omega
          rw [List.take_length]
          have hfin : u32v (crc l) = .int .u32 (bits BinOp.xor IntKind.u32 ((crcS (BitVec.allOnes 32) l).toNat : Int) 4294967295) := by
            rw [show (4294967295 : Int) = ((BitVec.allOnes 32).toNat : Int) by decide, xor_u32, BitVec.xor_allOnes]
            rfl
          have HFin := Lib.hid hfin
          have hbd := (crcS (BitVec.allOnes 32) l).isLt
          clear hfin
          generalize crcS (BitVec.allOnes 32) l = s at *
          go_wp2
          go_ret
          exact ⟨by rw [HFin.out]; rfl, HB.out⟩
end Go.Proofs.Ytcibihakjcenaaa

namespace Go.Proofs.Ytcibihakjcenaaa
open Go.RowKit

/-- May a block be taken? -/
def takB (x : Int) : Bool := decide (8 ≤ x) && decide (x < 256)
/-- A superblock that may be. -/
def mayU (s : SupL) : Bool := s.dead.all takB && (takB s.root && decide (s.dead.length ≤ 40))
def deadB (l : List Int) : List UInt8 := (l.map fun x => twoL x.toNat).flatten
def headU (s : SupL) : List UInt8 := fourL s.gen.toNat ++ twoL s.root.toNat ++ fourL s.next.toNat ++ fourL s.table.toNat ++ [UInt8.ofNat s.dead.length]
def bytesU (s : SupL) : List UInt8 := headU s ++ deadB s.dead
def blockU (s : SupL) : List UInt8 := if mayU s then sealL (bytesU s) else []
def errUw (s : SupL) : Int := if mayU s then 0 else 8
/-- The first k numbers of a list of what waits to be reaped; none: there is no room. -/
def deadR (b : List UInt8) : Nat → Option (List Int)
  | 0 => some []
  | k + 1 => match deadR b k with
    | none => none
    | some l => if getE b (15 + 2 * (k : Int)) 2 = 0 then some (l ++ [(getN b (15 + 2 * (k : Int)) 2 : Int)]) else none
def rawU (b : List UInt8) (l : List Int) : SupL := ⟨UInt32.ofNat (getN b 0 4), (getN b 4 2 : Int), UInt32.ofNat (getN b 6 4), UInt32.ofNat (getN b 10 4), l⟩
def deadAll (b : List UInt8) : Option (List Int) := deadR b (b.getD 14 0).toNat
def okU (l : List UInt8) : Bool := match deadAll (openL l) with
  | none => false
  | some d => mayU (rawU (openL l) d) && blockU (rawU (openL l) d) == l
def errUr (l : List UInt8) : Int := if openE l = 0 then (if okU l then 0 else 8) else openE l
def noU : SupL := ⟨0, 0, 0, 0, []⟩
def readU (l : List UInt8) : SupL := if errUr l = 0 then rawU (openL l) ((deadAll (openL l)).getD []) else noU
theorem mayU_iff {s : SupL} : mayU s = true ↔ (∀ x ∈ s.dead, 8 ≤ x ∧ x < 256) ∧ (8 ≤ s.root ∧ s.root < 256) ∧ s.dead.length ≤ 40 := by
  unfold mayU takB
  simp [List.all_eq_true]
theorem twoL_len (n : Nat) : (twoL n).length = 2 := rfl
theorem deadB_len (l : List Int) : (deadB l).length = 2 * l.length := by
  unfold deadB
  induction l with
  | nil => rfl
  | cons a l ih => simp only [List.map_cons, List.flatten_cons, List.length_append, ih, twoL_len, List.length_cons]; omega
theorem deadB_app (l m : List Int) : deadB (l ++ m) = deadB l ++ deadB m := by unfold deadB; rw [List.map_append, List.flatten_append]
theorem headU_len (s : SupL) : (headU s).length = 15 := by
  unfold headU
  simp only [List.length_append, fourL_length, twoL_len, List.length_cons, List.length_nil]
theorem bytesU_len {s : SupL} (h : mayU s = true) : (bytesU s).length ≤ 124 := by
  unfold bytesU
  have := (mayU_iff.1 h).2.2
  rw [List.length_append, headU_len, deadB_len]
  omega
end Go.Proofs.Ytcibihakjcenaaa

namespace Go.Proofs.Ytcibihakjcenaaa
open Go.ChangeShapes Go.WideShapes Go.ChangeAt Go.RowKit

theorem own_ : ownKnob Try.prog.godebug = none := by kernel_rfl
theorem laidOut_ : laidOutB Try.prog = true := by kernel_rfl

theorem arg_bytes {H : Type} {enc : TypeId × Value → H} {P : Program} {W : World} {r : Reach} {base b0 : Nat} {spare : Nat → Bool} {held : Bool} {t e : TypeId} {v : Value} {d : DataW H} {p : List MemPlace} (ht : P.underlying t = some (.slice e)) (he : P.underlying e = some (.int .u8))
    (hC : P.cellsOf e = 1) (hv : Value.okWide P W r base t v) (h : DataW.Trod enc P W b0 spare held t v d p) : ∃ l, Bytes W 0 W.heap.size v l := by
  obtain ⟨a, len, cap, rfl⟩ := okWide_slice ht hv
  obtain ⟨fuel, hf⟩ := h
  rcases open_ints ht he hC hf with ⟨hcs, _⟩ | ⟨x, l, c, zs, hcs, _, hl, hm, hz, _, hcell, hwz⟩
  · simp [Value.cells] at hcs
    obtain ⟨rfl, rfl, rfl⟩ := hcs
    exact ⟨[], Bytes.nil_ _ _ _⟩
  · simp [Value.cells] at hcs
    obtain ⟨rfl, rfl, rfl⟩ := hcs
    have hz' : zs.length = cap ∨ zs.length = len := by first | exact .inl hz | (split at hz <;> first | exact .inl hz | exact .inr hz)
    have hb8 : ∀ n ∈ zs, 0 ≤ n ∧ n ≤ 255 := fun n hn => bounds_u8 (hwz n hn)
    have hll : len ≤ zs.length := by omega
    refine ⟨(zs.take len).map fun n => UInt8.ofNat n.toNat, some x, cap, by simp [Nat.min_eq_left hll], by simp; omega, hm, fun hp => ?_, fun h => by cases h⟩
    have hp' : 0 < len := by simp at hp; omega
    have h0 := hcell 0 (by omega)
    obtain ⟨b, off, spot⟩ := x
    have hspot : spot = none := by simpa [Addr.add] using World.cell?_spot h0
    subst hspot
    have hblk : b < W.heap.size := cell_lt' (a := ⟨b, off, none⟩) (by simpa [Addr.add] using h0)
    refine ⟨b, off, rfl, Nat.zero_le _, hblk, fun i y hy => ?_⟩
    have hi : i < len := by have := (List.getElem?_eq_some_iff.1 hy).1; simp at this; omega
    have hc := hcell i (by omega)
    have e2 : (⟨b, off, none⟩ : Addr).add i = ⟨b, off + i, none⟩ := by unfold Addr.add; split <;> simp_all
    rw [e2] at hc
    rw [hc]
    have hi2 : i < zs.length := by omega
    have hbz := hb8 zs[i] (List.getElem_mem hi2)
    simp [hi, hi2] at hy
    subst hy
    simp [bV, hi2]
    omega
end Go.Proofs.Ytcibihakjcenaaa

namespace Go.Proofs.Ytcibihakjcenaaa
open Go.ChangeShapes Go.WideShapes Go.ChangeAt Go.RowKit

section
variable {H : Type} {enc : TypeId × Value → H} {W : World} {r : Reach} {base : Nat} {spare : Nat → Bool} {held : Bool} {v : Value} {d : DataW H} {p : List MemPlace}
/-- What a superblock's number and list are. -/
def SupV (W : World) (lo hi : Nat) (v : Value) (x : SupL) : Prop := (Lit.int .i64 x.root).wf = true ∧ Sl (rInt .i64) W lo hi v x.dead
set_option maxRecDepth 100000 in
theorem arg_super (hv : Value.okWide Try.prog W r base 25 v) (h : DataW.Trod enc Try.prog W 0 spare held 25 v d p) :
    ∃ (x : SupL) (u : Value), v = .agg #[wV x.gen, .int .i64 x.root, wV x.next, wV x.table, u] ∧ SupV W 0 W.heap.size u x := by
  have ht : fieldsOf Try.prog 25 = some [(0, 22), (1, 3), (2, 22), (3, 22), (4, 23)] := by kernel_rfl
  obtain ⟨cs, rfl, hsz⟩ := okW_struct ht hv
  obtain ⟨fuel, hf⟩ := h
  obtain ⟨g, nx, tb, n, u, l, hcs, hw, hS⟩ := open_super ht Try.underlying22 (by kernel_rfl) Try.underlying3 (by kernel_rfl) (by kernel_rfl) (by kernel_rfl) Try.underlying23 hf
  refine ⟨⟨g, n, nx, tb, l⟩, u, ?_, hw, hS⟩
  congr 1
  apply Array.toList_inj.1
  exact hcs
end
end Go.Proofs.Ytcibihakjcenaaa

namespace Go.Proofs.Ytcibihakjcenaaa
open Go.RowKit

theorem taken_any (x : Int) (w : World) : Calls Try.prog 69 #[.int .i64 x] w fun e w' => e = .returned (.bool (takB x)) ∧ w' = w := by
  by_cases h1 : 8 ≤ x
  · by_cases h2 : x < 256
    · have e : takB x = true := by unfold takB; simp [h1, h2]
      rw [e]
      go_enter Try.func69, Try.ntmps69
      go_wp2
      go_ret
      exact ⟨rfl, rfl⟩
    · have e : takB x = false := by unfold takB; simp [h2]
      rw [e]
      go_enter Try.func69, Try.ntmps69
      go_wp2
      go_ret
      exact ⟨rfl, rfl⟩
  · have e : takB x = false := by unfold takB; simp [h1]
    rw [e]
    go_enter Try.func69, Try.ntmps69
    go_wp2
    go_ret
    exact ⟨rfl, rfl⟩
theorem untaken_any (x : Int) (w : World) : Calls Try.prog 68 #[.int .i64 x] w fun e w' => e = .returned (.bool (!takB x)) ∧ w' = w := by
  have ht := fun W => taken_any x W
  generalize takB x = t at *
  go_enter Try.func68, Try.ntmps68
  go_wp2_with fail
  refine (ht _).mono ?_
  rintro e w1 ⟨rfl, rfl⟩
  go_wp2
  go_ret
  exact ⟨rfl, rfl⟩
theorem Sl.cellI {k : IntKind} {w : World} {lo hi n c b off : Nat} {l : List Int} (h : Sl (rInt k) w lo hi (.slice (some ⟨b, off, none⟩) n c) l) (i : Nat) (hx : i < l.length) : w.cell? ⟨b, off + i, none⟩ = some (.int k (l.getD i 0)) := by
  obtain ⟨a, c', e, h1, h2, h3, h4⟩ := h
  cases e
  obtain ⟨b', off', ea, _, _, hc⟩ := h3 (by omega)
  cases ea
  have := (hc i (l.getD i 0) (by simp [hx])).1
  simpa [rInt] using this
set_option maxRecDepth 100000 in
set_option maxHeartbeats 1000000 in
/-- slices.IndexFunc, asked with the closure of ring.Check. -/
theorem udead_any (v : Value) (l : List Int) (w : World) (hI : Sl (rInt .i64) w 0 w.heap.size v l) :
    Calls Try.prog 111 #[v, .func (.func 68) #[] #[]] w fun e w' => ∃ r : Int, e = .returned (.int .i64 r) ∧ decide (0 ≤ r) = !(l.all takB) ∧ Below w.heap.size w w' := by
  have hl := hI.len_le
  unfold maxLen at hl
  obtain ⟨a, c, rfl, g1, g2, g3, -⟩ := id hI
  unfold maxLen at g2
  have HI := Lib.hid hI
  clear hI g3
  go_enter Try.func111, Try.ntmps111
  go_wp2
  go_loopg [5, 8] l.length (fun g _ i wr => ∃ k : Nat, k ≤ l.length ∧ l.length - k ≤ g ∧ i = .int .i64 k ∧ (l.take k).all takB = true ∧ Below w.heap.size w wr)
  case atStart => exact ⟨0, Nat.zero_le _, by omega, rfl, rfl, Below.refl _ _⟩
  case round =>
    obtain ⟨k, hk, hg, rfl, hA, hB⟩ := hrel
    by_cases hlt : k < l.length
    · obtain ⟨b, off, ea⟩ : ∃ b off, a = some ⟨b, off, none⟩ := by
        obtain ⟨a', c', e, -, -, h3, -⟩ := HI.out
        cases e
        obtain ⟨b, off, ea, -⟩ := h3 (by omega)
        exact ⟨b, off, ea⟩
      subst ea
      have ck := (HI.out.below hB (Nat.le_refl _)).cellI k hlt
      have hS : (l.take (k + 1)).all takB = takB (l.getD k 0) := by
        rw [List.take_succ_eq_append_getElem hlt, List.all_append, hA]
        simp [hlt]
      have hAll : l.all takB = true → takB (l.getD k 0) = true := fun h => List.all_eq_true.1 h _ (by rw [List.getD_eq_getElem?_getD, List.getElem?_eq_getElem hlt]; exact List.getElem_mem hlt)
      have HS := Lib.hid (And.intro hS (And.intro hAll (And.intro hB hA)))
      clear hS hAll hB hA
      have ht := fun W => untaken_any (l.getD k 0) W
      generalize l.getD k 0 = x at *
      generalize takB x = t at *
      go_wp2_with fail
      refine (ht _).mono ?_
      rintro e w1 ⟨rfl, rfl⟩
      cases t
      case false =>
        go_wp2
        go_ret
        refine ⟨k, rfl, ?_, by simpa using HS.out.2.2.1⟩
        have : ¬ l.all takB = true := fun h => by have := HS.out.2.1 h; cases this
        simp [this]
      case true =>
        go_wp2
        go_roundg (l.length - (k + 1))
        case measure => omega
        case rel => exact ⟨k + 1, by omega, Nat.le_refl _, by go_num, HS.out.1, by simpa using HS.out.2.2.1⟩
    · have hkl : k = l.length := by omega
      subst hkl
      rw [List.take_length] at hA
      go_wp2
      go_ret
      exact ⟨-1, rfl, by rw [hA]; rfl, hB⟩
set_option maxRecDepth 100000 in
set_option maxHeartbeats 1000000 in
theorem cdead_any (v : Value) (l : List Int) (w : World) (hI : Sl (rInt .i64) w 0 w.heap.size v l) :
    Calls Try.prog 67 #[v, .func (.func 68) #[] #[]] w fun e w' => e = .returned (.bool (!(l.all takB))) ∧ Below w.heap.size w w' := by
  have hd := fun W hh => udead_any v l W hh
  generalize l.all takB = t at *
  obtain ⟨a, c, rfl, g1, g2, -, -⟩ := id hI
  unfold maxLen at g2
  go_enter Try.func67, Try.ntmps67
  go_wp2_with fail
  refine (hd _ ?_).mono ?_
  · exact hI
  rintro e w1 ⟨r, rfl, hr, hB⟩
  cases t
  · have h1 : 0 ≤ r := by simpa using hr
    go_wp2
    go_ret
    exact ⟨rfl, by simpa using hB⟩
  · have h1 : ¬ 0 ≤ r := by simpa using hr
    go_wp2
    go_ret
    exact ⟨rfl, by simpa using hB⟩
set_option maxRecDepth 100000 in
set_option maxHeartbeats 1000000 in
/-- ring.Check. -/
theorem ucheck_any (s : SupL) (u : Value) (w : World) (h_s : SupV w 0 w.heap.size u s) :
    Calls Try.prog 20 #[.agg #[wV s.gen, .int .i64 s.root, wV s.next, wV s.table, u]] w fun e w' => e = .returned (.int .i64 (errUw s)) ∧ Below w.heap.size w w' := by
  have hI := h_s.2
  have hl := hI.len_le
  unfold maxLen at hl
  obtain ⟨a, c, rfl, g1, g2, -, -⟩ := id hI
  unfold maxLen at g2
  have hE : errUw s = if s.dead.all takB && (takB s.root && decide (s.dead.length ≤ 40)) then 0 else 8 := by unfold errUw mayU; rfl
  generalize errUw s = z at *
  have hd := fun W v hh => cdead_any v s.dead W hh
  have ht := fun W => taken_any s.root W
  generalize wV s.gen = vg
  generalize wV s.next = vn
  generalize wV s.table = vt
  generalize s.root = ro at *
  generalize s.dead.all takB = da at *
  generalize takB ro = tr at *
  have HE := Lib.hid hE
  clear hE
  have hst := (Below.refl w.heap.size w).alloc (Nat.le_refl _) (.cells #[vg, .int .i64 ro, vn, vt, .slice a s.dead.length c] 25)
  have hq := LK.new w (.cells #[vg, .int .i64 ro, vn, vt, .slice a s.dead.length c] 25)
  replace hI := hI.step hst
  have HI := Lib.hid (And.intro hI hst)
  clear hI hst h_s
  go_enter Try.func20, Try.ntmps20
  go_upto_region 1 with (fail)
  obtain ⟨V, hV⟩ : ∃ V, (w.alloc (.cells #[vg, .int .i64 ro, vn, vt, .slice a s.dead.length c] 25)) = V := ⟨_, rfl⟩
  rw [hV] at hq HI ⊢
  clear hV
  have c1 := LK.cell hq 1
  have c4 := LK.cell hq 4
  simp at c1 c4
  go_wp2_with fail
  refine (hd _ _ HI.out.1).mono ?_
  rintro e w1 ⟨rfl, hst⟩
  have HB := Lib.hid (HI.out.2.trans (hst.mono HI.out.2.size))
  replace hq := hq.step hst
  clear c1 c4 HI hst
  have c1 := LK.cell hq 1
  have c4 := LK.cell hq 4
  simp at c1 c4
  cases da
  case false =>
    go_wp2
    go_ret
    exact ⟨by rw [HE.out]; simp, by simpa using HB.out⟩
  case true =>
    go_wp2_with fail
    refine (ht _).mono ?_
    rintro e w2 ⟨rfl, rfl⟩
    cases tr
    case false =>
      go_wp2
      go_ret
      exact ⟨by rw [HE.out]; simp, by simpa using HB.out⟩
    case true =>
      by_cases h40 : s.dead.length ≤ 40
      · have h41 : ¬ (40 : Int) < s.dead.length := by omega
        go_wp2
        go_ret
        exact ⟨by rw [HE.out]; simp [h40], by simpa using HB.out⟩
      · have h41 : (40 : Int) < s.dead.length := by omega
        go_wp2
        go_ret
        exact ⟨by rw [HE.out]; simp [h40], by simpa using HB.out⟩
end Go.Proofs.Ytcibihakjcenaaa

