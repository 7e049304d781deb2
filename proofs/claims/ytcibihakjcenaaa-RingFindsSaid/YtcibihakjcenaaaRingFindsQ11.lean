/- RingFinds: the words and contracts, part 11. -/
import Derived.Test.YtcibihakjcenaaaRingFindsQ1
import Derived.Test.YtcibihakjcenaaaRingFindsQ2
import Derived.Test.YtcibihakjcenaaaRingFindsQ3
import Derived.Test.YtcibihakjcenaaaRingFindsQ4
import Derived.Test.YtcibihakjcenaaaRingFindsQ5
import Derived.Test.YtcibihakjcenaaaRingFindsQ6
import Derived.Test.YtcibihakjcenaaaRingFindsQ7
import Derived.Test.YtcibihakjcenaaaRingFindsQ8
import Derived.Test.YtcibihakjcenaaaRingFindsQ9
import Derived.Test.YtcibihakjcenaaaRingFindsQ10
import Derived.Test.YtcibihakjcenaaaChecked
import Derived.WalkKit
import Derived.WalkLawsBesides
import Derived.WalkSpells
import Derived.Lib.Hide
import Derived.Laws.Rows
import Derived.Laws.AppendOwnNone
import Derived.Maps.AppendAt
import Derived.RangeFuncNested
import Derived.RangeFuncBound
import Derived.RangeFuncCalls
import Derived.RangeFuncLeaves
import Derived.RangeFuncBox
import Derived.Shelf.Abstract
import Derived.Shelf.RegionOpen
import Derived.OwnWalkIn
import Derived.TacticsInMore
import Derived.LoopNIn
import Derived.LoopIn
import Derived.KernelRfl
import Derived.Lib.AppendZerosOnto
import Derived.Lib.SliceRun
import Derived.Lib.Walk
import Derived.Deep.LoopGhost
import Derived.Laws.CopyOwn
import Derived.ProofKit
import Derived.Deep.Slices
import Derived.WideShapes
import Derived.Laws.CopyRow
import Derived.OrdersHeld
import Derived.Deep.QuietTactic
import Derived.BigQuiet
import Derived.StillTailTactics
import Derived.OpenShut
import Derived.Deep.DeepCutAuto
import Derived.Deep.RegionHeld
import Derived.Laws.MakeOwn
import Derived.BigFrameIn
import Derived.ShutString
import Derived.ChangeOld
import Derived.Below
namespace Go.Proofs.Ytcibihakjcenaaa
open Go.RowKit

theorem half_odd (s : BitVec 32) (h : (s.toNat : Int) % 2 = 1) : bits BinOp.xor IntKind.u32 ((s.toNat : Int) / 2) 3988292384 = ((half s).toNat : Int) := by
  have := half_nat s
  have e : bits BinOp.and IntKind.u32 (s.toNat : Int) 1 = 1 := by
    rw [show (1 : Int) = ((1#32).toNat : Int) by decide, and_u32, BitVec.toNat_and, show (1#32).toNat = 1 from rfl, Nat.and_one_is_mod]
    omega
  rw [e] at this
  exact this
theorem half_evn (s : BitVec 32) (h : ¬ (s.toNat : Int) % 2 = 1) : (s.toNat : Int) / 2 = ((half s).toNat : Int) := by
  have hb : s.getLsbD 0 = false := by
    simp only [BitVec.getLsbD, Nat.testBit_zero]
    simp; omega
  unfold half
  rw [hb]
  simp only [Bool.false_eq_true, if_false, BitVec.xor_zero, shr_nat]
  omega

set_option maxHeartbeats 1000000 in
theorem halved_any (s : BitVec 32) (many : Nat) (w : World) (hm : many ≤ 1000) : Calls Try.prog 137 #[u32v s, .int .i64 many] w fun e w' => e = .returned (u32v (halves many s)) ∧ w = w' := by
  unfold u32v
  go_enter Try.func137, Try.ntmps137
  go_wp2
  go_loop [0, 5] (fun v k => ∃ j : Nat, j ≤ many ∧ k = .int .i64 j ∧ v = u32v (halves j s)) (fun _ k => many - (intOf k).toNat)
  case atStart => exact ⟨0, Nat.zero_le _, rfl, rfl⟩
  case round =>
    obtain ⟨j, hj, rfl, hs⟩ := hrel
    unfold u32v at hs
    subst hs
    by_cases hlt : j < many
    · have hb := (halves j s).isLt
      have hf : half (halves j s) = halves (j + 1) s := rfl
      have HF := Lib.hid hf
      clear hf
      generalize halves j s = q at *
      by_cases ho : (q.toNat : Int) % 2 = 1
      · go_wp2
        go_round
        case rel => exact ⟨j + 1, by omega, by go_num, by rw [← HF.out, u32v, ← half_odd q ho]⟩
        case measure => simp [intOf]; omega
      · go_wp2
        go_round
        case rel => exact ⟨j + 1, by omega, by go_num, by rw [← HF.out, u32v, ← half_evn q ho]⟩
        case measure => simp [intOf]; omega
    · obtain rfl : j = many := by omega
      go_wp2
      go_ret
      exact ⟨rfl, rfl⟩
theorem rem15 (s : BitVec 32) : ∃ i : Nat, i < 16 ∧ (s.toNat : Int) % 16 = (i : Int) ∧ halves 4 (BitVec.ofNat 32 i) = halves 4 (s &&& 15#32) := by
  obtain ⟨i, h1, h2, h3⟩ := and15 s
  refine ⟨i, h1, ?_, h3⟩
  rw [show (15 : Int) = ((15#32).toNat : Int) by decide, and_u32, BitVec.toNat_and, show (15#32).toNat = 2 ^ 4 - 1 from rfl, Nat.and_two_pow_sub_one_eq_mod] at h2
  omega

set_option maxHeartbeats 2000000 in
theorem rof_any (v : Value) (l : List UInt8) (w : World) (hI : Bytes w 0 w.heap.size v l) : Calls Try.prog 108 #[v] w fun e w' => e = .returned (u32v (crc l)) ∧ Below w.heap.size w w' := by
  obtain ⟨a, c, rfl, g1, g2, g3, _⟩ := id hI
  unfold maxLen at g2
  go_enter Try.func108, Try.ntmps108
  go_wp2
  go_loopw [4] (fun k wr => ∃ n : Nat, n ≤ 16 ∧ k = .int .i64 n ∧ wr = w.alloc (.cells (tabV n) 184)) (fun k _ => 16 - (intOf k).toNat)
  case atStart => exact ⟨0, by omega, rfl, by rw [tabV_zero]⟩
  case round =>
    obtain ⟨n, hn, rfl, rfl⟩ := hrel
    by_cases h : n < 16
    · have hcell : (tabV n)[n]? = some (.int .u32 0) := by simp [tabV, h]
      have htab := fun v hv => tabV_set n h v hv
      have hH := halved_any (BitVec.ofNat 32 n) 4 (w.alloc (.cells (tabV n) 184)) (by omega)
      rw [show u32v (BitVec.ofNat 32 n) = .int .u32 n by rw [u32v, BitVec.toNat_ofNat, Nat.mod_eq_of_lt (by omega)]] at hH
      unfold u32v at hH
      have HH := Lib.hid hH
      have HT := Lib.hid htab
      have hn' : (n : Int) < 16 := by omega
      clear htab hH
      go_wp2_with (go_at_call 137; refine HH.out.mono ?_; rintro e w' ⟨rfl, rfl⟩)
      go_roundw
      case rel => exact ⟨n + 1, by omega, by go_num, by rw [← HT.out _ rfl]; rfl⟩
      case measure => simp [intOf]; omega
    · obtain rfl : n = 16 := by omega
      rw [tabV_lit]
      go_wp2
      rw [← tabV_lit]
      have hI2 := hI.step ((Below.refl w.heap.size w).alloc (Nat.le_refl _) (.cells (tabV 16) 184))
      have hBW := (Below.refl w.heap.size w).alloc (Nat.le_refl _) (.cells (tabV 16) 184)
      have htab : ∀ i : Nat, i < 16 → (w.alloc (.cells (tabV 16) 184)).cell? ⟨w.heap.size, i, none⟩ = some (u32v (halves 4 (BitVec.ofNat 32 i))) := fun i hi => by rw [World.cell?_alloc_new]; exact tabV_at i hi
      generalize w.alloc (.cells (tabV 16) 184) = W at *
      have HB := Lib.hid hBW
      clear hI g3 hBW
      generalize w.heap.size = tb at htab ⊢
      have HT := Lib.hid htab
      have HI := Lib.hid hI2
      clear htab hI2
      go_loop [5, 6] (fun s i => ∃ k : Nat, k ≤ l.length ∧ i = .int .i64 k ∧ s = u32v (crcS (BitVec.allOnes 32) (l.take k))) (fun _ i => l.length - (intOf i).toNat)
      case atStart => exact ⟨0, Nat.zero_le _, rfl, rfl⟩
      case round =>
        obtain ⟨k, hk, rfl, hs⟩ := hrel
        unfold u32v at hs
        subst hs
        by_cases hlt : k < l.length
        · obtain ⟨b, off, c', he, _, hb, _, _, hc⟩ := HI.out.at_ (by omega)
          cases he
          have hx := hc k l[k] (by simp [hlt])
          have hsn : crcS (BitVec.allOnes 32) (l.take (k + 1)) = stepB (crcS (BitVec.allOnes 32) (l.take k)) l[k] := by rw [List.take_succ_eq_append_getElem hlt, crcS_append]; rfl
          have HS := Lib.hid hsn
          clear hsn hc
          generalize crcS (BitVec.allOnes 32) (l.take k) = s at *
          generalize l[k] = x at *
          unfold bV at hx
          have hxl : (x.toNat : Int) < 256 := by have := x.toNat_lt; omega
          have e1 : bits BinOp.xor IntKind.u32 (s.toNat : Int) (x.toNat : Int) = ((s ^^^ b32 x).toNat : Int) := by rw [← b32_nat, xor_u32]
          have hs1 : stepB s x = halves 4 (halves 4 (s ^^^ b32 x)) := stepB_four s x
          have HS1 := Lib.hid hs1
          clear hs1
          generalize s ^^^ b32 x = s1 at *
          obtain ⟨i1, hi1, e2, e3⟩ := rem15 s1
          have t1 := HT.out i1 hi1
          have e4 := four_nat s1
          rw [← e3] at e4
          generalize halves 4 (BitVec.ofNat 32 i1) = y1 at *
          generalize halves 4 s1 = s2 at *
          obtain ⟨i2, hi2, e5, e6⟩ := rem15 s2
          have t2 := HT.out i2 hi2
          have e7 := four_nat s2
          rw [← e6] at e7
          generalize halves 4 (BitVec.ofNat 32 i2) = y2 at *
          generalize halves 4 s2 = s3 at *
          unfold u32v at t1 t2
          have b1 := s1.isLt
          have b2 := s2.isLt
          clear e3 e6
          go_wp2
          go_round
          case rel => exact ⟨k + 1, by omega, by go_num, by rw [HS.out, HS1.out]; rfl⟩
          case measure => simp [intOf]; omega
        · obtain rfl : k = l.length := by omega
          rw [List.take_length]
          have hfin : u32v (crc l) = .int .u32 (bits BinOp.xor IntKind.u32 ((crcS (BitVec.allOnes 32) l).toNat : Int) 4294967295) := by
            rw [show (4294967295 : Int) = ((BitVec.allOnes 32).toNat : Int) by decide, xor_u32, BitVec.xor_allOnes]
            rfl
          have HFin := Lib.hid hfin
          have hbd := (crcS (BitVec.allOnes 32) l).isLt
          clear hfin
          generalize crcS (BitVec.allOnes 32) l = s at *
          go_wp2
          go_ret
          exact ⟨by rw [HFin.out]; rfl, HB.out⟩
end Go.Proofs.Ytcibihakjcenaaa

namespace Go.Proofs.Ytcibihakjcenaaa
open Go.RowKit

/-- May a block be taken? -/
def takB (x : Int) : Bool := decide (8 ≤ x) && decide (x < 256)
/-- A superblock that may be. -/
def mayU (s : SupL) : Bool := s.dead.all takB && (takB s.root && decide (s.dead.length ≤ 40))
def deadB (l : List Int) : List UInt8 := (l.map fun x => twoL x.toNat).flatten
def headU (s : SupL) : List UInt8 := fourL s.gen.toNat ++ twoL s.root.toNat ++ fourL s.next.toNat ++ fourL s.table.toNat ++ [UInt8.ofNat s.dead.length]
def bytesU (s : SupL) : List UInt8 := headU s ++ deadB s.dead
def blockU (s : SupL) : List UInt8 := if mayU s then sealL (bytesU s) else []
def errUw (s : SupL) : Int := if mayU s then 0 else 8
/-- The first k numbers of a list of what waits to be reaped; none: there is no room. -/
def deadR (b : List UInt8) : Nat → Option (List Int)
  | 0 => some []
  | k + 1 => match deadR b k with
    | none => none
    | some l => if getE b (15 + 2 * (k : Int)) 2 = 0 then some (l ++ [(getN b (15 + 2 * (k : Int)) 2 : Int)]) else none
def rawU (b : List UInt8) (l : List Int) : SupL := ⟨UInt32.ofNat (getN b 0 4), (getN b 4 2 : Int), UInt32.ofNat (getN b 6 4), UInt32.ofNat (getN b 10 4), l⟩
def deadAll (b : List UInt8) : Option (List Int) := deadR b (b.getD 14 0).toNat
def okU (l : List UInt8) : Bool := match deadAll (openL l) with
  | none => false
  | some d => mayU (rawU (openL l) d) && blockU (rawU (openL l) d) == l
def errUr (l : List UInt8) : Int := if openE l = 0 then (if okU l then 0 else 8) else openE l
def noU : SupL := ⟨0, 0, 0, 0, []⟩
def readU (l : List UInt8) : SupL := if errUr l = 0 then rawU (openL l) ((deadAll (openL l)).getD []) else noU
theorem mayU_iff {s : SupL} : mayU s = true ↔ (∀ x ∈ s.dead, 8 ≤ x ∧ x < 256) ∧ (8 ≤ s.root ∧ s.root < 256) ∧ s.dead.length ≤ 40 := by
  unfold mayU takB
  simp [List.all_eq_true]
theorem twoL_len (n : Nat) : (twoL n).length = 2 := rfl
theorem deadB_len (l : List Int) : (deadB l).length = 2 * l.length := by
  unfold deadB
  induction l with
  | nil => rfl
  | cons a l ih => simp only [List.map_cons, List.flatten_cons, List.length_append, ih, twoL_len, List.length_cons]; omega
theorem deadB_app (l m : List Int) : deadB (l ++ m) = deadB l ++ deadB m := by unfold deadB; rw [List.map_append, List.flatten_append]
theorem headU_len (s : SupL) : (headU s).length = 15 := by
  unfold headU
  simp only [List.length_append, fourL_length, twoL_len, List.length_cons, List.length_nil]
theorem bytesU_len {s : SupL} (h : mayU s = true) : (bytesU s).length ≤ 124 := by
  unfold bytesU
  have := (mayU_iff.1 h).2.2
  rw [List.length_append, headU_len, deadB_len]
  omega
end Go.Proofs.Ytcibihakjcenaaa

namespace Go.Proofs.Ytcibihakjcenaaa
open Go.ChangeShapes Go.WideShapes Go.ChangeAt Go.RowKit

theorem own_ : ownKnob Try.prog.godebug = none := by kernel_rfl
theorem laidOut_ : laidOutB Try.prog = true := by kernel_rfl

end Go.Proofs.Ytcibihakjcenaaa

namespace Go.Proofs.Ytcibihakjcenaaa
open Go.ChangeShapes Go.WideShapes Go.ChangeAt Go.RowKit

section
variable {H : Type} {enc : TypeId × Value → H} {W : World} {r : Reach} {base : Nat} {spare : Nat → Bool} {held : Bool} {v : Value} {d : DataW H} {p : List MemPlace}
/-- What a superblock's number and list are. -/
def SupV (W : World) (lo hi : Nat) (v : Value) (x : SupL) : Prop := (Lit.int .i64 x.root).wf = true ∧ Sl (rInt .i64) W lo hi v x.dead
set_option maxRecDepth 100000 in
theorem arg_super (hv : Value.okWide Try.prog W r base 25 v) (h : DataW.Trod enc Try.prog W 0 spare held 25 v d p) :
    ∃ (x : SupL) (u : Value), v = .agg #[wV x.gen, .int .i64 x.root, wV x.next, wV x.table, u] ∧ SupV W 0 W.heap.size u x := by
  have ht : fieldsOf Try.prog 25 = some [(0, 22), (1, 3), (2, 22), (3, 22), (4, 23)] := by kernel_rfl
  obtain ⟨cs, rfl, hsz⟩ := okW_struct ht hv
  obtain ⟨fuel, hf⟩ := h
  obtain ⟨g, nx, tb, n, u, l, hcs, hw, hS⟩ := open_super ht Try.underlying22 (by kernel_rfl) Try.underlying3 (by kernel_rfl) (by kernel_rfl) (by kernel_rfl) Try.underlying23 hf
  refine ⟨⟨g, n, nx, tb, l⟩, u, ?_, hw, hS⟩
  congr 1
  apply Array.toList_inj.1
  exact hcs
end
end Go.Proofs.Ytcibihakjcenaaa

namespace Go.Proofs.Ytcibihakjcenaaa
open Go.RowKit

theorem taken_any (x : Int) (w : World) : Calls Try.prog 69 #[.int .i64 x] w fun e w' => e = .returned (.bool (takB x)) ∧ w' = w := by
  by_cases h1 : 8 ≤ x
  · by_cases h2 : x < 256
    · have e : takB x = true := by unfold takB; simp [h1, h2]
      rw [e]
      go_enter Try.func69, Try.ntmps69
      go_wp2
      go_ret
      exact ⟨rfl, rfl⟩
    · have e : takB x = false := by unfold takB; simp [h2]
      rw [e]
      go_enter Try.func69, Try.ntmps69
      go_wp2
      go_ret
      exact ⟨rfl, rfl⟩
  · have e : takB x = false := by unfold takB; simp [h1]
    rw [e]
    go_enter Try.func69, Try.ntmps69
    go_wp2
    go_ret
    exact ⟨rfl, rfl⟩
theorem untaken_any (x : Int) (w : World) : Calls Try.prog 68 #[.int .i64 x] w fun e w' => e = .returned (.bool (!takB x)) ∧ w' = w := by
  have ht := fun W => taken_any x W
  generalize takB x = t at *
  go_enter Try.func68, Try.ntmps68
  go_wp2_with fail
  refine (ht _).mono ?_
  rintro e w1 ⟨rfl, rfl⟩
  go_wp2
  go_ret
  exact ⟨rfl, rfl⟩
theorem Sl.cellI {k : IntKind} {w : World} {lo hi n c b off : Nat} {l : List Int} (h : Sl (rInt k) w lo hi (.slice (some ⟨b, off, none⟩) n c) l) (i : Nat) (hx : i < l.length) : w.cell? ⟨b, off + i, none⟩ = some (.int k (l.getD i 0)) := by
  obtain ⟨a, c', e, h1, h2, h3, h4⟩ := h
  cases e
  obtain ⟨b', off', ea, _, _, hc⟩ := h3 (by omega)
  cases ea
  have := (hc i (l.getD i 0) (by simp [hx])).1
  simpa [rInt] using this
set_option maxRecDepth 100000 in
set_option maxHeartbeats 1000000 in
/-- slices.IndexFunc, asked with the closure of ring.Check. -/
theorem udead_any (v : Value) (l : List Int) (w : World) (hI : Sl (rInt .i64) w 0 w.heap.size v l) :
    Calls Try.prog 111 #[v, .func (.func 68) #[] #[]] w fun e w' => ∃ r : Int, e = .returned (.int .i64 r) ∧ decide (0 ≤ r) = !(l.all takB) ∧ Below w.heap.size w w' := by
  have hl := hI.len_le
  unfold maxLen at hl
  obtain ⟨a, c, rfl, g1, g2, g3, -⟩ := id hI
  unfold maxLen at g2
  have HI := Lib.hid hI
  clear hI g3
  go_enter Try.func111, Try.ntmps111
  go_wp2
  go_loopg [5, 8] l.length (fun g _ i wr => ∃ k : Nat, k ≤ l.length ∧ l.length - k ≤ g ∧ i = .int .i64 k ∧ (l.take k).all takB = true ∧ Below w.heap.size w wr)
  case atStart => exact ⟨0, Nat.zero_le _, by omega, rfl, rfl, Below.refl _ _⟩
  case round =>
    obtain ⟨k, hk, hg, rfl, hA, hB⟩ := hrel
    by_cases hlt : k < l.length
    · obtain ⟨b, off, ea⟩ : ∃ b off, a = some ⟨b, off, none⟩ := by
        obtain ⟨a', c', e, -, -, h3, -⟩ := HI.out
        cases e
        obtain ⟨b, off, ea, -⟩ := h3 (by omega)
        exact ⟨b, off, ea⟩
      subst ea
      have ck := (HI.out.below hB (Nat.le_refl _)).cellI k hlt
      have hS : (l.take (k + 1)).all takB = takB (l.getD k 0) := by
        rw [List.take_succ_eq_append_getElem hlt, List.all_append, hA]
        simp [hlt]
      have hAll : l.all takB = true → takB (l.getD k 0) = true := fun h => List.all_eq_true.1 h _ (by rw [List.getD_eq_getElem?_getD, List.getElem?_eq_getElem hlt]; exact List.getElem_mem hlt)
      have HS := Lib.hid (And.intro hS (And.intro hAll (And.intro hB hA)))
      clear hS hAll hB hA
      have ht := fun W => untaken_any (l.getD k 0) W
      generalize l.getD k 0 = x at *
      generalize takB x = t at *
      go_wp2_with fail
      refine (ht _).mono ?_
      rintro e w1 ⟨rfl, rfl⟩
      cases t
      case false =>
        go_wp2
        go_ret
        refine ⟨k, rfl, ?_, by simpa using HS.out.2.2.1⟩
        have : ¬ l.all takB = true := fun h => by have := HS.out.2.1 h; cases this
        simp [this]
      case true =>
        go_wp2
        go_roundg (l.length - (k + 1))
        case measure => omega
        case rel => exact ⟨k + 1, by omega, Nat.le_refl _, by go_num, HS.out.1, by simpa using HS.out.2.2.1⟩
    · have hkl : k = l.length := by omega
      subst hkl
      rw [List.take_length] at hA
      go_wp2
      go_ret
      exact ⟨-1, rfl, by rw [hA]; rfl, hB⟩
set_option maxRecDepth 100000 in
set_option maxHeartbeats 1000000 in
theorem cdead_any (v : Value) (l : List Int) (w : World) (hI : Sl (rInt .i64) w 0 w.heap.size v l) :
    Calls Try.prog 67 #[v, .func (.func 68) #[] #[]] w fun e w' => e = .returned (.bool (!(l.all takB))) ∧ Below w.heap.size w w' := by
  have hd := fun W hh => udead_any v l W hh
  generalize l.all takB = t at *
  obtain ⟨a, c, rfl, g1, g2, -, -⟩ := id hI
  unfold maxLen at g2
  go_enter Try.func67, Try.ntmps67
  go_wp2_with fail
  refine (hd _ ?_).mono ?_
  · exact hI
  rintro e w1 ⟨r, rfl, hr, hB⟩
  cases t
  · have h1 : 0 ≤ r := by simpa using hr
    go_wp2
    go_ret
    exact ⟨rfl, by simpa using hB⟩
  · have h1 : ¬ 0 ≤ r := by simpa using hr
    go_wp2
    go_ret
    exact ⟨rfl, by simpa using hB⟩
set_option maxRecDepth 100000 in
set_option maxHeartbeats 1000000 in
/-- ring.Check. -/
theorem ucheck_any (s : SupL) (u : Value) (w : World) (h_s : SupV w 0 w.heap.size u s) :
    Calls Try.prog 20 #[.agg #[wV s.gen, .int .i64 s.root, wV s.next, wV s.table, u]] w fun e w' => e = .returned (.int .i64 (errUw s)) ∧ Below w.heap.size w w' := by
  have hI := h_s.2
  have hl := hI.len_le
  unfold maxLen at hl
  obtain ⟨a, c, rfl, g1, g2, -, -⟩ := id hI
  unfold maxLen at g2
  have hE : errUw s = if s.dead.all takB && (takB s.root && decide (s.dead.length ≤ 40)) then 0 else 8 := by unfold errUw mayU; rfl
  generalize errUw s = z at *
  have hd := fun W v hh => cdead_any v s.dead W hh
  have ht := fun W => taken_any s.root W
  generalize wV s.gen = vg
  generalize wV s.next = vn
  generalize wV s.table = vt
  generalize s.root = ro at *
  generalize s.dead.all takB = da at *
  generalize takB ro = tr at *
  have HE := Lib.hid hE
  clear hE
  have hst := (Below.refl w.heap.size w).alloc (Nat.le_refl _) (.cells #[vg, .int .i64 ro, vn, vt, .slice a s.dead.length c] 25)
  have hq := LK.new w (.cells #[vg, .int .i64 ro, vn, vt, .slice a s.dead.length c] 25)
  replace hI := hI.step hst
  have HI := Lib.hid (And.intro hI hst)
  clear hI hst h_s
  go_enter Try.func20, Try.ntmps20
  go_upto_region 1 with (fail)
  obtain ⟨V, hV⟩ : ∃ V, (w.alloc (.cells #[vg, .int .i64 ro, vn, vt, .slice a s.dead.length c] 25)) = V := ⟨_, rfl⟩
  rw [hV] at hq HI ⊢
  clear hV
  have c1 := LK.cell hq 1
  have c4 := LK.cell hq 4
  simp at c1 c4
  go_wp2_with fail
  refine (hd _ _ HI.out.1).mono ?_
  rintro e w1 ⟨rfl, hst⟩
  have HB := Lib.hid (HI.out.2.trans (hst.mono HI.out.2.size))
  replace hq := hq.step hst
  clear c1 c4 HI hst
  have c1 := LK.cell hq 1
  have c4 := LK.cell hq 4
  simp at c1 c4
  cases da
  case false =>
    go_wp2
    go_ret
    exact ⟨by rw [HE.out]; simp, by simpa using HB.out⟩
  case true =>
    go_wp2_with fail
    refine (ht _).mono ?_
    rintro e w2 ⟨rfl, rfl⟩
    cases tr
    case false =>
      go_wp2
      go_ret
      exact ⟨by rw [HE.out]; simp, by simpa using HB.out⟩
    case true =>
      by_cases h40 : s.dead.length ≤ 40
      · have h41 : ¬ (40 : Int) < s.dead.length := by omega
        go_wp2
        go_ret
        exact ⟨by rw [HE.out]; simp [h40], by simpa using HB.out⟩
      · have h41 : (40 : Int) < s.dead.length := by omega
        go_wp2
        go_ret
        exact ⟨by rw [HE.out]; simp [h40], by simpa using HB.out⟩
end Go.Proofs.Ytcibihakjcenaaa

namespace Go.Proofs.Ytcibihakjcenaaa
open Go.RowKit

/-- Where a generation's superblock stands. -/
def slotU (g : UInt32) : Nat := g.toNat % 4
theorem uslot_any (g : UInt32) (w : World) : Calls Try.prog 23 #[wV g] w fun e w' => e = .returned (.int .i64 (slotU g : Nat)) ∧ w' = w := by
  have hg := g.toNat_lt
  obtain ⟨n, hn⟩ : ∃ n, g.toNat = n := ⟨_, rfl⟩
  unfold slotU
  simp only [wV]
  rw [hn] at hg ⊢
  clear hn
  have h1 : (n : Int) < 9223372036854775808 := by omega
  go_enter Try.func23, Try.ntmps23
  go_wp2
  go_ret
  exact ⟨by simp, rfl⟩
theorem sup_eq (s t : SupL) : decide (s = t) = (((s.gen.toNat : Int) == t.gen.toNat) && ((s.root == t.root) && (((s.next.toNat : Int) == t.next.toNat) && (((s.table.toNat : Int) == t.table.toNat) && decide (s.dead = t.dead))))) := by
  have n1 : ∀ a b : UInt32, ((a.toNat : Int) == b.toNat) = decide (a = b) := fun a b => by
    rw [Bool.eq_iff_iff]
    simp only [beq_iff_eq, decide_eq_true_eq]
    constructor
    · intro h; exact UInt32.toNat_inj.1 (by omega)
    · intro h; rw [h]
  obtain ⟨a, b, c, d, e⟩ := s
  obtain ⟨a', b', c', d', e'⟩ := t
  simp only [n1, SupL.mk.injEq]
  rw [Bool.eq_iff_iff]
  simp
end Go.Proofs.Ytcibihakjcenaaa

namespace Go.Proofs.Ytcibihakjcenaaa
open Go.RowKit

theorem rutaken_any (x : Int) (w : World) : Calls Try.prog 102 #[.int .i64 x] w fun e w' => e = .returned (.bool (takB x)) ∧ w' = w := by
  by_cases h1 : 8 ≤ x
  · by_cases h2 : x < 256
    · have e : takB x = true := by unfold takB; simp [h1, h2]
      rw [e]
      go_enter Try.func102, Try.ntmps102
      go_wp2
      go_ret
      exact ⟨rfl, rfl⟩
    · have e : takB x = false := by unfold takB; simp [h2]
      rw [e]
      go_enter Try.func102, Try.ntmps102
      go_wp2
      go_ret
      exact ⟨rfl, rfl⟩
  · have e : takB x = false := by unfold takB; simp [h1]
    rw [e]
    go_enter Try.func102, Try.ntmps102
    go_wp2
    go_ret
    exact ⟨rfl, rfl⟩

set_option maxRecDepth 100000 in
set_option maxHeartbeats 1000000 in
/-- The reference's May. -/
theorem rumay_any (s : SupL) (u : Value) (w : World) (h_s : SupV w 0 w.heap.size u s) :
    Calls Try.prog 57 #[.agg #[wV s.gen, .int .i64 s.root, wV s.next, wV s.table, u]] w fun e w' => e = .returned (.bool (mayU s)) ∧ Below w.heap.size w w' := by
  have hI := h_s.2
  obtain ⟨a, c, rfl, g1, g2, -, -⟩ := id hI
  unfold maxLen at g2
  have hE : mayU s = (s.dead.all takB && (takB s.root && decide (s.dead.length ≤ 40))) := rfl
  have ht := fun W => rutaken_any s.root W
  have hd := fun k W => rutaken_any (s.dead.getD k 0) W
  have hfail : ∀ k, k < s.dead.length → takB (s.dead.getD k 0) = false → s.dead.all takB = false := fun k hk h => by
    rw [Bool.eq_false_iff]
    intro e
    rw [List.all_eq_true] at e
    have := e (s.dead.getD k 0) (by rw [List.getD_eq_getElem?_getD, List.getElem?_eq_getElem hk]; exact List.getElem_mem hk)
    rw [h] at this
    cases this
  have hall : (∀ k, k < s.dead.length → takB (s.dead.getD k 0) = true) → s.dead.all takB = true := fun h => by
    rw [List.all_eq_true]
    intro x hx
    obtain ⟨k, hk, rfl⟩ := List.getElem_of_mem hx
    have := h k hk
    rwa [List.getD_eq_getElem?_getD, List.getElem?_eq_getElem hk] at this
  generalize mayU s = z at *
  generalize wV s.gen = vg
  generalize wV s.next = vn
  generalize wV s.table = vt
  generalize s.root = ro at *
  generalize s.dead.all takB = da at *
  generalize takB ro = tr at *
  have HE := Lib.hid (And.intro hE (And.intro hfail hall))
  clear hE hfail hall
  have hst := (Below.refl w.heap.size w).alloc (Nat.le_refl _) (.cells #[vg, .int .i64 ro, vn, vt, .slice a s.dead.length c] 25)
  have hq := LK.new w (.cells #[vg, .int .i64 ro, vn, vt, .slice a s.dead.length c] 25)
  replace hI := hI.step hst
  have HI := Lib.hid (And.intro hI hst)
  clear hI hst h_s
  go_enter Try.func57, Try.ntmps57
  go_upto_region 1 with (fail)
  obtain ⟨V, hV⟩ : ∃ V, (w.alloc (.cells #[vg, .int .i64 ro, vn, vt, .slice a s.dead.length c] 25)) = V := ⟨_, rfl⟩
  rw [hV] at hq HI ⊢
  clear hV
  have c1 := LK.cell hq 1
  have c4 := LK.cell hq 4
  simp at c1 c4
  have HD := Lib.hid hd
  have HT := Lib.hid ht
  clear hd ht
  go_wp2
  go_loop [3] (fun i => ∃ k : Nat, k ≤ s.dead.length ∧ i = .int .i64 k ∧ ∀ j, j < k → takB (s.dead.getD j 0) = true) (fun i => s.dead.length - (intOf i).toNat)
  case atStart => exact ⟨0, Nat.zero_le _, rfl, fun j hj => absurd hj (Nat.not_lt_zero _)⟩
  case round =>
  obtain ⟨k, hk, rfl, hall⟩ := hrel
  by_cases hlt : k < s.dead.length
  · obtain ⟨b1, o1, c2, e1, -, hz1, -, z3, -⟩ := HI.out.1.at_ (by omega)
    injection e1 with ea _ ec
    subst ea ec
    have ck := HI.out.1.cellI k hlt
    have kd := HD.out k V
    obtain ⟨X, hX⟩ : ∃ X, s.dead.getD k 0 = X := ⟨_, rfl⟩
    rw [hX] at ck kd
    obtain ⟨tx, htx⟩ : ∃ t, takB X = t := ⟨_, rfl⟩
    rw [htx] at kd
    have HP := Lib.hid (And.intro hall (And.intro hX htx))
    have KD := Lib.hid kd
    clear hall hX htx kd
    unfold maxLen at z3
    go_wp2_with fail
    refine KD.out.mono ?_
    rintro e w1 ⟨rfl, rfl⟩
    cases tx
    case false =>
      obtain rfl : da = false := HE.out.2.1 k hlt (by rw [HP.out.2.1]; exact HP.out.2.2)
      obtain rfl : z = false := by rw [HE.out.1]; rfl
      go_wp2
      go_ret
      exact ⟨rfl, HI.out.2⟩
    go_wp2
    go_round
    case rel => exact ⟨k + 1, by omega, by go_num, fun j hj => by
      rcases Nat.lt_succ_iff_lt_or_eq.1 hj with h | rfl
      · exact HP.out.1 j h
      · rw [HP.out.2.1]; exact HP.out.2.2⟩
    case measure => simp [intOf]; omega
  obtain rfl : k = s.dead.length := by omega
  obtain rfl : da = true := HE.out.2.2 hall
  clear hall
  go_wp2_with fail
  refine (HT.out _).mono ?_
  rintro e w2 ⟨rfl, rfl⟩
  cases tr
  case false =>
    go_wp2
    go_ret
    exact ⟨by rw [HE.out.1]; simp, HI.out.2⟩
  by_cases h40 : s.dead.length ≤ 40
  · have h41 : (s.dead.length : Int) ≤ 40 := by omega
    go_wp2
    go_ret
    exact ⟨by rw [HE.out.1]; simp [h40], HI.out.2⟩
  · have h41 : (40 : Int) < s.dead.length := by omega
    go_wp2
    go_ret
    exact ⟨by rw [HE.out.1]; simp [h40]; exact h41, HI.out.2⟩

/-- The reference's Slot. -/
theorem ruslot_any (g : UInt32) (w : World) : Calls Try.prog 24 #[wV g] w fun e w' => e = .returned (.int .i64 (slotU g : Nat)) ∧ w' = w := by
  have hg := g.toNat_lt
  obtain ⟨n, hn⟩ : ∃ n, g.toNat = n := ⟨_, rfl⟩
  unfold slotU
  simp only [wV]
  rw [hn] at hg ⊢
  clear hn
  have h1 : (n : Int) < 4294967296 := by omega
  go_enter Try.func24, Try.ntmps24
  go_wp2
  go_ret
  exact ⟨by simp, rfl⟩
set_option maxRecDepth 100000 in
set_option maxHeartbeats 1000000 in
/-- SameNumbers. -/
theorem rnums_any (v u : Value) (l m : List Int) (w : World) (hv : Sl (rInt .i64) w 0 w.heap.size v l) (hu : Sl (rInt .i64) w 0 w.heap.size u m) :
    Calls Try.prog 66 #[v, u] w fun e w' => e = .returned (.bool (decide (l = m))) ∧ Below w.heap.size w w' := by
  have HV := Lib.hid hv
  have HU := Lib.hid hu
  obtain ⟨av, cv, rfl, g1, g2, -, -⟩ := hv
  obtain ⟨au, cu, rfl, g1', g2', -, -⟩ := hu
  unfold maxLen at g2 g2'
  obtain ⟨r, hr⟩ : ∃ r, decide (l = m) = r := ⟨_, rfl⟩
  rw [hr]
  have HR := Lib.hid hr
  clear hr
  go_enter Try.func66, Try.ntmps66
  by_cases hl : l.length = m.length
  case neg =>
    obtain rfl : r = false := by
      rw [← HR.out]
      exact decide_eq_false (fun e => hl (by rw [e]))
    have i1 : ¬ (l.length : Int) = m.length := by omega
    go_wp2
    go_ret
    exact ⟨rfl, Below.refl _ _⟩
  have i1 : ((l.length : Int) != m.length) = false := by simp; omega
  have HL := Lib.hid hl
  have hlm : l.length ≤ m.length := by omega
  clear hl
  go_wp2
  go_loopw [5] (fun i wr => ∃ k : Nat, k ≤ l.length ∧ i = .int .i64 k ∧ Below w.heap.size w wr ∧ ∀ j, j < k → l.getD j 0 = m.getD j 0) (fun i _ => l.length - (intOf i).toNat)
  case atStart => exact ⟨0, Nat.zero_le _, rfl, Below.refl _ _, fun j hj => absurd hj (Nat.not_lt_zero _)⟩
  case round =>
  obtain ⟨k, hk, rfl, hB, hall⟩ := hrel
  by_cases hlt : k < l.length
  · obtain ⟨b1, o1, c1, e1, -, hz1, -, z3, -⟩ := HV.out.at_ (by omega)
    injection e1 with ea _ ec
    subst ea ec
    obtain ⟨b2, o2, c2, e2, -, hz2, -, z3', -⟩ := HU.out.at_ (by omega)
    injection e2 with ea _ ec
    subst ea ec
    have ck1 := (HV.out.below hB (Nat.le_refl _)).cellI k hlt
    have ck2 := (HU.out.below hB (Nat.le_refl _)).cellI k (by omega)
    obtain ⟨X, hX⟩ : ∃ X, l.getD k 0 = X := ⟨_, rfl⟩
    obtain ⟨Y, hY⟩ : ∃ Y, m.getD k 0 = Y := ⟨_, rfl⟩
    rw [hX] at ck1
    rw [hY] at ck2
    have hkm : k < m.length := by omega
    unfold maxLen at z3 z3'
    have HP := Lib.hid (And.intro hall (And.intro hB (And.intro hX hY)))
    clear hall hB hX hY
    by_cases he : X = Y
    · subst he
      have HE := Lib.hid (show l.getD k 0 = m.getD k 0 by rw [HP.out.2.2.1, HP.out.2.2.2])
      have n1 : (X != X) = false := by simp
      go_upto_region 6 with (fail)
      go_quiet (fail)
      go_wp2
      go_roundw
      case measure => simp only [intOf]; omega
      case rel =>
        refine ⟨k + 1, by omega, by go_num, below_step HP.out.2.1 HP.out.2.1.size (below_dr _ _), fun j hj => ?_⟩
        rcases Nat.lt_succ_iff_lt_or_eq.1 hj with h | rfl
        · exact HP.out.1 j h
        · exact HE.out
    · obtain rfl : r = false := by
        rw [← HR.out]
        refine decide_eq_false fun e => he ?_
        rw [← HP.out.2.2.1, ← HP.out.2.2.2, e]
      have n1 : (X != Y) = true := by simpa using he
      have n2 : (X == Y) = false := by simpa using he
      go_upto_region 6 with (fail)
      go_quiet (fail)
      go_wp2
      go_ret
      exact ⟨rfl, below_step HP.out.2.1 HP.out.2.1.size (below_dr _ _)⟩
  · have hkl : k = l.length := by omega
    subst hkl
    obtain rfl : r = true := by
      rw [← HR.out]
      exact decide_eq_true (ext_getD l m 0 HL.out hall)
    go_wp2
    go_ret
    exact ⟨rfl, hB⟩
set_option maxRecDepth 100000 in
set_option maxHeartbeats 1000000 in
/-- The reference's Same. -/
theorem rusame_any (s t : SupL) (u v : Value) (w : World) (h_s : SupV w 0 w.heap.size u s) (h_t : SupV w 0 w.heap.size v t) :
    Calls Try.prog 19 #[.agg #[wV s.gen, .int .i64 s.root, wV s.next, wV s.table, u], .agg #[wV t.gen, .int .i64 t.root, wV t.next, wV t.table, v]] w fun e w' => e = .returned (.bool (decide (s = t))) ∧ Below w.heap.size w w' := by
  rw [sup_eq]
  have hI := h_s.2
  have hJ := h_t.2
  have hq := fun W hh1 hh2 => rnums_any u v s.dead t.dead W hh1 hh2
  clear h_s h_t
  simp only [wV]
  generalize (s.gen.toNat : Int) = a1 at *
  generalize (t.gen.toNat : Int) = b1 at *
  generalize s.root = a2 at *
  generalize t.root = b2 at *
  generalize (s.next.toNat : Int) = a3 at *
  generalize (t.next.toNat : Int) = b3 at *
  generalize (s.table.toNat : Int) = a4 at *
  generalize (t.table.toNat : Int) = b4 at *
  generalize decide (s.dead = t.dead) = z at *
  have hB := ((Below.refl w.heap.size w).alloc (Nat.le_refl _) (.cells #[.int .u32 a1, .int .i64 a2, .int .u32 a3, .int .u32 a4, u] 25)).alloc (by simp) (.cells #[.int .u32 b1, .int .i64 b2, .int .u32 b3, .int .u32 b4, v] 25)
  have hn := two_new w (.cells #[.int .u32 a1, .int .i64 a2, .int .u32 a3, .int .u32 a4, u] 25) (.cells #[.int .u32 b1, .int .i64 b2, .int .u32 b3, .int .u32 b4, v] 25)
  replace hI := hI.step hB
  replace hJ := hJ.step hB
  have HB := Lib.hid (And.intro hB (And.intro hI hJ))
  clear hB hI hJ
  go_enter Try.func19, Try.ntmps19
  go_upto_region 1 with (fail)
  obtain ⟨V, hV⟩ : ∃ V, (w.alloc (.cells #[.int .u32 a1, .int .i64 a2, .int .u32 a3, .int .u32 a4, u] 25)).alloc (.cells #[.int .u32 b1, .int .i64 b2, .int .u32 b3, .int .u32 b4, v] 25) = V := ⟨_, rfl⟩
  rw [hV] at hn HB ⊢
  clear hV
  have x0 := blk_cell hn.1 0
  have x1 := blk_cell hn.1 1
  have x2 := blk_cell hn.1 2
  have x3 := blk_cell hn.1 3
  have x4 := blk_cell hn.1 4
  have y0 := blk_cell hn.2 0
  have y1 := blk_cell hn.2 1
  have y2 := blk_cell hn.2 2
  have y3 := blk_cell hn.2 3
  have y4 := blk_cell hn.2 4
  simp at x0 x1 x2 x3 x4 y0 y1 y2 y3 y4
  clear hn
  cases e1 : a1 == b1
  case false =>
    go_wp2
    go_ret
    exact ⟨by rw [e1]; rfl, HB.out.1⟩
  cases e2 : a2 == b2
  case false =>
    go_wp2
    go_ret
    exact ⟨by rw [e1, e2]; rfl, HB.out.1⟩
  cases e3 : a3 == b3
  case false =>
    go_wp2
    go_ret
    exact ⟨by rw [e1, e2, e3]; rfl, HB.out.1⟩
  cases e4 : a4 == b4
  case false =>
    go_wp2
    go_ret
    exact ⟨by rw [e1, e2, e3, e4]; rfl, HB.out.1⟩
  go_wp2_with fail
  refine (hq _ HB.out.2.1 HB.out.2.2).mono ?_
  rintro e w1 ⟨rfl, hst⟩
  go_wp2
  go_ret
  exact ⟨by rw [e1, e2, e3, e4]; rfl, below_step HB.out.1 HB.out.1.size hst⟩
end Go.Proofs.Ytcibihakjcenaaa

namespace Go.Proofs.Ytcibihakjcenaaa
open Go.RowKit

set_option maxRecDepth 100000 in
set_option maxHeartbeats 2000000 in
/-- slices.Concat: what it hands back can be appended to. -/
theorem concat_own (ps : List (Value × List UInt8)) (b off c : Nat) (w : World) (hb : b < w.heap.size) (hcell : ∀ i p, ps[i]? = some p → w.cell? ⟨b, off + i, none⟩ = some p.1)
    (hB : ∀ p ∈ ps, Bytes w 0 w.heap.size p.1 p.2) (hc : ps.length ≤ c) (hcm : c ≤ 1000000) (ht : (catL ps).length ≤ 1000000) :
    Calls Try.prog 54 #[.slice (some ⟨b, off, none⟩) ps.length c] w fun e w' => ∃ u, e = .returned u ∧ OwnB w.heap.size 5 w' u (catL ps) ∧ Below w.heap.size w w' := by
  have HC := Lib.hid hcell
  have HB := Lib.hid hB
  clear hcell hB
  go_enter Try.func54, Try.ntmps54
  go_wp2
  go_loop [3, 11] (fun n i => ∃ k : Nat, k ≤ ps.length ∧ i = .int .i64 k ∧ n = .int .i64 (catL (ps.take k)).length) (fun _ i => ps.length - (intOf i).toNat)
  case atStart => exact ⟨0, Nat.zero_le _, rfl, rfl⟩
  case round =>
    obtain ⟨k, hk, rfl, rfl⟩ := hrel
    by_cases hlt : k < ps.length
    · obtain ⟨p, hp⟩ : ∃ p, ps[k]? = some p := ⟨ps[k], by simp [hlt]⟩
      have hx := HC.out k p hp
      have hy := HB.out p (List.mem_of_getElem? hp)
      have hs := congrArg List.length (catL_snoc ps k p hp)
      rw [List.length_append] at hs
      have hle := catL_le ps (k + 1)
      have HS := Lib.hid hs
      rw [hs] at hle
      clear hs
      generalize (catL (ps.take k)).length = q at *
      obtain ⟨pv, pl⟩ := p
      dsimp only at hx hle hy
      obtain ⟨pa, pc, rfl, _, _, _, _⟩ := hy
      clear hp
      go_wp2
      go_round
      case rel => exact ⟨k + 1, by omega, by go_num, by rw [HS.out]; go_num⟩
      case measure => simp [intOf]; omega
    · obtain rfl : k = ps.length := by omega
      rw [List.take_length]
      have HT := Lib.hid ht
      go_wp2_with fail
      refine (grow_nil _ _ (by omega)).mono ?_
      rintro e w1 ⟨gv, rfl, hown, hb1⟩
      have hown' : OwnB w.heap.size 5 w1 gv (catL (ps.take 0)) := hown
      clear hown
      go_wp2
      go_loopw [6, 27] (fun v i wr => ∃ k : Nat, k ≤ ps.length ∧ i = .int .i64 k ∧ OwnB w.heap.size 5 wr v (catL (ps.take k)) ∧ Below w.heap.size w wr) (fun _ i _ => ps.length - (intOf i).toNat)
      case atStart => exact ⟨0, Nat.zero_le _, rfl, hown', hb1⟩
      case round =>
        obtain ⟨k, hk, rfl, hown, hbr⟩ := hrel
        by_cases hlt : k < ps.length
        · obtain ⟨p, hp⟩ : ∃ p, ps[k]? = some p := ⟨ps[k], by simp [hlt]⟩
          have hx := (hbr.cell (p := ⟨b, off + k, none⟩) hb).trans (HC.out k p hp)
          have hy := HB.out p (List.mem_of_getElem? hp)
          have hs := catL_snoc ps k p hp
          have hle := catL_le ps (k + 1)
          rw [hs, List.length_append] at hle
          have HS := Lib.hid hs
          clear hs hp hown'
          generalize catL (ps.take k) = q at *
          obtain ⟨pv, pl⟩ := p
          dsimp only at hx hle hy
          have hy2 := hy.below hbr (Nat.le_refl _)
          obtain ⟨pa, pc, rfl, _, _, _, _⟩ := id hy
          clear hy
          go_wp2_with (at_builtin; refine wpList_appB rfl _ _ 26 rfl w.heap.size 5 Try.underlying26 info_u8 _ q rfl hown _ _ _ pl rfl hy2 (by have := HT.out; omega) hbr.size ?_; intro u w2 hown2 hB2)
          go_roundw
          case rel => exact ⟨k + 1, by omega, by go_num, by rw [HS.out]; exact hown2, hbr.trans hB2⟩
          case measure => simp [intOf]; omega
        · obtain rfl : k = ps.length := by omega
          rw [List.take_length] at hown
          go_wp2
          go_ret
          exact ⟨_, rfl, hown, hbr⟩

end Go.Proofs.Ytcibihakjcenaaa

