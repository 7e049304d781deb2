/- CountTables: the words and contracts, part 10. -/
import Derived.Test.YthealkfpflkipaaCountTablesQ1
import Derived.Test.YthealkfpflkipaaCountTablesQ2
import Derived.Test.YthealkfpflkipaaCountTablesQ3
import Derived.Test.YthealkfpflkipaaCountTablesQ4
import Derived.Test.YthealkfpflkipaaCountTablesQ5
import Derived.Test.YthealkfpflkipaaCountTablesQ6
import Derived.Test.YthealkfpflkipaaCountTablesQ7
import Derived.Test.YthealkfpflkipaaCountTablesQ8
import Derived.Test.YthealkfpflkipaaCountTablesQ9
import Derived.WalkKit
import Derived.WalkLawsBesides
import Derived.WalkSpells
import Derived.Lib.Hide
import Derived.Laws.Rows
import Derived.Laws.AppendOwnNone
import Derived.Maps.AppendAt
import Derived.RangeFuncNested
import Derived.RangeFuncBound
import Derived.RangeFuncCalls
import Derived.RangeFuncLeaves
import Derived.RangeFuncBox
import Derived.Shelf.Abstract
import Derived.Shelf.RegionOpen
import Derived.OwnWalkIn
import Derived.TacticsInMore
import Derived.LoopNIn
import Derived.LoopIn
import Derived.KernelRfl
import Derived.ProofKit
import Derived.Deep.Slices
import Derived.WideShapes
import Derived.Lib.AppendZerosOnto
import Derived.Lib.SliceRun
import Derived.Lib.Walk
import Derived.Deep.LoopGhost
import Derived.Laws.CopyOwn
import Derived.OrdersHeld
import Derived.Deep.QuietTactic
import Derived.BigQuiet
import Derived.StillTailTactics
import Derived.OpenShut
import Derived.Deep.DeepCutAuto
import Derived.Laws.CopyRow
import Derived.Laws.MakeOwn
import Derived.Deep.RegionHeld
namespace Go.Proofs.Ythealkfpflkipaa
open Go.RowKit

def u32v (s : BitVec 32) : Value := .int .u32 (s.toNat : Int)
def tabV (k : Nat) : Array Value := ((List.range 16).map fun i => if i < k then u32v (halves 4 (BitVec.ofNat 32 i)) else .int .u32 0).toArray
theorem tabV_set (n : Nat) (h : n < 16) (v : Value) (hv : v = u32v (halves 4 (BitVec.ofNat 32 n))) : (tabV n).setIfInBounds n v = tabV (n + 1) := by
  subst hv
  apply Array.ext_getElem?
  intro i
  rw [Array.getElem?_setIfInBounds]
  by_cases hi : n = i
  · subst hi
    simp [tabV, h]
  · rw [if_neg hi]
    have : (i < n + 1) = (i < n) := by apply propext; omega
    by_cases h16 : i < 16
    · simp [tabV, h16, this]
    · simp [tabV, h16]
theorem tabV_at (i : Nat) (h : i < 16) : (tabV 16)[i]? = some (u32v (halves 4 (BitVec.ofNat 32 i))) := by simp [tabV, h]
theorem tabV_zero : tabV 0 = #[.int .u32 0, .int .u32 0, .int .u32 0, .int .u32 0, .int .u32 0, .int .u32 0, .int .u32 0, .int .u32 0, .int .u32 0, .int .u32 0, .int .u32 0, .int .u32 0, .int .u32 0, .int .u32 0, .int .u32 0, .int .u32 0] := rfl
theorem tabV_lit : tabV 16 = #[.int .u32 0, .int .u32 498536548, .int .u32 997073096, .int .u32 651767980, .int .u32 1994146192, .int .u32 1802195444, .int .u32 1303535960, .int .u32 1342533948, .int .u32 3988292384, .int .u32 4027552580, .int .u32 3604390888, .int .u32 3412177804, .int .u32 2607071920, .int .u32 2262029012, .int .u32 2685067896, .int .u32 3183342108] := by kernel_rfl
theorem half_nat (s : BitVec 32) : bits BinOp.xor IntKind.u32 ((s.toNat : Int) / 2) (3988292384 * bits BinOp.and IntKind.u32 (s.toNat : Int) 1 % 4294967296) = ((half s).toNat : Int) := by
  have h1 : ((s.toNat : Int) / (2 : Int)) = ((s >>> 1).toNat : Int) := by rw [shr_nat]; omega
  have h2 := and_u32 s 1#32
  have h3 : (s &&& 1#32) = if s.getLsbD 0 then 1#32 else 0#32 := by
    apply BitVec.eq_of_getLsbD_eq
    intro i hi
    cases i with
    | zero => cases h : s.getLsbD 0 <;> simp [h, -BitVec.getLsbD_eq_getElem]
    | succ i => cases h : s.getLsbD 0 <;> simp [BitVec.getLsbD_one]
  have h4 : (3988292384 * bits BinOp.and IntKind.u32 (s.toNat : Int) 1 % 4294967296) = ((if s.getLsbD 0 then 0xedb88320#32 else 0#32 : BitVec 32).toNat : Int) := by
    rw [show (1 : Int) = ((1#32).toNat : Int) by decide, h2, h3]
    cases s.getLsbD 0 <;> decide
  rw [h1, h4, xor_u32]
  rfl

set_option maxHeartbeats 1000000 in
theorem fold_any (w : World) : Calls Try.prog 69 #[] w fun e w' => e = .returned (.agg (tabV 16)) ∧ Below w.heap.size w w' := by
  go_enter Try.func69, Try.ntmps69
  go_wp2
  go_loopw [3] (fun k wr => ∃ n : Nat, n ≤ 16 ∧ k = .int .i64 n ∧ wr = w.alloc (.cells (tabV n) 103)) (fun k _ => 16 - (intOf k).toNat)
  case atStart => exact ⟨0, by omega, rfl, by rw [tabV_zero]⟩
  case round =>
    obtain ⟨n, hn, rfl, rfl⟩ := hrel
    by_cases h : n < 16
    · have hcell : (tabV n)[n]? = some (.int .u32 0) := by simp [tabV, h]
      have htab := fun v hv => tabV_set n h v hv
      have HT := Lib.hid htab
      clear htab
      go_wp2
      go_loop [2, 8] (fun s k => ∃ j : Nat, j ≤ 4 ∧ k = .int .i64 j ∧ s = u32v (halves j (BitVec.ofNat 32 n))) (fun _ k => 4 - (intOf k).toNat)
      case atStart => exact ⟨0, by omega, rfl, by rw [halves, u32v, BitVec.toNat_ofNat, Nat.mod_eq_of_lt (by omega)]⟩
      case round =>
        obtain ⟨j, hj, rfl, hs⟩ := hrel
        unfold u32v at hs
        subst hs
        have hb := (halves j (BitVec.ofNat 32 n)).isLt
        have hf : j < 4 → half (halves j (BitVec.ofNat 32 n)) = halves (j + 1) (BitVec.ofNat 32 n) := fun _ => rfl
        have HF := Lib.hid hf
        have he : j = 4 → halves j (BitVec.ofNat 32 n) = halves 4 (BitVec.ofNat 32 n) := fun h => by rw [h]
        have HE := Lib.hid he
        clear hf he
        generalize halves j (BitVec.ofNat 32 n) = s at *
        by_cases h4 : j < 4
        · go_wp2
          go_round
          case rel => exact ⟨j + 1, by omega, by go_num, by rw [half_nat, HF.out h4]; rfl⟩
          case measure => simp [intOf]; omega
        · go_wp2
          go_roundw
          case rel => exact ⟨n + 1, by omega, by go_num, by rw [HT.out _ (by rw [HE.out (by omega)]; rfl)]⟩
          case measure => simp [intOf]; omega
    · obtain rfl : n = 16 := by omega
      rw [tabV_lit]
      go_wp2
      exact bodyPost_ret (v := .agg #[.int .u32 0, .int .u32 498536548, .int .u32 997073096, .int .u32 651767980, .int .u32 1994146192, .int .u32 1802195444, .int .u32 1303535960, .int .u32 1342533948, .int .u32 3988292384, .int .u32 4027552580, .int .u32 3604390888, .int .u32 3412177804, .int .u32 2607071920, .int .u32 2262029012, .int .u32 2685067896, .int .u32 3183342108]) (by simp [results, Try.results69, go_sem]) rfl ⟨by rw [tabV_lit], (Below.refl _ _).alloc (Nat.le_refl _) _⟩

theorem four_nat (s : BitVec 32) : bits BinOp.xor IntKind.u32 ((s.toNat : Int) / (16 : Int)) ((halves 4 (s &&& 15#32)).toNat : Int) = ((halves 4 s).toNat : Int) := by
  have h1 : ((s.toNat : Int) / (16 : Int)) = ((s >>> 4).toNat : Int) := by rw [shr_nat]; omega
  rw [h1, xor_u32, ← halves_four]
theorem and15 (s : BitVec 32) : ∃ i : Nat, i < 16 ∧ bits BinOp.and IntKind.u32 (s.toNat : Int) 15 = (i : Int) ∧ halves 4 (BitVec.ofNat 32 i) = halves 4 (s &&& 15#32) := by
  have h := and_u32 s 15#32
  refine ⟨(s &&& 15#32).toNat, ?_, h, by rw [BitVec.ofNat_toNat]; simp⟩
  rw [BitVec.toNat_and]
  exact Nat.lt_of_le_of_lt Nat.and_le_right (by decide)

set_option maxHeartbeats 1000000 in
theorem of_any (v : Value) (l : List UInt8) (w : World) (hI : Bytes w 0 w.heap.size v l) : Calls Try.prog 39 #[v] w fun e w' => e = .returned (u32v (crc l)) ∧ Below w.heap.size w w' := by
  obtain ⟨a, c, rfl, g1, g2, g3, _⟩ := id hI
  unfold maxLen at g2
  have hfold := fold_any
  have HF := Lib.hid hfold
  clear hfold
  go_enter Try.func39, Try.ntmps39
  go_wp2_with fail
  refine (HF.out _).mono ?_
  rw [tabV_lit]
  rintro e w1 ⟨rfl, hB⟩
  have hI1 := hI.step hB
  clear g3 hI HF
  go_wp2
  rw [← tabV_lit]
  have hI2 := hI1.step ((Below.refl w1.heap.size w1).alloc (Nat.le_refl _) (.cells (tabV 16) 103))
  obtain ⟨W, hW⟩ : ∃ W, w1.alloc (.cells (tabV 16) 103) = W := ⟨_, rfl⟩
  have htab : ∀ i : Nat, i < 16 → W.cell? ⟨w1.heap.size, i, none⟩ = some (u32v (halves 4 (BitVec.ofNat 32 i))) := fun i hi => by rw [← hW, World.cell?_alloc_new]; exact tabV_at i hi
  have hBW : Below w.heap.size w W := by rw [← hW]; exact hB.alloc hB.size _
  rw [hW] at hI2 ⊢
  generalize w1.heap.size = tb at *
  have HT := Lib.hid htab
  have HI := Lib.hid hI2
  clear hI1 hB hW htab hI2
  go_loop [4, 10] (fun s i => ∃ k : Nat, k ≤ l.length ∧ i = .int .i64 k ∧ s = u32v (crcS (BitVec.allOnes 32) (l.take k))) (fun _ i => l.length - (intOf i).toNat)
  case atStart => exact ⟨0, Nat.zero_le _, rfl, rfl⟩
  case round =>
    obtain ⟨k, hk, rfl, hs⟩ := hrel
    unfold u32v at hs
    subst hs
    by_cases hlt : k < l.length
    · obtain ⟨b, off, c', he, _, hb, _, _, hc⟩ := HI.out.at_ (by omega)
      cases he
      have hx := hc k l[k] (by simp [hlt])
      have hsn : crcS (BitVec.allOnes 32) (l.take (k + 1)) = stepB (crcS (BitVec.allOnes 32) (l.take k)) l[k] := by rw [List.take_succ_eq_append_getElem hlt, crcS_append]; rfl
      have HS := Lib.hid hsn
      clear hsn hc
      generalize crcS (BitVec.allOnes 32) (l.take k) = s at *
      generalize l[k] = x at *
      unfold bV at hx
      have hxl : (x.toNat : Int) < 256 := by have := x.toNat_lt; omega
      have e1 : bits BinOp.xor IntKind.u32 (s.toNat : Int) (x.toNat : Int) = ((s ^^^ b32 x).toNat : Int) := by rw [← b32_nat, xor_u32]
      have hs1 : stepB s x = halves 4 (halves 4 (s ^^^ b32 x)) := stepB_four s x
      have HS1 := Lib.hid hs1
      clear hs1
      generalize s ^^^ b32 x = s1 at *
      obtain ⟨i1, hi1, e2, e3⟩ := and15 s1
      have t1 := HT.out i1 hi1
      have e4 := four_nat s1
      rw [← e3] at e4
      generalize halves 4 (BitVec.ofNat 32 i1) = y1 at *
      generalize halves 4 s1 = s2 at *
      obtain ⟨i2, hi2, e5, e6⟩ := and15 s2
      have t2 := HT.out i2 hi2
      have e7 := four_nat s2
      rw [← e6] at e7
      generalize halves 4 (BitVec.ofNat 32 i2) = y2 at *
      generalize halves 4 s2 = s3 at *
      unfold u32v at t1 t2
      have b1 := s1.isLt
      have b2 := s2.isLt
      clear e3 e6
      go_wp2
      go_round
      case rel => exact ⟨k + 1, by omega, by go_num, by rw [HS.out, HS1.out]; rfl⟩
      case measure => simp [intOf]; omega
    · obtain rfl : k = l.length := by omega
      rw [List.take_length]
      have hfin : u32v (crc l) = .int .u32 (bits BinOp.xor IntKind.u32 IntKind.u32.max ((crcS (BitVec.allOnes 32) l).toNat : Int)) := by
        rw [show IntKind.u32.max = ((BitVec.allOnes 32).toNat : Int) by decide, xor_u32, BitVec.allOnes_xor]
        rfl
      have HFin := Lib.hid hfin
      have hbd := (crcS (BitVec.allOnes 32) l).isLt
      clear hfin
      generalize crcS (BitVec.allOnes 32) l = s at *
      go_wp2
      go_ret
      exact ⟨by rw [HFin.out]; rfl, hBW⟩
end Go.Proofs.Ythealkfpflkipaa

namespace Go.Proofs.Ythealkfpflkipaa
open Go.RowKit

theorem seen_len {d : DiskL} (h : mayD d = true) (p : Int) (h0 : 0 ≤ p) (h1 : p < 256) : (seenD d p).length = 128 := by
  obtain ⟨m1, m2, m3, m4⟩ := may_len h
  unfold seenD
  split
  · rename_i x hx
    have : ∀ (l : List WrL) (x : WrL), lastW l p = some x → x ∈ l := by
      intro l
      induction l with
      | nil => intro x hx; cases hx
      | cons y l ih =>
        intro x hx
        rw [lastW] at hx
        split at hx
        · rename_i z hz
          cases hx
          exact List.mem_cons_of_mem _ (ih _ hz)
        · split at hx
          · cases hx; exact List.mem_cons_self ..
          · cases hx
    exact (m4 x (this _ _ hx)).2.2
  · exact m3 _ (List.mem_of_getElem? (get_l d.blocks [] p.toNat (by omega)))
theorem readB_seen {d : DiskL} (h : mayD d = true) (p : Int) (h0 : 0 ≤ p) (h1 : p < 256) : readB d p = seenD d p := by
  unfold readB
  have e : errA d p = 0 := by rw [errA_may p h, if_neg (by omega)]
  rw [e, if_pos rfl]
def errP (d : DiskL) (s : Int) : Int := if mayD d then (if s = 0 ∨ s = 1 then 0 else 2) else 8
def plcP (d : DiskL) (s : Int) : Int := if errP d s = 0 then 4 + 2 * s else 0
theorem errP_zero {d : DiskL} {s : Int} (h : errP d s = 0) : mayD d = true ∧ (s = 0 ∨ s = 1) := by
  unfold errP at h
  split at h
  · rename_i hm
    split at h
    · rename_i hs
      exact ⟨hm, hs⟩
    · cases h
  · cases h
def sideL (d : DiskL) (s : Int) : List UInt8 := seenD d (4 + 2 * s) ++ seenD d (5 + 2 * s)
def errR (d : DiskL) (s : Int) : Int := if errP d s ≠ 0 then errP d s else if mayT (sideL d s) then 0 else 8
def readT (d : DiskL) (s : Int) : List UInt8 := if errR d s = 0 then sideL d s else []
def errU (l : List UInt8) : Int := if mayT l then 0 else 8
def sumT (l : List UInt8) : BitVec 32 := if mayT l then crc l else 0

set_option maxRecDepth 100000 in
set_option maxHeartbeats 1000000 in
/-- count.place. -/
theorem cplace_any (b u : Value) (d : DiskL) (s : Int) (w : World) (h : DiskV w 0 w.heap.size b u d) :
    Calls Try.prog 41 #[.agg #[b, u], .int .i64 s] w fun e w' => e = .returned (.tuple #[.int .i64 (plcP d s), .int .i64 (errP d s)]) ∧ Below w.heap.size w w' := by
  obtain ⟨ab, cb, rfl, g1, g2, -, -⟩ := h.1
  obtain ⟨au, cu, rfl, g3, g4, -, -⟩ := h.2
  unfold maxLen at g2 g4
  have hst := (Below.refl w.heap.size w).alloc (Nat.le_refl _) (.cells #[.slice ab d.blocks.length cb, .slice au d.waits.length cu] 26)
  have qd := LK.new w (.cells #[.slice ab d.blocks.length cb, .slice au d.waits.length cu] 26)
  have hB : LW w _ := hst
  have hD := (LD.of h (Nat.le_refl _)).step hst
  have sz_V : w.heap.size < (w.alloc (.cells #[.slice ab d.blocks.length cb, .slice au d.waits.length cu] 26)).heap.size := by simp
  obtain ⟨V, hV⟩ : ∃ V, w.alloc (.cells #[.slice ab d.blocks.length cb, .slice au d.waits.length cu] 26) = V := ⟨_, rfl⟩
  rw [hV] at hB hD qd sz_V
  clear h hst
  have hE : (mayD d = true ∧ errC d = 0 ∧ errP d s = (if s = 0 ∨ s = 1 then 0 else 2)) ∨ (errC d = 8 ∧ errP d s = 8) := by
    unfold errC errP
    cases mayD d
    · exact .inr ⟨rfl, rfl⟩
    · exact .inl ⟨rfl, rfl, rfl⟩
  have hP : plcP d s = if errP d s = 0 then 4 + 2 * s else 0 := rfl
  generalize plcP d s = pp at *
  generalize errP d s = ep at *
  obtain ⟨ec, hec⟩ : ∃ ec, errC d = ec := ⟨_, rfl⟩
  have k_chk := fun V b u hh => dcheck_any b u d V hh
  rw [show (if mayD d then (0 : Int) else 8) = ec from hec] at k_chk
  rw [hec] at hE
  have HE := Lib.hid (And.intro hE hP)
  clear hE hP hec
  have HC := Lib.hid (k_chk)
  clear k_chk
  have HQ := Lib.hid (And.intro qd (And.intro hD hB))
  clear qd hD hB
  have c_qd0 := LK.cell HQ.out.1 0
  have c_qd1 := LK.cell HQ.out.1 1
  simp at c_qd0 c_qd1
  go_enter Try.func41, Try.ntmps41
  go_upto_region 1 with (fail)
  clear hV
  go_wp2_with fail
  refine (HC.out V _ _ HQ.out.2.1.v).mono ?_
  rintro e w1 ⟨rfl, hst⟩
  clear c_qd0 c_qd1
  obtain ⟨qd, hD, hB⟩ := HQ.out
  clear HQ
  have sz_w1 : V.heap.size ≤ w1.heap.size := hst.size
  replace qd := qd.step hst
  replace hD := hD.step hst
  replace hB := hB.step hst
  clear hst
  have HQ := Lib.hid (And.intro qd (And.intro hD hB))
  clear qd hD hB
  have c_qd0 := LK.cell HQ.out.1 0
  have c_qd1 := LK.cell HQ.out.1 1
  simp at c_qd0 c_qd1
  rcases HE.out.1 with ⟨-, rfl, hx⟩ | ⟨rfl, rfl⟩
  case inr =>
    obtain rfl := HE.out.2
    go_wp2
    go_ret2
    exact ⟨rfl, HQ.out.2.2⟩
  by_cases h0 : s = 0
  · subst h0
    obtain rfl : ep = 0 := by rw [hx]; rfl
    obtain rfl : pp = 4 := HE.out.2
    clear hx
    go_wp2
    go_ret2
    exact ⟨rfl, HQ.out.2.2⟩
  by_cases h1 : s = 1
  · subst h1
    obtain rfl : ep = 0 := by rw [hx]; rfl
    obtain rfl : pp = 6 := HE.out.2
    clear hx
    go_wp2
    go_ret2
    exact ⟨rfl, HQ.out.2.2⟩
  obtain rfl : ep = 2 := by rw [hx, if_neg (by omega)]
  obtain rfl : pp = 0 := HE.out.2
  clear hx
  have n0 : (s != 0) = true := by simp [h0]
  have n1 : (s != 1) = true := by simp [h1]
  go_wp2
  go_ret2
  exact ⟨rfl, HQ.out.2.2⟩

set_option maxRecDepth 100000 in
set_option maxHeartbeats 1000000 in
/-- count.Sum. -/
theorem csum_any (v : Value) (l : List UInt8) (w : World) (hv : Bytes w 0 w.heap.size v l) :
    Calls Try.prog 11 #[v] w fun e w' => e = .returned (.tuple #[u32v (sumT l), .int .i64 (errU l)]) ∧ Below w.heap.size w w' := by
  have k1 := ccheck_any v l w hv
  have k2 := of_any v l w hv
  obtain ⟨a, c, rfl, g1, g2⟩ := hv.form rfl
  have hE : ((if mayT l then (0 : Int) else 8) = 0 ∧ errU l = 0 ∧ sumT l = crc l) ∨ ((if mayT l then (0 : Int) else 8) = 8 ∧ errU l = 8 ∧ sumT l = 0) := by
    unfold errU sumT
    cases mayT l
    · exact .inr ⟨rfl, rfl, rfl⟩
    · exact .inl ⟨rfl, rfl, rfl⟩
  generalize (if mayT l then (0 : Int) else 8) = er at *
  generalize errU l = eu at *
  generalize sumT l = st at *
  generalize crc l = cl at *
  have HC := Lib.hid (And.intro k1 k2)
  have HE := Lib.hid hE
  clear k1 k2 hE hv
  go_enter Try.func11, Try.ntmps11
  go_wp2_with fail
  refine (HC.out.1).mono ?_
  rintro e w1 ⟨rfl, rfl⟩
  rcases HE.out with ⟨rfl, rfl, rfl⟩ | ⟨rfl, rfl, rfl⟩
  · go_wp2_with fail
    refine (HC.out.2).mono ?_
    rintro e w2 ⟨rfl, hst⟩
    go_wp2
    go_ret2
    exact ⟨rfl, hst⟩
  · go_wp2
    go_ret2
    exact ⟨rfl, Below.refl _ _⟩

set_option maxRecDepth 100000 in
set_option maxHeartbeats 1000000 in
/-- count.Read. -/
theorem cread_any (b u : Value) (d : DiskL) (s : Int) (w : World) (h : DiskV w 0 w.heap.size b u d) :
    Calls Try.prog 15 #[.agg #[b, u], .int .i64 s] w fun e w' => ∃ v, e = .returned (.tuple #[v, .int .i64 (errR d s)]) ∧ MadeB w w' v (readT d s) := by
  obtain ⟨ab, cb, rfl, g1, g2, -, -⟩ := h.1
  obtain ⟨au, cu, rfl, g3, g4, -, -⟩ := h.2
  unfold maxLen at g2 g4
  have hst := (Below.refl w.heap.size w).alloc (Nat.le_refl _) (.cells #[.slice ab d.blocks.length cb, .slice au d.waits.length cu] 26)
  have qd := LK.new w (.cells #[.slice ab d.blocks.length cb, .slice au d.waits.length cu] 26)
  have hB : LW w _ := hst
  have hD := (LD.of h (Nat.le_refl _)).step hst
  have sz_V : w.heap.size < (w.alloc (.cells #[.slice ab d.blocks.length cb, .slice au d.waits.length cu] 26)).heap.size := by simp
  obtain ⟨V, hV⟩ : ∃ V, w.alloc (.cells #[.slice ab d.blocks.length cb, .slice au d.waits.length cu] 26) = V := ⟨_, rfl⟩
  rw [hV] at hB hD qd sz_V
  clear h hst
  obtain ⟨ep, hep⟩ : ∃ ep, errP d s = ep := ⟨_, rfl⟩
  obtain ⟨pp, hpp⟩ : ∃ pp, plcP d s = pp := ⟨_, rfl⟩
  have k_plc := fun V b u hh => cplace_any b u d s V hh
  rw [hep, hpp] at k_plc
  have hX : ep ≠ 0 → errR d s = ep ∧ readT d s = [] := fun hn => by
    have h1 : errR d s = ep := by unfold errR; rw [hep, if_pos hn]
    exact ⟨h1, by unfold readT; rw [h1, if_neg hn]⟩
  have hY : ep = 0 → mayD d = true ∧ (s = 0 ∨ s = 1) ∧ pp = 4 + 2 * s ∧ errR d s = (if mayT (sideL d s) then 0 else 8) ∧ readT d s = if mayT (sideL d s) then sideL d s else [] := fun hz => by
    rw [hz] at hep
    obtain ⟨h1, h2⟩ := errP_zero hep
    have h3 : errR d s = (if mayT (sideL d s) then 0 else 8) := by unfold errR; rw [hep, if_neg (by simp)]
    refine ⟨h1, h2, by rw [← hpp]; unfold plcP; rw [hep, if_pos rfl], h3, ?_⟩
    unfold readT
    rw [h3]
    cases mayT (sideL d s) <;> rfl
  generalize errR d s = er at *
  generalize readT d s = rt at *
  have HX := Lib.hid (And.intro hX hY)
  clear hX hY hep hpp
  have k_r1 := fun V b u p hh => dread_any b u d p V hh
  have HC := Lib.hid (And.intro k_plc k_r1)
  clear k_plc k_r1
  have HQ := Lib.hid (And.intro qd (And.intro hD hB))
  clear qd hD hB
  have c_qd0 := LK.cell HQ.out.1 0
  have c_qd1 := LK.cell HQ.out.1 1
  simp at c_qd0 c_qd1
  go_enter Try.func15, Try.ntmps15
  go_upto_region 1 with (fail)
  clear hV
  go_wp2_with fail
  refine (HC.out.1 V _ _ HQ.out.2.1.v).mono ?_
  rintro e w1 ⟨rfl, hst⟩
  clear c_qd0 c_qd1
  obtain ⟨qd, hD, hB⟩ := HQ.out
  clear HQ
  have sz_w1 : V.heap.size ≤ w1.heap.size := hst.size
  replace qd := qd.step hst
  replace hD := hD.step hst
  replace hB := hB.step hst
  clear hst
  have HQ := Lib.hid (And.intro qd (And.intro hD hB))
  clear qd hD hB
  have c_qd0 := LK.cell HQ.out.1 0
  have c_qd1 := LK.cell HQ.out.1 1
  simp at c_qd0 c_qd1
  by_cases hz : ep = 0
  case neg =>
    have i1 : (ep != 0) = true := by simp [hz]
    obtain ⟨rfl, rfl⟩ := HX.out.1 hz
    go_wp2
    go_ret2
    exact ⟨_, rfl, MadeB.nil_ HQ.out.2.2⟩
  subst hz
  obtain ⟨hmay, hs, hpp, her, hrt⟩ := HX.out.2 rfl
  have hps : 0 ≤ pp ∧ pp + 1 < 256 := by omega
  have hl1 := seen_len hmay pp (by omega) (by omega)
  have hl2 := seen_len hmay (pp + 1) (by omega) (by omega)
  have hs1 := readB_seen hmay pp (by omega) (by omega)
  have hs2 := readB_seen hmay (pp + 1) (by omega) (by omega)
  have hsd : sideL d s = seenD d pp ++ seenD d (pp + 1) := by
    unfold sideL
    rw [hpp, show (4 + 2 * s + 1 : Int) = 5 + 2 * s by omega]
  have k1 := fun V b u hh => dread_any b u d pp V hh
  have k2 := fun V b u hh => dread_any b u d (pp + 1) V hh
  rw [hs1, show errA d pp = 0 by rw [errA_may pp hmay, if_neg (by omega)]] at k1
  rw [hs2, show errA d (pp + 1) = 0 by rw [errA_may _ hmay, if_neg (by omega)]] at k2
  obtain ⟨la, hla⟩ : ∃ la, seenD d pp = la := ⟨_, rfl⟩
  obtain ⟨lb, hlb⟩ : ∃ lb, seenD d (pp + 1) = lb := ⟨_, rfl⟩
  rw [hla] at k1 hl1 hsd
  rw [hlb] at k2 hl2 hsd
  rw [hsd] at her hrt
  have HK := Lib.hid (And.intro k1 k2)
  have HR := Lib.hid (And.intro her (And.intro hrt (And.intro hl1 hl2)))
  obtain ⟨hp0, hp1⟩ := hps
  clear HX hs hpp her hrt hl1 hl2 hs1 hs2 hsd hla hlb k1 k2 hmay HC
  go_wp2_with fail
  refine (HK.out.1 _ _ _ HQ.out.2.1.v).mono ?_
  rintro e w2 ⟨v1, rfl, hm⟩
  clear c_qd0 c_qd1
  obtain ⟨qd, hD, hB⟩ := HQ.out
  clear HQ
  have hL1 := LM.of hm
  have hst := hm.below
  obtain ⟨a1, c1, rfl, -, -⟩ := hm.bytes.form HR.out.2.2.1
  clear hm
  have sz_w2 : w1.heap.size ≤ w2.heap.size := hst.size
  replace qd := qd.step hst
  replace hD := hD.step hst
  replace hB := hB.step hst
  clear hst
  have HQ := Lib.hid (And.intro qd (And.intro hD (And.intro hL1 hB)))
  clear qd hD hL1 hB
  have c_qd0 := LK.cell HQ.out.1 0
  have c_qd1 := LK.cell HQ.out.1 1
  simp at c_qd0 c_qd1
  go_wp2_with fail
  refine (HK.out.2 _ _ _ HQ.out.2.1.v).mono ?_
  rintro e w3 ⟨v2, rfl, hm⟩
  clear c_qd0 c_qd1
  obtain ⟨qd, hD, hL1, hB⟩ := HQ.out
  clear HQ
  have hL2 := LM.of hm
  have hst := hm.below
  obtain ⟨a2, c2, rfl, -, -⟩ := hm.bytes.form HR.out.2.2.2
  clear hm
  have sz_w3 : w2.heap.size ≤ w3.heap.size := hst.size
  replace qd := qd.step hst
  replace hD := hD.step hst
  replace hL1 := hL1.step hst
  replace hB := hB.step hst
  clear hst
  have HQ := Lib.hid (And.intro qd (And.intro hD (And.intro hL1 (And.intro hL2 hB))))
  clear qd hD hL1 hL2 hB
  have c_qd0 := LK.cell HQ.out.1 0
  have c_qd1 := LK.cell HQ.out.1 1
  simp at c_qd0 c_qd1
  go_wp2_with fail
  clear c_qd0 c_qd1
  obtain ⟨qd, hD, hL1, hL2, hB⟩ := HQ.out
  clear HQ
  have hst := (Below.refl w3.heap.size w3).alloc (Nat.le_refl _) (.cells #[.slice a1 128 c1, .slice a2 128 c2] 22)
  have hlt : w3.heap.size < (w3.alloc (.cells #[.slice a1 128 c1, .slice a2 128 c2] 22)).heap.size := by simp
  have qs := LK.new w3 (.cells #[.slice a1 128 c1, .slice a2 128 c2] 22)
  replace qd := qd.step hst
  replace hD := hD.step hst
  replace hL1 := hL1.step hst
  replace hL2 := hL2.step hst
  replace hB := hB.step hst
  obtain ⟨w4, hw⟩ : ∃ v, w3.alloc (.cells #[.slice a1 128 c1, .slice a2 128 c2] 22) = v := ⟨_, rfl⟩
  rw [hw] at hlt qs qd hD hL1 hL2 hB ⊢
  clear hw hst
  have sz_w4 := hlt
  clear hlt
  have HQ := Lib.hid (And.intro qd (And.intro hD (And.intro hL1 (And.intro hL2 (And.intro qs hB)))))
  clear qd hD hL1 hL2 qs hB
  have c_qd0 := LK.cell HQ.out.1 0
  have c_qd1 := LK.cell HQ.out.1 1
  have c_qs0 := LK.cell HQ.out.2.2.2.2.1 0
  have c_qs1 := LK.cell HQ.out.2.2.2.2.1 1
  simp at c_qd0 c_qd1 c_qs0 c_qs1
  refine (concat_any [(.slice a1 128 c1, la), (.slice a2 128 c2, lb)] w3.heap.size 0 2 w4 HQ.out.2.2.2.2.1.lt (fun i p hp => ?_) (fun p hp => ?_) (Nat.le_refl _) (by decide) (by simp [catL]; have := HR.out.2.2; omega)).mono ?_
  · rcases i with _ | _ | i
    · cases hp; exact LK.cell HQ.out.2.2.2.2.1 0
    · cases hp; exact LK.cell HQ.out.2.2.2.2.1 1
    · simp at hp
  · simp at hp
    rcases hp with rfl | rfl
    · exact HQ.out.2.2.1.v
    · exact HQ.out.2.2.2.1.v
  rintro e w5 ⟨v4, rfl, hm⟩
  have hcat : catL [((.slice a1 128 c1 : Value), la), (.slice a2 128 c2, lb)] = la ++ lb := by simp [catL]
  rw [hcat] at hm
  have hBf : LW w w5 := HQ.out.2.2.2.2.2.step hm.below
  have hb2 := hm.bytes.more (lo' := w.heap.size) (hi' := w5.heap.size) (by omega) (Nat.le_refl _)
  have ht2 := hm.thawed
  have k3 := ccheck_any v4 (la ++ lb) w5 hm.bytes.all0
  obtain ⟨a4, c4, rfl, -, -⟩ := hm.bytes.form rfl
  clear hcat hm
  obtain ⟨lab, hlab⟩ : ∃ lab, la ++ lb = lab := ⟨_, rfl⟩
  rw [hlab] at hb2 ht2 k3 ⊢ HR
  have HF := Lib.hid (And.intro hb2 (And.intro ht2 hBf))
  have HK3 := Lib.hid k3
  clear hb2 ht2 hBf k3 hlab
  clear c_qd0 c_qd1 c_qs0 c_qs1
  go_wp2_with fail
  refine HK3.out.mono ?_
  rintro e w6 ⟨rfl, rfl⟩
  obtain ⟨her, hrt, -⟩ := HR.out
  cases hmt : mayT lab
  · rw [hmt] at her hrt
    simp only [Bool.false_eq_true, if_false] at her hrt ⊢
    subst her hrt
    clear hmt HR
    go_wp2
    go_ret2
    exact ⟨_, rfl, MadeB.nil_ HF.out.2.2⟩
  · rw [hmt] at her hrt
    simp only [if_true] at her hrt ⊢
    subst her hrt
    clear hmt HR
    go_wp2
    go_ret2
    exact ⟨_, rfl, HF.out.1, HF.out.2.1, HF.out.2.2⟩
end Go.Proofs.Ythealkfpflkipaa

namespace Go.Proofs.Ythealkfpflkipaa
open Go.RowKit

def KeepC (n₀ Bs : Nat) (A B : World) : Prop := Below n₀ A B ∧ B.cell? ⟨Bs, 0, none⟩ = A.cell? ⟨Bs, 0, none⟩ ∧ B.cell? ⟨Bs + 1, 0, none⟩ = A.cell? ⟨Bs + 1, 0, none⟩
theorem KeepC.refl (n₀ Bs : Nat) (A : World) : KeepC n₀ Bs A A := ⟨Below.refl _ _, rfl, rfl⟩
theorem KeepC.trans {n₀ Bs : Nat} {A B C : World} (h : KeepC n₀ Bs A B) (k : KeepC n₀ Bs B C) : KeepC n₀ Bs A C := ⟨h.1.trans k.1, k.2.1.trans h.2.1, k.2.2.trans h.2.2⟩
theorem keepC_b {w : World} {n₀ Bs : Nat} (hn : n₀ ≤ w.heap.size) (hB : Bs + 1 < w.heap.size) : ∀ (W : World) (l : Nat) (o o' : Obj), w.heap.size ≤ l → W.heap[l]? = some o → o.isCells = false → o.isWalk = false → KeepC n₀ Bs W (W.putObj l o') :=
  fun W l o o' h1 h2 h3 h4 => ⟨belowK_b hn W l o o' h1 h2 h3 h4, (belowK_b (w := w) (n₀ := Bs + 1) (by omega) W l o o' h1 h2 h3 h4).cell (p := ⟨Bs, 0, none⟩) (Nat.lt_succ_self _),
    (belowK_b (w := w) (n₀ := Bs + 2) (by omega) W l o o' h1 h2 h3 h4).cell (p := ⟨Bs + 1, 0, none⟩) (Nat.lt_succ_self _)⟩
def chL (k : Nat) : List (Fin 2) := [0, 1].take k
def encC (b off : Nat) (x : Fin 2) : Array Value := #[.slice (some ⟨b, off + x.1 * 128, none⟩) 128 128]

set_option maxRecDepth 100000 in
set_option maxHeartbeats 2000000 in
theorem chunk1_in (F : Fence) (n : Nat) (h7 : F.fn 72) (hro : F.round = none) (hn : 1 ≤ n) (l Bs n₀ b off cap : Nat) (hlm : 256 ≤ cap) (hcm : cap ≤ maxLen) (J Jx : List (Fin 2) → World → Prop) (hJd : ∀ s W, J s W → J s W.drew)
    (hY : ∀ pre x W, J pre W → pre.length < 2 → YieldAt F (n - 1) Try.prog l (encC b off x) W fun e W' =>
      (e = .returned (.bool true) ∧ J (pre ++ [x]) W' ∧ KeepC n₀ Bs W W') ∨ (e = .returned (.bool false) ∧ Jx (pre ++ [x]) W'))
    (W : World) (hBs : W.cell? ⟨Bs, 0, none⟩ = some (.slice (some ⟨b, off, none⟩) 256 cap)) (hBn : W.cell? ⟨Bs + 1, 0, none⟩ = some (.int .i64 128)) (h0 : J [] W) :
    CallsIn F n Try.prog 72 #[.func (.yield l) #[] #[], .pointer (some ⟨Bs, 0, none⟩), .pointer (some ⟨Bs + 1, 0, none⟩)] W fun e W' => (∃ v, e = .returned v) ∧
      ((∃ ys, ys = chL 2 ∧ J ys W') ∨ (∃ pre, (pre = chL 1 ∨ pre = chL 2) ∧ Jx pre W')) := by
  unfold maxLen at hcm
  refine callsIn_of_wp Try.func72 rfl h7 ?_ hro
  simp only [Try.ntmps72, List.size_toArray, List.length_cons, List.length_nil, Nat.reduceAdd, Nat.reduceSub, Array.replicate_succ, Array.replicate_zero, List.push_toArray, List.append_toArray, List.nil_append, List.cons_append]
  gi_wp2
  gi_loopw [4, 5] (fun i _ wr => KeepC n₀ Bs W wr ∧ ((i = .int .i64 0 ∧ J (chL 0) wr) ∨ (i = .int .i64 128 ∧ J (chL 1) wr) ∨ (i = .int .i64 256 ∧ J (chL 2) wr))) (fun i _ _ => (256 - intOf i).toNat)
  case atStart => exact ⟨KeepC.refl _ _ _, .inl ⟨rfl, h0⟩⟩
  case round =>
    obtain ⟨hnx, hJs⟩ := hrel
    have hBs' : wr.cell? ⟨Bs, 0, none⟩ = some (.slice (some ⟨b, off, none⟩) 256 cap) := hnx.2.1.trans hBs
    have hBn' : wr.cell? ⟨Bs + 1, 0, none⟩ = some (.int .i64 128) := hnx.2.2.trans hBn
    rcases hJs with ⟨rfl, hJs⟩ | ⟨rfl, hJs⟩ | ⟨rfl, hJs⟩
    · obtain ⟨fn, tmps, assign, body, hy, hR⟩ := hY _ 0 wr.drew (hJd _ _ hJs) (by decide)
      have hy' : (Instr.yield l #[.slice (some ⟨b, off, none⟩) 128 128]).run Try.prog wr.drew = .ok (.round l fn tmps assign body) wr.drew := hy
      have HK := Lib.hid hnx
      clear hnx hJs hBs hBn hy
      have m1 : min (128 : Int) 256 = 128 := by decide
      gi_wp2
      gi_region
      all_goals
        gi_wp2
        refine hR.mono ?_
        rintro e W3 (⟨rfl, hJ3, hk3⟩ | ⟨rfl, hJx3⟩)
        · have HJ3 := Lib.hid hJ3
          have HK3 := Lib.hid hk3
          have hb3 := hk3.2.1.trans hBs'
          have hb4 := hk3.2.2.trans hBn'
          clear hJ3 hk3
          gi_wp2
          go_roundw
          case rel => exact ⟨HK.out.trans (KeepC.trans ⟨(Below.refl _ _).drew, rfl, rfl⟩ HK3.out), .inr (.inl ⟨rfl, HJ3.out⟩)⟩
          case measure => (simp [intOf])
        · gi_wp2
          refine bodyPost_ret (results_none rfl _ _ _) rfl ?_
          exact ⟨⟨_, rfl⟩, .inr ⟨_, .inl rfl, hJx3⟩⟩
    · obtain ⟨fn, tmps, assign, body, hy, hR⟩ := hY _ 1 wr.drew (hJd _ _ hJs) (by decide)
      have hy' : (Instr.yield l #[.slice (some ⟨b, off + 128, none⟩) 128 128]).run Try.prog wr.drew = .ok (.round l fn tmps assign body) wr.drew := hy
      have HK := Lib.hid hnx
      clear hnx hJs hBs hBn hy
      have m1 : min (128 : Int) 128 = 128 := by decide
      gi_wp2
      gi_region
      all_goals
        gi_wp2
        refine hR.mono ?_
        rintro e W3 (⟨rfl, hJ3, hk3⟩ | ⟨rfl, hJx3⟩)
        · have HJ3 := Lib.hid hJ3
          have HK3 := Lib.hid hk3
          have hb3 := hk3.2.1.trans hBs'
          have hb4 := hk3.2.2.trans hBn'
          clear hJ3 hk3
          gi_wp2
          go_roundw
          case rel => exact ⟨HK.out.trans (KeepC.trans ⟨(Below.refl _ _).drew, rfl, rfl⟩ HK3.out), .inr (.inr ⟨rfl, HJ3.out⟩)⟩
          case measure => (simp [intOf])
        · gi_wp2
          refine bodyPost_ret (results_none rfl _ _ _) rfl ?_
          exact ⟨⟨_, rfl⟩, .inr ⟨_, .inr rfl, hJx3⟩⟩
    · clear hBs hBn
      gi_wp2
      go_end0
      exact ⟨⟨_, rfl⟩, .inl ⟨_, rfl, hJs⟩⟩

theorem chunk1_stops (F : Fence) (n : Nat) (h7 : F.fn 72) (hro : F.round = none) (hn : 1 ≤ n) (Bs n₀ b off cap : Nat) (hlm : 256 ≤ cap) (hcm : cap ≤ maxLen) (w : World) (hBs : Bs + 1 < w.heap.size)
    (hc : w.cell? ⟨Bs, 0, none⟩ = some (.slice (some ⟨b, off, none⟩) 256 cap)) (hc2 : w.cell? ⟨Bs + 1, 0, none⟩ = some (.int .i64 128)) :
    SeqStopsK F n Try.prog 72 #[.pointer (some ⟨Bs, 0, none⟩), .pointer (some ⟨Bs + 1, 0, none⟩)] (encC b off) (KeepC n₀ Bs) (fun ys => ys = chL 2) (fun pre => pre = chL 1 ∨ pre = chL 2) 2 w :=
  fun l J Jx W hW hJ _ hY h0 => chunk1_in F n h7 hro hn l Bs n₀ b off cap hlm hcm J Jx (fun s W h => hJ s W W.drew none h ⟨rfl, rfl, rfl, Nat.le_refl _, fun _ _ _ => rfl⟩ (fun r e => by cases e)) hY W ((hW.cell (p := ⟨Bs, 0, none⟩) (by show Bs < w.heap.size; omega)).trans hc) ((hW.cell (p := ⟨Bs + 1, 0, none⟩) hBs).trans hc2) h0
set_option maxRecDepth 100000 in
set_option maxHeartbeats 1000000 in
theorem chunk_in (F : Fence) (n : Nat) (h5 : F.fn 42) (hro : F.round = none) (a : Option Addr) (len cap : Nat) (w : World) :
    CallsIn F n Try.prog 42 #[.slice a len cap, .int .i64 128] w fun e w' => e = .returned (.func (.func 72) #[] #[.pointer (some ⟨w.heap.size, 0, none⟩), .pointer (some ⟨w.heap.size + 1, 0, none⟩)]) ∧ w' = (w.alloc (.cells #[.slice a len cap] 22)).alloc (.cells #[.int .i64 128] 3) := by
  refine callsIn_of_wp Try.func42 rfl h5 ?_ hro
  simp only [Try.ntmps42, List.size_toArray, List.length_cons, List.length_nil, Nat.reduceAdd, Nat.reduceSub, Array.replicate_succ, Array.replicate_zero, List.push_toArray, List.append_toArray, List.nil_append, List.cons_append]
  gi_wp2
  go_ret
  exact ⟨rfl, rfl⟩
end Go.Proofs.Ythealkfpflkipaa

