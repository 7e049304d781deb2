/- The walks of the statements of layer 2: alive; SumThree. -/
import Derived.Test.YtahpiffahjmfnaaSum
import Derived.Test.YtahpiffahjmfnaaReg
import Derived.Test.YtahpiffahjmfnaaRefA
import Derived.Deep.RegionHeld
import Derived.Deep.DeepCutAuto
import Derived.Lib.SlBytesConst
namespace Go.Proofs.Ytahpiffahjmfnaa
open Go.RowKit

theorem crc_digits : crc [49, 50, 51, 52, 53, 54, 55, 56, 57] = 0xcbf43926#32 := by decide +kernel
set_option maxHeartbeats 1000000 in
theorem alive2 (w : World) : Calls Try.prog 14 #[] w fun e w' => e = .returned (.bool true) ∧ Below w.heap.size w w' := by
  have hn := Bytes.new w 5 [49, 50, 51, 52, 53, 54, 55, 56, 57] (by simp [maxLen]) (9, 10)
  have hc := of_any _ _ _ (hn.more (Nat.zero_le _) (by simp))
  rw [crc_digits] at hc
  have Hc := Lib.hid hc
  clear hc hn
  have kc := fun (w : World) (C : Array Value) (n c : Nat) => Lib.run_convert_bytes_const (P := Try.prog) w 22 5 C n c Try.underlying22 Try.underlying5
  go_enter Try.func14, Try.ntmps14
  go_wp2_with fail
  refine Hc.out.mono ?_
  rintro e w1 ⟨rfl, hb⟩
  have hB := ((Below.refl _ w).alloc (Nat.le_refl _) (.cells ([49, 50, 51, 52, 53, 54, 55, 56, 57].map bV).toArray 5 (9, 10)))
  have hB2 := below_step hB hB.size hb
  unfold u32v
  go_wp2
  go_ret
  exact ⟨rfl, hB2⟩

theorem xor_u8 (a b : UInt8) : bits .xor .u8 (a.toNat : Int) (b.toNat : Int) = ((a ^^^ b).toNat : Int) := by
  simp only [bits, IntKind.bits]
  rw [BitVec.ofInt_natCast, BitVec.ofInt_natCast]
  have ha := a.toNat_lt
  have hb := b.toNat_lt
  have hx : a.toNat ^^^ b.toNat < 2 ^ 8 := Nat.xor_lt_two_pow ha hb
  rw [IntKind.wrap_u8]
  have e : ((BitVec.ofNat 8 a.toNat ^^^ BitVec.ofNat 8 b.toNat).toNat) = (a ^^^ b).toNat := by
    rw [BitVec.toNat_xor, BitVec.toNat_ofNat, BitVec.toNat_ofNat, UInt8.toNat_xor, Nat.mod_eq_of_lt ha, Nat.mod_eq_of_lt hb]
  have h2 := (a ^^^ b).toNat_lt
  show (((BitVec.ofNat 8 a.toNat ^^^ BitVec.ofNat 8 b.toNat).toNat : Nat) : Int) % 256 = _
  rw [e]
  omega
theorem xor3_length : ∀ (l m n : List UInt8), l.length = m.length → l.length = n.length → (xor3 l m n).length = l.length
  | [], [], [], _, _ => rfl
  | a :: l, b :: m, c :: n, h1, h2 => by simp only [xor3, List.length_cons, xor3_length l m n (by simpa using h1) (by simpa using h2)]
  | [], _ :: _, _, h, _ => by simp at h
  | _ :: _, [], _, h, _ => by simp at h
  | [], [], _ :: _, _, h => by simp at h
  | _ :: _, _ :: _, [], _, h => by simp at h
theorem xor3_at : ∀ (l m n : List UInt8) (k : Nat) (a b c : UInt8), l[k]? = some a → m[k]? = some b → n[k]? = some c → (xor3 l m n)[k]? = some (a ^^^ b ^^^ c)
  | a :: l, b :: m, c :: n, 0, _, _, _, h1, h2, h3 => by simp at h1 h2 h3; subst h1 h2 h3; rfl
  | a :: l, b :: m, c :: n, k + 1, x, y, z, h1, h2, h3 => by simpa [xor3] using xor3_at l m n k x y z (by simpa using h1) (by simpa using h2) (by simpa using h3)
  | [], _, _, _, _, _, _, h, _, _ => by simp at h
  | _ :: _, [], _, _, _, _, _, _, h, _ => by simp at h
  | _ :: _, _ :: _, [], _, _, _, _, _, _, h => by simp at h
/-- A list that is filled from the front. -/
def filled (l : List UInt8) (k : Nat) : List UInt8 := l.take k ++ List.replicate (l.length - k) 0
theorem filled_zero (l : List UInt8) : filled l 0 = List.replicate l.length 0 := by simp [filled]
theorem filled_all (l : List UInt8) : filled l l.length = l := by simp [filled]
theorem filled_length (l : List UInt8) (k : Nat) (h : k ≤ l.length) : (filled l k).length = l.length := by simp [filled]; omega
theorem filled_at (l : List UInt8) (k : Nat) (h : k < l.length) : (filled l k)[k]? = some 0 := by
  simp only [filled]
  have h2 : k - (l.take k).length < l.length - k := by simp; omega
  rw [List.getElem?_append_right (by simp; omega), List.getElem?_replicate, if_pos h2]
theorem filled_set (l : List UInt8) (k : Nat) (x : UInt8) (h : l[k]? = some x) : (filled l k).set k x = filled l (k + 1) := by
  have hk : k < l.length := (List.getElem?_eq_some_iff.1 h).1
  have hx : l[k] = x := (List.getElem?_eq_some_iff.1 h).2
  have hlen : (l.take k).length = k := by simp; omega
  simp only [filled]
  rw [List.set_append_right _ _ (by omega), hlen, Nat.sub_self, List.take_succ_eq_append_getElem hk, hx]
  obtain ⟨j, hj⟩ : ∃ j, l.length - k = j + 1 := ⟨l.length - k - 1, by omega⟩
  rw [hj, List.replicate_succ, List.set_cons_zero, show l.length - (k + 1) = j by omega]
  simp

theorem run_pre (a : Option Addr) (len c n : Nat) (h : n ≤ c) (w : World) : (Instr.sliceAt 22 (.slice a len c) none (some (.int .i64 n)) none).run Try.prog w = .ok (.slice a n c) w := by
  cases a with
  | none => simp [go_sem, h]
  | some ad => simp [go_sem, h]

set_option maxHeartbeats 4000000 in
set_option maxRecDepth 100000 in
theorem sumThree_walk (va : Value) (la : List UInt8) (vb : Value) (lb : List UInt8) (vc : Value) (lc : List UInt8) (w : World) (ha : Bytes w 0 w.heap.size va la) (hb : Bytes w 0 w.heap.size vb lb) (hc : Bytes w 0 w.heap.size vc lc) :
    Calls Try.prog 3 #[va, vb, vc] w fun e w' => e = .returned (.bool true) ∧ Below w.heap.size w w' := by
  obtain ⟨aa, ca, rfl, ga, ka, _, _⟩ := id ha
  obtain ⟨ab, cb, rfl, gb, kb, _, _⟩ := id hb
  obtain ⟨ac, cc, rfl, gc, kc, _, _⟩ := id hc
  unfold maxLen at ka kb kc
  go_enter Try.func3, Try.ntmps3
  go_wp2_with fail
  refine (alive2 _).mono ?_
  rintro e w1 ⟨rfl, hB⟩
  have hs := hB.size
  go_upto_region 2 with (fail)
  go_cut [8] (fun v wx => ∃ n : Nat, v = .int .i64 n ∧ n ≤ la.length ∧ n ≤ lb.length ∧ n ≤ lc.length ∧ wx = w1)
  case first =>
    by_cases h1 : (lb.length : Int) < la.length
    · by_cases h2 : (lc.length : Int) < lb.length
      all_goals
        go_wp2
        go_meet
        exact ⟨_, rfl, by omega, by omega, by omega, rfl⟩
    · by_cases h2 : (lc.length : Int) < la.length
      all_goals
        go_wp2
        go_meet
        exact ⟨_, rfl, by omega, by omega, by omega, rfl⟩
  case rest =>
  obtain ⟨n, rfl, hna, hnb, hnc, rfl⟩ := hcut
  by_cases hbig : 10000 < n
  · go_wp2
    go_ret
    exact ⟨rfl, hB⟩
  have hxl := xor3_length (la.take n) (lb.take n) (lc.take n) (by simp; omega) (by simp; omega)
  have hxn : (xor3 (la.take n) (lb.take n) (lc.take n)).length = n := by rw [hxl]; simp; omega
  have hcrc := crc_xor3 (la.take n) (lb.take n) (lc.take n) (by simp; omega) (by simp; omega)
  have hat : ∀ k x y z, k < n → la[k]? = some x → lb[k]? = some y → lc[k]? = some z → (xor3 (la.take n) (lb.take n) (lc.take n))[k]? = some (x ^^^ y ^^^ z) := fun k x y z hk h1 h2 h3 =>
    xor3_at _ _ _ k x y z (by rw [List.getElem?_take, if_pos hk, h1]) (by rw [List.getElem?_take, if_pos hk, h2]) (by rw [List.getElem?_take, if_pos hk, h3])
  have HX := Lib.hid hxn
  have HC := Lib.hid hcrc
  have HA := Lib.hid hat
  clear hxl hxn hcrc hat
  generalize xor3 (la.take n) (lb.take n) (lc.take n) = xs at *
  go_wp2_with (refine wpList_makeB rfl _ _ 22 rfl 5 Try.underlying22 info_u8 n rfl rfl (by omega) ?_; intro w2 hrow hb2)
  have hrow0 : RowB w2 wc.heap.size 5 (filled xs 0) := by rw [filled_zero, HX.out]; exact hrow
  clear hrow
  have hB2 := below_step hB hs hb2
  obtain ⟨g, hg⟩ : ∃ g, wc.heap.size = g := ⟨_, rfl⟩
  have hwg : w.heap.size ≤ g := by rw [← hg]; exact hs
  have HG := Lib.hid hg
  rw [hg] at hrow0
  rw [hg]
  clear hg
  have Ha := Lib.hid ha
  have Hb := Lib.hid hb
  have Hc := Lib.hid hc
  clear ha hb hc hb2
  go_loopw [10] (fun i wr => ∃ k : Nat, k ≤ n ∧ i = .int .i64 k ∧ RowB wr g 5 (filled xs k) ∧ Below g w2 wr) (fun i _ => n - (intOf i).toNat)
  case atStart => exact ⟨0, Nat.zero_le _, rfl, hrow0, Below.refl _ _⟩
  case round =>
    obtain ⟨k, hk, rfl, hrow, hbr⟩ := hrel
    by_cases hlt : k < n
    · have hbw : Below w.heap.size w wr := hB2.trans (hbr.mono hwg)
      obtain ⟨ba, oa, _, hea, _, hga, _, _, hcella⟩ := (Ha.out).at_ (by omega)
      obtain ⟨bb, ob, _, heb, _, hgb, _, _, hcellb⟩ := (Hb.out).at_ (by omega)
      obtain ⟨bc, oc, _, hec, _, hgc, _, _, hcellc⟩ := (Hc.out).at_ (by omega)
      cases hea
      cases heb
      cases hec
      have ea := fun W => ((aft_below w W).cell (p := ⟨ba, oa + k, none⟩) hga).trans (hcella k la[k] (by simp))
      have eb := fun W => ((aft_below w W).cell (p := ⟨bb, ob + k, none⟩) hgb).trans (hcellb k lb[k] (by simp))
      have ec := fun W => ((aft_below w W).cell (p := ⟨bc, oc + k, none⟩) hgc).trans (hcellc k lc[k] (by simp))
      have hx := HA.out k la[k] lb[k] lc[k] hlt (by simp) (by simp) (by simp)
      have hset := filled_set xs k _ hx
      have hold := hrow.cell k
      rw [filled_at xs k (by rw [HX.out]; exact hlt)] at hold
      have hfz := hrow.frozen k
      clear hcella hcellb hcellc hx
      generalize la[k] = x at *
      generalize lb[k] = y at *
      generalize lc[k] = z at *
      have e1 := xor_u8 x y
      have e2 := xor_u8 (x ^^^ y) z
      have HS := Lib.hid hset
      clear hset
      generalize x ^^^ y = xy at *
      generalize xy ^^^ z = xyz at *
      have HR := Lib.hid hrow
      have Hbr := Lib.hid hbr
      clear hrow hbr
      simp only [bV] at ea eb ec
      simp only [Option.map_some, bV] at hold
      have hi0 : (0 : Int) ≤ (k : Int) := by omega
      have hin : (k : Int) < (n : Int) := by omega
      have hia : (k : Int) < (la.length : Int) := by omega
      have hib : (k : Int) < (lb.length : Int) := by omega
      have hic : (k : Int) < (lc.length : Int) := by omega
      go_wp2_with fail
      refine wp_region_held_drew (S := Cls w) (by kernel_rfl) (Cls.of hbw.drew) (fun hCl => ?_)
      refine wpAnyH_seg (fuel := 1) (by kernel_rfl) (fun _ d _ _ _ h => by cases d <;> exact h) hCl [0, 1, 2, 3, 4, 5, 6, 7, 8, 9, 10, 11, 12, 13, 14, 15, 16] _ _ _ (by kernel_rfl) (by kernel_rfl) ?_
      simp only [opsOf_cons, opsOf_nil, consOp_some, List.getElem?_toArray, List.getElem?_cons_succ, List.getElem?_cons_zero]
      repeat (first | go_big_quiet_step (fail) | quiet_step (fail))
      refine wpQuiet_nil ?_
      refine wpAnyH_each (fuel := 0) [17] (by kernel_rfl) (by simp) (by kernel_rfl) ?_
      refine Each.cons _ rfl (fun K' hK => ?_) Each.nil
      go_simp
      have hst := (hbw.drew).setCell (p := ⟨g, k, none⟩) hwg (.int .u8 (xyz.toNat : Int))
      have hCl := Cls.of hst
      refine hK.out (Cls w) (fun _ h => h) hCl ?_
      clear hK K'
      refine wpAnyH_done (by kernel_rfl) ?_ _
      go_wp2
      go_roundw
      case rel =>
        refine ⟨k + 1, by omega, by go_num, ?_, (Hbr.out.drew).setCell (p := ⟨g, k, none⟩) (Nat.le_refl _) _⟩
        rw [← HS.out]
        exact HR.out.set_ k xyz
      case measure => simp [intOf]; omega
    · obtain rfl : k = n := by omega
      have hbw : Below w.heap.size w wr := hB2.trans (hbr.mono hwg)
      have hfx : filled xs k = xs := by rw [← HX.out]; exact filled_all xs
      rw [hfx] at hrow
      have hxb := hrow.bytes (by unfold maxLen; rw [HX.out]; omega)
      rw [HX.out] at hxb
      have hxb' : Bytes wr.drew 0 wr.drew.heap.size (.slice (some ⟨g, 0, none⟩) k k) xs := hxb.more (Nat.zero_le _) hrow.lt
      have HXB := Lib.hid hxb'
      have pa := Ha.out.pre k hna
      have pb := Hb.out.pre k hnb
      have pc := Hc.out.pre k hnc
      have sa := fun (W : World) => run_pre aa la.length ca k (by omega) (aft w W)
      have sb := fun (W : World) => run_pre ab lb.length cb k (by omega) (aft w W)
      have sc := fun (W : World) => run_pre ac lc.length cc k (by omega) (aft w W)
      have hxe := HC.out
      have hze : crc (la.take k) ^^^ crc (lb.take k) ^^^ crc (lc.take k) = crc xs := hxe.symm
      have HZ := Lib.hid hze
      have e1 := xor_u32 (crc (la.take k)) (crc (lb.take k))
      have e2 := xor_u32 (crc (la.take k) ^^^ crc (lb.take k)) (crc (lc.take k))
      rw [hze] at e2
      have HP := Lib.hid (And.intro pa (And.intro pb pc))
      clear hrow hbr hfx hxb hxb' pa pb pc hxe hze HZ HX HC HA
      generalize hla : la.take k = ta at *
      generalize hlb : lb.take k = tb at *
      generalize hlc : lc.take k = tc at *
      clear hla hlb hlc
      generalize crc ta ^^^ crc tb = rab at *
      go_wp2_with fail
      have hst := hbw.drew
      refine wp_region_held_drew (S := Cls w) (by kernel_rfl) (Cls.of hbw.drew) (fun hCl => ?_)
      refine wpAnyH_seg (fuel := 9) (by kernel_rfl) (fun _ d _ _ _ h => by cases d <;> exact h) hCl [0, 1, 2, 4, 5, 6, 8, 9, 10, 13, 14, 15] _ _ _ (by kernel_rfl) (by kernel_rfl) ?_
      simp only [opsOf_cons, opsOf_nil, consOp_some, List.getElem?_toArray, List.getElem?_cons_succ, List.getElem?_cons_zero]
      repeat (first | go_big_quiet_step (fail) | quiet_step (fail))
      refine wpQuiet_nil ?_
      refine wpAnyH_each (fuel := 8) [3] (by kernel_rfl) (by simp) (by kernel_rfl) ?_
      refine Each.cons _ rfl (fun K' hK => ?_) Each.nil
      go_simp
      refine (of_any _ xs _ (HXB.out)).mono ?_
      rintro e y1 ⟨rfl, hz⟩
      replace hst := below_step hbw.drew hbw.size hz
      clear hz
      unfold u32v
      have hCl := Cls.of hst
      refine hK.out (Cls w) (fun _ h => h) hCl ?_
      clear hK K'
      refine wpAnyH_each (fuel := 7) [7] (by kernel_rfl) (by simp) (by kernel_rfl) ?_
      refine Each.cons _ rfl (fun K' hK => ?_) Each.nil
      go_simp
      refine (of_any _ ta _ ((HP.out.1.below hst (Nat.le_refl _)).more (Nat.le_refl _) hst.size)).mono ?_
      rintro e y2 ⟨rfl, hz⟩
      replace hst := below_step hst hst.size hz
      clear hz
      unfold u32v
      have hCl := Cls.of hst
      refine hK.out (Cls w) (fun _ h => h) hCl ?_
      clear hK K'
      refine wpAnyH_each (fuel := 6) [11] (by kernel_rfl) (by simp) (by kernel_rfl) ?_
      refine Each.cons _ rfl (fun K' hK => ?_) Each.nil
      go_simp
      refine (of_any _ tb _ ((HP.out.2.1.below hst (Nat.le_refl _)).more (Nat.le_refl _) hst.size)).mono ?_
      rintro e y3 ⟨rfl, hz⟩
      replace hst := below_step hst hst.size hz
      clear hz
      unfold u32v
      have hCl := Cls.of hst
      refine hK.out (Cls w) (fun _ h => h) hCl ?_
      clear hK K'
      refine wpAnyH_seg (fuel := 5) (by kernel_rfl) (fun _ d _ _ _ h => by cases d <;> exact h) hCl [12] _ _ _ (by kernel_rfl) (by kernel_rfl) ?_
      simp only [opsOf_cons, opsOf_nil, consOp_some, List.getElem?_toArray, List.getElem?_cons_succ, List.getElem?_cons_zero]
      repeat (first | go_big_quiet_step (fail) | quiet_step (fail))
      refine wpQuiet_nil ?_
      refine wpAnyH_each (fuel := 4) [16] (by kernel_rfl) (by simp) (by kernel_rfl) ?_
      refine Each.cons _ rfl (fun K' hK => ?_) Each.nil
      go_simp
      refine (of_any _ tc _ ((HP.out.2.2.below hst (Nat.le_refl _)).more (Nat.le_refl _) hst.size)).mono ?_
      rintro e y4 ⟨rfl, hz⟩
      replace hst := below_step hst hst.size hz
      clear hz
      unfold u32v
      have hCl := Cls.of hst
      refine hK.out (Cls w) (fun _ h => h) hCl ?_
      clear hK K'
      refine wpAnyH_seg (fuel := 0) (by kernel_rfl) (fun _ d _ _ _ h => by cases d <;> exact h) hCl [17, 18, 19, 20] _ _ _ (by kernel_rfl) (by kernel_rfl) ?_
      simp only [opsOf_cons, opsOf_nil, consOp_some, List.getElem?_toArray, List.getElem?_cons_succ, List.getElem?_cons_zero]
      repeat (first | go_big_quiet_step (fail) | quiet_step (fail))
      refine wpQuiet_nil ?_
      refine wpAnyH_done (by kernel_rfl) ?_ _
      go_wp2
      go_ret
      exact ⟨rfl, hst⟩
end Go.Proofs.Ytahpiffahjmfnaa
