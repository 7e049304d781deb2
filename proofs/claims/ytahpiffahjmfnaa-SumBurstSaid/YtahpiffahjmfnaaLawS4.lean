/- The walk of the statement SumBurst. -/
import Derived.Test.YtahpiffahjmfnaaSumP
import Derived.Test.YtahpiffahjmfnaaLawS1
import Derived.Test.YtahpiffahjmfnaaOpn
import Derived.StillTailTactics
import Derived.Deep.DeepCutAuto
namespace Go.Proofs.Ytahpiffahjmfnaa
open Go.RowKit

def burst (S : List UInt8) (a : Nat) (ys : List UInt8) : Nat → List UInt8
  | 0 => S
  | n + 1 => (burst S a ys n).set (a + n) (S.getD (a + n) 0 ^^^ ys.getD n 0)
theorem burst_length (S : List UInt8) (a : Nat) (ys : List UInt8) : ∀ n, (burst S a ys n).length = S.length
  | 0 => rfl
  | n + 1 => by simp [burst, burst_length S a ys n]
theorem burst_out (S : List UInt8) (a : Nat) (ys : List UInt8) (j : Nat) : ∀ n, (j < a ∨ a + n ≤ j) → (burst S a ys n)[j]? = S[j]?
  | 0, _ => rfl
  | n + 1, h => by rw [burst, List.getElem?_set_ne (by omega), burst_out S a ys j n (by omega)]
theorem burst_in (S : List UInt8) (a : Nat) (ys : List UInt8) (i : Nat) : ∀ n, i < n → a + n ≤ S.length → (burst S a ys n)[a + i]? = some (S.getD (a + i) 0 ^^^ ys.getD i 0)
  | 0, h, _ => by omega
  | n + 1, h, ha => by
    rw [burst]
    by_cases e : i = n
    · subst e; rw [List.getElem?_set_self (by rw [burst_length]; omega)]
    · rw [List.getElem?_set_ne (by omega), burst_in S a ys i n (by omega) (by omega)]
theorem xor_self_ne {x y : UInt8} (h : y ≠ 0) : x ^^^ y ≠ x := by
  intro e
  exact h (by have := congrArg (fun z => x ^^^ z) e; simpa [← UInt8.xor_assoc] using this)
theorem burst_bad (b : List UInt8) (h : b.length ≤ 124) (a : Nat) (ha : a = 0 ∨ 4 ≤ a) (ha2 : a ≤ 124) (ys : List UInt8) (i : Nat) (hi : i < 4) (hy : ys.getD i 0 ≠ 0) :
    openE (burst (sealL b) a ys 4) = 8 ∧ openL (burst (sealL b) a ys 4) = [] := by
  have hl := sealL_length b h
  refine openE_turned _ (by rw [burst_length, hl]) ?_
  refine turned_bad _ _ hl (by rw [burst_length, hl]) (seal_opens b h) ?_ a ha2 ha (fun j hj => (burst_out _ _ _ _ 4 hj).symm)
  intro he
  have h1 := burst_in (sealL b) a ys i 4 hi (by omega)
  rw [← he] at h1
  have h2 : (sealL b).getD (a + i) 0 = (sealL b)[a + i]'(by omega) := by simp [List.getD, show a + i < (sealL b).length by omega]
  rw [List.getElem?_eq_getElem (by omega), h2] at h1
  injection h1 with h1
  exact xor_self_ne hy h1.symm

theorem run_eql_arr4' {P : Program} {t e : TypeId} (n : Nat) (ht : P.underlying t = some (.array 4 e)) (he : P.underlying e = some (.int .u8)) (hs : ∀ w, (sizeOf e).run P w = .ok 1 w) (ha : ∀ w, (isAgg e).run P w = .ok false w) (w : World) (a b c d a' b' c' d' : Int) :
    (Op.equalIn (n + 2) t (.agg #[.int .u8 a, .int .u8 b, .int .u8 c, .int .u8 d]) (.agg #[.int .u8 a', .int .u8 b', .int .u8 c', .int .u8 d'])).run P w = .ok (a == a' && b == b' && c == c' && d == d') w := by
  have hi := fun (w : World) (x y : Int) => run_equalIn_int (P := P) w n e .u8 .u8 x y he
  rw [Op.equalIn]
  have r4 : List.range' 0 4 = [0, 1, 2, 3] := rfl
  simp only [Sem.run_bind, run_underlying ht, Result.andThen_ok, hs, part]
  simp [r4, List.forIn_cons, ha, hi]
  cases h0 : a == a' <;> cases h1 : b == b' <;> cases h2 : c == c' <;> cases h3 : d == d' <;> simp_all
theorem zero4 (y0 y1 y2 y3 : UInt8) (h : ¬ (y0 = 0 ∧ y1 = 0 ∧ y2 = 0 ∧ y3 = 0)) : ((y0.toNat : Int) == 0 && (y1.toNat : Int) == 0 && (y2.toNat : Int) == 0 && (y3.toNat : Int) == 0) = false := by
  have e : ∀ y : UInt8, ((y.toNat : Int) == 0) = decide (y = 0) := fun y => by
    rw [Bool.eq_iff_iff]
    simp only [beq_iff_eq, decide_eq_true_eq]
    exact ⟨fun h => UInt8.toNat_inj.1 (by simpa using h), fun h => by subst h; rfl⟩
  simp only [e]
  simp only [Bool.and_eq_false_iff, decide_eq_false_iff_not]
  by_cases h0 : y0 = 0 <;> by_cases h1 : y1 = 0 <;> by_cases h2 : y2 = 0 <;> by_cases h3 : y3 = 0 <;> simp_all

set_option maxHeartbeats 400000 in
set_option maxRecDepth 100000 in
theorem sumBurst_walk (v : Value) (l : List UInt8) (at_ : Int) (vy : Value) (ys : List UInt8) (w : World) (hv : Bytes w 0 w.heap.size v l) (_wa : (Lit.int .i64 at_).wf = true) (hy : vy = .agg (ys.map bV).toArray ∧ ys.length = 4) :
    Calls Try.prog 13 #[v, .int .i64 at_, vy] w fun e w' => e = .returned (.bool true) ∧ Below w.heap.size w w' := by
  obtain ⟨rfl, hyl⟩ := hy
  have hB0 := (Below.refl w.heap.size w).alloc (Nat.le_refl _) (.cells (ys.map bV).toArray 49)
  have hv0 := hv.step hB0
  obtain ⟨y0, y1, y2, y3, rfl⟩ : ∃ y0 y1 y2 y3, ys = [y0, y1, y2, y3] := by
    match ys, hyl with
    | [y0, y1, y2, y3], _ => exact ⟨_, _, _, _, rfl⟩
  have heq := fun (w : World) => run_eql_arr4' (P := Try.prog) 9998 Try.underlying49 Try.underlying5 Try.sizeOf5 Try.isAgg5 w y0.toNat y1.toNat y2.toNat y3.toNat 0 0 0 0
  simp only [Nat.reduceAdd] at heq
  have hgd : Try.prog.eqGuardType Try.prog.depth 49 = false := by kernel_rfl
  simp only [List.map_cons, List.map_nil, bV] at hv0 hB0 ⊢
  by_cases hl : 124 < l.length
  · have hno := seal_no v l
    obtain ⟨a, c, rfl, g1, g2, _, _⟩ := id hv
    have Hno := Lib.hid hno
    clear hno
    go_enter Try.func13, Try.ntmps13
    go_wp2_with fail
    refine (alive2 _).mono ?_
    rintro e w1 ⟨rfl, hb1⟩
    have hB1 := below_step hB0 hB0.size hb1
    have hv1 := hv0.step hb1
    go_wp2_with fail
    refine (Hno.out w1 hv1 (by omega)).mono ?_
    rintro e w2 ⟨rfl, rfl⟩
    go_wp2
    go_ret
    exact ⟨rfl, hB1⟩
  have hl' : l.length ≤ 124 := by omega
  have hseal := fun w1 h => seal_yes v l w1 h hl'
  obtain ⟨a, c, rfl, g1, g2, _, _⟩ := id hv
  have Hs := Lib.hid hseal
  have Hsl := Lib.hid (sealL_length l hl')
  clear hseal
  go_enter Try.func13, Try.ntmps13
  go_wp2_with fail
  refine (alive2 _).mono ?_
  rintro e w1 ⟨rfl, hb1⟩
  have hB1 := below_step hB0 hB0.size hb1
  have hv1 := hv0.step hb1
  go_wp2_with fail
  refine (Hs.out w1 hv1).mono ?_
  rintro e w2 ⟨p, rfl, hm⟩
  have hB2 := below_step hB1 hB1.size hm.below
  obtain ⟨pb, po, pc, rfl, q0, q1, q2, q3, q4⟩ := hm.bytes.at_n Hsl.out (by omega)
  have hby : ∀ i y, [y0, y1, y2, y3][i]? = some y → w2.cell? ⟨w.heap.size, i, none⟩ = some (bV y) := by
    intro i y h
    have h1 : ∀ W, Below (w.alloc (.cells ([y0, y1, y2, y3].map bV).toArray 49)).heap.size (w.alloc (.cells ([y0, y1, y2, y3].map bV).toArray 49)) W → W.cell? ⟨w.heap.size, i, none⟩ = some (bV y) := fun W hW => by
      rw [hW.cell (p := ⟨w.heap.size, i, none⟩) (by simp), World.cell?_alloc_new, List.getElem?_toArray, List.getElem?_map, h]
      rfl
    exact h1 _ (below_step hb1 hb1.size hm.below)
  have Hm := Lib.hid hm
  have Hby := Lib.hid hby
  have b0 := hby 0 y0 rfl
  have b1 := hby 1 y1 rfl
  have b2 := hby 2 y2 rfl
  have b3 := hby 3 y3 rfl
  simp only [bV] at b0 b1 b2 b3
  clear hm hby q4 hv hv0 hv1
  by_cases c1 : at_ < 0
  · go_wp2
    go_ret
    exact ⟨rfl, hB2⟩
  by_cases c2 : 124 < at_
  · go_wp2
    go_ret
    exact ⟨rfl, hB2⟩
  by_cases c34 : 0 < at_ ∧ at_ < 4
  · obtain ⟨c3, c4⟩ := c34
    go_wp2
    go_ret
    exact ⟨rfl, hB2⟩
  by_cases c5 : y0 = 0 ∧ y1 = 0 ∧ y2 = 0 ∧ y3 = 0
  · have ht : ((y0.toNat : Int) == 0 && (y1.toNat : Int) == 0 && (y2.toNat : Int) == 0 && (y3.toNat : Int) == 0) = true := by simp [c5]
    rw [ht] at heq
    clear ht c5
    by_cases c3 : 0 < at_
    · have c4 : ¬ at_ < 4 := by omega
      go_wp2
      go_ret
      exact ⟨rfl, hB2⟩
    · go_wp2
      go_ret
      exact ⟨rfl, hB2⟩
  rw [zero4 y0 y1 y2 y3 c5] at heq
  go_upto_region 3 with (fail)
  go_cut [41] (fun v wx => v = .bool false ∧ wx = w2)
  case first =>
    by_cases c3 : 0 < at_
    · have c4 : ¬ at_ < 4 := by omega
      go_wp2
      go_meet
      exact ⟨by rw [decide_eq_false (by omega : ¬ at_ < 0), decide_eq_false (by omega : ¬ 124 < at_)]; rfl, rfl⟩
    · go_wp2
      go_meet
      exact ⟨by rw [decide_eq_false (by omega : ¬ at_ < 0), decide_eq_false (by omega : ¬ 124 < at_)]; rfl, rfl⟩
  case rest =>
  obtain ⟨rfl, rfl⟩ := hcut
  obtain ⟨k, rfl⟩ := Int.eq_ofNat_of_zero_le (show 0 ≤ at_ by omega)
  have hk : k ≤ 124 := by omega
  have hk2 : k = 0 ∨ 4 ≤ k := by omega
  have Hk2 := Lib.hid hk2
  have Hc5 := Lib.hid c5
  clear c5 c34 hk2 c1 c2 heq hgd
  go_wp2_with fail
  have hsl := Hsl.out
  have HBy := Lib.hid Hm
  unfold maxLen at q3
  have hpw : w.heap.size < pb := by have := hb1.size; simp at this; omega
  have hwp : w.heap.size ≤ pb := by omega
  have hp0 := Hm.out.bytes.all0
  have ht0 := Hm.out.thawed
  have hby0 := Hby.out
  have Hys : Hid ([y0, y1, y2, y3].length = 4) := Lib.hid hyl
  have hbad := fun i hi hy => burst_bad l hl' k Hk2.out hk [y0, y1, y2, y3] i hi hy
  have Hbad := Lib.hid hbad
  clear hbad
  generalize sealL l = S at *
  clear hsl HBy hB0 hb1 hB1 Hs Hby b0 b1 b2 b3 Hm hyl q0 q1
  go_loopw [10] (fun i wr => ∃ n : Nat, n ≤ 4 ∧ i = .int .i64 n ∧ Bytes wr 0 wr.heap.size (.slice (some ⟨pb, po, none⟩) 128 pc) (burst S k [y0, y1, y2, y3] n) ∧ Thawed wr (.slice (some ⟨pb, po, none⟩) 128 pc) ∧
      Below w.heap.size w wr ∧ (∀ (i : Nat) (y : UInt8), [y0, y1, y2, y3][i]? = some y → wr.cell? ⟨w.heap.size, i, none⟩ = some (bV y))) (fun i _ => 4 - (intOf i).toNat)
  case atStart => exact ⟨0, by omega, rfl, hp0, ht0, hB2, hby0⟩
  case round =>
    clear hp0 ht0 hby0 hB2
    obtain ⟨n, hn, rfl, hp, ht, hB, hby⟩ := hrel
    by_cases hlt : n < 4
    · obtain ⟨y, hy⟩ : ∃ y, [y0, y1, y2, y3][n]? = some y := ⟨[y0, y1, y2, y3][n]'(by rw [Hys.out]; exact hlt), by simp⟩
      have hx : (burst S k [y0, y1, y2, y3] n)[k + n]? = some (S.getD (k + n) 0) := by
        rw [burst_out _ _ _ _ n (by omega), List.getElem?_eq_getElem (by rw [Hsl.out]; omega)]
        simp [List.getD, show k + n < S.length by rw [Hsl.out]; omega]
      have hl2 : k + n < (burst S k [y0, y1, y2, y3] n).length := by rw [burst_length, Hsl.out]; omega
      have hsucc : (burst S k [y0, y1, y2, y3] n).set (k + n) (S.getD (k + n) 0 ^^^ y) = burst S k [y0, y1, y2, y3] (n + 1) := by
        rw [burst]
        congr 2
        simp [List.getD, hy]
      have HS := Lib.hid hsucc
      generalize S.getD (k + n) 0 = x at *
      have hcell := hp.cellAt (k + n) x hx
      have hfz := ht _ _ _ _ rfl (k + n) (by omega)
      have hyc := hby n y hy
      have hset := hp.set (k + n) (x ^^^ y) hl2
      have htset := ht.set ⟨pb, po + (k + n), none⟩ (bV (x ^^^ y))
      have hxy := xor_u8 x y
      rw [HS.out] at hset
      generalize x ^^^ y = z at *
      have HP := Lib.hid (And.intro hset (And.intro htset (And.intro hB hby)))
      simp only [bV] at hcell hyc
      have e1 : IntKind.i64.wrap ((k : Int) + n) = (k : Int) + n := IntWalk.i64_in _ (by omega)
      have e2 : (0 : Int) ≤ (k : Int) + n := by omega
      have e3 : (k : Int) + n < 128 := by omega
      have e4 : ((k : Int) + n).toNat = k + n := by omega
      have e5 : (n : Int) < 4 := by omega
      clear hsucc hx hl2 hy hset htset hB hby hp ht
      go_wp2_with fail
      go_still_tail 15, (by kernel_rfl)
      go_wp2
      go_roundw
      case rel =>
        obtain ⟨hset, htset, hB, hby⟩ := HP.out
        refine ⟨n + 1, by omega, by go_num, hset.more (Nat.le_refl _) (by simp), htset, (hB.drew).setCell (p := ⟨pb, po + (k + n), none⟩) hwp _, fun i y hy => ?_⟩
        show (wr.setCell ⟨pb, po + (k + n), none⟩ (bV z)).cell? _ = _
        rw [World.cell?_setCell_other _ _ _ _ (by intro h; injection h; omega)]
        exact hby i y hy
      case measure => simp [intOf]; omega
    · obtain rfl : n = 4 := by omega
      have hbad : openE (burst S k [y0, y1, y2, y3] 4) = 8 ∧ openL (burst S k [y0, y1, y2, y3] 4) = [] := by
        have := Hc5.out
        by_cases h0 : y0 = 0
        · by_cases h1 : y1 = 0
          · by_cases h2 : y2 = 0
            · by_cases h3 : y3 = 0
              · exact absurd ⟨h0, h1, h2, h3⟩ this
              · exact Hbad.out 3 (by decide) h3
            · exact Hbad.out 2 (by decide) h2
          · exact Hbad.out 1 (by decide) h1
        · exact Hbad.out 0 (by decide) h0
      have hopen := open_any _ _ _ hp
      rw [hbad.1, hbad.2] at hopen
      have Ho := Lib.hid hopen
      clear hbad hopen hp ht hby
      go_wp2_with fail
      refine Ho.out.mono ?_
      rintro e w5 ⟨u, rfl, hm5⟩
      go_wp2
      go_ret
      exact ⟨rfl, below_step hB hB.size hm5.below⟩
end Go.Proofs.Ytahpiffahjmfnaa
