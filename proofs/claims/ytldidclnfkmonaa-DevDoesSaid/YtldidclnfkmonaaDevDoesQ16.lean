/- DevDoes: the words and contracts, part 16. -/
import Derived.Test.YtldidclnfkmonaaDevDoesQ1
import Derived.Test.YtldidclnfkmonaaDevDoesQ2
import Derived.Test.YtldidclnfkmonaaDevDoesQ3
import Derived.Test.YtldidclnfkmonaaDevDoesQ4
import Derived.Test.YtldidclnfkmonaaDevDoesQ5
import Derived.Test.YtldidclnfkmonaaDevDoesQ6
import Derived.Test.YtldidclnfkmonaaDevDoesQ7
import Derived.Test.YtldidclnfkmonaaDevDoesQ8
import Derived.Test.YtldidclnfkmonaaDevDoesQ9
import Derived.Test.YtldidclnfkmonaaDevDoesQ10
import Derived.Test.YtldidclnfkmonaaDevDoesQ11
import Derived.Test.YtldidclnfkmonaaDevDoesQ12
import Derived.Test.YtldidclnfkmonaaDevDoesQ13
import Derived.Test.YtldidclnfkmonaaDevDoesQ14
import Derived.Test.YtldidclnfkmonaaDevDoesQ15
import Derived.WalkKit
import Derived.WalkLawsBesides
import Derived.WalkSpells
import Derived.Lib.Hide
import Derived.Laws.Rows
import Derived.Laws.AppendOwnNone
import Derived.Maps.AppendAt
import Derived.RangeFuncNested
import Derived.RangeFuncBound
import Derived.RangeFuncCalls
import Derived.RangeFuncLeaves
import Derived.RangeFuncBox
import Derived.Shelf.Abstract
import Derived.Shelf.RegionOpen
import Derived.OwnWalkIn
import Derived.TacticsInMore
import Derived.LoopNIn
import Derived.LoopIn
import Derived.ProofKit
import Derived.Deep.Slices
import Derived.WideShapes
import Derived.OrdersHeld
import Derived.Deep.QuietTactic
import Derived.BigQuiet
import Derived.StillTailTactics
import Derived.OpenShut
import Derived.Lib.SliceRun
import Derived.Lib.AppendZerosOnto
import Derived.Lib.Walk
import Derived.Deep.LoopGhost
import Derived.Laws.CopyOwn
import Derived.Deep.DeepCutAuto
import Derived.Laws.CopyRow
import Derived.Laws.MakeOwn
import Derived.Deep.RegionHeld
namespace Go.Proofs.Ytldidclnfkmonaa
open Go.RowKit

theorem row_bytesB {base : Nat} {T : TypeId} {lo : Nat} {S : Nat → Bool} {wr w0 : World} {v : Value} {kl : List (List UInt8)} {x : List UInt8} (h : OwnR rBytes base T lo S wr v kl) (hS : ∀ k, wr.heap.size ≤ k → S k = false) (h0 : w0.heap = wr.heap)
    (hlo : lo ≤ wr.heap.size) (hx : x.length ≤ maxLen) (n : Nat) (hn : x.length = n) (T1 T2 : TypeId) (cs : Array Value) (hcs : cs = (x.map bV).toArray) :
    OwnR rBytes base T lo S ((w0.alloc (.cells cs T1)).alloc (.cells #[.slice (some ⟨w0.heap.size, 0, none⟩) n n] T2)) v kl ∧ ∀ j y, [x][j]? = some y → rBytes.R (hideW ((w0.alloc (.cells cs T1)).alloc (.cells #[.slice (some ⟨w0.heap.size, 0, none⟩) n n] T2)) (andOwn S v)) lo ((w0.alloc (.cells cs T1)).alloc (.cells #[.slice (some ⟨w0.heap.size, 0, none⟩) n n] T2)).heap.size y (fun i => [(.slice (some ⟨w0.heap.size, 0, none⟩) n n : Value)][j * rBytes.n + i]?) := by
  subst hcs hn
  exact row_bytes1 h hS h0 ((Below.refl _ _).alloc (Nat.le_refl _) _) ((Bytes.new w0 T1 x hx (0, 0)).more (Nat.le_refl _) (by simp)) hlo T2

set_option maxRecDepth 100000 in
set_option maxHeartbeats 2000000 in
/-- The reference's New. -/
theorem rdnew_any (w : World) :
    Calls Try.prog 46 #[] w fun e w' => ∃ b' u', e = .returned (.agg #[b', u']) ∧ GotD w w' b' u' newD := by
  have hB : Below w.heap.size w ((w.alloc (.cells #[.slice none 0 0, .slice none 0 0] 39)).alloc (.cells #[.slice none 0 0, .slice none 0 0] 39)) := ((Below.refl w.heap.size w).alloc (Nat.le_refl _) _).alloc (by simp) _
  have hq := two_new w (.cells #[.slice none 0 0, .slice none 0 0] 39) (.cells #[.slice none 0 0, .slice none 0 0] 39)
  have hsW : ((w.alloc (.cells #[.slice none 0 0, .slice none 0 0] 39)).alloc (.cells #[.slice none 0 0, .slice none 0 0] 39)).heap.size = w.heap.size + 2 := by simp
  obtain ⟨W, hW⟩ : ∃ W, (w.alloc (.cells #[.slice none 0 0, .slice none 0 0] 39)).alloc (.cells #[.slice none 0 0, .slice none 0 0] 39) = W := ⟨_, rfl⟩
  rw [hW] at hB hq hsW
  have HWS := Lib.hid hsW
  have HQ := Lib.hid (And.intro hB hq)
  have HWE := Lib.hid hW
  clear hB hq hW hsW
  have hmk : ∀ X : World, (Instr.makeSlice 28 (.int .i64 128) (.int .i64 128)).run Try.prog X = .ok (.slice (some ⟨X.heap.size, 0, none⟩) 128 128) (X.alloc (.cells (madeCells #[.int .u8 0] 128) 5)) := fun X => run_makeN (P := Try.prog) 28 5 (.int .u8 0) #[.int .u8 0] 1 1 Try.underlying28 (by kernel_rfl) rfl 128 128 128 rfl (by decide) (by decide) (by decide) X
  have hz : madeCells #[.int .u8 0] 128 = ((List.replicate 128 (0 : UInt8)).map bV).toArray := by kernel_rfl
  obtain ⟨zx, hzx⟩ : ∃ zx : List UInt8, List.replicate 128 0 = zx := ⟨_, rfl⟩
  rw [hzx] at hz
  generalize madeCells #[.int .u8 0] 128 = Z at *
  have HZX := Lib.hid (And.intro hzx (And.intro hz (show zx.length = 128 by rw [← hzx]; simp)))
  clear hz hzx
  go_enter Try.func46, Try.ntmps46
  go_upto_region 2 with (fail)
  rw [HWE.out]
  clear HWE
  go_wp2_with fail
  go_loopw [2] (fun i wr => ∃ (k : Nat) (a5 : Option Addr) (c5 : Nat), k ≤ 256 ∧ i = .int .i64 k ∧ wr.heap[w.heap.size + 1]? = some (.cells #[.slice a5 (List.replicate k zx).length c5, .slice none 0 0] 39 (0, 0)) ∧
    OwnR rBytes W.heap.size 28 W.heap.size (boxS w.heap.size 2) wr (.slice a5 (List.replicate k zx).length c5) (List.replicate k zx) ∧ (∀ j, j < W.heap.size → j ≠ w.heap.size + 1 → wr.heap[j]? = W.heap[j]?) ∧ W.heap.size ≤ wr.heap.size ∧ Below w.heap.size w wr) (fun i _ => 256 - (intOf i).toNat)
  case atStart => exact ⟨0, none, 0, Nat.zero_le _, rfl, HQ.out.2.2, OwnR.nil_ _ _ _ _ _ _, fun _ _ _ => rfl, Nat.le_refl _, HQ.out.1⟩
  case round =>
  obtain ⟨k, a5, c5, hk, rfl, q5, hown, hsame, hsz, hBw⟩ := hrel
  have hkt : List.replicate (k + 1) zx = List.replicate k zx ++ [zx] := List.replicate_succ'
  have hkll : (List.replicate k zx).length ≤ 256 := by rw [List.length_replicate]; exact hk
  obtain ⟨kl, hkl⟩ : ∃ kl, List.replicate k zx = kl := ⟨_, rfl⟩
  rw [hkl] at q5 hown hkt hkll
  have m0 := blk_cell q5 0
  have m1 := blk_cell q5 1
  simp at m0 m1
  by_cases hlt : k < 256
  · obtain ⟨Pr, hPr⟩ : ∃ Pr : World → Prop, ∀ X, Pr X ↔ ∀ j, j < W.heap.size → X.heap[j]? = wr.heap[j]? := ⟨_, fun _ => Iff.rfl⟩
    have hp0 : Pr wr.drew := (hPr _).2 (fun _ _ => rfl)
    have hS0 : ∀ k, wr.heap.size ≤ k → boxS w.heap.size 2 k = false := fun k hk => boxS_no (by have := HWS.out; omega)
    have x1 := fun X => (blk_cell (((hPr _).1 (selW_pr hp0 X) (w.heap.size + 1) (by have := HWS.out; omega)).trans q5) 0)
    simp at x1
    have HP := Lib.hid (And.intro q5 (And.intro hsame (And.intro hsz (And.intro hBw (And.intro hkt (And.intro hkl (And.intro hown hS0)))))))
    clear q5 hown hsame hsz hBw hkt hkl hS0
    go_wp2_with fail
    refine wp_region_L (S := Kl Pr wr.drew) 6 (by kernel_rfl) (Kl.of hp0) (fun hCl => ?_)
    refine wpAnyL_seg (fuel := 5) (by kernel_rfl) (fun _ d _ _ _ h => by cases d <;> exact h) hCl [0, 1] _ _ _ (by kernel_rfl) (by kernel_rfl) (by kernel_rfl) (by kernel_rfl) ?_
    simp only [opsOf_cons, opsOf_nil, consOp_some, List.getElem?_toArray, List.getElem?_cons_succ, List.getElem?_cons_zero]
    repeat (first | go_big_quiet_step (fail) | quiet_step (fail))
    refine wpQuiet_nil ?_
    refine wpAnyL_each (fuel := 4) [2] (by kernel_rfl) (by simp) (by kernel_rfl) ?_
    refine EachL.cons _ rfl (fun K' hK => ?_) EachL.nil
    go_simp
    have hst : Pr (wr.drew.alloc (.cells Z 5)) := (hPr _).2 (fun j hj => Below.heap_alloc wr.drew _ j (Nat.lt_of_lt_of_le hj HP.out.2.2.1))
    have HST1 := Lib.hid hst
    have hCl : Kl Pr wr.drew _ := Kl.of hst
    refine hK.out (.inr hCl) ?_
    clear hK K'
    refine wpAnyL_each (fuel := 3) [3] (by kernel_rfl) (by simp) (by kernel_rfl) ?_
    refine EachL.cons _ rfl (fun K' hK => ?_) EachL.nil
    go_simp
    have hst : Pr ((wr.drew.alloc (.cells Z 5)).alloc (.cells #[.slice (some ⟨wr.heap.size, 0, none⟩) 128 128] 28)) := (hPr _).2 (fun j hj => (Below.heap_alloc _ _ j (by simp; exact Nat.lt_succ_of_lt (Nat.lt_of_lt_of_le hj HP.out.2.2.1))).trans ((hPr _).1 HST1.out j hj))
    have HST2 := Lib.hid hst
    have hCl : Kl Pr wr.drew _ := Kl.of hst
    refine hK.out (.inr hCl) ?_
    clear hK K'
    refine wpAnyL_each (fuel := 2) [4] (by kernel_rfl) (by simp) (by kernel_rfl) ?_
    refine EachL.cons _ rfl (fun K' hK => ?_) EachL.nil
    refine if_yes (by kernel_rfl) ?_
    obtain ⟨hra, hrb⟩ := row_bytesB (w0 := wr.drew) (x := zx) (T1 := 5) (T2 := 28) HP.out.2.2.2.2.2.2.1 HP.out.2.2.2.2.2.2.2 rfl HP.out.2.2.1 (by rw [HZX.out.2.2]; decide) 128 HZX.out.2.2 Z HZX.out.2.1
    refine wp_appR rBytes_ck (.tmp 8) (.tmp 10) 36 rfl 28 (.slice none 0 0) 24 Try.underlying36 (by kernel_rfl) rfl (by decide) W.heap.size W.heap.size (boxS w.heap.size 2) _ kl [zx] rfl hra (fun k hk => HP.out.2.2.2.2.2.2.2 k (Nat.le_trans (by simp; omega) hk)) ⟨wr.heap.size + 1, 0, none⟩ 1 [.slice (some ⟨wr.heap.size, 0, none⟩) 128 128] rfl rfl (fun j u hu => by have := news_one (w := wr.drew.alloc (.cells Z 5)) #[.slice (some ⟨wr.heap.size, 0, none⟩) 128 128] 28 j u hu; rw [World.size_alloc] at this; exact this) (by intro u hu; simp at hu; rcases hu with rfl; rfl) hrb (by show kl.length + 1 ≤ 1000000; omega) (by decide) (Nat.le_trans HP.out.2.2.1 (by simp; omega)) ?_
    intro a4 c4 z2 hown4 hB4 _hf4
    have hst : Pr z2 := (hPr _).2 (fun j hj => (hB4.block j hj).trans ((hPr _).1 HST2.out j hj))
    rw [show (kl ++ [zx]).length = kl.length + 1 by simp] at hown4 ⊢
    have k5 := ((hPr _).1 hst (w.heap.size + 1) (by have := HWS.out; omega)).trans HP.out.1
    have j1 := blk_cell k5 0
    have jf := blk_frozen k5 0
    simp at j1
    have HO := Lib.hid (And.intro hown4 (And.intro hB4 k5))
    clear hown4 hB4 k5 hra hrb _hf4
    have hCl : Kl Pr wr.drew _ := Kl.of hst
    refine hK.out (.inr hCl) ?_
    clear hK K'
    refine wpAnyL_seg (fuel := 1) (by kernel_rfl) (fun _ d _ _ _ h => by cases d <;> exact h) hCl [5] _ _ _ (by kernel_rfl) (by kernel_rfl) (by kernel_rfl) (by kernel_rfl) ?_
    simp only [opsOf_cons, opsOf_nil, consOp_some, List.getElem?_toArray, List.getElem?_cons_succ, List.getElem?_cons_zero]
    repeat (first | go_big_quiet_step (fail) | quiet_step (fail))
    refine wpQuiet_nil ?_
    refine wpAnyL_each (fuel := 0) [6] (by kernel_rfl) (by simp) (by kernel_rfl) ?_
    refine EachL.cons _ rfl (fun K' hK => ?_) EachL.nil
    go_simp
    refine hK.out (.inl rfl) ?_
    clear hK K'
    refine wpAnyL_done (by kernel_rfl) ?_ _
    go_wp2
    go_roundw
    case rel =>
      obtain ⟨hown4, hB4, k5⟩ := HO.out
      obtain ⟨q5, hsame, hsz, hBw, hkt, hkl, hown, hS0⟩ := HP.out
      have hs := set_other z2 (w.heap.size + 1) 0 (.slice a4 (kl.length + 1) c4)
      have hst2 := (hPr _).1 hst
      have hl : (kl ++ [zx]).length = kl.length + 1 := by simp
      refine ⟨k + 1, a4, c4, by omega, by go_num, ?_, ?_, fun j h1 h2 => (hs j h2).trans ((hst2 j h1).trans (hsame j h1 h2)), ?_, ?_⟩
      · rw [hkt, hl]
        exact set_block k5 0 _
      · rw [hkt, hl]
        exact hown4.setS rBytes_ck ⟨w.heap.size + 1, 0, none⟩ _ (boxS_yes (by show w.heap.size ≤ w.heap.size + 1; omega) (by show w.heap.size + 1 < w.heap.size + 2; omega))
      · rw [World.size_setCell]
        exact Nat.le_trans hsz (Nat.le_trans (by simp; omega) hB4.size)
      · exact (((hBw.drew.alloc (by exact hBw.size) _).alloc (by simp; have := hBw.size; omega) _).trans (hB4.mono HQ.out.1.size)).setCell (p := ⟨w.heap.size + 1, 0, none⟩) (by show w.heap.size ≤ w.heap.size + 1; omega) _
    case measure => simp [intOf]; omega
  obtain rfl : k = 256 := by omega
  have hwl := hown.sl rBytes_ck (lo' := W.heap.size) (Nat.le_refl _) (Nat.le_refl _)
  have q1 := (hsame w.heap.size (by have := HWS.out; omega) (by omega)).trans HQ.out.2.1
  have r0 := blk_cell q1 0
  have r1 := blk_cell q1 1
  have f0 := blk_frozen q1 0
  have f1 := blk_frozen q1 1
  simp at r0 r1
  have hWs := HWS.out
  have HZ := Lib.hid (And.intro hwl (And.intro hsz (And.intro hBw hkl)))
  clear q5 hown hsame hsz hBw q1 hwl hlt hk hkt hkl
  go_wp2
  refine bodyPost_ret (v := .agg #[.slice a5 kl.length c5, .slice none 0 0]) (by simp [results, Try.results46, go_sem, r0, r1]) rfl ?_
  obtain ⟨hwl, hsz, hBw, hkl⟩ := HZ.out
  have hd : newD = ⟨kl, []⟩ := by unfold newD; rw [HZX.out.1, hkl]
  have hk2 : ∀ lo hi, w.heap.size + 2 ≤ lo → Kp lo hi wr ((wr.setCell ⟨w.heap.size, 0, none⟩ (.slice a5 kl.length c5)).setCell ⟨w.heap.size, 1, none⟩ (.slice none 0 0)) := fun lo hi h => kp_two wr _ _ 1 (by omega)
  rw [hd]
  refine ⟨_, _, rfl, ⟨⟨(hwl.keep (hk2 _ _ (by omega))).more (Nat.zero_le _) (by rw [World.size_setCell, World.size_setCell]; exact Nat.le_refl _), Sl.nil_ _ _ _⟩, ?_⟩⟩
  exact (hBw.setCell (p := ⟨w.heap.size, 0, none⟩) (Nat.le_refl _) _).setCell (p := ⟨w.heap.size, 1, none⟩) (Nat.le_refl _) _
end Go.Proofs.Ytldidclnfkmonaa

namespace Go.Proofs.Ytldidclnfkmonaa
open Go.RowKit

/-- A slice of n cells, each of which holds a byte and may be written. -/
def SpoB (w : World) (lo hi : Nat) (v : Value) (n : Nat) : Prop := ∃ a c, v = .slice a n c ∧ n ≤ c ∧ c ≤ maxLen ∧
  (0 < n → ∃ b off, a = some ⟨b, off, none⟩ ∧ lo ≤ b ∧ b < hi ∧ ∀ i, i < n → ∃ x : UInt8, w.cell? ⟨b, off + i, none⟩ = some (bV x) ∧ w.frozen? ⟨b, off + i, none⟩ = false)
theorem SpoB.of {w : World} {lo hi : Nat} {v : Value} {l : List UInt8} (h : Bytes w lo hi v l) (ht : Thawed w v) : SpoB w lo hi v l.length := by
  obtain ⟨a, c, rfl, h1, h2, h3, h4⟩ := h
  refine ⟨a, c, rfl, h1, h2, fun hp => ?_⟩
  obtain ⟨b, off, rfl, hlo, hhi, hc⟩ := h3 hp
  exact ⟨b, off, rfl, hlo, hhi, fun i hi => ⟨l[i], hc i l[i] (by simp [hi]), ht _ _ _ _ rfl i hi⟩⟩
/-- A byte is stored where there was one: bytes stay bytes. -/
theorem SpoB.set {w : World} {lo hi : Nat} {v : Value} {n : Nat} (h : SpoB w lo hi v n) (p : Addr) (x y : UInt8) (hp : w.cell? p = some (bV x)) : SpoB (w.setCell p (bV y)) lo hi v n := by
  obtain ⟨a, c, e, h1, h2, h3⟩ := h
  refine ⟨a, c, e, h1, h2, fun hn => ?_⟩
  obtain ⟨b, off, ea, hlo, hhi, hc⟩ := h3 hn
  refine ⟨b, off, ea, hlo, hhi, fun i hi => ?_⟩
  obtain ⟨z, hz, hf⟩ := hc i hi
  by_cases e : p = ⟨b, off + i, none⟩
  · subst e
    exact ⟨y, World.cell?_setCell_same' _ _ _ (by rw [hz]; rfl), by rw [World.frozen?_setCell]; exact hf⟩
  · exact ⟨z, by rw [World.cell?_setCell_other _ _ _ _ e]; exact hz, by rw [World.frozen?_setCell]; exact hf⟩
theorem SpoB.below {w w' : World} {lo hi B : Nat} {v : Value} {n : Nat} (h : SpoB w lo hi v n) (hb : Below B w w') (hB : hi ≤ B) : SpoB w' lo hi v n := by
  obtain ⟨a, c, e, h1, h2, h3⟩ := h
  refine ⟨a, c, e, h1, h2, fun hn => ?_⟩
  obtain ⟨b, off, ea, hlo, hhi, hc⟩ := h3 hn
  refine ⟨b, off, ea, hlo, hhi, fun i hi => ?_⟩
  obtain ⟨z, hz, hf⟩ := hc i hi
  exact ⟨z, (hb.cell (p := ⟨b, off + i, none⟩) (by show b < B; omega)).trans hz, (hb.frozen (p := ⟨b, off + i, none⟩) (by show b < B; omega)).trans hf⟩
/-- A cell that holds no byte stays. -/
theorem spo_other {w : World} {p q : Addr} {x : UInt8} {y : UInt8} {v : Value} (hp : w.cell? p = some (bV x)) (hq : w.cell? q = some v) (hv : ∀ z : UInt8, v ≠ bV z) : (w.setCell p (bV y)).cell? q = some v := by
  rw [World.cell?_setCell_other _ _ _ _ (fun e => ?_)]
  · exact hq
  · subst e
    rw [hp] at hq
    exact hv x (Option.some.inj hq).symm
/-- A slice of k elements of n cells, number f of which holds such a slice of bytes. -/
def SpS (n f : Nat) (w : World) (lo hi : Nat) (s : Value) (k : Nat) : Prop := ∃ a c, s = .slice a k c ∧ k ≤ c ∧ c ≤ maxLen ∧
  (0 < k → ∃ b off, a = some ⟨b, off, none⟩ ∧ lo ≤ b ∧ b < hi ∧ ∀ i, i < k → ∃ x c m, w.cell? ⟨b, off + i * n + f, none⟩ = some (.slice x m c) ∧ SpoB w lo hi (.slice x m c) m)
theorem SpoB.form {w : World} {lo hi : Nat} {v : Value} {n : Nat} (h : SpoB w lo hi v n) : ∃ a c, v = .slice a n c ∧ n ≤ c ∧ c ≤ maxLen := by
  obtain ⟨a, c, e, h1, h2, -⟩ := h
  exact ⟨a, c, e, h1, h2⟩
theorem SpS.of_b {w : World} {lo hi : Nat} {s : Value} {l : List (List UInt8)} (h : Sl rBytesT w lo hi s l) : SpS 1 0 w lo hi s l.length := by
  obtain ⟨a, c, rfl, h1, h2, h3, -⟩ := h
  refine ⟨a, c, rfl, h1, h2, fun hp => ?_⟩
  obtain ⟨b, off, rfl, hlo, hhi, hc⟩ := h3 hp
  refine ⟨b, off, rfl, hlo, hhi, fun i hi => ?_⟩
  obtain ⟨v, g1, g2, g3⟩ := hc i l[i] (by simp [hi])
  have hs := SpoB.of g2 g3
  obtain ⟨x, k, rfl, -⟩ := hs.form
  exact ⟨x, k, _, g1, hs⟩
theorem SpS.of_w {w : World} {lo hi : Nat} {s : Value} {l : List WrL} (h : Sl rWriteT w lo hi s l) : SpS 2 1 w lo hi s l.length := by
  obtain ⟨a, c, rfl, h1, h2, h3, -⟩ := h
  refine ⟨a, c, rfl, h1, h2, fun hp => ?_⟩
  obtain ⟨b, off, rfl, hlo, hhi, hc⟩ := h3 hp
  refine ⟨b, off, rfl, hlo, hhi, fun i hi => ?_⟩
  obtain ⟨-, -, v, g1, g2, g3⟩ := hc i l[i] (by simp [hi])
  have hs := SpoB.of g2 g3
  obtain ⟨x, k, rfl, -⟩ := hs.form
  exact ⟨x, k, _, g1, hs⟩
theorem SpS.set {n f : Nat} {w : World} {lo hi : Nat} {s : Value} {k : Nat} (h : SpS n f w lo hi s k) (p : Addr) (x y : UInt8) (hp : w.cell? p = some (bV x)) : SpS n f (w.setCell p (bV y)) lo hi s k := by
  obtain ⟨a, c, e, h1, h2, h3⟩ := h
  refine ⟨a, c, e, h1, h2, fun hn => ?_⟩
  obtain ⟨b, off, ea, hlo, hhi, hc⟩ := h3 hn
  refine ⟨b, off, ea, hlo, hhi, fun i hi => ?_⟩
  obtain ⟨u, c2, m, g1, g2⟩ := hc i hi
  exact ⟨u, c2, m, spo_other hp g1 (fun z e => by cases e), g2.set p x y hp⟩
theorem SpS.below {n f : Nat} {w w' : World} {lo hi B : Nat} {s : Value} {k : Nat} (h : SpS n f w lo hi s k) (hb : Below B w w') (hB : hi ≤ B) : SpS n f w' lo hi s k := by
  obtain ⟨a, c, e, h1, h2, h3⟩ := h
  refine ⟨a, c, e, h1, h2, fun hn => ?_⟩
  obtain ⟨b, off, ea, hlo, hhi, hc⟩ := h3 hn
  refine ⟨b, off, ea, hlo, hhi, fun i hi => ?_⟩
  obtain ⟨u, c2, m, g1, g2⟩ := hc i hi
  exact ⟨u, c2, m, (hb.cell (p := ⟨b, off + i * n + f, none⟩) (by show b < B; omega)).trans g1, g2.below hb hB⟩
theorem spo_add (x : UInt8) : ((x.toNat : Int) + 1) % 256 = ((x + 1).toNat : Int) := by
  rw [UInt8.toNat_add]
  simp
end Go.Proofs.Ytldidclnfkmonaa

namespace Go.Proofs.Ytldidclnfkmonaa
open Go.RowKit

set_option maxRecDepth 100000 in
set_option maxHeartbeats 2000000 in
theorem spoil_any (b u : Value) (nb nu : Nat) (w : World) (n0 hi : Nat) (hhi : hi ≤ w.heap.size) (hn : n0 ≤ hi) (h1 : SpS 1 0 w n0 hi b nb) (h2 : SpS 2 1 w n0 hi u nu) :
    Calls Try.prog 47 #[.agg #[b, u]] w fun e w' => (∃ v, e = .returned v) ∧ Below n0 w w' ∧ ∀ x, x < w.heap.size → (x < n0 ∨ hi ≤ x) → w'.heap[x]? = w.heap[x]? := by
  have hst0 := (Below.refl w.heap.size w).alloc (Nat.le_refl _) (.cells #[b, u] 39)
  have hq := World.alloc_heap_new w (.cells #[b, u] 39)
  obtain ⟨ab, cb, rfl, g1, g2, hb1⟩ := id h1
  obtain ⟨au, cu, rfl, g3, g4, hu1⟩ := id h2
  unfold maxLen at g2 g4
  obtain ⟨W, hW⟩ : ∃ W, w.alloc (.cells #[.slice ab nb cb, .slice au nu cu] 39) = W := ⟨_, rfl⟩
  rw [hW] at hst0 hq
  have hB : Below n0 w W := hst0.mono (Nat.le_trans hn hhi)
  have HS := Lib.hid (And.intro (h1.below hst0 hhi) (And.intro (h2.below hst0 hhi) (And.intro hB hq)))
  have HWE := Lib.hid hW
  have HF := Lib.hid (show ∀ x, x < w.heap.size → x < W.heap.size ∧ W.heap[x]? = w.heap[x]? from fun x hx => ⟨Nat.lt_of_lt_of_le hx hst0.size, hst0.block x hx⟩)
  clear h1 h2 hst0 hq hB hb1 hu1 hW
  go_enter Try.func47, Try.ntmps47
  go_upto_region 1 with (fail)
  rw [HWE.out]
  clear HWE
  have q0 := blk_cell HS.out.2.2.2 0
  have q1 := blk_cell HS.out.2.2.2 1
  simp at q0 q1
  go_wp2_with fail
  go_loopw [2] (fun i wr => ∃ k : Nat, k ≤ nb ∧ i = .int .i64 k ∧ SpS 1 0 wr n0 hi (.slice ab nb cb) nb ∧ SpS 2 1 wr n0 hi (.slice au nu cu) nu ∧ (Below n0 w wr ∧ (∀ x, x < W.heap.size → (x < n0 ∨ hi ≤ x) → wr.heap[x]? = W.heap[x]?)) ∧ wr.heap[w.heap.size]? = some (.cells #[.slice ab nb cb, .slice au nu cu] 39 (0, 0))) (fun i _ => nb - (intOf i).toNat)
  case atStart => exact ⟨0, Nat.zero_le _, rfl, HS.out.1, HS.out.2.1, ⟨HS.out.2.2.1, fun _ _ _ => rfl⟩, HS.out.2.2.2⟩
  case round =>
  obtain ⟨k, hk, rfl, hs1, hs2, hBw, hq⟩ := hrel
  clear q0 q1
  have q0 := blk_cell hq 0
  have q1 := blk_cell hq 1
  simp at q0 q1
  by_cases hlt : k < nb
  · obtain ⟨a', c', e', -, z2, z3⟩ := id hs1
    obtain ⟨bb, bo, ea, zl, zh, zc⟩ := z3 (by omega)
    cases e'
    subst ea
    obtain ⟨sa, sc, m, hcell, hsp⟩ := zc k hlt
    obtain ⟨pa, pc, e2, y1, y2, y3⟩ := id hsp
    cases e2
    have hcell0 : wr.cell? ⟨bb, bo + k, none⟩ = some (.slice sa m sc) := by simpa using hcell
    unfold maxLen at z2 y2
    obtain ⟨wo, hwo⟩ : ∃ wo, wo = wr := ⟨_, rfl⟩
    subst hwo
    have HK := Lib.hid (And.intro hs1 (And.intro hs2 (And.intro hBw (And.intro hq (And.intro hsp hcell)))))
    clear hs1 hs2 hBw hq hsp hcell z3 zc y3
    go_wp2_with fail
    go_loopw [3] (fun i wx => ∃ j : Nat, j ≤ m ∧ i = .int .i64 j ∧ SpS 1 0 wx n0 hi (.slice (some ⟨bb, bo, none⟩) nb cb) nb ∧ SpS 2 1 wx n0 hi (.slice au nu cu) nu ∧ (Below n0 w wx ∧ (∀ x, x < W.heap.size → (x < n0 ∨ hi ≤ x) → wx.heap[x]? = W.heap[x]?)) ∧ wx.heap[w.heap.size]? = some (.cells #[.slice (some ⟨bb, bo, none⟩) nb cb, .slice au nu cu] 39 (0, 0)) ∧ SpoB wx n0 hi (.slice sa m sc) m ∧ wx.cell? ⟨bb, bo + k * 1 + 0, none⟩ = some (.slice sa m sc)) (fun i _ => m - (intOf i).toNat)
    case atStart => exact ⟨0, Nat.zero_le _, rfl, HK.out.1, HK.out.2.1, HK.out.2.2.1, HK.out.2.2.2.1, HK.out.2.2.2.2.1, HK.out.2.2.2.2.2⟩
    case round =>
    obtain ⟨j, hj, rfl, hs1, hs2, hBw, hq, hsp, hcell⟩ := hrel
    clear q0 q1 hcell0
    have q0 := blk_cell hq 0
    have q1 := blk_cell hq 1
    simp at q0 q1
    have hcell0 : wr.cell? ⟨bb, bo + k, none⟩ = some (.slice sa m sc) := by simpa using hcell
    by_cases hjm : j < m
    · obtain ⟨pa, pc, e2, y1, y2, y3⟩ := id hsp
      cases e2
      obtain ⟨sb, so, ea, t1, t2, t3⟩ := y3 (by omega)
      subst ea
      obtain ⟨x, hx, hxf⟩ := t3 j hjm
      have hx0 : wr.cell? ⟨sb, so + j, none⟩ = some (.int .u8 (x.toNat : Int)) := hx
      have hx1 : (x.toNat : Int) < 256 := by have := x.toNat_lt; omega
      have HJ := Lib.hid (And.intro hs1 (And.intro hs2 (And.intro hBw (And.intro hq (And.intro hsp (And.intro hcell (And.intro hx (spo_add x))))))))
      clear hs1 hs2 hBw hq hsp hcell hx y3 t3
      unfold maxLen at y2
      go_wp2_with fail
      go_still_tail 16, (by kernel_rfl)
      go_wp2
      go_roundw
      case rel =>
        obtain ⟨hs1, hs2, hBw, hq, hsp, hcell, hx, hadd⟩ := HJ.out
        rw [hadd]
        have hsb : w.heap.size ≠ sb := by omega
        exact ⟨j + 1, by omega, by go_num, SpS.set (w := wr) hs1 _ _ (x + 1) hx, SpS.set (w := wr) hs2 _ _ (x + 1) hx, ⟨hBw.1.drew.setCell (p := ⟨sb, so + j, none⟩) t1 _, fun x h1 h2 => (set_other wr sb (so + j) _ x (by omega)).trans (hBw.2 x h1 h2)⟩, (set_other wr sb (so + j) _ _ hsb).trans hq, SpoB.set (w := wr) hsp _ _ (x + 1) hx, spo_other (w := wr) (y := x + 1) hx hcell (fun z e => by cases e)⟩
      case measure => simp [intOf]; omega
    obtain rfl : m = j := by omega
    have HJ := Lib.hid (And.intro hs1 (And.intro hs2 (And.intro hBw hq)))
    clear hs1 hs2 hBw hq hsp hcell hj hjm
    go_wp2
    go_roundw
    case rel => exact ⟨k + 1, by omega, by go_num, HJ.out.1, HJ.out.2.1, HJ.out.2.2.1, HJ.out.2.2.2⟩
    case measure => simp [intOf]; omega
  obtain rfl : nb = k := by omega
  clear hlt hk
  obtain ⟨wm, hwm⟩ : ∃ wm, wm = wr := ⟨_, rfl⟩
  subst hwm
  have HM := Lib.hid (And.intro hs1 (And.intro hs2 (And.intro hBw hq)))
  clear hs1 hs2 hBw hq
  go_wp2_with fail
  go_loopw [4] (fun i wr => ∃ k : Nat, k ≤ nu ∧ i = .int .i64 k ∧ SpS 1 0 wr n0 hi (.slice ab nb cb) nb ∧ SpS 2 1 wr n0 hi (.slice au nu cu) nu ∧ (Below n0 w wr ∧ (∀ x, x < W.heap.size → (x < n0 ∨ hi ≤ x) → wr.heap[x]? = W.heap[x]?)) ∧ wr.heap[w.heap.size]? = some (.cells #[.slice ab nb cb, .slice au nu cu] 39 (0, 0))) (fun i _ => nu - (intOf i).toNat)
  case atStart => exact ⟨0, Nat.zero_le _, rfl, HM.out.1, HM.out.2.1, HM.out.2.2.1, HM.out.2.2.2⟩
  case round =>
  obtain ⟨k, hk, rfl, hs1, hs2, hBw, hq⟩ := hrel
  clear q0 q1
  have q0 := blk_cell hq 0
  have q1 := blk_cell hq 1
  simp at q0 q1
  by_cases hlt : k < nu
  · obtain ⟨a', c', e', -, z2, z3⟩ := id hs2
    obtain ⟨bb, bo, ea, zl, zh, zc⟩ := z3 (by omega)
    cases e'
    subst ea
    obtain ⟨sa, sc, m, hcell, hsp⟩ := zc k hlt
    obtain ⟨pa, pc, e2, y1, y2, y3⟩ := id hsp
    cases e2
    have hcell0 : wr.cell? ⟨bb, bo + k * 2 + 1, none⟩ = some (.slice sa m sc) := by simpa using hcell
    unfold maxLen at z2 y2
    obtain ⟨wo, hwo⟩ : ∃ wo, wo = wr := ⟨_, rfl⟩
    subst hwo
    have HK := Lib.hid (And.intro hs1 (And.intro hs2 (And.intro hBw (And.intro hq (And.intro hsp hcell)))))
    clear hs1 hs2 hBw hq hsp hcell z3 zc y3
    go_wp2_with fail
    go_loopw [5] (fun i wx => ∃ j : Nat, j ≤ m ∧ i = .int .i64 j ∧ SpS 1 0 wx n0 hi (.slice ab nb cb) nb ∧ SpS 2 1 wx n0 hi (.slice (some ⟨bb, bo, none⟩) nu cu) nu ∧ (Below n0 w wx ∧ (∀ x, x < W.heap.size → (x < n0 ∨ hi ≤ x) → wx.heap[x]? = W.heap[x]?)) ∧ wx.heap[w.heap.size]? = some (.cells #[.slice ab nb cb, .slice (some ⟨bb, bo, none⟩) nu cu] 39 (0, 0)) ∧ SpoB wx n0 hi (.slice sa m sc) m ∧ wx.cell? ⟨bb, bo + k * 2 + 1, none⟩ = some (.slice sa m sc)) (fun i _ => m - (intOf i).toNat)
    case atStart => exact ⟨0, Nat.zero_le _, rfl, HK.out.1, HK.out.2.1, HK.out.2.2.1, HK.out.2.2.2.1, HK.out.2.2.2.2.1, HK.out.2.2.2.2.2⟩
    case round =>
    obtain ⟨j, hj, rfl, hs1, hs2, hBw, hq, hsp, hcell⟩ := hrel
    clear q0 q1 hcell0
    have q0 := blk_cell hq 0
    have q1 := blk_cell hq 1
    simp at q0 q1
    have hcell0 : wr.cell? ⟨bb, bo + k * 2 + 1, none⟩ = some (.slice sa m sc) := by simpa using hcell
    by_cases hjm : j < m
    · obtain ⟨pa, pc, e2, y1, y2, y3⟩ := id hsp
      cases e2
      obtain ⟨sb, so, ea, t1, t2, t3⟩ := y3 (by omega)
      subst ea
      obtain ⟨x, hx, hxf⟩ := t3 j hjm
      have hx0 : wr.cell? ⟨sb, so + j, none⟩ = some (.int .u8 (x.toNat : Int)) := hx
      have hx1 : (x.toNat : Int) < 256 := by have := x.toNat_lt; omega
      have HJ := Lib.hid (And.intro hs1 (And.intro hs2 (And.intro hBw (And.intro hq (And.intro hsp (And.intro hcell (And.intro hx (spo_add x))))))))
      clear hs1 hs2 hBw hq hsp hcell hx y3 t3
      unfold maxLen at y2
      go_wp2_with fail
      go_still_tail 18, (by kernel_rfl)
      go_wp2
      go_roundw
      case rel =>
        obtain ⟨hs1, hs2, hBw, hq, hsp, hcell, hx, hadd⟩ := HJ.out
        rw [hadd]
        have hsb : w.heap.size ≠ sb := by omega
        exact ⟨j + 1, by omega, by go_num, SpS.set (w := wr) hs1 _ _ (x + 1) hx, SpS.set (w := wr) hs2 _ _ (x + 1) hx, ⟨hBw.1.drew.setCell (p := ⟨sb, so + j, none⟩) t1 _, fun x h1 h2 => (set_other wr sb (so + j) _ x (by omega)).trans (hBw.2 x h1 h2)⟩, (set_other wr sb (so + j) _ _ hsb).trans hq, SpoB.set (w := wr) hsp _ _ (x + 1) hx, spo_other (w := wr) (y := x + 1) hx hcell (fun z e => by cases e)⟩
      case measure => simp [intOf]; omega
    obtain rfl : m = j := by omega
    have HJ := Lib.hid (And.intro hs1 (And.intro hs2 (And.intro hBw hq)))
    clear hs1 hs2 hBw hq hsp hcell hj hjm
    go_wp2
    go_roundw
    case rel => exact ⟨k + 1, by omega, by go_num, HJ.out.1, HJ.out.2.1, HJ.out.2.2.1, HJ.out.2.2.2⟩
    case measure => simp [intOf]; omega
  obtain rfl : nu = k := by omega
  have hBf := hBw
  clear hs1 hs2 hBw hq
  go_wp2
  go_end0
  exact ⟨⟨_, rfl⟩, hBf.1, fun x h1 h2 => (hBf.2 x (HF.out x h1).1 h2).trans (HF.out x h1).2⟩
end Go.Proofs.Ytldidclnfkmonaa

