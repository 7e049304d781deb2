/- CountSums: the words and contracts, part 15. -/
import Derived.Test.YtfdogefoodljaaaCountSumsQ1
import Derived.Test.YtfdogefoodljaaaCountSumsQ2
import Derived.Test.YtfdogefoodljaaaCountSumsQ3
import Derived.Test.YtfdogefoodljaaaCountSumsQ4
import Derived.Test.YtfdogefoodljaaaCountSumsQ5
import Derived.Test.YtfdogefoodljaaaCountSumsQ6
import Derived.Test.YtfdogefoodljaaaCountSumsQ7
import Derived.Test.YtfdogefoodljaaaCountSumsQ8
import Derived.Test.YtfdogefoodljaaaCountSumsQ9
import Derived.Test.YtfdogefoodljaaaCountSumsQ10
import Derived.Test.YtfdogefoodljaaaCountSumsQ11
import Derived.Test.YtfdogefoodljaaaCountSumsQ12
import Derived.Test.YtfdogefoodljaaaCountSumsQ13
import Derived.Test.YtfdogefoodljaaaCountSumsQ14
import Derived.WalkKit
import Derived.WalkLawsBesides
import Derived.WalkSpells
import Derived.Lib.Hide
import Derived.Laws.Rows
import Derived.Laws.AppendOwnNone
import Derived.Maps.AppendAt
import Derived.ProofKit
import Derived.Deep.Slices
import Derived.WideShapes
import Derived.RangeFuncNested
import Derived.RangeFuncBound
import Derived.RangeFuncCalls
import Derived.RangeFuncLeaves
import Derived.RangeFuncBox
import Derived.Shelf.Abstract
import Derived.Shelf.RegionOpen
import Derived.OwnWalkIn
import Derived.TacticsInMore
import Derived.LoopNIn
import Derived.LoopIn
import Derived.Lib.AppendZerosOnto
import Derived.Lib.SliceRun
import Derived.Lib.Walk
import Derived.Deep.LoopGhost
import Derived.Laws.CopyOwn
import Derived.OrdersHeld
import Derived.Deep.QuietTactic
import Derived.BigQuiet
import Derived.StillTailTactics
import Derived.OpenShut
import Derived.Deep.DeepCutAuto
import Derived.Laws.CopyRow
import Derived.Laws.MakeOwn
import Derived.Deep.RegionHeld
import Derived.KernelRfl
namespace Go.Proofs.Ytfdogefoodljaaa
open Go.RowKit

theorem seen_len {d : DiskL} (h : mayD d = true) (p : Int) (h0 : 0 ≤ p) (h1 : p < 256) : (seenD d p).length = 128 := by
  obtain ⟨m1, m2, m3, m4⟩ := may_len h
  unfold seenD
  split
  · rename_i x hx
    have : ∀ (l : List WrL) (x : WrL), lastW l p = some x → x ∈ l := by
      intro l
      induction l with
      | nil => intro x hx; cases hx
      | cons y l ih =>
        intro x hx
        rw [lastW] at hx
        split at hx
        · rename_i z hz
          cases hx
          exact List.mem_cons_of_mem _ (ih _ hz)
        · split at hx
          · cases hx; exact List.mem_cons_self ..
          · cases hx
    exact (m4 x (this _ _ hx)).2.2
  · exact m3 _ (List.mem_of_getElem? (get_l d.blocks [] p.toNat (by omega)))
theorem readB_seen {d : DiskL} (h : mayD d = true) (p : Int) (h0 : 0 ≤ p) (h1 : p < 256) : readB d p = seenD d p := by
  unfold readB
  have e : errA d p = 0 := by rw [errA_may p h, if_neg (by omega)]
  rw [e, if_pos rfl]
def errP (d : DiskL) (s : Int) : Int := if mayD d then (if s = 0 ∨ s = 1 then 0 else 2) else 8
def plcP (d : DiskL) (s : Int) : Int := if errP d s = 0 then 4 + 2 * s else 0
theorem errP_zero {d : DiskL} {s : Int} (h : errP d s = 0) : mayD d = true ∧ (s = 0 ∨ s = 1) := by
  unfold errP at h
  split at h
  · rename_i hm
    split at h
    · rename_i hs
      exact ⟨hm, hs⟩
    · cases h
  · cases h
def sideL (d : DiskL) (s : Int) : List UInt8 := seenD d (4 + 2 * s) ++ seenD d (5 + 2 * s)
def errR (d : DiskL) (s : Int) : Int := if errP d s ≠ 0 then errP d s else if mayT (sideL d s) then 0 else 8
def readT (d : DiskL) (s : Int) : List UInt8 := if errR d s = 0 then sideL d s else []
def errU (l : List UInt8) : Int := if mayT l then 0 else 8
def sumT (l : List UInt8) : BitVec 32 := if mayT l then crc l else 0

set_option maxRecDepth 100000 in
set_option maxHeartbeats 1000000 in
/-- count.place. -/
theorem cplace_any (b u : Value) (d : DiskL) (s : Int) (w : World) (h : DiskV w 0 w.heap.size b u d) :
    Calls Try.prog 53 #[.agg #[b, u], .int .i64 s] w fun e w' => e = .returned (.tuple #[.int .i64 (plcP d s), .int .i64 (errP d s)]) ∧ Below w.heap.size w w' := by
  obtain ⟨ab, cb, rfl, g1, g2, -, -⟩ := h.1
  obtain ⟨au, cu, rfl, g3, g4, -, -⟩ := h.2
  unfold maxLen at g2 g4
  have hst := (Below.refl w.heap.size w).alloc (Nat.le_refl _) (.cells #[.slice ab d.blocks.length cb, .slice au d.waits.length cu] 33)
  have qd := LK.new w (.cells #[.slice ab d.blocks.length cb, .slice au d.waits.length cu] 33)
  have hB : LW w _ := hst
  have hD := (LD.of h (Nat.le_refl _)).step hst
  have sz_V : w.heap.size < (w.alloc (.cells #[.slice ab d.blocks.length cb, .slice au d.waits.length cu] 33)).heap.size := by simp
  obtain ⟨V, hV⟩ : ∃ V, w.alloc (.cells #[.slice ab d.blocks.length cb, .slice au d.waits.length cu] 33) = V := ⟨_, rfl⟩
  rw [hV] at hB hD qd sz_V
  clear h hst
  have hE : (mayD d = true ∧ errC d = 0 ∧ errP d s = (if s = 0 ∨ s = 1 then 0 else 2)) ∨ (errC d = 8 ∧ errP d s = 8) := by
    unfold errC errP
    cases mayD d
    · exact .inr ⟨rfl, rfl⟩
    · exact .inl ⟨rfl, rfl, rfl⟩
  have hP : plcP d s = if errP d s = 0 then 4 + 2 * s else 0 := rfl
  generalize plcP d s = pp at *
  generalize errP d s = ep at *
  obtain ⟨ec, hec⟩ : ∃ ec, errC d = ec := ⟨_, rfl⟩
  have k_chk := fun V b u hh => dcheck_any b u d V hh
  rw [show (if mayD d then (0 : Int) else 8) = ec from hec] at k_chk
  rw [hec] at hE
  have HE := Lib.hid (And.intro hE hP)
  clear hE hP hec
  have HC := Lib.hid (k_chk)
  clear k_chk
  have HQ := Lib.hid (And.intro qd (And.intro hD hB))
  clear qd hD hB
  have c_qd0 := LK.cell HQ.out.1 0
  have c_qd1 := LK.cell HQ.out.1 1
  simp at c_qd0 c_qd1
  go_enter Try.func53, Try.ntmps53
  go_upto_region 1 with (fail)
  clear hV
  go_wp2_with fail
  refine (HC.out V _ _ HQ.out.2.1.v).mono ?_
  rintro e w1 ⟨rfl, hst⟩
  clear c_qd0 c_qd1
  obtain ⟨qd, hD, hB⟩ := HQ.out
  clear HQ
  have sz_w1 : V.heap.size ≤ w1.heap.size := hst.size
  replace qd := qd.step hst
  replace hD := hD.step hst
  replace hB := hB.step hst
  clear hst
  have HQ := Lib.hid (And.intro qd (And.intro hD hB))
  clear qd hD hB
  have c_qd0 := LK.cell HQ.out.1 0
  have c_qd1 := LK.cell HQ.out.1 1
  simp at c_qd0 c_qd1
  rcases HE.out.1 with ⟨-, rfl, hx⟩ | ⟨rfl, rfl⟩
  case inr =>
    obtain rfl := HE.out.2
    go_wp2
    go_ret2
    exact ⟨rfl, HQ.out.2.2⟩
  by_cases h0 : s = 0
  · subst h0
    obtain rfl : ep = 0 := by rw [hx]; rfl
    obtain rfl : pp = 4 := HE.out.2
    clear hx
    go_wp2
    go_ret2
    exact ⟨rfl, HQ.out.2.2⟩
  by_cases h1 : s = 1
  · subst h1
    obtain rfl : ep = 0 := by rw [hx]; rfl
    obtain rfl : pp = 6 := HE.out.2
    clear hx
    go_wp2
    go_ret2
    exact ⟨rfl, HQ.out.2.2⟩
  obtain rfl : ep = 2 := by rw [hx, if_neg (by omega)]
  obtain rfl : pp = 0 := HE.out.2
  clear hx
  have n0 : (s != 0) = true := by simp [h0]
  have n1 : (s != 1) = true := by simp [h1]
  go_wp2
  go_ret2
  exact ⟨rfl, HQ.out.2.2⟩

set_option maxRecDepth 100000 in
set_option maxHeartbeats 1000000 in
/-- count.Sum. -/
theorem csum_any (v : Value) (l : List UInt8) (w : World) (hv : Bytes w 0 w.heap.size v l) :
    Calls Try.prog 25 #[v] w fun e w' => e = .returned (.tuple #[u32v (sumT l), .int .i64 (errU l)]) ∧ Below w.heap.size w w' := by
  have k1 := ccheck_any v l w hv
  have k2 := of_any v l w hv
  obtain ⟨a, c, rfl, g1, g2⟩ := hv.form rfl
  have hE : ((if mayT l then (0 : Int) else 8) = 0 ∧ errU l = 0 ∧ sumT l = crc l) ∨ ((if mayT l then (0 : Int) else 8) = 8 ∧ errU l = 8 ∧ sumT l = 0) := by
    unfold errU sumT
    cases mayT l
    · exact .inr ⟨rfl, rfl, rfl⟩
    · exact .inl ⟨rfl, rfl, rfl⟩
  generalize (if mayT l then (0 : Int) else 8) = er at *
  generalize errU l = eu at *
  generalize sumT l = st at *
  generalize crc l = cl at *
  have HC := Lib.hid (And.intro k1 k2)
  have HE := Lib.hid hE
  clear k1 k2 hE hv
  go_enter Try.func25, Try.ntmps25
  go_wp2_with fail
  refine (HC.out.1).mono ?_
  rintro e w1 ⟨rfl, rfl⟩
  rcases HE.out with ⟨rfl, rfl, rfl⟩ | ⟨rfl, rfl, rfl⟩
  · go_wp2_with fail
    refine (HC.out.2).mono ?_
    rintro e w2 ⟨rfl, hst⟩
    go_wp2
    go_ret2
    exact ⟨rfl, hst⟩
  · go_wp2
    go_ret2
    exact ⟨rfl, Below.refl _ _⟩

set_option maxRecDepth 100000 in
set_option maxHeartbeats 1000000 in
/-- count.Read. -/
theorem cread_any (b u : Value) (d : DiskL) (s : Int) (w : World) (h : DiskV w 0 w.heap.size b u d) :
    Calls Try.prog 21 #[.agg #[b, u], .int .i64 s] w fun e w' => ∃ v, e = .returned (.tuple #[v, .int .i64 (errR d s)]) ∧ MadeB w w' v (readT d s) := by
  obtain ⟨ab, cb, rfl, g1, g2, -, -⟩ := h.1
  obtain ⟨au, cu, rfl, g3, g4, -, -⟩ := h.2
  unfold maxLen at g2 g4
  have hst := (Below.refl w.heap.size w).alloc (Nat.le_refl _) (.cells #[.slice ab d.blocks.length cb, .slice au d.waits.length cu] 33)
  have qd := LK.new w (.cells #[.slice ab d.blocks.length cb, .slice au d.waits.length cu] 33)
  have hB : LW w _ := hst
  have hD := (LD.of h (Nat.le_refl _)).step hst
  have sz_V : w.heap.size < (w.alloc (.cells #[.slice ab d.blocks.length cb, .slice au d.waits.length cu] 33)).heap.size := by simp
  obtain ⟨V, hV⟩ : ∃ V, w.alloc (.cells #[.slice ab d.blocks.length cb, .slice au d.waits.length cu] 33) = V := ⟨_, rfl⟩
  rw [hV] at hB hD qd sz_V
  clear h hst
  obtain ⟨ep, hep⟩ : ∃ ep, errP d s = ep := ⟨_, rfl⟩
  obtain ⟨pp, hpp⟩ : ∃ pp, plcP d s = pp := ⟨_, rfl⟩
  have k_plc := fun V b u hh => cplace_any b u d s V hh
  rw [hep, hpp] at k_plc
  have hX : ep ≠ 0 → errR d s = ep ∧ readT d s = [] := fun hn => by
    have h1 : errR d s = ep := by unfold errR; rw [hep, if_pos hn]
    exact ⟨h1, by unfold readT; rw [h1, if_neg hn]⟩
  have hY : ep = 0 → mayD d = true ∧ (s = 0 ∨ s = 1) ∧ pp = 4 + 2 * s ∧ errR d s = (if mayT (sideL d s) then 0 else 8) ∧ readT d s = if mayT (sideL d s) then sideL d s else [] := fun hz => by
    rw [hz] at hep
    obtain ⟨h1, h2⟩ := errP_zero hep
    have h3 : errR d s = (if mayT (sideL d s) then 0 else 8) := by unfold errR; rw [hep, if_neg (by simp)]
    refine ⟨h1, h2, by rw [← hpp]; unfold plcP; rw [hep, if_pos rfl], h3, ?_⟩
    unfold readT
    rw [h3]
    cases mayT (sideL d s) <;> rfl
  generalize errR d s = er at *
  generalize readT d s = rt at *
  have HX := Lib.hid (And.intro hX hY)
  clear hX hY hep hpp
  have k_r1 := fun V b u p hh => dread_any b u d p V hh
  have HC := Lib.hid (And.intro k_plc k_r1)
  clear k_plc k_r1
  have HQ := Lib.hid (And.intro qd (And.intro hD hB))
  clear qd hD hB
  have c_qd0 := LK.cell HQ.out.1 0
  have c_qd1 := LK.cell HQ.out.1 1
  simp at c_qd0 c_qd1
  go_enter Try.func21, Try.ntmps21
  go_upto_region 1 with (fail)
  clear hV
  go_wp2_with fail
  refine (HC.out.1 V _ _ HQ.out.2.1.v).mono ?_
  rintro e w1 ⟨rfl, hst⟩
  clear c_qd0 c_qd1
  obtain ⟨qd, hD, hB⟩ := HQ.out
  clear HQ
  have sz_w1 : V.heap.size ≤ w1.heap.size := hst.size
  replace qd := qd.step hst
  replace hD := hD.step hst
  replace hB := hB.step hst
  clear hst
  have HQ := Lib.hid (And.intro qd (And.intro hD hB))
  clear qd hD hB
  have c_qd0 := LK.cell HQ.out.1 0
  have c_qd1 := LK.cell HQ.out.1 1
  simp at c_qd0 c_qd1
  by_cases hz : ep = 0
  case neg =>
    have i1 : (ep != 0) = true := by simp [hz]
    obtain ⟨rfl, rfl⟩ := HX.out.1 hz
    go_wp2
    go_ret2
    exact ⟨_, rfl, MadeB.nil_ HQ.out.2.2⟩
  subst hz
  obtain ⟨hmay, hs, hpp, her, hrt⟩ := HX.out.2 rfl
  have hps : 0 ≤ pp ∧ pp + 1 < 256 := by omega
  have hl1 := seen_len hmay pp (by omega) (by omega)
  have hl2 := seen_len hmay (pp + 1) (by omega) (by omega)
  have hs1 := readB_seen hmay pp (by omega) (by omega)
  have hs2 := readB_seen hmay (pp + 1) (by omega) (by omega)
  have hsd : sideL d s = seenD d pp ++ seenD d (pp + 1) := by
    unfold sideL
    rw [hpp, show (4 + 2 * s + 1 : Int) = 5 + 2 * s by omega]
  have k1 := fun V b u hh => dread_any b u d pp V hh
  have k2 := fun V b u hh => dread_any b u d (pp + 1) V hh
  rw [hs1, show errA d pp = 0 by rw [errA_may pp hmay, if_neg (by omega)]] at k1
  rw [hs2, show errA d (pp + 1) = 0 by rw [errA_may _ hmay, if_neg (by omega)]] at k2
  obtain ⟨la, hla⟩ : ∃ la, seenD d pp = la := ⟨_, rfl⟩
  obtain ⟨lb, hlb⟩ : ∃ lb, seenD d (pp + 1) = lb := ⟨_, rfl⟩
  rw [hla] at k1 hl1 hsd
  rw [hlb] at k2 hl2 hsd
  rw [hsd] at her hrt
  have HK := Lib.hid (And.intro k1 k2)
  have HR := Lib.hid (And.intro her (And.intro hrt (And.intro hl1 hl2)))
  obtain ⟨hp0, hp1⟩ := hps
  clear HX hs hpp her hrt hl1 hl2 hs1 hs2 hsd hla hlb k1 k2 hmay HC
  go_wp2_with fail
  refine (HK.out.1 _ _ _ HQ.out.2.1.v).mono ?_
  rintro e w2 ⟨v1, rfl, hm⟩
  clear c_qd0 c_qd1
  obtain ⟨qd, hD, hB⟩ := HQ.out
  clear HQ
  have hL1 := LM.of hm
  have hst := hm.below
  obtain ⟨a1, c1, rfl, -, -⟩ := hm.bytes.form HR.out.2.2.1
  clear hm
  have sz_w2 : w1.heap.size ≤ w2.heap.size := hst.size
  replace qd := qd.step hst
  replace hD := hD.step hst
  replace hB := hB.step hst
  clear hst
  have HQ := Lib.hid (And.intro qd (And.intro hD (And.intro hL1 hB)))
  clear qd hD hL1 hB
  have c_qd0 := LK.cell HQ.out.1 0
  have c_qd1 := LK.cell HQ.out.1 1
  simp at c_qd0 c_qd1
  go_wp2_with fail
  refine (HK.out.2 _ _ _ HQ.out.2.1.v).mono ?_
  rintro e w3 ⟨v2, rfl, hm⟩
  clear c_qd0 c_qd1
  obtain ⟨qd, hD, hL1, hB⟩ := HQ.out
  clear HQ
  have hL2 := LM.of hm
  have hst := hm.below
  obtain ⟨a2, c2, rfl, -, -⟩ := hm.bytes.form HR.out.2.2.2
  clear hm
  have sz_w3 : w2.heap.size ≤ w3.heap.size := hst.size
  replace qd := qd.step hst
  replace hD := hD.step hst
  replace hL1 := hL1.step hst
  replace hB := hB.step hst
  clear hst
  have HQ := Lib.hid (And.intro qd (And.intro hD (And.intro hL1 (And.intro hL2 hB))))
  clear qd hD hL1 hL2 hB
  have c_qd0 := LK.cell HQ.out.1 0
  have c_qd1 := LK.cell HQ.out.1 1
  simp at c_qd0 c_qd1
  go_wp2_with fail
  clear c_qd0 c_qd1
  obtain ⟨qd, hD, hL1, hL2, hB⟩ := HQ.out
  clear HQ
  have hst := (Below.refl w3.heap.size w3).alloc (Nat.le_refl _) (.cells #[.slice a1 128 c1, .slice a2 128 c2] 22)
  have hlt : w3.heap.size < (w3.alloc (.cells #[.slice a1 128 c1, .slice a2 128 c2] 22)).heap.size := by simp
  have qs := LK.new w3 (.cells #[.slice a1 128 c1, .slice a2 128 c2] 22)
  replace qd := qd.step hst
  replace hD := hD.step hst
  replace hL1 := hL1.step hst
  replace hL2 := hL2.step hst
  replace hB := hB.step hst
  obtain ⟨w4, hw⟩ : ∃ v, w3.alloc (.cells #[.slice a1 128 c1, .slice a2 128 c2] 22) = v := ⟨_, rfl⟩
  rw [hw] at hlt qs qd hD hL1 hL2 hB ⊢
  clear hw hst
  have sz_w4 := hlt
  clear hlt
  have HQ := Lib.hid (And.intro qd (And.intro hD (And.intro hL1 (And.intro hL2 (And.intro qs hB)))))
  clear qd hD hL1 hL2 qs hB
  have c_qd0 := LK.cell HQ.out.1 0
  have c_qd1 := LK.cell HQ.out.1 1
  have c_qs0 := LK.cell HQ.out.2.2.2.2.1 0
  have c_qs1 := LK.cell HQ.out.2.2.2.2.1 1
  simp at c_qd0 c_qd1 c_qs0 c_qs1
  refine (concat_any [(.slice a1 128 c1, la), (.slice a2 128 c2, lb)] w3.heap.size 0 2 w4 HQ.out.2.2.2.2.1.lt (fun i p hp => ?_) (fun p hp => ?_) (Nat.le_refl _) (by decide) (by simp [catL]; have := HR.out.2.2; omega)).mono ?_
  · rcases i with _ | _ | i
    · cases hp; exact LK.cell HQ.out.2.2.2.2.1 0
    · cases hp; exact LK.cell HQ.out.2.2.2.2.1 1
    · simp at hp
  · simp at hp
    rcases hp with rfl | rfl
    · exact HQ.out.2.2.1.v
    · exact HQ.out.2.2.2.1.v
  rintro e w5 ⟨v4, rfl, hm⟩
  have hcat : catL [((.slice a1 128 c1 : Value), la), (.slice a2 128 c2, lb)] = la ++ lb := by simp [catL]
  rw [hcat] at hm
  have hBf : LW w w5 := HQ.out.2.2.2.2.2.step hm.below
  have hb2 := hm.bytes.more (lo' := w.heap.size) (hi' := w5.heap.size) (by omega) (Nat.le_refl _)
  have ht2 := hm.thawed
  have k3 := ccheck_any v4 (la ++ lb) w5 hm.bytes.all0
  obtain ⟨a4, c4, rfl, -, -⟩ := hm.bytes.form rfl
  clear hcat hm
  obtain ⟨lab, hlab⟩ : ∃ lab, la ++ lb = lab := ⟨_, rfl⟩
  rw [hlab] at hb2 ht2 k3 ⊢ HR
  have HF := Lib.hid (And.intro hb2 (And.intro ht2 hBf))
  have HK3 := Lib.hid k3
  clear hb2 ht2 hBf k3 hlab
  clear c_qd0 c_qd1 c_qs0 c_qs1
  go_wp2_with fail
  refine HK3.out.mono ?_
  rintro e w6 ⟨rfl, rfl⟩
  obtain ⟨her, hrt, -⟩ := HR.out
  cases hmt : mayT lab
  · rw [hmt] at her hrt
    simp only [Bool.false_eq_true, if_false] at her hrt ⊢
    subst her hrt
    clear hmt HR
    go_wp2
    go_ret2
    exact ⟨_, rfl, MadeB.nil_ HF.out.2.2⟩
  · rw [hmt] at her hrt
    simp only [if_true] at her hrt ⊢
    subst her hrt
    clear hmt HR
    go_wp2
    go_ret2
    exact ⟨_, rfl, HF.out.1, HF.out.2.1, HF.out.2.2⟩
end Go.Proofs.Ytfdogefoodljaaa

namespace Go.Proofs.Ytfdogefoodljaaa
open Go.RowKit

def KeepC (n₀ Bs : Nat) (A B : World) : Prop := Below n₀ A B ∧ B.cell? ⟨Bs, 0, none⟩ = A.cell? ⟨Bs, 0, none⟩ ∧ B.cell? ⟨Bs + 1, 0, none⟩ = A.cell? ⟨Bs + 1, 0, none⟩
theorem KeepC.refl (n₀ Bs : Nat) (A : World) : KeepC n₀ Bs A A := ⟨Below.refl _ _, rfl, rfl⟩
theorem KeepC.trans {n₀ Bs : Nat} {A B C : World} (h : KeepC n₀ Bs A B) (k : KeepC n₀ Bs B C) : KeepC n₀ Bs A C := ⟨h.1.trans k.1, k.2.1.trans h.2.1, k.2.2.trans h.2.2⟩
theorem keepC_b {w : World} {n₀ Bs : Nat} (hn : n₀ ≤ w.heap.size) (hB : Bs + 1 < w.heap.size) : ∀ (W : World) (l : Nat) (o o' : Obj), w.heap.size ≤ l → W.heap[l]? = some o → o.isCells = false → o.isWalk = false → KeepC n₀ Bs W (W.putObj l o') :=
  fun W l o o' h1 h2 h3 h4 => ⟨belowK_b hn W l o o' h1 h2 h3 h4, (belowK_b (w := w) (n₀ := Bs + 1) (by omega) W l o o' h1 h2 h3 h4).cell (p := ⟨Bs, 0, none⟩) (Nat.lt_succ_self _),
    (belowK_b (w := w) (n₀ := Bs + 2) (by omega) W l o o' h1 h2 h3 h4).cell (p := ⟨Bs + 1, 0, none⟩) (Nat.lt_succ_self _)⟩
def chL (k : Nat) : List (Fin 2) := [0, 1].take k
def encC (b off : Nat) (x : Fin 2) : Array Value := #[.slice (some ⟨b, off + x.1 * 128, none⟩) 128 128]

set_option maxRecDepth 100000 in
set_option maxHeartbeats 2000000 in
theorem chunk1_in (F : Fence) (n : Nat) (h7 : F.fn 87) (hro : F.round = none) (hn : 1 ≤ n) (l Bs n₀ b off cap : Nat) (hlm : 256 ≤ cap) (hcm : cap ≤ maxLen) (J Jx : List (Fin 2) → World → Prop) (hJd : ∀ s W, J s W → J s W.drew)
    (hY : ∀ pre x W, J pre W → pre.length < 2 → YieldAt F (n - 1) Try.prog l (encC b off x) W fun e W' =>
      (e = .returned (.bool true) ∧ J (pre ++ [x]) W' ∧ KeepC n₀ Bs W W') ∨ (e = .returned (.bool false) ∧ Jx (pre ++ [x]) W'))
    (W : World) (hBs : W.cell? ⟨Bs, 0, none⟩ = some (.slice (some ⟨b, off, none⟩) 256 cap)) (hBn : W.cell? ⟨Bs + 1, 0, none⟩ = some (.int .i64 128)) (h0 : J [] W) :
    CallsIn F n Try.prog 87 #[.func (.yield l) #[] #[], .pointer (some ⟨Bs, 0, none⟩), .pointer (some ⟨Bs + 1, 0, none⟩)] W fun e W' => (∃ v, e = .returned v) ∧
      ((∃ ys, ys = chL 2 ∧ J ys W') ∨ (∃ pre, (pre = chL 1 ∨ pre = chL 2) ∧ Jx pre W')) := by
  unfold maxLen at hcm
  refine callsIn_of_wp Try.func87 rfl h7 ?_ hro
  simp only [Try.ntmps87, List.size_toArray, List.length_cons, List.length_nil, Nat.reduceAdd, Nat.reduceSub, Array.replicate_succ, Array.replicate_zero, List.push_toArray, List.append_toArray, List.nil_append, List.cons_append]
  gi_wp2
  gi_loopw [4, 5] (fun i _ wr => KeepC n₀ Bs W wr ∧ ((i = .int .i64 0 ∧ J (chL 0) wr) ∨ (i = .int .i64 128 ∧ J (chL 1) wr) ∨ (i = .int .i64 256 ∧ J (chL 2) wr))) (fun i _ _ => (256 - intOf i).toNat)
  case atStart => exact ⟨KeepC.refl _ _ _, .inl ⟨rfl, h0⟩⟩
  case round =>
    obtain ⟨hnx, hJs⟩ := hrel
    have hBs' : wr.cell? ⟨Bs, 0, none⟩ = some (.slice (some ⟨b, off, none⟩) 256 cap) := hnx.2.1.trans hBs
    have hBn' : wr.cell? ⟨Bs + 1, 0, none⟩ = some (.int .i64 128) := hnx.2.2.trans hBn
    rcases hJs with ⟨rfl, hJs⟩ | ⟨rfl, hJs⟩ | ⟨rfl, hJs⟩
    · obtain ⟨fn, tmps, assign, body, hy, hR⟩ := hY _ 0 wr.drew (hJd _ _ hJs) (by decide)
      have hy' : (Instr.yield l #[.slice (some ⟨b, off, none⟩) 128 128]).run Try.prog wr.drew = .ok (.round l fn tmps assign body) wr.drew := hy
      have HK := Lib.hid hnx
      clear hnx hJs hBs hBn hy
      have m1 : min (128 : Int) 256 = 128 := by decide
      gi_wp2
      gi_region
      all_goals
        gi_wp2
        refine hR.mono ?_
        rintro e W3 (⟨rfl, hJ3, hk3⟩ | ⟨rfl, hJx3⟩)
        · have HJ3 := Lib.hid hJ3
          have HK3 := Lib.hid hk3
          have hb3 := hk3.2.1.trans hBs'
          have hb4 := hk3.2.2.trans hBn'
          clear hJ3 hk3
          gi_wp2
          go_roundw
          case rel => exact ⟨HK.out.trans (KeepC.trans ⟨(Below.refl _ _).drew, rfl, rfl⟩ HK3.out), .inr (.inl ⟨rfl, HJ3.out⟩)⟩
          case measure => (simp [intOf])
        · gi_wp2
          refine bodyPost_ret (results_none rfl _ _ _) rfl ?_
          exact ⟨⟨_, rfl⟩, .inr ⟨_, .inl rfl, hJx3⟩⟩
    · obtain ⟨fn, tmps, assign, body, hy, hR⟩ := hY _ 1 wr.drew (hJd _ _ hJs) (by decide)
      have hy' : (Instr.yield l #[.slice (some ⟨b, off + 128, none⟩) 128 128]).run Try.prog wr.drew = .ok (.round l fn tmps assign body) wr.drew := hy
      have HK := Lib.hid hnx
      clear hnx hJs hBs hBn hy
      have m1 : min (128 : Int) 128 = 128 := by decide
      gi_wp2
      gi_region
      all_goals
        gi_wp2
        refine hR.mono ?_
        rintro e W3 (⟨rfl, hJ3, hk3⟩ | ⟨rfl, hJx3⟩)
        · have HJ3 := Lib.hid hJ3
          have HK3 := Lib.hid hk3
          have hb3 := hk3.2.1.trans hBs'
          have hb4 := hk3.2.2.trans hBn'
          clear hJ3 hk3
          gi_wp2
          go_roundw
          case rel => exact ⟨HK.out.trans (KeepC.trans ⟨(Below.refl _ _).drew, rfl, rfl⟩ HK3.out), .inr (.inr ⟨rfl, HJ3.out⟩)⟩
          case measure => (simp [intOf])
        · gi_wp2
          refine bodyPost_ret (results_none rfl _ _ _) rfl ?_
          exact ⟨⟨_, rfl⟩, .inr ⟨_, .inr rfl, hJx3⟩⟩
    · clear hBs hBn
      gi_wp2
      go_end0
      exact ⟨⟨_, rfl⟩, .inl ⟨_, rfl, hJs⟩⟩

theorem chunk1_stops (F : Fence) (n : Nat) (h7 : F.fn 87) (hro : F.round = none) (hn : 1 ≤ n) (Bs n₀ b off cap : Nat) (hlm : 256 ≤ cap) (hcm : cap ≤ maxLen) (w : World) (hBs : Bs + 1 < w.heap.size)
    (hc : w.cell? ⟨Bs, 0, none⟩ = some (.slice (some ⟨b, off, none⟩) 256 cap)) (hc2 : w.cell? ⟨Bs + 1, 0, none⟩ = some (.int .i64 128)) :
    SeqStopsK F n Try.prog 87 #[.pointer (some ⟨Bs, 0, none⟩), .pointer (some ⟨Bs + 1, 0, none⟩)] (encC b off) (KeepC n₀ Bs) (fun ys => ys = chL 2) (fun pre => pre = chL 1 ∨ pre = chL 2) 2 w :=
  fun l J Jx W hW hJ _ hY h0 => chunk1_in F n h7 hro hn l Bs n₀ b off cap hlm hcm J Jx (fun s W h => hJ s W W.drew none h ⟨rfl, rfl, rfl, Nat.le_refl _, fun _ _ _ => rfl⟩ (fun r e => by cases e)) hY W ((hW.cell (p := ⟨Bs, 0, none⟩) (by show Bs < w.heap.size; omega)).trans hc) ((hW.cell (p := ⟨Bs + 1, 0, none⟩) hBs).trans hc2) h0
set_option maxRecDepth 100000 in
set_option maxHeartbeats 1000000 in
theorem chunk_in (F : Fence) (n : Nat) (h5 : F.fn 54) (hro : F.round = none) (a : Option Addr) (len cap : Nat) (w : World) :
    CallsIn F n Try.prog 54 #[.slice a len cap, .int .i64 128] w fun e w' => e = .returned (.func (.func 87) #[] #[.pointer (some ⟨w.heap.size, 0, none⟩), .pointer (some ⟨w.heap.size + 1, 0, none⟩)]) ∧ w' = (w.alloc (.cells #[.slice a len cap] 22)).alloc (.cells #[.int .i64 128] 3) := by
  refine callsIn_of_wp Try.func54 rfl h5 ?_ hro
  simp only [Try.ntmps54, List.size_toArray, List.length_cons, List.length_nil, Nat.reduceAdd, Nat.reduceSub, Array.replicate_succ, Array.replicate_zero, List.push_toArray, List.append_toArray, List.nil_append, List.cons_append]
  gi_wp2
  go_ret
  exact ⟨rfl, rfl⟩
end Go.Proofs.Ytfdogefoodljaaa

