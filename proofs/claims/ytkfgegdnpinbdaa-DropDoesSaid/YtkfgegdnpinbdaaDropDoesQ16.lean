/- DropDoes: the words and contracts, part 16. -/
import Derived.Test.YtkfgegdnpinbdaaDropDoesQ1
import Derived.Test.YtkfgegdnpinbdaaDropDoesQ2
import Derived.Test.YtkfgegdnpinbdaaDropDoesQ3
import Derived.Test.YtkfgegdnpinbdaaDropDoesQ4
import Derived.Test.YtkfgegdnpinbdaaDropDoesQ5
import Derived.Test.YtkfgegdnpinbdaaDropDoesQ6
import Derived.Test.YtkfgegdnpinbdaaDropDoesQ7
import Derived.Test.YtkfgegdnpinbdaaDropDoesQ8
import Derived.Test.YtkfgegdnpinbdaaDropDoesQ9
import Derived.Test.YtkfgegdnpinbdaaDropDoesQ10
import Derived.Test.YtkfgegdnpinbdaaDropDoesQ11
import Derived.Test.YtkfgegdnpinbdaaDropDoesQ12
import Derived.Test.YtkfgegdnpinbdaaDropDoesQ13
import Derived.Test.YtkfgegdnpinbdaaDropDoesQ14
import Derived.Test.YtkfgegdnpinbdaaDropDoesQ15
import Derived.WalkKit
import Derived.WalkLawsBesides
import Derived.WalkSpells
import Derived.Lib.Hide
import Derived.Laws.Rows
import Derived.Laws.AppendOwnNone
import Derived.Maps.AppendAt
import Derived.RangeFuncNested
import Derived.RangeFuncBound
import Derived.RangeFuncCalls
import Derived.RangeFuncLeaves
import Derived.RangeFuncBox
import Derived.Shelf.Abstract
import Derived.Shelf.RegionOpen
import Derived.OwnWalkIn
import Derived.TacticsInMore
import Derived.LoopNIn
import Derived.LoopIn
import Derived.ProofKit
import Derived.Deep.Slices
import Derived.WideShapes
import Derived.OrdersHeld
import Derived.Deep.QuietTactic
import Derived.BigQuiet
import Derived.StillTailTactics
import Derived.OpenShut
import Derived.Lib.SliceRun
import Derived.Lib.AppendZerosOnto
import Derived.Lib.Walk
import Derived.Deep.LoopGhost
import Derived.Laws.CopyOwn
import Derived.Deep.DeepCutAuto
import Derived.Laws.CopyRow
import Derived.Laws.MakeOwn
import Derived.Deep.RegionHeld
import Derived.KernelRfl
import Derived.BigFrameIn
import Derived.OrdersIn
namespace Go.Proofs.Ytkfgegdnpinbdaa
open Go.RowKit

set_option linter.unusedSimpArgs false
/-- A disk whose data lies in T, or from lo on, below hi. -/
def LG (T : World) (lo hi : Nat) (b u : Value) (d : DiskL) (V : World) : Prop := Lv lo hi (fun W => ∀ X : World, hi ≤ X.heap.size → CKc T X → (∀ k, lo ≤ k → k < hi → X.heap[k]? = W.heap[k]?) → DiskV X 0 X.heap.size b u d) V
theorem LG.of {T w w' : World} {b u : Value} {d : DiskL} (h : GotT T w w' b u d) : LG T w.heap.size w'.heap.size b u d w' :=
  ⟨Nat.le_refl _, fun _ hW X hs hc hk => h.disk X hs hc fun k h1 h2 => (hk k h1 h2).trans (hW k h1 h2)⟩
theorem LG.step {T V V' : World} {lo hi : Nat} {b u : Value} {d : DiskL} (h : LG T lo hi b u d V) (hb : Below V.heap.size V V') : LG T lo hi b u d V' := Lv.step h hb
theorem LG.out {T V V' : World} {lo hi n0 h0 : Nat} {b u : Value} {d : DiskL} (h : LG T lo hi b u d V) (hs : V.heap.size ≤ V'.heap.size) (hf : ∀ x, x < V.heap.size → (x < n0 ∨ h0 ≤ x) → V'.heap[x]? = V.heap[x]?) (hd : hi ≤ n0 ∨ h0 ≤ lo) : LG T lo hi b u d V' := Lv.out h hs hf hd
theorem LG.v {T V : World} {lo hi : Nat} {b u : Value} {d : DiskL} (h : LG T lo hi b u d V) (hc : CKc T V) : DiskV V 0 V.heap.size b u d := (Lv.get h) V (Lv.hi_le h) hc fun _ _ _ => rfl
/-- A store whose data lies in T, or in what was made from w on. -/
structure GotS (T w w' : World) (b u x y : Value) (s : StoreL) : Prop where
  store : ∀ W : World, w'.heap.size ≤ W.heap.size → CKc T W → (∀ k, w.heap.size ≤ k → k < w'.heap.size → W.heap[k]? = w'.heap[k]?) → StoreV W 0 W.heap.size b u x y s
  below : Below w.heap.size w w'
theorem GotS.got {T w w' : World} {b u x y : Value} {s : StoreL} (h : GotS T w w' b u x y s) (hc : CKc T w) : StoreV w' 0 w'.heap.size b u x y s := h.store w' (Nat.le_refl _) (hc.trans (CKc.below h.below)) (fun _ _ _ => rfl)
def LGS (T : World) (lo hi : Nat) (b u x y : Value) (s : StoreL) (V : World) : Prop := Lv lo hi (fun W => ∀ X : World, hi ≤ X.heap.size → CKc T X → (∀ k, lo ≤ k → k < hi → X.heap[k]? = W.heap[k]?) → StoreV X 0 X.heap.size b u x y s) V
theorem LGS.of {T w w' : World} {b u x y : Value} {s : StoreL} (h : GotS T w w' b u x y s) : LGS T w.heap.size w'.heap.size b u x y s w' :=
  ⟨Nat.le_refl _, fun _ hW X hs hc hk => h.store X hs hc fun k h1 h2 => (hk k h1 h2).trans (hW k h1 h2)⟩
theorem LGS.step {T V V' : World} {lo hi : Nat} {b u x y : Value} {s : StoreL} (h : LGS T lo hi b u x y s V) (hb : Below V.heap.size V V') : LGS T lo hi b u x y s V' := Lv.step h hb
theorem LGS.out {T V V' : World} {lo hi n0 h0 : Nat} {b u x y : Value} {s : StoreL} (h : LGS T lo hi b u x y s V) (hs : V.heap.size ≤ V'.heap.size) (hf : ∀ x, x < V.heap.size → (x < n0 ∨ h0 ≤ x) → V'.heap[x]? = V.heap[x]?) (hd : hi ≤ n0 ∨ h0 ≤ lo) : LGS T lo hi b u x y s V' := Lv.out h hs hf hd
theorem LGS.v {T V : World} {lo hi : Nat} {b u x y : Value} {s : StoreL} (h : LGS T lo hi b u x y s V) (hc : CKc T V) : StoreV V 0 V.heap.size b u x y s := (Lv.get h) V (Lv.hi_le h) hc fun _ _ _ => rfl
theorem storeT_at {T w : World} {b u x y : Value} {s : StoreL} (hc : CKc T w) (hs : T.heap.size ≤ w.heap.size) (h : StoreV T 0 T.heap.size b u x y s) : StoreV w 0 w.heap.size b u x y s :=
  ⟨diskT_at hc hs h.1, bytesT_at hc hs h.2.1, bytesT_at hc hs h.2.2⟩
/-- What stays is still there behind a step that turned blocks from w on alone. -/
theorem CKc.fr {T w V : World} (hc : CKc T w) (h : LW w V) : CKc T V := hc.trans (CKc.below h)
/-- A block taken, of a store that may be. -/
def atR (s : StoreL) : Int := match freeS s with
  | [] => -1
  | p :: _ => if 4096 ≤ s.disk.waits.length then -1 else (p : Int)
def tkR (s : StoreL) (b : List UInt8) : StoreL := match freeS s with
  | [] => s
  | p :: _ => if 4096 ≤ s.disk.waits.length then s else ⟨⟨s.disk.blocks, s.disk.waits ++ [⟨(p : Int), b⟩]⟩, s.now.set p 1, s.last⟩
theorem tk_cases (s : StoreL) (b : List UInt8) : (freeS s = [] ∧ atR s = -1 ∧ tkR s b = s) ∨ ∃ p r, freeS s = p :: r ∧ (8 ≤ p ∧ p < 256) ∧ ((4096 ≤ s.disk.waits.length ∧ atR s = -1 ∧ tkR s b = s) ∨
    (s.disk.waits.length < 4096 ∧ atR s = (p : Int) ∧ tkR s b = ⟨⟨s.disk.blocks, s.disk.waits ++ [⟨(p : Int), b⟩]⟩, s.now.set p 1, s.last⟩)) := by
  unfold atR tkR
  rcases hf : freeS s with _ | ⟨p, r⟩
  · exact .inl ⟨rfl, rfl, rfl⟩
  · have hp : p ∈ freeN s 256 := by show p ∈ freeS s; rw [hf]; exact List.mem_cons_self
    obtain ⟨h1, h2⟩ := freeN_mem.1 hp
    refine .inr ⟨p, r, rfl, ⟨(noneAt_iff.1 h2).1, h1⟩, ?_⟩
    dsimp only
    by_cases h : 4096 ≤ s.disk.waits.length
    · rw [if_pos h, if_pos h]; exact .inl ⟨h, rfl, rfl⟩
    · rw [if_neg h, if_neg h]; exact .inr ⟨by omega, rfl, rfl⟩
/-- The program's words for the same. -/
theorem tk_is {s : StoreL} {b : List UInt8} (hm : mayS s = true) (hl : b.length = 128) : (atR s < 0 ∧ errTk s b = 9 ∧ atTk s b = 0 ∧ takeS s b = noS) ∨ (0 ≤ atR s ∧ errTk s b = 0 ∧ atTk s b = atR s ∧ takeS s b = tkR s b) := by
  have hz : ∀ e : Int, e ≠ 0 → errTk s b = e → atTk s b = 0 ∧ takeS s b = noS := fun e h1 h2 => by unfold atTk takeS; rw [h2, if_neg h1, if_neg h1]; exact ⟨rfl, rfl⟩
  have he0 : freeS s = [] → errTk s b = 9 := fun h => by unfold errTk; rw [hm, if_pos rfl, if_pos hl, h]
  have he1 : ∀ p r, freeS s = p :: r → errTk s b = errW s.disk p b := fun p r h => by unfold errTk; rw [hm, if_pos rfl, if_pos hl, h]
  have hmd := (mayS_iff.1 hm).1
  rcases tk_cases s b with ⟨h1, h2, -⟩ | ⟨p, r, h1, h2, ⟨h3, h4, -⟩ | ⟨h3, h4, h5⟩⟩
  · have he := he0 h1
    exact .inl ⟨by rw [h2]; decide, he, hz 9 (by decide) he⟩
  · have he := he1 p r h1
    have h9 : errW s.disk p b = 9 := by
      have hw := (may_len hmd).2.1
      have ha : errA s.disk (p : Int) = 0 := by rw [errA_may _ hmd, if_neg (by omega)]
      unfold errW
      rw [ha, if_neg (by simp), if_neg (by simpa using hl), if_pos (by omega)]
    rw [h9] at he
    exact .inl ⟨by rw [h4]; decide, he, hz 9 (by decide) he⟩
  · have he := he1 p r h1
    have h9 : errW s.disk p b = 0 := by
      have ha : errA s.disk (p : Int) = 0 := by rw [errA_may _ hmd, if_neg (by omega)]
      unfold errW
      rw [ha, if_neg (by simp), if_neg (by simpa using hl), if_neg (by omega)]
    rw [h9] at he
    have hh : headS s = p := by unfold headS; rw [h1]; rfl
    refine .inr ⟨by omega, he, ?_, ?_⟩
    · unfold atTk
      rw [if_pos he, hh, h4]
    · unfold takeS
      rw [if_pos he, hh, h5]
      unfold writeD
      rw [if_pos h9]
set_option maxRecDepth 100000 in
set_option maxHeartbeats 2000000 in
theorem rstaken_T (b_s u_s x_s y_s : Value) (s : StoreL) (v_b : Value) (b : List UInt8) (w T : World) (hck : CKc T w) (hsT : T.heap.size ≤ w.heap.size) (hT_s : StoreV T 0 T.heap.size b_s u_s x_s y_s s) (hT_b : Bytes T 0 T.heap.size v_b b) (hm : mayS s = true) :
    Calls Try.prog 41 #[.agg #[b_s, u_s, x_s, y_s], v_b] w fun e w' => ∃ b' u' x' y', e = .returned (.tuple #[.agg #[b', u', x', y'], .int .i64 (atR s)]) ∧ GotS T w w' b' u' x' y' (tkR s b) := by
  have h_s := storeT_at hck hsT hT_s
  have h_b := bytesT_at hck hsT hT_b
  have HT := Lib.hid (And.intro hck (And.intro hsT (And.intro hT_s hT_b)))
  clear hck hsT hT_s hT_b
  obtain ⟨ab_s, cb_s, rfl, gb_s, gc_s, -, -⟩ := h_s.1.1
  obtain ⟨au_s, cu_s, rfl, gu_s, gv_s, -, -⟩ := h_s.1.2
  obtain ⟨ax_s, cx_s, rfl, gx_s, gz_s⟩ := h_s.2.1.form rfl
  obtain ⟨ay_s, cy_s, rfl, gy_s, gw_s⟩ := h_s.2.2.form rfl
  unfold maxLen at gc_s gv_s gz_s gw_s
  obtain ⟨a_b, c_b, rfl, g_b, gm_b⟩ := h_b.form rfl
  unfold maxLen at gm_b
  have hst := (((Below.refl w.heap.size w).alloc (Nat.le_refl _) (.cells #[.slice ab_s s.disk.blocks.length cb_s, .slice au_s s.disk.waits.length cu_s, .slice ax_s s.now.length cx_s, .slice ay_s s.last.length cy_s] 28)).alloc (by simp) (.cells #[.slice none 0 0, .slice none 0 0, .slice none 0 0, .slice none 0 0] 28))
  have hq := two_new w (.cells #[.slice ab_s s.disk.blocks.length cb_s, .slice au_s s.disk.waits.length cu_s, .slice ax_s s.now.length cx_s, .slice ay_s s.last.length cy_s] 28) (.cells #[.slice none 0 0, .slice none 0 0, .slice none 0 0, .slice none 0 0] 28)
  have q_s := LK.of hq.1
  have q_r := LK.of hq.2
  have hB : LW w _ := hst
  have O_s := (LO.of h_s (Nat.le_refl _)).step hst
  have B_b := (LB.of h_b (Nat.le_refl _)).step hst
  have sz_V : w.heap.size + 1 < ((w.alloc (.cells #[.slice ab_s s.disk.blocks.length cb_s, .slice au_s s.disk.waits.length cu_s, .slice ax_s s.now.length cx_s, .slice ay_s s.last.length cy_s] 28)).alloc (.cells #[.slice none 0 0, .slice none 0 0, .slice none 0 0, .slice none 0 0] 28)).heap.size := by simp
  obtain ⟨V, hV⟩ : ∃ V, ((w.alloc (.cells #[.slice ab_s s.disk.blocks.length cb_s, .slice au_s s.disk.waits.length cu_s, .slice ax_s s.now.length cx_s, .slice ay_s s.last.length cy_s] 28)).alloc (.cells #[.slice none 0 0, .slice none 0 0, .slice none 0 0, .slice none 0 0] 28)) = V := ⟨_, rfl⟩
  rw [hV] at sz_V q_s q_r O_s B_b hB
  clear hst h_s h_b hq
  have HQ := Lib.hid (And.intro q_s (And.intro q_r (And.intro O_s (And.intro B_b hB))))
  clear q_s q_r O_s B_b hB
  have c_q_s0 := LK.cell HQ.out.1 0
  have c_q_s1 := LK.cell HQ.out.1 1
  have c_q_s2 := LK.cell HQ.out.1 2
  have c_q_s3 := LK.cell HQ.out.1 3
  have c_q_r0 := LK.cell HQ.out.2.1 0
  have c_q_r1 := LK.cell HQ.out.2.1 1
  have c_q_r2 := LK.cell HQ.out.2.1 2
  have c_q_r3 := LK.cell HQ.out.2.1 3
  simp at c_q_s0 c_q_s1 c_q_s2 c_q_s3 c_q_r0 c_q_r1 c_q_r2 c_q_r3
  have hE := tk_cases s b
  have hmd := (mayS_iff.1 hm).1
  have hwl := (may_len hmd).2.1
  have h256 := mayT_len (mayS_iff.1 hm).2.1
  have k_a := fun V b u x y hh => rsall_any b u x y s V hh hm
  generalize atR s = ta at *
  generalize tkR s b = ts at *
  generalize freeS s = fs at *
  have HE := Lib.hid (And.intro hE (And.intro hwl h256))
  clear hE hmd hwl h256 hm
  have HC := Lib.hid (k_a)
  clear k_a
  go_enter Try.func41, Try.ntmps41
  go_upto_region 1 with (fail)
  clear hV
  go_wp2_with fail
  refine (HC.out _ _ _ _ _ HQ.out.2.2.1.v).mono ?_
  rintro e w1 ⟨vl, rfl, hsl, hst⟩
  clear c_q_s0 c_q_s1 c_q_s2 c_q_s3 c_q_r0 c_q_r1 c_q_r2 c_q_r3
  obtain ⟨q_s, q_r, O_s, B_b, hB⟩ := HQ.out
  clear HQ
  have S_l := LS.of hsl (Nat.le_refl _)
  obtain ⟨al, cl, rfl, -, -, -, -⟩ := id hsl
  clear hsl
  have sz_w1 : V.heap.size ≤ w1.heap.size := hst.size
  replace q_s := q_s.step hst
  replace q_r := q_r.step hst
  replace O_s := O_s.step hst
  replace B_b := B_b.step hst
  replace hB := hB.step hst
  clear hst
  have HQ := Lib.hid (And.intro q_s (And.intro q_r (And.intro O_s (And.intro B_b (And.intro S_l hB)))))
  clear q_s q_r O_s B_b S_l hB
  have c_q_s0 := LK.cell HQ.out.1 0
  have c_q_s1 := LK.cell HQ.out.1 1
  have c_q_s2 := LK.cell HQ.out.1 2
  have c_q_s3 := LK.cell HQ.out.1 3
  have c_q_r0 := LK.cell HQ.out.2.1 0
  have c_q_r1 := LK.cell HQ.out.2.1 1
  have c_q_r2 := LK.cell HQ.out.2.1 2
  have c_q_r3 := LK.cell HQ.out.2.1 3
  simp at c_q_s0 c_q_s1 c_q_s2 c_q_s3 c_q_r0 c_q_r1 c_q_r2 c_q_r3
  rcases HE.out.1 with ⟨rfl, rfl, hts⟩ | ⟨p, r, rfl, ⟨p8, p9⟩, hE2⟩
  · skip
    clear c_q_s0 c_q_s1 c_q_s2 c_q_s3 c_q_r0 c_q_r1 c_q_r2 c_q_r3
    have c_q_s0 := LK.cell HQ.out.1 0
    have c_q_s1 := LK.cell HQ.out.1 1
    have c_q_s2 := LK.cell HQ.out.1 2
    have c_q_s3 := LK.cell HQ.out.1 3
    have c_q_r0 := LK.cell HQ.out.2.1 0
    have c_q_r1 := LK.cell HQ.out.2.1 1
    have c_q_r2 := LK.cell HQ.out.2.1 2
    have c_q_r3 := LK.cell HQ.out.2.1 3
    have z_q_r0 := LK.frozen HQ.out.2.1 0
    have z_q_r1 := LK.frozen HQ.out.2.1 1
    have z_q_r2 := LK.frozen HQ.out.2.1 2
    have z_q_r3 := LK.frozen HQ.out.2.1 3
    simp at c_q_s0 c_q_s1 c_q_s2 c_q_s3 c_q_r0 c_q_r1 c_q_r2 c_q_r3
    have HTS := Lib.hid hts
    clear hts
    have hBf := HQ.out.2.2.2.2.2
    have szr := LK.lt HQ.out.2.1
    go_wp2
    refine bodyPost_ret (v := .tuple #[.agg #[.slice ab_s s.disk.blocks.length cb_s, .slice au_s s.disk.waits.length cu_s, .slice ax_s s.now.length cx_s, .slice ay_s s.last.length cy_s], .int .i64 (-1)]) (by simp [results, Try.results41, go_sem, c_q_r0, c_q_r1, c_q_r2, c_q_r3]) rfl ⟨_, _, _, _, rfl, ?_⟩
    rw [HTS.out]
    refine ⟨fun X hs hc _ => storeT_at hc (Nat.le_trans HT.out.2.1 (Nat.le_trans (Nat.le_of_lt (by omega : w.heap.size < w1.heap.size)) (Nat.le_trans (Nat.le_of_eq (by simp only [World.size_setCell])) hs))) HT.out.2.2.1, ?_⟩
    exact Below.trans hBf (below_four w1 _ _ _ _ (Nat.le_succ _))
  have il : (intsOf (p :: r)).length = r.length + 1 := by simp [intsOf]
  skip
  obtain ⟨n1, hn1⟩ : ∃ n, (intsOf (p :: r)).length = n := ⟨_, rfl⟩
  have hn0 : ¬ (n1 : Int) = 0 := by omega
  have hn2 : ¬ (n1 : Int) ≤ 0 := by omega
  have hn3 : (0 : Int) < n1 := by omega
  rcases hE2 with ⟨hw, rfl, hts⟩ | ⟨hw, rfl, hts⟩
  · have iw : decide ((4096 : Int) ≤ (s.disk.waits.length : Int)) = true := by simp; omega
    rw [hn1]
    clear c_q_s0 c_q_s1 c_q_s2 c_q_s3 c_q_r0 c_q_r1 c_q_r2 c_q_r3
    have c_q_s0 := LK.cell HQ.out.1 0
    have c_q_s1 := LK.cell HQ.out.1 1
    have c_q_s2 := LK.cell HQ.out.1 2
    have c_q_s3 := LK.cell HQ.out.1 3
    have c_q_r0 := LK.cell HQ.out.2.1 0
    have c_q_r1 := LK.cell HQ.out.2.1 1
    have c_q_r2 := LK.cell HQ.out.2.1 2
    have c_q_r3 := LK.cell HQ.out.2.1 3
    have z_q_r0 := LK.frozen HQ.out.2.1 0
    have z_q_r1 := LK.frozen HQ.out.2.1 1
    have z_q_r2 := LK.frozen HQ.out.2.1 2
    have z_q_r3 := LK.frozen HQ.out.2.1 3
    simp at c_q_s0 c_q_s1 c_q_s2 c_q_s3 c_q_r0 c_q_r1 c_q_r2 c_q_r3
    have HTS := Lib.hid hts
    clear hts
    have hBf := HQ.out.2.2.2.2.2
    have szr := LK.lt HQ.out.2.1
    go_wp2
    refine bodyPost_ret (v := .tuple #[.agg #[.slice ab_s s.disk.blocks.length cb_s, .slice au_s s.disk.waits.length cu_s, .slice ax_s s.now.length cx_s, .slice ay_s s.last.length cy_s], .int .i64 (-1)]) (by simp [results, Try.results41, go_sem, c_q_r0, c_q_r1, c_q_r2, c_q_r3]) rfl ⟨_, _, _, _, rfl, ?_⟩
    rw [HTS.out]
    refine ⟨fun X hs hc _ => storeT_at hc (Nat.le_trans HT.out.2.1 (Nat.le_trans (Nat.le_of_lt (by omega : w.heap.size < w1.heap.size)) (Nat.le_trans (Nat.le_of_eq (by simp only [World.size_setCell])) hs))) HT.out.2.2.1, ?_⟩
    exact Below.trans hBf (below_four w1 _ _ _ _ (Nat.le_succ _))
  have HTS := Lib.hid hts
  clear hts
  have iw : decide ((4096 : Int) ≤ (s.disk.waits.length : Int)) = false := by simp; omega
  obtain ⟨a0, c0, e0, -, zc0, zc, -⟩ := id (Lv.get HQ.out.2.2.2.2.1)
  injection e0 with e0 e1 e2
  subst e0 e2
  clear e1
  obtain ⟨bl, ol, rfl, hbl, hbu, hcl⟩ := zc (by rw [il]; omega)
  have cp := (hcl 0 (p : Int) (by simp [intsOf])).1
  simp at cp
  unfold maxLen at zc0
  have HP := Lib.hid (And.intro hbl (And.intro hbu hw))
  clear hcl zc hw hbl hbu
  have S_c : Lv V.heap.size w1.heap.size (fun W => W.cell? ⟨bl, ol, none⟩ = some (.int .i64 (p : Int))) w1 := Lv.imp HQ.out.2.2.2.2.1 fun W hW => by
    obtain ⟨a1, c1, e1, -, -, zc, -⟩ := hW
    injection e1 with e1 e2 e3
    subst e1
    obtain ⟨b1, o1, e2, -, -, hcl⟩ := zc (by rw [il]; omega)
    injection e2 with e2
    injection e2 with e2 e3
    subst e2 e3
    have := (hcl 0 (p : Int) (by simp [intsOf])).1
    simpa using this
  rw [hn1]
  clear il cp
  obtain ⟨q_s, q_r, O_s, B_b, S_l, hB⟩ := HQ.out
  clear HQ
  clear S_l
  have HQ := Lib.hid (And.intro q_s (And.intro q_r (And.intro O_s (And.intro B_b (And.intro S_c hB)))))
  clear q_s q_r O_s B_b S_c hB
  clear c_q_s0 c_q_s1 c_q_s2 c_q_s3 c_q_r0 c_q_r1 c_q_r2 c_q_r3
  have c_q_s0 := LK.cell HQ.out.1 0
  have c_q_s1 := LK.cell HQ.out.1 1
  have c_q_s2 := LK.cell HQ.out.1 2
  have c_q_s3 := LK.cell HQ.out.1 3
  have c_q_r0 := LK.cell HQ.out.2.1 0
  have c_q_r1 := LK.cell HQ.out.2.1 1
  have c_q_r2 := LK.cell HQ.out.2.1 2
  have c_q_r3 := LK.cell HQ.out.2.1 3
  simp at c_q_s0 c_q_s1 c_q_s2 c_q_s3 c_q_r0 c_q_r1 c_q_r2 c_q_r3
  have wfp : (Lit.int .i64 (p : Int)).wf = true := WalkArith.wf_i64 (by omega)
  have ip0 : ¬ (p : Int) < 0 := by omega
  go_upto_region 4 with (fail)
  clear c_q_s0 c_q_s1 c_q_s2 c_q_s3 c_q_r0 c_q_r1 c_q_r2 c_q_r3
  obtain ⟨Pr, hPr⟩ : ∃ Pr : World → Prop, ∀ X, Pr X ↔ Below w1.heap.size w1 X := ⟨_, fun _ => Iff.rfl⟩
  have hp0 : Pr w1.drew := (hPr _).2 (Below.refl _ w1).drew
  have x0 := fun X => LK.cell (HQ.out.1.step ((hPr _).1 (selW_pr hp0 X))) 0
  have x1 := fun X => LK.cell (HQ.out.1.step ((hPr _).1 (selW_pr hp0 X))) 1
  have x2 := fun X => LK.cell (HQ.out.1.step ((hPr _).1 (selW_pr hp0 X))) 2
  have x3 := fun X => LK.cell (HQ.out.1.step ((hPr _).1 (selW_pr hp0 X))) 3
  simp at x0 x1 x2 x3
  have xc := fun X => Lv.get (Lv.step HQ.out.2.2.2.2.1 ((hPr _).1 (selW_pr hp0 X)))
  refine wp_region_L (S := Kl Pr w1.drew) 8 (by kernel_rfl) (Kl.of hp0) (fun hCl => ?_)
  refine wpAnyL_seg (fuel := 3) (by kernel_rfl) (fun _ d _ _ _ h => by cases d <;> exact h) hCl [0, 1, 2, 3, 4, 5] _ _ _ (by kernel_rfl) (by kernel_rfl) (by kernel_rfl) (by kernel_rfl) ?_
  simp only [opsOf_cons, opsOf_nil, consOp_some, List.getElem?_toArray, List.getElem?_cons_succ, List.getElem?_cons_zero]
  repeat (first | go_big_quiet_step (fail) | quiet_step (fail))
  refine wpQuiet_nil ?_
  refine wpAnyL_each (fuel := 2) [6] (by kernel_rfl) (by simp) (by kernel_rfl) ?_
  refine EachL.cons _ rfl (fun K' hK => ?_) EachL.nil
  go_simp
  refine (rwithT _ _ s.disk (p : Int) _ b _ T (CKc.fr HT.out.1 (LW.step HQ.out.2.2.2.2.2 (Below.refl _ w1).drew)) (Nat.le_trans HT.out.2.1 (by show w.heap.size ≤ w1.heap.size; omega)) HT.out.2.2.1.1 HT.out.2.2.2 wfp (by have := HP.out.2.2; omega)).mono ?_
  rintro e z4 ⟨b1, u1, rfl, hg⟩
  have hdv := (hg.got (CKc.fr HT.out.1 (LW.step HQ.out.2.2.2.2.2 (Below.refl _ w1).drew))).disk
  obtain ⟨ab_n, cb_n, rfl, -, -, -, -⟩ := id hdv.1
  obtain ⟨au_n, cu_n, rfl, -, -, -, -⟩ := id hdv.2
  clear hdv
  have hst4 : Below w1.heap.size w1 z4 := (Below.refl _ w1).drew.trans hg.below
  have hst := (hPr _).2 hst4
  have HG := Lib.hid (And.intro hg hst4)
  clear hg hst4
  have hCl : Kl Pr w1.drew _ := Kl.of hst
  refine hK.out (.inr hCl) ?_
  clear hK K'
  refine wpAnyL_seg (fuel := 1) (by kernel_rfl) (fun _ d _ _ _ h => by cases d <;> exact h) hCl [7] _ _ _ (by kernel_rfl) (by kernel_rfl) (by kernel_rfl) (by kernel_rfl) ?_
  simp only [opsOf_cons, opsOf_nil, consOp_some, List.getElem?_toArray, List.getElem?_cons_succ, List.getElem?_cons_zero]
  repeat (first | go_big_quiet_step (fail) | quiet_step (fail))
  refine wpQuiet_nil ?_
  refine wpAnyL_each (fuel := 0) [8] (by kernel_rfl) (by simp) (by kernel_rfl) ?_
  refine EachL.cons _ rfl (fun K' hK => ?_) EachL.nil
  have r0 := LK.cell (HQ.out.1.step HG.out.2) 0
  have r1 := LK.cell (HQ.out.1.step HG.out.2) 1
  have r2 := LK.cell (HQ.out.1.step HG.out.2) 2
  have r3 := LK.cell (HQ.out.1.step HG.out.2) 3
  simp at r0 r1 r2 r3
  have s0 := LK.frozen (HQ.out.1.step HG.out.2) 0
  have s1 := LK.frozen (HQ.out.1.step HG.out.2) 1
  have s2 := LK.frozen (HQ.out.1.step HG.out.2) 2
  have s3 := LK.frozen (HQ.out.1.step HG.out.2) 3
  go_simp
  refine hK.out (.inl rfl) ?_
  clear hK K'
  refine wpAnyL_done (by kernel_rfl) ?_ _
  clear x0 x1 x2 x3 xc r0 r1 r2 r3 s0 s1 s2 s3
  obtain ⟨q_s, q_r, O_s, B_b, S_c, hB⟩ := HQ.out
  clear HQ
  have D_n := LG.of HG.out.1
  change LG T w1.heap.size _ _ _ _ _ at D_n
  have hwd : (s.disk.waits ++ [(⟨(p : Int), b⟩ : WrL)]).length = s.disk.waits.length + 1 := by simp
  simp only [List.length_append, List.length_cons, List.length_nil, Nat.zero_add] at D_n
  have hst := HG.out.2
  have sz_z4 : w1.heap.size ≤ z4.heap.size := hst.size
  replace q_s := q_s.step hst
  replace q_r := q_r.step hst
  replace O_s := O_s.step hst
  replace B_b := B_b.step hst
  replace S_c := S_c.step hst
  replace hB := hB.step hst
  clear hst hCl
  have HQ := Lib.hid (And.intro q_s (And.intro q_r (And.intro O_s (And.intro B_b (And.intro S_c (And.intro D_n hB))))))
  clear q_s q_r O_s B_b S_c D_n hB
  obtain ⟨q_s, q_r, O_s, B_b, S_c, D_n, hB⟩ := HQ.out
  clear HQ
  have hcb := LK.blk q_s
  have hF : LK (w.heap.size) (.cells #[.slice ab_n s.disk.blocks.length cb_n, .slice au_n (s.disk.waits.length + 1) cu_n, .slice ax_s s.now.length cx_s, .slice ay_s s.last.length cy_s] 28) ((z4.setCell ⟨w.heap.size, 0, none⟩ (.slice ab_n s.disk.blocks.length cb_n)).setCell ⟨w.heap.size, 1, none⟩ (.slice au_n (s.disk.waits.length + 1) cu_n)) := LK.of (set_block (set_block hcb 0 _) 1 _)
  have hbel : Below (w.heap.size) z4 ((z4.setCell ⟨w.heap.size, 0, none⟩ (.slice ab_n s.disk.blocks.length cb_n)).setCell ⟨w.heap.size, 1, none⟩ (.slice au_n (s.disk.waits.length + 1) cu_n)) := ((Below.refl _ z4).setCell (p := ⟨w.heap.size, 0, none⟩) (Nat.le_refl _) _).setCell (p := ⟨w.heap.size, 1, none⟩) (Nat.le_refl _) _
  have hfr : ∀ x, x < z4.heap.size → (x < w.heap.size ∨ w.heap.size + 1 ≤ x) → ((z4.setCell ⟨w.heap.size, 0, none⟩ (.slice ab_n s.disk.blocks.length cb_n)).setCell ⟨w.heap.size, 1, none⟩ (.slice au_n (s.disk.waits.length + 1) cu_n)).heap[x]? = z4.heap[x]? := fun x _ h => (set_other _ _ _ _ _ (by omega)).trans ((set_other _ _ _ _ _ (by omega)))
  have hs4 : ((z4.setCell ⟨w.heap.size, 0, none⟩ (.slice ab_n s.disk.blocks.length cb_n)).setCell ⟨w.heap.size, 1, none⟩ (.slice au_n (s.disk.waits.length + 1) cu_n)).heap.size = z4.heap.size := by simp only [World.size_setCell]
  replace q_r := q_r.out (Nat.le_of_eq hs4.symm) hfr (by omega)
  replace O_s := O_s.out (Nat.le_of_eq hs4.symm) hfr (by omega)
  replace B_b := B_b.out (Nat.le_of_eq hs4.symm) hfr (by omega)
  replace S_c := S_c.out (Nat.le_of_eq hs4.symm) hfr (by omega)
  replace D_n := D_n.out (Nat.le_of_eq hs4.symm) hfr (by omega)
  replace hB := hB.outB hbel (by omega)
  replace q_s := hF
  obtain ⟨w2, hw⟩ : ∃ v, ((z4.setCell ⟨w.heap.size, 0, none⟩ (.slice ab_n s.disk.blocks.length cb_n)).setCell ⟨w.heap.size, 1, none⟩ (.slice au_n (s.disk.waits.length + 1) cu_n)) = v := ⟨_, rfl⟩
  rw [hw] at hs4 q_s q_r O_s B_b S_c D_n hB ⊢
  have sz_w2 := Nat.le_of_eq hs4
  have sy_w2 := Nat.le_of_eq hs4.symm
  clear hw hF hbel hfr hcb hs4
  have HQ := Lib.hid (And.intro q_s (And.intro q_r (And.intro O_s (And.intro B_b (And.intro S_c (And.intro D_n hB))))))
  clear q_s q_r O_s B_b S_c D_n hB
  have c_q_s0 := LK.cell HQ.out.1 0
  have c_q_s1 := LK.cell HQ.out.1 1
  have c_q_s2 := LK.cell HQ.out.1 2
  have c_q_s3 := LK.cell HQ.out.1 3
  have c_q_r0 := LK.cell HQ.out.2.1 0
  have c_q_r1 := LK.cell HQ.out.2.1 1
  have c_q_r2 := LK.cell HQ.out.2.1 2
  have c_q_r3 := LK.cell HQ.out.2.1 3
  simp at c_q_s0 c_q_s1 c_q_s2 c_q_s3 c_q_r0 c_q_r1 c_q_r2 c_q_r3
  go_upto_region 5 with (fail)
  clear c_q_s0 c_q_s1 c_q_s2 c_q_s3 c_q_r0 c_q_r1 c_q_r2 c_q_r3
  obtain ⟨Pr, hPr⟩ : ∃ Pr : World → Prop, ∀ X, Pr X ↔ Below w2.heap.size w2 X := ⟨_, fun _ => Iff.rfl⟩
  have hp0 : Pr w2.drew := (hPr _).2 (Below.refl _ w2).drew
  have x0 := fun X => LK.cell (HQ.out.1.step ((hPr _).1 (selW_pr hp0 X))) 0
  have x1 := fun X => LK.cell (HQ.out.1.step ((hPr _).1 (selW_pr hp0 X))) 1
  have x2 := fun X => LK.cell (HQ.out.1.step ((hPr _).1 (selW_pr hp0 X))) 2
  have x3 := fun X => LK.cell (HQ.out.1.step ((hPr _).1 (selW_pr hp0 X))) 3
  simp at x0 x1 x2 x3
  have xc := fun X => Lv.get (Lv.step HQ.out.2.2.2.2.1 ((hPr _).1 (selW_pr hp0 X)))
  refine wp_region_L (S := Kl Pr w2.drew) 7 (by kernel_rfl) (Kl.of hp0) (fun hCl => ?_)
  refine wpAnyL_seg (fuel := 3) (by kernel_rfl) (fun _ d _ _ _ h => by cases d <;> exact h) hCl [0, 1, 2, 3, 4] _ _ _ (by kernel_rfl) (by kernel_rfl) (by kernel_rfl) (by kernel_rfl) ?_
  simp only [opsOf_cons, opsOf_nil, consOp_some, List.getElem?_toArray, List.getElem?_cons_succ, List.getElem?_cons_zero]
  repeat (first | go_big_quiet_step (fail) | quiet_step (fail))
  refine wpQuiet_nil ?_
  refine wpAnyL_each (fuel := 2) [5] (by kernel_rfl) (by simp) (by kernel_rfl) ?_
  refine EachL.cons _ rfl (fun K' hK => ?_) EachL.nil
  go_simp
  refine (rwitht_any _ s.now p 1 _ (HQ.out.2.2.1.step (Below.refl _ w2).drew).n HE.out.2.2 p9).mono ?_
  rintro e z5 ⟨u1, rfl, hg⟩
  obtain ⟨ax_n, cx_n, rfl, -, -⟩ := hg.bytes.form rfl
  have hst4 : Below w2.heap.size w2 z5 := (Below.refl _ w2).drew.trans hg.below
  have hst := (hPr _).2 hst4
  have HG := Lib.hid (And.intro hg hst4)
  clear hg hst4
  have hCl : Kl Pr w2.drew _ := Kl.of hst
  refine hK.out (.inr hCl) ?_
  clear hK K'
  refine wpAnyL_seg (fuel := 1) (by kernel_rfl) (fun _ d _ _ _ h => by cases d <;> exact h) hCl [6] _ _ _ (by kernel_rfl) (by kernel_rfl) (by kernel_rfl) (by kernel_rfl) ?_
  simp only [opsOf_cons, opsOf_nil, consOp_some, List.getElem?_toArray, List.getElem?_cons_succ, List.getElem?_cons_zero]
  repeat (first | go_big_quiet_step (fail) | quiet_step (fail))
  refine wpQuiet_nil ?_
  refine wpAnyL_each (fuel := 0) [7] (by kernel_rfl) (by simp) (by kernel_rfl) ?_
  refine EachL.cons _ rfl (fun K' hK => ?_) EachL.nil
  have r0 := LK.cell (HQ.out.1.step HG.out.2) 0
  have r1 := LK.cell (HQ.out.1.step HG.out.2) 1
  have r2 := LK.cell (HQ.out.1.step HG.out.2) 2
  have r3 := LK.cell (HQ.out.1.step HG.out.2) 3
  simp at r0 r1 r2 r3
  have s0 := LK.frozen (HQ.out.1.step HG.out.2) 0
  have s1 := LK.frozen (HQ.out.1.step HG.out.2) 1
  have s2 := LK.frozen (HQ.out.1.step HG.out.2) 2
  have s3 := LK.frozen (HQ.out.1.step HG.out.2) 3
  go_simp
  refine hK.out (.inl rfl) ?_
  clear hK K'
  refine wpAnyL_done (by kernel_rfl) ?_ _
  clear x0 x1 x2 x3 xc r0 r1 r2 r3 s0 s1 s2 s3
  obtain ⟨q_s, q_r, O_s, B_b, S_c, D_n, hB⟩ := HQ.out
  clear HQ
  have B_n := LM.of HG.out.1
  change LM w2.heap.size _ _ _ _ at B_n
  simp only [List.length_set] at B_n
  have hst := HG.out.2
  have sz_z5 : w2.heap.size ≤ z5.heap.size := hst.size
  replace q_s := q_s.step hst
  replace q_r := q_r.step hst
  replace O_s := O_s.step hst
  replace B_b := B_b.step hst
  replace S_c := S_c.step hst
  replace D_n := D_n.step hst
  replace hB := hB.step hst
  clear hst hCl
  have HQ := Lib.hid (And.intro q_s (And.intro q_r (And.intro O_s (And.intro B_b (And.intro S_c (And.intro D_n (And.intro B_n hB)))))))
  clear q_s q_r O_s B_b S_c D_n B_n hB
  obtain ⟨q_s, q_r, O_s, B_b, S_c, D_n, B_n, hB⟩ := HQ.out
  clear HQ
  have hcb := LK.blk q_s
  have hF : LK (w.heap.size) (.cells #[.slice ab_n s.disk.blocks.length cb_n, .slice au_n (s.disk.waits.length + 1) cu_n, .slice ax_n s.now.length cx_n, .slice ay_s s.last.length cy_s] 28) (z5.setCell ⟨w.heap.size, 2, none⟩ (.slice ax_n s.now.length cx_n)) := LK.of (set_block hcb 2 _)
  have hbel : Below (w.heap.size) z5 (z5.setCell ⟨w.heap.size, 2, none⟩ (.slice ax_n s.now.length cx_n)) := (Below.refl _ z5).setCell (p := ⟨w.heap.size, 2, none⟩) (Nat.le_refl _) _
  have hfr : ∀ x, x < z5.heap.size → (x < w.heap.size ∨ w.heap.size + 1 ≤ x) → (z5.setCell ⟨w.heap.size, 2, none⟩ (.slice ax_n s.now.length cx_n)).heap[x]? = z5.heap[x]? := fun x _ h => (set_other _ _ _ _ _ (by omega))
  have hs4 : (z5.setCell ⟨w.heap.size, 2, none⟩ (.slice ax_n s.now.length cx_n)).heap.size = z5.heap.size := by simp only [World.size_setCell]
  replace q_r := q_r.out (Nat.le_of_eq hs4.symm) hfr (by omega)
  replace O_s := O_s.out (Nat.le_of_eq hs4.symm) hfr (by omega)
  replace B_b := B_b.out (Nat.le_of_eq hs4.symm) hfr (by omega)
  replace S_c := S_c.out (Nat.le_of_eq hs4.symm) hfr (by omega)
  replace D_n := D_n.out (Nat.le_of_eq hs4.symm) hfr (by omega)
  replace B_n := B_n.out (Nat.le_of_eq hs4.symm) hfr (by omega)
  replace hB := hB.outB hbel (by omega)
  replace q_s := hF
  obtain ⟨w3, hw⟩ : ∃ v, (z5.setCell ⟨w.heap.size, 2, none⟩ (.slice ax_n s.now.length cx_n)) = v := ⟨_, rfl⟩
  rw [hw] at hs4 q_s q_r O_s B_b S_c D_n B_n hB ⊢
  have sz_w3 := Nat.le_of_eq hs4
  have sy_w3 := Nat.le_of_eq hs4.symm
  clear hw hF hbel hfr hcb hs4
  have HQ := Lib.hid (And.intro q_s (And.intro q_r (And.intro O_s (And.intro B_b (And.intro S_c (And.intro D_n (And.intro B_n hB)))))))
  clear q_s q_r O_s B_b S_c D_n B_n hB
  have c_q_s0 := LK.cell HQ.out.1 0
  have c_q_s1 := LK.cell HQ.out.1 1
  have c_q_s2 := LK.cell HQ.out.1 2
  have c_q_s3 := LK.cell HQ.out.1 3
  have c_q_r0 := LK.cell HQ.out.2.1 0
  have c_q_r1 := LK.cell HQ.out.2.1 1
  have c_q_r2 := LK.cell HQ.out.2.1 2
  have c_q_r3 := LK.cell HQ.out.2.1 3
  simp at c_q_s0 c_q_s1 c_q_s2 c_q_s3 c_q_r0 c_q_r1 c_q_r2 c_q_r3
  go_upto_region 6 with (fail)
  clear c_q_s0 c_q_s1 c_q_s2 c_q_s3 c_q_r0 c_q_r1 c_q_r2 c_q_r3
  have c_q_s0 := LK.cell HQ.out.1 0
  have c_q_s1 := LK.cell HQ.out.1 1
  have c_q_s2 := LK.cell HQ.out.1 2
  have c_q_s3 := LK.cell HQ.out.1 3
  have c_q_r0 := LK.cell HQ.out.2.1 0
  have c_q_r1 := LK.cell HQ.out.2.1 1
  have c_q_r2 := LK.cell HQ.out.2.1 2
  have c_q_r3 := LK.cell HQ.out.2.1 3
  have z_q_r0 := LK.frozen HQ.out.2.1 0
  have z_q_r1 := LK.frozen HQ.out.2.1 1
  have z_q_r2 := LK.frozen HQ.out.2.1 2
  have z_q_r3 := LK.frozen HQ.out.2.1 3
  simp at c_q_s0 c_q_s1 c_q_s2 c_q_s3 c_q_r0 c_q_r1 c_q_r2 c_q_r3
  have cp := Lv.get HQ.out.2.2.2.2.1
  have hbr : bl ≠ w.heap.size + 1 := by have := HP.out.1; omega
  have hbr2 : ¬ w.heap.size + 1 = bl := fun e => hbr e.symm
  have szr := LK.lt HQ.out.2.1
  go_region
  have hDn := HQ.out.2.2.2.2.2.1
  have hBn := HQ.out.2.2.2.2.2.2.1
  have hBf := HQ.out.2.2.2.2.2.2.2
  have HF := Lib.hid (And.intro hDn (And.intro hBn hBf))
  clear hDn hBn hBf
  go_wp2
  refine bodyPost_ret (v := .tuple #[.agg #[.slice ab_n s.disk.blocks.length cb_n, .slice au_n (s.disk.waits.length + 1) cu_n, .slice ax_n s.now.length cx_n, .slice ay_s s.last.length cy_s], .int .i64 (p : Int)]) (by simp [results, Try.results41, go_sem, c_q_r0, c_q_r1, c_q_r2, c_q_r3]) rfl ⟨_, _, _, _, rfl, ?_⟩
  rw [HTS.out]
  have hso : ∀ k, k ≠ w.heap.size + 1 → ((((w3.setCell ⟨w.heap.size + 1, 0, none⟩ (.slice ab_n s.disk.blocks.length cb_n)).setCell ⟨w.heap.size + 1, 1, none⟩ (.slice au_n (s.disk.waits.length + 1) cu_n)).setCell ⟨w.heap.size + 1, 2, none⟩ (.slice ax_n s.now.length cx_n)).setCell ⟨w.heap.size + 1, 3, none⟩ (.slice ay_s s.last.length cy_s)).heap[k]? = w3.heap[k]? := fun k h => (set_other _ _ _ _ _ h).trans ((set_other _ _ _ _ _ h).trans ((set_other _ _ _ _ _ h).trans (set_other _ _ _ _ _ h)))
  have hsx : ((((w3.setCell ⟨w.heap.size + 1, 0, none⟩ (.slice ab_n s.disk.blocks.length cb_n)).setCell ⟨w.heap.size + 1, 1, none⟩ (.slice au_n (s.disk.waits.length + 1) cu_n)).setCell ⟨w.heap.size + 1, 2, none⟩ (.slice ax_n s.now.length cx_n)).setCell ⟨w.heap.size + 1, 3, none⟩ (.slice ay_s s.last.length cy_s)).heap.size = w3.heap.size := by simp only [World.size_setCell]
  refine ⟨fun X hs hc hk => ?_, Below.trans HF.out.2.2 (below_four w3 _ _ _ _ (Nat.le_succ _)).drew⟩
  change ((((w3.setCell ⟨w.heap.size + 1, 0, none⟩ (.slice ab_n s.disk.blocks.length cb_n)).setCell ⟨w.heap.size + 1, 1, none⟩ (.slice au_n (s.disk.waits.length + 1) cu_n)).setCell ⟨w.heap.size + 1, 2, none⟩ (.slice ax_n s.now.length cx_n)).setCell ⟨w.heap.size + 1, 3, none⟩ (.slice ay_s s.last.length cy_s)).heap.size ≤ X.heap.size at hs
  change ∀ k, w.heap.size ≤ k → k < ((((w3.setCell ⟨w.heap.size + 1, 0, none⟩ (.slice ab_n s.disk.blocks.length cb_n)).setCell ⟨w.heap.size + 1, 1, none⟩ (.slice au_n (s.disk.waits.length + 1) cu_n)).setCell ⟨w.heap.size + 1, 2, none⟩ (.slice ax_n s.now.length cx_n)).setCell ⟨w.heap.size + 1, 3, none⟩ (.slice ay_s s.last.length cy_s)).heap.size → X.heap[k]? = ((((w3.setCell ⟨w.heap.size + 1, 0, none⟩ (.slice ab_n s.disk.blocks.length cb_n)).setCell ⟨w.heap.size + 1, 1, none⟩ (.slice au_n (s.disk.waits.length + 1) cu_n)).setCell ⟨w.heap.size + 1, 2, none⟩ (.slice ax_n s.now.length cx_n)).setCell ⟨w.heap.size + 1, 3, none⟩ (.slice ay_s s.last.length cy_s)).heap[k]? at hk
  rw [hsx] at hs hk
  have hTX : T.heap.size ≤ X.heap.size := by have := HT.out.2.1; omega
  have hq1 := Lv.hi_le HF.out.1
  have hq2 := Lv.hi_le HF.out.2.1
  have hkk : ∀ k, w.heap.size + 2 ≤ k → k < w3.heap.size → X.heap[k]? = w3.heap[k]? := fun k h1 h2 => (hk k (by omega) h2).trans (hso k (by omega))
  have hd := Lv.get HF.out.1 X (by omega) hc (fun k h1 h2 => hkk k (by omega) (by omega))
  have hn := (HF.out.2.1.2 X (fun k h1 h2 => hkk k (by omega) (by omega))).1
  have hlen : ∀ l : List UInt8, StoreV X 0 X.heap.size (.slice ab_n s.disk.blocks.length cb_n) (.slice au_n (s.disk.waits.length + 1) cu_n) (.slice ax_n s.now.length cx_n) (.slice ay_s s.last.length cy_s) ⟨⟨s.disk.blocks, s.disk.waits ++ [⟨(p : Int), b⟩]⟩, s.now.set p 1, s.last⟩ := fun _ => ⟨hd, hn.more (Nat.zero_le _) (by omega), bytesT_at hc hTX HT.out.2.2.1.2.2⟩
  exact hlen []
end Go.Proofs.Ytkfgegdnpinbdaa

namespace Go.Proofs.Ytkfgegdnpinbdaa
open Go.RowKit

set_option linter.unusedSimpArgs false
theorem storeV_nil (w : World) : StoreV w 0 w.heap.size (.slice none 0 0) (.slice none 0 0) (.slice none 0 0) (.slice none 0 0) noS := ⟨⟨Sl.nil_ _ _ _, Sl.nil_ _ _ _⟩, Bytes.nil_ _ _ _, Bytes.nil_ _ _ _⟩
theorem four_frame (z : World) (r : Nat) (a b c d : Value) : ((((z.setCell ⟨r, 0, none⟩ a).setCell ⟨r, 1, none⟩ b).setCell ⟨r, 2, none⟩ c).setCell ⟨r, 3, none⟩ d).heap.size = z.heap.size ∧
    ∀ x, x < z.heap.size → (x < r ∨ r + 1 ≤ x) → ((((z.setCell ⟨r, 0, none⟩ a).setCell ⟨r, 1, none⟩ b).setCell ⟨r, 2, none⟩ c).setCell ⟨r, 3, none⟩ d).heap[x]? = z.heap[x]? :=
  ⟨by simp only [World.size_setCell], fun x _ h => (set_other _ _ _ _ _ (by omega)).trans ((set_other _ _ _ _ _ (by omega)).trans ((set_other _ _ _ _ _ (by omega)).trans (set_other _ _ _ _ _ (by omega))))⟩
/-- Behind a store into the result's box. -/
theorem got_four {w z : World} {lo hi r : Nat} {b u x y : Value} {s : StoreL} (h : LGS w lo hi b u x y s z) (hB : LW w z) (h1 : w.heap.size ≤ r) (h2 : r + 1 ≤ lo) (a1 a2 a3 a4 : Value) :
    StoreV ((((z.setCell ⟨r, 0, none⟩ a1).setCell ⟨r, 1, none⟩ a2).setCell ⟨r, 2, none⟩ a3).setCell ⟨r, 3, none⟩ a4) 0 ((((z.setCell ⟨r, 0, none⟩ a1).setCell ⟨r, 1, none⟩ a2).setCell ⟨r, 2, none⟩ a3).setCell ⟨r, 3, none⟩ a4).heap.size b u x y s ∧
    Below w.heap.size w ((((z.setCell ⟨r, 0, none⟩ a1).setCell ⟨r, 1, none⟩ a2).setCell ⟨r, 2, none⟩ a3).setCell ⟨r, 3, none⟩ a4) := by
  obtain ⟨hs, hf⟩ := four_frame z r a1 a2 a3 a4
  have hb := Below.trans hB (below_four z a1 a2 a3 a4 h1)
  exact ⟨(LGS.out h (Nat.le_of_eq hs.symm) hf (.inr h2)).v (CKc.below hb), hb⟩
theorem nil_four {w z : World} {r : Nat} (hB : LW w z) (h1 : w.heap.size ≤ r) (a1 a2 a3 a4 : Value) :
    StoreV ((((z.setCell ⟨r, 0, none⟩ a1).setCell ⟨r, 1, none⟩ a2).setCell ⟨r, 2, none⟩ a3).setCell ⟨r, 3, none⟩ a4) 0 ((((z.setCell ⟨r, 0, none⟩ a1).setCell ⟨r, 1, none⟩ a2).setCell ⟨r, 2, none⟩ a3).setCell ⟨r, 3, none⟩ a4).heap.size (.slice none 0 0) (.slice none 0 0) (.slice none 0 0) (.slice none 0 0) noS ∧
    Below w.heap.size w ((((z.setCell ⟨r, 0, none⟩ a1).setCell ⟨r, 1, none⟩ a2).setCell ⟨r, 2, none⟩ a3).setCell ⟨r, 3, none⟩ a4) := ⟨storeV_nil _, Below.trans hB (below_four z a1 a2 a3 a4 h1)⟩
end Go.Proofs.Ytkfgegdnpinbdaa

namespace Go.Proofs.Ytkfgegdnpinbdaa
open Go.RowKit

/-- All places of items are shared, in order; the first that is refused ends it. -/
def shE : StoreL → List ItemL → Int
  | _, [] => 0
  | s, x :: l => if x.ref = 0 then shE s l else if errBs s x.ref.toNat = 0 then shE (upS s x.ref.toNat) l else errBs s x.ref.toNat
def shS : StoreL → List ItemL → StoreL
  | s, [] => s
  | s, x :: l => if x.ref = 0 then shS s l else if errBs s x.ref.toNat = 0 then shS (upS s x.ref.toNat) l else s
theorem shS_app (s : StoreL) (l m : List ItemL) (h : shE s l = 0) : shS s (l ++ m) = shS (shS s l) m ∧ shE s (l ++ m) = shE (shS s l) m := by
  induction l generalizing s with
  | nil => exact ⟨rfl, rfl⟩
  | cons x l ih =>
    simp only [shE, shS, List.cons_append] at h ⊢
    split
    · rename_i h0
      rw [if_pos h0] at h
      exact ih s h
    · rename_i h0
      rw [if_neg h0] at h
      split
      · rename_i h1
        rw [if_pos h1] at h
        exact ih _ h
      · rename_i h1
        rw [if_neg h1] at h
        exact absurd h h1
theorem up_share {s : StoreL} {p : Nat} (hm : mayS s = true) (h8 : 8 ≤ p) (h9 : p < 256) (h : errBs s p = 0) : errSh s (p : Int) = 0 ∧ upS s p = shareS s (p : Int) := by
  have hs : errSh s (p : Int) = 0 := by
    rcases up_cases s p with ⟨_, h2, _⟩ | ⟨_, h2, _⟩ | ⟨h1, h2, _, _⟩
    · rw [h] at h2; cases h2
    · rw [h] at h2; cases h2
    · have hA : errAs s (p : Int) = 0 := by
        unfold errAs
        rw [if_pos hm, if_neg (by omega), Int.toNat_natCast, if_neg h1]
      unfold errSh
      rw [hA, if_neg (by decide), Int.toNat_natCast, if_neg h2]
  refine ⟨hs, ?_⟩
  rw [(share_is hs).1]
  unfold upS
  rw [if_pos h, Int.toNat_natCast]
/-- All that is so of a store whose blocks were shared. -/
theorem shS_is (s : StoreL) (l : List ItemL) (hm : mayS s = true) (hr : ∀ x ∈ l, x.ref = 0 ∨ (8 ≤ x.ref ∧ x.ref < 256)) :
    mayS (shS s l) = true ∧ (shS s l).disk = s.disk ∧ (shS s l).last = s.last ∧ freeS (shS s l) = freeS s := by
  induction l generalizing s with
  | nil => exact ⟨hm, rfl, rfl, rfl⟩
  | cons x l ih =>
    simp only [shS]
    have hr' := fun y hy => hr y (List.mem_cons_of_mem _ hy)
    split
    · exact ih s hm hr'
    · rename_i h0
      split
      · rename_i h1
        obtain h | ⟨h8, h9⟩ := hr x (List.mem_cons_self ..)
        · exact absurd h h0
        · obtain ⟨e1, e2⟩ := up_share hm (by omega) (by omega) h1
          obtain ⟨i1, i2, -, -, -, -, i7⟩ := share_is e1
          rw [← e2] at i1 i2 i7
          obtain ⟨j1, j2, j3, j4⟩ := ih _ i2 hr'
          exact ⟨j1, by rw [j2, i1], by rw [j3, i1], j4.trans i7⟩
      · exact ⟨hm, rfl, rfl, rfl⟩
theorem shE_next (s : StoreL) (l : List ItemL) (j : Nat) (hj : j < l.length) (h : shE s (l.take j) = 0) :
    ((l.getD j nokI).ref = 0 → shE s (l.take (j + 1)) = 0 ∧ shS s (l.take (j + 1)) = shS s (l.take j)) ∧
    ((l.getD j nokI).ref ≠ 0 → errBs (shS s (l.take j)) (l.getD j nokI).ref.toNat = 0 → shE s (l.take (j + 1)) = 0 ∧ shS s (l.take (j + 1)) = upS (shS s (l.take j)) (l.getD j nokI).ref.toNat) ∧
    ((l.getD j nokI).ref ≠ 0 → errBs (shS s (l.take j)) (l.getD j nokI).ref.toNat ≠ 0 → shE s l = errBs (shS s (l.take j)) (l.getD j nokI).ref.toNat) := by
  have e1 : l.take (j + 1) = l.take j ++ [l.getD j nokI] := by rw [List.take_add_one, get_l l nokI j hj]; rfl
  have e2 : l = l.take j ++ (l.getD j nokI :: l.drop (j + 1)) := by
    have e3 := List.take_append_drop (j + 1) l
    rw [e1, List.append_assoc] at e3
    exact e3.symm
  obtain ⟨a1, a2⟩ := shS_app s (l.take j) [l.getD j nokI] h
  obtain ⟨b1, b2⟩ := shS_app s (l.take j) (l.getD j nokI :: l.drop (j + 1)) h
  rw [← e1] at a1 a2
  rw [← e2] at b1 b2
  refine ⟨fun h0 => ?_, fun h0 h1 => ?_, fun h0 h1 => ?_⟩
  · rw [a1, a2]; simp only [shS, shE]; rw [if_pos h0, if_pos h0]; exact ⟨rfl, rfl⟩
  · rw [a1, a2]; simp only [shS, shE]; rw [if_neg h0, if_neg h0, if_pos h1, if_pos h1]; exact ⟨rfl, rfl⟩
  · rw [b2]; simp only [shE]; rw [if_neg h0, if_neg h1]
def errMk (s : StoreL) (n : NodeL) : Int := if mayN n then (if shE s n.items = 0 then errTk (shS s n.items) (blockN n) else shE s n.items) else 8
def mkS (s : StoreL) (n : NodeL) : StoreL := takeS (shS s n.items) (blockN n)
def atMk (s : StoreL) (n : NodeL) : Int := if errMk s n = 0 then headS (shS s n.items) else 0
theorem may_refs {n : NodeL} (h : mayN n = true) : ∀ y ∈ n.items, y.ref = 0 ∨ (8 ≤ y.ref ∧ y.ref < 256) := by
  intro y hy
  have h := mayN_items h y hy
  unfold mayI at h
  simp at h
  omega
/-- What Make comes to, behind all is shared. -/
theorem mk_cases {s : StoreL} {n : NodeL} (hs : mayS s = true) (hm : mayN n = true) (h0 : shE s n.items = 0) (hb : (blockN n).length = 128) :
    (shS s n.items).disk = s.disk ∧ (shS s n.items).last = s.last ∧ mayT (shS s n.items).now = true ∧
    (freeS (shS s n.items) = [] → errMk s n = 9 ∧ atMk s n = 0) ∧ ∀ k r, freeS (shS s n.items) = k :: r →
      (s.disk.waits.length = 4096 → errMk s n = 9 ∧ atMk s n = 0) ∧ (s.disk.waits.length ≠ 4096 → errMk s n = 0 ∧ atMk s n = k ∧ mkS s n = ⟨⟨s.disk.blocks, s.disk.waits ++ [⟨(k : Int), blockN n⟩]⟩, (shS s n.items).now.set k 1, s.last⟩) := by
  obtain ⟨i1, i2, i3, i4⟩ := shS_is s n.items hs (may_refs hm)
  have hE : errMk s n = errTk (shS s n.items) (blockN n) := by unfold errMk; rw [hm, if_pos rfl, if_pos h0]
  have hmd := (mayS_iff.1 i1).1
  refine ⟨i2, i3, (mayS_iff.1 i1).2.1, fun hf => ?_, fun k r hf => ?_⟩
  · have : errMk s n = 9 := by rw [hE]; unfold errTk; rw [i1, if_pos rfl, if_pos hb, hf]
    exact ⟨this, by unfold atMk; rw [this]; rfl⟩
  · have hh : headS (shS s n.items) = k := by unfold headS; rw [hf]; rfl
    obtain ⟨p1, p2, -, -⟩ := head_free (s := shS s n.items) (r := r) (by rw [hh]; exact hf)
    have hA : errA (shS s n.items).disk (k : Int) = 0 := by unfold errA; rw [hmd, if_pos rfl, if_neg (by omega)]
    have hW : errTk (shS s n.items) (blockN n) = if s.disk.waits.length = 4096 then 9 else 0 := by
      unfold errTk
      rw [i1, if_pos rfl, if_pos hb, hf]
      show errW (shS s n.items).disk (k : Int) (blockN n) = _
      unfold errW
      rw [hA, if_neg (by decide), if_neg (by omega), i2]
    refine ⟨fun hw => ?_, fun hw => ?_⟩
    · have : errMk s n = 9 := by rw [hE, hW, if_pos hw]
      exact ⟨this, by unfold atMk; rw [this]; rfl⟩
    · rw [if_neg hw] at hW
      have : errMk s n = 0 := by rw [hE, hW]
      refine ⟨this, by unfold atMk; rw [if_pos this, hh], ?_⟩
      unfold mkS
      rw [(take_is hW).1, hh, i2, i3]
/-- Nothing turned below lo. -/
def LU (lo : Nat) (w V : World) : Prop := lo ≤ V.heap.size ∧ Below lo w V
theorem LU.step {lo : Nat} {w V V' : World} (h : LU lo w V) (hb : Below V.heap.size V V') : LU lo w V' := ⟨Nat.le_trans h.1 hb.size, h.2.trans (hb.mono h.1)⟩
theorem LU.outB {lo n0 : Nat} {w V V' : World} (h : LU lo w V) (hb : Below n0 V V') (hn : lo ≤ n0) : LU lo w V' := ⟨Nat.le_trans h.1 hb.size, h.2.trans (hb.mono hn)⟩
/-- A row of writes of the call's own, behind one was appended to a full row. -/
theorem waits_row {W : World} {nb g n : Nat} {a : Option Addr} {l : List WrL} (h : Sl rWrite (hideW W (hidN nb g)) 0 W.heap.size (.slice a n n) l) (hnb : nb < W.heap.size) (hg : g < W.heap.size) :
    ∃ olds : List Value, olds.length = n * 2 ∧ (∀ b, a = some b → ∀ j u, olds[j]? = some u → W.cell? (b.add j) = some u) ∧ (a = none → n = 0 ∧ n = 0) ∧
      ∀ (Z : World) (T : TypeId) (v' : Value) (k : Int) (v : Value) (d : List UInt8), W.grownBy Z none → Z.ownsRow W.heap.size T 2 v' (n + 1) (olds ++ [.int .i64 k, v]) → (Lit.int .i64 k).wf = true →
        Bytes (hideW Z (hidN nb g)) 0 Z.heap.size v d → Sl rWrite (hideW Z (hidN nb g)) 0 Z.heap.size v' (l ++ [⟨k, d⟩]) := by
  obtain ⟨bs, hbl, hba, hbc⟩ := writes_of h
  obtain ⟨a', c', e, h1, h2, h3, h4⟩ := h
  injection e with e1 e2 e3
  subst e1 e3
  have hn : l.length = n := e2.symm
  have hS : ∀ k, W.heap.size ≤ k → hidN nb g k = false := fun k hk => by simp [hidN]; omega
  refine ⟨(List.range (n * 2)).map fun j => if j % 2 = 0 then .int .i64 (l.getD (j / 2) ⟨0, []⟩).at_ else (bs.getD (j / 2) (0, undef)).2, by simp, ?_, fun e => ⟨h4 e, h4 e⟩, ?_⟩
  · intro b hb j u hu
    rw [List.getElem?_map] at hu
    rcases Nat.lt_or_ge j (n * 2) with hj | hj
    · rw [List.getElem?_range hj] at hu
      injection hu with hu
      dsimp only at hu
      obtain ⟨b', off, ea, -, hc⟩ := hbc (by omega)
      rw [hb] at ea
      injection ea with ea
      subst ea
      have hi : j / 2 < bs.length := by omega
      obtain ⟨c0, c1⟩ := hc (j / 2) _ (get_l bs (0, undef) _ hi)
      have e0 := (hba (j / 2) _ (get_l bs (0, undef) _ hi)).1
      rw [Addr.add_lit]
      rcases Nat.mod_two_eq_zero_or_one j with hm | hm
      · rw [if_pos hm] at hu
        rw [← hu, ← e0, show off + j = off + j / 2 * 2 by omega]
        exact (hideW_out W _ _ _ c0).1
      · rw [if_neg (by omega)] at hu
        rw [← hu, show off + j = off + j / 2 * 2 + 1 by omega]
        exact (hideW_out W _ _ _ c1).1
    · rw [List.getElem?_eq_none (by simpa using hj)] at hu
      cases hu
  · intro Z T v' k v d hgr hown hwf hv
    have hck : CKc (hideW W (hidN nb g)) (hideW Z (hidN nb g)) := hideW_ck fun k hk hS => ⟨hS, hgr.block k hk (fun e => by cases e)⟩
    have hsz : W.heap.size ≤ Z.heap.size := hgr.size
    rcases hown.2 with ⟨rfl, h0⟩ | ⟨g', cap, cur, rfl, hg', hh, q1, q2, q3, q4⟩
    · omega
    · have hgl : g' < Z.heap.size := (Array.getElem?_eq_some_iff.1 hh).1
      have hcell : ∀ j u, ((List.range (n * 2)).map (fun j => if j % 2 = 0 then Value.int .i64 (l.getD (j / 2) ⟨0, []⟩).at_ else (bs.getD (j / 2) (0, undef)).2) ++ [.int .i64 k, v])[j]? = some u → (hideW Z (hidN nb g)).cell? ⟨g', 0 + j, none⟩ = some u := by
        intro j u hu
        rw [hideW_cell _ _ _ (hS g' hg'), cell_of_row Z g' (0 + j) cur T (0, 0) hh, ← hu, ← q4, List.getElem?_take, if_pos]
        · simp
        · have := (List.getElem?_eq_some_iff.1 hu).1
          simp at this
          omega
      refine ⟨some ⟨g', 0, none⟩, cap, by rw [List.length_append, hn]; rfl, by rw [List.length_append, hn]; exact q1, q2, fun _ => ⟨g', 0, rfl, Nat.zero_le _, hgl, fun i x hx => ?_⟩, fun e => by cases e⟩
      rcases Nat.lt_or_ge i n with hi | hi
      · rw [List.getElem?_append_left (by omega)] at hx
        obtain ⟨b', off, ea, -, -, hc⟩ := h3 (by omega)
        obtain ⟨f0, f1, vx, f2, f3⟩ := hc i x hx
        have hbx := hba i _ (get_l bs (0, undef) i (by omega))
        have hx2 : l.getD i ⟨0, []⟩ = x := by rw [List.getD_eq_getElem?_getD, hx]; rfl
        rw [hx2] at hbx
        refine ⟨hcell (i * 2 + 0) _ ?_, f1, (bs.getD i (0, undef)).2, hcell (i * 2 + 1) _ ?_, (hbx.2.ck hck).more (Nat.le_refl _) hsz⟩
        · rw [List.getElem?_append_left (by simp; omega), List.getElem?_map, List.getElem?_range (by omega)]
          simp only [Option.map_some]
          rw [if_pos (by omega), show (i * 2 + 0) / 2 = i by omega, hx2]
        · rw [List.getElem?_append_left (by simp; omega), List.getElem?_map, List.getElem?_range (by omega)]
          simp only [Option.map_some]
          rw [if_neg (by omega), show (i * 2 + 1) / 2 = i by omega]
      · have hil : i = n := by
          have := (List.getElem?_eq_some_iff.1 hx).1
          simp at this
          omega
        subst hil
        rw [List.getElem?_append_right (by omega), hn, Nat.sub_self] at hx
        injection hx with hx
        subst hx
        refine ⟨hcell (i * 2 + 0) _ ?_, hwf, v, hcell (i * 2 + 1) _ ?_, hv⟩
        · rw [List.getElem?_append_right (by simp)]
          simp
        · rw [List.getElem?_append_right (by simp)]
          simp [show i * 2 + 1 - i * 2 = 1 by omega]
end Go.Proofs.Ytkfgegdnpinbdaa

namespace Go.Proofs.Ytkfgegdnpinbdaa
open Go.RowKit

/-- All places of a leaf's items are loosened; none: one has no count. -/
def looseA : List UInt8 → List ItemL → Option (List UInt8)
  | now, [] => some now
  | now, y :: l => if y.ref = 0 then looseA now l else if now.getD y.ref.toNat 0 = 0 then none else looseA (now.set y.ref.toNat (now.getD y.ref.toNat 0 + 255)) l
/-- The counts behind what waits to be left (the first one first); none: it can't be. The number: more than all counts. -/
def lvF (d : DiskL) (first : List UInt8) : Nat → List UInt8 → List (Nat × Int) → Option (List UInt8)
  | 0, _, _ => none
  | _ + 1, now, [] => some now
  | k + 1, now, x :: st =>
    if now.getD x.1 0 = 0 then none
    else if 1 < (now.getD x.1 0).toNat then lvF d first k (now.set x.1 (now.getD x.1 0 + 255)) st
    else if errNd (seenD d x.1) ≠ 0 ∨ first.getD x.1 0 = 0 ∨ (0 ≤ x.2 ∧ (readNd (seenD d x.1)).level ≠ x.2) then none
    else if 0 < (readNd (seenD d x.1)).level then lvF d first k (now.set x.1 0) ((readNd (seenD d x.1)).items.map (fun y => (y.ref.toNat, (readNd (seenD d x.1)).level - 1)) ++ st)
    else match looseA (now.set x.1 0) (readNd (seenD d x.1)).items with
      | none => none
      | some now' => lvF d first k now' st
/-- How much is counted. -/
def sumC (now : List UInt8) : Nat := (now.map UInt8.toNat).sum
theorem sumC_set (l : List UInt8) (i : Nat) (x : UInt8) (h : i < l.length) : sumC (l.set i x) + (l.getD i 0).toNat = sumC l + x.toNat := by
  unfold sumC
  induction l generalizing i with
  | nil => simp at h
  | cons a l ih =>
    cases i with
    | zero => simp; omega
    | succ i =>
      have := ih i (by simpa using h)
      simp only [List.set_cons_succ, List.map_cons, List.sum_cons, List.getD_cons_succ]
      omega
theorem getD_out (l : List UInt8) (i : Nat) (h : l.length ≤ i) : l.getD i 0 = 0 := by simp [h]
theorem lt_of_nz {l : List UInt8} {i : Nat} (h : l.getD i 0 ≠ 0) : i < l.length := by
  rcases Nat.lt_or_ge i l.length with h1 | h1
  · exact h1
  · exact absurd (getD_out l i h1) h
theorem sumC_dn {l : List UInt8} {i : Nat} (h : l.getD i 0 ≠ 0) : sumC (l.set i (l.getD i 0 + 255)) + 1 = sumC l := by
  have h1 := sumC_set l i (l.getD i 0 + 255) (lt_of_nz h)
  have h2 := u8_down h
  have h3 : (l.getD i 0).toNat ≠ 0 := fun e => h (u8_inj e)
  omega
theorem sumC_nought {l : List UInt8} {i : Nat} (h : l.getD i 0 ≠ 0) : sumC (l.set i 0) + 1 ≤ sumC l := by
  have h1 := sumC_set l i 0 (lt_of_nz h)
  have h3 : (l.getD i 0).toNat ≠ 0 := fun e => h (u8_inj e)
  have h4 : (0 : UInt8).toNat = 0 := rfl
  omega
theorem looseA_sum : ∀ {its : List ItemL} {now now' : List UInt8}, looseA now its = some now' → sumC now' ≤ sumC now
  | [], now, now', h => by cases h; exact Nat.le_refl _
  | y :: l, now, now', h => by
    rw [looseA] at h
    split at h
    · exact looseA_sum h
    · split at h
      · cases h
      · rename_i h1
        have := looseA_sum h
        have := sumC_dn h1
        omega
/-- The number does not matter, where it is great enough. -/
theorem lvF_any (d : DiskL) (first : List UInt8) : ∀ (k m : Nat) (now : List UInt8) (st : List (Nat × Int)), sumC now < k → sumC now < m → lvF d first k now st = lvF d first m now st
  | 0, _, _, _, h, _ => by omega
  | _, 0, _, _, _, h => by omega
  | k + 1, m + 1, now, [], _, _ => rfl
  | k + 1, m + 1, now, x :: st, hk, hm => by
    rw [lvF, lvF]
    split
    · rfl
    · rename_i h0
      have h1 := sumC_dn h0
      have h2 := sumC_nought h0
      split
      · exact lvF_any d first k m _ _ (by omega) (by omega)
      · split
        · rfl
        · split
          · exact lvF_any d first k m _ _ (by omega) (by omega)
          · cases h : looseA (now.set x.1 0) (readNd (seenD d x.1)).items with
            | none => rfl
            | some now' =>
              have := looseA_sum h
              exact lvF_any d first k m _ _ (by omega) (by omega)
theorem sumC_le256 (l : List UInt8) : sumC l ≤ l.length * 255 := by
  unfold sumC
  induction l with
  | nil => exact Nat.le_refl _
  | cons a l ih =>
    have := a.toNat_lt
    simp only [List.map_cons, List.sum_cons, List.length_cons]
    omega
theorem looseA_app : ∀ (l m : List ItemL) (now : List UInt8), looseA now (l ++ m) = (looseA now l).bind (fun n => looseA n m)
  | [], _, _ => rfl
  | y :: l, m, now => by
    rw [List.cons_append, looseA, looseA]
    split
    · exact looseA_app l m now
    · split
      · rfl
      · exact looseA_app l m _
/-- One more place is loosened. -/
theorem looseA_next (now : List UInt8) (l : List ItemL) (j : Nat) (hj : j < l.length) (nowj : List UInt8) (h : looseA now (l.take j) = some nowj) :
    ((l.getD j nokI).ref = 0 → looseA now (l.take (j + 1)) = some nowj) ∧
    ((l.getD j nokI).ref ≠ 0 → nowj.getD (l.getD j nokI).ref.toNat 0 ≠ 0 → looseA now (l.take (j + 1)) = some (nowj.set (l.getD j nokI).ref.toNat (nowj.getD (l.getD j nokI).ref.toNat 0 + 255))) ∧
    ((l.getD j nokI).ref ≠ 0 → nowj.getD (l.getD j nokI).ref.toNat 0 = 0 → looseA now l = none) := by
  have e1 : l.take (j + 1) = l.take j ++ [l.getD j nokI] := by rw [List.take_add_one, get_l l nokI j hj]; rfl
  have e2 : l = l.take j ++ (l.getD j nokI :: l.drop (j + 1)) := by
    have e3 := List.take_append_drop (j + 1) l
    rw [e1, List.append_assoc] at e3
    exact e3.symm
  have a1 := looseA_app (l.take j) [l.getD j nokI] now
  have a2 := looseA_app (l.take j) (l.getD j nokI :: l.drop (j + 1)) now
  rw [← e1, h] at a1
  rw [← e2, h] at a2
  refine ⟨fun h0 => ?_, fun h0 h1 => ?_, fun h0 h1 => ?_⟩
  · rw [a1, Option.bind_some, looseA, if_pos h0]; rfl
  · rw [a1, Option.bind_some, looseA, if_neg h0, if_neg h1]; rfl
  · rw [a2, Option.bind_some, looseA, if_neg h0, if_pos h1]
/-- Behind a node is left. -/
def lvS (s : StoreL) (p : Nat) : Option (List UInt8) := lvF s.disk s.now (sumC s.now + 1) s.now [(p, -1)]
/-- No count is more, and all is as long; fixed blocks stay. -/
structure Less (now now' : List UInt8) : Prop where
  len : now'.length = now.length
  le : ∀ i, (now'.getD i 0).toNat ≤ (now.getD i 0).toNat
  fixed : now'.take 8 = now.take 8
theorem Less.refl (l : List UInt8) : Less l l := ⟨rfl, fun _ => Nat.le_refl _, rfl⟩
theorem Less.trans {a b c : List UInt8} (h : Less a b) (k : Less b c) : Less a c := ⟨k.len.trans h.len, fun i => Nat.le_trans (k.le i) (h.le i), k.fixed.trans h.fixed⟩
theorem take_set8 (l : List UInt8) (i : Nat) (x : UInt8) (h : 8 ≤ i) : (l.set i x).take 8 = l.take 8 := by
  apply List.ext_getElem?
  intro j
  rw [List.getElem?_take, List.getElem?_take]
  split
  · rw [List.getElem?_set_ne (by omega)]
  · rfl
theorem Less.set {l : List UInt8} {i : Nat} {x : UInt8} (h : x.toNat ≤ (l.getD i 0).toNat) (h8 : 8 ≤ i) : Less l (l.set i x) := by
  refine ⟨by simp, fun j => ?_, take_set8 l i x h8⟩
  by_cases hij : i = j
  · subst hij
    rcases Nat.lt_or_ge i l.length with h1 | h1
    · rw [cgetD_set_self _ _ _ h1]; exact h
    · rw [List.set_eq_of_length_le h1]; exact Nat.le_refl _
  · rw [bget_set_ne _ _ _ _ hij]; exact Nat.le_refl _
theorem Less.dn {l : List UInt8} {i : Nat} (h : l.getD i 0 ≠ 0) (h8 : 8 ≤ i) : Less l (l.set i (l.getD i 0 + 255)) := Less.set (by rw [u8_down h]; omega) h8
theorem Less.nought (l : List UInt8) {i : Nat} (h8 : 8 ≤ i) : Less l (l.set i 0) := Less.set (Nat.zero_le _) h8
/-- Items whose places may be. -/
def RefsOk (its : List ItemL) : Prop := ∀ y ∈ its, y.ref = 0 ∨ (8 ≤ y.ref ∧ y.ref < 256)
theorem mayI_ref {x : ItemL} (h : mayI x = true) : x.ref = 0 ∨ (8 ≤ x.ref ∧ x.ref < 256) := by
  unfold mayI at h
  simp at h
  omega
theorem mayN_refs {n : NodeL} (h : mayN n = true) : RefsOk n.items := fun y hy => mayI_ref (mayN_items h y hy)
theorem mayN_above {n : NodeL} (h : mayN n = true) (hl : 0 < n.level) : ∀ y ∈ n.items, 8 ≤ y.ref ∧ y.ref < 256 := by
  intro y hy
  obtain ⟨i, hi, rfl⟩ := mem_getD (d := nokI) hy
  have h1 := (mayN_all h).2.2.2 i hi
  have h2 := mayI_ref (stepN_may h1)
  unfold stepN at h1
  rw [decide_eq_false (by omega : ¬ n.level ≤ 0)] at h1
  generalize n.items.getD i nokI = y at *
  simp at h1
  have := h1.2.1
  omega
theorem looseA_less : ∀ {its : List ItemL} {now now' : List UInt8}, RefsOk its → looseA now its = some now' → Less now now'
  | [], now, now', _, h => by cases h; exact Less.refl _
  | y :: l, now, now', hr, h => by
    have hr' : RefsOk l := fun z hz => hr z (List.mem_cons_of_mem _ hz)
    rw [looseA] at h
    split at h
    · exact looseA_less hr' h
    · rename_i h0
      split at h
      · cases h
      · rename_i h1
        have h8 := hr y (List.mem_cons_self ..)
        exact (Less.dn h1 (by omega)).trans (looseA_less hr' h)
theorem lvF_less (d : DiskL) (first : List UInt8) : ∀ (k : Nat) (now now' : List UInt8) (st : List (Nat × Int)), (∀ x ∈ st, 8 ≤ x.1) → lvF d first k now st = some now' → Less now now'
  | 0, _, _, _, _, h => by cases h
  | k + 1, now, now', [], _, h => by cases h; exact Less.refl _
  | k + 1, now, now', x :: st, hs, h => by
    have hs' : ∀ x ∈ st, 8 ≤ x.1 := fun z hz => hs z (List.mem_cons_of_mem _ hz)
    have h8 := hs x (List.mem_cons_self ..)
    rw [lvF] at h
    split at h
    · cases h
    · rename_i h0
      split at h
      · exact (Less.dn h0 h8).trans (lvF_less d first k _ _ _ hs' h)
      · split at h
        · cases h
        · rename_i hb
          have hN := (back2 (l := seenD d x.1) (Classical.not_not.1 fun e => hb (.inl e))).1
          split at h
          · rename_i hl
            refine (Less.nought now h8).trans (lvF_less d first k _ _ _ (fun z hz => ?_) h)
            rcases List.mem_append.1 hz with hz | hz
            · obtain ⟨y, hy, rfl⟩ := List.mem_map.1 hz
              have := mayN_above hN hl y hy
              show 8 ≤ y.ref.toNat
              omega
            · exact hs' z hz
          · split at h
            · cases h
            · rename_i now2 hA
              exact ((Less.nought now h8).trans (looseA_less (mayN_refs hN) hA)).trans (lvF_less d first k _ _ _ hs' h)
theorem Less.may {now now' : List UInt8} (h : Less now now') (hm : mayT now = true) : mayT now' = true := by
  unfold mayT at hm ⊢
  rw [h.len, h.fixed]
  exact hm
theorem lvS_less {s : StoreL} {p : Nat} {now' : List UInt8} (h8 : 8 ≤ p) (h : lvS s p = some now') : Less s.now now' := lvF_less _ _ _ _ _ _ (fun x hx => by rw [List.mem_singleton.1 hx]; exact h8) h
/-- How many items have a place. -/
def cntR (its : List ItemL) (p : Nat) : Nat := (its.filter fun y => decide (y.ref ≠ 0) && decide (y.ref.toNat = p)).length
theorem cntR_cons (y : ItemL) (l : List ItemL) (p : Nat) : cntR (y :: l) p = cntR l p + if y.ref ≠ 0 ∧ y.ref.toNat = p then 1 else 0 := by
  unfold cntR
  rw [List.filter_cons]
  by_cases h : y.ref ≠ 0 ∧ y.ref.toNat = p
  · rw [if_pos h, if_pos (by simpa using h)]
    rfl
  · rw [if_neg h, if_neg (by simpa using h)]
    rfl
/-- What a node that is made is counted. -/
theorem shS_cnt (s : StoreL) (l : List ItemL) (h : shE s l = 0) : (shS s l).now.length = s.now.length ∧ ∀ p, ((shS s l).now.getD p 0).toNat = (s.now.getD p 0).toNat + cntR l p ∧ (0 < cntR l p → s.now.getD p 0 ≠ 0) := by
  induction l generalizing s with
  | nil => exact ⟨rfl, fun p => ⟨rfl, fun h => by simp [cntR] at h⟩⟩
  | cons y l ih =>
    simp only [shE, shS] at h ⊢
    by_cases h0 : y.ref = 0
    · rw [if_pos h0] at h ⊢
      obtain ⟨a, b⟩ := ih s h
      exact ⟨a, fun p => by rw [cntR_cons, if_neg (by simp [h0])]; exact b p⟩
    · rw [if_neg h0] at h ⊢
      split at h
      · rename_i h1
        rw [if_pos h1]
        obtain ⟨a, b⟩ := ih _ h
        rcases up_cases s y.ref.toNat with ⟨_, h2, _⟩ | ⟨_, h2, _⟩ | ⟨u1, u2, _, u3⟩
        · rw [h1] at h2; cases h2
        · rw [h1] at h2; cases h2
        · have hp := lt_of_nz u1
          have hs : ∀ p, ((upS s y.ref.toNat).now.getD p 0).toNat = (s.now.getD p 0).toNat + (if y.ref.toNat = p then 1 else 0) ∧ ((upS s y.ref.toNat).now.getD p 0 ≠ 0 → s.now.getD p 0 ≠ 0) := by
            intro p
            rw [u3]
            show ((s.now.set y.ref.toNat (s.now.getD y.ref.toNat 0 + 1)).getD p 0).toNat = _ ∧ _
            by_cases e : y.ref.toNat = p
            · subst e
              rw [cgetD_set_self _ _ _ hp, u8_up u2, if_pos rfl]
              exact ⟨rfl, fun _ => u1⟩
            · rw [bget_set_ne _ _ _ _ e, if_neg e]
              exact ⟨rfl, id⟩
          refine ⟨by rw [a, u3]; simp, fun p => ?_⟩
          obtain ⟨b1, b2⟩ := b p
          obtain ⟨s1, s2⟩ := hs p
          rw [cntR_cons, b1, s1]
          by_cases e : y.ref.toNat = p
          · rw [if_pos e, if_pos ⟨h0, e⟩]
            exact ⟨by omega, fun _ => by rw [← e]; exact u1⟩
          · rw [if_neg e, if_neg (fun k => e k.2)]
            exact ⟨by omega, fun hc => s2 (b2 (by omega))⟩
      · rename_i h1
        exact absurd h h1
end Go.Proofs.Ytkfgegdnpinbdaa

