/- DropDoes: the words and contracts, part 13. -/
import Derived.Test.YtkfgegdnpinbdaaDropDoesQ1
import Derived.Test.YtkfgegdnpinbdaaDropDoesQ2
import Derived.Test.YtkfgegdnpinbdaaDropDoesQ3
import Derived.Test.YtkfgegdnpinbdaaDropDoesQ4
import Derived.Test.YtkfgegdnpinbdaaDropDoesQ5
import Derived.Test.YtkfgegdnpinbdaaDropDoesQ6
import Derived.Test.YtkfgegdnpinbdaaDropDoesQ7
import Derived.Test.YtkfgegdnpinbdaaDropDoesQ12
import Derived.WalkKit
import Derived.WalkLawsBesides
import Derived.WalkSpells
import Derived.Lib.Hide
import Derived.Laws.Rows
import Derived.Laws.AppendOwnNone
import Derived.Maps.AppendAt
import Derived.OrdersHeld
import Derived.Deep.QuietTactic
import Derived.BigQuiet
import Derived.StillTailTactics
import Derived.OrdersIn
import Derived.ProofKit
import Derived.Deep.Slices
import Derived.WideShapes
import Derived.RangeFuncNested
import Derived.RangeFuncBound
import Derived.RangeFuncCalls
import Derived.RangeFuncLeaves
import Derived.RangeFuncBox
import Derived.Shelf.Abstract
import Derived.Shelf.RegionOpen
import Derived.OwnWalkIn
import Derived.TacticsInMore
import Derived.LoopNIn
import Derived.LoopIn
import Derived.Lib.AppendZerosOnto
import Derived.Lib.SliceRun
import Derived.Lib.Walk
import Derived.Deep.LoopGhost
import Derived.Laws.CopyOwn
import Derived.Laws.CopyRow
import Derived.OpenShut
import Derived.Deep.DeepCutAuto
import Derived.Laws.MakeOwn
import Derived.Deep.RegionHeld
import Derived.KernelRfl
import Derived.BigFrameIn
namespace Go.Proofs.Ytkfgegdnpinbdaa
open Go.RowKit

section
variable {F : Fence} {n : Nat} {P : Program} {ops : Array Oper} {Q : Exit → Act → World → Prop} {md : Region.Mode}

/-- The operations but z. -/
def OpsQ (F : Fence) (n : Nat) (P : Program) (ops : Array Oper) (Q : Exit → Act → World → Prop) (z : Nat) (deps : Nat → List Nat) (f : Nat → Value → Value → Prop) (Gz : Value → World → Prop) (W0 : World) (is : List Nat) (a0 : Act) (l : List Nat) : Prop :=
  ∀ i ∈ l, i ≠ z → ∀ o, ops[i]? = some o → ∀ (vs : Nat → Value) (W : World), (∀ j ∈ deps i, j ≠ z → f j (vs j) (vs z)) → ((deps i).contains z = true → Gz (vs z) W) → ((deps i).contains z = false → W = W0) → ∀ K : Act → World → Prop,
    (∀ v, f i v (vs z) → K ((putAll ops vs is a0).put o.dst v) W) →
    if Region.wanted o (yielded ops (putAll ops vs is a0).tmps) = true then Oper.wpIn F n P o (putAll ops vs is a0) W K Q else (∀ g, o.about P W (putAll ops vs is a0).eval = some g → F.fn g) ∧ K ((putAll ops vs is a0).put o.dst undef) W
theorem OpsQ.nil {z : Nat} {deps : Nat → List Nat} {f : Nat → Value → Value → Prop} {Gz : Value → World → Prop} {W0 : World} {is : List Nat} {a0 : Act} : OpsQ F n P ops Q z deps f Gz W0 is a0 [] := fun _ h => by cases h
/-- It is the same for each. -/
theorem OpsQ.cons {z : Nat} {deps : Nat → List Nat} {f : Nat → Value → Value → Prop} {Gz : Value → World → Prop} {W0 : World} {is : List Nat} {a0 : Act} {i : Nat} {l : List Nat} (o : Oper) (ho : ops[i]? = some o)
    (h : ∀ (vs : Nat → Value) (W : World), (∀ j ∈ deps i, j ≠ z → f j (vs j) (vs z)) → ((deps i).contains z = true → Gz (vs z) W) → ((deps i).contains z = false → W = W0) → ∀ K : Act → World → Prop,
      (∀ v, f i v (vs z) → K ((putAll ops vs is a0).put o.dst v) W) →
      if Region.wanted o (yielded ops (putAll ops vs is a0).tmps) = true then Oper.wpIn F n P o (putAll ops vs is a0) W K Q else (∀ g, o.about P W (putAll ops vs is a0).eval = some g → F.fn g) ∧ K ((putAll ops vs is a0).put o.dst undef) W)
    (hs : OpsQ F n P ops Q z deps f Gz W0 is a0 l) : OpsQ F n P ops Q z deps f Gz W0 is a0 (i :: l) := fun j hj hne o' ho' => by
  rcases List.mem_cons.1 hj with rfl | hj
  · rw [ho] at ho'; cases ho'; exact h
  · exact hs j hj hne o' ho'
theorem OpsQ.skip {z : Nat} {deps : Nat → List Nat} {f : Nat → Value → Value → Prop} {Gz : Value → World → Prop} {W0 : World} {is : List Nat} {a0 : Act} {l : List Nat}
    (hs : OpsQ F n P ops Q z deps f Gz W0 is a0 l) : OpsQ F n P ops Q z deps f Gz W0 is a0 (z :: l) := fun j hj hne o' ho' => by
  rcases List.mem_cons.1 hj with rfl | hj
  · exact absurd rfl hne
  · exact hs j hj hne o' ho'

end
end Go.Proofs.Ytkfgegdnpinbdaa

namespace Go.Proofs.Ytkfgegdnpinbdaa
open Go.RowKit Go.Shelf
attribute [local go_sem] Oper.semAt_some

theorem or_u8 (a b : UInt8) : bits .or .u8 (a.toNat : Int) (b.toNat : Int) = ((a ||| b).toNat : Int) := by
  simp only [bits, IntKind.bits]
  rw [BitVec.ofInt_natCast, BitVec.ofInt_natCast]
  have ha := a.toNat_lt
  have hb := b.toNat_lt
  rw [IntKind.wrap_u8]
  have e : ((BitVec.ofNat 8 a.toNat ||| BitVec.ofNat 8 b.toNat).toNat) = (a ||| b).toNat := by
    rw [BitVec.toNat_or, BitVec.toNat_ofNat, BitVec.toNat_ofNat, UInt8.toNat_or, Nat.mod_eq_of_lt ha, Nat.mod_eq_of_lt hb]
  have h2 := (a ||| b).toNat_lt
  show (((BitVec.ofNat 8 a.toNat ||| BitVec.ofNat 8 b.toNat).toNat : Nat) : Int) % 256 = _
  rw [e]
  omega
theorem or_zero_iff (a b : UInt8) : (a ||| b).toNat = 0 ↔ a = 0 ∧ b = 0 := by
  rw [UInt8.toNat_or]
  constructor
  · intro h
    have h1 := Nat.left_le_or (n := a.toNat) (m := b.toNat)
    have h2 := Nat.right_le_or (n := a.toNat) (m := b.toNat)
    exact ⟨u8_inj (by show a.toNat = 0; omega), u8_inj (by show b.toNat = 0; omega)⟩
  · rintro ⟨rfl, rfl⟩
    rfl

/-- What the rounds must keep: all below n0, and the block Bs. -/
def KeepF (n₀ Bs : Nat) (A B : World) : Prop := Below n₀ A B ∧ B.heap[Bs]? = A.heap[Bs]?
theorem KeepF.refl (n₀ Bs : Nat) (A : World) : KeepF n₀ Bs A A := ⟨Below.refl _ _, rfl⟩
theorem KeepF.trans {n₀ Bs : Nat} {A B C : World} (h : KeepF n₀ Bs A B) (k : KeepF n₀ Bs B C) : KeepF n₀ Bs A C := ⟨h.1.trans k.1, k.2.trans h.2⟩
def encF (x : Fin 256) : Array Value := #[.int .i64 (x.1 : Int)]

end Go.Proofs.Ytkfgegdnpinbdaa

namespace Go.Proofs.Ytkfgegdnpinbdaa
open Go.RowKit Go.Shelf
attribute [local go_sem] Oper.semAt_some encF

theorem ownsRow_grown {W W' : World} {base : Nat} {e : TypeId} {size n : Nat} {v : Value} {xs : List Value} {row : Option Nat} (h : W.ownsRow base e size v n xs) (hg : W.grownBy W' row) (hr : ∀ r, row = some r → ∃ o : Obj, W.heap[r]? = some o ∧ o.isCells = false) : W'.ownsRow base e size v n xs := by
  refine h.kept hg ?_
  rcases h.2 with ⟨rfl, _⟩ | ⟨g, cap, cur, rfl, _, hgb, _⟩
  · exact .inl rfl
  · refine .inr fun e' => ?_
    obtain ⟨o, ho, hc⟩ := hr g e'.symm
    rw [hgb] at ho
    cases ho
    cases hc
theorem hidp {p : Prop} (h : Hid p) : p := h.out
end Go.Proofs.Ytkfgegdnpinbdaa

namespace Go.Proofs.Ytkfgegdnpinbdaa
open Go.RowKit Go.Shelf
attribute [local go_sem] Oper.semAt_some encF

theorem StoreT.ck {w w' : World} {lo : Nat} {b u x y : Value} {s : StoreL} (h : StoreT w lo w.heap.size b u x y s) (hc : CKc w w') (hs : w.heap.size ≤ w'.heap.size) : StoreT w' lo w'.heap.size b u x y s :=
  StoreT.more (w := w') (lo := lo) (hi := w.heap.size) ⟨⟨Sl.ck rBytesT_ck h.1.1 hc, Sl.ck rWriteT_ck h.1.2 hc⟩, ⟨h.2.1.1.ck hc, thawed_ck hc h.2.1.1 h.2.1.2⟩, ⟨h.2.2.1.ck hc, thawed_ck hc h.2.2.1 h.2.2.2⟩⟩ (Nat.le_refl _) hs
end Go.Proofs.Ytkfgegdnpinbdaa

namespace Go.Proofs.Ytkfgegdnpinbdaa
open Go.RowKit

def hidN (nb g k : Nat) : Bool := k == nb || k == g
/-- A bench in block g: its own counts lie in block nb, from lo on; what it has of a disk, and the counts of before, lie elsewhere. -/
structure BenAt (V : World) (lo g nb no nc : Nat) (b u y : Value) (s : StoreL) : Prop where
  blk : V.heap[g]? = some (.cells #[b, u, .slice (some ⟨nb, no, none⟩) 256 nc, y] 132 (0, 0))
  disk : DiskV (hideW V (hidN nb g)) 0 V.heap.size b u s.disk
  now : Bytes V lo V.heap.size (.slice (some ⟨nb, no, none⟩) 256 nc) s.now
  thaw : Thawed V (.slice (some ⟨nb, no, none⟩) 256 nc)
  last : Bytes (hideW V (hidN nb g)) 0 V.heap.size y s.last
  len : s.now.length = 256
  lo_ : lo ≤ nb ∧ lo ≤ g ∧ g ≠ nb ∧ nb < V.heap.size
section
variable {V V' : World} {lo g nb no nc : Nat} {b u y : Value} {s : StoreL}
theorem hid_self (V : World) (nb g : Nat) (V' : World) (h : ∀ k, k < V.heap.size → k ≠ nb → k ≠ g → V'.heap[k]? = V.heap[k]?) : CKc (hideW V (hidN nb g)) (hideW V' (hidN nb g)) :=
  hideW_ck fun k hk hS => ⟨hS, h k hk (fun e => by subst e; simp [hidN] at hS) (fun e => by subst e; simp [hidN] at hS)⟩
theorem DiskV.ck {w w' : World} {lo hi : Nat} {b u : Value} {d : DiskL} (h : DiskV w lo hi b u d) (hc : CKc w w') : DiskV w' lo hi b u d := ⟨Sl.ck rBytes_ck h.1 hc, Sl.ck rWrite_ck h.2 hc⟩
theorem BenAt.step (h : BenAt V lo g nb no nc b u y s) (hb : Below V.heap.size V V') : BenAt V' lo g nb no nc b u y s := by
  have hg := (Array.getElem?_eq_some_iff.1 h.blk).1
  have hc := hid_self V nb g V' (fun k hk _ _ => hb.block k hk)
  exact ⟨(hb.block g hg).trans h.blk, DiskV.more (h.disk.ck hc) (Nat.le_refl _) hb.size, h.now.step hb, thawed_below h.now h.thaw hb (Nat.le_refl _), (h.last.ck hc).more (Nat.le_refl _) hb.size, h.len, h.lo_.1, h.lo_.2.1, h.lo_.2.2.1, Nat.lt_of_lt_of_le h.lo_.2.2.2 hb.size⟩
/-- A count is stored. -/
theorem BenAt.set (h : BenAt V lo g nb no nc b u y s) (i : Nat) (x : UInt8) (hi : i < 256) : BenAt (V.setCell ⟨nb, no + i, none⟩ (bV x)) lo g nb no nc b u y ⟨s.disk, s.now.set i x, s.last⟩ := by
  have hsz : (V.setCell ⟨nb, no + i, none⟩ (bV x)).heap.size = V.heap.size := World.size_setCell _ _ _
  have hc := hid_self V nb g (V.setCell ⟨nb, no + i, none⟩ (bV x)) (fun k _ hk _ => set_other V nb _ _ k hk)
  refine ⟨(set_other V nb _ _ g h.lo_.2.2.1).trans h.blk, ?_, ?_, h.thaw.set _ _, ?_, by simp [h.len], h.lo_.1, h.lo_.2.1, h.lo_.2.2.1, by rw [hsz]; exact h.lo_.2.2.2⟩
  · rw [hsz]; exact h.disk.ck hc
  · rw [hsz]; exact h.now.set i x (by rw [h.len]; exact hi)
  · rw [hsz]; exact h.last.ck hc
theorem BenAt.store (h : BenAt V lo g nb no nc b u y s) : StoreV V 0 V.heap.size b u (.slice (some ⟨nb, no, none⟩) 256 nc) y s :=
  ⟨h.disk.ck (hideW_out V _), h.now.all0, h.last.ck (hideW_out V _)⟩
theorem BenAt.cell (h : BenAt V lo g nb no nc b u y s) (i : Nat) (hi : i < 256) : V.cell? ⟨nb, no + i, none⟩ = some (bV (s.now.getD i 0)) := h.now.cellAt i _ (get_l _ _ _ (by rw [h.len]; exact hi))
end

def errBs (s : StoreL) (p : Nat) : Int := if s.now.getD p 0 = 0 then 6 else if s.now.getD p 0 = 255 then 70 else 0
def upS (s : StoreL) (p : Nat) : StoreL := if errBs s p = 0 then ⟨s.disk, s.now.set p (s.now.getD p 0 + 1), s.last⟩ else s
theorem up_cases (s : StoreL) (p : Nat) : (s.now.getD p 0 = 0 ∧ errBs s p = 6 ∧ upS s p = s) ∨ (s.now.getD p 0 = 255 ∧ errBs s p = 70 ∧ upS s p = s) ∨ (s.now.getD p 0 ≠ 0 ∧ s.now.getD p 0 ≠ 255 ∧ errBs s p = 0 ∧ upS s p = ⟨s.disk, s.now.set p (s.now.getD p 0 + 1), s.last⟩) := by
  unfold upS errBs
  by_cases h : s.now.getD p 0 = 0
  · exact .inl ⟨h, by rw [if_pos h], by rw [if_pos h, if_neg (by decide)]⟩
  by_cases h2 : s.now.getD p 0 = 255
  · exact .inr (.inl ⟨h2, by rw [if_neg h, if_pos h2], by rw [if_neg h, if_pos h2, if_neg (by decide)]⟩)
  · exact .inr (.inr ⟨h, h2, by rw [if_neg h, if_neg h2], by rw [if_neg h, if_neg h2, if_pos rfl]⟩)
theorem u8_255 {x : UInt8} (h : x ≠ 255) : ¬ (x.toNat : Int) = 255 := fun e => h (u8_inj (by show x.toNat = 255; omega))

set_option maxRecDepth 100000 in
set_option maxHeartbeats 1000000 in
theorem bshare_any (lo g nb no nc : Nat) (b u y : Value) (s : StoreL) (p : Nat) (w : World) (h : BenAt w lo g nb no nc b u y s) (hp : p < 256) :
    Calls Try.prog 96 #[.pointer (some ⟨g, 0, none⟩), .int .i64 p] w fun e w' => e = .returned (.int .i64 (errBs s p)) ∧ BenAt w' lo g nb no nc b u y (upS s p) ∧ Below lo w w' ∧ w'.heap.size = w.heap.size ∧ ∀ k, k ≠ nb → w'.heap[k]? = w.heap[k]? := by
  have hE := up_cases s p
  have c2 := blk_cell h.blk 2
  simp at c2
  have f1 := h.cell p hp
  have z1 := h.thaw _ _ _ _ rfl p hp
  have i1 : ¬ (256 : Int) ≤ p := by omega
  have HB := Lib.hid h
  have hset := fun x => h.set p x hp
  have HS := Lib.hid hset
  obtain ⟨l1, l2, l3, l4⟩ := h.lo_
  have hln := Bytes.len_le h.now
  obtain ⟨a0, c0, e0, y0, y1, -⟩ := h.now
  injection e0 with ea e1 e2
  clear ea
  rw [← e1, ← e2] at y0
  rw [← e2] at y1
  unfold maxLen at y1
  clear h hset hln e1 e2
  obtain ⟨x, hx⟩ : ∃ x, s.now.getD p 0 = x := ⟨_, rfl⟩
  rw [hx] at hE f1
  simp only [bV] at f1
  clear hx
  go_enter Try.func96, Try.ntmps96
  rcases hE with ⟨rfl, h1, h2⟩ | ⟨rfl, h1, h2⟩ | ⟨h0, h5, h1, h2⟩
  · have e0 : ((0 : UInt8).toNat : Int) = 0 := rfl
    rw [e0] at f1
    rw [h1, h2]
    clear h1 h2
    go_wp2
    go_ret
    exact ⟨rfl, HB.out, Below.refl _ _, rfl, fun _ _ => rfl⟩
  · have e0 : ((255 : UInt8).toNat : Int) = 255 := rfl
    rw [e0] at f1
    rw [h1, h2]
    clear h1 h2
    go_wp2
    go_ret
    exact ⟨rfl, HB.out, Below.refl _ _, rfl, fun _ _ => rfl⟩
  have e0 := u8_nz h0
  have e5 := u8_255 h5
  have e6 := u8_up h5
  have hx2 := x.toNat_lt
  have HX := Lib.hid (HS.out (x + 1))
  rw [h1, h2]
  clear h1 h2 h0 h5
  have hv : bV (x + 1) = .int .u8 (((x + 1).toNat : Nat) : Int) := rfl
  rw [e6] at hv
  clear e6
  obtain ⟨xn, hxn⟩ : ∃ n, x.toNat = n := ⟨_, rfl⟩
  rw [hxn] at f1 hv hx2 e0 e5
  have e7 : ((xn + 1 : Nat) : Int) = (xn : Int) + 1 := by omega
  rw [e7] at hv
  clear e7
  have hw : IntKind.u8.wrap ((xn : Int) + 1) = (xn : Int) + 1 := by rw [IntKind.wrap_u8]; omega
  have HV := Lib.hid hv
  clear hv hxn
  go_wp2
  go_ret
  have hX := HX.out
  rw [HV.out] at hX
  exact ⟨rfl, hX, (Below.refl lo w).setCell (p := ⟨nb, no + p, none⟩) l1 _, World.size_setCell _ _ _, fun k hk => set_other _ nb _ _ k hk⟩

def errBl (s : StoreL) (p : Nat) : Int := if s.now.getD p 0 = 0 then 6 else 0
def dnS (s : StoreL) (p : Nat) : StoreL := if errBl s p = 0 then ⟨s.disk, s.now.set p (s.now.getD p 0 + 255), s.last⟩ else s
theorem dn_cases (s : StoreL) (p : Nat) : (s.now.getD p 0 = 0 ∧ errBl s p = 6 ∧ dnS s p = s) ∨ (s.now.getD p 0 ≠ 0 ∧ errBl s p = 0 ∧ dnS s p = ⟨s.disk, s.now.set p (s.now.getD p 0 + 255), s.last⟩) := by
  unfold dnS errBl
  by_cases h : s.now.getD p 0 = 0
  · exact .inl ⟨h, by rw [if_pos h], by rw [if_pos h, if_neg (by decide)]⟩
  · exact .inr ⟨h, by rw [if_neg h], by rw [if_neg h, if_pos rfl]⟩

set_option maxRecDepth 100000 in
set_option maxHeartbeats 1000000 in
theorem bloose_any (lo g nb no nc : Nat) (b u y : Value) (s : StoreL) (p : Nat) (w : World) (h : BenAt w lo g nb no nc b u y s) (hp : p < 256) :
    Calls Try.prog 73 #[.pointer (some ⟨g, 0, none⟩), .int .i64 p] w fun e w' => e = .returned (.int .i64 (errBl s p)) ∧ BenAt w' lo g nb no nc b u y (dnS s p) ∧ Below lo w w' ∧ w'.heap.size = w.heap.size ∧ ∀ k, k ≠ nb → w'.heap[k]? = w.heap[k]? := by
  have hE := dn_cases s p
  have c2 := blk_cell h.blk 2
  simp at c2
  have f1 := h.cell p hp
  have z1 := h.thaw _ _ _ _ rfl p hp
  have i1 : ¬ (256 : Int) ≤ p := by omega
  have HB := Lib.hid h
  have hset := fun x => h.set p x hp
  have HS := Lib.hid hset
  obtain ⟨l1, l2, l3, l4⟩ := h.lo_
  have hln := Bytes.len_le h.now
  obtain ⟨a0, c0, e0, y0, y1, -⟩ := h.now
  injection e0 with ea e1 e2
  clear ea
  rw [← e1, ← e2] at y0
  rw [← e2] at y1
  unfold maxLen at y1
  clear h hset hln e1 e2
  obtain ⟨x, hx⟩ : ∃ x, s.now.getD p 0 = x := ⟨_, rfl⟩
  rw [hx] at hE f1
  simp only [bV] at f1
  clear hx
  go_enter Try.func73, Try.ntmps73
  rcases hE with ⟨rfl, h1, h2⟩ | ⟨h0, h1, h2⟩
  · have e0 : ((0 : UInt8).toNat : Int) = 0 := rfl
    rw [e0] at f1
    rw [h1, h2]
    clear h1 h2
    go_wp2
    go_ret
    exact ⟨rfl, HB.out, Below.refl _ _, rfl, fun _ _ => rfl⟩
  have e0 := u8_nz h0
  have e6 := u8_down h0
  have hx2 := x.toNat_lt
  have HX := Lib.hid (HS.out (x + 255))
  rw [h1, h2]
  clear h1 h2 h0
  have hv : bV (x + 255) = .int .u8 (((x + 255).toNat : Nat) : Int) := rfl
  rw [e6] at hv
  clear e6
  obtain ⟨xn, hxn⟩ : ∃ n, x.toNat = n := ⟨_, rfl⟩
  rw [hxn] at f1 hv hx2 e0
  have hw : IntKind.u8.wrap ((xn : Int) - 1) = ((xn - 1 : Nat) : Int) := by rw [IntKind.wrap_u8]; omega
  have HV := Lib.hid hv
  clear hv hxn
  go_wp2
  go_ret
  have hX := HX.out
  rw [HV.out] at hX
  exact ⟨rfl, hX, (Below.refl lo w).setCell (p := ⟨nb, no + p, none⟩) l1 _, World.size_setCell _ _ _, fun k hk => set_other _ nb _ _ k hk⟩

set_option maxRecDepth 100000 in
set_option maxHeartbeats 1000000 in
theorem clip_any (a : Option Addr) (n c : Nat) (w : World) (h1 : n ≤ c) (h2 : c ≤ maxLen) (h3 : a = none → c = 0) : Calls Try.prog 94 #[.slice a n c] w fun e w' => e = .returned (.slice a n n) ∧ w' = w := by
  unfold maxLen at h2
  cases a with
  | none =>
    obtain rfl := h3 rfl
    obtain rfl : n = 0 := by omega
    go_enter Try.func94, Try.ntmps94
    go_wp2
    go_ret
    exact ⟨rfl, rfl⟩
  | some x =>
    have i1 : ¬ (n : Int) < 0 := by omega
    have i2 : ¬ (c : Int) < n := by omega
    go_enter Try.func94, Try.ntmps94
    go_wp2
    go_ret
    exact ⟨rfl, rfl⟩

theorem Sl.clip {α : Type} {r : Rd α} {w : World} {lo hi n c : Nat} {a : Option Addr} {l : List α} (h : Sl r w lo hi (.slice a n c) l) : Sl r w lo hi (.slice a n n) l := by
  obtain ⟨a', c', e, h1, h2, h3, h4⟩ := h
  cases e
  exact ⟨a, _, rfl, Nat.le_refl _, Nat.le_trans h1 h2, h3, fun e => by have := h4 e; omega⟩
theorem kp_hid {w Z : World} {hi nb g : Nat} (hb : Below hi w Z) (h : hi ≤ nb) (h2 : hi ≤ g) : Kp 0 hi w (hideW Z (hidN nb g)) :=
  hideW_kp fun k _ hk => ⟨by simp [hidN]; omega, hb.block k hk⟩
/-- The bench has another list of what waits. -/
theorem BenAt.waits {V : World} {lo g nb no nc : Nat} {b u y : Value} {s : StoreL} (h : BenAt V lo g nb no nc b u y s) (V' : World) (hk : ∀ k, k < V.heap.size → k ≠ g → V'.heap[k]? = V.heap[k]?) (hs : V.heap.size ≤ V'.heap.size) (u' : Value)
    (hg : V'.heap[g]? = some (.cells #[b, u', .slice (some ⟨nb, no, none⟩) 256 nc, y] 132 (0, 0))) (l : List WrL) (hd : Sl rWrite (hideW V' (hidN nb g)) 0 V'.heap.size u' l) :
    BenAt V' lo g nb no nc b u' y ⟨⟨s.disk.blocks, l⟩, s.now, s.last⟩ := by
  have hc := hid_self V nb g V' (fun k hk' _ h2 => hk k hk' h2)
  have hnb := hk nb h.lo_.2.2.2 (fun e => h.lo_.2.2.1 e.symm)
  refine ⟨hg, ⟨(Sl.ck rBytes_ck h.disk.1 hc).more (Nat.le_refl _) hs, hd⟩, ?_, ?_, (h.last.ck hc).more (Nat.le_refl _) hs, h.len, h.lo_.1, h.lo_.2.1, h.lo_.2.2.1, Nat.lt_of_lt_of_le h.lo_.2.2.2 hs⟩
  · obtain ⟨a, c, e, h1, h2, h3, h4⟩ := h.now
    refine ⟨a, c, e, h1, h2, fun hp => ?_, h4⟩
    obtain ⟨b', off, ea, hlo, hhi, hx⟩ := h3 hp
    refine ⟨b', off, ea, hlo, Nat.lt_of_lt_of_le hhi hs, fun i x hxi => ?_⟩
    rw [ea] at e
    injection e with e1 _ _
    injection e1 with e1
    injection e1 with e1 _ _
    subst e1
    exact (World.cell?_of_block hnb).trans (hx i x hxi)
  · intro b' off n c e i hi
    have := h.thaw b' off n c e i hi
    injection e with e1 _ _
    injection e1 with e1
    injection e1 with e1 _ _
    subst e1
    exact (World.frozen?_of_block hnb).trans this

set_option maxRecDepth 100000 in
set_option maxHeartbeats 1000000 in
theorem on_any (b_s u_s x_s y_s : Value) (s : StoreL) (w : World) (h_s : StoreV w 0 w.heap.size b_s u_s x_s y_s s) (hl : s.now.length = 256) :
    Calls Try.prog 61 #[.agg #[b_s, u_s, x_s, y_s]] w fun e w' => ∃ g nb no nc au, e = .returned (.pointer (some ⟨g, 0, none⟩)) ∧ BenAt w' w.heap.size g nb no nc b_s (.slice au s.disk.waits.length s.disk.waits.length) y_s s ∧ Below w.heap.size w w' := by
  obtain ⟨ab_s, cb_s, rfl, gb_s, gc_s, -, -⟩ := h_s.1.1
  obtain ⟨au_s, cu_s, rfl, gu_s, gv_s, -, -⟩ := h_s.1.2
  obtain ⟨ax_s, cx_s, rfl, gx_s, gz_s⟩ := h_s.2.1.form rfl
  obtain ⟨ay_s, cy_s, rfl, gy_s, gw_s⟩ := h_s.2.2.form rfl
  unfold maxLen at gc_s gv_s gz_s gw_s
  have hst := ((Below.refl w.heap.size w).alloc (Nat.le_refl _) (.cells #[.slice ab_s s.disk.blocks.length cb_s, .slice au_s s.disk.waits.length cu_s, .slice ax_s s.now.length cx_s, .slice ay_s s.last.length cy_s] 28))
  have q_s := LK.new w (.cells #[.slice ab_s s.disk.blocks.length cb_s, .slice au_s s.disk.waits.length cu_s, .slice ax_s s.now.length cx_s, .slice ay_s s.last.length cy_s] 28)
  have hB : LW w _ := hst
  have O_s := (LO.of h_s (Nat.le_refl _)).step hst
  have sz_V : w.heap.size + 0 < (w.alloc (.cells #[.slice ab_s s.disk.blocks.length cb_s, .slice au_s s.disk.waits.length cu_s, .slice ax_s s.now.length cx_s, .slice ay_s s.last.length cy_s] 28)).heap.size := by simp
  obtain ⟨V, hV⟩ : ∃ V, (w.alloc (.cells #[.slice ab_s s.disk.blocks.length cb_s, .slice au_s s.disk.waits.length cu_s, .slice ax_s s.now.length cx_s, .slice ay_s s.last.length cy_s] 28)) = V := ⟨_, rfl⟩
  rw [hV] at sz_V q_s O_s hB
  clear hst h_s
  have HQ := Lib.hid (And.intro q_s (And.intro O_s hB))
  clear q_s O_s hB
  have c_q_s0 := LK.cell HQ.out.1 0
  have c_q_s1 := LK.cell HQ.out.1 1
  have c_q_s2 := LK.cell HQ.out.1 2
  have c_q_s3 := LK.cell HQ.out.1 3
  simp at c_q_s0 c_q_s1 c_q_s2 c_q_s3
  have k_n := fun V v hh => bclone_any v s.now V hh (by omega)
  have HL := Lib.hid hl
  clear hl
  have HC := Lib.hid (k_n)
  clear k_n
  have hcl : au_s = none → cu_s = 0 := by
    obtain ⟨a, c, e, -, -, -, h⟩ := HQ.out.2.1.d.2
    injection e with e1 _ e2
    subst e1 e2
    exact h
  go_enter Try.func61, Try.ntmps61
  go_upto_region 1 with (fail)
  clear hV
  go_wp2_with fail
  refine (HC.out _ _ HQ.out.2.1.n).mono ?_
  rintro e w1 ⟨vn, rfl, hm⟩
  clear c_q_s0 c_q_s1 c_q_s2 c_q_s3
  obtain ⟨q_s, O_s, hB⟩ := HQ.out
  clear HQ
  have B_n := LM.of hm
  have hst := hm.below
  obtain ⟨n1, n2, n3, rfl, n4, n5, n6, n7, -⟩ := hm.bytes.at_n HL.out (by omega)
  clear hm
  have sz_w1 : V.heap.size ≤ w1.heap.size := hst.size
  replace q_s := q_s.step hst
  replace O_s := O_s.step hst
  replace hB := hB.step hst
  clear hst
  have HQ := Lib.hid (And.intro q_s (And.intro O_s (And.intro B_n hB)))
  clear q_s O_s B_n hB
  have c_q_s0 := LK.cell HQ.out.1 0
  have c_q_s1 := LK.cell HQ.out.1 1
  have c_q_s2 := LK.cell HQ.out.1 2
  have c_q_s3 := LK.cell HQ.out.1 3
  have z_q_s0 := LK.frozen HQ.out.1 0
  have z_q_s1 := LK.frozen HQ.out.1 1
  have z_q_s2 := LK.frozen HQ.out.1 2
  have z_q_s3 := LK.frozen HQ.out.1 3
  simp at c_q_s0 c_q_s1 c_q_s2 c_q_s3
  go_wp2_with fail
  clear z_q_s0 z_q_s1 z_q_s2 z_q_s3 c_q_s0 c_q_s1 c_q_s2 c_q_s3
  obtain ⟨q_s, O_s, B_n, hB⟩ := HQ.out
  clear HQ
  have hcb := LK.blk q_s
  have hF : LK (w.heap.size) (.cells #[.slice ab_s s.disk.blocks.length cb_s, .slice au_s s.disk.waits.length cu_s, .slice (some ⟨n1, n2, none⟩) 256 n3, .slice ay_s s.last.length cy_s] 28) (w1.setCell ⟨w.heap.size, 2, none⟩ (.slice (some ⟨n1, n2, none⟩) 256 n3)) := LK.of (set_block hcb 2 _)
  have hbel : Below (w.heap.size) w1 (w1.setCell ⟨w.heap.size, 2, none⟩ (.slice (some ⟨n1, n2, none⟩) 256 n3)) := (Below.refl _ w1).setCell (p := ⟨w.heap.size, 2, none⟩) (Nat.le_refl _) _
  have hfr : ∀ x, x < w1.heap.size → (x < w.heap.size ∨ w.heap.size + 1 ≤ x) → (w1.setCell ⟨w.heap.size, 2, none⟩ (.slice (some ⟨n1, n2, none⟩) 256 n3)).heap[x]? = w1.heap[x]? := fun x _ h => (set_other _ _ _ _ _ (by omega))
  have hs4 : (w1.setCell ⟨w.heap.size, 2, none⟩ (.slice (some ⟨n1, n2, none⟩) 256 n3)).heap.size = w1.heap.size := by simp only [World.size_setCell]
  replace O_s := O_s.out (Nat.le_of_eq hs4.symm) hfr (by omega)
  replace B_n := B_n.out (Nat.le_of_eq hs4.symm) hfr (by omega)
  replace hB := hB.outB hbel (by omega)
  replace q_s := hF
  obtain ⟨w2, hw⟩ : ∃ v, (w1.setCell ⟨w.heap.size, 2, none⟩ (.slice (some ⟨n1, n2, none⟩) 256 n3)) = v := ⟨_, rfl⟩
  rw [hw] at hs4 q_s O_s B_n hB ⊢
  have sz_w2 := Nat.le_of_eq hs4
  have sy_w2 := Nat.le_of_eq hs4.symm
  clear hw hF hbel hfr hcb hs4
  have HQ := Lib.hid (And.intro q_s (And.intro O_s (And.intro B_n hB)))
  clear q_s O_s B_n hB
  have c_q_s0 := LK.cell HQ.out.1 0
  have c_q_s1 := LK.cell HQ.out.1 1
  have c_q_s2 := LK.cell HQ.out.1 2
  have c_q_s3 := LK.cell HQ.out.1 3
  have z_q_s0 := LK.frozen HQ.out.1 0
  have z_q_s1 := LK.frozen HQ.out.1 1
  have z_q_s2 := LK.frozen HQ.out.1 2
  have z_q_s3 := LK.frozen HQ.out.1 3
  simp at c_q_s0 c_q_s1 c_q_s2 c_q_s3
  refine (clip_any au_s s.disk.waits.length cu_s w2 gu_s (by unfold maxLen; exact gv_s) hcl).mono ?_
  rintro e w0 ⟨rfl, hw0⟩
  rw [hw0]
  clear hw0 w0
  go_upto_region 3 with (fail)
  clear z_q_s0 z_q_s1 z_q_s2 z_q_s3 c_q_s0 c_q_s1 c_q_s2 c_q_s3
  obtain ⟨q_s, O_s, B_n, hB⟩ := HQ.out
  clear HQ
  have hcb := LK.blk q_s
  have hF : LK (w.heap.size) (.cells #[.slice ab_s s.disk.blocks.length cb_s, .slice au_s s.disk.waits.length s.disk.waits.length, .slice (some ⟨n1, n2, none⟩) 256 n3, .slice ay_s s.last.length cy_s] 28) (w2.setCell ⟨w.heap.size, 1, none⟩ (.slice au_s s.disk.waits.length s.disk.waits.length)) := LK.of (set_block hcb 1 _)
  have hbel : Below (w.heap.size) w2 (w2.setCell ⟨w.heap.size, 1, none⟩ (.slice au_s s.disk.waits.length s.disk.waits.length)) := (Below.refl _ w2).setCell (p := ⟨w.heap.size, 1, none⟩) (Nat.le_refl _) _
  have hfr : ∀ x, x < w2.heap.size → (x < w.heap.size ∨ w.heap.size + 1 ≤ x) → (w2.setCell ⟨w.heap.size, 1, none⟩ (.slice au_s s.disk.waits.length s.disk.waits.length)).heap[x]? = w2.heap[x]? := fun x _ h => (set_other _ _ _ _ _ (by omega))
  have hs4 : (w2.setCell ⟨w.heap.size, 1, none⟩ (.slice au_s s.disk.waits.length s.disk.waits.length)).heap.size = w2.heap.size := by simp only [World.size_setCell]
  replace O_s := O_s.out (Nat.le_of_eq hs4.symm) hfr (by omega)
  replace B_n := B_n.out (Nat.le_of_eq hs4.symm) hfr (by omega)
  replace hB := hB.outB hbel (by omega)
  replace q_s := hF
  obtain ⟨w3, hw⟩ : ∃ v, (w2.setCell ⟨w.heap.size, 1, none⟩ (.slice au_s s.disk.waits.length s.disk.waits.length)) = v := ⟨_, rfl⟩
  rw [hw] at hs4 q_s O_s B_n hB ⊢
  have sz_w3 := Nat.le_of_eq hs4
  have sy_w3 := Nat.le_of_eq hs4.symm
  clear hw hF hbel hfr hcb hs4
  have HQ := Lib.hid (And.intro q_s (And.intro O_s (And.intro B_n hB)))
  clear q_s O_s B_n hB
  have c_q_s0 := LK.cell HQ.out.1 0
  have c_q_s1 := LK.cell HQ.out.1 1
  have c_q_s2 := LK.cell HQ.out.1 2
  have c_q_s3 := LK.cell HQ.out.1 3
  simp at c_q_s0 c_q_s1 c_q_s2 c_q_s3
  go_wp2
  go_ret
  have hst := (Below.refl w3.heap.size w3).alloc (Nat.le_refl _) (.cells #[.slice ab_s s.disk.blocks.length cb_s, .slice au_s s.disk.waits.length s.disk.waits.length, .slice (some ⟨n1, n2, none⟩) 256 n3, .slice ay_s s.last.length cy_s] 132)
  have hnew := World.alloc_heap_new w3 (.cells #[.slice ab_s s.disk.blocks.length cb_s, .slice au_s s.disk.waits.length s.disk.waits.length, .slice (some ⟨n1, n2, none⟩) 256 n3, .slice ay_s s.last.length cy_s] 132)
  have hBf := LW.step HQ.out.2.2.2 hst
  have hO := Lv.get HQ.out.2.1
  have hN := HQ.out.2.2.1.step hst
  have hlt : w3.heap.size < (w3.alloc (.cells #[.slice ab_s s.disk.blocks.length cb_s, .slice au_s s.disk.waits.length s.disk.waits.length, .slice (some ⟨n1, n2, none⟩) 256 n3, .slice ay_s s.last.length cy_s] 132)).heap.size := by simp
  have hkp := kp_hid (hst.mono (show w.heap.size ≤ w3.heap.size by omega)) (show w.heap.size ≤ n1 by omega) (show w.heap.size ≤ w3.heap.size by omega)
  refine ⟨_, n1, n2, n3, _, rfl, ⟨hnew, ⟨(Sl.keep hO.1.1 hkp).more (Nat.le_refl _) (by omega), ((Sl.keep hO.1.2 hkp).clip).more (Nat.le_refl _) (by omega)⟩, hN.m.1.more (by omega) (Lv.hi_le hN), hN.m.2, (hO.2.2.kept hkp).more (Nat.le_refl _) (by omega), HL.out, by omega, by omega, by omega, by omega⟩, hBf⟩

set_option maxRecDepth 100000 in
set_option maxHeartbeats 1000000 in
theorem bstore_any  (lo g nb no nc : Nat) (b u y : Value) (s : StoreL) (w : World) (h : BenAt w lo g nb no nc b u y s) (hf : FewS s)  :
    Calls Try.prog 63 #[.pointer (some ⟨g, 0, none⟩)] w fun e w' => ∃ b' u' x' y', e = .returned (.agg #[b', u', x', y']) ∧ MadeS w w' b' u' x' y' s := by
  obtain ⟨ab, cb, rfl, g1, g2, -, -⟩ := h.disk.1
  obtain ⟨au, cu, rfl, g3, g4, -, -⟩ := h.disk.2
  obtain ⟨ay, cy, rfl, g5, g6⟩ := h.last.form rfl
  unfold maxLen at g2 g4 g6
  have hst := ((Below.refl w.heap.size w).alloc (Nat.le_refl _) (.cells #[.slice none 0 0, .slice none 0 0, .slice none 0 0, .slice none 0 0] 28))
  have q_r := LK.new w (.cells #[.slice none 0 0, .slice none 0 0, .slice none 0 0, .slice none 0 0] 28)
  have hB : LW w _ := hst
  have sz_V : w.heap.size + 0 < (w.alloc (.cells #[.slice none 0 0, .slice none 0 0, .slice none 0 0, .slice none 0 0] 28)).heap.size := by simp
  obtain ⟨V, hV⟩ : ∃ V, (w.alloc (.cells #[.slice none 0 0, .slice none 0 0, .slice none 0 0, .slice none 0 0] 28)) = V := ⟨_, rfl⟩
  rw [hV] at sz_V q_r hB
  clear hst 
  have B_n := (show BenAt w lo g nb no nc _ _ _ s from h).step (by rw [← hV]; exact (Below.refl w.heap.size w).alloc (Nat.le_refl _) (.cells #[.slice none 0 0, .slice none 0 0, .slice none 0 0, .slice none 0 0] 28) : Below w.heap.size w V)
  clear h
  have k_t := fun V b1 u1 x1 y1 hh => stwin_any b1 u1 x1 y1 s V hh hf
  clear hf
  have HC := Lib.hid (k_t)
  clear k_t
  have HQ := Lib.hid (And.intro q_r (And.intro B_n hB))
  clear q_r B_n hB
  have c_q_r0 := LK.cell HQ.out.1 0
  have c_q_r1 := LK.cell HQ.out.1 1
  have c_q_r2 := LK.cell HQ.out.1 2
  have c_q_r3 := LK.cell HQ.out.1 3
  simp at c_q_r0 c_q_r1 c_q_r2 c_q_r3
  have c_b := BenAt.blk HQ.out.2.1
  have c_b0 := blk_cell c_b 0
  have c_b1 := blk_cell c_b 1
  have c_b2 := blk_cell c_b 2
  have c_b3 := blk_cell c_b 3
  simp at c_b0 c_b1 c_b2 c_b3
  clear c_b
  go_enter Try.func63, Try.ntmps63
  go_upto_region 1 with (fail)
  clear hV
  go_wp2_with fail
  refine (HC.out _ _ _ _ _ (BenAt.store HQ.out.2.1)).mono ?_
  rintro e w1 ⟨b1, u1, x1, y1, rfl, hm⟩
  clear c_q_r0 c_q_r1 c_q_r2 c_q_r3
  obtain ⟨q_r, B_n, hB⟩ := HQ.out
  clear HQ
  have P_t := LP.of hm
  have hst := hm.below
  obtain ⟨ab_t, cb_t, rfl, -, -, -, -⟩ := hm.store.v.1.1
  obtain ⟨au_t, cu_t, rfl, -, -, -, -⟩ := hm.store.v.1.2
  obtain ⟨ax_t, cx_t, rfl, -, -⟩ := hm.store.v.2.1.form rfl
  obtain ⟨ay_t, cy_t, rfl, -, -⟩ := hm.store.v.2.2.form rfl
  clear hm
  have sz_w1 : V.heap.size ≤ w1.heap.size := hst.size
  replace q_r := q_r.step hst
  replace B_n := B_n.step hst
  replace hB := hB.step hst
  clear hst
  have HQ := Lib.hid (And.intro q_r (And.intro B_n (And.intro P_t hB)))
  clear q_r B_n P_t hB
  have c_q_r0 := LK.cell HQ.out.1 0
  have c_q_r1 := LK.cell HQ.out.1 1
  have c_q_r2 := LK.cell HQ.out.1 2
  have c_q_r3 := LK.cell HQ.out.1 3
  have z_q_r0 := LK.frozen HQ.out.1 0
  have z_q_r1 := LK.frozen HQ.out.1 1
  have z_q_r2 := LK.frozen HQ.out.1 2
  have z_q_r3 := LK.frozen HQ.out.1 3
  simp at c_q_r0 c_q_r1 c_q_r2 c_q_r3
  clear c_b0 c_b1 c_b2 c_b3
  go_wp2
  refine bodyPost_ret (v := .agg #[.slice ab_t s.disk.blocks.length cb_t, .slice au_t s.disk.waits.length cu_t, .slice ax_t s.now.length cx_t, .slice ay_t s.last.length cy_t]) (by simp [results, Try.results63, go_sem, c_q_r0, c_q_r1, c_q_r2, c_q_r3]) rfl ⟨_, _, _, _, rfl, ?_⟩
  exact ((MadeL.mk ((HQ.out.2.2.1.t).more (by omega) (Lv.hi_le HQ.out.2.2.1)) HQ.out.2.2.2 : MadeL w _ (w.heap.size + 1) _ _ _ _ s).four w.heap.size _ _ _ _ (Nat.le_refl _) (Nat.lt_succ_self _)).made (by omega)

end Go.Proofs.Ytkfgegdnpinbdaa

namespace Go.Proofs.Ytkfgegdnpinbdaa
open Go.RowKit

theorem cls_alloc {w X : World} (_ : Cls w X) (o : Obj) : Below X.heap.size X (X.alloc o) := (Below.refl _ _).alloc (Nat.le_refl _) o
theorem cls_new {w X : World} (_ : Cls w X) (o : Obj) : LK X.heap.size o (X.alloc o) := LK.new X o
theorem Sl.cellAt {α : Type} {r : Rd α} {w : World} {lo hi b off n c : Nat} {l : List α} (h : Sl r w lo hi (.slice (some ⟨b, off, none⟩) n c) l) (i : Nat) (x : α) (hx : l[i]? = some x) : r.R w lo hi x (fun j => w.cell? ⟨b, off + i * r.n + j, none⟩) := by
  obtain ⟨a, c', e, h1, h2, h3, h4⟩ := h
  cases e
  obtain ⟨b', off', ea, _, _, hc⟩ := h3 (by have := (List.getElem?_eq_some_iff.1 hx).1; omega)
  cases ea
  exact hc i x hx
end Go.Proofs.Ytkfgegdnpinbdaa

