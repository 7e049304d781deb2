/- The walk of the statement ItemNames. -/
import Derived.Test.YtldidclnfkmonaaLawI1
namespace Go.Proofs.Ytldidclnfkmonaa
open Go.RowKit

theorem RowB.all {w : World} {g n : Nat} {e : TypeId} {l : List UInt8} (h : RowB w g e l) (hn : l.length = n) (hl : n ≤ maxLen) : Bytes w 0 w.heap.size (.slice (some ⟨g, 0, none⟩) n n) l := by
  subst hn
  exact (h.bytes hl).more (Nat.zero_le _) h.lt
/-- An operation behind a guard that lets it by. -/
theorem wpList_ung {P : Program} {ops : Array Oper} {Q : Exit → Act → World → Prop} {a : Act} {w : World} {rest : List Oper} {o : Oper} (hw : Region.wanted o (yielded ops a.tmps) = true)
    (h : wpList P ops Q ({ o with guard := none } :: rest) a w) : wpList P ops Q (o :: rest) a w := by
  unfold wpList at h ⊢
  rw [if_pos hw]
  have h2 : Region.wanted { o with guard := none } (yielded ops a.tmps) = true := by simp [Region.wanted]
  rw [if_pos h2] at h
  cases o
  exact h

set_option maxRecDepth 100000 in
set_option maxHeartbeats 1000000 in
theorem itemNames_walk (w : World) : Calls Try.prog 9 #[] w fun e w' => e = .returned (.bool true) ∧ Below w.heap.size w w' := by
  have hr := iread_any _ _ w (Bytes.nil_ w 0 w.heap.size)
  rw [show mayE (readOk []) = 8 by decide, show readN [] = 0 by decide, show readI [] = zeroI by decide] at hr
  have k1 := fun W => key_any 2 0 0 W
  have k2 := fun W => key_any 1 9 9 W
  have k3 := fun W => key_any 1 5 0 W
  have l1 := fun W => less_any ⟨2, 0, 0⟩ ⟨1, 9, 9⟩ W
  have l2 := fun W => less_any ⟨1, 5, 0⟩ ⟨1, 5, 0⟩ W
  rw [show lessK ⟨2, 0, 0⟩ ⟨1, 9, 9⟩ = false by decide] at l1
  rw [show lessK ⟨1, 5, 0⟩ ⟨1, 5, 0⟩ = false by decide] at l2
  have i1 := fun W => icheck_any ⟨⟨0, 0, 0⟩, 7, []⟩ _ W (Bytes.nil_ W 0 W.heap.size)
  rw [show mayE (mayI ⟨⟨0, 0, 0⟩, 7, []⟩) = 8 by decide] at i1
  have i2 := fun W v h => icheck_any ⟨⟨0, 0, 0⟩, 0, List.replicate 13 0⟩ v W h
  rw [show mayE (mayI ⟨⟨0, 0, 0⟩, 0, List.replicate 13 0⟩) = 8 by decide] at i2
  have HK := Lib.hid (And.intro k1 (And.intro k2 (And.intro k3 (And.intro l1 (And.intro l2 (And.intro i1 i2))))))
  have Hr := Lib.hid hr
  clear hr k1 k2 k3 l1 l2 i1 i2
  go_enter Try.func9, Try.ntmps9
  go_wp2_with fail
  refine Hr.out.mono ?_
  rintro e w1 ⟨u, rfl, hm⟩
  have hB1 := hm.below
  obtain ⟨ua, uc, rfl, -, -⟩ := hm.bytes.form (n := 0) rfl
  simp only [itemV, zeroI, bV, wV]
  clear hm
  go_upto_region 2 with (fail)
  have hB1' := hB1.alloc hB1.size (.cells #[.int .u8 ((0 : UInt8).toNat : Int), .int .u32 ((0 : UInt32).toNat : Int), .int .u32 ((0 : UInt32).toNat : Int), .int .i64 0, .slice ua 0 uc] 30)
  clear hB1
  simp only [UInt8.toNat_zero, UInt32.toNat_zero, Int.natCast_zero] at hB1' ⊢
  generalize w1.alloc (.cells #[.int .u8 0, .int .u32 0, .int .u32 0, .int .i64 0, .slice ua 0 uc] 30) = y0 at *
  have hB0 := hB1'
  clear hB1'
  go_wp2_with fail
  refine (alive5 _).mono ?_
  rintro e y1 ⟨rfl, hb⟩
  have hB1 := below_step hB0 hB0.size hb
  clear hb hB0
  go_wp2_with fail
  refine (HK.out.1 _).mono ?_
  rintro e y2 ⟨rfl, hb⟩
  have hB2 := below_step hB1 hB1.size hb
  clear hb hB1
  go_wp2_with fail
  refine (HK.out.2.1 _).mono ?_
  rintro e y3 ⟨rfl, hb⟩
  have hB3 := below_step hB2 hB2.size hb
  clear hb hB2
  go_wp2_with fail
  refine (HK.out.2.2.2.1 _).mono ?_
  rintro e y4 ⟨rfl, hb⟩
  have hB4 := below_step hB3 hB3.size hb
  clear hb hB3
  go_wp2_with fail
  refine (HK.out.2.2.1 _).mono ?_
  rintro e y5 ⟨rfl, hb⟩
  have hB5 := below_step hB4 hB4.size hb
  clear hb hB4
  go_wp2_with fail
  refine (HK.out.2.2.1 _).mono ?_
  rintro e y6 ⟨rfl, hb⟩
  have hB6 := below_step hB5 hB5.size hb
  clear hb hB5
  go_wp2_with fail
  refine (HK.out.2.2.2.2.1 _).mono ?_
  rintro e y7 ⟨rfl, hb⟩
  have hB7 := below_step hB6 hB6.size hb
  clear hb hB6
  go_wp2_with fail
  refine (HK.out.2.2.2.2.2.1 _).mono ?_
  rintro e y8 ⟨rfl, hb⟩
  have hB8 := below_step hB7 hB7.size hb
  clear hb hB7
  go_wp2_with (refine wpList_ung rfl ?_; refine wpList_makeB rfl (.const (.int .i64 13)) (.const (.int .i64 13)) 28 rfl 5 Try.underlying28 info_u8 13 rfl rfl (by omega) ?_; intro z1 hrow hb3)
  have hB9 := below_step hB8 hB8.size hb3
  have hbz := hrow.all (n := 13) (by rw [List.length_replicate]) (by unfold maxLen; omega)
  clear hrow hb3 hB8
  have hi2 := HK.out.2.2.2.2.2.2 _ _ hbz
  have Hi2 := Lib.hid hi2
  clear hi2 hbz
  refine Hi2.out.mono ?_
  rintro e z2 ⟨rfl, hb⟩
  have hB10 := below_step hB9 hB9.size hb
  clear hb hB9
  go_wp2
  go_ret
  exact ⟨rfl, hB10⟩
end Go.Proofs.Ytldidclnfkmonaa
