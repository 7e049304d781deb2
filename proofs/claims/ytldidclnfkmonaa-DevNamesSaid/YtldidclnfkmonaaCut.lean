/- s[i:j] of a slice that is not nil: one value, whatever the room behind. -/
import Derived.Test.YtldidclnfkmonaaChecked
import Derived.Test.YtldidclnfkmonaaDat
namespace Go.Proofs.Ytldidclnfkmonaa
open Go.RowKit

theorem cut_run (b off n c i j : Nat) (I J : Int) (hI : I = i) (hJ : J = j) (hij : i ≤ j) (hjc : j ≤ c) (hcm : c ≤ maxLen) : ∃ A : Addr,
    (∀ w, (Instr.sliceAt 28 (.slice (some ⟨b, off, none⟩) n c) (some (.int .i64 I)) (some (.int .i64 J)) none).run Try.prog w = .ok (.slice (some A) (j - i) (c - i)) w) ∧
    ∀ W lo hi l, Bytes W lo hi (.slice (some ⟨b, off, none⟩) n c) l → j ≤ l.length → Bytes W lo hi (.slice (some A) (j - i) (c - i)) ((l.drop i).take (j - i)) := by
  subst hI hJ
  by_cases h : c = i
  · refine ⟨⟨b, off, none⟩, fun w => ?_, fun W lo hi l hb hj => ?_⟩
    · simp [go_sem]
      rw [if_pos hjc, if_pos hij, if_pos h]
    · have e : j - i = 0 := by omega
      rw [e]
      obtain ⟨a, c', e1, h1, h2, h3, h4⟩ := hb
      cases e1
      exact ⟨some ⟨b, off, none⟩, c - i, by simp, by simp, by omega, fun hp => by simp at hp, fun h => by cases h⟩
  · refine ⟨⟨b, off + i, none⟩, fun w => ?_, fun W lo hi l hb hj => ?_⟩
    · simp [go_sem]
      rw [if_pos hjc, if_pos hij, if_neg h]
    · exact hb.cut i (j - i) (c - i) (by omega) (by omega) (by omega)
end Go.Proofs.Ytldidclnfkmonaa
