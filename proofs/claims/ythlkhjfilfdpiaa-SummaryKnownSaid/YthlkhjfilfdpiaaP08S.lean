/- Summaries' order in plain Lean: it parts whatever two are unlike. -/
import Derived.Test.YthlkhjfilfdpiaaD08L
namespace Go.Proofs.Ythlkhjfilfdpiaa
set_option linter.unusedVariables false
open Go Go.Sort Go.Proofs.Ythlkhjfilfdpiaa.Eng Go.Proofs

theorem ord_lt (x y : El tS) : ltOf ordS x y = true ↔ (x.1 < y.1 ∨ x.1 = y.1 ∧ (x.2.1 < y.2.1 ∨ x.2.1 = y.2.1 ∧ (x.2.2.1 < y.2.2.1 ∨ x.2.2.1 = y.2.2.1 ∧ (x.2.2.2.1 < y.2.2.2.1 ∨ x.2.2.2.1 = y.2.2.2.1 ∧ (x.2.2.2.2.1 < y.2.2.2.2.1 ∨ x.2.2.2.2.1 = y.2.2.2.2.1 ∧ (x.2.2.2.2.2.1 < y.2.2.2.2.2.1 ∨ x.2.2.2.2.2.1 = y.2.2.2.2.2.1 ∧ x.2.2.2.2.2.2.1 < y.2.2.2.2.2.2.1)))))) := by
  obtain ⟨a1, a2, a3, a4, a5, a6, a7, _⟩ := x
  obtain ⟨b1, b2, b3, b4, b5, b6, b7, _⟩ := y
  have hc : ∀ u v : Int, cmpI u v = 0 ↔ u = v := fun u v => by unfold cmpI; split <;> (try split) <;> constructor <;> intro h <;> first | omega | (exfalso; revert h; decide) | rfl
  have hn : ∀ u v : Int, cmpI u v < 0 ↔ u < v := fun u v => by unfold cmpI; split <;> (try split) <;> constructor <;> intro h <;> first | omega | (exfalso; revert h; decide) | decide
  unfold ltOf ordS
  simp only [orI, cmpL, decide_eq_true_eq, hc]
  repeat' split
  all_goals (try simp only [hn])
  all_goals first | omega | (rename_i h; rw [hc] at h; omega)
theorem ord_swo : SWO (ltOf ordS) where
  irrefl x := by
    have := ord_lt x x
    cases h : ltOf ordS x x with
    | false => rfl
    | true => exact absurd (this.1 h) (by omega)
  trans x y z h1 h2 := by rw [ord_lt] at *; omega
  ntrans x y z h1 h2 := by
    rw [Bool.eq_false_iff, ne_eq, ord_lt] at *; omega
theorem ord_parts (x y : El tS) (h1 : ltOf ordS x y = false) (h2 : ltOf ordS y x = false) : x = y := by
  rw [Bool.eq_false_iff, ne_eq, ord_lt] at h1 h2
  obtain ⟨a1, a2, a3, a4, a5, a6, a7, _⟩ := x
  obtain ⟨b1, b2, b3, b4, b5, b6, b7, _⟩ := y
  simp only [Prod.mk.injEq, and_true]
  dsimp only at h1 h2
  omega
end Go.Proofs.Ythlkhjfilfdpiaa
