/- May a node be written: in plain Lean. No program in sight. -/
import Derived.Test.YtjikhbdpkddbgaaP09
namespace Go.Proofs.Ytjikhbdpkddbgaa
set_option linter.unusedVariables false
set_option linter.unusedSimpArgs false
open Go Go.Proofs.Ytjikhbdpkddbgaa.Eng

def wrongI (x : Int) : Bool := decide (x < 0) || decide (32 ≤ x)
def idxW : Int → List (El tI) → Int
  | _, [] => -1
  | n, x :: r => if wrongI x.1 then n else idxW (n + 1) r
def hasW (l : List (El tI)) : Bool := decide (idxW 0 l ≥ 0)
def mayN (n : Nd) : Bool := decide (n.dep ≥ 0) && decide (n.dep ≤ 3) && decide ((n.ins.length : Int) ≤ 2) && !hasW n.ins
theorem may_len {n : Nd} (h : mayN n = true) : (Nd.ins n).length ≤ 2 := by
  simp only [mayN, Bool.and_eq_true] at h
  have := of_decide_eq_true h.1.2
  omega
theorem idxW_ge : ∀ (l : List (El tI)) (n : Int), 0 ≤ n → (idxW n l ≥ 0 ↔ l.any (fun x => wrongI x.1) = true)
  | [], n, h => by simp [idxW]
  | x :: r, n, h => by
    simp only [idxW, List.any_cons, Bool.or_eq_true]
    by_cases hx : wrongI x.1 = true
    · simp [hx, h]
    · rw [if_neg hx]; have := idxW_ge r (n + 1) (by omega); simp [hx, this]
theorem hasW_eq (l : List (El tI)) : hasW l = l.any fun x => wrongI x.1 := by
  unfold hasW
  have := idxW_ge l 0 (by omega)
  cases h : l.any (fun x => wrongI x.1) with
  | true => exact decide_eq_true (this.2 h)
  | false => exact decide_eq_false fun hh => by rw [this.1 hh] at h; cases h
end Go.Proofs.Ytjikhbdpkddbgaa
