/- A graph's bytes: in plain Lean. No program in sight. -/
import Derived.Test.YtjikhbdpkddbgaaP09S
import Derived.Laws.BitsLemmas
import Derived.Laws.Bits64
namespace Go.Proofs.Ytjikhbdpkddbgaa
set_option linter.unusedVariables false
set_option linter.unusedSimpArgs false
open Go Go.Proofs.Ytjikhbdpkddbgaa.Eng

/-- A node's bytes; those of nodes, if they may be written. -/
def putN (n : Nd) : List (El tU) := (n.kind, ()) :: (n.a, ()) :: u8 (n.b.fdiv (2 ^ 56)) :: u8 (n.b.fdiv (2 ^ 48)) :: u8 (n.b.fdiv (2 ^ 40)) :: u8 (n.b.fdiv (2 ^ 32)) :: u8 (n.b.fdiv (2 ^ 24)) :: u8 (n.b.fdiv (2 ^ 16)) :: u8 (n.b.fdiv (2 ^ 8)) :: u8 (n.b.fdiv (2 ^ 0)) :: u8 n.dep :: u8 n.ins.length :: n.ins.map fun x => u8 x.1
theorem putN_len (n : Nd) : (putN n).length = 12 + (Nd.ins n).length := by
  simp only [putN, List.length_cons, List.length_map]
  omega
def putF : List Nd → Option (List (El tU))
  | [] => some []
  | n :: r => if mayN n then (putF r).map (putN n ++ ·) else none
def putG (g : List Nd) : List (El tU) × Int :=
  if g.length < 1 ∨ 32 < g.length then ([], 3) else match putF g with
    | none => ([], 90)
    | some l => (u8 g.length :: l, 0)
theorem putF_all : ∀ (g : List Nd), putF g = if g.all mayN = true then some (g.flatMap putN) else none
  | [] => rfl
  | n :: r => by
    rw [putF, putF_all r, List.all_cons, List.flatMap_cons]
    by_cases h : mayN n = true
    · rw [if_pos h, h, Bool.true_and]
      split <;> rfl
    · have h' : mayN n = false := by simpa using h
      rw [if_neg h, h', Bool.false_and]
      rfl
/-- The document's bytes of a node. -/
def putR (n : Nd) : List (El tU) := (n.kind, ()) :: (n.a, ()) :: u8 ((IntKind.u64.wrap n.b).fdiv (2 ^ 56)) :: u8 ((IntKind.u64.wrap n.b).fdiv (2 ^ 48)) :: u8 ((IntKind.u64.wrap n.b).fdiv (2 ^ 40)) :: u8 ((IntKind.u64.wrap n.b).fdiv (2 ^ 32)) :: u8 ((IntKind.u64.wrap n.b).fdiv (2 ^ 24)) :: u8 ((IntKind.u64.wrap n.b).fdiv (2 ^ 16)) :: u8 ((IntKind.u64.wrap n.b).fdiv (2 ^ 8)) :: u8 ((IntKind.u64.wrap n.b).fdiv (2 ^ 0)) :: u8 n.dep :: u8 n.ins.length :: n.ins.map fun x => u8 x.1
theorem sh_eq (b : Int) {k : Nat} (h : k ≤ 7) : u8 ((IntKind.u64.wrap b).fdiv (2 ^ (8 * k))) = u8 (b.fdiv (2 ^ (8 * k))) := by
  have : k = 0 ∨ k = 1 ∨ k = 2 ∨ k = 3 ∨ k = 4 ∨ k = 5 ∨ k = 6 ∨ k = 7 := by omega
  unfold u8
  congr 1
  rw [IntKind.wrap_u64, IntKind.wrap_u8, IntKind.wrap_u8]
  rcases this with rfl | rfl | rfl | rfl | rfl | rfl | rfl | rfl
  all_goals (rw [Int.fdiv_eq_ediv_of_nonneg _ (by decide), Int.fdiv_eq_ediv_of_nonneg _ (by decide)]; omega)
theorem putR_eq (n : Nd) : putR n = putN n := by
  unfold putR putN
  have h := fun k hk => sh_eq n.b (k := k) hk
  have h0 := h 0 (by decide)
  have h1 := h 1 (by decide)
  have h2 := h 2 (by decide)
  have h3 := h 3 (by decide)
  have h4 := h 4 (by decide)
  have h5 := h 5 (by decide)
  have h6 := h 6 (by decide)
  have h7 := h 7 (by decide)
  simp only [Nat.mul_zero, Nat.mul_one, Nat.reduceMul] at h0 h1 h2 h3 h4 h5 h6 h7
  rw [h0, h1, h2, h3, h4, h5, h6, h7]
end Go.Proofs.Ytjikhbdpkddbgaa
