/- Which graphs are the same; which may be written: in plain Lean. No program in sight. -/
import Derived.Test.YtjikhbdpkddbgaaP09M
namespace Go.Proofs.Ytjikhbdpkddbgaa
set_option linter.unusedVariables false
set_option linter.unusedSimpArgs false
open Go Go.Proofs.Ytjikhbdpkddbgaa.Eng

def eqI : List (El tI) → List (El tI) → Bool
  | [], [] => true
  | x :: r, y :: s => (x.1 == y.1) && eqI r s
  | _, _ => false
theorem eqI_iff : ∀ (l m : List (El tI)), eqI l m = true ↔ l = m
  | [], [] => by simp [eqI]
  | x :: r, y :: s => by
    obtain ⟨a, ⟨⟩⟩ := x
    obtain ⟨b, ⟨⟩⟩ := y
    simp only [eqI, Bool.and_eq_true, List.cons.injEq, eqI_iff r s, beq_iff_eq, Prod.mk.injEq, and_true]
  | [], y :: s => by simp [eqI]
  | x :: r, [] => by simp [eqI]
def eqN (x y : Nd) : Bool := (x.1 == y.1) && ((x.2.1 == y.2.1) && ((x.2.2.1 == y.2.2.1) && ((x.2.2.2.1 == y.2.2.2.1) && eqI x.2.2.2.2.1 y.2.2.2.2.1)))
theorem eqN_iff (x y : Nd) : eqN x y = true ↔ x = y := by
  obtain ⟨a, b, c, d, l, ⟨⟩⟩ := x
  obtain ⟨a', b', c', d', l', ⟨⟩⟩ := y
  simp only [eqN, Bool.and_eq_true, eqI_iff, beq_iff_eq, Prod.mk.injEq, and_true]
def eqG : List Nd → List Nd → Bool
  | [], [] => true
  | x :: r, y :: s => eqN x y && eqG r s
  | _, _ => false
theorem eqG_iff : ∀ (l m : List Nd), eqG l m = true ↔ l = m
  | [], [] => by simp [eqG]
  | x :: r, y :: s => by simp only [eqG, Bool.and_eq_true, List.cons.injEq, eqG_iff r s, eqN_iff]
  | [], y :: s => by simp [eqG]
  | x :: r, [] => by simp [eqG]
theorem eqI_len {l m : List (El tI)} (h : l.length ≠ m.length) : eqI l m = false := by
  cases e : eqI l m with
  | false => rfl
  | true => rw [eqI_iff] at e; rw [e] at h; exact absurd rfl h
theorem eqG_len {l m : List Nd} (h : l.length ≠ m.length) : eqG l m = false := by
  cases e : eqG l m with
  | false => rfl
  | true => rw [eqG_iff] at e; rw [e] at h; exact absurd rfl h
theorem eqN_len {x y : Nd} (h : (Nd.ins x).length ≠ (Nd.ins y).length) : eqN x y = false := by
  cases e : eqN x y with
  | false => rfl
  | true => rw [eqN_iff] at e; rw [e] at h; exact absurd rfl h

theorem bne_t {a b : Int} (h : (a != b) = true) : a ≠ b := fun e => by rw [e] at h; simp at h
theorem bne_f {a b : Int} (h : (a != b) = false) : a = b := by simpa using h
theorem beq_t {a b : Int} (h : (a == b) = true) : a = b := eq_of_beq h
theorem beq_f {a b : Int} (h : (a == b) = false) : a ≠ b := ne_of_beq_false h
theorem bnl_t {a b : Nat} (h : ((a : Int) != (b : Int)) = true) : a ≠ b := fun e => bne_t h (by rw [e])
theorem bnl_f {a b : Nat} (h : ((a : Int) != (b : Int)) = false) : a = b := by have := bne_f h; omega
theorem not_t {b : Bool} (h : (!b) = true) : b = false := by simpa using h
theorem not_f {b : Bool} (h : (!b) = false) : b = true := by simpa using h
theorem eqI_step {l m : List (El tI)} {j : Nat} (h1 : j < l.length) (h2 : j < m.length) : eqI (l.drop j) (m.drop j) = (((getE tI l j).1 == (getE tI m j).1) && eqI (l.drop (j + 1)) (m.drop (j + 1))) := by
  rw [drop_get l h1, drop_get m h2]; rfl
theorem eqI_end {l m : List (El tI)} {j : Nat} (h1 : l.length ≤ j) (h2 : m.length ≤ j) : eqI (l.drop j) (m.drop j) = true := by
  rw [List.drop_eq_nil_of_le h1, List.drop_eq_nil_of_le h2]; rfl
theorem eqG_step {l m : List Nd} {j : Nat} (h1 : j < l.length) (h2 : j < m.length) : eqG (l.drop j) (m.drop j) = (eqN (getE tN l j) (getE tN m j) && eqG (l.drop (j + 1)) (m.drop (j + 1))) := by
  rw [drop_get l h1, drop_get m h2]; rfl
theorem eqG_end {l m : List Nd} {j : Nat} (h1 : l.length ≤ j) (h2 : m.length ≤ j) : eqG (l.drop j) (m.drop j) = true := by
  rw [List.drop_eq_nil_of_le h1, List.drop_eq_nil_of_le h2]; rfl
def neH (x y : Nd) : Bool := bif bif bif bif x.1 != y.1 then true else x.2.1 != y.2.1 then true else x.2.2.1 != y.2.2.1 then true else x.2.2.2.1 != y.2.2.2.1 then true else ((x.2.2.2.2.1.length : Int) != (y.2.2.2.2.1.length : Int))
theorem neH_t {x y : Nd} (h : neH x y = true) : eqN x y = false := by
  cases e : eqN x y with
  | false => rfl
  | true =>
    rw [eqN_iff] at e
    subst e
    simp [neH] at h
theorem neH_f {x y : Nd} (h : neH x y = false) : eqN x y = eqI (Nd.ins x) (Nd.ins y) ∧ (Nd.ins x).length = (Nd.ins y).length := by
  simp only [neH, Bool.cond_true_left, Bool.or_eq_false_iff] at h
  obtain ⟨⟨⟨⟨h1, h2⟩, h3⟩, h4⟩, h5⟩ := h
  refine ⟨?_, bnl_f h5⟩
  unfold eqN
  rw [beq_iff_eq.2 (bne_f h1), beq_iff_eq.2 (bne_f h2), beq_iff_eq.2 (bne_f h3), beq_iff_eq.2 (bne_f h4)]
  rfl
/-- May a graph be written? -/
def mayG (g : List Nd) : Bool := g.all mayN && (decide (1 ≤ (g.length : Int)) && decide ((g.length : Int) ≤ 32))
theorem wr_eq (x : Int) : (bif decide (x < 0) then true else decide (x > 31)) = wrongI x := by
  unfold wrongI
  rw [Bool.cond_true_left]
  rfl
def maH (n : Nd) : Bool := bif bif decide (n.2.2.2.1 < 0) then true else decide (n.2.2.2.1 > 3) then true else decide ((n.2.2.2.2.1.length : Int) > 2)
theorem maH_t {n : Nd} (h : maH n = true) : mayN n = false := by
  simp only [maH, Bool.cond_true_left, Bool.or_eq_true] at h
  unfold mayN Nd.dep Nd.ins
  rcases h with (h | h) | h <;> have h := of_decide_eq_true h
  · rw [decide_eq_false (by omega)]; rfl
  · rw [decide_eq_false (p := _ ≤ 3) (by omega), Bool.and_false]; rfl
  · rw [decide_eq_false (p := _ ≤ 2) (by omega), Bool.and_false]; rfl
theorem maH_f {n : Nd} (h : maH n = false) : mayN n = !(Nd.ins n).any fun x => wrongI x.1 := by
  simp only [maH, Bool.cond_true_left, Bool.or_eq_false_iff] at h
  obtain ⟨⟨h1, h2⟩, h3⟩ := h
  have h1 := of_decide_eq_false h1
  have h2 := of_decide_eq_false h2
  have h3 := of_decide_eq_false h3
  unfold mayN Nd.dep Nd.ins
  rw [hasW_eq, decide_eq_true (p := _ ≥ 0) (by omega), decide_eq_true (p := _ ≤ 3) (by omega), decide_eq_true (p := _ ≤ 2) (by omega)]
  rfl
theorem insG_spec {g : List Nd} {top : Int} (h : insG g top = true) : (g.length : Int) ≤ top ∧ ∀ n ∈ g, ((Nd.ins n).length : Int) ≤ top := by
  unfold insG at h
  rw [Bool.and_eq_true] at h
  refine ⟨of_decide_eq_true h.1, fun n hn => ?_⟩
  exact of_decide_eq_true (List.all_eq_true.1 h.2 n hn)
theorem wr_any {l : List (El tI)} {k : Nat} (hk : k < l.length) (h : (bif decide ((getE tI l k).1 < 0) then true else decide ((getE tI l k).1 > 31)) = true) (hi : ((l.drop k).any fun x => wrongI x.1) = l.any fun x => wrongI x.1) : (l.any fun x => wrongI x.1) = true := by
  rw [wr_eq] at h
  rw [← hi, drop_get _ hk, List.any_cons, h, Bool.true_or]
theorem take_get {t : Ty} (l : List (El t)) {j : Nat} (h : j < l.length) : l.take (j + 1) = l.take j ++ [getE t l j] := by
  rw [List.take_succ_eq_append_getElem h]
  congr 2
  unfold getE
  simp [List.getD, h]
def pick (i n : Int) : Int := if n ≤ 0 then 0 else (IntKind.i64.wrap (i.tmod n + n)).tmod n
end Go.Proofs.Ytjikhbdpkddbgaa
