/- Graphs in plain Lean: what layer 9 answers. No program in sight. -/
import Derived.Test.YtjikhbdpkddbgaaF14
namespace Go.Proofs.Ytjikhbdpkddbgaa
set_option linter.unusedVariables false
open Go Go.Proofs.Ytjikhbdpkddbgaa.Eng

abbrev tI : Ty := .int .i64 .nil
abbrev tU : Ty := .int .u8 .nil
abbrev tN : Ty := .int .u8 (.int .u8 (.int .i64 (.int .i64 (.sl tI .nil))))
abbrev tP : Ty := .int .i64 (.int .i64 .nil)
/-- A node: what it does, its numbers, its depth, from where it is fed. -/
abbrev Nd := El tN
def Nd.kind (n : Nd) : Int := n.1
def Nd.a (n : Nd) : Int := n.2.1
def Nd.b (n : Nd) : Int := n.2.2.1
def Nd.dep (n : Nd) : Int := n.2.2.2.1
def Nd.ins (n : Nd) : List (El tI) := n.2.2.2.2.1

/-- The inputs of node n, from its k-th on, that node i feeds. -/
def toIn (n i : Int) : Int → List (El tI) → List (El tP)
  | _, [] => []
  | k, x :: r => if x.1 = i then (n, k, ()) :: toIn n i (k + 1) r else toIn n i (k + 1) r
def toOut (i : Int) : Int → List Nd → List (El tP)
  | _, [] => []
  | n, x :: r => toIn n i 0 x.ins ++ toOut i (n + 1) r
/-- The inputs that a node feeds. -/
def toG (g : List Nd) (i : Int) : List (El tP) := toOut i 0 g
/-- Of at most so many nodes, and inputs of each. -/
def insG (g : List Nd) (top : Int) : Bool := decide ((g.length : Int) ≤ top) && g.all fun n => decide ((n.ins.length : Int) ≤ top)

/-- A node's cells. -/
def ndC (q : Bool) (n : Nd) : AV := .cons (.v (.int .u8 n.1)) (.cons (.v (.int .u8 n.2.1)) (.cons (.v (.int .i64 n.2.2.1)) (.cons (.v (.int .i64 n.2.2.2.1)) (.cons (.rl q tI n.2.2.2.2.1) .nil))))
theorem lt_t {j n : Nat} (h : decide ((j : Int) < (n : Int)) = true) : j < n := Int.ofNat_lt.1 (of_decide_eq_true h)
theorem lt_f {j n : Nat} (h : decide ((j : Int) < (n : Int)) = false) : n ≤ j := Nat.le_of_not_lt fun hh => of_decide_eq_false h (Int.ofNat_lt.2 hh)
/-- A counter's next. -/
theorem wrapS {j : Nat} (h : j < 4611686018427387904) : IntKind.i64.wrap ((j : Int) + 1) = ((j + 1 : Nat) : Int) := by
  rw [IntKind.wrap_i64]; omega
abbrev u8 (x : Int) : El tU := (IntKind.u8.wrap x, ())
/-- A counter under a bound. -/
theorem wrapI {x : Int} (h1 : -9223372036854775808 ≤ x) (h2 : x ≤ 9223372036854775807) : IntKind.i64.wrap x = x := by
  rw [IntKind.wrap_i64]; omega
theorem toIn_len (n i : Int) : ∀ (k : Int) (l : List (El tI)), (toIn n i k l).length ≤ l.length
  | _, [] => Nat.le_refl _
  | k, x :: r => by
    have := toIn_len n i (k + 1) r
    simp only [toIn]
    split <;> simp <;> omega
theorem toOut_len (i : Int) {m : Nat} : ∀ (n : Int) (g : List Nd), (∀ x ∈ g, x.ins.length ≤ m) → (toOut i n g).length ≤ g.length * m
  | _, [], _ => Nat.zero_le _
  | n, x :: r, h => by
    have h1 := toIn_len n i 0 x.ins
    have h2 := h x (by simp)
    have h3 := toOut_len i (n + 1) r fun y hy => h y (by simp [hy])
    simp only [toOut, List.length_append, List.length_cons, Nat.add_mul]
    omega
theorem drop_get {t : Ty} (l : List (El t)) {j : Nat} (h : j < l.length) : l.drop j = getE t l j :: l.drop (j + 1) := by
  rw [List.drop_eq_getElem_cons h]
  congr 1
  unfold getE
  simp [List.getD, h]
theorem getE_mem {t : Ty} (l : List (El t)) {j : Nat} (h : j < l.length) : getE t l j ∈ l := by
  have := getE_ok h
  exact List.mem_of_getElem? this
end Go.Proofs.Ytjikhbdpkddbgaa
