/- ENGINE 2, 2B: the run of a code. -/
import Derived.Test.YthlkhjfilfdpiaaF2
namespace Go.Proofs.Ythlkhjfilfdpiaa.Eng
set_option linter.unusedVariables false
set_option linter.unusedSimpArgs false
open Go Go.RowKit

inductive Ex where
  | normal
  | ret
  | exit (n : Nat)
  | goto (l : Nat)

/-- What is known in one way may be told in another one: of whatever that is so. -/
def Slim (m : Nat) (fr : Fr) (hp : List AO) (nx : Nat) (fr' : Fr) (hp' : List AO) (nx' : Nat) : Prop :=
  ∀ (W0 : World) (X : Bd) (N : Nat) (c : Cx) (a : Act), X.m ≤ m → Gam W0 X N c fr hp nx a → ∃ c' : Cx, c'.w = c.w ∧ c'.b0 = c.b0 ∧ Gam W0 X N c' fr' hp' nx' a

/-- The slots that a code writes. -/
def writesO : List Oper → List Nat
  | [] => []
  | o :: r => (match o.dst with | some d => d :: writesO r | none => writesO r)
def writes : Code → List Nat
  | .region _ ops _ => writesO ops.toList
  | .seq a b => writes a ++ writes b
  | .cond _ a b => writes a ++ writes b
  | .block _ a => writes a
  | .loop a => writes a
  | .scope a => writes a
  | _ => []
/-- What of a frame is not written. -/
def cutF : List Nat → Fr → (Fr → Prop) → Prop
  | _, [], K => K []
  | wr, (s, v) :: r, K => bif hasN wr s then cutF wr r K else cutF (s :: wr) r fun r' => K ((s, v) :: r')

def slots : Fr → List Nat
  | [] => []
  | (s, _) :: r => s :: slots r
/-- A loop: a relation that bears a number, which each round lowers. (base: what of the frame a round does not write.) -/
def loopP (m : Nat) (base : Fr) (R : Fr → List AO → Nat → (Ex → Post) → Prop) (fr : Fr) (hp : List AO) (nx : Nat) (Q : Ex → Post) : Prop :=
  ∃ I : Nat → Post, ((∀ s, s ∈ slots base → look fr s = look base s) → ∃ n fr' hp' nx', Slim m fr hp nx fr' hp' nx' ∧ I n fr' hp' nx') ∧
    ∀ n fr hp nx, I n fr hp nx → R fr hp nx fun e fr hp nx => match e with
      | .normal => ∃ k fr' hp' nx', k < n ∧ Slim m fr hp nx fr' hp' nx' ∧ I k fr' hp' nx'
      | .ret => Q .ret fr hp nx
      | .exit k => Q (.exit k) fr hp nx
      | .goto k => Q (.goto k) fr hp nx
attribute [irreducible] loopP

/-- Two ways. -/
def fork (x : Bool) (p q : Prop) : Prop := (x = true → p) ∧ (x = false → q)
theorem fork_i {x : Bool} {p q : Prop} (h1 : x = true → p) (h2 : x = false → q) : fork x p q := ⟨h1, h2⟩
theorem fork_t {x : Bool} {p q : Prop} (h : x = true) (h1 : p) : fork x p q := ⟨fun _ => h1, fun h' => absurd (h.symm.trans h') (by simp)⟩
theorem fork_f {x : Bool} {p q : Prop} (h : x = false) (h1 : q) : fork x p q := ⟨fun h' => absurd (h.symm.trans h') (by simp), fun _ => h1⟩
theorem fork_out {x : Bool} {p q : Prop} (h : fork x p q) : (x = true → p) ∧ (x = false → q) := h
attribute [irreducible] fork

/-- Two runs; a state that is another one. -/
def both (p q : Prop) : Prop := p ∧ q
theorem both_i {p q : Prop} (h1 : p) (h2 : q) : both p q := ⟨h1, h2⟩
theorem both_out {p q : Prop} (h : both p q) : p ∧ q := h
attribute [irreducible] both
def alike (p : Prop) : Prop := p
theorem alike_i {p : Prop} (h : p) : alike p := h
theorem alike_out {p : Prop} (h : alike p) : p := h
attribute [irreducible] alike

def isStore (o : Oper) : Bool := match o.op with | .store _ _ _ => true | _ => false
/-- The two last ones are stores, neither of which is sure to come first; all else is ahead of them. -/
def tail2 (tab : List (List Nat)) (ops : List Oper) : Option (List Oper × Oper × Oper) :=
  match ops.length with
  | n + 2 => match ops.drop n with
    | [s1, s2] => bif isStore s1 && isStore s2 && !(tab.getD (n + 1) []).contains n && ((List.range n).all fun j => (tab.getD n []).contains j && (tab.getD (n + 1) []).contains j) then some (ops.take n, s1, s2) else none
    | _ => none
  | _ => none
def drawRun (E : Env) (ops : List Oper) (fr : Fr) (hp : List AO) (nx : Nat) (Q : Post) : Prop :=
  match tail2 (bef ops) ops with
  | none => runDraw0 E ops (bef ops) (ops.map (hsen E)) ops fr hp nx Q
  | some (pre, s1, s2) => runDraw0 E ops (bef ops) (ops.map (hsen E)) pre fr hp nx fun fr hp nx => runOps E ops [s1, s2] fr hp nx fun fr1 hp1 nx1 =>
    both (runOps E ops [s2, s1] fr hp nx fun fr2 hp2 nx2 => alike (fr2 = fr1 ∧ hp2 = hp1 ∧ nx2 = nx1)) (Q fr1 hp1 nx1)

/-! Two operations of which it is not sure which one comes first: both ways. -/
def rotU (i k j : Nat) : Nat := bif Nat.blt j i then j else bif Nat.blt j k then j + 1 else bif Nat.beq j k then i else j
def rotD (i k j : Nat) : Nat := bif Nat.blt j i then j else bif Nat.beq j i then k else bif Nat.ble j k then j - 1 else j
def relab (f : Nat → Nat) (o : Oper) : Oper := { o with after := ⟨o.after.toList.map fun e => { e with on := f e.on }⟩, guard := o.guard.map fun g => (f g.1, g.2) }
def waits (s : Nat) (o : Oper) : Oper := { o with after := ⟨o.after.toList ++ [⟨s, .data⟩]⟩ }
/-- k waits for i. -/
def ops1 (ops : List Oper) (i k : Nat) : List Oper := (List.range ops.length).map fun j => bif Nat.beq j k then waits i (ops.getD j default) else ops.getD j default
/-- i stands behind k, and waits for it. -/
def ops2 (ops : List Oper) (i k : Nat) : List Oper := (List.range ops.length).map fun j => bif Nat.beq j k then waits (rotD i k k) (relab (rotD i k) (ops.getD (rotU i k j) default)) else relab (rotD i k) (ops.getD (rotU i k j) default)
def closO (o : Oper) : Bool := match o.op with | .call c => (match c.callee with | .value (.func _) => false | .value _ => true | _ => false) | _ => false
def loadO (o : Oper) : Bool := match o.op with | .load _ _ => true | _ => false
def storeO (o : Oper) : Bool := match o.op with | .store _ _ _ => true | _ => false
def idxWhere (p : Oper → Bool) : Nat → List Oper → List Nat
  | _, [] => []
  | n, o :: r => bif p o then n :: idxWhere p (n + 1) r else idxWhere p (n + 1) r
def nthN : List (List Nat) → Nat → List Nat
  | [], _ => []
  | l :: _, 0 => l
  | _ :: r, n + 1 => nthN r n
def badWith (tab : List (List Nat)) (m : Nat) : List Nat → Option (Nat × Nat)
  | [] => none
  | l :: r => bif hasN (nthN tab m) l || hasN (nthN tab l) m then badWith tab m r else bif Nat.blt l m then some (l, m) else some (m, l)
def badOf (tab : List (List Nat)) (ls : List Nat) : List Nat → Option (Nat × Nat)
  | [] => none
  | m :: r => match badWith tab m ls with
    | some p => some p
    | none => badOf tab ls r
/-- A call of a function value or a store, and a load, of which it is not sure which one comes first. -/
def findBad (tab : List (List Nat)) (ops : List Oper) : Option (Nat × Nat) :=
  match badOf tab (idxWhere loadO 0 ops) (idxWhere (fun o => closO o || storeO o) 0 ops) with
  | some (i, k) => bif Nat.blt i k && Nat.blt k ops.length then some (i, k) else none
  | none => none
def countD : List Oper → Nat
  | [] => 0
  | o :: r => match o.dst with | some _ => countD r + 1 | none => countD r
def lookAll (f : Fr) : List Nat → List AV
  | [] => []
  | s :: r => look f s :: lookAll f r
def takeN : Nat → Fr → List Nat
  | n + 1, (s, _) :: r => s :: takeN n r
  | _, _ => []
def dropN : Nat → Fr → Fr
  | n + 1, _ :: r => dropN n r
  | 0, f => f
  | _, [] => []
def drawAll (E : Env) : Nat → List Oper → Fr → List AO → Nat → Post → Prop
  | 0, ops, fr, hp, nx, Q => drawOk ops = true ∧ drawRun E ops fr hp nx Q
  | d + 1, ops, fr, hp, nx, Q => match findBad (bef ops) ops with
    | none => drawOk ops = true ∧ drawRun E ops fr hp nx Q
    | some (i, k) => drawAll E d (ops1 ops i k) fr hp nx fun fr1 hp1 nx1 =>
      both (drawAll E d (ops2 ops i k) fr hp nx fun fr2 hp2 nx2 => alike ((dropN (countD ops) fr2, lookAll fr2 (takeN (countD ops) fr1 ++ takeN (countD ops) fr2)) = (dropN (countD ops) fr1, lookAll fr1 (takeN (countD ops) fr1 ++ takeN (countD ops) fr2)) ∧ hp2 = hp1 ∧ nx2 = nx1)) (Q fr1 hp1 nx1)

def run (E : Env) : Code → Fr → List AO → Nat → (Ex → Post) → Prop
  | .skip, fr, hp, nx, Q => Q .normal fr hp nx
  | .region _ ops dr, fr, hp, nx, Q => (match dr with
    | false => runOps E ops.toList ops.toList fr hp nx (Q .normal)
    | true => drawAll E 6 ops.toList fr hp nx (Q .normal))
  | .seq a b, fr, hp, nx, Q => run E a fr hp nx fun e fr hp nx => match e with
    | .normal => run E b fr hp nx Q
    | .ret => Q .ret fr hp nx
    | .exit n => Q (.exit n) fr hp nx
    | .goto n => Q (.goto n) fr hp nx
  | .cond c a b, fr, hp, nx, Q => match raw fr c with
    | .v (.bool x) => fork x (run E a fr hp nx Q) (run E b fr hp nx Q)
    | _ => False
  | .block id c, fr, hp, nx, Q => run E c fr hp nx fun e fr hp nx => match e with
    | .exit n => bif Nat.beq n id then Q .normal fr hp nx else Q (.exit n) fr hp nx
    | .normal => Q .normal fr hp nx
    | .ret => Q .ret fr hp nx
    | .goto n => Q (.goto n) fr hp nx
  | .loop c, fr, hp, nx, Q => cutF (writes c) fr fun base => loopP E.m base (run E c) fr hp nx Q
  | .exit n, fr, hp, nx, Q => Q (.exit n) fr hp nx
  | .ret, fr, hp, nx, Q => Q .ret fr hp nx
  | .label _, fr, hp, nx, Q => Q .normal fr hp nx
  | .goto n, fr, hp, nx, Q => Q (.goto n) fr hp nx
  | _, _, _, _, _ => False

/-- A function's body: a scope, out of which it goes to a label at most once. -/
def noG (Q : Ex → Post) : Ex → Post
  | .goto _, _, _, _ => False
  | .normal, fr, hp, nx => Q .normal fr hp nx
  | .ret, fr, hp, nx => Q .ret fr hp nx
  | .exit n, fr, hp, nx => Q (.exit n) fr hp nx
def jumpR (E : Env) (c : Code) (Q : Ex → Post) : Ex → Post
  | .goto l, fr, hp, nx => (match findLabel c l with
    | some rest => run E rest fr hp nx (noG Q)
    | none => False)
  | .normal, fr, hp, nx => Q .normal fr hp nx
  | .ret, fr, hp, nx => Q .ret fr hp nx
  | .exit n, fr, hp, nx => Q (.exit n) fr hp nx
def runF (E : Env) : Code → Fr → List AO → Nat → (Ex → Post) → Prop
  | .scope c, fr, hp, nx, Q => run E c fr hp nx (jumpR E c Q)
  | c, fr, hp, nx, Q => run E c fr hp nx Q

end Go.Proofs.Ythlkhjfilfdpiaa.Eng
