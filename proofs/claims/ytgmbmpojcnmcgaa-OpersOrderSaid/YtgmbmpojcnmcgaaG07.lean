/- Parts of the proof, joined: no conditions of their own. -/
import Derived.Test.YtgmbmpojcnmcgaaG06
set_option linter.unusedVariables false
set_option linter.unusedSimpArgs false
/- Layer 10 in plain Lean: what the code computes. No program in sight. -/
namespace Go.Proofs.Ytgmbmpojcnmcgaa
open Go Go.Proofs.Ytgmbmpojcnmcgaa.Eng
abbrev tB : Ty := .bool .nil
abbrev tBB : Ty := .sl tB .nil
abbrev Mx := List (El tBB)
def rowM (m : Mx) (i : Nat) : List (El tB) := (getE tBB m i).1
def getB (m : Mx) (i j : Nat) : Bool := (getE tB (rowM m i) j).1
def setB (m : Mx) (i j : Nat) (b : Bool) : Mx := m.set i ((rowM m i).set j (b, ()), ())
def stayB (least : Int) (n : Nd) : Bool := bif decide (n.dep > least) then true else bif n.dep == least then n.kind != 9 else false
def falseR (n : Nat) : List (El tB) := List.replicate n (false, ())
def pB (g : List Nd) (least : Int) (i : Nat) (p : El tP) (m : Mx) : Mx := setB m i p.1.toNat (bif stayB least (getE tN g i) then stayB least (getE tN g p.1.toNat) else false)
def pK (g : List Nd) (least : Int) (i : Nat) (l : List (El tP)) (m : Mx) : Nat → Mx
  | 0 => m
  | k + 1 => pB g least i (getE tP l k) (pK g least i l m k)
def wA (g : List Nd) (least : Int) : Nat → Mx
  | 0 => List.replicate g.length ([], ())
  | i + 1 => pK g least i (toG g i) ((wA g least i).set i (falseR g.length, ())) (toG g i).length
def stJ (m : Mx) (k i : Nat) : Nat → Mx
  | 0 => m
  | j + 1 => setB (stJ m k i j) i j (bif getB (stJ m k i j) i j then true else bif getB (stJ m k i j) i k then getB (stJ m k i j) k j else false)
def stI (m : Mx) (n k : Nat) : Nat → Mx
  | 0 => m
  | i + 1 => stJ (stI m n k i) k i n
def stK (m : Mx) (n : Nat) : Nat → Mx
  | 0 => m
  | k + 1 => stI (stK m n k) n k n
def waysG (g : List Nd) (least : Int) : Mx := stK (wA g least g.length) g.length g.length
def sq (n : Nat) (m : Mx) : Prop := m.length = n ∧ ∀ i, i < n → (rowM m i).length = n
def sqU (n u : Nat) (m : Mx) : Prop := m.length = n ∧ ∀ i, i < u → (rowM m i).length = n
theorem rowM_set {m : Mx} {i j : Nat} {r : El tBB} : rowM (m.set i r) j = if i = j ∧ i < m.length then r.1 else rowM m j := by
  unfold rowM getE
  simp only [List.getD_eq_getElem?_getD, List.getElem?_set]
  by_cases h : i = j
  · subst h
    by_cases hl : i < m.length
    · simp [hl]
    · simp [hl]
  · simp [h]
theorem sqU_setB {n u : Nat} {m : Mx} {i j : Nat} {b : Bool} (h : sqU n u m) : sqU n u (setB m i j b) := by
  refine ⟨by simp [setB, h.1], fun k hk => ?_⟩
  unfold setB
  rw [rowM_set]
  split
  · rename_i hh
    rw [List.length_set, hh.1]
    exact h.2 k hk
  · exact h.2 k hk
theorem sqU_pK {g : List Nd} {least : Int} {n u i : Nat} {l : List (El tP)} {m : Mx} (h : sqU n u m) : ∀ k, sqU n u (pK g least i l m k)
  | 0 => h
  | k + 1 => sqU_setB (sqU_pK h k)
theorem sqU_row {n u : Nat} {m : Mx} (h : sqU n u m) (hu : u < n) : sqU n (u + 1) (m.set u (falseR n, ())) := by
  refine ⟨by simp [h.1], fun k hk => ?_⟩
  rw [rowM_set]
  split
  · simp [falseR]
  · rename_i hh
    refine h.2 k ?_
    have : u < m.length := by rw [h.1]; exact hu
    omega
theorem sqU_wA {g : List Nd} {least : Int} : ∀ i, i ≤ g.length → sqU g.length i (wA g least i)
  | 0, _ => ⟨by simp [wA], fun k hk => absurd hk (Nat.not_lt_zero _)⟩
  | i + 1, h => sqU_pK (sqU_row (sqU_wA i (by omega)) (by omega)) _
theorem sqU_stJ {n : Nat} {m : Mx} (h : sqU n n m) (k i : Nat) : ∀ j, sqU n n (stJ m k i j)
  | 0 => h
  | j + 1 => sqU_setB (sqU_stJ h k i j)
theorem sqU_stI {n : Nat} {m : Mx} (h : sqU n n m) (k : Nat) : ∀ i, sqU n n (stI m n k i)
  | 0 => h
  | i + 1 => sqU_stJ (sqU_stI h k i) k i n
theorem sqU_stK {n : Nat} {m : Mx} (h : sqU n n m) : ∀ k, sqU n n (stK m n k)
  | 0 => h
  | k + 1 => sqU_stI (sqU_stK h k) k n
def few (g : List Nd) : Prop := g.length ≤ 32 ∧ ∀ x : Nd, x ∈ g → (Nd.ins x).length ≤ 2
theorem toIn_at {n i : Int} : ∀ (k : Int) (l : List (El tI)), ∀ p ∈ toIn n i k l, p.1 = n
  | _, [], p, h => by simp [toIn] at h
  | k, x :: r, p, h => by
    simp only [toIn] at h
    split at h
    · rcases List.mem_cons.1 h with h | h
      · rw [h]
      · exact toIn_at _ r p h
    · exact toIn_at _ r p h
theorem toOut_at {i : Int} : ∀ (n : Nat) (g : List Nd), ∀ p ∈ toOut i (n : Int) g, ∃ j : Nat, p.1 = j ∧ j < n + g.length
  | _, [], p, h => by simp [toOut] at h
  | n, x :: r, p, h => by
    simp only [toOut, List.mem_append] at h
    rcases h with h | h
    · exact ⟨n, toIn_at _ _ p h, by simp⟩
    · obtain ⟨j, e, hj⟩ := toOut_at (n + 1) r p (by push_cast; exact h)
      exact ⟨j, e, by simp only [List.length_cons]; omega⟩
theorem toG_at {g : List Nd} {i : Int} {k : Nat} (hk : k < (toG g i).length) : ∃ j : Nat, (getE tP (toG g i) k).1 = j ∧ j < g.length := by
  have : getE tP (toG g i) k ∈ toG g i := by
    unfold getE
    simp only [List.getD_eq_getElem?_getD, List.getElem?_eq_getElem hk]
    exact List.getElem_mem hk
  obtain ⟨j, e, hj⟩ := toOut_at (i := i) 0 g _ (by simpa [toG] using this)
  exact ⟨j, e, by simpa using hj⟩
theorem few_to {g : List Nd} (h : few g) (i : Int) : (toG g i).length ≤ 64 := by
  have := toOut_len i 0 g h.2
  have h1 := h.1
  unfold toG
  omega
def plB (n : Nd) : Bool := bif n.a == 0 then n.b == 0 else false
def n1B (n : Nd) : Bool := bif decide (n.a ≤ 3) then (bif decide (n.a < 3) then true else decide (n.b > 0)) else false
def n2B (n : Nd) : Bool := bif decide (n.a ≤ 2) then (bif n.a != 1 then true else decide (n.b > 0)) else false
def n3B (n : Nd) : Bool := bif decide (n.a ≤ 3) then n.b == 0 else false
def n4B (n : Nd) : Bool := bif (bif n.a == 0 then decide (n.b ≥ 1) else false) then decide (n.b ≤ 16) else false
def numK (k : Int) (n : Nd) : Bool :=
  if k = 2 then n1B n else if k = 3 then n2B n else if k = 5 then n3B n else if k = 9 then n4B n else if k = 1 ∨ k = 4 ∨ k = 6 ∨ k = 7 ∨ k = 8 ∨ k = 10 then plB n else false
def numB (n : Nd) : Bool := numK n.kind n
theorem kindCases (k : Int) : k = 0 ∨ k = 1 ∨ k = 2 ∨ k = 3 ∨ k = 4 ∨ k = 5 ∨ k = 6 ∨ k = 7 ∨ k = 8 ∨ k = 9 ∨ k = 10 ∨ (∃ n : Nat, k = Int.ofNat (n + 11)) ∨ ∃ n : Nat, k = Int.negSucc n := by
  rcases k with k | k
  · rcases (by omega : k = 0 ∨ k = 1 ∨ k = 2 ∨ k = 3 ∨ k = 4 ∨ k = 5 ∨ k = 6 ∨ k = 7 ∨ k = 8 ∨ k = 9 ∨ k = 10 ∨ 11 ≤ k) with h | h | h | h | h | h | h | h | h | h | h | h
    all_goals (first | (subst h; simp; done) | skip)
    refine .inr (.inr (.inr (.inr (.inr (.inr (.inr (.inr (.inr (.inr (.inr (.inl ⟨k - 11, ?_⟩)))))))))))
    congr 1; omega
  · exact .inr (.inr (.inr (.inr (.inr (.inr (.inr (.inr (.inr (.inr (.inr (.inr ⟨k, rfl⟩)))))))))))
def idxP (p : Int → Bool) : Nat → List (El tI) → Int
  | _, [] => -1
  | j, x :: r => if p x.1 = true then (j : Int) else idxP p (j + 1) r
def hasP (p : Int → Bool) (l : List (El tI)) : Bool := decide (idxP p 0 l ≥ 0)
theorem idxP_any (p : Int → Bool) : ∀ (j : Nat) (l : List (El tI)), decide (idxP p j l ≥ 0) = l.any fun x => p x.1
  | _, [] => rfl
  | j, x :: r => by
    unfold idxP
    cases h : p x.1 with
    | true => simp [h]
    | false => simp only [h, if_false, List.any_cons, Bool.false_or, Bool.false_eq_true]; exact idxP_any p (j + 1) r
theorem hasP_any (p : Int → Bool) (l : List (El tI)) : hasP p l = l.any fun x => p x.1 := idxP_any p 0 l
def nd (g : List Nd) (i : Int) : Nd := getE tN g i.toNat
def wrongB (g : List Nd) (i : Int) : Bool := bif (bif decide (i < 0) then true else decide (i ≥ (g.length : Int))) then true else (nd g i).kind == 10
def otherB (g : List Nd) (fed i : Int) : Bool := (nd g i).dep != fed
def missB (th : List (El tB)) (i : Int) : Bool := !(getE tB th i.toNat).1
def backB (g : List Nd) (least : Int) (to : Mx) (at_ n : Int) : Bool := bif (bif (nd g n).dep == least then getB to at_.toNat n.toNat else false) then getB to n.toNat at_.toNat else false
def backP (g : List Nd) (to : Mx) (at_ n : Int) : Prop :=
  0 ≤ n ∧ n < (g.length : Int) ∧ (0 ≤ at_ ∧ at_ < (to.length : Int)) ∧ (0 ≤ n ∧ n < ((getE tBB to at_.toNat).1.length : Int)) ∧ (0 ≤ n ∧ n < (to.length : Int)) ∧ (0 ≤ at_ ∧ at_ < ((getE tBB to n.toNat).1.length : Int)) ∧ True
def arK (k : Int) : Int := if k = 1 then 0 else if k = 4 ∨ k = 6 then 2 else 1
def portsB (g : List Nd) (n : Nd) : Bool := bif ((n.ins.length : Nat) : Int) == arK n.kind then !hasP (wrongB g) n.ins else false
def fedK (k d : Int) : Int := if k = 7 then IntKind.i64.wrap (d - 1) else if k = 8 then IntKind.i64.wrap (d + 1) else d
def depthB (g : List Nd) (n : Nd) : Bool :=
  if n.kind = 9 ∧ n.dep < 1 then false else if (n.kind = 1 ∨ n.kind = 10) ∧ n.dep ≠ 0 then false else
    bif (bif decide (n.dep ≥ 0) then decide (n.dep ≤ 3) else false) then !hasP (otherB g (fedK n.kind n.dep)) n.ins else false
def nodeE (g : List Nd) (i : Int) : Int :=
  if i < 0 ∨ i ≥ (g.length : Int) then 2 else if numB (nd g i) = false then 130 else if portsB g (nd g i) = false then 100 else if depthB g (nd g i) = false then 101 else 0
theorem portsB_in {g : List Nd} {n : Nd} (h : portsB g n = true) : ∀ x ∈ n.ins, 0 ≤ x.1 ∧ x.1 < (g.length : Int) := fun x hx => by
  unfold portsB at h
  cases hl : (((n.ins.length : Nat) : Int) == arK n.kind) with
  | false => rw [hl] at h; cases h
  | true =>
    rw [hl, cond_true, Bool.not_eq_true', hasP_any] at h
    have := List.any_eq_false.1 h x hx
    unfold wrongB at this
    by_cases h1 : x.1 < 0
    · simp [h1] at this
    · by_cases h2 : x.1 ≥ (g.length : Int)
      · simp [h1, h2] at this
      · omega
def plN : Nat → List (El tI)
  | 0 => []
  | i + 1 => plN i ++ [((i : Int), ())]
theorem plN_len : ∀ n, (plN n).length = n
  | 0 => rfl
  | n + 1 => by simp [plN, plN_len n]
theorem plN_mem : ∀ {n : Nat} {x : El tI}, x ∈ plN n → ∃ j : Nat, j < n ∧ x.1 = j
  | 0, x, h => by cases h
  | n + 1, x, h => by
    simp only [plN, List.mem_append, List.mem_singleton] at h
    rcases h with h | h
    · obtain ⟨j, hj, e⟩ := plN_mem h
      exact ⟨j, by omega, e⟩
    · exact ⟨n, by omega, by rw [h]⟩
def backI (g : List Nd) (least i : Nat) : Bool := hasP (backB g least (waysG g least) i) (plN g.length)
def stL (g : List Nd) (least at_ : Nat) : Nat → Nat → Nat
  | 0, _ => at_
  | f + 1, i => if backI g least i = true then i else stL g least at_ f (i + 1)
def stW (g : List Nd) : Nat → Nat
  | 0 => g.length
  | k + 1 => stL g k (stW g k) (stW g k) 0
def stuckG (g : List Nd) : Nat := stW g 4
theorem stL_le {g : List Nd} {least at_ : Nat} : ∀ (f i : Nat), i + f ≤ at_ → stL g least at_ f i ≤ at_
  | 0, _, _ => Nat.le_refl _
  | f + 1, i, h => by
    unfold stL
    split
    · omega
    · exact stL_le f (i + 1) (by omega)
theorem stW_le {g : List Nd} : ∀ k, stW g k ≤ g.length
  | 0 => Nat.le_refl _
  | k + 1 => Nat.le_trans (stL_le _ _ (by omega)) (stW_le k)
def readyB (th : List (El tB)) (i : Nat) (n : Nd) : Bool := bif !(getE tB th i).1 then (bif n.kind == 9 then true else !hasP (missB th) n.ins) else false
def nextR (th : List (El tB)) : Nat → List Nd → Option Nat
  | _, [] => none
  | i, n :: r => if readyB th i n = true then some i else nextR th (i + 1) r
def ordN (g : List Nd) : Nat → List (El tB) → List (El tI) → List (El tI)
  | 0, _, out => out
  | f + 1, th, out => match nextR th 0 g with
    | none => out
    | some i => ordN g f (th.set i (true, ())) (out ++ [((i : Int), ())])
def orderG (g : List Nd) : List (El tI) := ordN g (g.length + 1) (falseR g.length) []
def badL (g : List Nd) : Nat → List Nd → Option Nat
  | _, [] => none
  | i, _ :: r => if nodeE g (i : Int) ≠ 0 then some i else badL g (i + 1) r
def checkG (g : List Nd) : Int × Int :=
  if (putG g).2 ≠ 0 then (0, (putG g).2) else match badL g 0 g with
    | some i => ((i : Int), nodeE g (i : Int))
    | none => if stuckG g < g.length then ((stuckG g : Int), 102) else ((g.length : Int), 0)
def orderC (g : List Nd) : List (El tI) × Int := if (checkG g).2 ≠ 0 then ([], (checkG g).2) else (orderG g, 0)
end Go.Proofs.Ytgmbmpojcnmcgaa

/- Layer 10: closures, and ContainsFunc of each. Printed by wip/tool/gen10c.py. -/
namespace Go.Proofs.Ytgmbmpojcnmcgaa
set_option maxRecDepth 100000
open Go Go.RowKit Go.Proofs.Ytgmbmpojcnmcgaa.Eng
def shNil : Sh Unit := ⟨fun | .nil => some () | _ => none, fun _ => .nil, fun v x h c vs hs => by
  split at h
  · exact hs
  · cases h⟩
def shCons {α β : Type} (A : Sh α) (B : Sh β) : Sh (α × β) := ⟨fun | .cons a b => (match A.get a, B.get b with | some x, some y => some (x, y) | _, _ => none) | _ => none, fun p => .cons (A.put p.1) (B.put p.2), fun v x h c vs hs => by
  split at h
  · rename_i a b
    split at h
    · rename_i x y hx hy
      injection h with h; subst h
      obtain ⟨u, r, e, h1, h2⟩ := hs
      exact ⟨u, r, e, A.ok _ _ hx c _ h1, B.ok _ _ hy c _ h2⟩
    · cases h
  · cases h⟩
def shFn {α : Type} (f : FuncId) (A : Sh α) : Sh α := ⟨fun | .fn g l => bif Nat.beq f g then A.get l else none | _ => none, fun x => .fn f (A.put x), fun v x h c vs hs => by
  split at h
  · rename_i g l
    cases hb : Nat.beq f g with
    | false => rw [hb] at h; cases h
    | true =>
      rw [hb] at h
      have := Nat.eq_of_beq_eq_true hb
      subst this
      obtain ⟨cs, e, h2⟩ := hs
      exact ⟨cs, e, A.ok _ _ h c _ h2⟩
  · cases h⟩
def k_ports1 : Sig := .arg shI fun i => .arg (shRp (shR tN)) fun gg => .done { pre := True, res := B (wrongB gg i) }
set_option maxHeartbeats 4000000 in
theorem c_ports1 : FnOk Try.prog 78 k_ports1.con := by
  refine fnOkS mixed tys_ok (cs := []) trivial Try.func78 rfl (by kernel_rfl) Try.ntmps78 _ (h := ?_)
  intro i gg
  refine ⟨rfl, fun hp => ?_⟩
  conv => whnf
  repeat' ((first
    | with_reducible first | refine ⟨fun h => h, ?_⟩ | refine ⟨pk1, ?_⟩ | refine ⟨pk2, ?_⟩ | refine ⟨pk3, ?_⟩ | refine ⟨pk4, ?_⟩ | refine ⟨pk5, ?_⟩ | refine ⟨pk6, ?_⟩ | refine ⟨trivial, ?_⟩ | refine ⟨fun _ => trivial, ?_⟩ | refine ⟨rfl, ?_⟩ | refine every_i (fun hd => ?_) | refine everyN_i (fun k hk => ?_) | refine everyD_i (fun d hd => ?_) | refine fork_t (by assumption) ?_ | refine fork_f (by assumption) ?_
    | refine fork_t rfl ?_
    | refine fork_f rfl ?_
    | with_reducible first | refine fork_i (fun h => ?_) (fun h => ?_) | refine both_i ?_ ?_
    | ((with_reducible refine alike_i ?_); exact ⟨rfl, rfl, rfl⟩)
    | ((with_reducible refine fin_i ?_); (conv => whnf); refine ⟨rfl, ?_⟩)
    | refine ⟨of_decide_eq_true rfl, ?_⟩
    | refine ⟨fun _ => of_decide_eq_true rfl, ?_⟩
    | ((with_reducible refine ⟨?_, ?_⟩); (focus (intros; simp_all; done)))
    | ((with_reducible refine ⟨?_, ?_⟩); (focus (intros; omega)))) <;> (try (conv => whnf)))
  all_goals ((with_reducible refine leaf_i ?_); (conv => whnf))
  repeat' ((with_reducible refine And.intro ?_ ?_) <;> (try (conv => whnf)))
  all_goals (try (first | with_reducible rfl | exact True.intro | rfl | exact id | exact fun h => h | exact fun _ => rfl))
def k_xports1 : Sig := .arg (shR tI) fun l => .arg (shFn 78 (shCons (shRp (shR tN)) (shNil))) fun s => .done { pre := l.length < 4611686018427387904 ∧ ∀ x ∈ l, True, res := I (idxP ((wrongB s.1)) 0 l) }
set_option maxHeartbeats 4000000 in
theorem c_xports1 : FnOk Try.prog 93 k_xports1.con := by
  refine fnOkS mixed tys_ok (cs := [(78, k_ports1.con)]) ⟨c_ports1, trivial⟩ Try.func93 rfl (by kernel_rfl) Try.ntmps93 _ (h := ?_)
  intro g s
  refine ⟨rfl, fun hp => ?_⟩
  obtain ⟨hp1, hp2⟩ := hp
  conv => whnf
  repeat' ((first
    | with_reducible first | refine ⟨fun h => h, ?_⟩ | refine ⟨pk1, ?_⟩ | refine ⟨pk2, ?_⟩ | refine ⟨pk3, ?_⟩ | refine ⟨pk4, ?_⟩ | refine ⟨pk5, ?_⟩ | refine ⟨pk6, ?_⟩ | refine ⟨trivial, ?_⟩ | refine ⟨fun _ => trivial, ?_⟩ | refine ⟨rfl, ?_⟩ | refine every_i (fun hd => ?_) | refine everyN_i (fun k hk => ?_) | refine everyD_i (fun d hd => ?_) | refine fork_t (by assumption) ?_ | refine fork_f (by assumption) ?_
    | refine fork_t rfl ?_
    | refine fork_f rfl ?_
    | with_reducible first | refine fork_i (fun h => ?_) (fun h => ?_) | refine both_i ?_ ?_
    | ((with_reducible refine alike_i ?_); exact ⟨rfl, rfl, rfl⟩)
    | ((with_reducible refine fin_i ?_); (conv => whnf); refine ⟨rfl, ?_⟩)
    | refine ⟨of_decide_eq_true rfl, ?_⟩
    | refine ⟨fun _ => of_decide_eq_true rfl, ?_⟩
    | ((with_reducible refine ⟨?_, ?_⟩); (focus (intros; simp_all; done)))
    | ((with_reducible refine ⟨?_, ?_⟩); (focus (intros; omega)))) <;> (try (conv => whnf)))
  refine looped (σ := Nat) (fun j => [(8, I j)]) (fun _ => []) (fun j => j ≤ g.length ∧ idxP ((wrongB s.1)) j (g.drop j) = idxP ((wrongB s.1)) 0 g) (fun j => g.length - j) 0 ⟨Nat.zero_le _, rfl⟩ ?_ ?_
  · conv => whnf
    refine ⟨rfl, leaf_i ?_⟩
    repeat' ((with_reducible refine And.intro ?_ ?_) <;> (try (conv => whnf)))
    all_goals (try (first | with_reducible rfl | exact True.intro | rfl | exact id | exact fun h => h | exact fun _ => rfl))
  · rintro j ⟨hj, hl⟩
    dsimp only at hj hl ⊢
    have hpre : decide ((j : Int) < (g.length : Int)) = true → True := fun h => hp2 _ (getE_mem g (lt_t h))
    conv => whnf
    repeat' ((first
      | with_reducible first | refine ⟨fun h => h, ?_⟩ | refine ⟨pk1, ?_⟩ | refine ⟨pk2, ?_⟩ | refine ⟨pk3, ?_⟩ | refine ⟨pk4, ?_⟩ | refine ⟨pk5, ?_⟩ | refine ⟨pk6, ?_⟩ | refine ⟨trivial, ?_⟩ | refine ⟨fun _ => trivial, ?_⟩ | refine ⟨rfl, ?_⟩ | refine every_i (fun hd => ?_) | refine everyN_i (fun k hk => ?_) | refine everyD_i (fun d hd => ?_) | refine fork_t (by assumption) ?_ | refine fork_f (by assumption) ?_
      | refine fork_t rfl ?_
      | refine fork_f rfl ?_
      | with_reducible first | refine fork_i (fun h => ?_) (fun h => ?_) | refine both_i ?_ ?_
      | ((with_reducible refine alike_i ?_); exact ⟨rfl, rfl, rfl⟩)
      | ((with_reducible refine fin_i ?_); (conv => whnf); refine ⟨rfl, ?_⟩)
      | refine ⟨hpre (by assumption), ?_⟩
      | refine ⟨of_decide_eq_true rfl, ?_⟩
      | refine ⟨fun _ => of_decide_eq_true rfl, ?_⟩
      | ((with_reducible refine ⟨?_, ?_⟩); (focus (intros; simp_all; done)))
      | ((with_reducible refine ⟨?_, ?_⟩); (focus (intros; omega)))) <;> (try (conv => whnf)))
    · rename_i hj'
      have hj' := lt_t hj'
      have h : (wrongB s.1) (getE tI g j).1 = true := h
      rw [drop_get _ hj', idxP, if_pos h] at hl
      all_goals ((with_reducible refine leaf_i ?_); (conv => whnf))
      repeat' ((with_reducible refine And.intro ?_ ?_) <;> (try (conv => whnf)))
      all_goals (try (first | with_reducible rfl | exact True.intro | rfl | exact id | exact fun h => h | exact fun _ => rfl))
      all_goals first | exact hl | rfl
    · rename_i hj'
      have hj' := lt_t hj'
      have h' : ¬ (wrongB s.1) (getE tI g j).1 = true := fun hh => Bool.noConfusion (h.symm.trans hh)
      rw [drop_get _ hj', idxP, if_neg h'] at hl
      refine next_i (j + 1) ⟨hj', hl⟩ (by omega) rfl rfl ?_
      conv => whnf
      refine ⟨rfl, leaf_i ?_⟩
      repeat' ((with_reducible refine And.intro ?_ ?_) <;> (try (conv => whnf)))
      all_goals (try (first | with_reducible rfl | exact True.intro | rfl | exact id | exact fun h => h | exact fun _ => rfl))
      all_goals first | exact wrapS (Nat.lt_trans hj' hp1) | rfl
    · have hj' := lt_f h
      rw [List.drop_eq_nil_of_le hj', idxP] at hl
      all_goals ((with_reducible refine leaf_i ?_); (conv => whnf))
      repeat' ((with_reducible refine And.intro ?_ ?_) <;> (try (conv => whnf)))
      all_goals (try (first | with_reducible rfl | exact True.intro | rfl | exact id | exact fun h => h | exact fun _ => rfl))
      all_goals first | exact hl | rfl
def k_hports1 : Sig := .arg (shR tI) fun l => .arg (shFn 78 (shCons (shRp (shR tN)) (shNil))) fun s => .done { pre := l.length < 4611686018427387904 ∧ ∀ x ∈ l, True, res := B (hasP ((wrongB s.1)) l) }
set_option maxHeartbeats 4000000 in
theorem c_hports1 : FnOk Try.prog 80 k_hports1.con := by
  refine fnOkS mixed tys_ok (cs := [(93, k_xports1.con)]) ⟨c_xports1, trivial⟩ Try.func80 rfl (by kernel_rfl) Try.ntmps80 _ (h := ?_)
  intro g s
  refine ⟨rfl, fun hp => ?_⟩
  conv => whnf
  repeat' ((first
    | with_reducible first | refine ⟨fun h => h, ?_⟩ | refine ⟨pk1, ?_⟩ | refine ⟨pk2, ?_⟩ | refine ⟨pk3, ?_⟩ | refine ⟨pk4, ?_⟩ | refine ⟨pk5, ?_⟩ | refine ⟨pk6, ?_⟩ | refine ⟨trivial, ?_⟩ | refine ⟨fun _ => trivial, ?_⟩ | refine ⟨rfl, ?_⟩ | refine every_i (fun hd => ?_) | refine everyN_i (fun k hk => ?_) | refine everyD_i (fun d hd => ?_) | refine fork_t (by assumption) ?_ | refine fork_f (by assumption) ?_
    | refine fork_t rfl ?_
    | refine fork_f rfl ?_
    | with_reducible first | refine fork_i (fun h => ?_) (fun h => ?_) | refine both_i ?_ ?_
    | ((with_reducible refine alike_i ?_); exact ⟨rfl, rfl, rfl⟩)
    | ((with_reducible refine fin_i ?_); (conv => whnf); refine ⟨rfl, ?_⟩)
    | refine ⟨hp, ?_⟩
    | refine ⟨of_decide_eq_true rfl, ?_⟩
    | refine ⟨fun _ => of_decide_eq_true rfl, ?_⟩
    | ((with_reducible refine ⟨?_, ?_⟩); (focus (intros; simp_all; done)))
    | ((with_reducible refine ⟨?_, ?_⟩); (focus (intros; omega)))) <;> (try (conv => whnf)))
  all_goals ((with_reducible refine leaf_i ?_); (conv => whnf))
  repeat' ((with_reducible refine And.intro ?_ ?_) <;> (try (conv => whnf)))
  all_goals (try (first | with_reducible rfl | exact True.intro | rfl | exact id | exact fun h => h | exact fun _ => rfl))
  all_goals first | rfl | trace_state
def k_depth1 : Sig := .arg shI fun i => .arg (shRp (shR tN)) fun gg => .arg (shRp shI) fun fed => .done { pre := 0 ≤ i ∧ i < (gg.length : Int), res := B (otherB gg fed i) }
set_option maxHeartbeats 4000000 in
theorem c_depth1 : FnOk Try.prog 81 k_depth1.con := by
  refine fnOkS mixed tys_ok (cs := []) trivial Try.func81 rfl (by kernel_rfl) Try.ntmps81 _ (h := ?_)
  intro i gg fed
  refine ⟨rfl, fun hp => ?_⟩
  conv => whnf
  repeat' ((first
    | with_reducible first | refine ⟨fun h => h, ?_⟩ | refine ⟨pk1, ?_⟩ | refine ⟨pk2, ?_⟩ | refine ⟨pk3, ?_⟩ | refine ⟨pk4, ?_⟩ | refine ⟨pk5, ?_⟩ | refine ⟨pk6, ?_⟩ | refine ⟨trivial, ?_⟩ | refine ⟨fun _ => trivial, ?_⟩ | refine ⟨rfl, ?_⟩ | refine every_i (fun hd => ?_) | refine everyN_i (fun k hk => ?_) | refine everyD_i (fun d hd => ?_) | refine fork_t (by assumption) ?_ | refine fork_f (by assumption) ?_
    | refine fork_t rfl ?_
    | refine fork_f rfl ?_
    | with_reducible first | refine fork_i (fun h => ?_) (fun h => ?_) | refine both_i ?_ ?_
    | ((with_reducible refine alike_i ?_); exact ⟨rfl, rfl, rfl⟩)
    | ((with_reducible refine fin_i ?_); (conv => whnf); refine ⟨rfl, ?_⟩)
    | refine ⟨hp, ?_⟩
    | refine ⟨of_decide_eq_true rfl, ?_⟩
    | refine ⟨fun _ => of_decide_eq_true rfl, ?_⟩
    | ((with_reducible refine ⟨?_, ?_⟩); (focus (intros; simp_all; done)))
    | ((with_reducible refine ⟨?_, ?_⟩); (focus (intros; omega)))) <;> (try (conv => whnf)))
  all_goals ((with_reducible refine leaf_i ?_); (conv => whnf))
  repeat' ((with_reducible refine And.intro ?_ ?_) <;> (try (conv => whnf)))
  all_goals (try (first | with_reducible rfl | exact True.intro | rfl | exact id | exact fun h => h | exact fun _ => rfl))
def k_xdepth1 : Sig := .arg (shR tI) fun l => .arg (shFn 81 (shCons (shRp (shR tN)) (shCons (shRp shI) (shNil)))) fun s => .done { pre := l.length < 4611686018427387904 ∧ ∀ x ∈ l, 0 ≤ x.1 ∧ x.1 < (s.1.length : Int), res := I (idxP ((otherB s.1 s.2.1)) 0 l) }
set_option maxHeartbeats 4000000 in
theorem c_xdepth1 : FnOk Try.prog 93 k_xdepth1.con := by
  refine fnOkS mixed tys_ok (cs := [(81, k_depth1.con)]) ⟨c_depth1, trivial⟩ Try.func93 rfl (by kernel_rfl) Try.ntmps93 _ (h := ?_)
  intro g s
  refine ⟨rfl, fun hp => ?_⟩
  obtain ⟨hp1, hp2⟩ := hp
  conv => whnf
  repeat' ((first
    | with_reducible first | refine ⟨fun h => h, ?_⟩ | refine ⟨pk1, ?_⟩ | refine ⟨pk2, ?_⟩ | refine ⟨pk3, ?_⟩ | refine ⟨pk4, ?_⟩ | refine ⟨pk5, ?_⟩ | refine ⟨pk6, ?_⟩ | refine ⟨trivial, ?_⟩ | refine ⟨fun _ => trivial, ?_⟩ | refine ⟨rfl, ?_⟩ | refine every_i (fun hd => ?_) | refine everyN_i (fun k hk => ?_) | refine everyD_i (fun d hd => ?_) | refine fork_t (by assumption) ?_ | refine fork_f (by assumption) ?_
    | refine fork_t rfl ?_
    | refine fork_f rfl ?_
    | with_reducible first | refine fork_i (fun h => ?_) (fun h => ?_) | refine both_i ?_ ?_
    | ((with_reducible refine alike_i ?_); exact ⟨rfl, rfl, rfl⟩)
    | ((with_reducible refine fin_i ?_); (conv => whnf); refine ⟨rfl, ?_⟩)
    | refine ⟨of_decide_eq_true rfl, ?_⟩
    | refine ⟨fun _ => of_decide_eq_true rfl, ?_⟩
    | ((with_reducible refine ⟨?_, ?_⟩); (focus (intros; simp_all; done)))
    | ((with_reducible refine ⟨?_, ?_⟩); (focus (intros; omega)))) <;> (try (conv => whnf)))
  refine looped (σ := Nat) (fun j => [(8, I j)]) (fun _ => []) (fun j => j ≤ g.length ∧ idxP ((otherB s.1 s.2.1)) j (g.drop j) = idxP ((otherB s.1 s.2.1)) 0 g) (fun j => g.length - j) 0 ⟨Nat.zero_le _, rfl⟩ ?_ ?_
  · conv => whnf
    refine ⟨rfl, leaf_i ?_⟩
    repeat' ((with_reducible refine And.intro ?_ ?_) <;> (try (conv => whnf)))
    all_goals (try (first | with_reducible rfl | exact True.intro | rfl | exact id | exact fun h => h | exact fun _ => rfl))
  · rintro j ⟨hj, hl⟩
    dsimp only at hj hl ⊢
    have hpre : decide ((j : Int) < (g.length : Int)) = true → 0 ≤ (getE tI g j).1 ∧ (getE tI g j).1 < (s.1.length : Int) := fun h => hp2 _ (getE_mem g (lt_t h))
    conv => whnf
    repeat' ((first
      | with_reducible first | refine ⟨fun h => h, ?_⟩ | refine ⟨pk1, ?_⟩ | refine ⟨pk2, ?_⟩ | refine ⟨pk3, ?_⟩ | refine ⟨pk4, ?_⟩ | refine ⟨pk5, ?_⟩ | refine ⟨pk6, ?_⟩ | refine ⟨trivial, ?_⟩ | refine ⟨fun _ => trivial, ?_⟩ | refine ⟨rfl, ?_⟩ | refine every_i (fun hd => ?_) | refine everyN_i (fun k hk => ?_) | refine everyD_i (fun d hd => ?_) | refine fork_t (by assumption) ?_ | refine fork_f (by assumption) ?_
      | refine fork_t rfl ?_
      | refine fork_f rfl ?_
      | with_reducible first | refine fork_i (fun h => ?_) (fun h => ?_) | refine both_i ?_ ?_
      | ((with_reducible refine alike_i ?_); exact ⟨rfl, rfl, rfl⟩)
      | ((with_reducible refine fin_i ?_); (conv => whnf); refine ⟨rfl, ?_⟩)
      | refine ⟨hpre (by assumption), ?_⟩
      | refine ⟨of_decide_eq_true rfl, ?_⟩
      | refine ⟨fun _ => of_decide_eq_true rfl, ?_⟩
      | ((with_reducible refine ⟨?_, ?_⟩); (focus (intros; simp_all; done)))
      | ((with_reducible refine ⟨?_, ?_⟩); (focus (intros; omega)))) <;> (try (conv => whnf)))
    · rename_i hj'
      have hj' := lt_t hj'
      have h : (otherB s.1 s.2.1) (getE tI g j).1 = true := h
      rw [drop_get _ hj', idxP, if_pos h] at hl
      all_goals ((with_reducible refine leaf_i ?_); (conv => whnf))
      repeat' ((with_reducible refine And.intro ?_ ?_) <;> (try (conv => whnf)))
      all_goals (try (first | with_reducible rfl | exact True.intro | rfl | exact id | exact fun h => h | exact fun _ => rfl))
      all_goals first | exact hl | rfl
    · rename_i hj'
      have hj' := lt_t hj'
      have h' : ¬ (otherB s.1 s.2.1) (getE tI g j).1 = true := fun hh => Bool.noConfusion (h.symm.trans hh)
      rw [drop_get _ hj', idxP, if_neg h'] at hl
      refine next_i (j + 1) ⟨hj', hl⟩ (by omega) rfl rfl ?_
      conv => whnf
      refine ⟨rfl, leaf_i ?_⟩
      repeat' ((with_reducible refine And.intro ?_ ?_) <;> (try (conv => whnf)))
      all_goals (try (first | with_reducible rfl | exact True.intro | rfl | exact id | exact fun h => h | exact fun _ => rfl))
      all_goals first | exact wrapS (Nat.lt_trans hj' hp1) | rfl
    · have hj' := lt_f h
      rw [List.drop_eq_nil_of_le hj', idxP] at hl
      all_goals ((with_reducible refine leaf_i ?_); (conv => whnf))
      repeat' ((with_reducible refine And.intro ?_ ?_) <;> (try (conv => whnf)))
      all_goals (try (first | with_reducible rfl | exact True.intro | rfl | exact id | exact fun h => h | exact fun _ => rfl))
      all_goals first | exact hl | rfl
def k_hdepth1 : Sig := .arg (shR tI) fun l => .arg (shFn 81 (shCons (shRp (shR tN)) (shCons (shRp shI) (shNil)))) fun s => .done { pre := l.length < 4611686018427387904 ∧ ∀ x ∈ l, 0 ≤ x.1 ∧ x.1 < (s.1.length : Int), res := B (hasP ((otherB s.1 s.2.1)) l) }
set_option maxHeartbeats 4000000 in
theorem c_hdepth1 : FnOk Try.prog 80 k_hdepth1.con := by
  refine fnOkS mixed tys_ok (cs := [(93, k_xdepth1.con)]) ⟨c_xdepth1, trivial⟩ Try.func80 rfl (by kernel_rfl) Try.ntmps80 _ (h := ?_)
  intro g s
  refine ⟨rfl, fun hp => ?_⟩
  conv => whnf
  repeat' ((first
    | with_reducible first | refine ⟨fun h => h, ?_⟩ | refine ⟨pk1, ?_⟩ | refine ⟨pk2, ?_⟩ | refine ⟨pk3, ?_⟩ | refine ⟨pk4, ?_⟩ | refine ⟨pk5, ?_⟩ | refine ⟨pk6, ?_⟩ | refine ⟨trivial, ?_⟩ | refine ⟨fun _ => trivial, ?_⟩ | refine ⟨rfl, ?_⟩ | refine every_i (fun hd => ?_) | refine everyN_i (fun k hk => ?_) | refine everyD_i (fun d hd => ?_) | refine fork_t (by assumption) ?_ | refine fork_f (by assumption) ?_
    | refine fork_t rfl ?_
    | refine fork_f rfl ?_
    | with_reducible first | refine fork_i (fun h => ?_) (fun h => ?_) | refine both_i ?_ ?_
    | ((with_reducible refine alike_i ?_); exact ⟨rfl, rfl, rfl⟩)
    | ((with_reducible refine fin_i ?_); (conv => whnf); refine ⟨rfl, ?_⟩)
    | refine ⟨hp, ?_⟩
    | refine ⟨of_decide_eq_true rfl, ?_⟩
    | refine ⟨fun _ => of_decide_eq_true rfl, ?_⟩
    | ((with_reducible refine ⟨?_, ?_⟩); (focus (intros; simp_all; done)))
    | ((with_reducible refine ⟨?_, ?_⟩); (focus (intros; omega)))) <;> (try (conv => whnf)))
  all_goals ((with_reducible refine leaf_i ?_); (conv => whnf))
  repeat' ((with_reducible refine And.intro ?_ ?_) <;> (try (conv => whnf)))
  all_goals (try (first | with_reducible rfl | exact True.intro | rfl | exact id | exact fun h => h | exact fun _ => rfl))
  all_goals first | rfl | trace_state
end Go.Proofs.Ytgmbmpojcnmcgaa

/- Layer 13: what Map and Filter do. -/
namespace Go.Proofs.Ytgmbmpojcnmcgaa
set_option maxRecDepth 100000
open Go Go.RowKit Go.Sort Go.Proofs.Ytgmbmpojcnmcgaa.Eng
def mapR (n : Nd) (r : Rec) : Rec :=
  if n.2.1 = 0 then (r.1, IntKind.i64.wrap (r.2.1 + n.2.2.1), ()) else if n.2.1 = 1 then (r.1, IntKind.i64.wrap (r.2.1 * n.2.2.1), ()) else if n.2.1 = 2 then (r.2.1, r.1, ()) else (modN r.2.1 n.2.2.1, r.2.1, ())
def filR (n : Nd) (r : Rec) : Bool := if n.2.1 = 0 then decide (r.2.1 < n.2.2.1) else if n.2.1 = 1 then r.2.1.tmod n.2.2.1 == 0 else decide (r.1 < n.2.2.1)
def mapPre (n : Nd) : Prop := n.2.1 = 0 ∨ n.2.1 = 1 ∨ n.2.1 = 2 ∨ (0 < n.2.2.1 ∧ n.2.2.1 ≤ 9223372036854775807)
def filPre (n : Nd) : Prop := n.2.1 = 1 → n.2.2.1 ≠ 0
abbrev pRec (r : Rec) : AV := .agg (.cons (I r.1) (.cons (I r.2.1) .nil))
theorem modN_w {n m : Int} (h : 0 < m) (hm : m ≤ 9223372036854775807) : IntKind.i64.wrap (n.tmod m + m) = n.tmod m + m ∨ ¬ n.tmod m < 0 := by
  have := tmod_rng (n := n) h
  by_cases h0 : n.tmod m < 0
  · exact .inl (by rw [IntKind.wrap_i64]; omega)
  · exact .inr h0
def k_maps1 : Sig := .arg (shT tR) fun r => .arg (shRpT tN) fun n => .done { pre := mapPre n, res := .tup (.cons (pRec (mapR n r)) (.cons (B true) .nil)) }
set_option maxHeartbeats 4000000 in
theorem c_maps1 : FnOk Try.prog 57 k_maps1.con := by
  refine fnOkS mixed tys_ok (cs := []) trivial Try.func57 rfl (by kernel_rfl) Try.ntmps57 _ (h := ?_)
  intro r n
  refine ⟨rfl, fun hp => ?_⟩
  have hp : mapPre n := hp
  have hb0 : ¬ n.2.1 = 0 → ¬ n.2.1 = 1 → ¬ n.2.1 = 2 → n.2.2.1 ≠ 0 := fun h0 h1 h2 => by unfold mapPre at hp; omega
  by_cases h0 : n.2.1 = 0
  · have e : mapR n r = (r.1, IntKind.i64.wrap (r.2.1 + n.2.2.1), ()) := by unfold mapR; rw [if_pos h0]
    have hk : (n.2.1 == 0) = true := by rw [h0]; rfl
    rw [e]
    conv => whnf
    repeat' ((first
      | refine fork_t hk ?_
      | with_reducible first | refine ⟨fun h => h, ?_⟩ | refine ⟨pk1, ?_⟩ | refine ⟨pk2, ?_⟩ | refine ⟨pk3, ?_⟩ | refine ⟨pk4, ?_⟩ | refine ⟨pk5, ?_⟩ | refine ⟨pk6, ?_⟩ | refine ⟨trivial, ?_⟩ | refine ⟨fun _ => trivial, ?_⟩ | refine ⟨rfl, ?_⟩ | refine every_i (fun hd => ?_) | refine everyN_i (fun k hk => ?_) | refine everyD_i (fun d hd => ?_) | refine fork_t (by assumption) ?_ | refine fork_f (by assumption) ?_
      | refine fork_t rfl ?_
      | refine fork_f rfl ?_
      | with_reducible first | refine fork_i (fun h => ?_) (fun h => ?_) | refine both_i ?_ ?_
      | ((with_reducible refine alike_i ?_); exact ⟨rfl, rfl, rfl⟩)
      | ((with_reducible refine fin_i ?_); (conv => whnf); refine ⟨rfl, ?_⟩)
      | refine ⟨of_decide_eq_true rfl, ?_⟩
      | refine ⟨fun _ => of_decide_eq_true rfl, ?_⟩
      | ((with_reducible refine ⟨?_, ?_⟩); (focus (intros; simp_all; done)))
      | ((with_reducible refine ⟨?_, ?_⟩); (focus (intros; omega)))) <;> (try (conv => whnf)))
    all_goals ((with_reducible refine leaf_i ?_); (conv => whnf))
    repeat' ((with_reducible refine And.intro ?_ ?_) <;> (try (conv => whnf)))
    all_goals (try (first | with_reducible rfl | exact True.intro | rfl | exact id | exact fun h => h | exact fun _ => rfl))
  · have hk0 : (n.2.1 == 0) = false := beq_false_of_ne h0
    by_cases h1 : n.2.1 = 1
    · have e : mapR n r = (r.1, IntKind.i64.wrap (r.2.1 * n.2.2.1), ()) := by unfold mapR; rw [if_neg h0, if_pos h1]
      have hk : (n.2.1 == 1) = true := by rw [h1]; rfl
      rw [e]
      conv => whnf
      repeat' ((first
        | refine fork_f hk0 ?_
        | refine fork_t hk ?_
        | with_reducible first | refine ⟨fun h => h, ?_⟩ | refine ⟨pk1, ?_⟩ | refine ⟨pk2, ?_⟩ | refine ⟨pk3, ?_⟩ | refine ⟨pk4, ?_⟩ | refine ⟨pk5, ?_⟩ | refine ⟨pk6, ?_⟩ | refine ⟨trivial, ?_⟩ | refine ⟨fun _ => trivial, ?_⟩ | refine ⟨rfl, ?_⟩ | refine every_i (fun hd => ?_) | refine everyN_i (fun k hk => ?_) | refine everyD_i (fun d hd => ?_) | refine fork_t (by assumption) ?_ | refine fork_f (by assumption) ?_
        | refine fork_t rfl ?_
        | refine fork_f rfl ?_
        | with_reducible first | refine fork_i (fun h => ?_) (fun h => ?_) | refine both_i ?_ ?_
        | ((with_reducible refine alike_i ?_); exact ⟨rfl, rfl, rfl⟩)
        | ((with_reducible refine fin_i ?_); (conv => whnf); refine ⟨rfl, ?_⟩)
        | refine ⟨of_decide_eq_true rfl, ?_⟩
        | refine ⟨fun _ => of_decide_eq_true rfl, ?_⟩
        | ((with_reducible refine ⟨?_, ?_⟩); (focus (intros; simp_all; done)))
        | ((with_reducible refine ⟨?_, ?_⟩); (focus (intros; omega)))) <;> (try (conv => whnf)))
      all_goals ((with_reducible refine leaf_i ?_); (conv => whnf))
      repeat' ((with_reducible refine And.intro ?_ ?_) <;> (try (conv => whnf)))
      all_goals (try (first | with_reducible rfl | exact True.intro | rfl | exact id | exact fun h => h | exact fun _ => rfl))
    · have hk1 : (n.2.1 == 1) = false := beq_false_of_ne h1
      by_cases h2 : n.2.1 = 2
      · have e : mapR n r = (r.2.1, r.1, ()) := by unfold mapR; rw [if_neg h0, if_neg h1, if_pos h2]
        have hk : (n.2.1 == 2) = true := by rw [h2]; rfl
        rw [e]
        conv => whnf
        repeat' ((first
          | refine fork_f hk0 ?_
          | refine fork_f hk1 ?_
          | refine fork_t hk ?_
          | with_reducible first | refine ⟨fun h => h, ?_⟩ | refine ⟨pk1, ?_⟩ | refine ⟨pk2, ?_⟩ | refine ⟨pk3, ?_⟩ | refine ⟨pk4, ?_⟩ | refine ⟨pk5, ?_⟩ | refine ⟨pk6, ?_⟩ | refine ⟨trivial, ?_⟩ | refine ⟨fun _ => trivial, ?_⟩ | refine ⟨rfl, ?_⟩ | refine every_i (fun hd => ?_) | refine everyN_i (fun k hk => ?_) | refine everyD_i (fun d hd => ?_) | refine fork_t (by assumption) ?_ | refine fork_f (by assumption) ?_
          | refine fork_t rfl ?_
          | refine fork_f rfl ?_
          | with_reducible first | refine fork_i (fun h => ?_) (fun h => ?_) | refine both_i ?_ ?_
          | ((with_reducible refine alike_i ?_); exact ⟨rfl, rfl, rfl⟩)
          | ((with_reducible refine fin_i ?_); (conv => whnf); refine ⟨rfl, ?_⟩)
          | refine ⟨of_decide_eq_true rfl, ?_⟩
          | refine ⟨fun _ => of_decide_eq_true rfl, ?_⟩
          | ((with_reducible refine ⟨?_, ?_⟩); (focus (intros; simp_all; done)))
          | ((with_reducible refine ⟨?_, ?_⟩); (focus (intros; omega)))) <;> (try (conv => whnf)))
        all_goals ((with_reducible refine leaf_i ?_); (conv => whnf))
        repeat' ((with_reducible refine And.intro ?_ ?_) <;> (try (conv => whnf)))
        all_goals (try (first | with_reducible rfl | exact True.intro | rfl | exact id | exact fun h => h | exact fun _ => rfl))
      · have hk2 : (n.2.1 == 2) = false := beq_false_of_ne h2
        have e : mapR n r = (modN r.2.1 n.2.2.1, r.2.1, ()) := by unfold mapR; rw [if_neg h0, if_neg h1, if_neg h2]
        have hb := hb0 h0 h1 h2
        have hbr : 0 < n.2.2.1 ∧ n.2.2.1 ≤ 9223372036854775807 := by unfold mapPre at hp; omega
        rw [e]
        conv => whnf
        repeat' ((first
          | refine fork_f hk0 ?_
          | refine fork_f hk1 ?_
          | refine fork_f hk2 ?_
          | with_reducible first | refine ⟨fun h => h, ?_⟩ | refine ⟨pk1, ?_⟩ | refine ⟨pk2, ?_⟩ | refine ⟨pk3, ?_⟩ | refine ⟨pk4, ?_⟩ | refine ⟨pk5, ?_⟩ | refine ⟨pk6, ?_⟩ | refine ⟨trivial, ?_⟩ | refine ⟨fun _ => trivial, ?_⟩ | refine ⟨rfl, ?_⟩ | refine every_i (fun hd => ?_) | refine everyN_i (fun k hk => ?_) | refine everyD_i (fun d hd => ?_) | refine fork_t (by assumption) ?_ | refine fork_f (by assumption) ?_
          | refine fork_t rfl ?_
          | refine fork_f rfl ?_
          | with_reducible first | refine fork_i (fun h => ?_) (fun h => ?_) | refine both_i ?_ ?_
          | ((with_reducible refine alike_i ?_); exact ⟨rfl, rfl, rfl⟩)
          | ((with_reducible refine fin_i ?_); (conv => whnf); refine ⟨rfl, ?_⟩)
          | refine ⟨hb, ?_⟩
          | refine ⟨of_decide_eq_true rfl, ?_⟩
          | refine ⟨fun _ => of_decide_eq_true rfl, ?_⟩
          | ((with_reducible refine ⟨?_, ?_⟩); (focus (intros; simp_all; done)))
          | ((with_reducible refine ⟨?_, ?_⟩); (focus (intros; omega)))) <;> (try (conv => whnf)))
        all_goals ((with_reducible refine leaf_i ?_); (conv => whnf))
        repeat' ((with_reducible refine And.intro ?_ ?_) <;> (try (conv => whnf)))
        all_goals (try (first | with_reducible rfl | exact True.intro | rfl | exact id | exact fun h => h | exact fun _ => rfl))
        all_goals (try simp at *)
        all_goals (first | (unfold modN; rw [if_pos (by assumption)]; rcases modN_w (n := r.2.1) hbr.1 hbr.2 with h' | h'; exact h'; omega) | (unfold modN; rw [if_neg (by omega)]; done) | trace_state)
def k_fil1 : Sig := .arg (shT tR) fun r => .arg (shRpT tN) fun n => .done { pre := filPre n, res := .tup (.cons (pRec r) (.cons (B (filR n r)) .nil)) }
set_option maxHeartbeats 4000000 in
theorem c_fil1 : FnOk Try.prog 58 k_fil1.con := by
  refine fnOkS mixed tys_ok (cs := []) trivial Try.func58 rfl (by kernel_rfl) Try.ntmps58 _ (h := ?_)
  intro r n
  refine ⟨rfl, fun hp => ?_⟩
  have hp : filPre n := hp
  by_cases h0 : n.2.1 = 0
  · have e : filR n r = decide (r.2.1 < n.2.2.1) := by unfold filR; rw [if_pos h0]
    have hk : (n.2.1 == 0) = true := by rw [h0]; rfl
    rw [e]
    conv => whnf
    repeat' ((first
      | refine fork_t hk ?_
      | with_reducible first | refine ⟨fun h => h, ?_⟩ | refine ⟨pk1, ?_⟩ | refine ⟨pk2, ?_⟩ | refine ⟨pk3, ?_⟩ | refine ⟨pk4, ?_⟩ | refine ⟨pk5, ?_⟩ | refine ⟨pk6, ?_⟩ | refine ⟨trivial, ?_⟩ | refine ⟨fun _ => trivial, ?_⟩ | refine ⟨rfl, ?_⟩ | refine every_i (fun hd => ?_) | refine everyN_i (fun k hk => ?_) | refine everyD_i (fun d hd => ?_) | refine fork_t (by assumption) ?_ | refine fork_f (by assumption) ?_
      | refine fork_t rfl ?_
      | refine fork_f rfl ?_
      | with_reducible first | refine fork_i (fun h => ?_) (fun h => ?_) | refine both_i ?_ ?_
      | ((with_reducible refine alike_i ?_); exact ⟨rfl, rfl, rfl⟩)
      | ((with_reducible refine fin_i ?_); (conv => whnf); refine ⟨rfl, ?_⟩)
      | refine ⟨of_decide_eq_true rfl, ?_⟩
      | refine ⟨fun _ => of_decide_eq_true rfl, ?_⟩
      | ((with_reducible refine ⟨?_, ?_⟩); (focus (intros; simp_all; done)))
      | ((with_reducible refine ⟨?_, ?_⟩); (focus (intros; omega)))) <;> (try (conv => whnf)))
    all_goals ((with_reducible refine leaf_i ?_); (conv => whnf))
    repeat' ((with_reducible refine And.intro ?_ ?_) <;> (try (conv => whnf)))
    all_goals (try (first | with_reducible rfl | exact True.intro | rfl | exact id | exact fun h => h | exact fun _ => rfl))
  · have hk0 : (n.2.1 == 0) = false := beq_false_of_ne h0
    by_cases h1 : n.2.1 = 1
    · have e : filR n r = (r.2.1.tmod n.2.2.1 == 0) := by unfold filR; rw [if_neg h0, if_pos h1]
      have hk : (n.2.1 == 1) = true := by rw [h1]; rfl
      have hb := hp h1
      rw [e]
      conv => whnf
      repeat' ((first
        | refine fork_f hk0 ?_
        | refine fork_t hk ?_
        | with_reducible first | refine ⟨fun h => h, ?_⟩ | refine ⟨pk1, ?_⟩ | refine ⟨pk2, ?_⟩ | refine ⟨pk3, ?_⟩ | refine ⟨pk4, ?_⟩ | refine ⟨pk5, ?_⟩ | refine ⟨pk6, ?_⟩ | refine ⟨trivial, ?_⟩ | refine ⟨fun _ => trivial, ?_⟩ | refine ⟨rfl, ?_⟩ | refine every_i (fun hd => ?_) | refine everyN_i (fun k hk => ?_) | refine everyD_i (fun d hd => ?_) | refine fork_t (by assumption) ?_ | refine fork_f (by assumption) ?_
        | refine fork_t rfl ?_
        | refine fork_f rfl ?_
        | with_reducible first | refine fork_i (fun h => ?_) (fun h => ?_) | refine both_i ?_ ?_
        | ((with_reducible refine alike_i ?_); exact ⟨rfl, rfl, rfl⟩)
        | ((with_reducible refine fin_i ?_); (conv => whnf); refine ⟨rfl, ?_⟩)
        | refine ⟨hb, ?_⟩
        | refine ⟨of_decide_eq_true rfl, ?_⟩
        | refine ⟨fun _ => of_decide_eq_true rfl, ?_⟩
        | ((with_reducible refine ⟨?_, ?_⟩); (focus (intros; simp_all; done)))
        | ((with_reducible refine ⟨?_, ?_⟩); (focus (intros; omega)))) <;> (try (conv => whnf)))
      all_goals ((with_reducible refine leaf_i ?_); (conv => whnf))
      repeat' ((with_reducible refine And.intro ?_ ?_) <;> (try (conv => whnf)))
      all_goals (try (first | with_reducible rfl | exact True.intro | rfl | exact id | exact fun h => h | exact fun _ => rfl))
    · have hk1 : (n.2.1 == 1) = false := beq_false_of_ne h1
      have e : filR n r = decide (r.1 < n.2.2.1) := by unfold filR; rw [if_neg h0, if_neg h1]
      rw [e]
      conv => whnf
      repeat' ((first
        | refine fork_f hk0 ?_
        | refine fork_f hk1 ?_
        | with_reducible first | refine ⟨fun h => h, ?_⟩ | refine ⟨pk1, ?_⟩ | refine ⟨pk2, ?_⟩ | refine ⟨pk3, ?_⟩ | refine ⟨pk4, ?_⟩ | refine ⟨pk5, ?_⟩ | refine ⟨pk6, ?_⟩ | refine ⟨trivial, ?_⟩ | refine ⟨fun _ => trivial, ?_⟩ | refine ⟨rfl, ?_⟩ | refine every_i (fun hd => ?_) | refine everyN_i (fun k hk => ?_) | refine everyD_i (fun d hd => ?_) | refine fork_t (by assumption) ?_ | refine fork_f (by assumption) ?_
        | refine fork_t rfl ?_
        | refine fork_f rfl ?_
        | with_reducible first | refine fork_i (fun h => ?_) (fun h => ?_) | refine both_i ?_ ?_
        | ((with_reducible refine alike_i ?_); exact ⟨rfl, rfl, rfl⟩)
        | ((with_reducible refine fin_i ?_); (conv => whnf); refine ⟨rfl, ?_⟩)
        | refine ⟨of_decide_eq_true rfl, ?_⟩
        | refine ⟨fun _ => of_decide_eq_true rfl, ?_⟩
        | ((with_reducible refine ⟨?_, ?_⟩); (focus (intros; simp_all; done)))
        | ((with_reducible refine ⟨?_, ?_⟩); (focus (intros; omega)))) <;> (try (conv => whnf)))
      all_goals ((with_reducible refine leaf_i ?_); (conv => whnf))
      repeat' ((with_reducible refine And.intro ?_ ?_) <;> (try (conv => whnf)))
      all_goals (try (first | with_reducible rfl | exact True.intro | rfl | exact id | exact fun h => h | exact fun _ => rfl))
end Go.Proofs.Ytgmbmpojcnmcgaa

/- Layer 13: each; what Map and Filter do to a row. -/
namespace Go.Proofs.Ytgmbmpojcnmcgaa
set_option maxRecDepth 100000
open Go Go.RowKit Go.Sort Go.Proofs.Ytgmbmpojcnmcgaa.Eng
def k_eachM : Sig := .arg (shR tR) fun l => .arg (shFn 57 (shCons (shRpT tN) shNil)) fun s => .done { pre := mapPre s.1 ∧ l.length ≤ 1000000000, res := .ow 0 2 (l.map (mapR s.1)).length, new := [.row true tR 36 (l.map (mapR s.1))] }
set_option maxHeartbeats 4000000 in
theorem c_eachM : FnOk Try.prog 56 k_eachM.con := by
  refine fnOkS mixed tys_ok (cs := [(57, k_maps1.con)]) ⟨c_maps1, trivial⟩ Try.func56 rfl (by kernel_rfl) Try.ntmps56 _ (h := ?_)
  rintro l ⟨n, u⟩
  refine ⟨rfl, fun hp => ?_⟩
  obtain ⟨hp1, hp2⟩ := hp
  have hp1 : mapPre n := hp1
  conv => whnf
  repeat' ((first
    | with_reducible first | refine ⟨fun h => h, ?_⟩ | refine ⟨pk1, ?_⟩ | refine ⟨pk2, ?_⟩ | refine ⟨pk3, ?_⟩ | refine ⟨pk4, ?_⟩ | refine ⟨pk5, ?_⟩ | refine ⟨pk6, ?_⟩ | refine ⟨trivial, ?_⟩ | refine ⟨fun _ => trivial, ?_⟩ | refine ⟨rfl, ?_⟩ | refine every_i (fun hd => ?_) | refine everyN_i (fun k hk => ?_) | refine everyD_i (fun d hd => ?_) | refine fork_t (by assumption) ?_ | refine fork_f (by assumption) ?_
    | refine fork_t rfl ?_
    | refine fork_f rfl ?_
    | with_reducible first | refine fork_i (fun h => ?_) (fun h => ?_) | refine both_i ?_ ?_
    | ((with_reducible refine alike_i ?_); exact ⟨rfl, rfl, rfl⟩)
    | ((with_reducible refine fin_i ?_); (conv => whnf); refine ⟨rfl, ?_⟩)
    | refine ⟨of_decide_eq_true rfl, ?_⟩
    | refine ⟨fun _ => of_decide_eq_true rfl, ?_⟩
    | ((with_reducible refine ⟨?_, ?_⟩); (focus (intros; simp_all; done)))
    | ((with_reducible refine ⟨?_, ?_⟩); (focus (intros; omega)))) <;> (try (conv => whnf)))
  refine looped (σ := Nat × List Rec) (fun x => [(12, I x.1), (5, .ow 0 2 x.2.length)]) (fun x => [.row true tR 36 x.2]) (fun x => x.1 ≤ l.length ∧ x.2 = (l.take x.1).map (mapR n)) (fun x => l.length - x.1) (0, []) ⟨Nat.zero_le _, rfl⟩ ?_ ?_
  · conv => whnf
    refine ⟨rfl, leaf_i ?_⟩
    repeat' ((with_reducible refine And.intro ?_ ?_) <;> (try (conv => whnf)))
    all_goals (try (first | with_reducible rfl | exact True.intro | rfl | exact id | exact fun h => h | exact fun _ => rfl))
  · rintro ⟨i, o⟩ ⟨hi, ho⟩
    dsimp only at hi ho ⊢
    have hol : o.length ≤ i := by rw [ho]; rw [List.length_map, List.length_take]; omega
    conv => whnf
    repeat' ((first
      | with_reducible first | refine ⟨fun h => h, ?_⟩ | refine ⟨pk1, ?_⟩ | refine ⟨pk2, ?_⟩ | refine ⟨pk3, ?_⟩ | refine ⟨pk4, ?_⟩ | refine ⟨pk5, ?_⟩ | refine ⟨pk6, ?_⟩ | refine ⟨trivial, ?_⟩ | refine ⟨fun _ => trivial, ?_⟩ | refine ⟨rfl, ?_⟩ | refine every_i (fun hd => ?_) | refine everyN_i (fun k hk => ?_) | refine everyD_i (fun d hd => ?_) | refine fork_t (by assumption) ?_ | refine fork_f (by assumption) ?_
      | refine fork_t rfl ?_
      | refine fork_f rfl ?_
      | with_reducible first | refine fork_i (fun h => ?_) (fun h => ?_) | refine both_i ?_ ?_
      | ((with_reducible refine alike_i ?_); exact ⟨rfl, rfl, rfl⟩)
      | ((with_reducible refine fin_i ?_); (conv => whnf); refine ⟨rfl, ?_⟩)
      | refine ⟨hp1, ?_⟩
      | refine ⟨of_decide_eq_true rfl, ?_⟩
      | refine ⟨fun _ => of_decide_eq_true rfl, ?_⟩
      | ((with_reducible refine ⟨?_, ?_⟩); (focus (intros; simp_all; done)))
      | ((with_reducible refine ⟨?_, ?_⟩); (focus (intros; omega)))) <;> (try (conv => whnf)))
    · have hi' : i < l.length := lt_t' (by assumption)
      refine ⟨by rw [List.length_append, List.length_cons, List.length_nil]; omega, ?_⟩
      (conv => whnf)
      conv => whnf
      repeat' ((first
        | with_reducible first | refine ⟨fun h => h, ?_⟩ | refine ⟨pk1, ?_⟩ | refine ⟨pk2, ?_⟩ | refine ⟨pk3, ?_⟩ | refine ⟨pk4, ?_⟩ | refine ⟨pk5, ?_⟩ | refine ⟨pk6, ?_⟩ | refine ⟨trivial, ?_⟩ | refine ⟨fun _ => trivial, ?_⟩ | refine ⟨rfl, ?_⟩ | refine every_i (fun hd => ?_) | refine everyN_i (fun k hk => ?_) | refine everyD_i (fun d hd => ?_) | refine fork_t (by assumption) ?_ | refine fork_f (by assumption) ?_
        | refine fork_t rfl ?_
        | refine fork_f rfl ?_
        | with_reducible first | refine fork_i (fun h => ?_) (fun h => ?_) | refine both_i ?_ ?_
        | ((with_reducible refine alike_i ?_); exact ⟨rfl, rfl, rfl⟩)
        | ((with_reducible refine fin_i ?_); (conv => whnf); refine ⟨rfl, ?_⟩)
        | refine ⟨of_decide_eq_true rfl, ?_⟩
        | refine ⟨fun _ => of_decide_eq_true rfl, ?_⟩
        | ((with_reducible refine ⟨?_, ?_⟩); (focus (intros; simp_all; done)))
        | ((with_reducible refine ⟨?_, ?_⟩); (focus (intros; omega)))) <;> (try (conv => whnf)))
      refine next_i (i + 1, o ++ [mapR n (getE tR l i)]) ⟨hi', by dsimp only; rw [take_get l hi', List.map_append, ← ho]; rfl⟩ (by dsimp only; omega) rfl rfl ?_
      conv => whnf
      refine ⟨rfl, leaf_i ?_⟩
      repeat' ((with_reducible refine And.intro ?_ ?_) <;> (try (conv => whnf)))
      all_goals (try (first | with_reducible rfl | exact True.intro | rfl | exact id | exact fun h => h | exact fun _ => rfl))
      all_goals (first | exact wrapS (by omega) | rfl | trace_state)
    · have hi' : l.length ≤ i := lt_f' (by assumption)
      have e : o = l.map (mapR n) := by rw [ho, List.take_of_length_le hi']
      all_goals ((with_reducible refine leaf_i ?_); (conv => whnf))
      repeat' ((with_reducible refine And.intro ?_ ?_) <;> (try (conv => whnf)))
      all_goals (try (first | with_reducible rfl | exact True.intro | rfl | exact id | exact fun h => h | exact fun _ => rfl))
      all_goals (first | exact e | (rw [e]; done) | trace_state)
def k_eachF : Sig := .arg (shR tR) fun l => .arg (shFn 58 (shCons (shRpT tN) shNil)) fun s => .done { pre := filPre s.1 ∧ l.length ≤ 1000000000, res := .ow 0 2 (l.filter (filR s.1)).length, new := [.row true tR 36 (l.filter (filR s.1))] }
set_option maxHeartbeats 4000000 in
theorem c_eachF : FnOk Try.prog 56 k_eachF.con := by
  refine fnOkS mixed tys_ok (cs := [(58, k_fil1.con)]) ⟨c_fil1, trivial⟩ Try.func56 rfl (by kernel_rfl) Try.ntmps56 _ (h := ?_)
  rintro l ⟨n, u⟩
  refine ⟨rfl, fun hp => ?_⟩
  obtain ⟨hp1, hp2⟩ := hp
  have hp1 : filPre n := hp1
  conv => whnf
  repeat' ((first
    | with_reducible first | refine ⟨fun h => h, ?_⟩ | refine ⟨pk1, ?_⟩ | refine ⟨pk2, ?_⟩ | refine ⟨pk3, ?_⟩ | refine ⟨pk4, ?_⟩ | refine ⟨pk5, ?_⟩ | refine ⟨pk6, ?_⟩ | refine ⟨trivial, ?_⟩ | refine ⟨fun _ => trivial, ?_⟩ | refine ⟨rfl, ?_⟩ | refine every_i (fun hd => ?_) | refine everyN_i (fun k hk => ?_) | refine everyD_i (fun d hd => ?_) | refine fork_t (by assumption) ?_ | refine fork_f (by assumption) ?_
    | refine fork_t rfl ?_
    | refine fork_f rfl ?_
    | with_reducible first | refine fork_i (fun h => ?_) (fun h => ?_) | refine both_i ?_ ?_
    | ((with_reducible refine alike_i ?_); exact ⟨rfl, rfl, rfl⟩)
    | ((with_reducible refine fin_i ?_); (conv => whnf); refine ⟨rfl, ?_⟩)
    | refine ⟨of_decide_eq_true rfl, ?_⟩
    | refine ⟨fun _ => of_decide_eq_true rfl, ?_⟩
    | ((with_reducible refine ⟨?_, ?_⟩); (focus (intros; simp_all; done)))
    | ((with_reducible refine ⟨?_, ?_⟩); (focus (intros; omega)))) <;> (try (conv => whnf)))
  refine looped (σ := Nat × List Rec) (fun x => [(12, I x.1), (5, .ow 0 2 x.2.length)]) (fun x => [.row true tR 36 x.2]) (fun x => x.1 ≤ l.length ∧ x.2 = (l.take x.1).filter (filR n)) (fun x => l.length - x.1) (0, []) ⟨Nat.zero_le _, rfl⟩ ?_ ?_
  · conv => whnf
    refine ⟨rfl, leaf_i ?_⟩
    repeat' ((with_reducible refine And.intro ?_ ?_) <;> (try (conv => whnf)))
    all_goals (try (first | with_reducible rfl | exact True.intro | rfl | exact id | exact fun h => h | exact fun _ => rfl))
  · rintro ⟨i, o⟩ ⟨hi, ho⟩
    dsimp only at hi ho ⊢
    have hol : o.length ≤ i := by rw [ho]; exact Nat.le_trans (List.length_filter_le _ _) (by rw [List.length_take]; omega)
    conv => whnf
    repeat' ((first
      | with_reducible first | refine ⟨fun h => h, ?_⟩ | refine ⟨pk1, ?_⟩ | refine ⟨pk2, ?_⟩ | refine ⟨pk3, ?_⟩ | refine ⟨pk4, ?_⟩ | refine ⟨pk5, ?_⟩ | refine ⟨pk6, ?_⟩ | refine ⟨trivial, ?_⟩ | refine ⟨fun _ => trivial, ?_⟩ | refine ⟨rfl, ?_⟩ | refine every_i (fun hd => ?_) | refine everyN_i (fun k hk => ?_) | refine everyD_i (fun d hd => ?_) | refine fork_t (by assumption) ?_ | refine fork_f (by assumption) ?_
      | refine fork_t rfl ?_
      | refine fork_f rfl ?_
      | with_reducible first | refine fork_i (fun h => ?_) (fun h => ?_) | refine both_i ?_ ?_
      | ((with_reducible refine alike_i ?_); exact ⟨rfl, rfl, rfl⟩)
      | ((with_reducible refine fin_i ?_); (conv => whnf); refine ⟨rfl, ?_⟩)
      | refine ⟨hp1, ?_⟩
      | refine ⟨of_decide_eq_true rfl, ?_⟩
      | refine ⟨fun _ => of_decide_eq_true rfl, ?_⟩
      | ((with_reducible refine ⟨?_, ?_⟩); (focus (intros; simp_all; done)))
      | ((with_reducible refine ⟨?_, ?_⟩); (focus (intros; omega)))) <;> (try (conv => whnf)))
    · have hi' : i < l.length := lt_t' (by assumption)
      have hf : filR n (getE tR l i) = true := by assumption
      refine ⟨by rw [List.length_append, List.length_cons, List.length_nil]; omega, ?_⟩
      (conv => whnf)
      conv => whnf
      repeat' ((first
        | with_reducible first | refine ⟨fun h => h, ?_⟩ | refine ⟨pk1, ?_⟩ | refine ⟨pk2, ?_⟩ | refine ⟨pk3, ?_⟩ | refine ⟨pk4, ?_⟩ | refine ⟨pk5, ?_⟩ | refine ⟨pk6, ?_⟩ | refine ⟨trivial, ?_⟩ | refine ⟨fun _ => trivial, ?_⟩ | refine ⟨rfl, ?_⟩ | refine every_i (fun hd => ?_) | refine everyN_i (fun k hk => ?_) | refine everyD_i (fun d hd => ?_) | refine fork_t (by assumption) ?_ | refine fork_f (by assumption) ?_
        | refine fork_t rfl ?_
        | refine fork_f rfl ?_
        | with_reducible first | refine fork_i (fun h => ?_) (fun h => ?_) | refine both_i ?_ ?_
        | ((with_reducible refine alike_i ?_); exact ⟨rfl, rfl, rfl⟩)
        | ((with_reducible refine fin_i ?_); (conv => whnf); refine ⟨rfl, ?_⟩)
        | refine ⟨of_decide_eq_true rfl, ?_⟩
        | refine ⟨fun _ => of_decide_eq_true rfl, ?_⟩
        | ((with_reducible refine ⟨?_, ?_⟩); (focus (intros; simp_all; done)))
        | ((with_reducible refine ⟨?_, ?_⟩); (focus (intros; omega)))) <;> (try (conv => whnf)))
      refine next_i (i + 1, o ++ [getE tR l i]) ⟨hi', by dsimp only; rw [take_get l hi', List.filter_append, ← ho, List.filter_cons, if_pos hf, List.filter_nil]⟩ (by dsimp only; omega) rfl rfl ?_
      conv => whnf
      refine ⟨rfl, leaf_i ?_⟩
      repeat' ((with_reducible refine And.intro ?_ ?_) <;> (try (conv => whnf)))
      all_goals (try (first | with_reducible rfl | exact True.intro | rfl | exact id | exact fun h => h | exact fun _ => rfl))
      all_goals (first | exact wrapS (by omega) | rfl | trace_state)
    · have hi' : i < l.length := lt_t' (by assumption)
      have hf : filR n (getE tR l i) = false := by assumption
      refine next_i (i + 1, o) ⟨hi', by dsimp only; rw [take_get l hi', List.filter_append, ← ho, List.filter_cons, if_neg (by rw [hf]; simp), List.filter_nil, List.append_nil]⟩ (by dsimp only; omega) rfl rfl ?_
      conv => whnf
      refine ⟨rfl, leaf_i ?_⟩
      repeat' ((with_reducible refine And.intro ?_ ?_) <;> (try (conv => whnf)))
      all_goals (try (first | with_reducible rfl | exact True.intro | rfl | exact id | exact fun h => h | exact fun _ => rfl))
      all_goals (first | exact wrapS (by omega) | rfl | trace_state)
    · have hi' : l.length ≤ i := lt_f' (by assumption)
      have e : o = l.filter (filR n) := by rw [ho, List.take_of_length_le hi']
      all_goals ((with_reducible refine leaf_i ?_); (conv => whnf))
      repeat' ((with_reducible refine And.intro ?_ ?_) <;> (try (conv => whnf)))
      all_goals (try (first | with_reducible rfl | exact True.intro | rfl | exact id | exact fun h => h | exact fun _ => rfl))
      all_goals (first | exact e | (rw [e]; done) | trace_state)
def k_maps : Sig := .arg (shT tN) fun n => .arg (shR tRR) fun l => .done { pre := (mapPre n ∧ 0 < l.length) ∧ (getE tRR l 0).1.length ≤ 1000000000, res := .ow 0 2 ((getE tRR l 0).1.map (mapR n)).length, new := [.row true tR 36 ((getE tRR l 0).1.map (mapR n))] }
set_option maxHeartbeats 4000000 in
theorem c_maps : FnOk Try.prog 31 k_maps.con := by
  refine fnOkS mixed tys_ok (cs := [(56, k_eachM.con)]) ⟨c_eachM, trivial⟩ Try.func31 rfl (by kernel_rfl) Try.ntmps31 _ (h := ?_)
  intro n l
  refine ⟨rfl, fun hp => ?_⟩
  obtain ⟨⟨hp1, hp2⟩, hp3⟩ := hp
  have h0 : 0 ≤ (0 : Int) ∧ (0 : Int) < (l.length : Int) := by omega
  have hq : mapPre n ∧ (getE tRR l 0).1.length ≤ 1000000000 := ⟨hp1, hp3⟩
  conv => whnf
  repeat' ((first
    | with_reducible first | refine ⟨fun h => h, ?_⟩ | refine ⟨pk1, ?_⟩ | refine ⟨pk2, ?_⟩ | refine ⟨pk3, ?_⟩ | refine ⟨pk4, ?_⟩ | refine ⟨pk5, ?_⟩ | refine ⟨pk6, ?_⟩ | refine ⟨trivial, ?_⟩ | refine ⟨fun _ => trivial, ?_⟩ | refine ⟨rfl, ?_⟩ | refine every_i (fun hd => ?_) | refine everyN_i (fun k hk => ?_) | refine everyD_i (fun d hd => ?_) | refine fork_t (by assumption) ?_ | refine fork_f (by assumption) ?_
    | refine fork_t rfl ?_
    | refine fork_f rfl ?_
    | with_reducible first | refine fork_i (fun h => ?_) (fun h => ?_) | refine both_i ?_ ?_
    | ((with_reducible refine alike_i ?_); exact ⟨rfl, rfl, rfl⟩)
    | ((with_reducible refine fin_i ?_); (conv => whnf); refine ⟨rfl, ?_⟩)
    | refine ⟨h0, ?_⟩
    | refine ⟨hq, ?_⟩
    | refine ⟨of_decide_eq_true rfl, ?_⟩
    | refine ⟨fun _ => of_decide_eq_true rfl, ?_⟩
    | ((with_reducible refine ⟨?_, ?_⟩); (focus (intros; simp_all; done)))
    | ((with_reducible refine ⟨?_, ?_⟩); (focus (intros; omega)))) <;> (try (conv => whnf)))
  all_goals ((with_reducible refine leaf_i ?_); (conv => whnf))
  repeat' ((with_reducible refine And.intro ?_ ?_) <;> (try (conv => whnf)))
  all_goals (try (first | with_reducible rfl | exact True.intro | rfl | exact id | exact fun h => h | exact fun _ => rfl))
  all_goals (first | rfl | trace_state)
def k_filters : Sig := .arg (shT tN) fun n => .arg (shR tRR) fun l => .done { pre := (filPre n ∧ 0 < l.length) ∧ (getE tRR l 0).1.length ≤ 1000000000, res := .ow 0 2 ((getE tRR l 0).1.filter (filR n)).length, new := [.row true tR 36 ((getE tRR l 0).1.filter (filR n))] }
set_option maxHeartbeats 4000000 in
theorem c_filters : FnOk Try.prog 32 k_filters.con := by
  refine fnOkS mixed tys_ok (cs := [(56, k_eachF.con)]) ⟨c_eachF, trivial⟩ Try.func32 rfl (by kernel_rfl) Try.ntmps32 _ (h := ?_)
  intro n l
  refine ⟨rfl, fun hp => ?_⟩
  obtain ⟨⟨hp1, hp2⟩, hp3⟩ := hp
  have h0 : 0 ≤ (0 : Int) ∧ (0 : Int) < (l.length : Int) := by omega
  have hq : filPre n ∧ (getE tRR l 0).1.length ≤ 1000000000 := ⟨hp1, hp3⟩
  conv => whnf
  repeat' ((first
    | with_reducible first | refine ⟨fun h => h, ?_⟩ | refine ⟨pk1, ?_⟩ | refine ⟨pk2, ?_⟩ | refine ⟨pk3, ?_⟩ | refine ⟨pk4, ?_⟩ | refine ⟨pk5, ?_⟩ | refine ⟨pk6, ?_⟩ | refine ⟨trivial, ?_⟩ | refine ⟨fun _ => trivial, ?_⟩ | refine ⟨rfl, ?_⟩ | refine every_i (fun hd => ?_) | refine everyN_i (fun k hk => ?_) | refine everyD_i (fun d hd => ?_) | refine fork_t (by assumption) ?_ | refine fork_f (by assumption) ?_
    | refine fork_t rfl ?_
    | refine fork_f rfl ?_
    | with_reducible first | refine fork_i (fun h => ?_) (fun h => ?_) | refine both_i ?_ ?_
    | ((with_reducible refine alike_i ?_); exact ⟨rfl, rfl, rfl⟩)
    | ((with_reducible refine fin_i ?_); (conv => whnf); refine ⟨rfl, ?_⟩)
    | refine ⟨h0, ?_⟩
    | refine ⟨hq, ?_⟩
    | refine ⟨of_decide_eq_true rfl, ?_⟩
    | refine ⟨fun _ => of_decide_eq_true rfl, ?_⟩
    | ((with_reducible refine ⟨?_, ?_⟩); (focus (intros; simp_all; done)))
    | ((with_reducible refine ⟨?_, ?_⟩); (focus (intros; omega)))) <;> (try (conv => whnf)))
  all_goals ((with_reducible refine leaf_i ?_); (conv => whnf))
  repeat' ((with_reducible refine And.intro ?_ ?_) <;> (try (conv => whnf)))
  all_goals (try (first | with_reducible rfl | exact True.intro | rfl | exact id | exact fun h => h | exact fun _ => rfl))
  all_goals (first | rfl | trace_state)
end Go.Proofs.Ytgmbmpojcnmcgaa

/- Layer 13: what Reduce does: a row that stands in whatever order. -/
namespace Go.Proofs.Ytgmbmpojcnmcgaa
set_option maxRecDepth 100000
open Go Go.RowKit Go.Sort Go.Proofs.Ytgmbmpojcnmcgaa.Eng
abbrev Ent : Type := El tI' × ElV (.el tI')
def stepV (a : Int) (old : Option Int) (v : Int) : Int :=
  if a = 1 then IntKind.i64.wrap (old.getD 0 + 1) else match old with
    | none => v
    | some o => if a = 0 then IntKind.i64.wrap (o + v) else if a = 2 then (if v < o then v else o) else (if v > o then v else o)
def redS (a : Int) (m : List Ent) (r : Rec) : List Ent := putM tI' (r.1, ()) (stepV a ((findM tI' (r.1, ()) m).map fun x => x.1) r.2.1, ()) m
def redM (a : Int) (l : List Rec) : List Ent := l.foldl (redS a) []
theorem redM_take {a : Int} {l : List Rec} {j : Nat} (h : j < l.length) : redM a (l.take (j + 1)) = redS a (redM a (l.take j)) (getE tR l j) := by
  unfold redM; rw [take_get l h, List.foldl_append]; rfl
theorem redM_0 {a : Int} {l : List Rec} : ([] : List Ent) = redM a (l.take 0) := rfl
theorem erase_perm {α : Type} : ∀ (l : List α) (k : Nat) (h : k < l.length), (l[k] :: l.eraseIdx k).Perm l
  | [], _, h => by cases h
  | x :: r, 0, _ => List.Perm.refl _
  | x :: r, k + 1, h => by
    have h' : k < r.length := by simpa using h
    exact (List.Perm.swap x r[k] (r.eraseIdx k)).trans ((erase_perm r k h').cons x)
def recE (p : Ent) : Rec := (p.1.1, p.2.1, ())
def permL (d : List Nat) (l : List Rec) : List Rec := d.map fun i => getE tR l i
theorem permL_of {l m : List Rec} (h : l.Perm m) : ∃ d : List Nat, d.Perm (List.range m.length) ∧ l = permL d m := by
  induction h with
  | nil => exact ⟨[], .nil, rfl⟩
  | @cons x l m hp ih =>
    obtain ⟨d, h1, h2⟩ := ih
    refine ⟨0 :: d.map (· + 1), ?_, ?_⟩
    · rw [List.length_cons, List.range_succ_eq_map]
      exact (h1.map _).cons _
    · unfold permL at *
      rw [List.map_cons, List.map_map, h2]
      congr 1
  | swap x y l =>
    refine ⟨1 :: 0 :: (List.range l.length).map (· + 2), ?_, ?_⟩
    · rw [List.length_cons, List.length_cons, List.range_succ_eq_map, List.range_succ_eq_map]
      simp only [List.map_cons, List.map_map]
      exact List.Perm.swap _ _ _
    · unfold permL
      rw [List.map_cons, List.map_cons, List.map_map]
      congr 2
      apply List.ext_getElem?
      intro j
      by_cases hj : j < l.length
      · rw [List.getElem?_map, List.getElem?_range hj, List.getElem?_eq_getElem hj]
        simp only [Option.map_some, Function.comp, getE]
        rw [List.getD_eq_getElem?_getD, List.getElem?_cons_succ, List.getElem?_cons_succ, List.getElem?_eq_getElem hj]
        rfl
      · rw [List.getElem?_eq_none (by omega), List.getElem?_eq_none (by simp; omega)]
  | @trans l m k h1 h2 ih1 ih2 =>
    obtain ⟨d, p1, p2⟩ := ih1
    obtain ⟨e, q1, q2⟩ := ih2
    have hd : ∀ i ∈ d, i < m.length := fun i hi => by have := p1.subset hi; simpa using this
    refine ⟨d.map fun i => e.getD i 0, ?_, ?_⟩
    · have hel : e.length = m.length := by have := congrArg List.length q2; simpa [permL] using this.symm
      have h3 : ((List.range m.length).map fun i => e.getD i 0) = e := by
        apply List.ext_getElem?
        intro j
        by_cases hj : j < m.length
        · rw [List.getElem?_map, List.getElem?_range hj, List.getElem?_eq_getElem (by omega)]
          simp [List.getD_eq_getElem?_getD, List.getElem?_eq_getElem (show j < e.length by omega)]
        · rw [List.getElem?_eq_none (l := e) (by omega), List.getElem?_eq_none (by simp; omega)]
      have h4 := p1.map fun i => e.getD i 0
      rw [h3] at h4
      exact h4.trans q1
    · have hel : e.length = m.length := by have := congrArg List.length q2; simpa [permL] using this.symm
      rw [p2]
      unfold permL
      rw [List.map_map]
      apply List.map_congr_left
      intro i hi
      have hi' := hd i hi
      show getE tR m i = getE tR k (e.getD i 0)
      conv => lhs; rw [q2]
      unfold permL getE
      rw [List.getD_eq_getElem?_getD, List.getElem?_map, List.getElem?_eq_getElem (show i < e.length by omega)]
      simp [List.getD_eq_getElem?_getD, List.getElem?_eq_getElem (show i < e.length by omega)]
theorem permL_perm {d : List Nat} {m : List Rec} (h : d.Perm (List.range m.length)) : (permL d m).Perm m := by
  have h1 : ((List.range m.length).map fun i => getE tR m i) = m := by
    apply List.ext_getElem?
    intro j
    by_cases hj : j < m.length
    · rw [List.getElem?_map, List.getElem?_range hj, List.getElem?_eq_getElem hj]
      simp [getE, List.getD_eq_getElem?_getD, List.getElem?_eq_getElem hj]
    · rw [List.getElem?_eq_none (l := m) (by omega), List.getElem?_eq_none (by simp; omega)]
  have := h.map fun i => getE tR m i
  rw [h1] at this
  exact this
section
variable {a : Int} {m : List Ent} {r : Rec}
theorem redS_1 (h : a = 1) : redS a m r = putM tI' (r.1, ()) (IntKind.i64.wrap (((findM tI' (r.1, ()) m).getD (0, ())).1 + 1), ()) m := by
  unfold redS stepV; rw [if_pos h]; cases findM tI' (r.1, ()) m <;> rfl
theorem redS_n (h : a ≠ 1) (h2 : (findM tI' (r.1, ()) m).isSome = false) : redS a m r = putM tI' (r.1, ()) (r.2.1, ()) m := by
  unfold redS stepV; rw [if_neg h]
  cases hf : findM tI' (r.1, ()) m with
  | none => rfl
  | some x => rw [hf] at h2; cases h2
theorem redS_0 (h : a = 0) (h2 : (findM tI' (r.1, ()) m).isSome = true) : redS a m r = putM tI' (r.1, ()) (IntKind.i64.wrap (((findM tI' (r.1, ()) m).getD (0, ())).1 + r.2.1), ()) m := by
  unfold redS stepV; rw [if_neg (by omega)]
  cases hf : findM tI' (r.1, ()) m with
  | none => rw [hf] at h2; cases h2
  | some x => simp only [Option.map_some]; rw [if_pos h]; rfl
theorem redS_2 (h : a = 2) (h2 : (findM tI' (r.1, ()) m).isSome = true) : redS a m r = putM tI' (r.1, ()) ((if r.2.1 < ((findM tI' (r.1, ()) m).getD (0, ())).1 then r.2.1 else ((findM tI' (r.1, ()) m).getD (0, ())).1), ()) m := by
  unfold redS stepV; rw [if_neg (by omega)]
  cases hf : findM tI' (r.1, ()) m with
  | none => rw [hf] at h2; cases h2
  | some x => simp only [Option.map_some]; rw [if_neg (by omega), if_pos h]; rfl
theorem redS_3 (h1 : a ≠ 1) (h0 : a ≠ 0) (h : a ≠ 2) (h2 : (findM tI' (r.1, ()) m).isSome = true) : redS a m r = putM tI' (r.1, ()) ((if r.2.1 > ((findM tI' (r.1, ()) m).getD (0, ())).1 then r.2.1 else ((findM tI' (r.1, ()) m).getD (0, ())).1), ()) m := by
  unfold redS stepV; rw [if_neg h1]
  cases hf : findM tI' (r.1, ()) m with
  | none => rw [hf] at h2; cases h2
  | some x => simp only [Option.map_some]; rw [if_neg h0, if_neg h]; rfl
end
def redR (n : Nd) (l : List Rec) : List Rec := (redM n.2.1 l).map recE
theorem putM_len {α : Type} {t : Ty} {k : El t} {v : α} : ∀ (m : List (El t × α)), (putM t k v m).length ≤ m.length + 1
  | [] => Nat.le_refl _
  | (b, w) :: r => by
    unfold putM
    cases eqE t k b with
    | true => exact Nat.le_succ _
    | false => exact Nat.succ_le_succ (putM_len r)
theorem redM_len (a : Int) (l : List Rec) : (redM a l).length ≤ l.length := by
  have h : ∀ (l : List Rec) (m : List Ent), (l.foldl (redS a) m).length ≤ m.length + l.length := fun l => by
    induction l with
    | nil => intro m; exact Nat.le_refl _
    | cons x r ih =>
      intro m
      have h1 := ih (redS a m x)
      have h2 : (redS a m x).length ≤ m.length + 1 := putM_len m
      rw [List.foldl_cons, List.length_cons]; omega
  have := h l []
  simpa [redM] using this
attribute [local irreducible] redS redM stepV
def crReduces (n : Nd) (l : List (El tRR)) : CRD where
  pre := 0 < l.length ∧ (getE tRR l 0).1.length ≤ 1000000000
  d0 := List.range (redR n (getE tRR l 0).1).length
  ok d := d.Perm (List.range (redR n (getE tRR l 0).1).length)
  out d := { pre := True, res := .ow 0 2 (permL d (redR n (getE tRR l 0).1)).length, new := [.row true tR 36 (permL d (redR n (getE tRR l 0).1))] }
def k_reduces : SigD := .arg (shT tN) fun n => .arg (shR tRR) fun l => .done (crReduces n l)
set_option maxHeartbeats 4000000 in
theorem c_reduces : FnOkD Try.prog 33 k_reduces.conD := by
  refine fnOkSD mixed tys_ok (cs := []) trivial Try.func33 rfl (by kernel_rfl) Try.ntmps33 _ (h := ?_)
  intro n ll
  refine ⟨rfl, fun hp => ?_⟩
  obtain ⟨hp1, hp2⟩ := hp
  generalize hl : (getE tRR ll 0).1 = l at hp2
  have h0 : 0 ≤ (0 : Int) ∧ (0 : Int) < (ll.length : Int) := by omega
  conv => whnf
  repeat' ((first
    | with_reducible first | refine ⟨fun h => h, ?_⟩ | refine ⟨pk1, ?_⟩ | refine ⟨pk2, ?_⟩ | refine ⟨pk3, ?_⟩ | refine ⟨pk4, ?_⟩ | refine ⟨pk5, ?_⟩ | refine ⟨pk6, ?_⟩ | refine ⟨trivial, ?_⟩ | refine ⟨fun _ => trivial, ?_⟩ | refine ⟨rfl, ?_⟩ | refine every_i (fun hd => ?_) | refine everyN_i (fun k hk => ?_) | refine everyD_i (fun d hd => ?_) | refine fork_t (by assumption) ?_ | refine fork_f (by assumption) ?_
    | refine fork_t rfl ?_
    | refine fork_f rfl ?_
    | with_reducible first | refine fork_i (fun h => ?_) (fun h => ?_) | refine both_i ?_ ?_
    | ((with_reducible refine alike_i ?_); exact ⟨rfl, rfl, rfl⟩)
    | ((with_reducible refine fin_i ?_); (conv => whnf); refine ⟨rfl, ?_⟩)
    | refine ⟨h0, ?_⟩
    | refine ⟨of_decide_eq_true rfl, ?_⟩
    | refine ⟨fun _ => of_decide_eq_true rfl, ?_⟩
    | ((with_reducible refine ⟨?_, ?_⟩); (focus (intros; simp_all; done)))
    | ((with_reducible refine ⟨?_, ?_⟩); (focus (intros; omega)))) <;> (try (conv => whnf)))
  refine only [5, 2] ?_
  (conv => whnf)
  refine looped (σ := Nat × List Ent) (fun x => [(18, I x.1), (17, I l.length), (16, .rl false tR l)]) (fun x => [.cells (ndC false n), .mpo false false tI' (.el tI') none none x.2]) (fun x => x.1 ≤ l.length ∧ x.2 = redM n.2.1 (l.take x.1)) (fun x => l.length - x.1) (0, []) ⟨Nat.zero_le _, redM_0⟩ ?_ ?_
  · conv => whnf
    refine ⟨rfl, leaf_i ?_⟩
    repeat' ((with_reducible refine And.intro ?_ ?_) <;> (try (conv => whnf)))
    all_goals (try (first | with_reducible rfl | exact True.intro | rfl | exact id | exact fun h => h | exact fun _ => rfl))
    all_goals (first | exact hl | (rw [← hl]; rfl) | trace_state)
  · rintro ⟨i, m⟩ ⟨hi, hm⟩
    dsimp only at hi hm ⊢
    conv => whnf
    repeat' ((first
      | with_reducible first | refine ⟨fun h => h, ?_⟩ | refine ⟨pk1, ?_⟩ | refine ⟨pk2, ?_⟩ | refine ⟨pk3, ?_⟩ | refine ⟨pk4, ?_⟩ | refine ⟨pk5, ?_⟩ | refine ⟨pk6, ?_⟩ | refine ⟨trivial, ?_⟩ | refine ⟨fun _ => trivial, ?_⟩ | refine ⟨rfl, ?_⟩ | refine every_i (fun hd => ?_) | refine everyN_i (fun k hk => ?_) | refine everyD_i (fun d hd => ?_) | refine fork_t (by assumption) ?_ | refine fork_f (by assumption) ?_
      | refine fork_t rfl ?_
      | refine fork_f rfl ?_
      | with_reducible first | refine fork_i (fun h => ?_) (fun h => ?_) | refine both_i ?_ ?_
      | ((with_reducible refine alike_i ?_); exact ⟨rfl, rfl, rfl⟩)
      | ((with_reducible refine fin_i ?_); (conv => whnf); refine ⟨rfl, ?_⟩)
      | refine ⟨of_decide_eq_true rfl, ?_⟩
      | refine ⟨fun _ => of_decide_eq_true rfl, ?_⟩
      | ((with_reducible refine ⟨?_, ?_⟩); (focus (intros; simp_all; done)))
      | ((with_reducible refine ⟨?_, ?_⟩); (focus (intros; omega)))) <;> (try (conv => whnf)))
    iterate 5
      · have hi' : i < l.length := lt_t' (by assumption)
        refine next_i (i + 1, redS n.2.1 m (getE tR l i)) ⟨hi', by dsimp only; rw [redM_take hi', hm]⟩ (by dsimp only; omega) rfl rfl ?_
        conv => whnf
        refine ⟨rfl, leaf_i ?_⟩
        repeat' ((with_reducible refine And.intro ?_ ?_) <;> (try (conv => whnf)))
        all_goals (try (first | with_reducible rfl | exact True.intro | rfl | exact id | exact fun h => h | exact fun _ => rfl))
        all_goals (first
          | exact wrapS (by omega)
          | (refine congrArg (AO.mpo false false tI' (VT.el tI') none none) ?_; first
            | exact (redS_1 (r := getE tR l i) (beq_t (by assumption))).symm
            | exact (redS_n (r := getE tR l i) (beq_f (by assumption)) (not_t (by assumption))).symm
            | exact (redS_0 (r := getE tR l i) (beq_t (by assumption)) (not_f (by assumption))).symm
            | exact (redS_2 (r := getE tR l i) (beq_t (by assumption)) (not_f (by assumption))).symm
            | exact (redS_3 (r := getE tR l i) (beq_f (b := 1) (by assumption)) (beq_f (b := 0) (by assumption)) (beq_f (b := 2) (by assumption)) (not_f (by assumption))).symm)
          | trace_state)
    · have hi' : l.length ≤ i := lt_f' (by assumption)
      have hm : m = redM n.2.1 l := by rw [hm, List.take_of_length_le hi']
      refine only [5, 2, 77] ?_
      (conv => whnf)
      refine looped (σ := Option Ent × List Ent × List Rec) (fun x => [(10, .ow 3 2 x.2.2.length)]) (fun x => [.cells (ndC false n), .mpo false false tI' (.el tI') none (some (2, x.1, x.2.1)) m, .itp 1, .row true tR 36 x.2.2]) (fun x => (x.2.2 ++ x.2.1.map recE).Perm (m.map recE)) (fun x => x.2.1.length) (none, m, []) (by simp) ?_ ?_
      · conv => whnf
        refine ⟨rfl, leaf_i ?_⟩
        repeat' ((with_reducible refine And.intro ?_ ?_) <;> (try (conv => whnf)))
        all_goals (try (first | with_reducible rfl | exact True.intro | rfl | exact id | exact fun h => h | exact fun _ => rfl))
        all_goals (first | rfl | trace_state)
      · rintro ⟨last, left, out⟩ hperm
        dsimp only at hperm ⊢
        have hol : out.length + left.length ≤ 1000000000 := by
          have h1 := hperm.length_eq
          have h2 := redM_len n.2.1 l
          rw [List.length_append, List.length_map, List.length_map, hm] at h1
          omega
        conv => whnf
        repeat' ((first
          | with_reducible first | refine ⟨fun h => h, ?_⟩ | refine ⟨pk1, ?_⟩ | refine ⟨pk2, ?_⟩ | refine ⟨pk3, ?_⟩ | refine ⟨pk4, ?_⟩ | refine ⟨pk5, ?_⟩ | refine ⟨pk6, ?_⟩ | refine ⟨trivial, ?_⟩ | refine ⟨fun _ => trivial, ?_⟩ | refine ⟨rfl, ?_⟩ | refine every_i (fun hd => ?_) | refine everyN_i (fun k hk => ?_) | refine everyD_i (fun d hd => ?_) | refine fork_t (by assumption) ?_ | refine fork_f (by assumption) ?_
          | refine fork_t rfl ?_
          | refine fork_f rfl ?_
          | with_reducible first | refine fork_i (fun h => ?_) (fun h => ?_) | refine both_i ?_ ?_
          | ((with_reducible refine alike_i ?_); exact ⟨rfl, rfl, rfl⟩)
          | ((with_reducible refine fin_i ?_); (conv => whnf); refine ⟨rfl, ?_⟩)
          | refine ⟨of_decide_eq_true rfl, ?_⟩
          | refine ⟨fun _ => of_decide_eq_true rfl, ?_⟩
          | ((with_reducible refine ⟨?_, ?_⟩); (focus (intros; simp_all; done)))
          | ((with_reducible refine ⟨?_, ?_⟩); (focus (intros; omega)))) <;> (try (conv => whnf)))
        · have hleft : left = [] := List.eq_nil_of_length_eq_zero (Nat.eq_of_beq_eq_true (by assumption))
          subst hleft
          have hp : out.Perm (redR n (getE tRR ll 0).1) := by
            rw [List.map_nil, List.append_nil, hm, ← hl] at hperm
            exact hperm
          obtain ⟨d, hd, e⟩ := permL_of hp
          refine finD_i d hd ?_
          conv => whnf
          repeat' ((first
            | with_reducible first | refine ⟨fun h => h, ?_⟩ | refine ⟨pk1, ?_⟩ | refine ⟨pk2, ?_⟩ | refine ⟨pk3, ?_⟩ | refine ⟨pk4, ?_⟩ | refine ⟨pk5, ?_⟩ | refine ⟨pk6, ?_⟩ | refine ⟨trivial, ?_⟩ | refine ⟨fun _ => trivial, ?_⟩ | refine ⟨rfl, ?_⟩ | refine every_i (fun hd => ?_) | refine everyN_i (fun k hk => ?_) | refine everyD_i (fun d hd => ?_) | refine fork_t (by assumption) ?_ | refine fork_f (by assumption) ?_
            | refine fork_t rfl ?_
            | refine fork_f rfl ?_
            | with_reducible first | refine fork_i (fun h => ?_) (fun h => ?_) | refine both_i ?_ ?_
            | ((with_reducible refine alike_i ?_); exact ⟨rfl, rfl, rfl⟩)
            | ((with_reducible refine fin_i ?_); (conv => whnf); refine ⟨rfl, ?_⟩)
            | refine ⟨of_decide_eq_true rfl, ?_⟩
            | refine ⟨fun _ => of_decide_eq_true rfl, ?_⟩
            | ((with_reducible refine ⟨?_, ?_⟩); (focus (intros; simp_all; done)))
            | ((with_reducible refine ⟨?_, ?_⟩); (focus (intros; omega)))) <;> (try (conv => whnf)))
          all_goals ((with_reducible refine leaf_i ?_); (conv => whnf))
          repeat' ((with_reducible refine And.intro ?_ ?_) <;> (try (conv => whnf)))
          all_goals (try (first | with_reducible rfl | exact True.intro | rfl | exact id | exact fun h => h | exact fun _ => rfl))
          all_goals (first | exact e | (rw [← e]; done) | trace_state)
        · rename_i k hk
          have hg : getM tI' (.el tI') left k = left[k] := by unfold getM; rw [List.getD_eq_getElem?_getD, List.getElem?_eq_getElem hk]; rfl
          refine ⟨by rw [List.length_append, List.length_cons, List.length_nil]; omega, ?_⟩
          (conv => whnf)
          conv => whnf
          repeat' ((first
            | with_reducible first | refine ⟨fun h => h, ?_⟩ | refine ⟨pk1, ?_⟩ | refine ⟨pk2, ?_⟩ | refine ⟨pk3, ?_⟩ | refine ⟨pk4, ?_⟩ | refine ⟨pk5, ?_⟩ | refine ⟨pk6, ?_⟩ | refine ⟨trivial, ?_⟩ | refine ⟨fun _ => trivial, ?_⟩ | refine ⟨rfl, ?_⟩ | refine every_i (fun hd => ?_) | refine everyN_i (fun k hk => ?_) | refine everyD_i (fun d hd => ?_) | refine fork_t (by assumption) ?_ | refine fork_f (by assumption) ?_
            | refine fork_t rfl ?_
            | refine fork_f rfl ?_
            | with_reducible first | refine fork_i (fun h => ?_) (fun h => ?_) | refine both_i ?_ ?_
            | ((with_reducible refine alike_i ?_); exact ⟨rfl, rfl, rfl⟩)
            | ((with_reducible refine fin_i ?_); (conv => whnf); refine ⟨rfl, ?_⟩)
            | refine ⟨of_decide_eq_true rfl, ?_⟩
            | refine ⟨fun _ => of_decide_eq_true rfl, ?_⟩
            | ((with_reducible refine ⟨?_, ?_⟩); (focus (intros; simp_all; done)))
            | ((with_reducible refine ⟨?_, ?_⟩); (focus (intros; omega)))) <;> (try (conv => whnf)))
          refine next_i (some (getM tI' (.el tI') left k), left.eraseIdx k, out ++ [recE (getM tI' (.el tI') left k)]) ?_ ?_ rfl rfl ?_
          · dsimp only
            rw [hg, List.append_assoc, List.singleton_append, ← List.map_cons]
            exact ((List.Perm.map recE (erase_perm left k hk)).append_left out).trans hperm
          · dsimp only
            rw [List.length_eraseIdx_of_lt hk]; omega
          · conv => whnf
            refine ⟨rfl, leaf_i ?_⟩
            repeat' ((with_reducible refine And.intro ?_ ?_) <;> (try (conv => whnf)))
            all_goals (try (first | with_reducible rfl | exact True.intro | rfl | exact id | exact fun h => h | exact fun _ => rfl))
            all_goals (first | rfl | trace_state)
end Go.Proofs.Ytgmbmpojcnmcgaa

/- Layer 13: what Join does. -/
namespace Go.Proofs.Ytgmbmpojcnmcgaa
set_option maxRecDepth 100000
open Go Go.RowKit Go.Sort Go.Proofs.Ytgmbmpojcnmcgaa.Eng
abbrev EntL : Type := El tI' × ElV (.own tI' 2)
def valsK (k : Int) (l : List Rec) : List (El tI') := (l.filter fun r => r.1 == k).map fun r => (r.2.1, ())
theorem valsK_take {k : Int} {l : List Rec} {j : Nat} (h : j < l.length) : valsK k (l.take (j + 1)) = valsK k (l.take j) ++ (if (getE tR l j).1 == k then [((getE tR l j).2.1, ())] else []) := by
  unfold valsK
  rw [take_get l h, List.filter_append, List.map_append, List.filter_cons, List.filter_nil]
  split <;> rfl
theorem valsK_len {k : Int} {l : List Rec} : (valsK k l).length ≤ l.length := by
  unfold valsK; rw [List.length_map]; exact List.length_filter_le _ _
theorem eqI' (x y : El tI') : eqE tI' x y = (x.1 == y.1) := by simp [eqE]
theorem lst_put {α : Type} (k k' : El tI') (v : Value × List α) : ∀ (m : List (El tI' × (Value × List α))), lstM tI' k (putM tI' k' v m) = if k.1 == k'.1 then v else lstM tI' k m
  | [] => by unfold lstM putM findM; rw [eqI']; cases k.1 == k'.1 <;> rfl
  | (b, w) :: r => by
    have ih := lst_put k k' v r
    unfold lstM at ih ⊢
    unfold putM
    cases h : eqE tI' k' b with
    | true =>
      rw [eqI'] at h
      have h := eq_of_beq h
      simp only [cond_true, findM, eqI', ← h]
      cases k.1 == k'.1 <;> rfl
    | false =>
      simp only [cond_false, findM]
      cases h2 : eqE tI' k b with
      | true =>
        rw [eqI'] at h h2
        have h := ne_of_beq_false h
        have h2 := eq_of_beq h2
        have : (k.1 == k'.1) = false := beq_false_of_ne (fun e => h (e.symm.trans h2))
        rw [this]; rfl
      | false => exact ih
def join1 (b : List Rec) (r : Rec) : List Rec := (valsK r.1 b).map fun v => (r.1, IntKind.i64.wrap (r.2.1 + v.1), ())
def joinR (a b : List Rec) : List Rec := a.flatMap (join1 b)
theorem joinR_take {a b : List Rec} {j : Nat} (h : j < a.length) : joinR (a.take (j + 1)) b = joinR (a.take j) b ++ join1 b (getE tR a j) := by
  unfold joinR; rw [take_get a h, List.flatMap_append]; simp
theorem joinR_le {a b : List Rec} {j : Nat} (h : j < a.length) : (joinR (a.take j) b).length + (valsK (getE tR a j).1 b).length ≤ (joinR a b).length := by
  have e := List.take_append_drop (j + 1) a
  have h1 : joinR a b = joinR (a.take (j + 1)) b ++ joinR (a.drop (j + 1)) b := by unfold joinR; rw [← List.flatMap_append, e]
  rw [h1, joinR_take h, List.length_append, List.length_append]
  unfold join1
  rw [List.length_map]; omega
def k_joins : Sig := .arg (shT tN) fun n => .arg (shR tRR) fun l => .done { pre := (1 < l.length ∧ (getE tRR l 1).1.length ≤ 1000000000) ∧ (getE tRR l 0).1.length ≤ 1000000000 ∧ (joinR (getE tRR l 0).1 (getE tRR l 1).1).length ≤ 1000000000, res := .ow 0 2 (joinR (getE tRR l 0).1 (getE tRR l 1).1).length, new := [.row true tR 36 (joinR (getE tRR l 0).1 (getE tRR l 1).1)] }
attribute [local irreducible] valsK joinR
set_option maxHeartbeats 4000000 in
theorem c_joins : FnOk Try.prog 34 k_joins.con := by
  refine fnOkS mixed tys_ok (cs := []) trivial Try.func34 rfl (by kernel_rfl) Try.ntmps34 _ (h := ?_)
  intro n ll
  refine ⟨rfl, fun hp => ?_⟩
  obtain ⟨⟨hp1, hp2⟩, hp3, hp4⟩ := hp
  have h0 : 0 ≤ (0 : Int) ∧ (0 : Int) < (ll.length : Int) := by omega
  have h1 : 0 ≤ (1 : Int) ∧ (1 : Int) < (ll.length : Int) := by omega
  conv => whnf
  repeat' ((first
    | with_reducible first | refine ⟨fun h => h, ?_⟩ | refine ⟨pk1, ?_⟩ | refine ⟨pk2, ?_⟩ | refine ⟨pk3, ?_⟩ | refine ⟨pk4, ?_⟩ | refine ⟨pk5, ?_⟩ | refine ⟨pk6, ?_⟩ | refine ⟨trivial, ?_⟩ | refine ⟨fun _ => trivial, ?_⟩ | refine ⟨rfl, ?_⟩ | refine every_i (fun hd => ?_) | refine everyN_i (fun k hk => ?_) | refine everyD_i (fun d hd => ?_) | refine fork_t (by assumption) ?_ | refine fork_f (by assumption) ?_
    | refine fork_t rfl ?_
    | refine fork_f rfl ?_
    | with_reducible first | refine fork_i (fun h => ?_) (fun h => ?_) | refine both_i ?_ ?_
    | ((with_reducible refine alike_i ?_); exact ⟨rfl, rfl, rfl⟩)
    | ((with_reducible refine fin_i ?_); (conv => whnf); refine ⟨rfl, ?_⟩)
    | refine ⟨h1, ?_⟩
    | refine ⟨of_decide_eq_true rfl, ?_⟩
    | refine ⟨fun _ => of_decide_eq_true rfl, ?_⟩
    | ((with_reducible refine ⟨?_, ?_⟩); (focus (intros; simp_all; done)))
    | ((with_reducible refine ⟨?_, ?_⟩); (focus (intros; omega)))) <;> (try (conv => whnf)))
  refine only [5, 1] ?_
  (conv => whnf)
  refine looped (σ := Nat × List EntL) (fun x => [(18, I x.1), (17, I (getE tRR ll 1).1.length), (16, .rl false tR (getE tRR ll 1).1)]) (fun x => [.cells (ndC false n), .mpo false false tI' (.own tI' 2) none none x.2]) (fun x => x.1 ≤ (getE tRR ll 1).1.length ∧ ∀ k : Int, (lstM tI' (k, ()) x.2).2 = valsK k ((getE tRR ll 1).1.take x.1)) (fun x => (getE tRR ll 1).1.length - x.1) (0, []) ⟨Nat.zero_le _, fun k => by unfold valsK; rfl⟩ ?_ ?_
  · conv => whnf
    refine ⟨rfl, leaf_i ?_⟩
    repeat' ((with_reducible refine And.intro ?_ ?_) <;> (try (conv => whnf)))
    all_goals (try (first | with_reducible rfl | exact True.intro | rfl | exact id | exact fun h => h | exact fun _ => rfl))
    all_goals (first | rfl | trace_state)
  · generalize hl : (getE tRR ll 1).1 = l at hp2 hp4
    rintro ⟨i, m⟩ ⟨hi, hm⟩
    dsimp only at hi hm ⊢
    have hlen : ∀ k v, i < l.length → ((lstM tI' (k, ()) m).2 ++ [v]).length ≤ 1000000000 := fun k v hi' => by
      have := valsK_len (k := k) (l := l.take i)
      rw [List.length_take] at this
      rw [List.length_append, hm k, List.length_cons, List.length_nil]; omega
    have hout : ∀ x : El tI', outP (some x) x := fun x => by show eqE tI' x x = true; rw [eqI']; simp
    conv => whnf
    repeat' ((first
      | with_reducible first | refine ⟨fun h => h, ?_⟩ | refine ⟨pk1, ?_⟩ | refine ⟨pk2, ?_⟩ | refine ⟨pk3, ?_⟩ | refine ⟨pk4, ?_⟩ | refine ⟨pk5, ?_⟩ | refine ⟨pk6, ?_⟩ | refine ⟨trivial, ?_⟩ | refine ⟨fun _ => trivial, ?_⟩ | refine ⟨rfl, ?_⟩ | refine every_i (fun hd => ?_) | refine everyN_i (fun k hk => ?_) | refine everyD_i (fun d hd => ?_) | refine fork_t (by assumption) ?_ | refine fork_f (by assumption) ?_
      | refine fork_t rfl ?_
      | refine fork_f rfl ?_
      | with_reducible first | refine fork_i (fun h => ?_) (fun h => ?_) | refine both_i ?_ ?_
      | ((with_reducible refine alike_i ?_); exact ⟨rfl, rfl, rfl⟩)
      | ((with_reducible refine fin_i ?_); (conv => whnf); refine ⟨rfl, ?_⟩)
      | refine ⟨⟨rfl, hlen _ _ (lt_t' (by assumption))⟩, ?_⟩
      | refine ⟨hout _, ?_⟩
      | refine ⟨of_decide_eq_true rfl, ?_⟩
      | refine ⟨fun _ => of_decide_eq_true rfl, ?_⟩
      | ((with_reducible refine ⟨?_, ?_⟩); (focus (intros; simp_all; done)))
      | ((with_reducible refine ⟨?_, ?_⟩); (focus (intros; omega)))) <;> (try (conv => whnf)))
    · have hi' : i < l.length := lt_t' (by assumption)
      refine next_i (i + 1, putM tI' ((getE tR l i).1, ()) (hd, (lstM tI' ((getE tR l i).1, ()) m).2 ++ [((getE tR l i).2.1, ())]) m) ⟨hi', fun k => ?_⟩ (by dsimp only; omega) rfl rfl ?_
      · dsimp only
        rw [lst_put, valsK_take hi']
        dsimp only
        cases hk : (k == (getE tR l i).1) with
        | true =>
          have hk := eq_of_beq hk
          subst hk
          rw [if_pos rfl, if_pos (by simp), hm]
        | false =>
          have hk := ne_of_beq_false hk
          rw [if_neg (by simp), if_neg (by simpa using fun e => hk e.symm), List.append_nil]; exact hm k
      · conv => whnf
        refine ⟨rfl, leaf_i ?_⟩
        repeat' ((with_reducible refine And.intro ?_ ?_) <;> (try (conv => whnf)))
        all_goals (try (first | with_reducible rfl | exact True.intro | rfl | exact id | exact fun h => h | exact fun _ => rfl))
        all_goals (first | exact wrapS (by omega) | rfl | trace_state)
    · have hi' : l.length ≤ i := lt_f' (by assumption)
      have hm : ∀ k : Int, (lstM tI' (k, ()) m).2 = valsK k l := fun k => by rw [hm k, List.take_of_length_le hi']
      conv => whnf
      repeat' ((first
        | with_reducible first | refine ⟨fun h => h, ?_⟩ | refine ⟨pk1, ?_⟩ | refine ⟨pk2, ?_⟩ | refine ⟨pk3, ?_⟩ | refine ⟨pk4, ?_⟩ | refine ⟨pk5, ?_⟩ | refine ⟨pk6, ?_⟩ | refine ⟨trivial, ?_⟩ | refine ⟨fun _ => trivial, ?_⟩ | refine ⟨rfl, ?_⟩ | refine every_i (fun hd => ?_) | refine everyN_i (fun k hk => ?_) | refine everyD_i (fun d hd => ?_) | refine fork_t (by assumption) ?_ | refine fork_f (by assumption) ?_
        | refine fork_t rfl ?_
        | refine fork_f rfl ?_
        | with_reducible first | refine fork_i (fun h => ?_) (fun h => ?_) | refine both_i ?_ ?_
        | ((with_reducible refine alike_i ?_); exact ⟨rfl, rfl, rfl⟩)
        | ((with_reducible refine fin_i ?_); (conv => whnf); refine ⟨rfl, ?_⟩)
        | refine ⟨h0, ?_⟩
        | refine ⟨of_decide_eq_true rfl, ?_⟩
        | refine ⟨fun _ => of_decide_eq_true rfl, ?_⟩
        | ((with_reducible refine ⟨?_, ?_⟩); (focus (intros; simp_all; done)))
        | ((with_reducible refine ⟨?_, ?_⟩); (focus (intros; omega)))) <;> (try (conv => whnf)))
      refine only [5, 1] ?_
      (conv => whnf)
      generalize ha : (getE tRR ll 0).1 = a at hp3 hp4
      refine looped (σ := Nat × List Rec) (fun x => [(38, I x.1), (37, I a.length), (36, .rl false tR a), (8, .ow 2 2 x.2.length)]) (fun x => [.cells (ndC false n), .mpo false false tI' (.own tI' 2) none none m, .row true tR 36 x.2]) (fun x => x.1 ≤ a.length ∧ x.2 = joinR (a.take x.1) l) (fun x => a.length - x.1) (0, []) ⟨Nat.zero_le _, by unfold joinR; rfl⟩ ?_ ?_
      · conv => whnf
        refine ⟨rfl, leaf_i ?_⟩
        repeat' ((with_reducible refine And.intro ?_ ?_) <;> (try (conv => whnf)))
        all_goals (try (first | with_reducible rfl | exact True.intro | rfl | exact id | exact fun h => h | exact fun _ => rfl))
        all_goals (first | exact ha | (rw [← ha]; rfl) | trace_state)
      · rintro ⟨j, o⟩ ⟨hj, ho⟩
        dsimp only at hj ho ⊢
        conv => whnf
        repeat' ((first
          | with_reducible first | refine ⟨fun h => h, ?_⟩ | refine ⟨pk1, ?_⟩ | refine ⟨pk2, ?_⟩ | refine ⟨pk3, ?_⟩ | refine ⟨pk4, ?_⟩ | refine ⟨pk5, ?_⟩ | refine ⟨pk6, ?_⟩ | refine ⟨trivial, ?_⟩ | refine ⟨fun _ => trivial, ?_⟩ | refine ⟨rfl, ?_⟩ | refine every_i (fun hd => ?_) | refine everyN_i (fun k hk => ?_) | refine everyD_i (fun d hd => ?_) | refine fork_t (by assumption) ?_ | refine fork_f (by assumption) ?_
          | refine fork_t rfl ?_
          | refine fork_f rfl ?_
          | with_reducible first | refine fork_i (fun h => ?_) (fun h => ?_) | refine both_i ?_ ?_
          | ((with_reducible refine alike_i ?_); exact ⟨rfl, rfl, rfl⟩)
          | ((with_reducible refine fin_i ?_); (conv => whnf); refine ⟨rfl, ?_⟩)
          | refine ⟨of_decide_eq_true rfl, ?_⟩
          | refine ⟨fun _ => of_decide_eq_true rfl, ?_⟩
          | ((with_reducible refine ⟨?_, ?_⟩); (focus (intros; simp_all; done)))
          | ((with_reducible refine ⟨?_, ?_⟩); (focus (intros; omega)))) <;> (try (conv => whnf)))
        · have hj' : j < a.length := lt_t' (by assumption)
          have hle := joinR_le (b := l) hj'
          have hvl : (lstM tI' ((getE tR a j).1, ()) m).2 = valsK (getE tR a j).1 l := hm _
          generalize hvs : lstM tI' ((getE tR a (j : Int).toNat).1, ()) m = lv
          obtain ⟨hv, vl⟩ := lv
          have hvl : vl = valsK (getE tR a j).1 l := by rw [← hvl, show (getE tR a j) = getE tR a (j : Int).toNat from rfl, hvs]
          dsimp only
          refine only [46, 45, 10, 38, 37, 36, 5, 1] ?_
          (conv => whnf)
          refine looped (σ := Nat × List Rec) (fun x => [(47, I x.1), (8, .ow 2 2 x.2.length)]) (fun x => [.cells (ndC false n), .mpo false false tI' (.own tI' 2) none none m, .row true tR 36 x.2, .cells (.cons (I (getE tR a j).1) (.cons (I (getE tR a j).2.1) .nil))]) (fun x => x.1 ≤ vl.length ∧ x.2 = o ++ (vl.take x.1).map fun v => ((getE tR a j).1, IntKind.i64.wrap ((getE tR a j).2.1 + v.1), ())) (fun x => vl.length - x.1) (0, o) ⟨Nat.zero_le _, by simp⟩ ?_ ?_
          · conv => whnf
            refine ⟨rfl, leaf_i ?_⟩
            repeat' ((with_reducible refine And.intro ?_ ?_) <;> (try (conv => whnf)))
            all_goals (try (first | with_reducible rfl | exact True.intro | rfl | exact id | exact fun h => h | exact fun _ => rfl))
            all_goals (first | rfl | trace_state)
          · rintro ⟨k, o2⟩ ⟨hk, ho2⟩
            dsimp only at hk ho2 ⊢
            have hlen2 : o2.length = o.length + k := by rw [ho2, List.length_append, List.length_map, List.length_take]; omega
            have hol : o.length + vl.length ≤ 1000000000 := by rw [hvl, ho]; omega
            have hx : lstM tI' ((getE tR a (j : Int).toNat).1, ()) m = (hv, vl) := hvs
            have hx1 : (lstM tI' ((getE tR a (j : Int).toNat).1, ()) m).1 = hv := by rw [hx]
            conv => whnf
            repeat' ((first
              | with_reducible first | refine ⟨fun h => h, ?_⟩ | refine ⟨pk1, ?_⟩ | refine ⟨pk2, ?_⟩ | refine ⟨pk3, ?_⟩ | refine ⟨pk4, ?_⟩ | refine ⟨pk5, ?_⟩ | refine ⟨pk6, ?_⟩ | refine ⟨trivial, ?_⟩ | refine ⟨fun _ => trivial, ?_⟩ | refine ⟨rfl, ?_⟩ | refine every_i (fun hd => ?_) | refine everyN_i (fun k hk => ?_) | refine everyD_i (fun d hd => ?_) | refine fork_t (by assumption) ?_ | refine fork_f (by assumption) ?_
              | refine fork_t rfl ?_
              | refine fork_f rfl ?_
              | with_reducible first | refine fork_i (fun h => ?_) (fun h => ?_) | refine both_i ?_ ?_
              | ((with_reducible refine alike_i ?_); exact ⟨rfl, rfl, rfl⟩)
              | ((with_reducible refine fin_i ?_); (conv => whnf); refine ⟨rfl, ?_⟩)
              | refine ⟨hx1, ?_⟩
              | refine ⟨of_decide_eq_true rfl, ?_⟩
              | refine ⟨fun _ => of_decide_eq_true rfl, ?_⟩
              | ((with_reducible refine ⟨?_, ?_⟩); (focus (intros; simp_all; done)))
              | ((with_reducible refine ⟨?_, ?_⟩); (focus (intros; omega)))) <;> (try (conv => whnf)))
            · have hk' : k < vl.length := lt_t' (by assumption)
              have hx2 : (lstM tI' ((getE tR a (j : Int).toNat).1, ()) m).2 = vl := by rw [hx]
              refine ⟨by rw [List.length_append, List.length_cons, List.length_nil]; omega, ?_⟩
              (conv => whnf)
              conv => whnf
              repeat' ((first
                | with_reducible first | refine ⟨fun h => h, ?_⟩ | refine ⟨pk1, ?_⟩ | refine ⟨pk2, ?_⟩ | refine ⟨pk3, ?_⟩ | refine ⟨pk4, ?_⟩ | refine ⟨pk5, ?_⟩ | refine ⟨pk6, ?_⟩ | refine ⟨trivial, ?_⟩ | refine ⟨fun _ => trivial, ?_⟩ | refine ⟨rfl, ?_⟩ | refine every_i (fun hd => ?_) | refine everyN_i (fun k hk => ?_) | refine everyD_i (fun d hd => ?_) | refine fork_t (by assumption) ?_ | refine fork_f (by assumption) ?_
                | refine fork_t rfl ?_
                | refine fork_f rfl ?_
                | with_reducible first | refine fork_i (fun h => ?_) (fun h => ?_) | refine both_i ?_ ?_
                | ((with_reducible refine alike_i ?_); exact ⟨rfl, rfl, rfl⟩)
                | ((with_reducible refine fin_i ?_); (conv => whnf); refine ⟨rfl, ?_⟩)
                | refine ⟨of_decide_eq_true rfl, ?_⟩
                | refine ⟨fun _ => of_decide_eq_true rfl, ?_⟩
                | ((with_reducible refine ⟨?_, ?_⟩); (focus (intros; simp_all; done)))
                | ((with_reducible refine ⟨?_, ?_⟩); (focus (intros; omega)))) <;> (try (conv => whnf)))
              refine next_i (k + 1, o2 ++ [((getE tR a j).1, IntKind.i64.wrap ((getE tR a j).2.1 + (getE tI' vl k).1), ())]) ⟨hk', by dsimp only; rw [take_get vl hk', List.map_append, ← List.append_assoc, ← ho2]; rfl⟩ (by dsimp only; omega) rfl rfl ?_
              conv => whnf
              refine ⟨rfl, leaf_i ?_⟩
              repeat' ((with_reducible refine And.intro ?_ ?_) <;> (try (conv => whnf)))
              all_goals (try (first | with_reducible rfl | exact True.intro | rfl | exact id | exact fun h => h | exact fun _ => rfl))
              all_goals (first | exact wrapS (by omega) | (rw [hx2]; rfl) | rfl | trace_state)
            · have hk' : vl.length ≤ k := lt_f' (by assumption)
              refine next_i (j + 1, o2) ⟨hj', by dsimp only; rw [joinR_take hj', ho2, List.take_of_length_le hk', ← ho, hvl]; rfl⟩ (by dsimp only; omega) rfl rfl ?_
              conv => whnf
              refine ⟨rfl, leaf_i ?_⟩
              repeat' ((with_reducible refine And.intro ?_ ?_) <;> (try (conv => whnf)))
              all_goals (try (first | with_reducible rfl | exact True.intro | rfl | exact id | exact fun h => h | exact fun _ => rfl))
              all_goals (first | exact wrapS (by omega) | rfl | trace_state)
        · have hj' : a.length ≤ j := lt_f' (by assumption)
          have e : o = joinR a l := by rw [ho, List.take_of_length_le hj']
          have e' : o = joinR (getE tRR ll 0).1 (getE tRR ll 1).1 := by rw [hl, ha]; exact e
          all_goals ((with_reducible refine leaf_i ?_); (conv => whnf))
          repeat' ((with_reducible refine And.intro ?_ ?_) <;> (try (conv => whnf)))
          all_goals (try (first | with_reducible rfl | exact True.intro | rfl | exact id | exact fun h => h | exact fun _ => rfl))
          all_goals (first | exact e | exact e' | (rw [e]; done) | (rw [← e]; done) | trace_state)
end Go.Proofs.Ytgmbmpojcnmcgaa

/- Layer 10: a node's numbers. -/
namespace Go.Proofs.Ytgmbmpojcnmcgaa
set_option maxRecDepth 100000
open Go Go.RowKit Go.Proofs.Ytgmbmpojcnmcgaa.Eng
def k_plain : Sig := .arg (shT tN) fun n => .done { pre := True, res := B (plB n) }
def k_num1 : Sig := .arg (shT tN) fun n => .done { pre := True, res := B (n1B n) }
def k_num2 : Sig := .arg (shT tN) fun n => .done { pre := True, res := B (n2B n) }
def k_num3 : Sig := .arg (shT tN) fun n => .done { pre := True, res := B (n3B n) }
def k_num4 : Sig := .arg (shT tN) fun n => .done { pre := True, res := B (n4B n) }
def k_numbers : Sig := .arg (shT tN) fun n => .done { pre := True, res := B (numB n) }
set_option maxHeartbeats 4000000 in
theorem c_plain : FnOk Try.prog 77 k_plain.con := by
  refine fnOkS mixed tys_ok (cs := []) trivial Try.func77 rfl (by kernel_rfl) Try.ntmps77 _ (h := ?_)
  rintro n
  refine ⟨rfl, fun _ => ?_⟩
  conv => whnf
  repeat' ((first
    | with_reducible first | refine ⟨fun h => h, ?_⟩ | refine ⟨pk1, ?_⟩ | refine ⟨pk2, ?_⟩ | refine ⟨pk3, ?_⟩ | refine ⟨pk4, ?_⟩ | refine ⟨pk5, ?_⟩ | refine ⟨pk6, ?_⟩ | refine ⟨trivial, ?_⟩ | refine ⟨fun _ => trivial, ?_⟩ | refine ⟨rfl, ?_⟩ | refine every_i (fun hd => ?_) | refine everyN_i (fun k hk => ?_) | refine everyD_i (fun d hd => ?_) | refine fork_t (by assumption) ?_ | refine fork_f (by assumption) ?_
    | refine fork_t rfl ?_
    | refine fork_f rfl ?_
    | with_reducible first | refine fork_i (fun h => ?_) (fun h => ?_) | refine both_i ?_ ?_
    | ((with_reducible refine alike_i ?_); exact ⟨rfl, rfl, rfl⟩)
    | ((with_reducible refine fin_i ?_); (conv => whnf); refine ⟨rfl, ?_⟩)
    | refine ⟨of_decide_eq_true rfl, ?_⟩
    | refine ⟨fun _ => of_decide_eq_true rfl, ?_⟩
    | ((with_reducible refine ⟨?_, ?_⟩); (focus (intros; simp_all; done)))
    | ((with_reducible refine ⟨?_, ?_⟩); (focus (intros; omega)))) <;> (try (conv => whnf)))
  all_goals ((with_reducible refine leaf_i ?_); (conv => whnf))
  repeat' ((with_reducible refine And.intro ?_ ?_) <;> (try (conv => whnf)))
  all_goals (try (first | with_reducible rfl | exact True.intro | rfl | exact id | exact fun h => h | exact fun _ => rfl))
set_option maxHeartbeats 4000000 in
theorem c_num1 : FnOk Try.prog 73 k_num1.con := by
  refine fnOkS mixed tys_ok (cs := []) trivial Try.func73 rfl (by kernel_rfl) Try.ntmps73 _ (h := ?_)
  rintro n
  refine ⟨rfl, fun _ => ?_⟩
  conv => whnf
  repeat' ((first
    | with_reducible first | refine ⟨fun h => h, ?_⟩ | refine ⟨pk1, ?_⟩ | refine ⟨pk2, ?_⟩ | refine ⟨pk3, ?_⟩ | refine ⟨pk4, ?_⟩ | refine ⟨pk5, ?_⟩ | refine ⟨pk6, ?_⟩ | refine ⟨trivial, ?_⟩ | refine ⟨fun _ => trivial, ?_⟩ | refine ⟨rfl, ?_⟩ | refine every_i (fun hd => ?_) | refine everyN_i (fun k hk => ?_) | refine everyD_i (fun d hd => ?_) | refine fork_t (by assumption) ?_ | refine fork_f (by assumption) ?_
    | refine fork_t rfl ?_
    | refine fork_f rfl ?_
    | with_reducible first | refine fork_i (fun h => ?_) (fun h => ?_) | refine both_i ?_ ?_
    | ((with_reducible refine alike_i ?_); exact ⟨rfl, rfl, rfl⟩)
    | ((with_reducible refine fin_i ?_); (conv => whnf); refine ⟨rfl, ?_⟩)
    | refine ⟨of_decide_eq_true rfl, ?_⟩
    | refine ⟨fun _ => of_decide_eq_true rfl, ?_⟩
    | ((with_reducible refine ⟨?_, ?_⟩); (focus (intros; simp_all; done)))
    | ((with_reducible refine ⟨?_, ?_⟩); (focus (intros; omega)))) <;> (try (conv => whnf)))
  all_goals ((with_reducible refine leaf_i ?_); (conv => whnf))
  repeat' ((with_reducible refine And.intro ?_ ?_) <;> (try (conv => whnf)))
  all_goals (try (first | with_reducible rfl | exact True.intro | rfl | exact id | exact fun h => h | exact fun _ => rfl))
set_option maxHeartbeats 4000000 in
theorem c_num2 : FnOk Try.prog 74 k_num2.con := by
  refine fnOkS mixed tys_ok (cs := []) trivial Try.func74 rfl (by kernel_rfl) Try.ntmps74 _ (h := ?_)
  rintro n
  refine ⟨rfl, fun _ => ?_⟩
  conv => whnf
  repeat' ((first
    | with_reducible first | refine ⟨fun h => h, ?_⟩ | refine ⟨pk1, ?_⟩ | refine ⟨pk2, ?_⟩ | refine ⟨pk3, ?_⟩ | refine ⟨pk4, ?_⟩ | refine ⟨pk5, ?_⟩ | refine ⟨pk6, ?_⟩ | refine ⟨trivial, ?_⟩ | refine ⟨fun _ => trivial, ?_⟩ | refine ⟨rfl, ?_⟩ | refine every_i (fun hd => ?_) | refine everyN_i (fun k hk => ?_) | refine everyD_i (fun d hd => ?_) | refine fork_t (by assumption) ?_ | refine fork_f (by assumption) ?_
    | refine fork_t rfl ?_
    | refine fork_f rfl ?_
    | with_reducible first | refine fork_i (fun h => ?_) (fun h => ?_) | refine both_i ?_ ?_
    | ((with_reducible refine alike_i ?_); exact ⟨rfl, rfl, rfl⟩)
    | ((with_reducible refine fin_i ?_); (conv => whnf); refine ⟨rfl, ?_⟩)
    | refine ⟨of_decide_eq_true rfl, ?_⟩
    | refine ⟨fun _ => of_decide_eq_true rfl, ?_⟩
    | ((with_reducible refine ⟨?_, ?_⟩); (focus (intros; simp_all; done)))
    | ((with_reducible refine ⟨?_, ?_⟩); (focus (intros; omega)))) <;> (try (conv => whnf)))
  all_goals ((with_reducible refine leaf_i ?_); (conv => whnf))
  repeat' ((with_reducible refine And.intro ?_ ?_) <;> (try (conv => whnf)))
  all_goals (try (first | with_reducible rfl | exact True.intro | rfl | exact id | exact fun h => h | exact fun _ => rfl))
set_option maxHeartbeats 4000000 in
theorem c_num3 : FnOk Try.prog 75 k_num3.con := by
  refine fnOkS mixed tys_ok (cs := []) trivial Try.func75 rfl (by kernel_rfl) Try.ntmps75 _ (h := ?_)
  rintro n
  refine ⟨rfl, fun _ => ?_⟩
  conv => whnf
  repeat' ((first
    | with_reducible first | refine ⟨fun h => h, ?_⟩ | refine ⟨pk1, ?_⟩ | refine ⟨pk2, ?_⟩ | refine ⟨pk3, ?_⟩ | refine ⟨pk4, ?_⟩ | refine ⟨pk5, ?_⟩ | refine ⟨pk6, ?_⟩ | refine ⟨trivial, ?_⟩ | refine ⟨fun _ => trivial, ?_⟩ | refine ⟨rfl, ?_⟩ | refine every_i (fun hd => ?_) | refine everyN_i (fun k hk => ?_) | refine everyD_i (fun d hd => ?_) | refine fork_t (by assumption) ?_ | refine fork_f (by assumption) ?_
    | refine fork_t rfl ?_
    | refine fork_f rfl ?_
    | with_reducible first | refine fork_i (fun h => ?_) (fun h => ?_) | refine both_i ?_ ?_
    | ((with_reducible refine alike_i ?_); exact ⟨rfl, rfl, rfl⟩)
    | ((with_reducible refine fin_i ?_); (conv => whnf); refine ⟨rfl, ?_⟩)
    | refine ⟨of_decide_eq_true rfl, ?_⟩
    | refine ⟨fun _ => of_decide_eq_true rfl, ?_⟩
    | ((with_reducible refine ⟨?_, ?_⟩); (focus (intros; simp_all; done)))
    | ((with_reducible refine ⟨?_, ?_⟩); (focus (intros; omega)))) <;> (try (conv => whnf)))
  all_goals ((with_reducible refine leaf_i ?_); (conv => whnf))
  repeat' ((with_reducible refine And.intro ?_ ?_) <;> (try (conv => whnf)))
  all_goals (try (first | with_reducible rfl | exact True.intro | rfl | exact id | exact fun h => h | exact fun _ => rfl))
set_option maxHeartbeats 4000000 in
theorem c_num4 : FnOk Try.prog 76 k_num4.con := by
  refine fnOkS mixed tys_ok (cs := []) trivial Try.func76 rfl (by kernel_rfl) Try.ntmps76 _ (h := ?_)
  rintro n
  refine ⟨rfl, fun _ => ?_⟩
  conv => whnf
  repeat' ((first
    | with_reducible first | refine ⟨fun h => h, ?_⟩ | refine ⟨pk1, ?_⟩ | refine ⟨pk2, ?_⟩ | refine ⟨pk3, ?_⟩ | refine ⟨pk4, ?_⟩ | refine ⟨pk5, ?_⟩ | refine ⟨pk6, ?_⟩ | refine ⟨trivial, ?_⟩ | refine ⟨fun _ => trivial, ?_⟩ | refine ⟨rfl, ?_⟩ | refine every_i (fun hd => ?_) | refine everyN_i (fun k hk => ?_) | refine everyD_i (fun d hd => ?_) | refine fork_t (by assumption) ?_ | refine fork_f (by assumption) ?_
    | refine fork_t rfl ?_
    | refine fork_f rfl ?_
    | with_reducible first | refine fork_i (fun h => ?_) (fun h => ?_) | refine both_i ?_ ?_
    | ((with_reducible refine alike_i ?_); exact ⟨rfl, rfl, rfl⟩)
    | ((with_reducible refine fin_i ?_); (conv => whnf); refine ⟨rfl, ?_⟩)
    | refine ⟨of_decide_eq_true rfl, ?_⟩
    | refine ⟨fun _ => of_decide_eq_true rfl, ?_⟩
    | ((with_reducible refine ⟨?_, ?_⟩); (focus (intros; simp_all; done)))
    | ((with_reducible refine ⟨?_, ?_⟩); (focus (intros; omega)))) <;> (try (conv => whnf)))
  all_goals ((with_reducible refine leaf_i ?_); (conv => whnf))
  repeat' ((with_reducible refine And.intro ?_ ?_) <;> (try (conv => whnf)))
  all_goals (try (first | with_reducible rfl | exact True.intro | rfl | exact id | exact fun h => h | exact fun _ => rfl))
set_option maxHeartbeats 4000000 in
theorem c_numbers : FnOk Try.prog 53 k_numbers.con := by
  refine fnOkS mixed tys_ok (cs := [(77, k_plain.con), (73, k_num1.con), (74, k_num2.con), (75, k_num3.con), (76, k_num4.con)]) ⟨c_plain, c_num1, c_num2, c_num3, c_num4, trivial⟩ Try.func53 rfl (by kernel_rfl) Try.ntmps53 _ (h := ?_)
  rintro ⟨k, n⟩
  refine ⟨rfl, fun _ => ?_⟩
  rcases kindCases k with h | h | h | h | h | h | h | h | h | h | h | ⟨m, h⟩ | ⟨m, h⟩ <;> subst h
  all_goals skip
  · conv => whnf
    repeat' ((first
      | with_reducible first | refine ⟨fun h => h, ?_⟩ | refine ⟨pk1, ?_⟩ | refine ⟨pk2, ?_⟩ | refine ⟨pk3, ?_⟩ | refine ⟨pk4, ?_⟩ | refine ⟨pk5, ?_⟩ | refine ⟨pk6, ?_⟩ | refine ⟨trivial, ?_⟩ | refine ⟨fun _ => trivial, ?_⟩ | refine ⟨rfl, ?_⟩ | refine every_i (fun hd => ?_) | refine everyN_i (fun k hk => ?_) | refine everyD_i (fun d hd => ?_) | refine fork_t (by assumption) ?_ | refine fork_f (by assumption) ?_
      | refine fork_t rfl ?_
      | refine fork_f rfl ?_
      | with_reducible first | refine fork_i (fun h => ?_) (fun h => ?_) | refine both_i ?_ ?_
      | ((with_reducible refine alike_i ?_); exact ⟨rfl, rfl, rfl⟩)
      | ((with_reducible refine fin_i ?_); (conv => whnf); refine ⟨rfl, ?_⟩)
      | refine ⟨of_decide_eq_true rfl, ?_⟩
      | refine ⟨fun _ => of_decide_eq_true rfl, ?_⟩
      | ((with_reducible refine ⟨?_, ?_⟩); (focus (intros; simp_all; done)))
      | ((with_reducible refine ⟨?_, ?_⟩); (focus (intros; omega)))) <;> (try (conv => whnf)))
    all_goals ((with_reducible refine leaf_i ?_); (conv => whnf))
    repeat' ((with_reducible refine And.intro ?_ ?_) <;> (try (conv => whnf)))
    all_goals (try (first | with_reducible rfl | exact True.intro | rfl | exact id | exact fun h => h | exact fun _ => rfl))
  · conv => whnf
    repeat' ((first
      | with_reducible first | refine ⟨fun h => h, ?_⟩ | refine ⟨pk1, ?_⟩ | refine ⟨pk2, ?_⟩ | refine ⟨pk3, ?_⟩ | refine ⟨pk4, ?_⟩ | refine ⟨pk5, ?_⟩ | refine ⟨pk6, ?_⟩ | refine ⟨trivial, ?_⟩ | refine ⟨fun _ => trivial, ?_⟩ | refine ⟨rfl, ?_⟩ | refine every_i (fun hd => ?_) | refine everyN_i (fun k hk => ?_) | refine everyD_i (fun d hd => ?_) | refine fork_t (by assumption) ?_ | refine fork_f (by assumption) ?_
      | refine fork_t rfl ?_
      | refine fork_f rfl ?_
      | with_reducible first | refine fork_i (fun h => ?_) (fun h => ?_) | refine both_i ?_ ?_
      | ((with_reducible refine alike_i ?_); exact ⟨rfl, rfl, rfl⟩)
      | ((with_reducible refine fin_i ?_); (conv => whnf); refine ⟨rfl, ?_⟩)
      | refine ⟨of_decide_eq_true rfl, ?_⟩
      | refine ⟨fun _ => of_decide_eq_true rfl, ?_⟩
      | ((with_reducible refine ⟨?_, ?_⟩); (focus (intros; simp_all; done)))
      | ((with_reducible refine ⟨?_, ?_⟩); (focus (intros; omega)))) <;> (try (conv => whnf)))
    all_goals ((with_reducible refine leaf_i ?_); (conv => whnf))
    repeat' ((with_reducible refine And.intro ?_ ?_) <;> (try (conv => whnf)))
    all_goals (try (first | with_reducible rfl | exact True.intro | rfl | exact id | exact fun h => h | exact fun _ => rfl))
  · conv => whnf
    repeat' ((first
      | with_reducible first | refine ⟨fun h => h, ?_⟩ | refine ⟨pk1, ?_⟩ | refine ⟨pk2, ?_⟩ | refine ⟨pk3, ?_⟩ | refine ⟨pk4, ?_⟩ | refine ⟨pk5, ?_⟩ | refine ⟨pk6, ?_⟩ | refine ⟨trivial, ?_⟩ | refine ⟨fun _ => trivial, ?_⟩ | refine ⟨rfl, ?_⟩ | refine every_i (fun hd => ?_) | refine everyN_i (fun k hk => ?_) | refine everyD_i (fun d hd => ?_) | refine fork_t (by assumption) ?_ | refine fork_f (by assumption) ?_
      | refine fork_t rfl ?_
      | refine fork_f rfl ?_
      | with_reducible first | refine fork_i (fun h => ?_) (fun h => ?_) | refine both_i ?_ ?_
      | ((with_reducible refine alike_i ?_); exact ⟨rfl, rfl, rfl⟩)
      | ((with_reducible refine fin_i ?_); (conv => whnf); refine ⟨rfl, ?_⟩)
      | refine ⟨of_decide_eq_true rfl, ?_⟩
      | refine ⟨fun _ => of_decide_eq_true rfl, ?_⟩
      | ((with_reducible refine ⟨?_, ?_⟩); (focus (intros; simp_all; done)))
      | ((with_reducible refine ⟨?_, ?_⟩); (focus (intros; omega)))) <;> (try (conv => whnf)))
    all_goals ((with_reducible refine leaf_i ?_); (conv => whnf))
    repeat' ((with_reducible refine And.intro ?_ ?_) <;> (try (conv => whnf)))
    all_goals (try (first | with_reducible rfl | exact True.intro | rfl | exact id | exact fun h => h | exact fun _ => rfl))
  · conv => whnf
    repeat' ((first
      | with_reducible first | refine ⟨fun h => h, ?_⟩ | refine ⟨pk1, ?_⟩ | refine ⟨pk2, ?_⟩ | refine ⟨pk3, ?_⟩ | refine ⟨pk4, ?_⟩ | refine ⟨pk5, ?_⟩ | refine ⟨pk6, ?_⟩ | refine ⟨trivial, ?_⟩ | refine ⟨fun _ => trivial, ?_⟩ | refine ⟨rfl, ?_⟩ | refine every_i (fun hd => ?_) | refine everyN_i (fun k hk => ?_) | refine everyD_i (fun d hd => ?_) | refine fork_t (by assumption) ?_ | refine fork_f (by assumption) ?_
      | refine fork_t rfl ?_
      | refine fork_f rfl ?_
      | with_reducible first | refine fork_i (fun h => ?_) (fun h => ?_) | refine both_i ?_ ?_
      | ((with_reducible refine alike_i ?_); exact ⟨rfl, rfl, rfl⟩)
      | ((with_reducible refine fin_i ?_); (conv => whnf); refine ⟨rfl, ?_⟩)
      | refine ⟨of_decide_eq_true rfl, ?_⟩
      | refine ⟨fun _ => of_decide_eq_true rfl, ?_⟩
      | ((with_reducible refine ⟨?_, ?_⟩); (focus (intros; simp_all; done)))
      | ((with_reducible refine ⟨?_, ?_⟩); (focus (intros; omega)))) <;> (try (conv => whnf)))
    all_goals ((with_reducible refine leaf_i ?_); (conv => whnf))
    repeat' ((with_reducible refine And.intro ?_ ?_) <;> (try (conv => whnf)))
    all_goals (try (first | with_reducible rfl | exact True.intro | rfl | exact id | exact fun h => h | exact fun _ => rfl))
  · conv => whnf
    repeat' ((first
      | with_reducible first | refine ⟨fun h => h, ?_⟩ | refine ⟨pk1, ?_⟩ | refine ⟨pk2, ?_⟩ | refine ⟨pk3, ?_⟩ | refine ⟨pk4, ?_⟩ | refine ⟨pk5, ?_⟩ | refine ⟨pk6, ?_⟩ | refine ⟨trivial, ?_⟩ | refine ⟨fun _ => trivial, ?_⟩ | refine ⟨rfl, ?_⟩ | refine every_i (fun hd => ?_) | refine everyN_i (fun k hk => ?_) | refine everyD_i (fun d hd => ?_) | refine fork_t (by assumption) ?_ | refine fork_f (by assumption) ?_
      | refine fork_t rfl ?_
      | refine fork_f rfl ?_
      | with_reducible first | refine fork_i (fun h => ?_) (fun h => ?_) | refine both_i ?_ ?_
      | ((with_reducible refine alike_i ?_); exact ⟨rfl, rfl, rfl⟩)
      | ((with_reducible refine fin_i ?_); (conv => whnf); refine ⟨rfl, ?_⟩)
      | refine ⟨of_decide_eq_true rfl, ?_⟩
      | refine ⟨fun _ => of_decide_eq_true rfl, ?_⟩
      | ((with_reducible refine ⟨?_, ?_⟩); (focus (intros; simp_all; done)))
      | ((with_reducible refine ⟨?_, ?_⟩); (focus (intros; omega)))) <;> (try (conv => whnf)))
    all_goals ((with_reducible refine leaf_i ?_); (conv => whnf))
    repeat' ((with_reducible refine And.intro ?_ ?_) <;> (try (conv => whnf)))
    all_goals (try (first | with_reducible rfl | exact True.intro | rfl | exact id | exact fun h => h | exact fun _ => rfl))
  · conv => whnf
    repeat' ((first
      | with_reducible first | refine ⟨fun h => h, ?_⟩ | refine ⟨pk1, ?_⟩ | refine ⟨pk2, ?_⟩ | refine ⟨pk3, ?_⟩ | refine ⟨pk4, ?_⟩ | refine ⟨pk5, ?_⟩ | refine ⟨pk6, ?_⟩ | refine ⟨trivial, ?_⟩ | refine ⟨fun _ => trivial, ?_⟩ | refine ⟨rfl, ?_⟩ | refine every_i (fun hd => ?_) | refine everyN_i (fun k hk => ?_) | refine everyD_i (fun d hd => ?_) | refine fork_t (by assumption) ?_ | refine fork_f (by assumption) ?_
      | refine fork_t rfl ?_
      | refine fork_f rfl ?_
      | with_reducible first | refine fork_i (fun h => ?_) (fun h => ?_) | refine both_i ?_ ?_
      | ((with_reducible refine alike_i ?_); exact ⟨rfl, rfl, rfl⟩)
      | ((with_reducible refine fin_i ?_); (conv => whnf); refine ⟨rfl, ?_⟩)
      | refine ⟨of_decide_eq_true rfl, ?_⟩
      | refine ⟨fun _ => of_decide_eq_true rfl, ?_⟩
      | ((with_reducible refine ⟨?_, ?_⟩); (focus (intros; simp_all; done)))
      | ((with_reducible refine ⟨?_, ?_⟩); (focus (intros; omega)))) <;> (try (conv => whnf)))
    all_goals ((with_reducible refine leaf_i ?_); (conv => whnf))
    repeat' ((with_reducible refine And.intro ?_ ?_) <;> (try (conv => whnf)))
    all_goals (try (first | with_reducible rfl | exact True.intro | rfl | exact id | exact fun h => h | exact fun _ => rfl))
  · conv => whnf
    repeat' ((first
      | with_reducible first | refine ⟨fun h => h, ?_⟩ | refine ⟨pk1, ?_⟩ | refine ⟨pk2, ?_⟩ | refine ⟨pk3, ?_⟩ | refine ⟨pk4, ?_⟩ | refine ⟨pk5, ?_⟩ | refine ⟨pk6, ?_⟩ | refine ⟨trivial, ?_⟩ | refine ⟨fun _ => trivial, ?_⟩ | refine ⟨rfl, ?_⟩ | refine every_i (fun hd => ?_) | refine everyN_i (fun k hk => ?_) | refine everyD_i (fun d hd => ?_) | refine fork_t (by assumption) ?_ | refine fork_f (by assumption) ?_
      | refine fork_t rfl ?_
      | refine fork_f rfl ?_
      | with_reducible first | refine fork_i (fun h => ?_) (fun h => ?_) | refine both_i ?_ ?_
      | ((with_reducible refine alike_i ?_); exact ⟨rfl, rfl, rfl⟩)
      | ((with_reducible refine fin_i ?_); (conv => whnf); refine ⟨rfl, ?_⟩)
      | refine ⟨of_decide_eq_true rfl, ?_⟩
      | refine ⟨fun _ => of_decide_eq_true rfl, ?_⟩
      | ((with_reducible refine ⟨?_, ?_⟩); (focus (intros; simp_all; done)))
      | ((with_reducible refine ⟨?_, ?_⟩); (focus (intros; omega)))) <;> (try (conv => whnf)))
    all_goals ((with_reducible refine leaf_i ?_); (conv => whnf))
    repeat' ((with_reducible refine And.intro ?_ ?_) <;> (try (conv => whnf)))
    all_goals (try (first | with_reducible rfl | exact True.intro | rfl | exact id | exact fun h => h | exact fun _ => rfl))
  · conv => whnf
    repeat' ((first
      | with_reducible first | refine ⟨fun h => h, ?_⟩ | refine ⟨pk1, ?_⟩ | refine ⟨pk2, ?_⟩ | refine ⟨pk3, ?_⟩ | refine ⟨pk4, ?_⟩ | refine ⟨pk5, ?_⟩ | refine ⟨pk6, ?_⟩ | refine ⟨trivial, ?_⟩ | refine ⟨fun _ => trivial, ?_⟩ | refine ⟨rfl, ?_⟩ | refine every_i (fun hd => ?_) | refine everyN_i (fun k hk => ?_) | refine everyD_i (fun d hd => ?_) | refine fork_t (by assumption) ?_ | refine fork_f (by assumption) ?_
      | refine fork_t rfl ?_
      | refine fork_f rfl ?_
      | with_reducible first | refine fork_i (fun h => ?_) (fun h => ?_) | refine both_i ?_ ?_
      | ((with_reducible refine alike_i ?_); exact ⟨rfl, rfl, rfl⟩)
      | ((with_reducible refine fin_i ?_); (conv => whnf); refine ⟨rfl, ?_⟩)
      | refine ⟨of_decide_eq_true rfl, ?_⟩
      | refine ⟨fun _ => of_decide_eq_true rfl, ?_⟩
      | ((with_reducible refine ⟨?_, ?_⟩); (focus (intros; simp_all; done)))
      | ((with_reducible refine ⟨?_, ?_⟩); (focus (intros; omega)))) <;> (try (conv => whnf)))
    all_goals ((with_reducible refine leaf_i ?_); (conv => whnf))
    repeat' ((with_reducible refine And.intro ?_ ?_) <;> (try (conv => whnf)))
    all_goals (try (first | with_reducible rfl | exact True.intro | rfl | exact id | exact fun h => h | exact fun _ => rfl))
  · conv => whnf
    repeat' ((first
      | with_reducible first | refine ⟨fun h => h, ?_⟩ | refine ⟨pk1, ?_⟩ | refine ⟨pk2, ?_⟩ | refine ⟨pk3, ?_⟩ | refine ⟨pk4, ?_⟩ | refine ⟨pk5, ?_⟩ | refine ⟨pk6, ?_⟩ | refine ⟨trivial, ?_⟩ | refine ⟨fun _ => trivial, ?_⟩ | refine ⟨rfl, ?_⟩ | refine every_i (fun hd => ?_) | refine everyN_i (fun k hk => ?_) | refine everyD_i (fun d hd => ?_) | refine fork_t (by assumption) ?_ | refine fork_f (by assumption) ?_
      | refine fork_t rfl ?_
      | refine fork_f rfl ?_
      | with_reducible first | refine fork_i (fun h => ?_) (fun h => ?_) | refine both_i ?_ ?_
      | ((with_reducible refine alike_i ?_); exact ⟨rfl, rfl, rfl⟩)
      | ((with_reducible refine fin_i ?_); (conv => whnf); refine ⟨rfl, ?_⟩)
      | refine ⟨of_decide_eq_true rfl, ?_⟩
      | refine ⟨fun _ => of_decide_eq_true rfl, ?_⟩
      | ((with_reducible refine ⟨?_, ?_⟩); (focus (intros; simp_all; done)))
      | ((with_reducible refine ⟨?_, ?_⟩); (focus (intros; omega)))) <;> (try (conv => whnf)))
    all_goals ((with_reducible refine leaf_i ?_); (conv => whnf))
    repeat' ((with_reducible refine And.intro ?_ ?_) <;> (try (conv => whnf)))
    all_goals (try (first | with_reducible rfl | exact True.intro | rfl | exact id | exact fun h => h | exact fun _ => rfl))
  · conv => whnf
    repeat' ((first
      | with_reducible first | refine ⟨fun h => h, ?_⟩ | refine ⟨pk1, ?_⟩ | refine ⟨pk2, ?_⟩ | refine ⟨pk3, ?_⟩ | refine ⟨pk4, ?_⟩ | refine ⟨pk5, ?_⟩ | refine ⟨pk6, ?_⟩ | refine ⟨trivial, ?_⟩ | refine ⟨fun _ => trivial, ?_⟩ | refine ⟨rfl, ?_⟩ | refine every_i (fun hd => ?_) | refine everyN_i (fun k hk => ?_) | refine everyD_i (fun d hd => ?_) | refine fork_t (by assumption) ?_ | refine fork_f (by assumption) ?_
      | refine fork_t rfl ?_
      | refine fork_f rfl ?_
      | with_reducible first | refine fork_i (fun h => ?_) (fun h => ?_) | refine both_i ?_ ?_
      | ((with_reducible refine alike_i ?_); exact ⟨rfl, rfl, rfl⟩)
      | ((with_reducible refine fin_i ?_); (conv => whnf); refine ⟨rfl, ?_⟩)
      | refine ⟨of_decide_eq_true rfl, ?_⟩
      | refine ⟨fun _ => of_decide_eq_true rfl, ?_⟩
      | ((with_reducible refine ⟨?_, ?_⟩); (focus (intros; simp_all; done)))
      | ((with_reducible refine ⟨?_, ?_⟩); (focus (intros; omega)))) <;> (try (conv => whnf)))
    all_goals ((with_reducible refine leaf_i ?_); (conv => whnf))
    repeat' ((with_reducible refine And.intro ?_ ?_) <;> (try (conv => whnf)))
    all_goals (try (first | with_reducible rfl | exact True.intro | rfl | exact id | exact fun h => h | exact fun _ => rfl))
  · conv => whnf
    repeat' ((first
      | with_reducible first | refine ⟨fun h => h, ?_⟩ | refine ⟨pk1, ?_⟩ | refine ⟨pk2, ?_⟩ | refine ⟨pk3, ?_⟩ | refine ⟨pk4, ?_⟩ | refine ⟨pk5, ?_⟩ | refine ⟨pk6, ?_⟩ | refine ⟨trivial, ?_⟩ | refine ⟨fun _ => trivial, ?_⟩ | refine ⟨rfl, ?_⟩ | refine every_i (fun hd => ?_) | refine everyN_i (fun k hk => ?_) | refine everyD_i (fun d hd => ?_) | refine fork_t (by assumption) ?_ | refine fork_f (by assumption) ?_
      | refine fork_t rfl ?_
      | refine fork_f rfl ?_
      | with_reducible first | refine fork_i (fun h => ?_) (fun h => ?_) | refine both_i ?_ ?_
      | ((with_reducible refine alike_i ?_); exact ⟨rfl, rfl, rfl⟩)
      | ((with_reducible refine fin_i ?_); (conv => whnf); refine ⟨rfl, ?_⟩)
      | refine ⟨of_decide_eq_true rfl, ?_⟩
      | refine ⟨fun _ => of_decide_eq_true rfl, ?_⟩
      | ((with_reducible refine ⟨?_, ?_⟩); (focus (intros; simp_all; done)))
      | ((with_reducible refine ⟨?_, ?_⟩); (focus (intros; omega)))) <;> (try (conv => whnf)))
    all_goals ((with_reducible refine leaf_i ?_); (conv => whnf))
    repeat' ((with_reducible refine And.intro ?_ ?_) <;> (try (conv => whnf)))
    all_goals (try (first | with_reducible rfl | exact True.intro | rfl | exact id | exact fun h => h | exact fun _ => rfl))
  · conv => whnf
    repeat' ((first
      | with_reducible first | refine ⟨fun h => h, ?_⟩ | refine ⟨pk1, ?_⟩ | refine ⟨pk2, ?_⟩ | refine ⟨pk3, ?_⟩ | refine ⟨pk4, ?_⟩ | refine ⟨pk5, ?_⟩ | refine ⟨pk6, ?_⟩ | refine ⟨trivial, ?_⟩ | refine ⟨fun _ => trivial, ?_⟩ | refine ⟨rfl, ?_⟩ | refine every_i (fun hd => ?_) | refine everyN_i (fun k hk => ?_) | refine everyD_i (fun d hd => ?_) | refine fork_t (by assumption) ?_ | refine fork_f (by assumption) ?_
      | refine fork_t rfl ?_
      | refine fork_f rfl ?_
      | with_reducible first | refine fork_i (fun h => ?_) (fun h => ?_) | refine both_i ?_ ?_
      | ((with_reducible refine alike_i ?_); exact ⟨rfl, rfl, rfl⟩)
      | ((with_reducible refine fin_i ?_); (conv => whnf); refine ⟨rfl, ?_⟩)
      | refine ⟨of_decide_eq_true rfl, ?_⟩
      | refine ⟨fun _ => of_decide_eq_true rfl, ?_⟩
      | ((with_reducible refine ⟨?_, ?_⟩); (focus (intros; simp_all; done)))
      | ((with_reducible refine ⟨?_, ?_⟩); (focus (intros; omega)))) <;> (try (conv => whnf)))
    all_goals ((with_reducible refine leaf_i ?_); (conv => whnf))
    repeat' ((with_reducible refine And.intro ?_ ?_) <;> (try (conv => whnf)))
    all_goals (try (first | with_reducible rfl | exact True.intro | rfl | exact id | exact fun h => h | exact fun _ => rfl))
  · conv => whnf
    repeat' ((first
      | with_reducible first | refine ⟨fun h => h, ?_⟩ | refine ⟨pk1, ?_⟩ | refine ⟨pk2, ?_⟩ | refine ⟨pk3, ?_⟩ | refine ⟨pk4, ?_⟩ | refine ⟨pk5, ?_⟩ | refine ⟨pk6, ?_⟩ | refine ⟨trivial, ?_⟩ | refine ⟨fun _ => trivial, ?_⟩ | refine ⟨rfl, ?_⟩ | refine every_i (fun hd => ?_) | refine everyN_i (fun k hk => ?_) | refine everyD_i (fun d hd => ?_) | refine fork_t (by assumption) ?_ | refine fork_f (by assumption) ?_
      | refine fork_t rfl ?_
      | refine fork_f rfl ?_
      | with_reducible first | refine fork_i (fun h => ?_) (fun h => ?_) | refine both_i ?_ ?_
      | ((with_reducible refine alike_i ?_); exact ⟨rfl, rfl, rfl⟩)
      | ((with_reducible refine fin_i ?_); (conv => whnf); refine ⟨rfl, ?_⟩)
      | refine ⟨of_decide_eq_true rfl, ?_⟩
      | refine ⟨fun _ => of_decide_eq_true rfl, ?_⟩
      | ((with_reducible refine ⟨?_, ?_⟩); (focus (intros; simp_all; done)))
      | ((with_reducible refine ⟨?_, ?_⟩); (focus (intros; omega)))) <;> (try (conv => whnf)))
    all_goals ((with_reducible refine leaf_i ?_); (conv => whnf))
    repeat' ((with_reducible refine And.intro ?_ ?_) <;> (try (conv => whnf)))
    all_goals (try (first | with_reducible rfl | exact True.intro | rfl | exact id | exact fun h => h | exact fun _ => rfl))
end Go.Proofs.Ytgmbmpojcnmcgaa

/- Layer 10: a node's inputs and depth; Node. -/
namespace Go.Proofs.Ytgmbmpojcnmcgaa
set_option maxRecDepth 100000
open Go Go.RowKit Go.Proofs.Ytgmbmpojcnmcgaa.Eng
def k_arity : Sig := .arg (shK .u8) fun k => .done { pre := True, res := I (arK k) }
set_option maxHeartbeats 4000000 in
theorem c_arity : FnOk Try.prog 79 k_arity.con := by
  refine fnOkS mixed tys_ok (cs := []) trivial Try.func79 rfl (by kernel_rfl) Try.ntmps79 _ (h := ?_)
  intro k
  refine ⟨rfl, fun _ => ?_⟩
  conv => whnf
  repeat' ((first
    | with_reducible first | refine ⟨fun h => h, ?_⟩ | refine ⟨pk1, ?_⟩ | refine ⟨pk2, ?_⟩ | refine ⟨pk3, ?_⟩ | refine ⟨pk4, ?_⟩ | refine ⟨pk5, ?_⟩ | refine ⟨pk6, ?_⟩ | refine ⟨trivial, ?_⟩ | refine ⟨fun _ => trivial, ?_⟩ | refine ⟨rfl, ?_⟩ | refine every_i (fun hd => ?_) | refine everyN_i (fun k hk => ?_) | refine everyD_i (fun d hd => ?_) | refine fork_t (by assumption) ?_ | refine fork_f (by assumption) ?_
    | refine fork_t rfl ?_
    | refine fork_f rfl ?_
    | with_reducible first | refine fork_i (fun h => ?_) (fun h => ?_) | refine both_i ?_ ?_
    | ((with_reducible refine alike_i ?_); exact ⟨rfl, rfl, rfl⟩)
    | ((with_reducible refine fin_i ?_); (conv => whnf); refine ⟨rfl, ?_⟩)
    | refine ⟨of_decide_eq_true rfl, ?_⟩
    | refine ⟨fun _ => of_decide_eq_true rfl, ?_⟩
    | ((with_reducible refine ⟨?_, ?_⟩); (focus (intros; simp_all; done)))
    | ((with_reducible refine ⟨?_, ?_⟩); (focus (intros; omega)))) <;> (try (conv => whnf)))
  all_goals ((with_reducible refine leaf_i ?_); (conv => whnf))
  repeat' ((with_reducible refine And.intro ?_ ?_) <;> (try (conv => whnf)))
  all_goals (try (first | with_reducible rfl | exact True.intro | rfl | exact id | exact fun h => h | exact fun _ => rfl))
  all_goals (first | rfl | (congr 2; simp_all [arK]; done) | trace_state)
def k_ports : Sig := .arg (shR tN) fun g => .arg (shT tN) fun n => .done { pre := (Nd.ins n).length < 4611686018427387904, res := B (portsB g n) }
set_option maxHeartbeats 4000000 in
theorem c_ports : FnOk Try.prog 54 k_ports.con := by
  refine fnOkS mixed tys_ok (cs := [(79, k_arity.con), (80, k_hports1.con)]) ⟨c_arity, c_hports1, trivial⟩ Try.func54 rfl (by kernel_rfl) Try.ntmps54 _ (h := ?_)
  intro g n
  refine ⟨rfl, fun hp => ?_⟩
  have hp : (Nd.ins n).length < 4611686018427387904 := hp
  conv => whnf
  repeat' ((first
    | with_reducible first | refine ⟨fun h => h, ?_⟩ | refine ⟨pk1, ?_⟩ | refine ⟨pk2, ?_⟩ | refine ⟨pk3, ?_⟩ | refine ⟨pk4, ?_⟩ | refine ⟨pk5, ?_⟩ | refine ⟨pk6, ?_⟩ | refine ⟨trivial, ?_⟩ | refine ⟨fun _ => trivial, ?_⟩ | refine ⟨rfl, ?_⟩ | refine every_i (fun hd => ?_) | refine everyN_i (fun k hk => ?_) | refine everyD_i (fun d hd => ?_) | refine fork_t (by assumption) ?_ | refine fork_f (by assumption) ?_
    | refine fork_t rfl ?_
    | refine fork_f rfl ?_
    | with_reducible first | refine fork_i (fun h => ?_) (fun h => ?_) | refine both_i ?_ ?_
    | ((with_reducible refine alike_i ?_); exact ⟨rfl, rfl, rfl⟩)
    | ((with_reducible refine fin_i ?_); (conv => whnf); refine ⟨rfl, ?_⟩)
    | refine ⟨fun _ => ⟨hp, fun _ _ => trivial⟩, ?_⟩
    | refine ⟨of_decide_eq_true rfl, ?_⟩
    | refine ⟨fun _ => of_decide_eq_true rfl, ?_⟩
    | ((with_reducible refine ⟨?_, ?_⟩); (focus (intros; simp_all; done)))
    | ((with_reducible refine ⟨?_, ?_⟩); (focus (intros; omega)))) <;> (try (conv => whnf)))
  all_goals ((with_reducible refine leaf_i ?_); (conv => whnf))
  repeat' ((with_reducible refine And.intro ?_ ?_) <;> (try (conv => whnf)))
  all_goals (try (first | with_reducible rfl | exact True.intro | rfl | exact id | exact fun h => h | exact fun _ => rfl))
  all_goals (first | rfl | trace_state)
theorem depthB_go {g : List Nd} {n : Nd} (h1 : ¬ (n.kind = 9 ∧ n.dep < 1)) (h2 : ¬ ((n.kind = 1 ∨ n.kind = 10) ∧ n.dep ≠ 0)) {f : Int} (hf : fedK n.kind n.dep = f) :
    depthB g n = bif (bif decide (n.dep ≥ 0) then decide (n.dep ≤ 3) else false) then !hasP (otherB g f) n.ins else false := by
  unfold depthB; rw [if_neg h1, if_neg h2, hf]
def k_depth : Sig := .arg (shR tN) fun g => .arg (shT tN) fun n => .done { pre := (Nd.ins n).length < 4611686018427387904 ∧ ∀ x ∈ Nd.ins n, 0 ≤ x.1 ∧ x.1 < (g.length : Int), res := B (depthB g n) }
set_option maxHeartbeats 4000000 in
theorem c_depth : FnOk Try.prog 55 k_depth.con := by
  refine fnOkS mixed tys_ok (cs := [(80, k_hdepth1.con)]) ⟨c_hdepth1, trivial⟩ Try.func55 rfl (by kernel_rfl) Try.ntmps55 _ (h := ?_)
  intro g n
  refine ⟨rfl, fun hp => ?_⟩
  conv => whnf
  repeat' ((first
    | with_reducible first | refine ⟨fun h => h, ?_⟩ | refine ⟨pk1, ?_⟩ | refine ⟨pk2, ?_⟩ | refine ⟨pk3, ?_⟩ | refine ⟨pk4, ?_⟩ | refine ⟨pk5, ?_⟩ | refine ⟨pk6, ?_⟩ | refine ⟨trivial, ?_⟩ | refine ⟨fun _ => trivial, ?_⟩ | refine ⟨rfl, ?_⟩ | refine every_i (fun hd => ?_) | refine everyN_i (fun k hk => ?_) | refine everyD_i (fun d hd => ?_) | refine fork_t (by assumption) ?_ | refine fork_f (by assumption) ?_
    | refine fork_t rfl ?_
    | refine fork_f rfl ?_
    | with_reducible first | refine fork_i (fun h => ?_) (fun h => ?_) | refine both_i ?_ ?_
    | ((with_reducible refine alike_i ?_); exact ⟨rfl, rfl, rfl⟩)
    | ((with_reducible refine fin_i ?_); (conv => whnf); refine ⟨rfl, ?_⟩)
    | refine ⟨fun _ => hp, ?_⟩
    | refine ⟨of_decide_eq_true rfl, ?_⟩
    | refine ⟨fun _ => of_decide_eq_true rfl, ?_⟩
    | ((with_reducible refine ⟨?_, ?_⟩); (focus (intros; simp_all; done)))
    | ((with_reducible refine ⟨?_, ?_⟩); (focus (intros; omega)))) <;> (try (conv => whnf)))
  all_goals ((with_reducible refine leaf_i ?_); (conv => whnf))
  repeat' ((with_reducible refine And.intro ?_ ?_) <;> (try (conv => whnf)))
  all_goals (try (first | with_reducible rfl | exact True.intro | rfl | exact id | exact fun h => h | exact fun _ => rfl))
  all_goals (first | (refine (depthB_go ?_ ?_ ?_).symm <;> first | (simp_all [Nd.kind, Nd.dep, fedK]; done) | (simp_all [Nd.kind, Nd.dep, fedK]; omega)) | (symm; simp only [beq_iff_eq, bne_iff_ne, decide_eq_true_eq, beq_eq_false_iff_ne] at *; unfold depthB Nd.kind Nd.dep; (first | rw [if_pos ⟨by assumption, by assumption⟩] | rw [if_neg (fun hh => by omega), if_pos ⟨by omega, by assumption⟩])) | skip)
end Go.Proofs.Ytgmbmpojcnmcgaa

/- Layer 10: Node; all places. -/
namespace Go.Proofs.Ytgmbmpojcnmcgaa
set_option maxRecDepth 100000
open Go Go.RowKit Go.Proofs.Ytgmbmpojcnmcgaa.Eng
def k_node : Sig := .arg (shR tN) fun g => .arg shI fun i => .done { pre := g.length < 4611686018427387904 ∧ ∀ x : Nd, x ∈ g → (Nd.ins x).length < 4611686018427387904, res := I (nodeE g i) }
set_option maxHeartbeats 4000000 in
theorem c_node : FnOk Try.prog 29 k_node.con := by
  refine fnOkS mixed tys_ok (cs := [(53, k_numbers.con), (54, k_ports.con), (55, k_depth.con)]) ⟨c_numbers, c_ports, c_depth, trivial⟩ Try.func29 rfl (by kernel_rfl) Try.ntmps29 _ (h := ?_)
  intro g i
  refine ⟨rfl, fun hp => ?_⟩
  obtain ⟨hp1, hp2⟩ := hp
  by_cases h1 : i < 0
  · have e1 : decide (i < 0) = true := by simp [h1]
    conv => whnf
    repeat' ((first
      | with_reducible first | refine ⟨fun h => h, ?_⟩ | refine ⟨pk1, ?_⟩ | refine ⟨pk2, ?_⟩ | refine ⟨pk3, ?_⟩ | refine ⟨pk4, ?_⟩ | refine ⟨pk5, ?_⟩ | refine ⟨pk6, ?_⟩ | refine ⟨trivial, ?_⟩ | refine ⟨fun _ => trivial, ?_⟩ | refine ⟨rfl, ?_⟩ | refine every_i (fun hd => ?_) | refine everyN_i (fun k hk => ?_) | refine everyD_i (fun d hd => ?_) | refine fork_t (by assumption) ?_ | refine fork_f (by assumption) ?_
      | refine fork_t rfl ?_
      | refine fork_f rfl ?_
      | with_reducible first | refine fork_i (fun h => ?_) (fun h => ?_) | refine both_i ?_ ?_
      | ((with_reducible refine alike_i ?_); exact ⟨rfl, rfl, rfl⟩)
      | ((with_reducible refine fin_i ?_); (conv => whnf); refine ⟨rfl, ?_⟩)
      | refine ⟨of_decide_eq_true rfl, ?_⟩
      | refine ⟨fun _ => of_decide_eq_true rfl, ?_⟩
      | ((with_reducible refine ⟨?_, ?_⟩); (focus (intros; simp_all; done)))
      | ((with_reducible refine ⟨?_, ?_⟩); (focus (intros; omega)))) <;> (try (conv => whnf)))
    all_goals ((with_reducible refine leaf_i ?_); (conv => whnf))
    repeat' ((with_reducible refine And.intro ?_ ?_) <;> (try (conv => whnf)))
    all_goals (try (first | with_reducible rfl | exact True.intro | rfl | exact id | exact fun h => h | exact fun _ => rfl))
    all_goals (first | rfl | (simp_all [nodeE]; done) | trace_state)
  · by_cases h2 : i ≥ (g.length : Int)
    · conv => whnf
      repeat' ((first
        | with_reducible first | refine ⟨fun h => h, ?_⟩ | refine ⟨pk1, ?_⟩ | refine ⟨pk2, ?_⟩ | refine ⟨pk3, ?_⟩ | refine ⟨pk4, ?_⟩ | refine ⟨pk5, ?_⟩ | refine ⟨pk6, ?_⟩ | refine ⟨trivial, ?_⟩ | refine ⟨fun _ => trivial, ?_⟩ | refine ⟨rfl, ?_⟩ | refine every_i (fun hd => ?_) | refine everyN_i (fun k hk => ?_) | refine everyD_i (fun d hd => ?_) | refine fork_t (by assumption) ?_ | refine fork_f (by assumption) ?_
        | refine fork_t rfl ?_
        | refine fork_f rfl ?_
        | with_reducible first | refine fork_i (fun h => ?_) (fun h => ?_) | refine both_i ?_ ?_
        | ((with_reducible refine alike_i ?_); exact ⟨rfl, rfl, rfl⟩)
        | ((with_reducible refine fin_i ?_); (conv => whnf); refine ⟨rfl, ?_⟩)
        | refine ⟨of_decide_eq_true rfl, ?_⟩
        | refine ⟨fun _ => of_decide_eq_true rfl, ?_⟩
        | ((with_reducible refine ⟨?_, ?_⟩); (focus (intros; simp_all; done)))
        | ((with_reducible refine ⟨?_, ?_⟩); (focus (intros; omega)))) <;> (try (conv => whnf)))
      all_goals ((with_reducible refine leaf_i ?_); (conv => whnf))
      repeat' ((with_reducible refine And.intro ?_ ?_) <;> (try (conv => whnf)))
      all_goals (try (first | with_reducible rfl | exact True.intro | rfl | exact id | exact fun h => h | exact fun _ => rfl))
      all_goals (first | rfl | (simp_all [nodeE]; done) | trace_state)
    · have hin : 0 ≤ i ∧ i < (g.length : Int) := by omega
      have hl : (Nd.ins (nd g i)).length < 4611686018427387904 := hp2 _ (getE_mem g (by omega))
      conv => whnf
      repeat' ((first
        | with_reducible first | refine ⟨fun h => h, ?_⟩ | refine ⟨pk1, ?_⟩ | refine ⟨pk2, ?_⟩ | refine ⟨pk3, ?_⟩ | refine ⟨pk4, ?_⟩ | refine ⟨pk5, ?_⟩ | refine ⟨pk6, ?_⟩ | refine ⟨trivial, ?_⟩ | refine ⟨fun _ => trivial, ?_⟩ | refine ⟨rfl, ?_⟩ | refine every_i (fun hd => ?_) | refine everyN_i (fun k hk => ?_) | refine everyD_i (fun d hd => ?_) | refine fork_t (by assumption) ?_ | refine fork_f (by assumption) ?_
        | refine fork_t rfl ?_
        | refine fork_f rfl ?_
        | with_reducible first | refine fork_i (fun h => ?_) (fun h => ?_) | refine both_i ?_ ?_
        | ((with_reducible refine alike_i ?_); exact ⟨rfl, rfl, rfl⟩)
        | ((with_reducible refine fin_i ?_); (conv => whnf); refine ⟨rfl, ?_⟩)
        | refine ⟨hin, ?_⟩
        | refine ⟨hl, ?_⟩
        | refine ⟨⟨hl, portsB_in (by simp_all [nd])⟩, ?_⟩
        | refine ⟨of_decide_eq_true rfl, ?_⟩
        | refine ⟨fun _ => of_decide_eq_true rfl, ?_⟩
        | ((with_reducible refine ⟨?_, ?_⟩); (focus (intros; simp_all; done)))
        | ((with_reducible refine ⟨?_, ?_⟩); (focus (intros; omega)))) <;> (try (conv => whnf)))
      all_goals ((with_reducible refine leaf_i ?_); (conv => whnf))
      repeat' ((with_reducible refine And.intro ?_ ?_) <;> (try (conv => whnf)))
      all_goals (try (first | with_reducible rfl | exact True.intro | rfl | exact id | exact fun h => h | exact fun _ => rfl))
      all_goals (first | rfl | (simp_all [nodeE, nd]; done) | trace_state)
end Go.Proofs.Ytgmbmpojcnmcgaa

/- Layer 13: Run. -/
namespace Go.Proofs.Ytgmbmpojcnmcgaa
set_option maxRecDepth 100000
open Go Go.RowKit Go.Sort Go.Proofs.Ytgmbmpojcnmcgaa.Eng
def k_passes : Sig := .arg (shT tN) fun n => .arg (shR tRR) fun l => .done { pre := l.length < 4611686018427387904 ∧ (catR l).length ≤ 1000000000, res := .ow 0 2 (srtR (catR l)).length, new := [.row true tR 36 (srtR (catR l))] }
theorem c_passes : FnOk Try.prog 35 k_passes.con := by
  refine fnOkS mixed tys_ok (cs := [(23, k_add.con)]) ⟨c_add, trivial⟩ Try.func35 rfl (by kernel_rfl) Try.ntmps35 _ (h := ?_)
  intro n l
  refine ⟨rfl, fun hp => ?_⟩
  conv => whnf
  repeat' ((first
    | with_reducible first | refine ⟨fun h => h, ?_⟩ | refine ⟨pk1, ?_⟩ | refine ⟨pk2, ?_⟩ | refine ⟨pk3, ?_⟩ | refine ⟨pk4, ?_⟩ | refine ⟨pk5, ?_⟩ | refine ⟨pk6, ?_⟩ | refine ⟨trivial, ?_⟩ | refine ⟨fun _ => trivial, ?_⟩ | refine ⟨rfl, ?_⟩ | refine every_i (fun hd => ?_) | refine everyN_i (fun k hk => ?_) | refine everyD_i (fun d hd => ?_) | refine fork_t (by assumption) ?_ | refine fork_f (by assumption) ?_
    | refine fork_t rfl ?_
    | refine fork_f rfl ?_
    | with_reducible first | refine fork_i (fun h => ?_) (fun h => ?_) | refine both_i ?_ ?_
    | ((with_reducible refine alike_i ?_); exact ⟨rfl, rfl, rfl⟩)
    | ((with_reducible refine fin_i ?_); (conv => whnf); refine ⟨rfl, ?_⟩)
    | refine ⟨hp, ?_⟩
    | refine ⟨of_decide_eq_true rfl, ?_⟩
    | refine ⟨fun _ => of_decide_eq_true rfl, ?_⟩
    | ((with_reducible refine ⟨?_, ?_⟩); (focus (intros; simp_all; done)))
    | ((with_reducible refine ⟨?_, ?_⟩); (focus (intros; omega)))) <;> (try (conv => whnf)))
  all_goals ((with_reducible refine leaf_i ?_); (conv => whnf))
  repeat' ((with_reducible refine And.intro ?_ ?_) <;> (try (conv => whnf)))
  all_goals (try (first | with_reducible rfl | exact True.intro | rfl | exact id | exact fun h => h | exact fun _ => rfl))
  all_goals (first | rfl | trace_state)
def makeN (n : Nd) (l : List (El tRR)) : List Rec :=
  if n.1 = 2 then (getE tRR l 0).1.map (mapR n) else if n.1 = 3 then (getE tRR l 0).1.filter (filR n) else if n.1 = 5 then redR n (getE tRR l 0).1 else if n.1 = 6 then joinR (getE tRR l 0).1 (getE tRR l 1).1 else catR l
def runN (n : Nd) (l : List (El tRR)) : List Rec × Int :=
  if numB n = false then ([], 130) else if (l.length : Int) ≠ arityN n.1 then ([], 100) else (srtR (makeN n l), 0)
def fewR (l : List (El tRR)) : Prop := l.length ≤ 1000 ∧ ∀ x : El tRR, x ∈ l → x.1.length ≤ 30000
def runPre (n : Nd) (l : List (El tRR)) : Prop := fewR l ∧ 0 ≤ n.2.1 ∧ n.2.2.1 ≤ 9223372036854775807
theorem catR_few {l : List (El tRR)} {c : Nat} : (∀ x : El tRR, x ∈ l → x.1.length ≤ c) → (catR l).length ≤ l.length * c := by
  induction l with
  | nil => intro _; simp [catR]
  | cons x r ih =>
    intro h
    have h1 := ih (fun y hy => h y (by simp [hy]))
    have h2 := h x (by simp)
    have : catR (x :: r) = x.1 ++ catR r := by simp [catR]
    rw [this, List.length_append, List.length_cons, Nat.succ_mul]
    omega
theorem get_few {l : List (El tRR)} {c : Nat} (h : ∀ x : El tRR, x ∈ l → x.1.length ≤ c) (i : Nat) : (getE tRR l i).1.length ≤ c := by
  by_cases hi : i < l.length
  · exact h _ (getE_mem l hi)
  · have : getE tRR l i = ([], ()) := by unfold getE; rw [List.getD_eq_getElem?_getD, List.getElem?_eq_none (by omega)]; rfl
    rw [this]; exact Nat.zero_le _
theorem joinR_few {a b : List Rec} {c : Nat} (ha : a.length ≤ c) (hb : b.length ≤ c) : (joinR a b).length ≤ c * c := by
  have h : ∀ a : List Rec, (joinR a b).length ≤ a.length * c := fun a => by
    induction a with
    | nil => simp [joinR]
    | cons x r ih =>
      have e : joinR (x :: r) b = join1 b x ++ joinR r b := by simp [joinR]
      have h1 : (join1 b x).length ≤ c := by unfold join1; rw [List.length_map]; exact Nat.le_trans valsK_len hb
      rw [e, List.length_append, List.length_cons, Nat.succ_mul]
      omega
  exact Nat.le_trans (h a) (Nat.mul_le_mul_right _ ha)
theorem srt_srt (l : List Rec) : srtR (srtR l) = srtR l := srtR_eq (srtR_perm l)
theorem node_num {n : Nd} : (nodeE [n] 0 == 130) = !numB n := by
  unfold nodeE
  rw [if_neg (by simp)]
  have : nd [n] 0 = n := rfl
  rw [this]
  cases numB n with
  | false => rfl
  | true => 
    simp only [Bool.true_eq_false, if_false, Bool.not_true]
    split
    · rfl
    · split <;> rfl
theorem num_core (k a b d : Int) (ins : List (El tI)) (u : Unit) : numB (k, a, b, 0, [], ()) = numB (k, a, b, d, ins, u) := rfl
theorem num_node (k a b d : Int) (ins : List (El tI)) (u : Unit) {q : Bool} (h : numB (k, a, b, d, ins, u) = q) : (nodeE [(k, a, b, 0, [], ())] 0 == 130) = !q := by rw [node_num, num_core k a b d ins u, h]
theorem node_few (n : Nd) (h : Nd.ins n = []) : ([n] : List Nd).length < 4611686018427387904 ∧ ∀ x : Nd, x ∈ ([n] : List Nd) → (Nd.ins x).length < 4611686018427387904 := ⟨by simp, fun x hx => by rw [List.mem_singleton.1 hx, h]; simp⟩
def k_run : Sig := .arg (shT tN) fun n => .arg (shR tRR) fun l => .done { pre := runPre n l, res := .tup (.cons (.ow 0 2 (runN n l).1.length) (.cons (I (runN n l).2) .nil)), new := [.row true tR 36 (runN n l).1] }
theorem run_bad {n : Nd} {l : List (El tRR)} (h : numB n = false) : runN n l = ([], 130) := by unfold runN; rw [if_pos h]
theorem run_len {n : Nd} {l : List (El tRR)} (h : numB n = true) (hl : (l.length : Int) ≠ arityN n.1) : runN n l = ([], 100) := by unfold runN; rw [if_neg (by simp [h]), if_pos hl]
theorem run_ok' {n : Nd} {l : List (El tRR)} (h : numB n = true) (hl : (l.length : Int) = arityN n.1) : runN n l = (srtR (makeN n l), 0) := by unfold runN; rw [if_neg (by simp [h]), if_neg (by simp [hl])]
theorem n1_iff (n : Nd) : n1B n = true ↔ n.a ≤ 3 ∧ (n.a < 3 ∨ n.b > 0) := by
  unfold n1B; by_cases h1 : n.a ≤ 3 <;> by_cases h2 : n.a < 3 <;> by_cases h3 : n.b > 0 <;> simp [h1, h2, h3]
theorem n2_iff (n : Nd) : n2B n = true ↔ n.a ≤ 2 ∧ (n.a ≠ 1 ∨ n.b > 0) := by
  unfold n2B; by_cases h1 : n.a ≤ 2 <;> by_cases h2 : n.a = 1 <;> by_cases h3 : n.b > 0 <;> simp [h1, h2, h3]
theorem make_o {n : Nd} {l : List (El tRR)} (h2 : n.1 ≠ 2) (h3 : n.1 ≠ 3) (h5 : n.1 ≠ 5) (h6 : n.1 ≠ 6) : makeN n l = catR l := by
  unfold makeN; rw [if_neg h2, if_neg h3, if_neg h5, if_neg h6]
theorem ofN_ne {m c : Nat} (h : c < 11) : Int.ofNat (m + 11) ≠ (c : Int) := by show ((m + 11 : Nat) : Int) ≠ (c : Int); omega
theorem neg_ne {m c : Nat} : Int.negSucc m ≠ (c : Int) := by intro h; cases h
theorem map_pre {a b d : Int} {ins : List (El tI)} {u : Unit} (h : numB (2, a, b, d, ins, u) = true) (ha : 0 ≤ a) (hb : b ≤ 9223372036854775807) : mapPre (2, a, b, 0, [], ()) := by
  have h : n1B (2, a, b, d, ins, u) = true := h
  have h : a ≤ 3 ∧ (a < 3 ∨ b > 0) := (n1_iff _).1 h
  unfold mapPre
  dsimp only
  omega
theorem fil_pre {a b d : Int} {ins : List (El tI)} {u : Unit} (h : numB (3, a, b, d, ins, u) = true) : filPre (3, a, b, 0, [], ()) := by
  have h : n2B (3, a, b, d, ins, u) = true := h
  have h : a ≤ 2 ∧ (a ≠ 1 ∨ b > 0) := (n2_iff _).1 h
  unfold filPre
  dsimp only
  omega
theorem red_core (k a b d : Int) (ins : List (El tI)) (u : Unit) (l : List Rec) : redR (k, a, b, d, ins, u) l = redR (k, a, b, 0, [], ()) l := rfl
theorem redR_len (n : Nd) (l : List Rec) : (redR n l).length ≤ l.length := by unfold redR; rw [List.length_map]; exact redM_len _ _
attribute [local irreducible] nodeE srtR redR joinR catR numB
set_option maxHeartbeats 8000000 in
theorem c_run : FnOk Try.prog 14 k_run.con := by
  refine fnOkS mixed tys_ok (cs := [(29, k_node.con), (30, k_oarity.con), (31, k_maps.con), (32, k_filters.con), (34, k_joins.con), (35, k_passes.con), (36, k_srt.con)]) ⟨c_node, c_oarity, c_maps, c_filters, c_joins, c_passes, c_srt, trivial⟩ Try.func14 rfl (by kernel_rfl) Try.ntmps14 _ (csd := [(33, k_reduces.conD)]) (hD := ⟨c_reduces, trivial⟩) (h := ?_)
  rintro ⟨k, a, b, d, ins, u⟩ l
  refine ⟨rfl, fun hp => ?_⟩
  obtain ⟨⟨hp1, hp2⟩, hp4, hp3⟩ := hp
  have hp4 : 0 ≤ a := hp4
  have hnp := node_few (k, a, b, 0, [], ()) rfl
  have hp3 : b ≤ 9223372036854775807 := hp3
  cases hN : numB (k, a, b, d, ins, u) with
  | false =>
    have hn := num_node k a b d ins u hN
    have e := run_bad (l := l) hN
    rw [e]
    conv => whnf
    repeat' ((first
      | refine fork_t hn ?_
      | with_reducible first | refine ⟨fun h => h, ?_⟩ | refine ⟨pk1, ?_⟩ | refine ⟨pk2, ?_⟩ | refine ⟨pk3, ?_⟩ | refine ⟨pk4, ?_⟩ | refine ⟨pk5, ?_⟩ | refine ⟨pk6, ?_⟩ | refine ⟨trivial, ?_⟩ | refine ⟨fun _ => trivial, ?_⟩ | refine ⟨rfl, ?_⟩ | refine every_i (fun hd => ?_) | refine everyN_i (fun k hk => ?_) | refine everyD_i (fun d hd => ?_) | refine fork_t (by assumption) ?_ | refine fork_f (by assumption) ?_
      | refine fork_t rfl ?_
      | refine fork_f rfl ?_
      | with_reducible first | refine fork_i (fun h => ?_) (fun h => ?_) | refine both_i ?_ ?_
      | ((with_reducible refine alike_i ?_); exact ⟨rfl, rfl, rfl⟩)
      | ((with_reducible refine fin_i ?_); (conv => whnf); refine ⟨rfl, ?_⟩)
      | refine ⟨hnp, ?_⟩
      | refine ⟨of_decide_eq_true rfl, ?_⟩
      | refine ⟨fun _ => of_decide_eq_true rfl, ?_⟩
      | ((with_reducible refine ⟨?_, ?_⟩); (focus (intros; simp_all; done)))
      | ((with_reducible refine ⟨?_, ?_⟩); (focus (intros; omega)))) <;> (try (conv => whnf)))
    all_goals ((with_reducible refine leaf_i ?_); (conv => whnf))
    repeat' ((with_reducible refine And.intro ?_ ?_) <;> (try (conv => whnf)))
    all_goals (try (first | with_reducible rfl | exact True.intro | rfl | exact id | exact fun h => h | exact fun _ => rfl))
    all_goals trace_state
  | true =>
    have hn := num_node k a b d ins u hN
    by_cases hlen : (l.length : Int) = arityN k
    · have e := run_ok' (n := (k, a, b, d, ins, u)) hN hlen
      rw [e]
      have hlb : ((l.length : Int) != arityN k) = false := by rw [hlen]; simp
      have hg0 := get_few hp2 0
      have hg1 := get_few hp2 1
      have hcat : (catR l).length ≤ 1000000000 := by have := catR_few hp2; have : l.length * 30000 ≤ 1000 * 30000 := Nat.mul_le_mul_right _ hp1; omega
      rcases kindCases k with h | h | h | h | h | h | h | h | h | h | h | ⟨m, h⟩ | ⟨m, h⟩ <;> subst h
      · have hm : makeN (0, a, b, d, ins, u) l = catR l := by unfold makeN; simp
        have hq : l.length < 4611686018427387904 ∧ (catR l).length ≤ 1000000000 := ⟨by omega, hcat⟩
        have hz : (srtR (catR l)).length ≤ 1000000000 := by rw [srtR_len]; exact hcat
        conv => whnf
        repeat' ((first
          | refine fork_f hn ?_
          | refine fork_f hlb ?_
          | with_reducible first | refine ⟨fun h => h, ?_⟩ | refine ⟨pk1, ?_⟩ | refine ⟨pk2, ?_⟩ | refine ⟨pk3, ?_⟩ | refine ⟨pk4, ?_⟩ | refine ⟨pk5, ?_⟩ | refine ⟨pk6, ?_⟩ | refine ⟨trivial, ?_⟩ | refine ⟨fun _ => trivial, ?_⟩ | refine ⟨rfl, ?_⟩ | refine every_i (fun hd => ?_) | refine everyN_i (fun k hk => ?_) | refine everyD_i (fun d hd => ?_) | refine fork_t (by assumption) ?_ | refine fork_f (by assumption) ?_
          | refine fork_t rfl ?_
          | refine fork_f rfl ?_
          | with_reducible first | refine fork_i (fun h => ?_) (fun h => ?_) | refine both_i ?_ ?_
          | ((with_reducible refine alike_i ?_); exact ⟨rfl, rfl, rfl⟩)
          | ((with_reducible refine fin_i ?_); (conv => whnf); refine ⟨rfl, ?_⟩)
          | refine ⟨hnp, ?_⟩
          | refine ⟨hq, ?_⟩
          | refine ⟨hz, ?_⟩
          | refine ⟨List.Perm.refl _, ?_⟩
          | refine ⟨of_decide_eq_true rfl, ?_⟩
          | refine ⟨fun _ => of_decide_eq_true rfl, ?_⟩
          | ((with_reducible refine ⟨?_, ?_⟩); (focus (intros; simp_all; done)))
          | ((with_reducible refine ⟨?_, ?_⟩); (focus (intros; omega)))) <;> (try (conv => whnf)))
        all_goals ((with_reducible refine leaf_i ?_); (conv => whnf))
        repeat' ((with_reducible refine And.intro ?_ ?_) <;> (try (conv => whnf)))
        all_goals (try (first | with_reducible rfl | exact True.intro | rfl | exact id | exact fun h => h | exact fun _ => rfl))
        all_goals (first | (rw [hm, srt_srt]; done) | trace_state)
      · have hm : makeN (1, a, b, d, ins, u) l = catR l := by unfold makeN; simp
        have hq : l.length < 4611686018427387904 ∧ (catR l).length ≤ 1000000000 := ⟨by omega, hcat⟩
        have hz : (srtR (catR l)).length ≤ 1000000000 := by rw [srtR_len]; exact hcat
        conv => whnf
        repeat' ((first
          | refine fork_f hn ?_
          | refine fork_f hlb ?_
          | with_reducible first | refine ⟨fun h => h, ?_⟩ | refine ⟨pk1, ?_⟩ | refine ⟨pk2, ?_⟩ | refine ⟨pk3, ?_⟩ | refine ⟨pk4, ?_⟩ | refine ⟨pk5, ?_⟩ | refine ⟨pk6, ?_⟩ | refine ⟨trivial, ?_⟩ | refine ⟨fun _ => trivial, ?_⟩ | refine ⟨rfl, ?_⟩ | refine every_i (fun hd => ?_) | refine everyN_i (fun k hk => ?_) | refine everyD_i (fun d hd => ?_) | refine fork_t (by assumption) ?_ | refine fork_f (by assumption) ?_
          | refine fork_t rfl ?_
          | refine fork_f rfl ?_
          | with_reducible first | refine fork_i (fun h => ?_) (fun h => ?_) | refine both_i ?_ ?_
          | ((with_reducible refine alike_i ?_); exact ⟨rfl, rfl, rfl⟩)
          | ((with_reducible refine fin_i ?_); (conv => whnf); refine ⟨rfl, ?_⟩)
          | refine ⟨hnp, ?_⟩
          | refine ⟨hq, ?_⟩
          | refine ⟨hz, ?_⟩
          | refine ⟨List.Perm.refl _, ?_⟩
          | refine ⟨of_decide_eq_true rfl, ?_⟩
          | refine ⟨fun _ => of_decide_eq_true rfl, ?_⟩
          | ((with_reducible refine ⟨?_, ?_⟩); (focus (intros; simp_all; done)))
          | ((with_reducible refine ⟨?_, ?_⟩); (focus (intros; omega)))) <;> (try (conv => whnf)))
        all_goals ((with_reducible refine leaf_i ?_); (conv => whnf))
        repeat' ((with_reducible refine And.intro ?_ ?_) <;> (try (conv => whnf)))
        all_goals (try (first | with_reducible rfl | exact True.intro | rfl | exact id | exact fun h => h | exact fun _ => rfl))
        all_goals (first | (rw [hm, srt_srt]; done) | trace_state)
      · have hm : makeN (2, a, b, d, ins, u) l = (getE tRR l 0).1.map (mapR (2, a, b, 0, [], ())) := by unfold makeN; rw [if_pos rfl]; rfl
        have hl1 : 0 < l.length := by have : (l.length : Int) = 1 := hlen; omega
        have hq : (mapPre (2, a, b, 0, [], ()) ∧ 0 < l.length) ∧ (getE tRR l 0).1.length ≤ 1000000000 := ⟨⟨map_pre hN hp4 hp3, hl1⟩, by omega⟩
        have hz : ((getE tRR l 0).1.map (mapR (2, a, b, 0, [], ()))).length ≤ 1000000000 := by rw [List.length_map]; omega
        conv => whnf
        repeat' ((first
          | refine fork_f hn ?_
          | refine fork_f hlb ?_
          | with_reducible first | refine ⟨fun h => h, ?_⟩ | refine ⟨pk1, ?_⟩ | refine ⟨pk2, ?_⟩ | refine ⟨pk3, ?_⟩ | refine ⟨pk4, ?_⟩ | refine ⟨pk5, ?_⟩ | refine ⟨pk6, ?_⟩ | refine ⟨trivial, ?_⟩ | refine ⟨fun _ => trivial, ?_⟩ | refine ⟨rfl, ?_⟩ | refine every_i (fun hd => ?_) | refine everyN_i (fun k hk => ?_) | refine everyD_i (fun d hd => ?_) | refine fork_t (by assumption) ?_ | refine fork_f (by assumption) ?_
          | refine fork_t rfl ?_
          | refine fork_f rfl ?_
          | with_reducible first | refine fork_i (fun h => ?_) (fun h => ?_) | refine both_i ?_ ?_
          | ((with_reducible refine alike_i ?_); exact ⟨rfl, rfl, rfl⟩)
          | ((with_reducible refine fin_i ?_); (conv => whnf); refine ⟨rfl, ?_⟩)
          | refine ⟨hnp, ?_⟩
          | refine ⟨hq, ?_⟩
          | refine ⟨hz, ?_⟩
          | refine ⟨List.Perm.refl _, ?_⟩
          | refine ⟨of_decide_eq_true rfl, ?_⟩
          | refine ⟨fun _ => of_decide_eq_true rfl, ?_⟩
          | ((with_reducible refine ⟨?_, ?_⟩); (focus (intros; simp_all; done)))
          | ((with_reducible refine ⟨?_, ?_⟩); (focus (intros; omega)))) <;> (try (conv => whnf)))
        all_goals ((with_reducible refine leaf_i ?_); (conv => whnf))
        repeat' ((with_reducible refine And.intro ?_ ?_) <;> (try (conv => whnf)))
        all_goals (try (first | with_reducible rfl | exact True.intro | rfl | exact id | exact fun h => h | exact fun _ => rfl))
        all_goals (first | (rw [hm]; done) | trace_state)
      · have hm : makeN (3, a, b, d, ins, u) l = (getE tRR l 0).1.filter (filR (3, a, b, 0, [], ())) := by unfold makeN; rw [if_neg (show (3 : Int) ≠ 2 by decide), if_pos rfl]; rfl
        have hl1 : 0 < l.length := by have : (l.length : Int) = 1 := hlen; omega
        have hq : (filPre (3, a, b, 0, [], ()) ∧ 0 < l.length) ∧ (getE tRR l 0).1.length ≤ 1000000000 := ⟨⟨fil_pre hN, hl1⟩, by omega⟩
        have hz : ((getE tRR l 0).1.filter (filR (3, a, b, 0, [], ()))).length ≤ 1000000000 := Nat.le_trans (List.length_filter_le _ _) (by omega)
        conv => whnf
        repeat' ((first
          | refine fork_f hn ?_
          | refine fork_f hlb ?_
          | with_reducible first | refine ⟨fun h => h, ?_⟩ | refine ⟨pk1, ?_⟩ | refine ⟨pk2, ?_⟩ | refine ⟨pk3, ?_⟩ | refine ⟨pk4, ?_⟩ | refine ⟨pk5, ?_⟩ | refine ⟨pk6, ?_⟩ | refine ⟨trivial, ?_⟩ | refine ⟨fun _ => trivial, ?_⟩ | refine ⟨rfl, ?_⟩ | refine every_i (fun hd => ?_) | refine everyN_i (fun k hk => ?_) | refine everyD_i (fun d hd => ?_) | refine fork_t (by assumption) ?_ | refine fork_f (by assumption) ?_
          | refine fork_t rfl ?_
          | refine fork_f rfl ?_
          | with_reducible first | refine fork_i (fun h => ?_) (fun h => ?_) | refine both_i ?_ ?_
          | ((with_reducible refine alike_i ?_); exact ⟨rfl, rfl, rfl⟩)
          | ((with_reducible refine fin_i ?_); (conv => whnf); refine ⟨rfl, ?_⟩)
          | refine ⟨hnp, ?_⟩
          | refine ⟨hq, ?_⟩
          | refine ⟨hz, ?_⟩
          | refine ⟨List.Perm.refl _, ?_⟩
          | refine ⟨of_decide_eq_true rfl, ?_⟩
          | refine ⟨fun _ => of_decide_eq_true rfl, ?_⟩
          | ((with_reducible refine ⟨?_, ?_⟩); (focus (intros; simp_all; done)))
          | ((with_reducible refine ⟨?_, ?_⟩); (focus (intros; omega)))) <;> (try (conv => whnf)))
        all_goals ((with_reducible refine leaf_i ?_); (conv => whnf))
        repeat' ((with_reducible refine And.intro ?_ ?_) <;> (try (conv => whnf)))
        all_goals (try (first | with_reducible rfl | exact True.intro | rfl | exact id | exact fun h => h | exact fun _ => rfl))
        all_goals (first | (rw [hm]; done) | trace_state)
      · have hm : makeN (4, a, b, d, ins, u) l = catR l := by unfold makeN; simp
        have hq : l.length < 4611686018427387904 ∧ (catR l).length ≤ 1000000000 := ⟨by omega, hcat⟩
        have hz : (srtR (catR l)).length ≤ 1000000000 := by rw [srtR_len]; exact hcat
        conv => whnf
        repeat' ((first
          | refine fork_f hn ?_
          | refine fork_f hlb ?_
          | with_reducible first | refine ⟨fun h => h, ?_⟩ | refine ⟨pk1, ?_⟩ | refine ⟨pk2, ?_⟩ | refine ⟨pk3, ?_⟩ | refine ⟨pk4, ?_⟩ | refine ⟨pk5, ?_⟩ | refine ⟨pk6, ?_⟩ | refine ⟨trivial, ?_⟩ | refine ⟨fun _ => trivial, ?_⟩ | refine ⟨rfl, ?_⟩ | refine every_i (fun hd => ?_) | refine everyN_i (fun k hk => ?_) | refine everyD_i (fun d hd => ?_) | refine fork_t (by assumption) ?_ | refine fork_f (by assumption) ?_
          | refine fork_t rfl ?_
          | refine fork_f rfl ?_
          | with_reducible first | refine fork_i (fun h => ?_) (fun h => ?_) | refine both_i ?_ ?_
          | ((with_reducible refine alike_i ?_); exact ⟨rfl, rfl, rfl⟩)
          | ((with_reducible refine fin_i ?_); (conv => whnf); refine ⟨rfl, ?_⟩)
          | refine ⟨hnp, ?_⟩
          | refine ⟨hq, ?_⟩
          | refine ⟨hz, ?_⟩
          | refine ⟨List.Perm.refl _, ?_⟩
          | refine ⟨of_decide_eq_true rfl, ?_⟩
          | refine ⟨fun _ => of_decide_eq_true rfl, ?_⟩
          | ((with_reducible refine ⟨?_, ?_⟩); (focus (intros; simp_all; done)))
          | ((with_reducible refine ⟨?_, ?_⟩); (focus (intros; omega)))) <;> (try (conv => whnf)))
        all_goals ((with_reducible refine leaf_i ?_); (conv => whnf))
        repeat' ((with_reducible refine And.intro ?_ ?_) <;> (try (conv => whnf)))
        all_goals (try (first | with_reducible rfl | exact True.intro | rfl | exact id | exact fun h => h | exact fun _ => rfl))
        all_goals (first | (rw [hm, srt_srt]; done) | trace_state)
      · have hm : makeN (5, a, b, d, ins, u) l = redR (5, a, b, 0, [], ()) (getE tRR l 0).1 := by unfold makeN; simp; exact red_core 5 a b d ins u _
        have hl1 : 0 < l.length := by have : (l.length : Int) = 1 := hlen; omega
        have hq : 0 < l.length ∧ (getE tRR l 0).1.length ≤ 1000000000 := ⟨hl1, by omega⟩
        conv => whnf
        repeat' ((first
          | refine fork_f hn ?_
          | refine fork_f hlb ?_
          | with_reducible first | refine ⟨fun h => h, ?_⟩ | refine ⟨pk1, ?_⟩ | refine ⟨pk2, ?_⟩ | refine ⟨pk3, ?_⟩ | refine ⟨pk4, ?_⟩ | refine ⟨pk5, ?_⟩ | refine ⟨pk6, ?_⟩ | refine ⟨trivial, ?_⟩ | refine ⟨fun _ => trivial, ?_⟩ | refine ⟨rfl, ?_⟩ | refine every_i (fun hd => ?_) | refine everyN_i (fun k hk => ?_) | refine everyD_i (fun d hd => ?_) | refine fork_t (by assumption) ?_ | refine fork_f (by assumption) ?_
          | refine fork_t rfl ?_
          | refine fork_f rfl ?_
          | with_reducible first | refine fork_i (fun h => ?_) (fun h => ?_) | refine both_i ?_ ?_
          | ((with_reducible refine alike_i ?_); exact ⟨rfl, rfl, rfl⟩)
          | ((with_reducible refine fin_i ?_); (conv => whnf); refine ⟨rfl, ?_⟩)
          | refine ⟨hnp, ?_⟩
          | refine ⟨hq, ?_⟩
          | refine ⟨List.Perm.refl _, ?_⟩
          | refine ⟨of_decide_eq_true rfl, ?_⟩
          | refine ⟨fun _ => of_decide_eq_true rfl, ?_⟩
          | ((with_reducible refine ⟨?_, ?_⟩); (focus (intros; simp_all; done)))
          | ((with_reducible refine ⟨?_, ?_⟩); (focus (intros; omega)))) <;> (try (conv => whnf)))
        rename List Nat => ch
        have hch : ch.Perm (List.range (redR (5, a, b, 0, [], ()) (getE tRR l 0).1).length) := by assumption
        have hz : (permL ch (redR (5, a, b, 0, [], ()) (getE tRR l 0).1)).length ≤ 1000000000 := by rw [(permL_perm hch).length_eq]; exact Nat.le_trans (redR_len _ _) (by omega)
        refine ⟨hz, ?_⟩
        (conv => whnf)
        conv => whnf
        repeat' ((first
          | with_reducible first | refine ⟨fun h => h, ?_⟩ | refine ⟨pk1, ?_⟩ | refine ⟨pk2, ?_⟩ | refine ⟨pk3, ?_⟩ | refine ⟨pk4, ?_⟩ | refine ⟨pk5, ?_⟩ | refine ⟨pk6, ?_⟩ | refine ⟨trivial, ?_⟩ | refine ⟨fun _ => trivial, ?_⟩ | refine ⟨rfl, ?_⟩ | refine every_i (fun hd => ?_) | refine everyN_i (fun k hk => ?_) | refine everyD_i (fun d hd => ?_) | refine fork_t (by assumption) ?_ | refine fork_f (by assumption) ?_
          | refine fork_t rfl ?_
          | refine fork_f rfl ?_
          | with_reducible first | refine fork_i (fun h => ?_) (fun h => ?_) | refine both_i ?_ ?_
          | ((with_reducible refine alike_i ?_); exact ⟨rfl, rfl, rfl⟩)
          | ((with_reducible refine fin_i ?_); (conv => whnf); refine ⟨rfl, ?_⟩)
          | refine ⟨of_decide_eq_true rfl, ?_⟩
          | refine ⟨fun _ => of_decide_eq_true rfl, ?_⟩
          | ((with_reducible refine ⟨?_, ?_⟩); (focus (intros; simp_all; done)))
          | ((with_reducible refine ⟨?_, ?_⟩); (focus (intros; omega)))) <;> (try (conv => whnf)))
        all_goals ((with_reducible refine leaf_i ?_); (conv => whnf))
        repeat' ((with_reducible refine And.intro ?_ ?_) <;> (try (conv => whnf)))
        all_goals (try (first | with_reducible rfl | exact True.intro | rfl | exact id | exact fun h => h | exact fun _ => rfl))
        all_goals (first | (rw [hm, srtR_eq (permL_perm hch)]; done) | trace_state)
      · have hm : makeN (6, a, b, d, ins, u) l = joinR (getE tRR l 0).1 (getE tRR l 1).1 := by unfold makeN; simp
        have hl1 : 1 < l.length := by have : (l.length : Int) = 2 := hlen; omega
        have hj := joinR_few hg0 hg1
        have hq : (1 < l.length ∧ (getE tRR l 1).1.length ≤ 1000000000) ∧ (getE tRR l 0).1.length ≤ 1000000000 ∧ (joinR (getE tRR l 0).1 (getE tRR l 1).1).length ≤ 1000000000 := ⟨⟨hl1, by omega⟩, by omega, by omega⟩
        have hz : (joinR (getE tRR l 0).1 (getE tRR l 1).1).length ≤ 1000000000 := by omega
        conv => whnf
        repeat' ((first
          | refine fork_f hn ?_
          | refine fork_f hlb ?_
          | with_reducible first | refine ⟨fun h => h, ?_⟩ | refine ⟨pk1, ?_⟩ | refine ⟨pk2, ?_⟩ | refine ⟨pk3, ?_⟩ | refine ⟨pk4, ?_⟩ | refine ⟨pk5, ?_⟩ | refine ⟨pk6, ?_⟩ | refine ⟨trivial, ?_⟩ | refine ⟨fun _ => trivial, ?_⟩ | refine ⟨rfl, ?_⟩ | refine every_i (fun hd => ?_) | refine everyN_i (fun k hk => ?_) | refine everyD_i (fun d hd => ?_) | refine fork_t (by assumption) ?_ | refine fork_f (by assumption) ?_
          | refine fork_t rfl ?_
          | refine fork_f rfl ?_
          | with_reducible first | refine fork_i (fun h => ?_) (fun h => ?_) | refine both_i ?_ ?_
          | ((with_reducible refine alike_i ?_); exact ⟨rfl, rfl, rfl⟩)
          | ((with_reducible refine fin_i ?_); (conv => whnf); refine ⟨rfl, ?_⟩)
          | refine ⟨hnp, ?_⟩
          | refine ⟨hq, ?_⟩
          | refine ⟨hz, ?_⟩
          | refine ⟨List.Perm.refl _, ?_⟩
          | refine ⟨of_decide_eq_true rfl, ?_⟩
          | refine ⟨fun _ => of_decide_eq_true rfl, ?_⟩
          | ((with_reducible refine ⟨?_, ?_⟩); (focus (intros; simp_all; done)))
          | ((with_reducible refine ⟨?_, ?_⟩); (focus (intros; omega)))) <;> (try (conv => whnf)))
        all_goals ((with_reducible refine leaf_i ?_); (conv => whnf))
        repeat' ((with_reducible refine And.intro ?_ ?_) <;> (try (conv => whnf)))
        all_goals (try (first | with_reducible rfl | exact True.intro | rfl | exact id | exact fun h => h | exact fun _ => rfl))
        all_goals (first | (rw [hm]; done) | trace_state)
      · have hm : makeN (7, a, b, d, ins, u) l = catR l := by unfold makeN; simp
        have hq : l.length < 4611686018427387904 ∧ (catR l).length ≤ 1000000000 := ⟨by omega, hcat⟩
        have hz : (srtR (catR l)).length ≤ 1000000000 := by rw [srtR_len]; exact hcat
        conv => whnf
        repeat' ((first
          | refine fork_f hn ?_
          | refine fork_f hlb ?_
          | with_reducible first | refine ⟨fun h => h, ?_⟩ | refine ⟨pk1, ?_⟩ | refine ⟨pk2, ?_⟩ | refine ⟨pk3, ?_⟩ | refine ⟨pk4, ?_⟩ | refine ⟨pk5, ?_⟩ | refine ⟨pk6, ?_⟩ | refine ⟨trivial, ?_⟩ | refine ⟨fun _ => trivial, ?_⟩ | refine ⟨rfl, ?_⟩ | refine every_i (fun hd => ?_) | refine everyN_i (fun k hk => ?_) | refine everyD_i (fun d hd => ?_) | refine fork_t (by assumption) ?_ | refine fork_f (by assumption) ?_
          | refine fork_t rfl ?_
          | refine fork_f rfl ?_
          | with_reducible first | refine fork_i (fun h => ?_) (fun h => ?_) | refine both_i ?_ ?_
          | ((with_reducible refine alike_i ?_); exact ⟨rfl, rfl, rfl⟩)
          | ((with_reducible refine fin_i ?_); (conv => whnf); refine ⟨rfl, ?_⟩)
          | refine ⟨hnp, ?_⟩
          | refine ⟨hq, ?_⟩
          | refine ⟨hz, ?_⟩
          | refine ⟨List.Perm.refl _, ?_⟩
          | refine ⟨of_decide_eq_true rfl, ?_⟩
          | refine ⟨fun _ => of_decide_eq_true rfl, ?_⟩
          | ((with_reducible refine ⟨?_, ?_⟩); (focus (intros; simp_all; done)))
          | ((with_reducible refine ⟨?_, ?_⟩); (focus (intros; omega)))) <;> (try (conv => whnf)))
        all_goals ((with_reducible refine leaf_i ?_); (conv => whnf))
        repeat' ((with_reducible refine And.intro ?_ ?_) <;> (try (conv => whnf)))
        all_goals (try (first | with_reducible rfl | exact True.intro | rfl | exact id | exact fun h => h | exact fun _ => rfl))
        all_goals (first | (rw [hm, srt_srt]; done) | trace_state)
      · have hm : makeN (8, a, b, d, ins, u) l = catR l := by unfold makeN; simp
        have hq : l.length < 4611686018427387904 ∧ (catR l).length ≤ 1000000000 := ⟨by omega, hcat⟩
        have hz : (srtR (catR l)).length ≤ 1000000000 := by rw [srtR_len]; exact hcat
        conv => whnf
        repeat' ((first
          | refine fork_f hn ?_
          | refine fork_f hlb ?_
          | with_reducible first | refine ⟨fun h => h, ?_⟩ | refine ⟨pk1, ?_⟩ | refine ⟨pk2, ?_⟩ | refine ⟨pk3, ?_⟩ | refine ⟨pk4, ?_⟩ | refine ⟨pk5, ?_⟩ | refine ⟨pk6, ?_⟩ | refine ⟨trivial, ?_⟩ | refine ⟨fun _ => trivial, ?_⟩ | refine ⟨rfl, ?_⟩ | refine every_i (fun hd => ?_) | refine everyN_i (fun k hk => ?_) | refine everyD_i (fun d hd => ?_) | refine fork_t (by assumption) ?_ | refine fork_f (by assumption) ?_
          | refine fork_t rfl ?_
          | refine fork_f rfl ?_
          | with_reducible first | refine fork_i (fun h => ?_) (fun h => ?_) | refine both_i ?_ ?_
          | ((with_reducible refine alike_i ?_); exact ⟨rfl, rfl, rfl⟩)
          | ((with_reducible refine fin_i ?_); (conv => whnf); refine ⟨rfl, ?_⟩)
          | refine ⟨hnp, ?_⟩
          | refine ⟨hq, ?_⟩
          | refine ⟨hz, ?_⟩
          | refine ⟨List.Perm.refl _, ?_⟩
          | refine ⟨of_decide_eq_true rfl, ?_⟩
          | refine ⟨fun _ => of_decide_eq_true rfl, ?_⟩
          | ((with_reducible refine ⟨?_, ?_⟩); (focus (intros; simp_all; done)))
          | ((with_reducible refine ⟨?_, ?_⟩); (focus (intros; omega)))) <;> (try (conv => whnf)))
        all_goals ((with_reducible refine leaf_i ?_); (conv => whnf))
        repeat' ((with_reducible refine And.intro ?_ ?_) <;> (try (conv => whnf)))
        all_goals (try (first | with_reducible rfl | exact True.intro | rfl | exact id | exact fun h => h | exact fun _ => rfl))
        all_goals (first | (rw [hm, srt_srt]; done) | trace_state)
      · have hm : makeN (9, a, b, d, ins, u) l = catR l := by unfold makeN; simp
        have hq : l.length < 4611686018427387904 ∧ (catR l).length ≤ 1000000000 := ⟨by omega, hcat⟩
        have hz : (srtR (catR l)).length ≤ 1000000000 := by rw [srtR_len]; exact hcat
        conv => whnf
        repeat' ((first
          | refine fork_f hn ?_
          | refine fork_f hlb ?_
          | with_reducible first | refine ⟨fun h => h, ?_⟩ | refine ⟨pk1, ?_⟩ | refine ⟨pk2, ?_⟩ | refine ⟨pk3, ?_⟩ | refine ⟨pk4, ?_⟩ | refine ⟨pk5, ?_⟩ | refine ⟨pk6, ?_⟩ | refine ⟨trivial, ?_⟩ | refine ⟨fun _ => trivial, ?_⟩ | refine ⟨rfl, ?_⟩ | refine every_i (fun hd => ?_) | refine everyN_i (fun k hk => ?_) | refine everyD_i (fun d hd => ?_) | refine fork_t (by assumption) ?_ | refine fork_f (by assumption) ?_
          | refine fork_t rfl ?_
          | refine fork_f rfl ?_
          | with_reducible first | refine fork_i (fun h => ?_) (fun h => ?_) | refine both_i ?_ ?_
          | ((with_reducible refine alike_i ?_); exact ⟨rfl, rfl, rfl⟩)
          | ((with_reducible refine fin_i ?_); (conv => whnf); refine ⟨rfl, ?_⟩)
          | refine ⟨hnp, ?_⟩
          | refine ⟨hq, ?_⟩
          | refine ⟨hz, ?_⟩
          | refine ⟨List.Perm.refl _, ?_⟩
          | refine ⟨of_decide_eq_true rfl, ?_⟩
          | refine ⟨fun _ => of_decide_eq_true rfl, ?_⟩
          | ((with_reducible refine ⟨?_, ?_⟩); (focus (intros; simp_all; done)))
          | ((with_reducible refine ⟨?_, ?_⟩); (focus (intros; omega)))) <;> (try (conv => whnf)))
        all_goals ((with_reducible refine leaf_i ?_); (conv => whnf))
        repeat' ((with_reducible refine And.intro ?_ ?_) <;> (try (conv => whnf)))
        all_goals (try (first | with_reducible rfl | exact True.intro | rfl | exact id | exact fun h => h | exact fun _ => rfl))
        all_goals (first | (rw [hm, srt_srt]; done) | trace_state)
      · have hm : makeN (10, a, b, d, ins, u) l = catR l := by unfold makeN; simp
        have hq : l.length < 4611686018427387904 ∧ (catR l).length ≤ 1000000000 := ⟨by omega, hcat⟩
        have hz : (srtR (catR l)).length ≤ 1000000000 := by rw [srtR_len]; exact hcat
        conv => whnf
        repeat' ((first
          | refine fork_f hn ?_
          | refine fork_f hlb ?_
          | with_reducible first | refine ⟨fun h => h, ?_⟩ | refine ⟨pk1, ?_⟩ | refine ⟨pk2, ?_⟩ | refine ⟨pk3, ?_⟩ | refine ⟨pk4, ?_⟩ | refine ⟨pk5, ?_⟩ | refine ⟨pk6, ?_⟩ | refine ⟨trivial, ?_⟩ | refine ⟨fun _ => trivial, ?_⟩ | refine ⟨rfl, ?_⟩ | refine every_i (fun hd => ?_) | refine everyN_i (fun k hk => ?_) | refine everyD_i (fun d hd => ?_) | refine fork_t (by assumption) ?_ | refine fork_f (by assumption) ?_
          | refine fork_t rfl ?_
          | refine fork_f rfl ?_
          | with_reducible first | refine fork_i (fun h => ?_) (fun h => ?_) | refine both_i ?_ ?_
          | ((with_reducible refine alike_i ?_); exact ⟨rfl, rfl, rfl⟩)
          | ((with_reducible refine fin_i ?_); (conv => whnf); refine ⟨rfl, ?_⟩)
          | refine ⟨hnp, ?_⟩
          | refine ⟨hq, ?_⟩
          | refine ⟨hz, ?_⟩
          | refine ⟨List.Perm.refl _, ?_⟩
          | refine ⟨of_decide_eq_true rfl, ?_⟩
          | refine ⟨fun _ => of_decide_eq_true rfl, ?_⟩
          | ((with_reducible refine ⟨?_, ?_⟩); (focus (intros; simp_all; done)))
          | ((with_reducible refine ⟨?_, ?_⟩); (focus (intros; omega)))) <;> (try (conv => whnf)))
        all_goals ((with_reducible refine leaf_i ?_); (conv => whnf))
        repeat' ((with_reducible refine And.intro ?_ ?_) <;> (try (conv => whnf)))
        all_goals (try (first | with_reducible rfl | exact True.intro | rfl | exact id | exact fun h => h | exact fun _ => rfl))
        all_goals (first | (rw [hm, srt_srt]; done) | trace_state)
      · have hm : makeN (Int.ofNat (m + 11), a, b, d, ins, u) l = catR l := make_o (ofN_ne (c := 2) (by decide)) (ofN_ne (c := 3) (by decide)) (ofN_ne (c := 5) (by decide)) (ofN_ne (c := 6) (by decide))
        have hq : l.length < 4611686018427387904 ∧ (catR l).length ≤ 1000000000 := ⟨by omega, hcat⟩
        have hz : (srtR (catR l)).length ≤ 1000000000 := by rw [srtR_len]; exact hcat
        conv => whnf
        repeat' ((first
          | refine fork_f hn ?_
          | refine fork_f hlb ?_
          | with_reducible first | refine ⟨fun h => h, ?_⟩ | refine ⟨pk1, ?_⟩ | refine ⟨pk2, ?_⟩ | refine ⟨pk3, ?_⟩ | refine ⟨pk4, ?_⟩ | refine ⟨pk5, ?_⟩ | refine ⟨pk6, ?_⟩ | refine ⟨trivial, ?_⟩ | refine ⟨fun _ => trivial, ?_⟩ | refine ⟨rfl, ?_⟩ | refine every_i (fun hd => ?_) | refine everyN_i (fun k hk => ?_) | refine everyD_i (fun d hd => ?_) | refine fork_t (by assumption) ?_ | refine fork_f (by assumption) ?_
          | refine fork_t rfl ?_
          | refine fork_f rfl ?_
          | with_reducible first | refine fork_i (fun h => ?_) (fun h => ?_) | refine both_i ?_ ?_
          | ((with_reducible refine alike_i ?_); exact ⟨rfl, rfl, rfl⟩)
          | ((with_reducible refine fin_i ?_); (conv => whnf); refine ⟨rfl, ?_⟩)
          | refine ⟨hnp, ?_⟩
          | refine ⟨hq, ?_⟩
          | refine ⟨hz, ?_⟩
          | refine ⟨List.Perm.refl _, ?_⟩
          | refine ⟨of_decide_eq_true rfl, ?_⟩
          | refine ⟨fun _ => of_decide_eq_true rfl, ?_⟩
          | ((with_reducible refine ⟨?_, ?_⟩); (focus (intros; simp_all; done)))
          | ((with_reducible refine ⟨?_, ?_⟩); (focus (intros; omega)))) <;> (try (conv => whnf)))
        all_goals ((with_reducible refine leaf_i ?_); (conv => whnf))
        repeat' ((with_reducible refine And.intro ?_ ?_) <;> (try (conv => whnf)))
        all_goals (try (first | with_reducible rfl | exact True.intro | rfl | exact id | exact fun h => h | exact fun _ => rfl))
        all_goals (first | (rw [hm, srt_srt]; done) | trace_state)
      · have hm : makeN (Int.negSucc m, a, b, d, ins, u) l = catR l := make_o (neg_ne (c := 2)) (neg_ne (c := 3)) (neg_ne (c := 5)) (neg_ne (c := 6))
        have hq : l.length < 4611686018427387904 ∧ (catR l).length ≤ 1000000000 := ⟨by omega, hcat⟩
        have hz : (srtR (catR l)).length ≤ 1000000000 := by rw [srtR_len]; exact hcat
        conv => whnf
        repeat' ((first
          | refine fork_f hn ?_
          | refine fork_f hlb ?_
          | with_reducible first | refine ⟨fun h => h, ?_⟩ | refine ⟨pk1, ?_⟩ | refine ⟨pk2, ?_⟩ | refine ⟨pk3, ?_⟩ | refine ⟨pk4, ?_⟩ | refine ⟨pk5, ?_⟩ | refine ⟨pk6, ?_⟩ | refine ⟨trivial, ?_⟩ | refine ⟨fun _ => trivial, ?_⟩ | refine ⟨rfl, ?_⟩ | refine every_i (fun hd => ?_) | refine everyN_i (fun k hk => ?_) | refine everyD_i (fun d hd => ?_) | refine fork_t (by assumption) ?_ | refine fork_f (by assumption) ?_
          | refine fork_t rfl ?_
          | refine fork_f rfl ?_
          | with_reducible first | refine fork_i (fun h => ?_) (fun h => ?_) | refine both_i ?_ ?_
          | ((with_reducible refine alike_i ?_); exact ⟨rfl, rfl, rfl⟩)
          | ((with_reducible refine fin_i ?_); (conv => whnf); refine ⟨rfl, ?_⟩)
          | refine ⟨hnp, ?_⟩
          | refine ⟨hq, ?_⟩
          | refine ⟨hz, ?_⟩
          | refine ⟨List.Perm.refl _, ?_⟩
          | refine ⟨of_decide_eq_true rfl, ?_⟩
          | refine ⟨fun _ => of_decide_eq_true rfl, ?_⟩
          | ((with_reducible refine ⟨?_, ?_⟩); (focus (intros; simp_all; done)))
          | ((with_reducible refine ⟨?_, ?_⟩); (focus (intros; omega)))) <;> (try (conv => whnf)))
        all_goals ((with_reducible refine leaf_i ?_); (conv => whnf))
        repeat' ((with_reducible refine And.intro ?_ ?_) <;> (try (conv => whnf)))
        all_goals (try (first | with_reducible rfl | exact True.intro | rfl | exact id | exact fun h => h | exact fun _ => rfl))
        all_goals (first | (rw [hm, srt_srt]; done) | trace_state)
    · have e := run_len (n := (k, a, b, d, ins, u)) hN hlen
      rw [e]
      have hlb : ((l.length : Int) != arityN k) = true := by simp [hlen]
      conv => whnf
      repeat' ((first
        | refine fork_f hn ?_
        | refine fork_t hlb ?_
        | with_reducible first | refine ⟨fun h => h, ?_⟩ | refine ⟨pk1, ?_⟩ | refine ⟨pk2, ?_⟩ | refine ⟨pk3, ?_⟩ | refine ⟨pk4, ?_⟩ | refine ⟨pk5, ?_⟩ | refine ⟨pk6, ?_⟩ | refine ⟨trivial, ?_⟩ | refine ⟨fun _ => trivial, ?_⟩ | refine ⟨rfl, ?_⟩ | refine every_i (fun hd => ?_) | refine everyN_i (fun k hk => ?_) | refine everyD_i (fun d hd => ?_) | refine fork_t (by assumption) ?_ | refine fork_f (by assumption) ?_
        | refine fork_t rfl ?_
        | refine fork_f rfl ?_
        | with_reducible first | refine fork_i (fun h => ?_) (fun h => ?_) | refine both_i ?_ ?_
        | ((with_reducible refine alike_i ?_); exact ⟨rfl, rfl, rfl⟩)
        | ((with_reducible refine fin_i ?_); (conv => whnf); refine ⟨rfl, ?_⟩)
        | refine ⟨hnp, ?_⟩
        | refine ⟨of_decide_eq_true rfl, ?_⟩
        | refine ⟨fun _ => of_decide_eq_true rfl, ?_⟩
        | ((with_reducible refine ⟨?_, ?_⟩); (focus (intros; simp_all; done)))
        | ((with_reducible refine ⟨?_, ?_⟩); (focus (intros; omega)))) <;> (try (conv => whnf)))
      all_goals ((with_reducible refine leaf_i ?_); (conv => whnf))
      repeat' ((with_reducible refine And.intro ?_ ?_) <;> (try (conv => whnf)))
      all_goals (try (first | with_reducible rfl | exact True.intro | rfl | exact id | exact fun h => h | exact fun _ => rfl))
      all_goals trace_state
end Go.Proofs.Ytgmbmpojcnmcgaa

/- Layer 13: what Reduce makes, key by key; the document's rows, and that they are the code's. -/
namespace Go.Proofs.Ytgmbmpojcnmcgaa
set_option maxRecDepth 100000
open Go Go.RowKit Go.Sort Go.Proofs.Ytgmbmpojcnmcgaa.Eng
def redK (a k : Int) (l : List Rec) : Option Int := l.foldl (fun o r => if r.1 = k then some (stepV a o r.2.1) else o) none
theorem redK_take {a k : Int} {l : List Rec} {j : Nat} (h : j < l.length) : redK a k (l.take (j + 1)) = if (getE tR l j).1 = k then some (stepV a (redK a k (l.take j)) (getE tR l j).2.1) else redK a k (l.take j) := by
  unfold redK; rw [take_get l h, List.foldl_append]; rfl
def redD (n : Nd) (k : Int) (l : List Rec) : Rec := (k, (redK n.2.1 k l).getD 0, ())
def keysF (l : List Rec) : List Int := l.foldl (fun ks r => if r.1 ∈ ks then ks else ks ++ [r.1]) []
theorem keysF_take {l : List Rec} {j : Nat} (h : j < l.length) : keysF (l.take (j + 1)) = if (getE tR l j).1 ∈ keysF (l.take j) then keysF (l.take j) else keysF (l.take j) ++ [(getE tR l j).1] := by
  unfold keysF; rw [take_get l h, List.foldl_append]; rfl
theorem keysF_mem {l : List Rec} : ∀ (j : Nat), j ≤ l.length → ∀ k, k ∈ keysF (l.take j) ↔ ∃ r ∈ l.take j, r.1 = k
  | 0, _, k => by simp [keysF]
  | j + 1, hj, k => by
    have ih := keysF_mem (l := l) j (by omega)
    rw [keysF_take (by omega), take_get l (by omega)]
    split
    · rename_i hin
      rw [ih]
      constructor
      · rintro ⟨r, h1, h2⟩; exact ⟨r, by simp [h1], h2⟩
      · rintro ⟨r, h1, h2⟩
        rcases List.mem_append.1 h1 with h1 | h1
        · exact ⟨r, h1, h2⟩
        · rw [List.mem_singleton] at h1; subst h1; rw [← h2]; exact (ih _).1 hin
    · rw [List.mem_append, ih, List.mem_singleton]
      constructor
      · rintro (⟨r, h1, h2⟩ | h)
        · exact ⟨r, by simp [h1], h2⟩
        · exact ⟨getE tR l j, by simp, h.symm⟩
      · rintro ⟨r, h1, h2⟩
        rcases List.mem_append.1 h1 with h1 | h1
        · exact .inl ⟨r, h1, h2⟩
        · rw [List.mem_singleton] at h1; subst h1; exact .inr h2.symm
theorem keysF_nodup {l : List Rec} : ∀ (j : Nat), j ≤ l.length → (keysF (l.take j)).Nodup
  | 0, _ => by simp [keysF]
  | j + 1, hj => by
    have ih := keysF_nodup (l := l) j (by omega)
    rw [keysF_take (by omega)]
    split
    · exact ih
    · rename_i hin
      exact List.nodup_append.2 ⟨ih, by simp, fun a ha b hb => by rw [List.mem_singleton] at hb; subst hb; exact fun e => hin (e ▸ ha)⟩
theorem redK_none {a k : Int} {l : List Rec} : ∀ (j : Nat), j ≤ l.length → (redK a k (l.take j) = none ↔ ¬ ∃ r ∈ l.take j, r.1 = k)
  | 0, _ => by simp [redK]
  | j + 1, hj => by
    have ih := redK_none (a := a) (k := k) (l := l) j (by omega)
    rw [redK_take (by omega), take_get l (by omega)]
    split
    · rename_i e
      constructor
      · intro h; cases h
      · intro h; exact absurd ⟨getE tR l j, by simp, e⟩ h
    · rename_i e
      rw [ih]
      constructor
      · rintro h ⟨r, h1, h2⟩
        rcases List.mem_append.1 h1 with h1 | h1
        · exact h ⟨r, h1, h2⟩
        · rw [List.mem_singleton] at h1; subst h1; exact e h2
      · rintro h ⟨r, h1, h2⟩; exact h ⟨r, by simp [h1], h2⟩
theorem find_map {f : Int → Int} {k : Int} : ∀ (ks : List Int), findM tI' (k, ()) (ks.map fun k => (((k, ()) : El tI'), ((f k, ()) : El tI'))) = if k ∈ ks then some (f k, ()) else none
  | [] => rfl
  | x :: r => by
    have ih := find_map (f := f) (k := k) r
    simp only [List.map_cons, findM, eqI', List.mem_cons]
    by_cases h : k = x
    · subst h; simp
    · simp only [beq_false_of_ne h, cond_false, ih]
      simp [h]
theorem put_map {f : Int → Int} {k v : Int} : ∀ (ks : List Int), ks.Nodup → putM tI' (k, ()) (v, ()) (ks.map fun k => (((k, ()) : El tI'), ((f k, ()) : El tI'))) = if k ∈ ks then ks.map fun k' => ((k', ()), (if k' = k then v else f k', ())) else (ks.map fun k => ((k, ()), (f k, ()))) ++ [((k, ()), (v, ()))]
  | [], _ => rfl
  | x :: r, hn => by
    have hn2 := List.nodup_cons.1 hn
    have ih := put_map (f := f) (k := k) (v := v) r hn2.2
    simp only [List.map_cons, putM, eqI', List.mem_cons]
    by_cases h : k = x
    · subst h
      have hr : (r.map fun k' => (((k', ()) : El tI'), ((if k' = k then v else f k', ()) : El tI'))) = r.map fun k => ((k, ()), (f k, ())) := List.map_congr_left fun y hy => by rw [if_neg (fun e : y = k => hn2.1 (e ▸ hy))]
      simp [hr]
    · have h' : ¬ x = k := fun e => h e.symm
      simp only [beq_false_of_ne h, cond_false, ih]
      by_cases h2 : k ∈ r
      · simp [h, h', h2]
      · simp [h, h2]
theorem redM_spec {a : Int} {l : List Rec} : ∀ (j : Nat), j ≤ l.length → redM a (l.take j) = (keysF (l.take j)).map fun k => ((k, ()), ((redK a k (l.take j)).getD 0, ()))
  | 0, _ => rfl
  | j + 1, hj => by
    have ih := redM_spec (a := a) (l := l) j (by omega)
    have hj' : j < l.length := by omega
    have hn := keysF_nodup (l := l) j (by omega)
    rw [redM_take hj', ih]
    unfold redS
    rw [find_map (f := fun k => (redK a k (l.take j)).getD 0), put_map (f := fun k => (redK a k (l.take j)).getD 0) _ hn, keysF_take hj']
    by_cases hin : (getE tR l j).1 ∈ keysF (l.take j)
    · have hs : ∃ o, redK a (getE tR l j).1 (l.take j) = some o := by
        cases hr : redK a (getE tR l j).1 (l.take j) with
        | some o => exact ⟨o, rfl⟩
        | none => exact absurd ((keysF_mem j (by omega) _).1 hin) ((redK_none j (by omega)).1 hr)
      obtain ⟨o, ho⟩ := hs
      simp only [if_pos hin]
      apply List.map_congr_left
      intro k hk
      rw [redK_take hj']
      by_cases e : k = (getE tR l j).1
      · subst e
        rw [if_pos rfl, if_pos rfl, ho]
        rfl
      · rw [if_neg e, if_neg (fun h => e h.symm)]
    · have hs : redK a (getE tR l j).1 (l.take j) = none := (redK_none j (by omega)).2 (fun h => hin ((keysF_mem j (by omega) _).2 h))
      simp only [if_neg hin, List.map_append, List.map_cons, List.map_nil]
      congr 1
      · apply List.map_congr_left
        intro k hk
        rw [redK_take hj', if_neg (fun h => hin (by rw [h]; exact hk))]
      · rw [redK_take hj', if_pos rfl, hs]
        rfl
def firstB (l : List Rec) (i : Nat) : Bool := !(l.take i).any fun r => r.1 == (getE tR l i).1
theorem first_iff {l : List Rec} {i : Nat} (h : i < l.length) : firstB l i = true ↔ ¬ (getE tR l i).1 ∈ keysF (l.take i) := by
  rw [keysF_mem i (by omega)]
  unfold firstB
  rw [Bool.not_eq_true', Bool.eq_false_iff, ne_eq, List.any_eq_true]
  simp only [beq_iff_eq]
theorem firsts {α : Type} {f : Int → α} {l : List Rec} : ∀ (j : Nat), j ≤ l.length → ((List.range j).flatMap fun i => if firstB l i = true then [f (getE tR l i).1] else []) = (keysF (l.take j)).map f
  | 0, _ => rfl
  | j + 1, hj => by
    have ih := firsts (f := f) (l := l) j (by omega)
    have hi := first_iff (l := l) (i := j) (by omega)
    rw [List.range_succ, List.flatMap_append, ih, keysF_take (by omega)]
    by_cases h : (getE tR l j).1 ∈ keysF (l.take j)
    · rw [if_pos h]; simp [hi, h]
    · rw [if_neg h]; simp [hi, h]
theorem redR_firsts (n : Nd) (l : List Rec) : redR n l = (List.range l.length).flatMap fun i => if firstB l i = true then [redD n (getE tR l i).1 l] else [] := by
  have h := redM_spec (a := n.2.1) (l := l) l.length (Nat.le_refl _)
  rw [firsts (f := fun k => redD n k l) l.length (Nat.le_refl _)]
  unfold redR
  rw [List.take_length] at h
  rw [h, List.map_map, List.take_length]
  rfl
def itemN (n : Nd) (b : List Rec) (p : Nat) (x : List Rec) (i : Nat) : List Rec :=
  if n.1 = 2 then [mapR n (getE tR x i)] else if n.1 = 3 then (if filR n (getE tR x i) = true then [getE tR x i] else []) else if n.1 = 5 then (if firstB x i = true then [redD n (getE tR x i).1 x] else [])
  else if n.1 = 6 then (if p = 0 then join1 b (getE tR x i) else []) else [getE tR x i]
def rowN (n : Nd) (b : List Rec) (p : Nat) (x : List Rec) (j : Nat) : List Rec := (List.range j).flatMap (itemN n b p x)
def rmakeN (n : Nd) (l : List (El tRR)) (j : Nat) : List Rec := (List.range j).flatMap fun p => rowN n (getE tRR l 1).1 p (getE tRR l p).1 (getE tRR l p).1.length
theorem flat_get {α : Type} {f : Rec → List α} {x : List Rec} : ∀ (j : Nat), j ≤ x.length → ((List.range j).flatMap fun i => f (getE tR x i)) = (x.take j).flatMap f
  | 0, _ => rfl
  | j + 1, hj => by
    rw [List.range_succ, List.flatMap_append, flat_get j (by omega), take_get x (by omega), List.flatMap_append]
    rfl
theorem flat_gets {α : Type} {f : Rec → List α} {x : List Rec} : ((List.range x.length).flatMap fun i => f (getE tR x i)) = x.flatMap f := by
  rw [flat_get x.length (Nat.le_refl _), List.take_length]
theorem flat_rows {α : Type} {f : List Rec → List α} {l : List (El tRR)} : ∀ (j : Nat), j ≤ l.length → ((List.range j).flatMap fun p => f (getE tRR l p).1) = (l.take j).flatMap fun x => f x.1
  | 0, _ => rfl
  | j + 1, hj => by
    rw [List.range_succ, List.flatMap_append, flat_rows j (by omega), take_get l (by omega), List.flatMap_append]
    rfl
theorem flat_nil {α β : Type} (l : List α) : (l.flatMap fun _ => ([] : List β)) = [] := by induction l with | nil => rfl | cons x r ih => rw [List.flatMap_cons, ih]; rfl
theorem flat_one {α β : Type} (f : α → β) (l : List α) : (l.flatMap fun x => [f x]) = l.map f := by induction l with | nil => rfl | cons x r ih => rw [List.flatMap_cons, ih]; rfl
theorem flat_fil (f : Rec → Bool) (l : List Rec) : (l.flatMap fun x => if f x = true then [x] else []) = l.filter f := by
  induction l with
  | nil => rfl
  | cons x r ih =>
    rw [List.flatMap_cons, ih, List.filter_cons]
    cases f x <;> rfl
theorem range_one : List.range 1 = [0] := rfl
theorem range_two : List.range 2 = [0, 1] := rfl
theorem make_same {n : Nd} {l : List (El tRR)} (hl : (l.length : Int) = arityN n.1) : rmakeN n l l.length = makeN n l := by
  by_cases h2 : n.1 = 2
  · have hl : l.length = 1 := by rw [h2] at hl; have : (l.length : Int) = 1 := hl; omega
    unfold rmakeN makeN
    rw [if_pos h2, hl, range_one, List.flatMap_cons, List.flatMap_nil, List.append_nil]
    unfold rowN itemN
    simp only [if_pos h2]
    rw [flat_gets (f := fun x => [mapR n x]), flat_one]
  by_cases h3 : n.1 = 3
  · have hl : l.length = 1 := by rw [h3] at hl; have : (l.length : Int) = 1 := hl; omega
    unfold rmakeN makeN
    rw [if_neg h2, if_pos h3, hl, range_one, List.flatMap_cons, List.flatMap_nil, List.append_nil]
    unfold rowN itemN
    simp only [if_neg h2, if_pos h3]
    rw [flat_gets (f := fun x => if filR n x = true then [x] else []), flat_fil]
  by_cases h5 : n.1 = 5
  · have hl : l.length = 1 := by rw [h5] at hl; have : (l.length : Int) = 1 := hl; omega
    unfold rmakeN makeN
    rw [if_neg h2, if_neg h3, if_pos h5, hl, range_one, List.flatMap_cons, List.flatMap_nil, List.append_nil]
    unfold rowN itemN
    simp only [if_neg h2, if_neg h3, if_pos h5]
    rw [redR_firsts]
  by_cases h6 : n.1 = 6
  · have hl : l.length = 2 := by rw [h6] at hl; have : (l.length : Int) = 2 := hl; omega
    unfold rmakeN makeN
    rw [if_neg h2, if_neg h3, if_neg h5, if_pos h6, hl, range_two, List.flatMap_cons, List.flatMap_cons, List.flatMap_nil, List.append_nil]
    unfold rowN itemN
    simp only [if_neg h2, if_neg h3, if_neg h5, if_pos h6]
    simp only [if_true, Nat.one_ne_zero, if_false]
    rw [flat_nil, List.append_nil, flat_gets (f := join1 (getE tRR l 1).1)]
    rfl
  · unfold rmakeN makeN
    rw [if_neg h2, if_neg h3, if_neg h5, if_neg h6]
    unfold rowN itemN
    simp only [if_neg h2, if_neg h3, if_neg h5, if_neg h6]
    have e : ∀ x : List Rec, ((List.range x.length).flatMap fun i => [getE tR x i]) = x := fun x => by
      rw [flat_gets (f := fun x => [x]), flat_one]; simp
    simp only [e]
    have := flat_rows (f := fun x => x) (l := l) l.length (Nat.le_refl _)
    rw [List.take_length] at this
    exact this
end Go.Proofs.Ytgmbmpojcnmcgaa
