/- Layer 8: the document's Least, and what the statements use. -/
import Derived.Test.YthlkhjfilfdpiaaD08N
namespace Go.Proofs.Ythlkhjfilfdpiaa
set_option linter.unusedVariables false
set_option linter.unusedSimpArgs false
set_option maxRecDepth 100000
open Go Go.RowKit Go.Sort Go.Shelf Go.Proofs.Ythlkhjfilfdpiaa.Eng

def numsS (x : El tS) : List (El tI') := [(x.1, ()), (x.2.1, ()), (x.2.2.1, ()), (x.2.2.2.1, ()), (x.2.2.2.2.1, ()), (x.2.2.2.2.2.1, ()), (x.2.2.2.2.2.2.1, ())]
def k_nums : Sig := .arg (shT tS) fun x => .done { pre := True, res := .rl true tI' (numsS x) }
theorem c_nums : FnOk Try.prog 48 k_nums.con := by
  refine fnOkS mixed tys_ok (cs := []) trivial Try.func48 rfl (by kernel_rfl) Try.ntmps48 _ (h := ?_)
  intro x
  refine ⟨rfl, fun _ => ?_⟩
  conv => whnf
  repeat' ((first
    | with_reducible refine ⟨fun h => h, ?_⟩
    | with_reducible refine ⟨pk1, ?_⟩
    | with_reducible refine ⟨pk2, ?_⟩
    | with_reducible refine ⟨pk3, ?_⟩
    | with_reducible refine ⟨pk4, ?_⟩
    | with_reducible refine ⟨pk5, ?_⟩
    | with_reducible refine ⟨pk6, ?_⟩
    | with_reducible refine ⟨trivial, ?_⟩
    | with_reducible refine ⟨fun _ => trivial, ?_⟩
    | with_reducible refine fork_t (by assumption) ?_
    | with_reducible refine fork_f (by assumption) ?_
    | refine fork_t rfl ?_
    | refine fork_f rfl ?_
    | with_reducible refine fork_i (fun h => ?_) (fun h => ?_)
    | with_reducible refine both_i ?_ ?_
    | ((with_reducible refine alike_i ?_); exact ⟨rfl, rfl, rfl⟩)
    | ((with_reducible refine fin_i ?_); (conv => whnf); refine ⟨rfl, ?_⟩)
    | refine ⟨of_decide_eq_true rfl, ?_⟩
    | refine ⟨fun _ => of_decide_eq_true rfl, ?_⟩
    | ((with_reducible refine ⟨?_, ?_⟩); (focus (intros; simp_all; done)))
    | ((with_reducible refine ⟨?_, ?_⟩); (focus (intros; omega)))) <;> (try (conv => whnf)))
  all_goals ((with_reducible refine leaf_i ?_); (conv => whnf))
  repeat' ((with_reducible refine And.intro ?_ ?_) <;> (try (conv => whnf)))
  all_goals (try (first | with_reducible rfl | exact True.intro | rfl | exact id | exact fun h => h | exact fun _ => rfl))
  all_goals first | rfl | trace_state
def aheadR (x y : El tS) : Bool := bif x.1 != y.1 then decide (x.1 < y.1) else bif x.2.1 != y.2.1 then decide (x.2.1 < y.2.1) else bif x.2.2.1 != y.2.2.1 then decide (x.2.2.1 < y.2.2.1) else bif x.2.2.2.1 != y.2.2.2.1 then decide (x.2.2.2.1 < y.2.2.2.1) else bif x.2.2.2.2.1 != y.2.2.2.2.1 then decide (x.2.2.2.2.1 < y.2.2.2.2.1) else bif x.2.2.2.2.2.1 != y.2.2.2.2.2.1 then decide (x.2.2.2.2.2.1 < y.2.2.2.2.2.1) else bif x.2.2.2.2.2.2.1 != y.2.2.2.2.2.2.1 then decide (x.2.2.2.2.2.2.1 < y.2.2.2.2.2.2.1) else false
def k_aheadR : Sig := .arg (shT tS) fun x => .arg (shT tS) fun y => .done { pre := True, res := B (aheadR x y) }
set_option maxHeartbeats 4000000 in
theorem c_aheadR : FnOk Try.prog 40 k_aheadR.con := by
  refine fnOkS mixed tys_ok (cs := [(48, k_nums.con)]) ⟨c_nums, trivial⟩ Try.func40 rfl (by kernel_rfl) Try.ntmps40 _ (h := ?_)
  intro x y
  refine ⟨rfl, fun _ => ?_⟩
  conv => whnf
  repeat' ((first
    | with_reducible refine ⟨fun h => h, ?_⟩
    | with_reducible refine ⟨pk1, ?_⟩
    | with_reducible refine ⟨pk2, ?_⟩
    | with_reducible refine ⟨pk3, ?_⟩
    | with_reducible refine ⟨pk4, ?_⟩
    | with_reducible refine ⟨pk5, ?_⟩
    | with_reducible refine ⟨pk6, ?_⟩
    | with_reducible refine ⟨trivial, ?_⟩
    | with_reducible refine ⟨fun _ => trivial, ?_⟩
    | with_reducible refine fork_t (by assumption) ?_
    | with_reducible refine fork_f (by assumption) ?_
    | refine fork_t rfl ?_
    | refine fork_f rfl ?_
    | with_reducible refine fork_i (fun h => ?_) (fun h => ?_)
    | with_reducible refine unroll 8 ?_
    | with_reducible refine both_i ?_ ?_
    | ((with_reducible refine alike_i ?_); exact ⟨rfl, rfl, rfl⟩)
    | ((with_reducible refine fin_i ?_); (conv => whnf); refine ⟨rfl, ?_⟩)
    | refine ⟨of_decide_eq_true rfl, ?_⟩
    | refine ⟨fun _ => of_decide_eq_true rfl, ?_⟩
    | ((with_reducible refine ⟨?_, ?_⟩); (focus (intros; simp_all; done)))
    | ((with_reducible refine ⟨?_, ?_⟩); (focus (intros; omega)))) <;> (try (conv => whnf)))
  all_goals ((with_reducible refine leaf_i ?_); (conv => whnf))
  repeat' ((with_reducible refine And.intro ?_ ?_) <;> (try (conv => whnf)))
  all_goals (try (first | with_reducible rfl | exact True.intro | rfl | exact id | exact fun h => h | exact fun _ => rfl))
  all_goals
    have g0 : ∀ x : El tS, (getE tI' (numsS x) (Int.toNat (0))).1 = x.1 := fun _ => rfl
    have g1 : ∀ x : El tS, (getE tI' (numsS x) (Int.toNat (IntKind.i64.wrap (0 + 1)))).1 = x.2.1 := fun _ => rfl
    have g2 : ∀ x : El tS, (getE tI' (numsS x) (Int.toNat (IntKind.i64.wrap (IntKind.i64.wrap (0 + 1) + 1)))).1 = x.2.2.1 := fun _ => rfl
    have g3 : ∀ x : El tS, (getE tI' (numsS x) (Int.toNat (IntKind.i64.wrap (IntKind.i64.wrap (IntKind.i64.wrap (0 + 1) + 1) + 1)))).1 = x.2.2.2.1 := fun _ => rfl
    have g4 : ∀ x : El tS, (getE tI' (numsS x) (Int.toNat (IntKind.i64.wrap (IntKind.i64.wrap (IntKind.i64.wrap (IntKind.i64.wrap (0 + 1) + 1) + 1) + 1)))).1 = x.2.2.2.2.1 := fun _ => rfl
    have g5 : ∀ x : El tS, (getE tI' (numsS x) (Int.toNat (IntKind.i64.wrap (IntKind.i64.wrap (IntKind.i64.wrap (IntKind.i64.wrap (IntKind.i64.wrap (0 + 1) + 1) + 1) + 1) + 1)))).1 = x.2.2.2.2.2.1 := fun _ => rfl
    have g6 : ∀ x : El tS, (getE tI' (numsS x) (Int.toNat (IntKind.i64.wrap (IntKind.i64.wrap (IntKind.i64.wrap (IntKind.i64.wrap (IntKind.i64.wrap (IntKind.i64.wrap (0 + 1) + 1) + 1) + 1) + 1) + 1)))).1 = x.2.2.2.2.2.2.1 := fun _ => rfl
    simp only [g0, g1, g2, g3, g4, g5, g6] at *
    simp [aheadR, *]

def sameS (a b : List (El tS)) : Bool := decide (a.length = b.length) && (a.zip b).all fun p => eqS p.1 p.2
def k_sameS : Sig := .arg (shR tS) fun a => .arg (shR tS) fun b => .done { pre := a.length < 4611686018427387904, res := B (sameS a b) }
def sameG : List (El tS) → List (El tS) → Bool
  | [], _ => true
  | _, [] => true
  | x :: r, y :: s => if eqS x y = true then sameG r s else false
theorem sameG_all : ∀ (a b : List (El tS)), sameG a b = (a.zip b).all fun p => eqS p.1 p.2
  | [], _ => by simp [sameG]
  | _ :: _, [] => by simp [sameG]
  | x :: r, y :: s => by
    simp only [sameG, List.zip_cons_cons, List.all_cons]
    rw [sameG_all r s]
    cases eqS x y <;> simp
set_option maxHeartbeats 4000000 in
theorem c_sameS : FnOk Try.prog 27 k_sameS.con := by
  refine fnOkS mixed tys_ok (cs := []) trivial Try.func27 rfl (by kernel_rfl) Try.ntmps27 _ (h := ?_)
  intro a b
  refine ⟨rfl, fun hp => ?_⟩
  conv => whnf
  repeat' ((first
    | with_reducible refine ⟨fun h => h, ?_⟩
    | with_reducible refine ⟨pk1, ?_⟩
    | with_reducible refine ⟨pk2, ?_⟩
    | with_reducible refine ⟨pk3, ?_⟩
    | with_reducible refine ⟨pk4, ?_⟩
    | with_reducible refine ⟨pk5, ?_⟩
    | with_reducible refine ⟨pk6, ?_⟩
    | with_reducible refine ⟨trivial, ?_⟩
    | with_reducible refine ⟨fun _ => trivial, ?_⟩
    | with_reducible refine fork_t (by assumption) ?_
    | with_reducible refine fork_f (by assumption) ?_
    | refine fork_t rfl ?_
    | refine fork_f rfl ?_
    | with_reducible refine fork_i (fun h => ?_) (fun h => ?_)
    | with_reducible refine both_i ?_ ?_
    | ((with_reducible refine alike_i ?_); exact ⟨rfl, rfl, rfl⟩)
    | ((with_reducible refine fin_i ?_); (conv => whnf); refine ⟨rfl, ?_⟩)
    | refine ⟨of_decide_eq_true rfl, ?_⟩
    | refine ⟨fun _ => of_decide_eq_true rfl, ?_⟩
    | ((with_reducible refine ⟨?_, ?_⟩); (focus (intros; simp_all; done)))
    | ((with_reducible refine ⟨?_, ?_⟩); (focus (intros; omega)))) <;> (try (conv => whnf)))
  · have h : ¬ a.length = b.length := by
      intro e
      have h : ((a.length : Int) != (b.length : Int)) = true := h
      rw [e] at h; simp at h
    all_goals ((with_reducible refine leaf_i ?_); (conv => whnf))
    repeat' ((with_reducible refine And.intro ?_ ?_) <;> (try (conv => whnf)))
    all_goals (try (first | with_reducible rfl | exact True.intro | rfl | exact id | exact fun h => h | exact fun _ => rfl))
    all_goals (unfold sameS; simp [h])
  · have hl : a.length = b.length := by
      have h : ((a.length : Int) != (b.length : Int)) = false := h
      have h2 : (a.length : Int) = b.length := by simpa using h
      omega
    refine looped (σ := Nat) (fun j => [(5, I j)]) (fun _ => []) (fun j => j ≤ a.length ∧ sameG (a.drop j) (b.drop j) = sameG a b) (fun j => a.length - j) 0 ⟨Nat.zero_le _, rfl⟩ ?_ ?_
    · conv => whnf
      refine ⟨rfl, leaf_i ?_⟩
      repeat' ((with_reducible refine And.intro ?_ ?_) <;> (try (conv => whnf)))
      all_goals (try (first | with_reducible rfl | exact True.intro | rfl | exact id | exact fun h => h | exact fun _ => rfl))
    · rintro j ⟨hj, hs⟩
      dsimp only at hj hs ⊢
      conv => whnf
      repeat' ((first
        | with_reducible refine ⟨fun h => h, ?_⟩
        | with_reducible refine ⟨pk1, ?_⟩
        | with_reducible refine ⟨pk2, ?_⟩
        | with_reducible refine ⟨pk3, ?_⟩
        | with_reducible refine ⟨pk4, ?_⟩
        | with_reducible refine ⟨pk5, ?_⟩
        | with_reducible refine ⟨pk6, ?_⟩
        | with_reducible refine ⟨trivial, ?_⟩
        | with_reducible refine ⟨fun _ => trivial, ?_⟩
        | with_reducible refine fork_t (by assumption) ?_
        | with_reducible refine fork_f (by assumption) ?_
        | refine fork_t rfl ?_
        | refine fork_f rfl ?_
        | with_reducible refine fork_i (fun h => ?_) (fun h => ?_)
        | with_reducible refine both_i ?_ ?_
        | ((with_reducible refine alike_i ?_); exact ⟨rfl, rfl, rfl⟩)
        | ((with_reducible refine fin_i ?_); (conv => whnf); refine ⟨rfl, ?_⟩)
        | refine ⟨of_decide_eq_true rfl, ?_⟩
        | refine ⟨fun _ => of_decide_eq_true rfl, ?_⟩
        | ((with_reducible refine ⟨?_, ?_⟩); (focus (intros; simp_all; done)))
        | ((with_reducible refine ⟨?_, ?_⟩); (focus (intros; omega)))) <;> (try (conv => whnf)))
      · rename_i hb
        have hb := lt_t' hb
        have h : (!eqS (getE tS a j) (getE tS b j)) = true := h
        have hne : ¬ eqS (getE tS a j) (getE tS b j) = true := fun e => by rw [e] at h; cases h
        rw [drop_get' _ hb, drop_get' _ (show j < b.length by omega), sameG, if_neg hne] at hs
        all_goals ((with_reducible refine leaf_i ?_); (conv => whnf))
        repeat' ((with_reducible refine And.intro ?_ ?_) <;> (try (conv => whnf)))
        all_goals (try (first | with_reducible rfl | exact True.intro | rfl | exact id | exact fun h => h | exact fun _ => rfl))
        all_goals (unfold sameS; rw [← sameG_all, ← hs]; simp)
      · rename_i hb
        have hb := lt_t' hb
        have h : (!eqS (getE tS a j) (getE tS b j)) = false := h
        have he : eqS (getE tS a j) (getE tS b j) = true := by simpa using h
        rw [drop_get' _ hb, drop_get' _ (show j < b.length by omega), sameG, if_pos he] at hs
        refine next_i (j + 1) ⟨hb, hs⟩ (by omega) rfl rfl ?_
        conv => whnf
        refine ⟨rfl, leaf_i ?_⟩
        repeat' ((with_reducible refine And.intro ?_ ?_) <;> (try (conv => whnf)))
        all_goals (try (first | with_reducible rfl | exact True.intro | rfl | exact id | exact fun h => h | exact fun _ => rfl))
        all_goals first | exact wrapS' (by omega) | rfl | trace_state
      · have hb := lt_f' h
        rw [List.drop_eq_nil_of_le hb, sameG] at hs
        all_goals ((with_reducible refine leaf_i ?_); (conv => whnf))
        repeat' ((with_reducible refine And.intro ?_ ?_) <;> (try (conv => whnf)))
        all_goals (try (first | with_reducible rfl | exact True.intro | rfl | exact id | exact fun h => h | exact fun _ => rfl))
        all_goals (unfold sameS; rw [← sameG_all, ← hs]; simp [hl])

def k_rows : Sig := .arg (shR tS) fun l => .done { pre := l.length ≤ 1000000, res := .rl true tS l }
set_option maxHeartbeats 4000000 in
theorem c_rows : FnOk Try.prog 25 k_rows.con := by
  refine fnOkS mixed tys_ok (cs := [(13, k_plain.con)]) ⟨c_plain, trivial⟩ Try.func25 rfl (by kernel_rfl) Try.ntmps25 _ (h := ?_)
  intro l
  refine ⟨rfl, fun hp => ?_⟩
  have hp : l.length ≤ 1000000 := hp
  conv => whnf
  repeat' ((first
    | with_reducible refine ⟨fun h => h, ?_⟩
    | with_reducible refine ⟨pk1, ?_⟩
    | with_reducible refine ⟨pk2, ?_⟩
    | with_reducible refine ⟨pk3, ?_⟩
    | with_reducible refine ⟨pk4, ?_⟩
    | with_reducible refine ⟨pk5, ?_⟩
    | with_reducible refine ⟨pk6, ?_⟩
    | with_reducible refine ⟨trivial, ?_⟩
    | with_reducible refine ⟨fun _ => trivial, ?_⟩
    | with_reducible refine fork_t (by assumption) ?_
    | with_reducible refine fork_f (by assumption) ?_
    | refine fork_t rfl ?_
    | refine fork_f rfl ?_
    | with_reducible refine fork_i (fun h => ?_) (fun h => ?_)
    | with_reducible refine both_i ?_ ?_
    | ((with_reducible refine alike_i ?_); exact ⟨rfl, rfl, rfl⟩)
    | ((with_reducible refine fin_i ?_); (conv => whnf); refine ⟨rfl, ?_⟩)
    | refine ⟨of_decide_eq_true rfl, ?_⟩
    | refine ⟨fun _ => of_decide_eq_true rfl, ?_⟩
    | ((with_reducible refine ⟨?_, ?_⟩); (focus (intros; simp_all; done)))
    | ((with_reducible refine ⟨?_, ?_⟩); (focus (intros; omega)))) <;> (try (conv => whnf)))
  refine looped (σ := Nat) (fun j => [(4, I j), (3, .ow 0 7 j)]) (fun j => [.row true tS 30 (l.take j)]) (fun j => j ≤ l.length) (fun j => l.length - j) 0 (Nat.zero_le _) ?_ ?_
  · conv => whnf
    refine ⟨rfl, leaf_i ?_⟩
    repeat' ((with_reducible refine And.intro ?_ ?_) <;> (try (conv => whnf)))
    all_goals (try (first | with_reducible rfl | exact True.intro | rfl | exact id | exact fun h => h | exact fun _ => rfl))
    all_goals first | rfl | trace_state
  · rintro j hj
    dsimp only at hj ⊢
    conv => whnf
    repeat' ((first
      | with_reducible refine ⟨fun h => h, ?_⟩
      | with_reducible refine ⟨pk1, ?_⟩
      | with_reducible refine ⟨pk2, ?_⟩
      | with_reducible refine ⟨pk3, ?_⟩
      | with_reducible refine ⟨pk4, ?_⟩
      | with_reducible refine ⟨pk5, ?_⟩
      | with_reducible refine ⟨pk6, ?_⟩
      | with_reducible refine ⟨trivial, ?_⟩
      | with_reducible refine ⟨fun _ => trivial, ?_⟩
      | with_reducible refine fork_t (by assumption) ?_
      | with_reducible refine fork_f (by assumption) ?_
      | refine fork_t rfl ?_
      | refine fork_f rfl ?_
      | with_reducible refine fork_i (fun h => ?_) (fun h => ?_)
      | with_reducible refine both_i ?_ ?_
      | ((with_reducible refine alike_i ?_); exact ⟨rfl, rfl, rfl⟩)
      | ((with_reducible refine fin_i ?_); (conv => whnf); refine ⟨rfl, ?_⟩)
      | ((with_reducible refine ⟨?_, ?_⟩); (focus (rw [List.length_append, List.length_singleton, List.length_take]; omega)))
      | refine ⟨of_decide_eq_true rfl, ?_⟩
      | refine ⟨fun _ => of_decide_eq_true rfl, ?_⟩
      | ((with_reducible refine ⟨?_, ?_⟩); (focus (intros; simp_all; done)))
      | ((with_reducible refine ⟨?_, ?_⟩); (focus (intros; omega)))) <;> (try (conv => whnf)))
    · have hb := lt_t' h
      refine next_i (j + 1) (by omega) (by omega) rfl rfl ?_
      conv => whnf
      refine ⟨rfl, leaf_i ?_⟩
      repeat' ((with_reducible refine And.intro ?_ ?_) <;> (try (conv => whnf)))
      all_goals (try (first | with_reducible rfl | exact True.intro | rfl | exact id | exact fun h => h | exact fun _ => rfl))
      all_goals first | exact wrapS' (by omega) | rfl | (show l.take j ++ [getE tS l j] = l.take (j + 1); rw [List.take_succ_eq_append_getElem hb]; congr 2; simp [getE, List.getD, hb]; done) | (simp [Nat.min_eq_left (Nat.le_of_lt hb)]; done) | trace_state
    · have hb := lt_f' h
      have hll : j = l.length := by omega
      all_goals ((with_reducible refine leaf_i ?_); (conv => whnf))
      repeat' ((with_reducible refine And.intro ?_ ?_) <;> (try (conv => whnf)))
      all_goals (try (first | with_reducible rfl | exact True.intro | rfl | exact id | exact fun h => h | exact fun _ => rfl))
      all_goals first | rfl | (rw [hll, List.take_length]) | trace_state

/-- The document's Least. -/
def hitR (l : List (El tS)) (i k : Nat) : Bool := bif (bif !eqS (getE tS l k) (getE tS l i) then leS (toS (getE tS l k)) (toS (getE tS l i)) else false) then true else (bif decide ((k : Int) < i) then eqS (getE tS l k) (getE tS l i) else false)
def hits (l : List (El tS)) (i : Nat) : Nat → Nat → Bool
  | 0, _ => false
  | n + 1, k => hitR l i k || hits l i n (k + 1)
def staysR (l : List (El tS)) (i : Nat) : Bool := (toS (getE tS l i)).ok && !hits l i l.length 0
def posR (x : El tS) : List (El tS) → Nat
  | [] => 0
  | y :: r => if aheadR y x = true then posR x r + 1 else 0
theorem posR_le (x : El tS) : ∀ l, posR x l ≤ l.length
  | [] => Nat.le_refl _
  | y :: r => by
    simp only [posR]
    split
    · have := posR_le x r; simp only [List.length_cons]; omega
    · omega
def insR (x : El tS) (l : List (El tS)) : List (El tS) := l.take (posR x l) ++ [x] ++ l.drop (posR x l)
theorem insR_len (x : El tS) (l : List (El tS)) : (insR x l).length = l.length + 1 := by
  have := posR_le x l
  simp [insR]; omega
def leR (l : List (El tS)) : Nat → Nat → List (El tS) → List (El tS)
  | 0, _, out => out
  | n + 1, i, out => leR l n (i + 1) (if staysR l i = true then insR (getE tS l i) out else out)
def leastR (l : List (El tS)) : List (El tS) := leR l l.length 0 []
def k_leastR : Sig := .arg (shR tS) fun l => .done { pre := l.length ≤ 1000000, res := .rl true tS (leastR l) }
set_option maxHeartbeats 8000000 in
theorem c_leastR : FnOk Try.prog 28 k_leastR.con := by
  refine fnOkS mixed tys_ok (cs := [(17, k_rS.con), (22, k_leS.con), (40, k_aheadR.con)]) ⟨c_rS', c_leS', c_aheadR, trivial⟩ Try.func28 rfl (by kernel_rfl) Try.ntmps28 _ (h := ?_)
  intro l
  refine ⟨rfl, fun hp => ?_⟩
  have hp : l.length ≤ 1000000 := hp
  conv => whnf
  repeat' ((first
    | with_reducible refine ⟨fun h => h, ?_⟩
    | with_reducible refine ⟨pk1, ?_⟩
    | with_reducible refine ⟨pk2, ?_⟩
    | with_reducible refine ⟨pk3, ?_⟩
    | with_reducible refine ⟨pk4, ?_⟩
    | with_reducible refine ⟨pk5, ?_⟩
    | with_reducible refine ⟨pk6, ?_⟩
    | with_reducible refine ⟨trivial, ?_⟩
    | with_reducible refine ⟨fun _ => trivial, ?_⟩
    | with_reducible refine fork_t (by assumption) ?_
    | with_reducible refine fork_f (by assumption) ?_
    | refine fork_t rfl ?_
    | refine fork_f rfl ?_
    | with_reducible refine fork_i (fun h => ?_) (fun h => ?_)
    | with_reducible refine both_i ?_ ?_
    | ((with_reducible refine alike_i ?_); exact ⟨rfl, rfl, rfl⟩)
    | ((with_reducible refine fin_i ?_); (conv => whnf); refine ⟨rfl, ?_⟩)
    | refine ⟨of_decide_eq_true rfl, ?_⟩
    | refine ⟨fun _ => of_decide_eq_true rfl, ?_⟩
    | ((with_reducible refine ⟨?_, ?_⟩); (focus (intros; simp_all; done)))
    | ((with_reducible refine ⟨?_, ?_⟩); (focus (intros; omega)))) <;> (try (conv => whnf)))
  refine looped (σ := Nat × List (El tS)) (fun x => [(4, I x.1), (3, .ow 0 7 x.2.length)]) (fun x => [.row true tS 30 x.2]) (fun x => x.1 ≤ l.length ∧ x.2.length ≤ x.1 ∧ leR l (l.length - x.1) x.1 x.2 = leastR l) (fun x => l.length - x.1) (0, []) ⟨Nat.zero_le _, Nat.zero_le _, rfl⟩ ?_ ?_
  · conv => whnf
    refine ⟨rfl, leaf_i ?_⟩
    repeat' ((with_reducible refine And.intro ?_ ?_) <;> (try (conv => whnf)))
    all_goals (try (first | with_reducible rfl | exact True.intro | rfl | exact id | exact fun h => h | exact fun _ => rfl))
    all_goals first | rfl | trace_state
  · rintro ⟨i, out⟩ ⟨hi, ho, hl⟩
    dsimp only at hi ho hl ⊢
    conv => whnf
    repeat' ((first
      | with_reducible refine ⟨fun h => h, ?_⟩
      | with_reducible refine ⟨pk1, ?_⟩
      | with_reducible refine ⟨pk2, ?_⟩
      | with_reducible refine ⟨pk3, ?_⟩
      | with_reducible refine ⟨pk4, ?_⟩
      | with_reducible refine ⟨pk5, ?_⟩
      | with_reducible refine ⟨pk6, ?_⟩
      | with_reducible refine ⟨trivial, ?_⟩
      | with_reducible refine ⟨fun _ => trivial, ?_⟩
      | with_reducible refine fork_t (by assumption) ?_
      | with_reducible refine fork_f (by assumption) ?_
      | refine fork_t rfl ?_
      | refine fork_f rfl ?_
      | with_reducible refine fork_i (fun h => ?_) (fun h => ?_)
      | with_reducible refine both_i ?_ ?_
      | ((with_reducible refine alike_i ?_); exact ⟨rfl, rfl, rfl⟩)
      | ((with_reducible refine fin_i ?_); (conv => whnf); refine ⟨rfl, ?_⟩)
      | refine ⟨of_decide_eq_true rfl, ?_⟩
      | refine ⟨fun _ => of_decide_eq_true rfl, ?_⟩
      | ((with_reducible refine ⟨?_, ?_⟩); (focus (intros; simp_all; done)))
      | ((with_reducible refine ⟨?_, ?_⟩); (focus (intros; omega)))) <;> (try (conv => whnf)))
    · have hb := lt_t' h
      rw [show l.length - i = l.length - (i + 1) + 1 by omega, leR] at hl
      refine kept [3] ?_
      (conv => whnf)
      refine looped (σ := Nat × Bool) (fun x => [(6, I x.1), (5, B x.2)]) (fun x => [.row true tS 30 out]) (fun x => x.1 ≤ l.length ∧ (x.2 && !hits l i (l.length - x.1) x.1) = staysR l i) (fun x => l.length - x.1) (0, (toS (getE tS l i)).ok) ⟨Nat.zero_le _, rfl⟩ ?_ ?_
      · conv => whnf
        refine ⟨rfl, leaf_i ?_⟩
        repeat' ((with_reducible refine And.intro ?_ ?_) <;> (try (conv => whnf)))
        all_goals (try (first | with_reducible rfl | exact True.intro | rfl | exact id | exact fun h => h | exact fun _ => rfl))
        all_goals first | rfl | trace_state
      · rintro ⟨k, st⟩ ⟨hk, hs⟩
        dsimp only at hk hs ⊢
        conv => whnf
        repeat' ((first
          | with_reducible refine ⟨fun h => h, ?_⟩
          | with_reducible refine ⟨pk1, ?_⟩
          | with_reducible refine ⟨pk2, ?_⟩
          | with_reducible refine ⟨pk3, ?_⟩
          | with_reducible refine ⟨pk4, ?_⟩
          | with_reducible refine ⟨pk5, ?_⟩
          | with_reducible refine ⟨pk6, ?_⟩
          | with_reducible refine ⟨trivial, ?_⟩
          | with_reducible refine ⟨fun _ => trivial, ?_⟩
          | with_reducible refine fork_t (by assumption) ?_
          | with_reducible refine fork_f (by assumption) ?_
          | refine fork_t rfl ?_
          | refine fork_f rfl ?_
          | with_reducible refine fork_i (fun h => ?_) (fun h => ?_)
          | with_reducible refine both_i ?_ ?_
          | ((with_reducible refine alike_i ?_); exact ⟨rfl, rfl, rfl⟩)
          | ((with_reducible refine fin_i ?_); (conv => whnf); refine ⟨rfl, ?_⟩)
          | refine ⟨of_decide_eq_true rfl, ?_⟩
          | refine ⟨fun _ => of_decide_eq_true rfl, ?_⟩
          | ((with_reducible refine ⟨?_, ?_⟩); (focus (intros; simp_all; done)))
          | ((with_reducible refine ⟨?_, ?_⟩); (focus (intros; omega)))) <;> (try (conv => whnf)))
        · rename_i hb2
          have hb2 := lt_t' hb2
          have h : hitR l i k = true := h
          rw [show l.length - k = l.length - (k + 1) + 1 by omega, hits, h, Bool.true_or, Bool.not_true, Bool.and_false] at hs
          refine next_i (k + 1, false) ⟨by dsimp only; omega, by dsimp only; rw [← hs]; rfl⟩ (by dsimp only; omega) rfl rfl ?_
          conv => whnf
          refine ⟨rfl, leaf_i ?_⟩
          repeat' ((with_reducible refine And.intro ?_ ?_) <;> (try (conv => whnf)))
          all_goals (try (first | with_reducible rfl | exact True.intro | rfl | exact id | exact fun h => h | exact fun _ => rfl))
          all_goals first | exact wrapS' (by omega) | rfl | trace_state
        · rename_i hb2
          have hb2 := lt_t' hb2
          have h : hitR l i k = false := h
          rw [show l.length - k = l.length - (k + 1) + 1 by omega, hits, h, Bool.false_or] at hs
          refine next_i (k + 1, st) ⟨by dsimp only; omega, hs⟩ (by dsimp only; omega) rfl rfl ?_
          conv => whnf
          refine ⟨rfl, leaf_i ?_⟩
          repeat' ((with_reducible refine And.intro ?_ ?_) <;> (try (conv => whnf)))
          all_goals (try (first | with_reducible rfl | exact True.intro | rfl | exact id | exact fun h => h | exact fun _ => rfl))
          all_goals first | exact wrapS' (by omega) | rfl | trace_state
        · rename_i hb2
          have hb2 := lt_f' hb2
          have h : st = false := by simpa using h
          rw [h, Bool.false_and] at hs
          rw [← hs, if_neg (by simp)] at hl
          refine next_i (i + 1, out) ⟨by dsimp only; omega, by dsimp only; omega, hl⟩ (by dsimp only; omega) rfl rfl ?_
          conv => whnf
          refine ⟨rfl, leaf_i ?_⟩
          repeat' ((with_reducible refine And.intro ?_ ?_) <;> (try (conv => whnf)))
          all_goals (try (first | with_reducible rfl | exact True.intro | rfl | exact id | exact fun h => h | exact fun _ => rfl))
          all_goals first | exact wrapS' (by omega) | rfl | trace_state
        · rename_i hb2
          have hb2 := lt_f' hb2
          have h : st = true := by simpa using h
          rw [h, show l.length - k = 0 by omega] at hs
          have hs : staysR l i = true := hs.symm.trans (by simp [hits])
          rw [hs, if_pos rfl] at hl
          refine kept [3] ?_
          (conv => whnf)
          refine looped (σ := Nat) (fun x => [(7, I x)]) (fun x => [.row true tS 30 out]) (fun x => x ≤ out.length ∧ x + posR (getE tS l i) (out.drop x) = posR (getE tS l i) out) (fun x => out.length - x) 0 ⟨Nat.zero_le _, by simp⟩ ?_ ?_
          · conv => whnf
            refine ⟨rfl, leaf_i ?_⟩
            repeat' ((with_reducible refine And.intro ?_ ?_) <;> (try (conv => whnf)))
            all_goals (try (first | with_reducible rfl | exact True.intro | rfl | exact id | exact fun h => h | exact fun _ => rfl))
            all_goals first | rfl | trace_state
          · rintro at' ⟨ha, hpos⟩
            dsimp only at ha hpos ⊢
            conv => whnf
            repeat' ((first
              | with_reducible refine ⟨fun h => h, ?_⟩
              | with_reducible refine ⟨pk1, ?_⟩
              | with_reducible refine ⟨pk2, ?_⟩
              | with_reducible refine ⟨pk3, ?_⟩
              | with_reducible refine ⟨pk4, ?_⟩
              | with_reducible refine ⟨pk5, ?_⟩
              | with_reducible refine ⟨pk6, ?_⟩
              | with_reducible refine ⟨trivial, ?_⟩
              | with_reducible refine ⟨fun _ => trivial, ?_⟩
              | with_reducible refine fork_t (by assumption) ?_
              | with_reducible refine fork_f (by assumption) ?_
              | refine fork_t rfl ?_
              | refine fork_f rfl ?_
              | with_reducible refine fork_i (fun h => ?_) (fun h => ?_)
              | with_reducible refine both_i ?_ ?_
              | ((with_reducible refine alike_i ?_); exact ⟨rfl, rfl, rfl⟩)
              | ((with_reducible refine fin_i ?_); (conv => whnf); refine ⟨rfl, ?_⟩)
              | ((with_reducible refine ⟨?_, ?_⟩); (focus (first | (simp only [List.length_append, List.length_take, List.length_drop, List.length_singleton]; omega))))
              | refine ⟨of_decide_eq_true rfl, ?_⟩
              | refine ⟨fun _ => of_decide_eq_true rfl, ?_⟩
              | ((with_reducible refine ⟨?_, ?_⟩); (focus (intros; simp_all; done)))
              | ((with_reducible refine ⟨?_, ?_⟩); (focus (intros; omega)))) <;> (try (conv => whnf)))
            · have ⟨hlt, hah⟩ : at' < out.length ∧ aheadR (getE tS out at') (getE tS l i) = true := by
                rw [Bool.cond_false_right, Bool.and_eq_true] at h
                exact ⟨lt_t' h.1, h.2⟩
              rw [drop_get' _ hlt, posR, if_pos hah] at hpos
              refine next_i (at' + 1) ⟨hlt, by omega⟩ (by omega) rfl rfl ?_
              conv => whnf
              refine ⟨rfl, leaf_i ?_⟩
              repeat' ((with_reducible refine And.intro ?_ ?_) <;> (try (conv => whnf)))
              all_goals (try (first | with_reducible rfl | exact True.intro | rfl | exact id | exact fun h => h | exact fun _ => rfl))
              all_goals first | exact wrapS' (by omega) | rfl | trace_state
            · have hpe : posR (getE tS l i) out = at' := by
                by_cases hlt : at' < out.length
                · rw [Bool.cond_false_right, decide_eq_true (show ((at' : Nat) : Int) < out.length by omega), Bool.true_and] at h
                  have h : aheadR (getE tS out at') (getE tS l i) = false := h
                  rw [drop_get' _ hlt, posR, if_neg (by rw [h]; simp)] at hpos
                  omega
                · rw [List.drop_eq_nil_of_le (by omega), posR] at hpos; omega
              refine next_i (i + 1, insR (getE tS l i) out) ⟨by dsimp only; omega, by dsimp only; rw [insR_len]; omega, hl⟩ (by dsimp only; omega) rfl rfl ?_
              conv => whnf
              refine ⟨rfl, leaf_i ?_⟩
              repeat' ((with_reducible refine And.intro ?_ ?_) <;> (try (conv => whnf)))
              all_goals (try (first | with_reducible rfl | exact True.intro | rfl | exact id | exact fun h => h | exact fun _ => rfl))
              all_goals first | exact wrapS' (by omega) | rfl | (show out.take at' ++ [getE tS l i] ++ (out.drop at').take (out.length - at') = insR (getE tS l i) out; rw [List.take_of_length_le (l := out.drop at') (by simp)]; unfold insR; rw [hpe]) | (dsimp only; rw [insR_len]; simp; omega) | trace_state
    · have hb := lt_f' h
      rw [show l.length - i = 0 by omega, leR] at hl
      all_goals ((with_reducible refine leaf_i ?_); (conv => whnf))
      repeat' ((with_reducible refine And.intro ?_ ?_) <;> (try (conv => whnf)))
      all_goals (try (first | with_reducible rfl | exact True.intro | rfl | exact id | exact fun h => h | exact fun _ => rfl))
      all_goals first | exact hl | trace_state
end Go.Proofs.Ythlkhjfilfdpiaa
