/- Layer 8: how summaries are ordered. -/
import Derived.Test.YthlkhjfilfdpiaaD08K
namespace Go.Proofs.Ythlkhjfilfdpiaa
set_option linter.unusedVariables false
set_option linter.unusedSimpArgs false
set_option maxRecDepth 100000
open Go Go.RowKit Go.Proofs.Ythlkhjfilfdpiaa.Eng

abbrev tI' : Ty := .int .i64 .nil
def cmpI (x y : Int) : Int := if x < y then -1 else if y < x then 1 else 0
def orI : List (El tI') → Int
  | [] => 0
  | x :: r => if x.1 = 0 then orI r else x.1
def cmpL : List (El tI') → List (El tI') → Int
  | [], [] => 0
  | [], _ :: _ => -1
  | _ :: _, [] => 1
  | x :: r, y :: s => if cmpI x.1 y.1 = 0 then cmpL r s else cmpI x.1 y.1
def k_nan : Sig := .arg shI fun x => .done { pre := True, res := B false }
theorem c_nan : FnOk Try.prog 59 k_nan.con := by
  refine fnOkS mixed tys_ok (cs := []) trivial Try.func59 rfl (by kernel_rfl) Try.ntmps59 _ (h := ?_)
  intro x
  refine ⟨rfl, fun _ => ?_⟩
  conv => whnf
  repeat' ((first
    | with_reducible refine ⟨fun h => h, ?_⟩
    | with_reducible refine ⟨pk1, ?_⟩
    | with_reducible refine ⟨pk2, ?_⟩
    | with_reducible refine ⟨pk3, ?_⟩
    | with_reducible refine ⟨pk4, ?_⟩
    | with_reducible refine ⟨pk5, ?_⟩
    | with_reducible refine ⟨pk6, ?_⟩
    | with_reducible refine ⟨trivial, ?_⟩
    | with_reducible refine ⟨fun _ => trivial, ?_⟩
    | with_reducible refine fork_t (by assumption) ?_
    | with_reducible refine fork_f (by assumption) ?_
    | refine fork_t rfl ?_
    | refine fork_f rfl ?_
    | with_reducible refine fork_i (fun h => ?_) (fun h => ?_)
    | with_reducible refine both_i ?_ ?_
    | ((with_reducible refine alike_i ?_); exact ⟨rfl, rfl, rfl⟩)
    | ((with_reducible refine fin_i ?_); (conv => whnf); refine ⟨rfl, ?_⟩)
    | refine ⟨of_decide_eq_true rfl, ?_⟩
    | refine ⟨fun _ => of_decide_eq_true rfl, ?_⟩
    | ((with_reducible refine ⟨?_, ?_⟩); (focus (intros; simp_all; done)))
    | ((with_reducible refine ⟨?_, ?_⟩); (focus (intros; omega)))) <;> (try (conv => whnf)))
  all_goals ((with_reducible refine leaf_i ?_); (conv => whnf))
  repeat' ((with_reducible refine And.intro ?_ ?_) <;> (try (conv => whnf)))
  all_goals (try (first | with_reducible rfl | exact True.intro | rfl | exact id | exact fun h => h | exact fun _ => rfl))
  all_goals simp
def k_cmp : Sig := .arg shI fun x => .arg shI fun y => .done { pre := True, res := I (cmpI x y) }
theorem c_cmp : FnOk Try.prog 46 k_cmp.con := by
  refine fnOkS mixed tys_ok (cs := [(59, k_nan.con)]) ⟨c_nan, trivial⟩ Try.func46 rfl (by kernel_rfl) Try.ntmps46 _ (h := ?_)
  intro x y
  refine ⟨rfl, fun _ => ?_⟩
  conv => whnf
  repeat' ((first
    | with_reducible refine ⟨fun h => h, ?_⟩
    | with_reducible refine ⟨pk1, ?_⟩
    | with_reducible refine ⟨pk2, ?_⟩
    | with_reducible refine ⟨pk3, ?_⟩
    | with_reducible refine ⟨pk4, ?_⟩
    | with_reducible refine ⟨pk5, ?_⟩
    | with_reducible refine ⟨pk6, ?_⟩
    | with_reducible refine ⟨trivial, ?_⟩
    | with_reducible refine ⟨fun _ => trivial, ?_⟩
    | with_reducible refine fork_t (by assumption) ?_
    | with_reducible refine fork_f (by assumption) ?_
    | refine fork_t rfl ?_
    | refine fork_f rfl ?_
    | with_reducible refine fork_i (fun h => ?_) (fun h => ?_)
    | with_reducible refine both_i ?_ ?_
    | ((with_reducible refine alike_i ?_); exact ⟨rfl, rfl, rfl⟩)
    | ((with_reducible refine fin_i ?_); (conv => whnf); refine ⟨rfl, ?_⟩)
    | refine ⟨of_decide_eq_true rfl, ?_⟩
    | refine ⟨fun _ => of_decide_eq_true rfl, ?_⟩
    | ((with_reducible refine ⟨?_, ?_⟩); (focus (intros; simp_all; done)))
    | ((with_reducible refine ⟨?_, ?_⟩); (focus (intros; omega)))) <;> (try (conv => whnf)))
  all_goals ((with_reducible refine leaf_i ?_); (conv => whnf))
  repeat' ((with_reducible refine And.intro ?_ ?_) <;> (try (conv => whnf)))
  all_goals (try (first | with_reducible rfl | exact True.intro | rfl | exact id | exact fun h => h | exact fun _ => rfl))
  all_goals (simp at *; unfold cmpI; repeat' split)
  all_goals first | rfl | omega
def k_or : Sig := .arg (shR tI') fun l => .done { pre := l.length < 4611686018427387904, res := I (orI l) }
theorem c_or : FnOk Try.prog 45 k_or.con := by
  refine fnOkS mixed tys_ok (cs := []) trivial Try.func45 rfl (by kernel_rfl) Try.ntmps45 _ (h := ?_)
  intro l
  refine ⟨rfl, fun hp => ?_⟩
  conv => whnf
  repeat' ((first
    | with_reducible refine ⟨fun h => h, ?_⟩
    | with_reducible refine ⟨pk1, ?_⟩
    | with_reducible refine ⟨pk2, ?_⟩
    | with_reducible refine ⟨pk3, ?_⟩
    | with_reducible refine ⟨pk4, ?_⟩
    | with_reducible refine ⟨pk5, ?_⟩
    | with_reducible refine ⟨pk6, ?_⟩
    | with_reducible refine ⟨trivial, ?_⟩
    | with_reducible refine ⟨fun _ => trivial, ?_⟩
    | with_reducible refine fork_t (by assumption) ?_
    | with_reducible refine fork_f (by assumption) ?_
    | refine fork_t rfl ?_
    | refine fork_f rfl ?_
    | with_reducible refine fork_i (fun h => ?_) (fun h => ?_)
    | with_reducible refine both_i ?_ ?_
    | ((with_reducible refine alike_i ?_); exact ⟨rfl, rfl, rfl⟩)
    | ((with_reducible refine fin_i ?_); (conv => whnf); refine ⟨rfl, ?_⟩)
    | refine ⟨of_decide_eq_true rfl, ?_⟩
    | refine ⟨fun _ => of_decide_eq_true rfl, ?_⟩
    | ((with_reducible refine ⟨?_, ?_⟩); (focus (intros; simp_all; done)))
    | ((with_reducible refine ⟨?_, ?_⟩); (focus (intros; omega)))) <;> (try (conv => whnf)))
  refine looped (σ := Nat) (fun j => [(8, I j)]) (fun _ => []) (fun j => j ≤ l.length ∧ orI (l.drop j) = orI l) (fun j => l.length - j) 0 ⟨Nat.zero_le _, rfl⟩ ?_ ?_
  · conv => whnf
    refine ⟨rfl, leaf_i ?_⟩
    repeat' ((with_reducible refine And.intro ?_ ?_) <;> (try (conv => whnf)))
    all_goals (try (first | with_reducible rfl | exact True.intro | rfl | exact id | exact fun h => h | exact fun _ => rfl))
  · rintro j ⟨hj, hl⟩
    dsimp only at hj hl ⊢
    conv => whnf
    repeat' ((first
      | with_reducible refine ⟨fun h => h, ?_⟩
      | with_reducible refine ⟨pk1, ?_⟩
      | with_reducible refine ⟨pk2, ?_⟩
      | with_reducible refine ⟨pk3, ?_⟩
      | with_reducible refine ⟨pk4, ?_⟩
      | with_reducible refine ⟨pk5, ?_⟩
      | with_reducible refine ⟨pk6, ?_⟩
      | with_reducible refine ⟨trivial, ?_⟩
      | with_reducible refine ⟨fun _ => trivial, ?_⟩
      | with_reducible refine fork_t (by assumption) ?_
      | with_reducible refine fork_f (by assumption) ?_
      | refine fork_t rfl ?_
      | refine fork_f rfl ?_
      | with_reducible refine fork_i (fun h => ?_) (fun h => ?_)
      | with_reducible refine both_i ?_ ?_
      | ((with_reducible refine alike_i ?_); exact ⟨rfl, rfl, rfl⟩)
      | ((with_reducible refine fin_i ?_); (conv => whnf); refine ⟨rfl, ?_⟩)
      | refine ⟨of_decide_eq_true rfl, ?_⟩
      | refine ⟨fun _ => of_decide_eq_true rfl, ?_⟩
      | ((with_reducible refine ⟨?_, ?_⟩); (focus (intros; simp_all; done)))
      | ((with_reducible refine ⟨?_, ?_⟩); (focus (intros; omega)))) <;> (try (conv => whnf)))
    · rename_i hj'
      have hj' := lt_t' hj'
      have h : ((getE tI' l j).1 != 0) = true := h
      rw [drop_get' _ hj', orI, if_neg (by simpa using h)] at hl
      all_goals ((with_reducible refine leaf_i ?_); (conv => whnf))
      repeat' ((with_reducible refine And.intro ?_ ?_) <;> (try (conv => whnf)))
      all_goals (try (first | with_reducible rfl | exact True.intro | rfl | exact id | exact fun h => h | exact fun _ => rfl))
      all_goals first | exact hl | rfl
    · rename_i hj'
      have hj' := lt_t' hj'
      have h : ((getE tI' l j).1 != 0) = false := h
      rw [drop_get' _ hj', orI, if_pos (by simpa using h)] at hl
      refine next_i (j + 1) ⟨hj', hl⟩ (by omega) rfl rfl ?_
      conv => whnf
      refine ⟨rfl, leaf_i ?_⟩
      repeat' ((with_reducible refine And.intro ?_ ?_) <;> (try (conv => whnf)))
      all_goals (try (first | with_reducible rfl | exact True.intro | rfl | exact id | exact fun h => h | exact fun _ => rfl))
      all_goals first | exact wrapS' (Nat.lt_trans hj' hp) | rfl
    · have hj' := lt_f' h
      rw [List.drop_eq_nil_of_le hj', orI] at hl
      all_goals ((with_reducible refine leaf_i ?_); (conv => whnf))
      repeat' ((with_reducible refine And.intro ?_ ?_) <;> (try (conv => whnf)))
      all_goals (try (first | with_reducible rfl | exact True.intro | rfl | exact id | exact fun h => h | exact fun _ => rfl))
      all_goals first | exact hl | rfl
def k_cmpL : Sig := .arg (shR tI') fun l => .arg (shR tI') fun m => .done { pre := l.length < 4611686018427387904, res := I (cmpL l m) }
theorem c_cmpL : FnOk Try.prog 47 k_cmpL.con := by
  refine fnOkS mixed tys_ok (cs := [(46, k_cmp.con)]) ⟨c_cmp, trivial⟩ Try.func47 rfl (by kernel_rfl) Try.ntmps47 _ (h := ?_)
  intro l m
  refine ⟨rfl, fun hp => ?_⟩
  conv => whnf
  repeat' ((first
    | with_reducible refine ⟨fun h => h, ?_⟩
    | with_reducible refine ⟨pk1, ?_⟩
    | with_reducible refine ⟨pk2, ?_⟩
    | with_reducible refine ⟨pk3, ?_⟩
    | with_reducible refine ⟨pk4, ?_⟩
    | with_reducible refine ⟨pk5, ?_⟩
    | with_reducible refine ⟨pk6, ?_⟩
    | with_reducible refine ⟨trivial, ?_⟩
    | with_reducible refine ⟨fun _ => trivial, ?_⟩
    | with_reducible refine fork_t (by assumption) ?_
    | with_reducible refine fork_f (by assumption) ?_
    | refine fork_t rfl ?_
    | refine fork_f rfl ?_
    | with_reducible refine fork_i (fun h => ?_) (fun h => ?_)
    | with_reducible refine both_i ?_ ?_
    | ((with_reducible refine alike_i ?_); exact ⟨rfl, rfl, rfl⟩)
    | ((with_reducible refine fin_i ?_); (conv => whnf); refine ⟨rfl, ?_⟩)
    | refine ⟨of_decide_eq_true rfl, ?_⟩
    | refine ⟨fun _ => of_decide_eq_true rfl, ?_⟩
    | ((with_reducible refine ⟨?_, ?_⟩); (focus (intros; simp_all; done)))
    | ((with_reducible refine ⟨?_, ?_⟩); (focus (intros; omega)))) <;> (try (conv => whnf)))
  refine looped (σ := Nat) (fun j => [(11, I j)]) (fun _ => []) (fun j => j ≤ l.length ∧ j ≤ m.length ∧ cmpL (l.drop j) (m.drop j) = cmpL l m) (fun j => l.length - j) 0 ⟨Nat.zero_le _, Nat.zero_le _, rfl⟩ ?_ ?_
  · conv => whnf
    refine ⟨rfl, leaf_i ?_⟩
    repeat' ((with_reducible refine And.intro ?_ ?_) <;> (try (conv => whnf)))
    all_goals (try (first | with_reducible rfl | exact True.intro | rfl | exact id | exact fun h => h | exact fun _ => rfl))
  · rintro j ⟨hj, hm, hl⟩
    dsimp only at hj hm hl ⊢
    conv => whnf
    repeat' ((first
      | with_reducible refine ⟨fun h => h, ?_⟩
      | with_reducible refine ⟨pk1, ?_⟩
      | with_reducible refine ⟨pk2, ?_⟩
      | with_reducible refine ⟨pk3, ?_⟩
      | with_reducible refine ⟨pk4, ?_⟩
      | with_reducible refine ⟨pk5, ?_⟩
      | with_reducible refine ⟨pk6, ?_⟩
      | with_reducible refine ⟨trivial, ?_⟩
      | with_reducible refine ⟨fun _ => trivial, ?_⟩
      | with_reducible refine fork_t (by assumption) ?_
      | with_reducible refine fork_f (by assumption) ?_
      | refine fork_t rfl ?_
      | refine fork_f rfl ?_
      | with_reducible refine fork_i (fun h => ?_) (fun h => ?_)
      | with_reducible refine both_i ?_ ?_
      | ((with_reducible refine alike_i ?_); exact ⟨rfl, rfl, rfl⟩)
      | ((with_reducible refine fin_i ?_); (conv => whnf); refine ⟨rfl, ?_⟩)
      | refine ⟨of_decide_eq_true rfl, ?_⟩
      | refine ⟨fun _ => of_decide_eq_true rfl, ?_⟩
      | ((with_reducible refine ⟨?_, ?_⟩); (focus (intros; simp_all; done)))
      | ((with_reducible refine ⟨?_, ?_⟩); (focus (intros; omega)))) <;> (try (conv => whnf)))
    · rename_i hj'
      have hj' := lt_t' hj'
      have h1 : m.length ≤ j := by have := of_decide_eq_true h; omega
      rw [drop_get' _ hj', List.drop_eq_nil_of_le h1, cmpL] at hl
      all_goals ((with_reducible refine leaf_i ?_); (conv => whnf))
      repeat' ((with_reducible refine And.intro ?_ ?_) <;> (try (conv => whnf)))
      all_goals (try (first | with_reducible rfl | exact True.intro | rfl | exact id | exact fun h => h | exact fun _ => rfl))
      all_goals first | exact hl | rfl
    · rename_i h1 h2
      have h1 := lt_t' h1
      have h2 : j < m.length := by have := of_decide_eq_false h2; omega
      have h : (cmpI (getE tI' l j).1 (getE tI' m j).1 != 0) = true := h
      rw [drop_get' _ h1, drop_get' _ h2, cmpL, if_neg (by simpa using h)] at hl
      all_goals ((with_reducible refine leaf_i ?_); (conv => whnf))
      repeat' ((with_reducible refine And.intro ?_ ?_) <;> (try (conv => whnf)))
      all_goals (try (first | with_reducible rfl | exact True.intro | rfl | exact id | exact fun h => h | exact fun _ => rfl))
      all_goals first | exact hl | rfl
    · rename_i h1 h2
      have h1 := lt_t' h1
      have h2 : j < m.length := by have := of_decide_eq_false h2; omega
      have h : (cmpI (getE tI' l j).1 (getE tI' m j).1 != 0) = false := h
      rw [drop_get' _ h1, drop_get' _ h2, cmpL, if_pos (by simpa using h)] at hl
      refine next_i (j + 1) ⟨h1, h2, hl⟩ (by omega) rfl rfl ?_
      conv => whnf
      refine ⟨rfl, leaf_i ?_⟩
      repeat' ((with_reducible refine And.intro ?_ ?_) <;> (try (conv => whnf)))
      all_goals (try (first | with_reducible rfl | exact True.intro | rfl | exact id | exact fun h => h | exact fun _ => rfl))
      all_goals first | exact wrapS' (Nat.lt_trans h1 hp) | rfl
    · rename_i h1
      have h1 := lt_f' h1
      have h2 := lt_t' h
      have h3 : j < m.length := by omega
      rw [List.drop_eq_nil_of_le h1, drop_get' _ h3, cmpL] at hl
      all_goals ((with_reducible refine leaf_i ?_); (conv => whnf))
      repeat' ((with_reducible refine And.intro ?_ ?_) <;> (try (conv => whnf)))
      all_goals (try (first | with_reducible rfl | exact True.intro | rfl | exact id | exact fun h => h | exact fun _ => rfl))
      all_goals first | exact hl | rfl
    · rename_i h1
      have h1 := lt_f' h1
      have h2 := lt_f' h
      rw [List.drop_eq_nil_of_le h1, List.drop_eq_nil_of_le (show m.length ≤ j by omega), cmpL] at hl
      all_goals ((with_reducible refine leaf_i ?_); (conv => whnf))
      repeat' ((with_reducible refine And.intro ?_ ?_) <;> (try (conv => whnf)))
      all_goals (try (first | with_reducible rfl | exact True.intro | rfl | exact id | exact fun h => h | exact fun _ => rfl))
      all_goals first | exact hl | rfl
def ordS (x y : El tS) : Int := orI [(cmpI x.1 y.1, ()), (cmpI x.2.1 y.2.1, ()), (cmpI x.2.2.1 y.2.2.1, ()), (cmpI x.2.2.2.1 y.2.2.2.1, ()), (cmpL [(x.2.2.2.2.1, ()), (x.2.2.2.2.2.1, ()), (x.2.2.2.2.2.2.1, ())] [(y.2.2.2.2.1, ()), (y.2.2.2.2.2.1, ()), (y.2.2.2.2.2.2.1, ())], ())]
set_option maxHeartbeats 4000000 in
theorem c_order : FnOk Try.prog 38 (cmpSig tS ordS).con := by
  refine fnOkS mixed tys_ok (cs := [(46, k_cmp.con), (45, k_or.con), (47, k_cmpL.con)]) ⟨c_cmp, c_or, c_cmpL, trivial⟩ Try.func38 rfl (by kernel_rfl) Try.ntmps38 _ (h := ?_)
  intro x y
  refine ⟨rfl, fun hp => ?_⟩
  conv => whnf
  repeat' ((first
    | with_reducible refine ⟨fun h => h, ?_⟩
    | with_reducible refine ⟨pk1, ?_⟩
    | with_reducible refine ⟨pk2, ?_⟩
    | with_reducible refine ⟨pk3, ?_⟩
    | with_reducible refine ⟨pk4, ?_⟩
    | with_reducible refine ⟨pk5, ?_⟩
    | with_reducible refine ⟨pk6, ?_⟩
    | with_reducible refine ⟨trivial, ?_⟩
    | with_reducible refine ⟨fun _ => trivial, ?_⟩
    | with_reducible refine fork_t (by assumption) ?_
    | with_reducible refine fork_f (by assumption) ?_
    | refine fork_t rfl ?_
    | refine fork_f rfl ?_
    | with_reducible refine fork_i (fun h => ?_) (fun h => ?_)
    | with_reducible refine both_i ?_ ?_
    | ((with_reducible refine alike_i ?_); exact ⟨rfl, rfl, rfl⟩)
    | ((with_reducible refine fin_i ?_); (conv => whnf); refine ⟨rfl, ?_⟩)
    | refine ⟨of_decide_eq_true rfl, ?_⟩
    | refine ⟨fun _ => of_decide_eq_true rfl, ?_⟩
    | ((with_reducible refine ⟨?_, ?_⟩); (focus (intros; simp_all; done)))
    | ((with_reducible refine ⟨?_, ?_⟩); (focus (intros; omega)))) <;> (try (conv => whnf)))
  all_goals ((with_reducible refine leaf_i ?_); (conv => whnf))
  repeat' ((with_reducible refine And.intro ?_ ?_) <;> (try (conv => whnf)))
  all_goals (try (first | with_reducible rfl | exact True.intro | rfl | exact id | exact fun h => h | exact fun _ => rfl))
  all_goals first | rfl | trace_state
end Go.Proofs.Ythlkhjfilfdpiaa
