/- Layer 8's functions: the document's Apply; places. -/
import Derived.Test.YthlkhjfilfdpiaaD08B
namespace Go.Proofs.Ythlkhjfilfdpiaa
set_option linter.unusedVariables false
set_option linter.unusedSimpArgs false
open Go Go.RowKit Go.Proofs.Ythlkhjfilfdpiaa.Eng

def k_at : Sig := .arg shSm fun s => .arg shI fun i => .done { pre := s.ok = true ∧ 0 ≤ i ∧ i ≤ 2, res := .agg (.cons (B (atS s i).1) (.cons (I (atS s i).2) .nil)) }
def k_row : Sig := .arg shSm fun s => .done { pre := s.ok = true, res := .agg (.cons (I (rwN s 0)) (.cons (I (rwN s 1)) (.cons (I (rwN s 2)) .nil))) }

set_option maxHeartbeats 4000000 in
theorem c_at : FnOk Try.prog 30 k_at.con := by
  refine fnOkS mixed tys_ok cs2_ok Try.func30 rfl (by kernel_rfl) Try.ntmps30 _ (h := ?_)
  rintro ⟨f, t, k, n, a, b, c⟩ i
  refine ⟨rfl, fun hp => ?_⟩
  dsimp only at hp
  obtain ⟨h1, h2, h3⟩ := hp
  have hs := rS_ok h1
  unfold sOK at hs
  dsimp only at hs
  rcases (by omega : k = 0 ∨ k = 1 ∨ k = 2 ∨ k = 3) with rfl | rfl | rfl | rfl <;> rcases (by omega : i = 0 ∨ i = 1 ∨ i = 2) with rfl | rfl | rfl
  all_goals
    clear hs h1 h2 h3
    conv => whnf
    repeat' ((first
      | with_reducible refine ⟨fun h => h, ?_⟩
      | with_reducible refine ⟨pk1, ?_⟩
      | with_reducible refine ⟨pk2, ?_⟩
      | with_reducible refine ⟨pk3, ?_⟩
      | with_reducible refine ⟨pk4, ?_⟩
      | with_reducible refine ⟨pk5, ?_⟩
      | with_reducible refine ⟨pk6, ?_⟩
      | with_reducible refine ⟨trivial, ?_⟩
      | with_reducible refine ⟨fun _ => trivial, ?_⟩
      | with_reducible refine fork_t (by assumption) ?_
      | with_reducible refine fork_f (by assumption) ?_
      | refine fork_t rfl ?_
      | refine fork_f rfl ?_
      | with_reducible refine fork_i (fun h => ?_) (fun h => ?_)
      | with_reducible refine unroll 1 ?_
      | with_reducible refine both_i ?_ ?_
      | ((with_reducible refine alike_i ?_); exact ⟨rfl, rfl, rfl⟩)
      | ((with_reducible refine fin_i ?_); (conv => whnf); refine ⟨rfl, ?_⟩)
      | refine ⟨of_decide_eq_true rfl, ?_⟩
      | refine ⟨fun _ => of_decide_eq_true rfl, ?_⟩
      | ((with_reducible refine ⟨?_, ?_⟩); (focus (intros; simp_all; done)))
      | ((with_reducible refine ⟨?_, ?_⟩); (focus (intros; omega)))) <;> (try (conv => whnf)))
    all_goals ((with_reducible refine leaf_i ?_); (conv => whnf))
    repeat' ((with_reducible refine And.intro ?_ ?_) <;> (try (conv => whnf)))
    all_goals (try (first | with_reducible rfl | exact True.intro | rfl | exact id | exact fun h => h | exact fun _ => rfl))
    all_goals rfl

set_option maxHeartbeats 4000000 in
theorem c_row : FnOk Try.prog 33 k_row.con := by
  refine fnOkS mixed tys_ok cs2_ok Try.func33 rfl (by kernel_rfl) Try.ntmps33 _ (h := ?_)
  rintro ⟨f, t, k, n, a, b, c⟩
  refine ⟨rfl, fun hp => ?_⟩
  dsimp only at hp
  have hs := rS_ok hp
  unfold sOK at hs
  dsimp only at hs
  rcases (by omega : k = 0 ∨ k = 1 ∨ k = 2 ∨ k = 3) with rfl | rfl | rfl | rfl
  all_goals
    clear hs hp
    conv => whnf
    repeat' ((first
      | with_reducible refine ⟨fun h => h, ?_⟩
      | with_reducible refine ⟨pk1, ?_⟩
      | with_reducible refine ⟨pk2, ?_⟩
      | with_reducible refine ⟨pk3, ?_⟩
      | with_reducible refine ⟨pk4, ?_⟩
      | with_reducible refine ⟨pk5, ?_⟩
      | with_reducible refine ⟨pk6, ?_⟩
      | with_reducible refine ⟨trivial, ?_⟩
      | with_reducible refine ⟨fun _ => trivial, ?_⟩
      | with_reducible refine fork_t (by assumption) ?_
      | with_reducible refine fork_f (by assumption) ?_
      | refine fork_t rfl ?_
      | refine fork_f rfl ?_
      | with_reducible refine fork_i (fun h => ?_) (fun h => ?_)
      | with_reducible refine unroll 1 ?_
      | with_reducible refine both_i ?_ ?_
      | ((with_reducible refine alike_i ?_); exact ⟨rfl, rfl, rfl⟩)
      | ((with_reducible refine fin_i ?_); (conv => whnf); refine ⟨rfl, ?_⟩)
      | refine ⟨of_decide_eq_true rfl, ?_⟩
      | refine ⟨fun _ => of_decide_eq_true rfl, ?_⟩
      | ((with_reducible refine ⟨?_, ?_⟩); (focus (intros; simp_all; done)))
      | ((with_reducible refine ⟨?_, ?_⟩); (focus (intros; omega)))) <;> (try (conv => whnf)))
    all_goals ((with_reducible refine leaf_i ?_); (conv => whnf))
    repeat' ((with_reducible refine And.intro ?_ ?_) <;> (try (conv => whnf)))
    all_goals (try (first | with_reducible rfl | exact True.intro | rfl | exact id | exact fun h => h | exact fun _ => rfl))
    all_goals rfl

def cs3 : List (FuncId × Con) := (30, k_at.con) :: (33, k_row.con) :: cs2
theorem cs3_ok : AllFn Try.prog cs3 := ⟨c_at, c_row, cs2_ok⟩

theorem apS_bad {s : Sm} {t : St} (h : ¬ (s.ok = true ∧ t.ok = true ∧ t.d = s.f)) : apS s t = (St.zero, false) := by
  unfold apS
  rw [if_neg]
  rintro ⟨q1, q2, q3, _⟩
  exact h ⟨q1, q2, q3⟩

set_option maxHeartbeats 4000000 in
theorem c_apply' : FnOk Try.prog 12 k_apply.con := by
  refine fnOkS mixed tys_ok cs3_ok Try.func12 rfl (by kernel_rfl) Try.ntmps12 _ (h := ?_)
  rintro ⟨f, t, k, n, a, b, c⟩ ⟨d, e, x, y, z⟩
  refine ⟨rfl, fun _ => ?_⟩
  conv => whnf
  repeat' ((first
    | with_reducible refine both_i ?_ ?_
    | ((with_reducible refine alike_i ?_); exact ⟨rfl, rfl, rfl⟩)
    | with_reducible refine ⟨fun h => h, ?_⟩
    | with_reducible refine ⟨pk1, ?_⟩
    | with_reducible refine ⟨pk2, ?_⟩
    | with_reducible refine ⟨pk3, ?_⟩
    | with_reducible refine ⟨pk4, ?_⟩
    | with_reducible refine ⟨pk5, ?_⟩
    | with_reducible refine ⟨pk6, ?_⟩
    | with_reducible refine ⟨trivial, ?_⟩
    | with_reducible refine ⟨fun _ => trivial, ?_⟩
    | refine ⟨of_decide_eq_true rfl, ?_⟩
    | refine ⟨fun _ => of_decide_eq_true rfl, ?_⟩
    | ((with_reducible refine ⟨?_, ?_⟩); (focus (intros; simp_all; done)))
    | ((with_reducible refine ⟨?_, ?_⟩); (focus (intros; omega)))) <;> (try (conv => whnf)))
  refine fork_i (fun h => ?_) (fun h => ?_)
  · have hr := apS_bad (s := ⟨f, t, k, n, a, b, c⟩) (t := ⟨d, e, x, y, z⟩) (by
      rintro ⟨q1, q2, q3⟩
      simp at h q3
      rcases h with (h | h) | h
      · rw [h] at q1; cases q1
      · rw [h] at q2; cases q2
      · exact h q3)
    conv => whnf
    repeat' ((first
      | with_reducible refine ⟨fun h => h, ?_⟩
      | with_reducible refine ⟨pk1, ?_⟩
      | with_reducible refine ⟨pk2, ?_⟩
      | with_reducible refine ⟨pk3, ?_⟩
      | with_reducible refine ⟨pk4, ?_⟩
      | with_reducible refine ⟨pk5, ?_⟩
      | with_reducible refine ⟨pk6, ?_⟩
      | with_reducible refine ⟨trivial, ?_⟩
      | with_reducible refine ⟨fun _ => trivial, ?_⟩
      | with_reducible refine fork_t (by assumption) ?_
      | with_reducible refine fork_f (by assumption) ?_
      | refine fork_t rfl ?_
      | refine fork_f rfl ?_
      | with_reducible refine fork_i (fun h => ?_) (fun h => ?_)
      | with_reducible refine unroll 1 ?_
      | with_reducible refine both_i ?_ ?_
      | ((with_reducible refine alike_i ?_); exact ⟨rfl, rfl, rfl⟩)
      | ((with_reducible refine fin_i ?_); (conv => whnf); refine ⟨rfl, ?_⟩)
      | refine ⟨of_decide_eq_true rfl, ?_⟩
      | refine ⟨fun _ => of_decide_eq_true rfl, ?_⟩
      | ((with_reducible refine ⟨?_, ?_⟩); (focus (intros; simp_all; done)))
      | ((with_reducible refine ⟨?_, ?_⟩); (focus (intros; omega)))) <;> (try (conv => whnf)))
    all_goals ((with_reducible refine leaf_i ?_); (conv => whnf))
    repeat' ((with_reducible refine And.intro ?_ ?_) <;> (try (conv => whnf)))
    all_goals (try (first | with_reducible rfl | exact True.intro | rfl | exact id | exact fun h => h | exact fun _ => rfl))
    all_goals rw [hr]
    all_goals rfl
  · simp at h
    obtain ⟨⟨h1, h2⟩, h3⟩ := h
    subst h3
    have hs := rS_ok h1
    have ht := rT_ok h2
    unfold sOK at hs
    unfold tOK at ht
    dsimp only at hs ht
    rcases (by omega : k = 0 ∨ k = 1 ∨ k = 2 ∨ k = 3) with rfl | rfl | rfl | rfl <;> rcases (by omega : t = 0 ∨ t = 1 ∨ t = 2 ∨ t = 3) with rfl | rfl | rfl | rfl <;> try (exfalso; omega)
    all_goals
      conv => whnf
      repeat' ((first
        | with_reducible refine ⟨fun h => h, ?_⟩
        | with_reducible refine ⟨pk1, ?_⟩
        | with_reducible refine ⟨pk2, ?_⟩
        | with_reducible refine ⟨pk3, ?_⟩
        | with_reducible refine ⟨pk4, ?_⟩
        | with_reducible refine ⟨pk5, ?_⟩
        | with_reducible refine ⟨pk6, ?_⟩
        | with_reducible refine ⟨trivial, ?_⟩
        | with_reducible refine ⟨fun _ => trivial, ?_⟩
        | with_reducible refine fork_t (by assumption) ?_
        | with_reducible refine fork_f (by assumption) ?_
        | refine fork_t rfl ?_
        | refine fork_f rfl ?_
        | with_reducible refine fork_i (fun h => ?_) (fun h => ?_)
        | with_reducible refine unroll 4 ?_
        | with_reducible refine both_i ?_ ?_
        | ((with_reducible refine alike_i ?_); exact ⟨rfl, rfl, rfl⟩)
        | ((with_reducible refine fin_i ?_); (conv => whnf); refine ⟨rfl, ?_⟩)
        | refine ⟨⟨h1, of_decide_eq_true rfl, of_decide_eq_true rfl⟩, ?_⟩
        | refine ⟨of_decide_eq_true rfl, ?_⟩
        | refine ⟨fun _ => of_decide_eq_true rfl, ?_⟩
        | ((with_reducible refine ⟨?_, ?_⟩); (focus (intros; simp_all; done)))
        | ((with_reducible refine ⟨?_, ?_⟩); (focus (intros; omega)))) <;> (try (conv => whnf)))
      all_goals ((with_reducible refine leaf_i ?_); (conv => whnf))
      repeat' ((with_reducible refine And.intro ?_ ?_) <;> (try (conv => whnf)))
      all_goals (try (first | with_reducible rfl | exact True.intro | rfl | exact id | exact fun h => h | exact fun _ => rfl))
      all_goals (simp [IntKind.wrap_i64, atS, Sm.at] at *)
      all_goals (simp [apS, apN, St.at, Sm.at, h1, h2, St.zero])
      all_goals (split <;> rename_i hq <;> first
        | rfl
        | (have hq := rT_ok hq; unfold tOK at hq; dsimp only at hq; (try dsimp only); omega)
        | (exfalso; exact hq (rT_true (by unfold tOK; dsimp only; omega))))

end Go.Proofs.Ythlkhjfilfdpiaa
