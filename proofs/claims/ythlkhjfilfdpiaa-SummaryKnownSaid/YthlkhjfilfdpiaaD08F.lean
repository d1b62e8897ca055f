/- Layer 8's functions: the document's Then and Leq; the examples. -/
import Derived.Test.YthlkhjfilfdpiaaD08E
namespace Go.Proofs.Ythlkhjfilfdpiaa
set_option linter.unusedVariables false
set_option linter.unusedSimpArgs false
open Go Go.RowKit Go.Proofs.Ythlkhjfilfdpiaa.Eng

theorem rw_at (s : Sm) (i : Int) : rwN s i = (atS s i).2 := by
  unfold rwN atS
  by_cases h1 : i ≥ s.k
  · rw [if_pos h1, if_neg (by omega), if_neg (by omega)]
  · rw [if_neg h1]
    by_cases h2 : i = s.k - 1
    · rw [if_pos h2, if_neg (by omega), if_pos h2]
    · rw [if_neg h2, if_neg h2, if_pos (by omega)]
theorem rw_end {s : Sm} (h : s.ok = true) {i : Int} (h1 : s.t ≤ i) (h2 : i ≤ 2) : rwN s i = 0 := by
  obtain ⟨f, t, k, n, a, b, c⟩ := s
  have hs := rS_ok h
  unfold sOK at hs
  dsimp only at hs h1
  unfold rwN Sm.at
  dsimp only
  rw [if_neg (by omega), if_neg (by omega)]
  split
  · omega
  · split <;> omega

set_option maxHeartbeats 4000000 in
theorem c_leS' : FnOk Try.prog 22 k_leS.con := by
  refine fnOkS mixed tys_ok cs3_ok Try.func22 rfl (by kernel_rfl) Try.ntmps22 _ (h := ?_)
  rintro ⟨f, t, k, n, a, b, c⟩ ⟨f', t', k', n', a', b', c'⟩
  refine ⟨rfl, fun hp => ?_⟩
  clear hp
  conv => whnf
  repeat' ((first
    | with_reducible refine both_i ?_ ?_
    | ((with_reducible refine alike_i ?_); exact ⟨rfl, rfl, rfl⟩)
    | with_reducible refine ⟨fun h => h, ?_⟩
    | with_reducible refine ⟨pk1, ?_⟩
    | with_reducible refine ⟨pk2, ?_⟩
    | with_reducible refine ⟨pk3, ?_⟩
    | with_reducible refine ⟨pk4, ?_⟩
    | with_reducible refine ⟨pk5, ?_⟩
    | with_reducible refine ⟨pk6, ?_⟩
    | with_reducible refine ⟨trivial, ?_⟩
    | with_reducible refine ⟨fun _ => trivial, ?_⟩
    | refine ⟨of_decide_eq_true rfl, ?_⟩
    | refine ⟨fun _ => of_decide_eq_true rfl, ?_⟩
    | ((with_reducible refine ⟨?_, ?_⟩); (focus (intros; simp_all; done)))
    | ((with_reducible refine ⟨?_, ?_⟩); (focus (intros; omega)))) <;> (try (conv => whnf)))
  refine fork_i (fun h => ?_) (fun h => ?_)
  · simp at h
    conv => whnf
    repeat' ((first
      | with_reducible refine ⟨fun h => h, ?_⟩
      | with_reducible refine ⟨pk1, ?_⟩
      | with_reducible refine ⟨pk2, ?_⟩
      | with_reducible refine ⟨pk3, ?_⟩
      | with_reducible refine ⟨pk4, ?_⟩
      | with_reducible refine ⟨pk5, ?_⟩
      | with_reducible refine ⟨pk6, ?_⟩
      | with_reducible refine ⟨trivial, ?_⟩
      | with_reducible refine ⟨fun _ => trivial, ?_⟩
      | with_reducible refine fork_t (by assumption) ?_
      | with_reducible refine fork_f (by assumption) ?_
      | refine fork_t rfl ?_
      | refine fork_f rfl ?_
      | with_reducible refine fork_i (fun h => ?_) (fun h => ?_)
      | with_reducible refine unroll 4 ?_
      | with_reducible refine both_i ?_ ?_
      | ((with_reducible refine alike_i ?_); exact ⟨rfl, rfl, rfl⟩)
      | ((with_reducible refine fin_i ?_); (conv => whnf); refine ⟨rfl, ?_⟩)
      | refine ⟨of_decide_eq_true rfl, ?_⟩
      | refine ⟨fun _ => of_decide_eq_true rfl, ?_⟩
      | ((with_reducible refine ⟨?_, ?_⟩); (focus (intros; simp_all; done)))
      | ((with_reducible refine ⟨?_, ?_⟩); (focus (intros; omega)))) <;> (try (conv => whnf)))
    all_goals ((with_reducible refine leaf_i ?_); (conv => whnf))
    repeat' ((with_reducible refine And.intro ?_ ?_) <;> (try (conv => whnf)))
    all_goals (try (first | with_reducible rfl | exact True.intro | rfl | exact id | exact fun h => h | exact fun _ => rfl))
    symm
    unfold leS
    refine decide_eq_false ?_
    rintro ⟨q1, q2, q3, q4, q5, _⟩
    simp [q1, q2, q3, q4] at h
    dsimp only at q3 q4 q5
    omega
  · simp at h
    obtain ⟨⟨⟨⟨h1, h2⟩, h3⟩, h4⟩, h5⟩ := h
    subst h3 h4
    have hs := rS_ok h1
    unfold sOK at hs
    dsimp only at hs
    have e1 := fun i (hi : t ≤ i) => rw_end h1 (i := i) hi
    have e2 := fun i (hi : t ≤ i) => rw_end h2 (i := i) hi
    have q0 := e1 0
    have q1 := e1 1
    have q2 := e1 2
    have r0 := e2 0
    have r1 := e2 1
    have r2 := e2 2
    clear e1 e2
    have ht : t = 0 ∨ t = 1 ∨ t = 2 ∨ t = 3 := by omega
    clear hs
    unfold leS
    simp only [h1, h2, h5, true_and]
    simp only [rw_at] at *
    rcases ht with rfl | rfl | rfl | rfl
    all_goals
      conv => whnf
      repeat' ((first
        | with_reducible refine ⟨fun h => h, ?_⟩
        | with_reducible refine ⟨pk1, ?_⟩
        | with_reducible refine ⟨pk2, ?_⟩
        | with_reducible refine ⟨pk3, ?_⟩
        | with_reducible refine ⟨pk4, ?_⟩
        | with_reducible refine ⟨pk5, ?_⟩
        | with_reducible refine ⟨pk6, ?_⟩
        | with_reducible refine ⟨trivial, ?_⟩
        | with_reducible refine ⟨fun _ => trivial, ?_⟩
        | with_reducible refine fork_t (by assumption) ?_
        | with_reducible refine fork_f (by assumption) ?_
        | refine fork_t rfl ?_
        | refine fork_f rfl ?_
        | with_reducible refine fork_i (fun h => ?_) (fun h => ?_)
        | with_reducible refine unroll 4 ?_
        | with_reducible refine both_i ?_ ?_
        | ((with_reducible refine alike_i ?_); exact ⟨rfl, rfl, rfl⟩)
        | ((with_reducible refine fin_i ?_); (conv => whnf); refine ⟨rfl, ?_⟩)
        | refine ⟨⟨h1, of_decide_eq_true rfl, of_decide_eq_true rfl⟩, ?_⟩
        | refine ⟨⟨h2, of_decide_eq_true rfl, of_decide_eq_true rfl⟩, ?_⟩
        | refine ⟨of_decide_eq_true rfl, ?_⟩
        | refine ⟨fun _ => of_decide_eq_true rfl, ?_⟩
        | ((with_reducible refine ⟨?_, ?_⟩); (focus (intros; simp_all; done)))
        | ((with_reducible refine ⟨?_, ?_⟩); (focus (intros; omega)))) <;> (try (conv => whnf)))
      all_goals ((with_reducible refine leaf_i ?_); (conv => whnf))
      repeat' ((with_reducible refine And.intro ?_ ?_) <;> (try (conv => whnf)))
      all_goals (try (first | with_reducible rfl | exact True.intro | rfl | exact id | exact fun h => h | exact fun _ => rfl))
      all_goals (first | refine (decide_eq_true ?_).symm | refine (decide_eq_false ?_).symm)
      all_goals (simp [IntKind.wrap_i64] at *)
      all_goals omega

end Go.Proofs.Ythlkhjfilfdpiaa
