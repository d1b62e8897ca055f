/- Layer 8's functions. -/
import Derived.Test.YthlkhjfilfdpiaaD05
namespace Go.Proofs.Ythlkhjfilfdpiaa
set_option linter.unusedVariables false
set_option linter.unusedSimpArgs false
open Go Go.RowKit Go.Proofs.Ythlkhjfilfdpiaa.Eng

def k_of : Sig := .arg (shK .u8) fun k => .arg shI fun d => .done { pre := -9223372036854775808 ≤ d ∧ d ≤ 9223372036854775807, res := pP (pSm (ofS k d).1) (B (ofS k d).2) }
def k_apply : Sig := .arg shSm fun s => .arg shSt fun t => .done { pre := True, res := pP (pSt (apS s t).1) (B (apS s t).2) }
def cs2 : List (FuncId × Con) := [(32, k_counter.con), (31, k_depth.con), (24, k_rT.con), (29, k_rT.con), (16, k_rS.con), (17, k_rS.con)]
theorem cs2_ok : AllFn Try.prog cs2 := ⟨c_counter, c_depth, c_rT, c_rT', c_rS, c_rS', trivial⟩

set_option maxHeartbeats 4000000 in
theorem c_apply : FnOk Try.prog 11 k_apply.con := by
  refine fnOkS mixed tys_ok cs2_ok Try.func11 rfl (by kernel_rfl) Try.ntmps11 _ (h := ?_)
  rintro ⟨f, t, k, n, a, b, c⟩ ⟨d, e, x, y, z⟩
  refine ⟨rfl, fun _ => ?_⟩
  conv => whnf
  repeat' ((first
    | with_reducible refine both_i ?_ ?_
    | ((with_reducible refine alike_i ?_); exact ⟨rfl, rfl, rfl⟩)
    | with_reducible refine ⟨fun h => h, ?_⟩
    | with_reducible refine ⟨pk1, ?_⟩
    | with_reducible refine ⟨pk2, ?_⟩
    | with_reducible refine ⟨pk3, ?_⟩
    | with_reducible refine ⟨pk4, ?_⟩
    | with_reducible refine ⟨pk5, ?_⟩
    | with_reducible refine ⟨pk6, ?_⟩
    | with_reducible refine ⟨trivial, ?_⟩
    | with_reducible refine ⟨fun _ => trivial, ?_⟩
    | refine ⟨of_decide_eq_true rfl, ?_⟩
    | refine ⟨fun _ => of_decide_eq_true rfl, ?_⟩
    | ((with_reducible refine ⟨?_, ?_⟩); (focus (intros; simp_all; done)))
    | ((with_reducible refine ⟨?_, ?_⟩); (focus (intros; omega)))) <;> (try (conv => whnf)))
  refine fork_i (fun h => ?_) (fun h => ?_)
  · have hr : apS ⟨f, t, k, n, a, b, c⟩ ⟨d, e, x, y, z⟩ = (St.zero, false) := by
      unfold apS
      rw [if_neg]
      rintro ⟨q1, q2, q3, _⟩
      simp at h q3
      rcases h with (h | h) | h
      · rw [h] at q1; cases q1
      · rw [h] at q2; cases q2
      · exact h q3
    conv => whnf
    repeat' ((first
      | with_reducible refine ⟨fun h => h, ?_⟩
      | with_reducible refine ⟨pk1, ?_⟩
      | with_reducible refine ⟨pk2, ?_⟩
      | with_reducible refine ⟨pk3, ?_⟩
      | with_reducible refine ⟨pk4, ?_⟩
      | with_reducible refine ⟨pk5, ?_⟩
      | with_reducible refine ⟨pk6, ?_⟩
      | with_reducible refine ⟨trivial, ?_⟩
      | with_reducible refine ⟨fun _ => trivial, ?_⟩
      | with_reducible refine fork_t (by assumption) ?_
      | with_reducible refine fork_f (by assumption) ?_
      | refine fork_t rfl ?_
      | refine fork_f rfl ?_
      | with_reducible refine fork_i (fun h => ?_) (fun h => ?_)
      | with_reducible refine unroll 1 ?_
      | with_reducible refine both_i ?_ ?_
      | ((with_reducible refine alike_i ?_); exact ⟨rfl, rfl, rfl⟩)
      | ((with_reducible refine fin_i ?_); (conv => whnf); refine ⟨rfl, ?_⟩)
      | refine ⟨of_decide_eq_true rfl, ?_⟩
      | refine ⟨fun _ => of_decide_eq_true rfl, ?_⟩
      | ((with_reducible refine ⟨?_, ?_⟩); (focus (intros; simp_all; done)))
      | ((with_reducible refine ⟨?_, ?_⟩); (focus (intros; omega)))) <;> (try (conv => whnf)))
    all_goals ((with_reducible refine leaf_i ?_); (conv => whnf))
    repeat' ((with_reducible refine And.intro ?_ ?_) <;> (try (conv => whnf)))
    all_goals (try (first | with_reducible rfl | exact True.intro | rfl | exact id | exact fun h => h | exact fun _ => rfl))
    all_goals rw [hr]
    all_goals rfl
  · simp at h
    obtain ⟨⟨h1, h2⟩, h3⟩ := h
    subst h3
    have hs := rS_ok h1
    have ht := rT_ok h2
    unfold sOK at hs
    unfold tOK at ht
    dsimp only at hs ht
    have wx : IntKind.i64.wrap (x + n) = x + n := by rw [IntKind.wrap_i64]; omega
    have wy : IntKind.i64.wrap (y + n) = y + n := by rw [IntKind.wrap_i64]; omega
    have wz : IntKind.i64.wrap (z + n) = z + n := by rw [IntKind.wrap_i64]; omega
    rcases (by omega : k = 0 ∨ k = 1 ∨ k = 2 ∨ k = 3) with rfl | rfl | rfl | rfl <;> rcases (by omega : t = 0 ∨ t = 1 ∨ t = 2 ∨ t = 3) with rfl | rfl | rfl | rfl <;> try (exfalso; omega)
    all_goals clear hs ht
    all_goals
      conv => whnf
      repeat' ((first
        | with_reducible refine ⟨fun h => h, ?_⟩
        | with_reducible refine ⟨pk1, ?_⟩
        | with_reducible refine ⟨pk2, ?_⟩
        | with_reducible refine ⟨pk3, ?_⟩
        | with_reducible refine ⟨pk4, ?_⟩
        | with_reducible refine ⟨pk5, ?_⟩
        | with_reducible refine ⟨pk6, ?_⟩
        | with_reducible refine ⟨trivial, ?_⟩
        | with_reducible refine ⟨fun _ => trivial, ?_⟩
        | with_reducible refine fork_t (by assumption) ?_
        | with_reducible refine fork_f (by assumption) ?_
        | refine fork_t rfl ?_
        | refine fork_f rfl ?_
        | with_reducible refine fork_i (fun h => ?_) (fun h => ?_)
        | with_reducible refine unroll 1 ?_
        | with_reducible refine both_i ?_ ?_
        | ((with_reducible refine alike_i ?_); exact ⟨rfl, rfl, rfl⟩)
        | ((with_reducible refine fin_i ?_); (conv => whnf); refine ⟨rfl, ?_⟩)
        | refine ⟨of_decide_eq_true rfl, ?_⟩
        | refine ⟨fun _ => of_decide_eq_true rfl, ?_⟩
        | ((with_reducible refine ⟨?_, ?_⟩); (focus (intros; simp_all; done)))
        | ((with_reducible refine ⟨?_, ?_⟩); (focus (intros; omega)))) <;> (try (conv => whnf)))
      all_goals ((with_reducible refine leaf_i ?_); (conv => whnf))
      repeat' ((with_reducible refine And.intro ?_ ?_) <;> (try (conv => whnf)))
      all_goals (try (first | with_reducible rfl | exact True.intro | rfl | exact id | exact fun h => h | exact fun _ => rfl))
      all_goals (simp [wx, wy, wz] at h)
      all_goals (simp [apS, apN, St.at, Sm.at, h1, h2, h, wx, wy, wz, St.zero])

end Go.Proofs.Ythlkhjfilfdpiaa
