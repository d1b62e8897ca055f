/- Layer 8's functions: the chapter's examples. -/
import Derived.Test.YthlkhjfilfdpiaaD08F
namespace Go.Proofs.Ythlkhjfilfdpiaa
set_option linter.unusedVariables false
set_option linter.unusedSimpArgs false
set_option maxRecDepth 200000
open Go Go.RowKit Go.Proofs.Ythlkhjfilfdpiaa.Eng

def k_works : Sig := .done { pre := True, res := B true }
def cs8 : List (FuncId × Con) := (11, k_apply.con) :: (12, k_apply.con) :: (14, k_of.con) :: (15, k_of.con) :: (13, k_plain.con) ::
  (19, k_then.con) :: (21, k_leS.con) :: (22, k_leS.con) :: (23, k_leT.con) :: cs2
theorem cs8_ok : AllFn Try.prog cs8 := ⟨c_apply, c_apply', c_of, c_of', c_plain, c_then, c_leS, c_leS', c_leT, cs2_ok⟩

set_option maxHeartbeats 4000000 in
theorem c_works : FnOk Try.prog 18 k_works.con := by
  refine fnOkS mixed tys_ok cs8_ok Try.func18 rfl (by kernel_rfl) Try.ntmps18 _ (h := ?_)
  refine ⟨rfl, fun _ => ?_⟩
  conv => whnf
  repeat' ((first
    | with_reducible refine ⟨fun h => h, ?_⟩
    | with_reducible refine ⟨pk1, ?_⟩
    | with_reducible refine ⟨pk2, ?_⟩
    | with_reducible refine ⟨pk3, ?_⟩
    | with_reducible refine ⟨pk4, ?_⟩
    | with_reducible refine ⟨pk5, ?_⟩
    | with_reducible refine ⟨pk6, ?_⟩
    | with_reducible refine ⟨trivial, ?_⟩
    | with_reducible refine ⟨fun _ => trivial, ?_⟩
    | with_reducible refine fork_t (by assumption) ?_
    | with_reducible refine fork_f (by assumption) ?_
    | refine fork_t rfl ?_
    | refine fork_f rfl ?_
    | with_reducible refine fork_i (fun h => ?_) (fun h => ?_)
    | with_reducible refine unroll 4 ?_
    | with_reducible refine both_i ?_ ?_
    | ((with_reducible refine alike_i ?_); exact ⟨rfl, rfl, rfl⟩)
    | ((with_reducible refine fin_i ?_); (conv => whnf); refine ⟨rfl, ?_⟩)
    | refine ⟨of_decide_eq_true rfl, ?_⟩
    | refine ⟨fun _ => of_decide_eq_true rfl, ?_⟩
    | ((with_reducible refine ⟨?_, ?_⟩); (focus (intros; simp_all; done)))
    | ((with_reducible refine ⟨?_, ?_⟩); (focus (intros; omega)))) <;> (try (conv => whnf)))
  all_goals ((with_reducible refine leaf_i ?_); (conv => whnf))
  repeat' ((with_reducible refine And.intro ?_ ?_) <;> (try (conv => whnf)))
  all_goals (try (first | with_reducible rfl | exact True.intro | rfl | exact id | exact fun h => h | exact fun _ => rfl))
  all_goals rfl

def k_lawApply : Sig := .arg shSm fun s => .arg shSt fun t => .arg (shK .u8) fun k => .arg shI fun d => .done { pre := -9223372036854775808 ≤ d ∧ d ≤ 9223372036854775807, res := B true }
def cs9 : List (FuncId × Con) := (18, k_works.con) :: cs8
theorem cs9_ok : AllFn Try.prog cs9 := ⟨c_works, cs8_ok⟩

set_option maxHeartbeats 4000000 in
theorem c_lawApply : FnOk Try.prog 3 k_lawApply.con := by
  refine fnOkS mixed tys_ok cs9_ok Try.func3 rfl (by kernel_rfl) Try.ntmps3 _ (h := ?_)
  intro s t k d
  refine ⟨rfl, fun hp => ?_⟩
  conv => whnf
  repeat' ((first
    | with_reducible refine ⟨fun h => h, ?_⟩
    | with_reducible refine ⟨pk1, ?_⟩
    | with_reducible refine ⟨pk2, ?_⟩
    | with_reducible refine ⟨pk3, ?_⟩
    | with_reducible refine ⟨pk4, ?_⟩
    | with_reducible refine ⟨pk5, ?_⟩
    | with_reducible refine ⟨pk6, ?_⟩
    | with_reducible refine ⟨trivial, ?_⟩
    | with_reducible refine ⟨fun _ => trivial, ?_⟩
    | with_reducible refine fork_t (by assumption) ?_
    | with_reducible refine fork_f (by assumption) ?_
    | refine fork_t rfl ?_
    | refine fork_f rfl ?_
    | with_reducible refine fork_i (fun h => ?_) (fun h => ?_)
    | with_reducible refine unroll 4 ?_
    | with_reducible refine both_i ?_ ?_
    | ((with_reducible refine alike_i ?_); exact ⟨rfl, rfl, rfl⟩)
    | ((with_reducible refine fin_i ?_); (conv => whnf); refine ⟨rfl, ?_⟩)
    | refine ⟨hp, ?_⟩
    | refine ⟨fun _ => hp, ?_⟩
    | refine ⟨of_decide_eq_true rfl, ?_⟩
    | refine ⟨fun _ => of_decide_eq_true rfl, ?_⟩
    | ((with_reducible refine ⟨?_, ?_⟩); (focus (intros; simp_all; done)))
    | ((with_reducible refine ⟨?_, ?_⟩); (focus (intros; omega)))) <;> (try (conv => whnf)))
  all_goals ((with_reducible refine leaf_i ?_); (conv => whnf))
  repeat' ((with_reducible refine And.intro ?_ ?_) <;> (try (conv => whnf)))
  all_goals (try (first | with_reducible rfl | exact True.intro | rfl | exact id | exact fun h => h | exact fun _ => rfl))
  all_goals simp

end Go.Proofs.Ythlkhjfilfdpiaa
