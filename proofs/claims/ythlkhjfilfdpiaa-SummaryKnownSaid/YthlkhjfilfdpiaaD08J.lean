/- The statements of chapter 08: walks of SummaryThen, SummaryGrows, SummaryOrder. -/
import Derived.Test.YthlkhjfilfdpiaaD08H
import Derived.Test.YthlkhjfilfdpiaaP08
namespace Go.Proofs.Ythlkhjfilfdpiaa
set_option linter.unusedVariables false
set_option linter.unusedSimpArgs false
set_option maxRecDepth 100000
open Go Go.RowKit Go.Proofs.Ythlkhjfilfdpiaa.Eng

theorem sm_eta (a : Sm) : (⟨a.f, a.t, a.k, a.n, a.a, a.b, a.c⟩ : Sm) = a := rfl
theorem st_eta (a : St) : (⟨a.d, a.e, a.a, a.b, a.c⟩ : St) = a := rfl

def k_lawThen : Sig := .arg shSm fun a => .arg shSm fun b => .arg shSm fun c => .arg shSt fun t => .done { pre := True, res := B true }
set_option maxHeartbeats 4000000 in
theorem c_lawThen : FnOk Try.prog 5 k_lawThen.con := by
  refine fnOkS mixed tys_ok cs9_ok Try.func5 rfl (by kernel_rfl) Try.ntmps5 _ (h := ?_)
  intro a b c t
  refine ⟨rfl, fun hp => ?_⟩
  conv => whnf
  repeat' ((first
    | with_reducible refine ⟨fun h => h, ?_⟩
    | with_reducible refine ⟨pk1, ?_⟩
    | with_reducible refine ⟨pk2, ?_⟩
    | with_reducible refine ⟨pk3, ?_⟩
    | with_reducible refine ⟨pk4, ?_⟩
    | with_reducible refine ⟨pk5, ?_⟩
    | with_reducible refine ⟨pk6, ?_⟩
    | with_reducible refine ⟨trivial, ?_⟩
    | with_reducible refine ⟨fun _ => trivial, ?_⟩
    | with_reducible refine fork_t (by assumption) ?_
    | with_reducible refine fork_f (by assumption) ?_
    | refine fork_t rfl ?_
    | refine fork_f rfl ?_
    | with_reducible refine fork_i (fun h => ?_) (fun h => ?_)
    | with_reducible refine unroll 4 ?_
    | with_reducible refine both_i ?_ ?_
    | ((with_reducible refine alike_i ?_); exact ⟨rfl, rfl, rfl⟩)
    | ((with_reducible refine fin_i ?_); (conv => whnf); refine ⟨rfl, ?_⟩)
    | refine ⟨of_decide_eq_true rfl, ?_⟩
    | refine ⟨fun _ => of_decide_eq_true rfl, ?_⟩
    | ((with_reducible refine ⟨?_, ?_⟩); (focus (intros; simp_all; done)))
    | ((with_reducible refine ⟨?_, ?_⟩); (focus (intros; omega)))) <;> (try (conv => whnf)))
  all_goals ((with_reducible refine leaf_i ?_); (conv => whnf))
  repeat' ((with_reducible refine And.intro ?_ ?_) <;> (try (conv => whnf)))
  all_goals (try (first | with_reducible rfl | exact True.intro | rfl | exact id | exact fun h => h | exact fun _ => rfl))
  all_goals (simp only [sm_eta, st_eta] at *)
  all_goals clear hp
  all_goals
    have e1 := @then_apply a b t
    have e2 := @then_three a b c
    generalize thS a b = x at *
    generalize apS a t = u at *
    generalize thS b c = y at *
    generalize apS x.1 t = w at *
    generalize apS b u.1 = v at *
    generalize thS x.1 c = p at *
    generalize thS a y.1 = q at *
    obtain ⟨x1, x2⟩ := x
    obtain ⟨u1, u2⟩ := u
    obtain ⟨y1, y2⟩ := y
    cases x2 <;> cases u2 <;> cases y2 <;> simp_all

def k_lawGrows : Sig := .arg shSm fun a => .arg shSm fun b => .arg shSm fun c => .done { pre := True, res := B true }
set_option maxHeartbeats 4000000 in
theorem c_lawGrows : FnOk Try.prog 6 k_lawGrows.con := by
  refine fnOkS mixed tys_ok cs9_ok Try.func6 rfl (by kernel_rfl) Try.ntmps6 _ (h := ?_)
  intro a b c
  refine ⟨rfl, fun hp => ?_⟩
  conv => whnf
  repeat' ((first
    | with_reducible refine ⟨fun h => h, ?_⟩
    | with_reducible refine ⟨pk1, ?_⟩
    | with_reducible refine ⟨pk2, ?_⟩
    | with_reducible refine ⟨pk3, ?_⟩
    | with_reducible refine ⟨pk4, ?_⟩
    | with_reducible refine ⟨pk5, ?_⟩
    | with_reducible refine ⟨pk6, ?_⟩
    | with_reducible refine ⟨trivial, ?_⟩
    | with_reducible refine ⟨fun _ => trivial, ?_⟩
    | with_reducible refine fork_t (by assumption) ?_
    | with_reducible refine fork_f (by assumption) ?_
    | refine fork_t rfl ?_
    | refine fork_f rfl ?_
    | with_reducible refine fork_i (fun h => ?_) (fun h => ?_)
    | with_reducible refine unroll 4 ?_
    | with_reducible refine both_i ?_ ?_
    | ((with_reducible refine alike_i ?_); exact ⟨rfl, rfl, rfl⟩)
    | ((with_reducible refine fin_i ?_); (conv => whnf); refine ⟨rfl, ?_⟩)
    | refine ⟨of_decide_eq_true rfl, ?_⟩
    | refine ⟨fun _ => of_decide_eq_true rfl, ?_⟩
    | ((with_reducible refine ⟨?_, ?_⟩); (focus (intros; simp_all; done)))
    | ((with_reducible refine ⟨?_, ?_⟩); (focus (intros; omega)))) <;> (try (conv => whnf)))
  all_goals ((with_reducible refine leaf_i ?_); (conv => whnf))
  repeat' ((with_reducible refine And.intro ?_ ?_) <;> (try (conv => whnf)))
  all_goals (try (first | with_reducible rfl | exact True.intro | rfl | exact id | exact fun h => h | exact fun _ => rfl))
  all_goals (simp only [sm_eta, st_eta] at *)
  all_goals clear hp
  all_goals
    have e1 := @grow_behind a b c
    have e2 := @grow_ahead a b c
    generalize leS a b = g at *
    generalize thS a c = x at *
    generalize thS b c = y at *
    generalize thS c a = p at *
    generalize thS c b = q at *
    generalize leS x.1 y.1 = w at *
    generalize leS p.1 q.1 = v at *
    obtain ⟨x1, x2⟩ := x
    obtain ⟨y1, y2⟩ := y
    obtain ⟨p1, p2⟩ := p
    obtain ⟨q1, q2⟩ := q
    cases g <;> cases x2 <;> cases y2 <;> cases p2 <;> cases q2 <;> simp_all

def k_lawOrder : Sig := .arg shSm fun a => .arg shSm fun b => .arg shSt fun t => .arg shSt fun s => .done { pre := -9223372036854775808 ≤ t.d ∧ t.d ≤ 9223372036854775807, res := B true }
set_option maxHeartbeats 4000000 in
theorem c_lawOrder : FnOk Try.prog 7 k_lawOrder.con := by
  refine fnOkS mixed tys_ok cs9_ok Try.func7 rfl (by kernel_rfl) Try.ntmps7 _ (h := ?_)
  intro a b t s
  refine ⟨rfl, fun hp => ?_⟩
  conv => whnf
  repeat' ((first
    | with_reducible refine ⟨fun h => h, ?_⟩
    | with_reducible refine ⟨pk1, ?_⟩
    | with_reducible refine ⟨pk2, ?_⟩
    | with_reducible refine ⟨pk3, ?_⟩
    | with_reducible refine ⟨pk4, ?_⟩
    | with_reducible refine ⟨pk5, ?_⟩
    | with_reducible refine ⟨pk6, ?_⟩
    | with_reducible refine ⟨trivial, ?_⟩
    | with_reducible refine ⟨fun _ => trivial, ?_⟩
    | with_reducible refine fork_t (by assumption) ?_
    | with_reducible refine fork_f (by assumption) ?_
    | refine fork_t rfl ?_
    | refine fork_f rfl ?_
    | with_reducible refine fork_i (fun h => ?_) (fun h => ?_)
    | with_reducible refine unroll 4 ?_
    | with_reducible refine both_i ?_ ?_
    | ((with_reducible refine alike_i ?_); exact ⟨rfl, rfl, rfl⟩)
    | ((with_reducible refine fin_i ?_); (conv => whnf); refine ⟨rfl, ?_⟩)
    | refine ⟨hp, ?_⟩
    | refine ⟨fun _ => hp, ?_⟩
    | refine ⟨of_decide_eq_true rfl, ?_⟩
    | refine ⟨fun _ => of_decide_eq_true rfl, ?_⟩
    | ((with_reducible refine ⟨?_, ?_⟩); (focus (intros; simp_all; done)))
    | ((with_reducible refine ⟨?_, ?_⟩); (focus (intros; omega)))) <;> (try (conv => whnf)))
  all_goals ((with_reducible refine leaf_i ?_); (conv => whnf))
  repeat' ((with_reducible refine And.intro ?_ ?_) <;> (try (conv => whnf)))
  all_goals (try (first | with_reducible rfl | exact True.intro | rfl | exact id | exact fun h => h | exact fun _ => rfl))
  all_goals (simp only [sm_eta, st_eta] at *)
  all_goals clear hp
  all_goals
    have e1 := @order_way a b t
    have e2 := @order_time b s t
    have e3 := @map_same t
    have e4 := leS_self a
    generalize leS a b = g at *
    generalize leT s t = k at *
    generalize apS b t = x at *
    generalize apS a t = y at *
    generalize apS b s = p at *
    generalize leT y.1 x.1 = w at *
    generalize leT p.1 x.1 = v at *
    generalize leS a a = r at *
    generalize ofS 2 t.d = q at *
    generalize apS q.1 t = z at *
    obtain ⟨x1, x2⟩ := x
    obtain ⟨y1, y2⟩ := y
    obtain ⟨p1, p2⟩ := p
    obtain ⟨q1, q2⟩ := q
    cases g <;> cases k <;> cases x2 <;> cases y2 <;> cases p2 <;> cases hto : t.ok <;> simp_all
end Go.Proofs.Ythlkhjfilfdpiaa
