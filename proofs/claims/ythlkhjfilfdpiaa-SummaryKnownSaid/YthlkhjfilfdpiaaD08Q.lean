/- The closed statement of chapter 08: the walk of SummaryKnown. -/
import Derived.Test.YthlkhjfilfdpiaaD08P
namespace Go.Proofs.Ythlkhjfilfdpiaa
set_option linter.unusedVariables false
set_option linter.unusedSimpArgs false
set_option maxRecDepth 100000
open Go Go.RowKit Go.Proofs.Ythlkhjfilfdpiaa.Eng

def cs12 : List (FuncId × Con) := (18, k_works.con) :: (3, k_lawApply.con) :: (4, k_lawTwo.con) :: (5, k_lawThen.con) :: (7, k_lawOrder.con) :: (8, k_lawLeast.con) :: (14, k_of.con) :: (19, k_then.con) :: []
theorem cs12_ok : AllFn Try.prog cs12 := ⟨c_works, c_lawApply, c_lawTwo, c_lawThen, c_lawOrder, c_lawLeast, c_of, c_then, trivial⟩
theorem wrapU {k : Nat} (h : k < 200) : IntKind.u8.wrap ((k : Int) + 1) = ((k + 1 : Nat) : Int) := by
  simp only [IntKind.wrap, IntKind.bits, IntKind.signed]; simp; omega
theorem wrapM {d : Nat} (h : d < 100) : IntKind.i64.wrap ((d : Int) - 1 + 1) = ((d + 1 : Nat) : Int) - 1 := by
  rw [IntKind.wrap_i64]; omega
def sevenL : List (El tI') := [(-1, ()), (0, ()), (1, ()), (3, ()), (4, ()), (15, ()), (16, ())]
def sevenS (x : Int) : List (El tS) := [(x, 1, 1, 0, 0, 0, 0, ()), (2, x, 1, 0, 0, 0, 0, ()), (2, 2, x, 0, 0, 0, 0, ()), (2, 2, 2, x, 0, 0, 0, ()), (2, 2, 1, 0, x, 0, 0, ()), (2, 2, 1, 0, 1, x, 0, ()), (0, 0, 0, x, 0, 0, 0, ())]
def stK : AV := .cons (I 2) (.cons (I 3) (.cons (I 1) (.cons (I 14) (.cons (I 0) .nil))))
def k_lawKnown : Sig := .done { pre := True, res := B true }
set_option maxHeartbeats 8000000 in
theorem c_lawKnown : FnOk Try.prog 10 k_lawKnown.con := by
  refine fnOkS mixed tys_ok cs12_ok Try.func10 rfl (by kernel_rfl) Try.ntmps10 _ (h := ?_)
  refine ⟨rfl, fun _ => ?_⟩
  conv => whnf
  repeat' ((first
    | with_reducible refine ⟨fun h => h, ?_⟩
    | with_reducible refine ⟨pk1, ?_⟩
    | with_reducible refine ⟨pk2, ?_⟩
    | with_reducible refine ⟨pk3, ?_⟩
    | with_reducible refine ⟨pk4, ?_⟩
    | with_reducible refine ⟨pk5, ?_⟩
    | with_reducible refine ⟨pk6, ?_⟩
    | with_reducible refine ⟨trivial, ?_⟩
    | with_reducible refine ⟨fun _ => trivial, ?_⟩
    | with_reducible refine fork_t (by assumption) ?_
    | with_reducible refine fork_f (by assumption) ?_
    | refine fork_t rfl ?_
    | refine fork_f rfl ?_
    | with_reducible refine fork_i (fun h => ?_) (fun h => ?_)
    | with_reducible refine both_i ?_ ?_
    | ((with_reducible refine alike_i ?_); exact ⟨rfl, rfl, rfl⟩)
    | ((with_reducible refine fin_i ?_); (conv => whnf); refine ⟨rfl, ?_⟩)
    | refine ⟨of_decide_eq_true rfl, ?_⟩
    | refine ⟨fun _ => of_decide_eq_true rfl, ?_⟩
    | ((with_reducible refine ⟨?_, ?_⟩); (focus (intros; simp_all; done)))
    | ((with_reducible refine ⟨?_, ?_⟩); (focus (intros; omega)))) <;> (try (conv => whnf)))
  refine looped (σ := Nat × List (El tS)) (fun x => [(2, U8 x.1), (1, .ow 0 7 x.2.length)]) (fun x => [.row true tS 24 x.2]) (fun x => x.1 ≤ 12 ∧ x.2.length ≤ 6 * x.1) (fun x => 12 - x.1) (0, []) ⟨Nat.zero_le _, Nat.zero_le _⟩ ?_ ?_
  · conv => whnf
    refine ⟨rfl, leaf_i ?_⟩
    repeat' ((with_reducible refine And.intro ?_ ?_) <;> (try (conv => whnf)))
    all_goals (try (first | with_reducible rfl | exact True.intro | rfl | exact id | exact fun h => h | exact fun _ => rfl))
    all_goals first | rfl | trace_state
  · rintro ⟨kind, l⟩ ⟨hk, hl⟩
    dsimp only at hk hl ⊢
    conv => whnf
    repeat' ((first
      | with_reducible refine ⟨fun h => h, ?_⟩
      | with_reducible refine ⟨pk1, ?_⟩
      | with_reducible refine ⟨pk2, ?_⟩
      | with_reducible refine ⟨pk3, ?_⟩
      | with_reducible refine ⟨pk4, ?_⟩
      | with_reducible refine ⟨pk5, ?_⟩
      | with_reducible refine ⟨pk6, ?_⟩
      | with_reducible refine ⟨trivial, ?_⟩
      | with_reducible refine ⟨fun _ => trivial, ?_⟩
      | with_reducible refine fork_t (by assumption) ?_
      | with_reducible refine fork_f (by assumption) ?_
      | refine fork_t rfl ?_
      | refine fork_f rfl ?_
      | with_reducible refine fork_i (fun h => ?_) (fun h => ?_)
      | with_reducible refine both_i ?_ ?_
      | ((with_reducible refine alike_i ?_); exact ⟨rfl, rfl, rfl⟩)
      | ((with_reducible refine fin_i ?_); (conv => whnf); refine ⟨rfl, ?_⟩)
      | refine ⟨of_decide_eq_true rfl, ?_⟩
      | refine ⟨fun _ => of_decide_eq_true rfl, ?_⟩
      | ((with_reducible refine ⟨?_, ?_⟩); (focus (intros; simp_all; done)))
      | ((with_reducible refine ⟨?_, ?_⟩); (focus (intros; omega)))) <;> (try (conv => whnf)))
    · have hb := of_decide_eq_true h
      have hb : kind < 12 := by omega
      refine looped (σ := Nat × List (El tS)) (fun x => [(3, I ((x.1 : Int) - 1)), (1, .ow 0 7 x.2.length)]) (fun x => [.row true tS 24 x.2]) (fun x => x.1 ≤ 6 ∧ x.2.length ≤ 6 * kind + x.1) (fun x => 6 - x.1) (0, l) ⟨Nat.zero_le _, by dsimp only; omega⟩ ?_ ?_
      · conv => whnf
        refine ⟨rfl, leaf_i ?_⟩
        repeat' ((with_reducible refine And.intro ?_ ?_) <;> (try (conv => whnf)))
        all_goals (try (first | with_reducible rfl | exact True.intro | rfl | exact id | exact fun h => h | exact fun _ => rfl))
        all_goals first | rfl | trace_state
      · rintro ⟨d, l2⟩ ⟨hd, hl2⟩
        dsimp only at hd hl2 ⊢
        conv => whnf
        repeat' ((first
          | with_reducible refine ⟨fun h => h, ?_⟩
          | with_reducible refine ⟨pk1, ?_⟩
          | with_reducible refine ⟨pk2, ?_⟩
          | with_reducible refine ⟨pk3, ?_⟩
          | with_reducible refine ⟨pk4, ?_⟩
          | with_reducible refine ⟨pk5, ?_⟩
          | with_reducible refine ⟨pk6, ?_⟩
          | with_reducible refine ⟨trivial, ?_⟩
          | with_reducible refine ⟨fun _ => trivial, ?_⟩
          | with_reducible refine fork_t (by assumption) ?_
          | with_reducible refine fork_f (by assumption) ?_
          | refine fork_t rfl ?_
          | refine fork_f rfl ?_
          | with_reducible refine fork_i (fun h => ?_) (fun h => ?_)
          | with_reducible refine both_i ?_ ?_
          | ((with_reducible refine alike_i ?_); exact ⟨rfl, rfl, rfl⟩)
          | ((with_reducible refine fin_i ?_); (conv => whnf); refine ⟨rfl, ?_⟩)
          | refine ⟨show (-9223372036854775808 : Int) ≤ (d : Int) - 1 ∧ (d : Int) - 1 ≤ 9223372036854775807 by omega, ?_⟩
          | ((with_reducible refine ⟨?_, ?_⟩); (focus (rw [List.length_append, List.length_singleton]; omega)))
          | refine ⟨of_decide_eq_true rfl, ?_⟩
          | refine ⟨fun _ => of_decide_eq_true rfl, ?_⟩
          | ((with_reducible refine ⟨?_, ?_⟩); (focus (intros; simp_all; done)))
          | ((with_reducible refine ⟨?_, ?_⟩); (focus (intros; omega)))) <;> (try (conv => whnf)))
        · have hb2 : (d : Int) - 1 < 5 := of_decide_eq_true (by assumption)
          refine next_i (d + 1, l2 ++ [ofSm (ofS kind ((d : Int) - 1)).1]) ⟨by dsimp only; omega, by dsimp only; rw [List.length_append, List.length_singleton]; omega⟩ (by dsimp only; omega) rfl rfl ?_
          conv => whnf
          refine ⟨rfl, leaf_i ?_⟩
          repeat' ((with_reducible refine And.intro ?_ ?_) <;> (try (conv => whnf)))
          all_goals (try (first | with_reducible rfl | exact True.intro | rfl | exact id | exact fun h => h | exact fun _ => rfl))
          all_goals first | rfl | exact wrapM (by omega) | trace_state
        · have hb2 : (d : Int) - 1 < 5 := of_decide_eq_true (by assumption)
          refine next_i (d + 1, l2) ⟨by dsimp only; omega, by dsimp only; omega⟩ (by dsimp only; omega) rfl rfl ?_
          conv => whnf
          refine ⟨rfl, leaf_i ?_⟩
          repeat' ((with_reducible refine And.intro ?_ ?_) <;> (try (conv => whnf)))
          all_goals (try (first | with_reducible rfl | exact True.intro | rfl | exact id | exact fun h => h | exact fun _ => rfl))
          all_goals first | rfl | exact wrapM (by omega) | trace_state
        · have hb2 : ¬ (d : Int) - 1 < 5 := of_decide_eq_false (by assumption)
          refine next_i (kind + 1, l2) ⟨by dsimp only; omega, by dsimp only; omega⟩ (by dsimp only; omega) rfl rfl ?_
          conv => whnf
          refine ⟨rfl, leaf_i ?_⟩
          repeat' ((with_reducible refine And.intro ?_ ?_) <;> (try (conv => whnf)))
          all_goals (try (first | with_reducible rfl | exact True.intro | rfl | exact id | exact fun h => h | exact fun _ => rfl))
          all_goals first | rfl | exact wrapU (by omega) | trace_state
    · have hn : l.length ≤ 72 := by omega
      generalize hnn : l.length = n at hn
      refine only [6] ?_
      (conv => whnf)
      refine looped (σ := Nat × List (El tS)) (fun x => [(7, I x.1), (1, .ow 0 7 x.2.length)]) (fun x => [.row true tS 24 x.2]) (fun x => x.1 ≤ n ∧ n ≤ x.2.length ∧ x.2.length ≤ 72 + 72 * x.1) (fun x => n - x.1) (0, l) ⟨Nat.zero_le _, by dsimp only; omega, by dsimp only; omega⟩ ?_ ?_
      · conv => whnf
        refine ⟨rfl, leaf_i ?_⟩
        repeat' ((with_reducible refine And.intro ?_ ?_) <;> (try (conv => whnf)))
        all_goals (try (first | with_reducible rfl | exact True.intro | rfl | exact id | exact fun h => h | exact fun _ => rfl))
        all_goals first | rfl | exact hnn.symm | exact hnn | trace_state
      · rintro ⟨i, l2⟩ ⟨hi, hn2, hl2⟩
        dsimp only at hi hn2 hl2 ⊢
        conv => whnf
        repeat' ((first
          | with_reducible refine ⟨fun h => h, ?_⟩
          | with_reducible refine ⟨pk1, ?_⟩
          | with_reducible refine ⟨pk2, ?_⟩
          | with_reducible refine ⟨pk3, ?_⟩
          | with_reducible refine ⟨pk4, ?_⟩
          | with_reducible refine ⟨pk5, ?_⟩
          | with_reducible refine ⟨pk6, ?_⟩
          | with_reducible refine ⟨trivial, ?_⟩
          | with_reducible refine ⟨fun _ => trivial, ?_⟩
          | with_reducible refine fork_t (by assumption) ?_
          | with_reducible refine fork_f (by assumption) ?_
          | refine fork_t rfl ?_
          | refine fork_f rfl ?_
          | with_reducible refine fork_i (fun h => ?_) (fun h => ?_)
          | with_reducible refine both_i ?_ ?_
          | ((with_reducible refine alike_i ?_); exact ⟨rfl, rfl, rfl⟩)
          | ((with_reducible refine fin_i ?_); (conv => whnf); refine ⟨rfl, ?_⟩)
          | refine ⟨of_decide_eq_true rfl, ?_⟩
          | refine ⟨fun _ => of_decide_eq_true rfl, ?_⟩
          | ((with_reducible refine ⟨?_, ?_⟩); (focus (intros; simp_all; done)))
          | ((with_reducible refine ⟨?_, ?_⟩); (focus (intros; omega)))) <;> (try (conv => whnf)))
        · have hb : i < n := lt_t' (by assumption)
          refine looped (σ := Nat × List (El tS)) (fun x => [(8, I x.1), (1, .ow 0 7 x.2.length)]) (fun x => [.row true tS 24 x.2]) (fun x => x.1 ≤ n ∧ n ≤ x.2.length ∧ x.2.length ≤ 72 + 72 * i + x.1) (fun x => n - x.1) (0, l2) ⟨Nat.zero_le _, by dsimp only; omega, by dsimp only; omega⟩ ?_ ?_
          · conv => whnf
            refine ⟨rfl, leaf_i ?_⟩
            repeat' ((with_reducible refine And.intro ?_ ?_) <;> (try (conv => whnf)))
            all_goals (try (first | with_reducible rfl | exact True.intro | rfl | exact id | exact fun h => h | exact fun _ => rfl))
            all_goals first | rfl | trace_state
          · rintro ⟨k, l3⟩ ⟨hk3, hn3, hl3⟩
            dsimp only at hk3 hn3 hl3 ⊢
            conv => whnf
            repeat' ((first
              | with_reducible refine ⟨fun h => h, ?_⟩
              | with_reducible refine ⟨pk1, ?_⟩
              | with_reducible refine ⟨pk2, ?_⟩
              | with_reducible refine ⟨pk3, ?_⟩
              | with_reducible refine ⟨pk4, ?_⟩
              | with_reducible refine ⟨pk5, ?_⟩
              | with_reducible refine ⟨pk6, ?_⟩
              | with_reducible refine ⟨trivial, ?_⟩
              | with_reducible refine ⟨fun _ => trivial, ?_⟩
              | with_reducible refine fork_t (by assumption) ?_
              | with_reducible refine fork_f (by assumption) ?_
              | refine fork_t rfl ?_
              | refine fork_f rfl ?_
              | with_reducible refine fork_i (fun h => ?_) (fun h => ?_)
              | with_reducible refine both_i ?_ ?_
              | ((with_reducible refine alike_i ?_); exact ⟨rfl, rfl, rfl⟩)
              | ((with_reducible refine fin_i ?_); (conv => whnf); refine ⟨rfl, ?_⟩)
              | ((with_reducible refine ⟨?_, ?_⟩); (focus (have hk9 : (k : Int) < n := of_decide_eq_true (by assumption); omega)))
              | ((with_reducible refine ⟨?_, ?_⟩); (focus (rw [List.length_append, List.length_singleton]; omega)))
              | refine ⟨of_decide_eq_true rfl, ?_⟩
              | refine ⟨fun _ => of_decide_eq_true rfl, ?_⟩
              | ((with_reducible refine ⟨?_, ?_⟩); (focus (intros; simp_all; done)))
              | ((with_reducible refine ⟨?_, ?_⟩); (focus (intros; omega)))) <;> (try (conv => whnf)))
            · have hb2 : k < n := lt_t' (by assumption)
              refine next_i (k + 1, l3 ++ [ofSm (thS (toS (getE tS l3 i)) (toS (getE tS l3 k))).1]) ⟨by dsimp only; omega, by dsimp only; rw [List.length_append, List.length_singleton]; omega, by dsimp only; rw [List.length_append, List.length_singleton]; omega⟩ (by dsimp only; omega) rfl rfl ?_
              conv => whnf
              refine ⟨rfl, leaf_i ?_⟩
              repeat' ((with_reducible refine And.intro ?_ ?_) <;> (try (conv => whnf)))
              all_goals (try (first | with_reducible rfl | exact True.intro | rfl | exact id | exact fun h => h | exact fun _ => rfl))
              all_goals first | rfl | exact wrapS' (by omega) | trace_state
            · have hb2 : k < n := lt_t' (by assumption)
              refine next_i (k + 1, l3) ⟨by dsimp only; omega, hn3, by dsimp only; omega⟩ (by dsimp only; omega) rfl rfl ?_
              conv => whnf
              refine ⟨rfl, leaf_i ?_⟩
              repeat' ((with_reducible refine And.intro ?_ ?_) <;> (try (conv => whnf)))
              all_goals (try (first | with_reducible rfl | exact True.intro | rfl | exact id | exact fun h => h | exact fun _ => rfl))
              all_goals first | rfl | exact wrapS' (by omega) | trace_state
            · refine next_i (i + 1, l3) ⟨by dsimp only; omega, hn3, by dsimp only; omega⟩ (by dsimp only; omega) rfl rfl ?_
              conv => whnf
              refine ⟨rfl, leaf_i ?_⟩
              repeat' ((with_reducible refine And.intro ?_ ?_) <;> (try (conv => whnf)))
              all_goals (try (first | with_reducible rfl | exact True.intro | rfl | exact id | exact fun h => h | exact fun _ => rfl))
              all_goals first | rfl | exact wrapS' (by omega) | trace_state
        · have hl9 : l2.length ≤ 5256 := by omega
          refine only [100] ?_
          (conv => whnf)
          refine looped (σ := Nat × List (El tS)) (fun x => [(101, I x.1), (1, .ow 0 7 x.2.length), (99, .ow 1 1 7)]) (fun x => [.row true tS 24 x.2, .row true tI' 3 sevenL]) (fun x => x.1 ≤ 7 ∧ x.2.length ≤ 5256 + 7 * x.1) (fun x => 7 - x.1) (0, l2) ⟨Nat.zero_le _, by dsimp only; omega⟩ ?_ ?_
          · conv => whnf
            refine ⟨rfl, leaf_i ?_⟩
            repeat' ((with_reducible refine And.intro ?_ ?_) <;> (try (conv => whnf)))
            all_goals (try (first | with_reducible rfl | exact True.intro | rfl | exact id | exact fun h => h | exact fun _ => rfl))
            all_goals first | rfl | trace_state
          · rintro ⟨j, l3⟩ ⟨hj, hl3⟩
            dsimp only at hj hl3 ⊢
            conv => whnf
            repeat' ((first
              | with_reducible refine ⟨fun h => h, ?_⟩
              | with_reducible refine ⟨pk1, ?_⟩
              | with_reducible refine ⟨pk2, ?_⟩
              | with_reducible refine ⟨pk3, ?_⟩
              | with_reducible refine ⟨pk4, ?_⟩
              | with_reducible refine ⟨pk5, ?_⟩
              | with_reducible refine ⟨pk6, ?_⟩
              | with_reducible refine ⟨trivial, ?_⟩
              | with_reducible refine ⟨fun _ => trivial, ?_⟩
              | with_reducible refine fork_t (by assumption) ?_
              | with_reducible refine fork_f (by assumption) ?_
              | refine fork_t rfl ?_
              | refine fork_f rfl ?_
              | with_reducible refine fork_i (fun h => ?_) (fun h => ?_)
              | with_reducible refine both_i ?_ ?_
              | ((with_reducible refine alike_i ?_); exact ⟨rfl, rfl, rfl⟩)
              | ((with_reducible refine fin_i ?_); (conv => whnf); refine ⟨rfl, ?_⟩)
              | ((with_reducible refine ⟨?_, ?_⟩); (focus (simp only [List.length_append, List.length_cons, List.length_nil]; omega)))
              | refine ⟨of_decide_eq_true rfl, ?_⟩
              | refine ⟨fun _ => of_decide_eq_true rfl, ?_⟩
              | ((with_reducible refine ⟨?_, ?_⟩); (focus (intros; simp_all; done)))
              | ((with_reducible refine ⟨?_, ?_⟩); (focus (intros; omega)))) <;> (try (conv => whnf)))
            · have hb2 : j < 7 := by have h2 : (j : Int) < (7 : Nat) := of_decide_eq_true (by assumption); omega
              refine next_i (j + 1, l3 ++ sevenS (getE tI' sevenL j).1) ⟨by dsimp only; omega, by dsimp only; rw [List.length_append]; show l3.length + 7 ≤ _; omega⟩ (by dsimp only; omega) rfl rfl ?_
              conv => whnf
              refine ⟨rfl, leaf_i ?_⟩
              repeat' ((with_reducible refine And.intro ?_ ?_) <;> (try (conv => whnf)))
              all_goals (try (first | with_reducible rfl | exact True.intro | rfl | exact id | exact fun h => h | exact fun _ => rfl))
              all_goals first | rfl | exact wrapS' (by omega) | trace_state
            · have hl4 : l3.length ≤ 6000 := by omega
              refine only [] ?_
              (conv => whnf)
              refine looped (σ := Nat) (fun x => [(14, I x), (1, .ow 0 7 l3.length), (13, .ptr 1 0)]) (fun x => [.row true tS 24 l3, .cells stK]) (fun x => x ≤ l3.length) (fun x => l3.length - x) 0 (Nat.zero_le _) ?_ ?_
              · conv => whnf
                refine ⟨rfl, leaf_i ?_⟩
                repeat' ((with_reducible refine And.intro ?_ ?_) <;> (try (conv => whnf)))
                all_goals (try (first | with_reducible rfl | exact True.intro | rfl | exact id | exact fun h => h | exact fun _ => rfl))
                all_goals first | rfl | trace_state
              · rintro i2 hi2
                dsimp only at hi2 ⊢
                conv => whnf
                repeat' ((first
                  | with_reducible refine ⟨fun h => h, ?_⟩
                  | with_reducible refine ⟨pk1, ?_⟩
                  | with_reducible refine ⟨pk2, ?_⟩
                  | with_reducible refine ⟨pk3, ?_⟩
                  | with_reducible refine ⟨pk4, ?_⟩
                  | with_reducible refine ⟨pk5, ?_⟩
                  | with_reducible refine ⟨pk6, ?_⟩
                  | with_reducible refine ⟨trivial, ?_⟩
                  | with_reducible refine ⟨fun _ => trivial, ?_⟩
                  | with_reducible refine fork_t (by assumption) ?_
                  | with_reducible refine fork_f (by assumption) ?_
                  | refine fork_t rfl ?_
                  | refine fork_f rfl ?_
                  | with_reducible refine fork_i (fun h => ?_) (fun h => ?_)
                  | with_reducible refine both_i ?_ ?_
                  | ((with_reducible refine alike_i ?_); exact ⟨rfl, rfl, rfl⟩)
                  | ((with_reducible refine fin_i ?_); (conv => whnf); refine ⟨rfl, ?_⟩)
                  | refine ⟨of_decide_eq_true rfl, ?_⟩
                  | refine ⟨fun _ => of_decide_eq_true rfl, ?_⟩
                  | ((with_reducible refine ⟨?_, ?_⟩); (focus (intros; simp_all; done)))
                  | ((with_reducible refine ⟨?_, ?_⟩); (focus (intros; omega)))) <;> (try (conv => whnf)))
                · have hb : i2 < l3.length := lt_t' (by assumption)
                  refine only [1, 13, 14] ?_
                  (conv => whnf)
                  refine looped (σ := Nat) (fun x => [(15, I x)]) (fun x => [.row true tS 24 l3, .cells stK]) (fun x => x ≤ l3.length) (fun x => l3.length - x) 0 (Nat.zero_le _) ?_ ?_
                  · conv => whnf
                    refine ⟨rfl, leaf_i ?_⟩
                    repeat' ((with_reducible refine And.intro ?_ ?_) <;> (try (conv => whnf)))
                    all_goals (try (first | with_reducible rfl | exact True.intro | rfl | exact id | exact fun h => h | exact fun _ => rfl))
                    all_goals first | rfl | trace_state
                  · rintro k hk
                    dsimp only at hk ⊢
                    have hmn : 0 ≤ (i2 : Int) ∧ (i2 : Int) ≤ (if IntKind.i64.wrap ((i2 : Int) + 29) < (l3.length : Int) then IntKind.i64.wrap ((i2 : Int) + 29) else (l3.length : Int)) ∧ (if IntKind.i64.wrap ((i2 : Int) + 29) < (l3.length : Int) then IntKind.i64.wrap ((i2 : Int) + 29) else (l3.length : Int)) ≤ (l3.length : Int) := by
                      rw [IntKind.wrap_i64]
                      split <;> omega
                    have hm : 0 ≤ (IntKind.i64.wrap ((i2 : Int) + k)).tmod l3.length ∧ (IntKind.i64.wrap ((i2 : Int) + k)).tmod l3.length < l3.length := by
                      rw [show IntKind.i64.wrap ((i2 : Int) + k) = ((i2 + k : Nat) : Int) by rw [IntKind.wrap_i64]; omega]
                      rw [← Int.ofNat_tmod]
                      have := Nat.mod_lt (i2 + k) (show l3.length > 0 by omega)
                      omega
                    conv => whnf
                    repeat' ((first
                      | with_reducible refine ⟨fun h => h, ?_⟩
                      | with_reducible refine ⟨pk1, ?_⟩
                      | with_reducible refine ⟨pk2, ?_⟩
                      | with_reducible refine ⟨pk3, ?_⟩
                      | with_reducible refine ⟨pk4, ?_⟩
                      | with_reducible refine ⟨pk5, ?_⟩
                      | with_reducible refine ⟨pk6, ?_⟩
                      | with_reducible refine ⟨trivial, ?_⟩
                      | with_reducible refine ⟨fun _ => trivial, ?_⟩
                      | with_reducible refine fork_t (by assumption) ?_
                      | with_reducible refine fork_f (by assumption) ?_
                      | refine fork_t rfl ?_
                      | refine fork_f rfl ?_
                      | with_reducible refine fork_i (fun h => ?_) (fun h => ?_)
                      | with_reducible refine both_i ?_ ?_
                      | ((with_reducible refine alike_i ?_); exact ⟨rfl, rfl, rfl⟩)
                      | ((with_reducible refine fin_i ?_); (conv => whnf); refine ⟨rfl, ?_⟩)
                      | refine ⟨show (-9223372036854775808 : Int) ≤ (i2 : Int) ∧ (i2 : Int) ≤ 9223372036854775807 by omega, ?_⟩
                      | refine ⟨fun _ => (show (-9223372036854775808 : Int) ≤ (i2 : Int) ∧ (i2 : Int) ≤ 9223372036854775807 by omega), ?_⟩
                      | refine ⟨fun _ => hm, ?_⟩
                      | refine ⟨fun _ => hmn, ?_⟩
                      | refine ⟨fun _ => (show ((l3.length : Nat) : Int) ≠ 0 by omega), ?_⟩
                      | refine ⟨fun _ => ⟨(by decide), (by decide)⟩, ?_⟩
                      | refine ⟨of_decide_eq_true rfl, ?_⟩
                      | refine ⟨fun _ => of_decide_eq_true rfl, ?_⟩
                      | ((with_reducible refine ⟨?_, ?_⟩); (focus (intros; simp_all; done)))
                      | ((with_reducible refine ⟨?_, ?_⟩); (focus (intros; omega)))) <;> (try (conv => whnf)))
                    · have hb2 : k < l3.length := lt_t' (by assumption)
                      refine next_i (k + 1) hb2 (by omega) rfl rfl ?_
                      conv => whnf
                      refine ⟨rfl, leaf_i ?_⟩
                      repeat' ((with_reducible refine And.intro ?_ ?_) <;> (try (conv => whnf)))
                      all_goals (try (first | with_reducible rfl | exact True.intro | rfl | exact id | exact fun h => h | exact fun _ => rfl))
                      all_goals first | rfl | exact wrapS' (by omega) | trace_state
                    · refine next_i (i2 + 1) hb (by omega) rfl rfl ?_
                      conv => whnf
                      refine ⟨rfl, leaf_i ?_⟩
                      repeat' ((with_reducible refine And.intro ?_ ?_) <;> (try (conv => whnf)))
                      all_goals (try (first | with_reducible rfl | exact True.intro | rfl | exact id | exact fun h => h | exact fun _ => rfl))
                      all_goals first | rfl | exact wrapS' (by omega) | trace_state
                · all_goals ((with_reducible refine leaf_i ?_); (conv => whnf))
                  repeat' ((with_reducible refine And.intro ?_ ?_) <;> (try (conv => whnf)))
                  all_goals (try (first | with_reducible rfl | exact True.intro | rfl | exact id | exact fun h => h | exact fun _ => rfl))
                  all_goals first | rfl | trace_state
end Go.Proofs.Ythlkhjfilfdpiaa
