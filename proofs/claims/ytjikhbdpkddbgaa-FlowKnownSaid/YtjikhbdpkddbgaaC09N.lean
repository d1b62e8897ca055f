/- What FlowKnown calls besides the laws: the graphs, Own in own memory. -/
import Derived.Test.YtjikhbdpkddbgaaC09H
import Derived.Test.YtjikhbdpkddbgaaP09L
namespace Go.Proofs.Ytjikhbdpkddbgaa
set_option linter.unusedVariables false
set_option linter.unusedSimpArgs false
open Go Go.RowKit Go.Proofs.Ytjikhbdpkddbgaa.Eng

def gRace : List Nd := [(1, 0, 0, 0, [], ()), (2, 0, 1, 0, [(0, ())], ()), (7, 0, 0, 1, [(1, ())], ()), (4, 0, 0, 1, [(2, ()), (6, ())], ()), (2, 0, 2, 1, [(3, ())], ()), (3, 0, 9, 1, [(4, ())], ()), (9, 0, 3, 1, [(5, ())], ()), (8, 0, 0, 0, [(4, ())], ()), (5, 0, 0, 0, [(7, ())], ()), (10, 0, 0, 0, [(8, ())], ())]
def gMeet : List Nd := [(1, 0, 0, 0, [], ()), (1, 0, 0, 0, [], ()), (6, 0, 0, 0, [(0, ()), (1, ())], ()), (10, 0, 0, 0, [(2, ())], ())]
def gStr : List Nd := [(1, 0, 0, 0, [], ()), (10, 0, 0, 0, [(0, ())], ())]
def k_race : Sig := .done { pre := True, res := .rl true tN gRace }
def k_meet : Sig := .done { pre := True, res := .rl true tN gMeet }
def k_str : Sig := .done { pre := True, res := .rl true tN gStr }
set_option maxRecDepth 100000 in
set_option maxHeartbeats 4000000 in
theorem c_race : FnOk Try.prog 24 k_race.con := by
  refine fnOkS mixed tys_ok (cs := []) trivial Try.func24 rfl (by kernel_rfl) Try.ntmps24 _ (h := ?_)
  refine ⟨rfl, fun hp => ?_⟩
  conv => whnf
  repeat' ((first
    | with_reducible refine ⟨fun h => h, ?_⟩
    | with_reducible refine ⟨pk1, ?_⟩
    | with_reducible refine ⟨pk2, ?_⟩
    | with_reducible refine ⟨pk3, ?_⟩
    | with_reducible refine ⟨pk4, ?_⟩
    | with_reducible refine ⟨pk5, ?_⟩
    | with_reducible refine ⟨pk6, ?_⟩
    | with_reducible refine ⟨trivial, ?_⟩
    | with_reducible refine ⟨fun _ => trivial, ?_⟩
    | with_reducible refine fork_t (by assumption) ?_
    | with_reducible refine fork_f (by assumption) ?_
    | refine fork_t rfl ?_
    | refine fork_f rfl ?_
    | with_reducible refine fork_i (fun h => ?_) (fun h => ?_)
    | with_reducible refine both_i ?_ ?_
    | ((with_reducible refine alike_i ?_); exact ⟨rfl, rfl, rfl⟩)
    | ((with_reducible refine fin_i ?_); (conv => whnf); refine ⟨rfl, ?_⟩)
    | refine ⟨of_decide_eq_true rfl, ?_⟩
    | refine ⟨fun _ => of_decide_eq_true rfl, ?_⟩
    | ((with_reducible refine ⟨?_, ?_⟩); (focus (intros; simp_all; done)))
    | ((with_reducible refine ⟨?_, ?_⟩); (focus (intros; omega)))) <;> (try (conv => whnf)))
  all_goals ((with_reducible refine leaf_i ?_); (conv => whnf))
  repeat' ((with_reducible refine And.intro ?_ ?_) <;> (try (conv => whnf)))
  all_goals (try (first | with_reducible rfl | exact True.intro | rfl | exact id | exact fun h => h | exact fun _ => rfl))
set_option maxRecDepth 100000 in
set_option maxHeartbeats 4000000 in
theorem c_meet : FnOk Try.prog 25 k_meet.con := by
  refine fnOkS mixed tys_ok (cs := []) trivial Try.func25 rfl (by kernel_rfl) Try.ntmps25 _ (h := ?_)
  refine ⟨rfl, fun hp => ?_⟩
  conv => whnf
  repeat' ((first
    | with_reducible refine ⟨fun h => h, ?_⟩
    | with_reducible refine ⟨pk1, ?_⟩
    | with_reducible refine ⟨pk2, ?_⟩
    | with_reducible refine ⟨pk3, ?_⟩
    | with_reducible refine ⟨pk4, ?_⟩
    | with_reducible refine ⟨pk5, ?_⟩
    | with_reducible refine ⟨pk6, ?_⟩
    | with_reducible refine ⟨trivial, ?_⟩
    | with_reducible refine ⟨fun _ => trivial, ?_⟩
    | with_reducible refine fork_t (by assumption) ?_
    | with_reducible refine fork_f (by assumption) ?_
    | refine fork_t rfl ?_
    | refine fork_f rfl ?_
    | with_reducible refine fork_i (fun h => ?_) (fun h => ?_)
    | with_reducible refine both_i ?_ ?_
    | ((with_reducible refine alike_i ?_); exact ⟨rfl, rfl, rfl⟩)
    | ((with_reducible refine fin_i ?_); (conv => whnf); refine ⟨rfl, ?_⟩)
    | refine ⟨of_decide_eq_true rfl, ?_⟩
    | refine ⟨fun _ => of_decide_eq_true rfl, ?_⟩
    | ((with_reducible refine ⟨?_, ?_⟩); (focus (intros; simp_all; done)))
    | ((with_reducible refine ⟨?_, ?_⟩); (focus (intros; omega)))) <;> (try (conv => whnf)))
  all_goals ((with_reducible refine leaf_i ?_); (conv => whnf))
  repeat' ((with_reducible refine And.intro ?_ ?_) <;> (try (conv => whnf)))
  all_goals (try (first | with_reducible rfl | exact True.intro | rfl | exact id | exact fun h => h | exact fun _ => rfl))
set_option maxRecDepth 100000 in
set_option maxHeartbeats 4000000 in
theorem c_str : FnOk Try.prog 26 k_str.con := by
  refine fnOkS mixed tys_ok (cs := []) trivial Try.func26 rfl (by kernel_rfl) Try.ntmps26 _ (h := ?_)
  refine ⟨rfl, fun hp => ?_⟩
  conv => whnf
  repeat' ((first
    | with_reducible refine ⟨fun h => h, ?_⟩
    | with_reducible refine ⟨pk1, ?_⟩
    | with_reducible refine ⟨pk2, ?_⟩
    | with_reducible refine ⟨pk3, ?_⟩
    | with_reducible refine ⟨pk4, ?_⟩
    | with_reducible refine ⟨pk5, ?_⟩
    | with_reducible refine ⟨pk6, ?_⟩
    | with_reducible refine ⟨trivial, ?_⟩
    | with_reducible refine ⟨fun _ => trivial, ?_⟩
    | with_reducible refine fork_t (by assumption) ?_
    | with_reducible refine fork_f (by assumption) ?_
    | refine fork_t rfl ?_
    | refine fork_f rfl ?_
    | with_reducible refine fork_i (fun h => ?_) (fun h => ?_)
    | with_reducible refine both_i ?_ ?_
    | ((with_reducible refine alike_i ?_); exact ⟨rfl, rfl, rfl⟩)
    | ((with_reducible refine fin_i ?_); (conv => whnf); refine ⟨rfl, ?_⟩)
    | refine ⟨of_decide_eq_true rfl, ?_⟩
    | refine ⟨fun _ => of_decide_eq_true rfl, ?_⟩
    | ((with_reducible refine ⟨?_, ?_⟩); (focus (intros; simp_all; done)))
    | ((with_reducible refine ⟨?_, ?_⟩); (focus (intros; omega)))) <;> (try (conv => whnf)))
  all_goals ((with_reducible refine leaf_i ?_); (conv => whnf))
  repeat' ((with_reducible refine And.intro ?_ ?_) <;> (try (conv => whnf)))
  all_goals (try (first | with_reducible rfl | exact True.intro | rfl | exact id | exact fun h => h | exact fun _ => rfl))
def k_own2 : Sig := .arg (shR tN) fun g => .done { pre := g.length ≤ 1000000000 ∧ ∀ x : Nd, x ∈ g → (Nd.ins x).length ≤ 1000000000, res := .ow 0 5 g.length, new := [.row true tN 48 g] }
set_option maxRecDepth 100000 in
set_option maxHeartbeats 4000000 in
theorem c_own2 : FnOk Try.prog 13 k_own2.con := by
  refine fnOkS mixed tys_ok (cs := []) trivial Try.func13 rfl (by kernel_rfl) Try.ntmps13 _ (h := ?_)
  intro g
  refine ⟨rfl, fun hp => ?_⟩
  obtain ⟨hp1, hp2⟩ := hp
  conv => whnf
  repeat' ((first
    | with_reducible refine ⟨fun h => h, ?_⟩
    | with_reducible refine ⟨pk1, ?_⟩
    | with_reducible refine ⟨pk2, ?_⟩
    | with_reducible refine ⟨pk3, ?_⟩
    | with_reducible refine ⟨pk4, ?_⟩
    | with_reducible refine ⟨pk5, ?_⟩
    | with_reducible refine ⟨pk6, ?_⟩
    | with_reducible refine ⟨trivial, ?_⟩
    | with_reducible refine ⟨fun _ => trivial, ?_⟩
    | with_reducible refine fork_t (by assumption) ?_
    | with_reducible refine fork_f (by assumption) ?_
    | refine fork_t rfl ?_
    | refine fork_f rfl ?_
    | with_reducible refine fork_i (fun h => ?_) (fun h => ?_)
    | with_reducible refine both_i ?_ ?_
    | ((with_reducible refine alike_i ?_); exact ⟨rfl, rfl, rfl⟩)
    | ((with_reducible refine fin_i ?_); (conv => whnf); refine ⟨rfl, ?_⟩)
    | refine ⟨of_decide_eq_true rfl, ?_⟩
    | refine ⟨fun _ => of_decide_eq_true rfl, ?_⟩
    | ((with_reducible refine ⟨?_, ?_⟩); (focus (intros; simp_all; done)))
    | ((with_reducible refine ⟨?_, ?_⟩); (focus (intros; omega)))) <;> (try (conv => whnf)))
  refine looped (σ := Nat × List (El tN)) (fun x => [(4, I x.1), (3, .ow 0 5 x.2.length)]) (fun x => [.row true tN 48 x.2]) (fun x => x.1 ≤ g.length ∧ x.2 = g.take x.1) (fun x => g.length - x.1) (0, []) ⟨Nat.zero_le _, rfl⟩ ?_ ?_
  · conv => whnf
    refine ⟨rfl, leaf_i ?_⟩
    repeat' ((with_reducible refine And.intro ?_ ?_) <;> (try (conv => whnf)))
    all_goals (try (first | with_reducible rfl | exact True.intro | rfl | exact id | exact fun h => h | exact fun _ => rfl))
  · rintro ⟨j, l⟩ ⟨hj, hl⟩
    dsimp only at hj hl
    conv => whnf
    repeat' ((first
      | with_reducible refine ⟨fun h => h, ?_⟩
      | with_reducible refine ⟨pk1, ?_⟩
      | with_reducible refine ⟨pk2, ?_⟩
      | with_reducible refine ⟨pk3, ?_⟩
      | with_reducible refine ⟨pk4, ?_⟩
      | with_reducible refine ⟨pk5, ?_⟩
      | with_reducible refine ⟨pk6, ?_⟩
      | with_reducible refine ⟨trivial, ?_⟩
      | with_reducible refine ⟨fun _ => trivial, ?_⟩
      | with_reducible refine fork_t (by assumption) ?_
      | with_reducible refine fork_f (by assumption) ?_
      | refine fork_t rfl ?_
      | refine fork_f rfl ?_
      | with_reducible refine fork_i (fun h => ?_) (fun h => ?_)
      | with_reducible refine both_i ?_ ?_
      | ((with_reducible refine alike_i ?_); exact ⟨rfl, rfl, rfl⟩)
      | ((with_reducible refine fin_i ?_); (conv => whnf); refine ⟨rfl, ?_⟩)
      | refine ⟨of_decide_eq_true rfl, ?_⟩
      | refine ⟨fun _ => of_decide_eq_true rfl, ?_⟩
      | ((with_reducible refine ⟨?_, ?_⟩); (focus (intros; simp_all; done)))
      | ((with_reducible refine ⟨?_, ?_⟩); (focus (intros; omega)))) <;> (try (conv => whnf)))
    · have hj' : j < g.length := lt_t (by assumption)
      have hlen : l.length = j := by rw [hl, List.length_take]; omega
      refine ⟨hp2 _ (getE_mem g hj'), ?_⟩
      (conv => whnf)
      conv => whnf
      repeat' ((first
        | with_reducible refine ⟨fun h => h, ?_⟩
        | with_reducible refine ⟨pk1, ?_⟩
        | with_reducible refine ⟨pk2, ?_⟩
        | with_reducible refine ⟨pk3, ?_⟩
        | with_reducible refine ⟨pk4, ?_⟩
        | with_reducible refine ⟨pk5, ?_⟩
        | with_reducible refine ⟨pk6, ?_⟩
        | with_reducible refine ⟨trivial, ?_⟩
        | with_reducible refine ⟨fun _ => trivial, ?_⟩
        | with_reducible refine fork_t (by assumption) ?_
        | with_reducible refine fork_f (by assumption) ?_
        | refine fork_t rfl ?_
        | refine fork_f rfl ?_
        | with_reducible refine fork_i (fun h => ?_) (fun h => ?_)
        | with_reducible refine both_i ?_ ?_
        | ((with_reducible refine alike_i ?_); exact ⟨rfl, rfl, rfl⟩)
        | ((with_reducible refine fin_i ?_); (conv => whnf); refine ⟨rfl, ?_⟩)
        | ((with_reducible refine ⟨?_, ?_⟩); (focus (simp only [List.length_append, List.length_cons, List.length_nil]; omega)))
        | refine ⟨of_decide_eq_true rfl, ?_⟩
        | refine ⟨fun _ => of_decide_eq_true rfl, ?_⟩
        | ((with_reducible refine ⟨?_, ?_⟩); (focus (intros; simp_all; done)))
        | ((with_reducible refine ⟨?_, ?_⟩); (focus (intros; omega)))) <;> (try (conv => whnf)))
      refine next_i (j + 1, l ++ [getE tN g j]) ⟨hj', by rw [hl]; exact (take_get g hj').symm⟩ (by dsimp only; omega) rfl rfl ?_
      conv => whnf
      refine ⟨rfl, leaf_i ?_⟩
      repeat' ((with_reducible refine And.intro ?_ ?_) <;> (try (conv => whnf)))
      all_goals (try (first | with_reducible rfl | exact True.intro | rfl | exact id | exact fun h => h | exact fun _ => rfl))
      all_goals first | rfl | exact wrapS (j := j) (by omega) | trace_state
    · have hj' : g.length ≤ j := lt_f (by assumption)
      have hl : l = g := by rw [hl, List.take_of_length_le hj']
      all_goals ((with_reducible refine leaf_i ?_); (conv => whnf))
      repeat' ((with_reducible refine And.intro ?_ ?_) <;> (try (conv => whnf)))
      all_goals (try (first | with_reducible rfl | exact True.intro | rfl | exact id | exact fun h => h | exact fun _ => rfl))
      all_goals first | exact hl | exact congrArg List.length hl

def gK : List (El (.sl tN .nil)) := [(gRace, ()), (gMeet, ()), (gStr, ()), ([], ()), ([(0, 0, 0, 0, [], ())], ())]
def chkG (x : El (.sl tN .nil)) : Bool := decide (x.1.length ≤ 10) && (x.1.all fun n => decide ((Nd.ins n).length ≤ 2) && decide (0 ≤ n.1 ∧ n.1 ≤ 255) && decide (0 ≤ n.2.1 ∧ n.2.1 ≤ 255) && decide (-9223372036854775808 ≤ n.2.2.1 ∧ n.2.2.1 ≤ 9223372036854775807)) && decide ((putG x.1).1.length ≤ 449)
theorem gK_chk : gK.all chkG = true := by kernel_rfl
theorem gK_ok {j : Nat} (h : j < gK.length) : okG (getE (.sl tN .nil) gK j).1 ∧ (getE (.sl tN .nil) gK j).1.length ≤ 10 ∧ (∀ x : Nd, x ∈ (getE (.sl tN .nil) gK j).1 → (Nd.ins x).length ≤ 2) ∧ (putG (getE (.sl tN .nil) gK j).1).1.length ≤ 449 := by
  have h1 := List.all_eq_true.1 gK_chk _ (getE_mem gK h)
  unfold chkG at h1
  simp only [Bool.and_eq_true, decide_eq_true_eq, List.all_eq_true] at h1
  obtain ⟨⟨h1, h2⟩, h3⟩ := h1
  refine ⟨fun n hn => ?_, h1, fun n hn => ?_, h3⟩
  · obtain ⟨⟨⟨a, b⟩, c⟩, d⟩ := h2 n hn
    exact ⟨b, c, d⟩
  · obtain ⟨⟨⟨a, b⟩, c⟩, d⟩ := h2 n hn
    exact a
end Go.Proofs.Ytjikhbdpkddbgaa
