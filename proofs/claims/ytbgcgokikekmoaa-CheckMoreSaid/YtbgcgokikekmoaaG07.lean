/- Parts of the proof, joined: no conditions of their own. -/
import Derived.Test.YtbgcgokikekmoaaG06
/- Layer 10: a node's inputs and depth; Node. -/
namespace Go.Proofs.Ytbgcgokikekmoaa
set_option maxRecDepth 100000
open Go Go.RowKit Go.Proofs.Ytbgcgokikekmoaa.Eng
def k_arity : Sig := .arg (shK .u8) fun k => .done { pre := True, res := I (arK k) }
set_option maxHeartbeats 4000000 in
theorem c_arity : FnOk Try.prog 41 k_arity.con := by
  refine fnOkS mixed tys_ok (cs := []) trivial Try.func41 rfl (by kernel_rfl) Try.ntmps41 _ (h := ?_)
  intro k
  refine ⟨rfl, fun _ => ?_⟩
  conv => whnf
  repeat' ((first
    | with_reducible refine ⟨fun h => h, ?_⟩
    | with_reducible refine ⟨pk1, ?_⟩
    | with_reducible refine ⟨pk2, ?_⟩
    | with_reducible refine ⟨pk3, ?_⟩
    | with_reducible refine ⟨pk4, ?_⟩
    | with_reducible refine ⟨pk5, ?_⟩
    | with_reducible refine ⟨pk6, ?_⟩
    | with_reducible refine ⟨trivial, ?_⟩
    | with_reducible refine ⟨fun _ => trivial, ?_⟩
    | with_reducible refine ⟨rfl, ?_⟩
    | with_reducible refine every_i (fun hd => ?_)
    | with_reducible refine everyN_i (fun k hk => ?_)
    | with_reducible refine everyD_i (fun d hd => ?_)
    | with_reducible refine fork_t (by assumption) ?_
    | with_reducible refine fork_f (by assumption) ?_
    | refine fork_t rfl ?_
    | refine fork_f rfl ?_
    | with_reducible refine fork_i (fun h => ?_) (fun h => ?_)
    | with_reducible refine both_i ?_ ?_
    | ((with_reducible refine alike_i ?_); exact ⟨rfl, rfl, rfl⟩)
    | ((with_reducible refine fin_i ?_); (conv => whnf); refine ⟨rfl, ?_⟩)
    | refine ⟨of_decide_eq_true rfl, ?_⟩
    | refine ⟨fun _ => of_decide_eq_true rfl, ?_⟩
    | ((with_reducible refine ⟨?_, ?_⟩); (focus (intros; simp_all; done)))
    | ((with_reducible refine ⟨?_, ?_⟩); (focus (intros; omega)))) <;> (try (conv => whnf)))
  all_goals ((with_reducible refine leaf_i ?_); (conv => whnf))
  repeat' ((with_reducible refine And.intro ?_ ?_) <;> (try (conv => whnf)))
  all_goals (try (first | with_reducible rfl | exact True.intro | rfl | exact id | exact fun h => h | exact fun _ => rfl))
  all_goals (first | rfl | (congr 2; simp_all [arK]; done) | trace_state)
def k_ports : Sig := .arg (shR tN) fun g => .arg (shT tN) fun n => .done { pre := (Nd.ins n).length < 4611686018427387904, res := B (portsB g n) }
set_option maxHeartbeats 4000000 in
theorem c_ports : FnOk Try.prog 25 k_ports.con := by
  refine fnOkS mixed tys_ok (cs := [(41, k_arity.con), (42, k_hports1.con)]) ⟨c_arity, c_hports1, trivial⟩ Try.func25 rfl (by kernel_rfl) Try.ntmps25 _ (h := ?_)
  intro g n
  refine ⟨rfl, fun hp => ?_⟩
  have hp : (Nd.ins n).length < 4611686018427387904 := hp
  conv => whnf
  repeat' ((first
    | with_reducible refine ⟨fun h => h, ?_⟩
    | with_reducible refine ⟨pk1, ?_⟩
    | with_reducible refine ⟨pk2, ?_⟩
    | with_reducible refine ⟨pk3, ?_⟩
    | with_reducible refine ⟨pk4, ?_⟩
    | with_reducible refine ⟨pk5, ?_⟩
    | with_reducible refine ⟨pk6, ?_⟩
    | with_reducible refine ⟨trivial, ?_⟩
    | with_reducible refine ⟨fun _ => trivial, ?_⟩
    | with_reducible refine ⟨rfl, ?_⟩
    | with_reducible refine every_i (fun hd => ?_)
    | with_reducible refine everyN_i (fun k hk => ?_)
    | with_reducible refine everyD_i (fun d hd => ?_)
    | with_reducible refine fork_t (by assumption) ?_
    | with_reducible refine fork_f (by assumption) ?_
    | refine fork_t rfl ?_
    | refine fork_f rfl ?_
    | with_reducible refine fork_i (fun h => ?_) (fun h => ?_)
    | with_reducible refine both_i ?_ ?_
    | ((with_reducible refine alike_i ?_); exact ⟨rfl, rfl, rfl⟩)
    | ((with_reducible refine fin_i ?_); (conv => whnf); refine ⟨rfl, ?_⟩)
    | refine ⟨fun _ => ⟨hp, fun _ _ => trivial⟩, ?_⟩
    | refine ⟨of_decide_eq_true rfl, ?_⟩
    | refine ⟨fun _ => of_decide_eq_true rfl, ?_⟩
    | ((with_reducible refine ⟨?_, ?_⟩); (focus (intros; simp_all; done)))
    | ((with_reducible refine ⟨?_, ?_⟩); (focus (intros; omega)))) <;> (try (conv => whnf)))
  all_goals ((with_reducible refine leaf_i ?_); (conv => whnf))
  repeat' ((with_reducible refine And.intro ?_ ?_) <;> (try (conv => whnf)))
  all_goals (try (first | with_reducible rfl | exact True.intro | rfl | exact id | exact fun h => h | exact fun _ => rfl))
  all_goals (first | rfl | trace_state)
theorem depthB_go {g : List Nd} {n : Nd} (h1 : ¬ (n.kind = 9 ∧ n.dep < 1)) (h2 : ¬ ((n.kind = 1 ∨ n.kind = 10) ∧ n.dep ≠ 0)) {f : Int} (hf : fedK n.kind n.dep = f) :
    depthB g n = bif (bif decide (n.dep ≥ 0) then decide (n.dep ≤ 3) else false) then !hasP (otherB g f) n.ins else false := by
  unfold depthB; rw [if_neg h1, if_neg h2, hf]
def k_depth : Sig := .arg (shR tN) fun g => .arg (shT tN) fun n => .done { pre := (Nd.ins n).length < 4611686018427387904 ∧ ∀ x ∈ Nd.ins n, 0 ≤ x.1 ∧ x.1 < (g.length : Int), res := B (depthB g n) }
set_option maxHeartbeats 4000000 in
theorem c_depth : FnOk Try.prog 26 k_depth.con := by
  refine fnOkS mixed tys_ok (cs := [(42, k_hdepth1.con)]) ⟨c_hdepth1, trivial⟩ Try.func26 rfl (by kernel_rfl) Try.ntmps26 _ (h := ?_)
  intro g n
  refine ⟨rfl, fun hp => ?_⟩
  conv => whnf
  repeat' ((first
    | with_reducible refine ⟨fun h => h, ?_⟩
    | with_reducible refine ⟨pk1, ?_⟩
    | with_reducible refine ⟨pk2, ?_⟩
    | with_reducible refine ⟨pk3, ?_⟩
    | with_reducible refine ⟨pk4, ?_⟩
    | with_reducible refine ⟨pk5, ?_⟩
    | with_reducible refine ⟨pk6, ?_⟩
    | with_reducible refine ⟨trivial, ?_⟩
    | with_reducible refine ⟨fun _ => trivial, ?_⟩
    | with_reducible refine ⟨rfl, ?_⟩
    | with_reducible refine every_i (fun hd => ?_)
    | with_reducible refine everyN_i (fun k hk => ?_)
    | with_reducible refine everyD_i (fun d hd => ?_)
    | with_reducible refine fork_t (by assumption) ?_
    | with_reducible refine fork_f (by assumption) ?_
    | refine fork_t rfl ?_
    | refine fork_f rfl ?_
    | with_reducible refine fork_i (fun h => ?_) (fun h => ?_)
    | with_reducible refine both_i ?_ ?_
    | ((with_reducible refine alike_i ?_); exact ⟨rfl, rfl, rfl⟩)
    | ((with_reducible refine fin_i ?_); (conv => whnf); refine ⟨rfl, ?_⟩)
    | refine ⟨fun _ => hp, ?_⟩
    | refine ⟨of_decide_eq_true rfl, ?_⟩
    | refine ⟨fun _ => of_decide_eq_true rfl, ?_⟩
    | ((with_reducible refine ⟨?_, ?_⟩); (focus (intros; simp_all; done)))
    | ((with_reducible refine ⟨?_, ?_⟩); (focus (intros; omega)))) <;> (try (conv => whnf)))
  all_goals ((with_reducible refine leaf_i ?_); (conv => whnf))
  repeat' ((with_reducible refine And.intro ?_ ?_) <;> (try (conv => whnf)))
  all_goals (try (first | with_reducible rfl | exact True.intro | rfl | exact id | exact fun h => h | exact fun _ => rfl))
  all_goals (first | (refine (depthB_go ?_ ?_ ?_).symm <;> first | (simp_all [Nd.kind, Nd.dep, fedK]; done) | (simp_all [Nd.kind, Nd.dep, fedK]; omega)) | (symm; simp only [beq_iff_eq, bne_iff_ne, decide_eq_true_eq, beq_eq_false_iff_ne] at *; unfold depthB Nd.kind Nd.dep; (first | rw [if_pos ⟨by assumption, by assumption⟩] | rw [if_neg (fun hh => by omega), if_pos ⟨by omega, by assumption⟩])) | skip)
end Go.Proofs.Ytbgcgokikekmoaa

/- Layer 10: Node; all places. -/
namespace Go.Proofs.Ytbgcgokikekmoaa
set_option maxRecDepth 100000
open Go Go.RowKit Go.Proofs.Ytbgcgokikekmoaa.Eng
def k_node : Sig := .arg (shR tN) fun g => .arg shI fun i => .done { pre := g.length < 4611686018427387904 ∧ ∀ x : Nd, x ∈ g → (Nd.ins x).length < 4611686018427387904, res := I (nodeE g i) }
set_option maxHeartbeats 4000000 in
theorem c_node : FnOk Try.prog 12 k_node.con := by
  refine fnOkS mixed tys_ok (cs := [(24, k_numbers.con), (25, k_ports.con), (26, k_depth.con)]) ⟨c_numbers, c_ports, c_depth, trivial⟩ Try.func12 rfl (by kernel_rfl) Try.ntmps12 _ (h := ?_)
  intro g i
  refine ⟨rfl, fun hp => ?_⟩
  obtain ⟨hp1, hp2⟩ := hp
  by_cases h1 : i < 0
  · have e1 : decide (i < 0) = true := by simp [h1]
    conv => whnf
    repeat' ((first
      | with_reducible refine ⟨fun h => h, ?_⟩
      | with_reducible refine ⟨pk1, ?_⟩
      | with_reducible refine ⟨pk2, ?_⟩
      | with_reducible refine ⟨pk3, ?_⟩
      | with_reducible refine ⟨pk4, ?_⟩
      | with_reducible refine ⟨pk5, ?_⟩
      | with_reducible refine ⟨pk6, ?_⟩
      | with_reducible refine ⟨trivial, ?_⟩
      | with_reducible refine ⟨fun _ => trivial, ?_⟩
      | with_reducible refine ⟨rfl, ?_⟩
      | with_reducible refine every_i (fun hd => ?_)
      | with_reducible refine everyN_i (fun k hk => ?_)
      | with_reducible refine everyD_i (fun d hd => ?_)
      | with_reducible refine fork_t (by assumption) ?_
      | with_reducible refine fork_f (by assumption) ?_
      | refine fork_t rfl ?_
      | refine fork_f rfl ?_
      | with_reducible refine fork_i (fun h => ?_) (fun h => ?_)
      | with_reducible refine both_i ?_ ?_
      | ((with_reducible refine alike_i ?_); exact ⟨rfl, rfl, rfl⟩)
      | ((with_reducible refine fin_i ?_); (conv => whnf); refine ⟨rfl, ?_⟩)
      | refine ⟨of_decide_eq_true rfl, ?_⟩
      | refine ⟨fun _ => of_decide_eq_true rfl, ?_⟩
      | ((with_reducible refine ⟨?_, ?_⟩); (focus (intros; simp_all; done)))
      | ((with_reducible refine ⟨?_, ?_⟩); (focus (intros; omega)))) <;> (try (conv => whnf)))
    all_goals ((with_reducible refine leaf_i ?_); (conv => whnf))
    repeat' ((with_reducible refine And.intro ?_ ?_) <;> (try (conv => whnf)))
    all_goals (try (first | with_reducible rfl | exact True.intro | rfl | exact id | exact fun h => h | exact fun _ => rfl))
    all_goals (first | rfl | (simp_all [nodeE]; done) | trace_state)
  · by_cases h2 : i ≥ (g.length : Int)
    · conv => whnf
      repeat' ((first
        | with_reducible refine ⟨fun h => h, ?_⟩
        | with_reducible refine ⟨pk1, ?_⟩
        | with_reducible refine ⟨pk2, ?_⟩
        | with_reducible refine ⟨pk3, ?_⟩
        | with_reducible refine ⟨pk4, ?_⟩
        | with_reducible refine ⟨pk5, ?_⟩
        | with_reducible refine ⟨pk6, ?_⟩
        | with_reducible refine ⟨trivial, ?_⟩
        | with_reducible refine ⟨fun _ => trivial, ?_⟩
        | with_reducible refine ⟨rfl, ?_⟩
        | with_reducible refine every_i (fun hd => ?_)
        | with_reducible refine everyN_i (fun k hk => ?_)
        | with_reducible refine everyD_i (fun d hd => ?_)
        | with_reducible refine fork_t (by assumption) ?_
        | with_reducible refine fork_f (by assumption) ?_
        | refine fork_t rfl ?_
        | refine fork_f rfl ?_
        | with_reducible refine fork_i (fun h => ?_) (fun h => ?_)
        | with_reducible refine both_i ?_ ?_
        | ((with_reducible refine alike_i ?_); exact ⟨rfl, rfl, rfl⟩)
        | ((with_reducible refine fin_i ?_); (conv => whnf); refine ⟨rfl, ?_⟩)
        | refine ⟨of_decide_eq_true rfl, ?_⟩
        | refine ⟨fun _ => of_decide_eq_true rfl, ?_⟩
        | ((with_reducible refine ⟨?_, ?_⟩); (focus (intros; simp_all; done)))
        | ((with_reducible refine ⟨?_, ?_⟩); (focus (intros; omega)))) <;> (try (conv => whnf)))
      all_goals ((with_reducible refine leaf_i ?_); (conv => whnf))
      repeat' ((with_reducible refine And.intro ?_ ?_) <;> (try (conv => whnf)))
      all_goals (try (first | with_reducible rfl | exact True.intro | rfl | exact id | exact fun h => h | exact fun _ => rfl))
      all_goals (first | rfl | (simp_all [nodeE]; done) | trace_state)
    · have hin : 0 ≤ i ∧ i < (g.length : Int) := by omega
      have hl : (Nd.ins (nd g i)).length < 4611686018427387904 := hp2 _ (getE_mem g (by omega))
      conv => whnf
      repeat' ((first
        | with_reducible refine ⟨fun h => h, ?_⟩
        | with_reducible refine ⟨pk1, ?_⟩
        | with_reducible refine ⟨pk2, ?_⟩
        | with_reducible refine ⟨pk3, ?_⟩
        | with_reducible refine ⟨pk4, ?_⟩
        | with_reducible refine ⟨pk5, ?_⟩
        | with_reducible refine ⟨pk6, ?_⟩
        | with_reducible refine ⟨trivial, ?_⟩
        | with_reducible refine ⟨fun _ => trivial, ?_⟩
        | with_reducible refine ⟨rfl, ?_⟩
        | with_reducible refine every_i (fun hd => ?_)
        | with_reducible refine everyN_i (fun k hk => ?_)
        | with_reducible refine everyD_i (fun d hd => ?_)
        | with_reducible refine fork_t (by assumption) ?_
        | with_reducible refine fork_f (by assumption) ?_
        | refine fork_t rfl ?_
        | refine fork_f rfl ?_
        | with_reducible refine fork_i (fun h => ?_) (fun h => ?_)
        | with_reducible refine both_i ?_ ?_
        | ((with_reducible refine alike_i ?_); exact ⟨rfl, rfl, rfl⟩)
        | ((with_reducible refine fin_i ?_); (conv => whnf); refine ⟨rfl, ?_⟩)
        | refine ⟨hin, ?_⟩
        | refine ⟨hl, ?_⟩
        | refine ⟨⟨hl, portsB_in (by simp_all [nd])⟩, ?_⟩
        | refine ⟨of_decide_eq_true rfl, ?_⟩
        | refine ⟨fun _ => of_decide_eq_true rfl, ?_⟩
        | ((with_reducible refine ⟨?_, ?_⟩); (focus (intros; simp_all; done)))
        | ((with_reducible refine ⟨?_, ?_⟩); (focus (intros; omega)))) <;> (try (conv => whnf)))
      all_goals ((with_reducible refine leaf_i ?_); (conv => whnf))
      repeat' ((with_reducible refine And.intro ?_ ?_) <;> (try (conv => whnf)))
      all_goals (try (first | with_reducible rfl | exact True.intro | rfl | exact id | exact fun h => h | exact fun _ => rfl))
      all_goals (first | rfl | (simp_all [nodeE, nd]; done) | trace_state)
def k_places : Sig := .arg (shR tN) fun g => .done { pre := g.length < 1000000000, res := .rl true tI (plN g.length) }
set_option maxHeartbeats 4000000 in
theorem c_places : FnOk Try.prog 47 k_places.con := by
  refine fnOkS mixed tys_ok (cs := []) trivial Try.func47 rfl (by kernel_rfl) Try.ntmps47 _ (h := ?_)
  intro g
  refine ⟨rfl, fun hp => ?_⟩
  have hp : g.length < 1000000000 := hp
  conv => whnf
  repeat' ((first
    | with_reducible refine ⟨fun h => h, ?_⟩
    | with_reducible refine ⟨pk1, ?_⟩
    | with_reducible refine ⟨pk2, ?_⟩
    | with_reducible refine ⟨pk3, ?_⟩
    | with_reducible refine ⟨pk4, ?_⟩
    | with_reducible refine ⟨pk5, ?_⟩
    | with_reducible refine ⟨pk6, ?_⟩
    | with_reducible refine ⟨trivial, ?_⟩
    | with_reducible refine ⟨fun _ => trivial, ?_⟩
    | with_reducible refine ⟨rfl, ?_⟩
    | with_reducible refine every_i (fun hd => ?_)
    | with_reducible refine everyN_i (fun k hk => ?_)
    | with_reducible refine everyD_i (fun d hd => ?_)
    | with_reducible refine fork_t (by assumption) ?_
    | with_reducible refine fork_f (by assumption) ?_
    | refine fork_t rfl ?_
    | refine fork_f rfl ?_
    | with_reducible refine fork_i (fun h => ?_) (fun h => ?_)
    | with_reducible refine both_i ?_ ?_
    | ((with_reducible refine alike_i ?_); exact ⟨rfl, rfl, rfl⟩)
    | ((with_reducible refine fin_i ?_); (conv => whnf); refine ⟨rfl, ?_⟩)
    | refine ⟨of_decide_eq_true rfl, ?_⟩
    | refine ⟨fun _ => of_decide_eq_true rfl, ?_⟩
    | ((with_reducible refine ⟨?_, ?_⟩); (focus (intros; simp_all; done)))
    | ((with_reducible refine ⟨?_, ?_⟩); (focus (intros; omega)))) <;> (try (conv => whnf)))
  refine looped (σ := Nat × List (El tI)) (fun x => [(6, I x.1), (2, .ow 0 1 x.2.length)]) (fun x => [.row true tI 3 x.2]) (fun x => x.1 ≤ g.length ∧ x.2 = plN x.1) (fun x => g.length - x.1) (0, []) ⟨Nat.zero_le _, rfl⟩ ?_ ?_
  · conv => whnf
    refine ⟨rfl, leaf_i ?_⟩
    repeat' ((with_reducible refine And.intro ?_ ?_) <;> (try (conv => whnf)))
    all_goals (try (first | with_reducible rfl | exact True.intro | rfl | exact id | exact fun h => h | exact fun _ => rfl))
  · rintro ⟨j, l⟩ ⟨hj, hl⟩
    dsimp only at hj hl ⊢
    have hll : l.length = j := by rw [hl, plN_len]
    conv => whnf
    repeat' ((first
      | with_reducible refine ⟨fun h => h, ?_⟩
      | with_reducible refine ⟨pk1, ?_⟩
      | with_reducible refine ⟨pk2, ?_⟩
      | with_reducible refine ⟨pk3, ?_⟩
      | with_reducible refine ⟨pk4, ?_⟩
      | with_reducible refine ⟨pk5, ?_⟩
      | with_reducible refine ⟨pk6, ?_⟩
      | with_reducible refine ⟨trivial, ?_⟩
      | with_reducible refine ⟨fun _ => trivial, ?_⟩
      | with_reducible refine ⟨rfl, ?_⟩
      | with_reducible refine every_i (fun hd => ?_)
      | with_reducible refine everyN_i (fun k hk => ?_)
      | with_reducible refine everyD_i (fun d hd => ?_)
      | with_reducible refine fork_t (by assumption) ?_
      | with_reducible refine fork_f (by assumption) ?_
      | refine fork_t rfl ?_
      | refine fork_f rfl ?_
      | with_reducible refine fork_i (fun h => ?_) (fun h => ?_)
      | with_reducible refine both_i ?_ ?_
      | ((with_reducible refine alike_i ?_); exact ⟨rfl, rfl, rfl⟩)
      | ((with_reducible refine fin_i ?_); (conv => whnf); refine ⟨rfl, ?_⟩)
      | refine ⟨of_decide_eq_true rfl, ?_⟩
      | refine ⟨fun _ => of_decide_eq_true rfl, ?_⟩
      | ((with_reducible refine ⟨?_, ?_⟩); (focus (intros; simp_all; done)))
      | ((with_reducible refine ⟨?_, ?_⟩); (focus (intros; omega)))) <;> (try (conv => whnf)))
    · have hj' := lt_t h
      refine ⟨by simp only [List.length_append, List.length_cons, List.length_nil]; omega, ?_⟩
      (conv => whnf)
      conv => whnf
      repeat' ((first
        | with_reducible refine ⟨fun h => h, ?_⟩
        | with_reducible refine ⟨pk1, ?_⟩
        | with_reducible refine ⟨pk2, ?_⟩
        | with_reducible refine ⟨pk3, ?_⟩
        | with_reducible refine ⟨pk4, ?_⟩
        | with_reducible refine ⟨pk5, ?_⟩
        | with_reducible refine ⟨pk6, ?_⟩
        | with_reducible refine ⟨trivial, ?_⟩
        | with_reducible refine ⟨fun _ => trivial, ?_⟩
        | with_reducible refine ⟨rfl, ?_⟩
        | with_reducible refine every_i (fun hd => ?_)
        | with_reducible refine everyN_i (fun k hk => ?_)
        | with_reducible refine everyD_i (fun d hd => ?_)
        | with_reducible refine fork_t (by assumption) ?_
        | with_reducible refine fork_f (by assumption) ?_
        | refine fork_t rfl ?_
        | refine fork_f rfl ?_
        | with_reducible refine fork_i (fun h => ?_) (fun h => ?_)
        | with_reducible refine both_i ?_ ?_
        | ((with_reducible refine alike_i ?_); exact ⟨rfl, rfl, rfl⟩)
        | ((with_reducible refine fin_i ?_); (conv => whnf); refine ⟨rfl, ?_⟩)
        | refine ⟨of_decide_eq_true rfl, ?_⟩
        | refine ⟨fun _ => of_decide_eq_true rfl, ?_⟩
        | ((with_reducible refine ⟨?_, ?_⟩); (focus (intros; simp_all; done)))
        | ((with_reducible refine ⟨?_, ?_⟩); (focus (intros; omega)))) <;> (try (conv => whnf)))
      refine next_i (j + 1, l ++ [((j : Int), ())]) ⟨hj', by rw [hl]; rfl⟩ (by dsimp only; omega) rfl rfl ?_
      conv => whnf
      refine ⟨rfl, leaf_i ?_⟩
      repeat' ((with_reducible refine And.intro ?_ ?_) <;> (try (conv => whnf)))
      all_goals (try (first | with_reducible rfl | exact True.intro | rfl | exact id | exact fun h => h | exact fun _ => rfl))
      all_goals (try (first | rfl | exact wrapS (by omega)))
    · have hj' := lt_f h
      all_goals ((with_reducible refine leaf_i ?_); (conv => whnf))
      repeat' ((with_reducible refine And.intro ?_ ?_) <;> (try (conv => whnf)))
      all_goals (try (first | with_reducible rfl | exact True.intro | rfl | exact id | exact fun h => h | exact fun _ => rfl))
      all_goals (first | (rw [hl, show j = g.length from Nat.le_antisymm hj hj']; done) | trace_state)
end Go.Proofs.Ytbgcgokikekmoaa

/- Layer 10: an order. -/
namespace Go.Proofs.Ytbgcgokikekmoaa
set_option maxRecDepth 100000
open Go Go.RowKit Go.Proofs.Ytbgcgokikekmoaa.Eng
def cntF (th : List (El tB)) : Nat := th.countP fun x => !x.1
theorem cntF_rep (n : Nat) : cntF (falseR n) = n := by simp [cntF, falseR, List.countP_replicate]
theorem cntF_set : ∀ (th : List (El tB)) (i : Nat), i < th.length → (getE tB th i).1 = false → cntF (th.set i (true, ())) + 1 = cntF th
  | [], i, h, _ => absurd h (Nat.not_lt_zero _)
  | (b, _) :: r, 0, _, hb => by
    have hb : b = false := hb
    subst hb
    simp [cntF]
  | (b, u) :: r, i + 1, h, hb => by
    have := cntF_set r i (by simpa using h) hb
    unfold cntF at this ⊢
    simp only [List.set_cons_succ, List.countP_cons]
    omega
theorem ready_f {th : List (El tB)} {i : Nat} {n : Nd} (h : readyB th i n = true) : (getE tB th i).1 = false := by
  unfold readyB at h
  cases hb : (getE tB th i).1 with
  | false => rfl
  | true => rw [hb] at h; cases h
def inAll (g : List Nd) : Prop := ∀ n : Nd, n ∈ g → (Nd.ins n).length < 4611686018427387904 ∧ ∀ x ∈ Nd.ins n, 0 ≤ x.1 ∧ x.1 < (g.length : Int)
attribute [local irreducible] orderG hasP
theorem orderG_eq (g : List Nd) : orderG g = ordN g (g.length + 1) (falseR g.length) [] := by unfold orderG; rfl
def k_order : Sig := .arg (shR tN) fun g => .done { pre := g.length < 1000000 ∧ inAll g, res := .rl true tI (orderG g) }
set_option maxHeartbeats 4000000 in
theorem c_order : FnOk Try.prog 34 k_order.con := by
  refine fnOkS mixed tys_ok (cs := [(42, k_horder1.con)]) ⟨c_horder1, trivial⟩ Try.func34 rfl (by kernel_rfl) Try.ntmps34 _ (h := ?_)
  intro g
  refine ⟨rfl, fun hp => ?_⟩
  obtain ⟨hp1, hp2⟩ := hp
  conv => whnf
  repeat' ((first
    | with_reducible refine ⟨fun h => h, ?_⟩
    | with_reducible refine ⟨pk1, ?_⟩
    | with_reducible refine ⟨pk2, ?_⟩
    | with_reducible refine ⟨pk3, ?_⟩
    | with_reducible refine ⟨pk4, ?_⟩
    | with_reducible refine ⟨pk5, ?_⟩
    | with_reducible refine ⟨pk6, ?_⟩
    | with_reducible refine ⟨trivial, ?_⟩
    | with_reducible refine ⟨fun _ => trivial, ?_⟩
    | with_reducible refine ⟨rfl, ?_⟩
    | with_reducible refine every_i (fun hd => ?_)
    | with_reducible refine everyN_i (fun k hk => ?_)
    | with_reducible refine everyD_i (fun d hd => ?_)
    | with_reducible refine fork_t (by assumption) ?_
    | with_reducible refine fork_f (by assumption) ?_
    | refine fork_t rfl ?_
    | refine fork_f rfl ?_
    | with_reducible refine fork_i (fun h => ?_) (fun h => ?_)
    | with_reducible refine both_i ?_ ?_
    | ((with_reducible refine alike_i ?_); exact ⟨rfl, rfl, rfl⟩)
    | ((with_reducible refine fin_i ?_); (conv => whnf); refine ⟨rfl, ?_⟩)
    | refine ⟨of_decide_eq_true rfl, ?_⟩
    | refine ⟨fun _ => of_decide_eq_true rfl, ?_⟩
    | ((with_reducible refine ⟨?_, ?_⟩); (focus (intros; simp_all; done)))
    | ((with_reducible refine ⟨?_, ?_⟩); (focus (intros; omega)))) <;> (try (conv => whnf)))
  refine only [4, 3, 0, 2] ?_
  (conv => whnf)
  refine looped (σ := Bool × List (El tB) × List (El tI)) (fun x => [(6, B x.1), (5, .ow 2 1 x.2.2.length)]) (fun x => [.row true tB 4 x.2.1, .cells (.cons (.ow 0 1 g.length) .nil), .row true tI 3 x.2.2]) (fun x => x.2.1.length = g.length ∧ (x.1 = true → ordN g (cntF x.2.1 + 1) x.2.1 x.2.2 = orderG g) ∧ (x.1 = false → x.2.2 = orderG g) ∧ x.2.2.length + cntF x.2.1 = g.length) (fun x => 2 * cntF x.2.1 + (if x.1 = true then 1 else 0)) (true, falseR g.length, []) ⟨List.length_replicate, fun _ => (by show ordN g (cntF (falseR g.length) + 1) _ _ = _; rw [cntF_rep, orderG_eq]), fun h => Bool.noConfusion h, (by show 0 + cntF (falseR g.length) = _; rw [cntF_rep, Nat.zero_add])⟩ ?_ ?_
  · conv => whnf
    refine ⟨rfl, leaf_i ?_⟩
    repeat' ((with_reducible refine And.intro ?_ ?_) <;> (try (conv => whnf)))
    all_goals (try (first | with_reducible rfl | exact True.intro | rfl | exact id | exact fun h => h | exact fun _ => rfl))
  · rintro ⟨fd, th, out⟩ ⟨hl, h1, h2, h3⟩
    dsimp only at hl h1 h2 h3 ⊢
    conv => whnf
    repeat' ((first
      | with_reducible refine ⟨fun h => h, ?_⟩
      | with_reducible refine ⟨pk1, ?_⟩
      | with_reducible refine ⟨pk2, ?_⟩
      | with_reducible refine ⟨pk3, ?_⟩
      | with_reducible refine ⟨pk4, ?_⟩
      | with_reducible refine ⟨pk5, ?_⟩
      | with_reducible refine ⟨pk6, ?_⟩
      | with_reducible refine ⟨trivial, ?_⟩
      | with_reducible refine ⟨fun _ => trivial, ?_⟩
      | with_reducible refine ⟨rfl, ?_⟩
      | with_reducible refine every_i (fun hd => ?_)
      | with_reducible refine everyN_i (fun k hk => ?_)
      | with_reducible refine everyD_i (fun d hd => ?_)
      | with_reducible refine fork_t (by assumption) ?_
      | with_reducible refine fork_f (by assumption) ?_
      | refine fork_t rfl ?_
      | refine fork_f rfl ?_
      | with_reducible refine fork_i (fun h => ?_) (fun h => ?_)
      | with_reducible refine both_i ?_ ?_
      | ((with_reducible refine alike_i ?_); exact ⟨rfl, rfl, rfl⟩)
      | ((with_reducible refine fin_i ?_); (conv => whnf); refine ⟨rfl, ?_⟩)
      | refine ⟨of_decide_eq_true rfl, ?_⟩
      | refine ⟨fun _ => of_decide_eq_true rfl, ?_⟩
      | ((with_reducible refine ⟨?_, ?_⟩); (focus (intros; simp_all; done)))
      | ((with_reducible refine ⟨?_, ?_⟩); (focus (intros; omega)))) <;> (try (conv => whnf)))
    · have h1 := h1 h
      subst h
      refine only [15, 14, 4, 3, 0, 2] ?_
      (conv => whnf)
      refine looped (σ := Nat) (fun i => [(16, I i), (6, B false), (5, .ow 2 1 out.length)]) (fun x => [.row true tB 4 th, .cells (.cons (.ow 0 1 g.length) .nil), .row true tI 3 out]) (fun i => i ≤ g.length ∧ nextR th i (g.drop i) = nextR th 0 g) (fun i => g.length - i) 0 ⟨Nat.zero_le _, rfl⟩ ?_ ?_
      · conv => whnf
        refine ⟨rfl, leaf_i ?_⟩
        repeat' ((with_reducible refine And.intro ?_ ?_) <;> (try (conv => whnf)))
        all_goals (try (first | with_reducible rfl | exact True.intro | rfl | exact id | exact fun h => h | exact fun _ => rfl))
      · rintro i ⟨hi, hn⟩
        dsimp only at hi hn ⊢
        have hin : decide ((i : Int) < (g.length : Int)) = true → (Nd.ins (getE tN g i)).length < 4611686018427387904 ∧ ∀ x ∈ Nd.ins (getE tN g i), 0 ≤ x.1 ∧ x.1 < (th.length : Int) := fun h => by
          have := hp2 _ (getE_mem g (lt_t h))
          exact ⟨this.1, fun x hx => by rw [hl]; exact this.2 x hx⟩
        have hit : decide ((i : Int) < (g.length : Int)) = true → 0 ≤ (i : Int) ∧ (i : Int) < (g.length : Int) := fun h => by
          have := lt_t h; omega
        conv => whnf
        repeat' ((first
          | with_reducible refine ⟨fun h => h, ?_⟩
          | with_reducible refine ⟨pk1, ?_⟩
          | with_reducible refine ⟨pk2, ?_⟩
          | with_reducible refine ⟨pk3, ?_⟩
          | with_reducible refine ⟨pk4, ?_⟩
          | with_reducible refine ⟨pk5, ?_⟩
          | with_reducible refine ⟨pk6, ?_⟩
          | with_reducible refine ⟨trivial, ?_⟩
          | with_reducible refine ⟨fun _ => trivial, ?_⟩
          | with_reducible refine ⟨rfl, ?_⟩
          | with_reducible refine every_i (fun hd => ?_)
          | with_reducible refine everyN_i (fun k hk => ?_)
          | with_reducible refine everyD_i (fun d hd => ?_)
          | with_reducible refine fork_t (by assumption) ?_
          | with_reducible refine fork_f (by assumption) ?_
          | refine fork_t rfl ?_
          | refine fork_f rfl ?_
          | with_reducible refine fork_i (fun h => ?_) (fun h => ?_)
          | with_reducible refine both_i ?_ ?_
          | ((with_reducible refine alike_i ?_); exact ⟨rfl, rfl, rfl⟩)
          | ((with_reducible refine fin_i ?_); (conv => whnf); refine ⟨rfl, ?_⟩)
          | refine ⟨hit (by assumption), ?_⟩
          | refine ⟨fun _ => hin (by assumption), ?_⟩
          | refine ⟨of_decide_eq_true rfl, ?_⟩
          | refine ⟨fun _ => of_decide_eq_true rfl, ?_⟩
          | ((with_reducible refine ⟨?_, ?_⟩); (focus (intros; simp_all; done)))
          | ((with_reducible refine ⟨?_, ?_⟩); (focus (intros; omega)))) <;> (try (conv => whnf)))
        · have hi' : i < g.length := lt_t (by assumption)
          have hr : readyB th i (getE tN g i) = true := h
          have hc := cntF_set th i (by omega) (ready_f hr)
          rw [drop_get g hi', nextR, if_pos hr] at hn
          refine ⟨by simp only [List.length_append, List.length_cons, List.length_nil]; omega, ?_⟩
          (conv => whnf)
          conv => whnf
          repeat' ((first
            | with_reducible refine ⟨fun h => h, ?_⟩
            | with_reducible refine ⟨pk1, ?_⟩
            | with_reducible refine ⟨pk2, ?_⟩
            | with_reducible refine ⟨pk3, ?_⟩
            | with_reducible refine ⟨pk4, ?_⟩
            | with_reducible refine ⟨pk5, ?_⟩
            | with_reducible refine ⟨pk6, ?_⟩
            | with_reducible refine ⟨trivial, ?_⟩
            | with_reducible refine ⟨fun _ => trivial, ?_⟩
            | with_reducible refine ⟨rfl, ?_⟩
            | with_reducible refine every_i (fun hd => ?_)
            | with_reducible refine everyN_i (fun k hk => ?_)
            | with_reducible refine everyD_i (fun d hd => ?_)
            | with_reducible refine fork_t (by assumption) ?_
            | with_reducible refine fork_f (by assumption) ?_
            | refine fork_t rfl ?_
            | refine fork_f rfl ?_
            | with_reducible refine fork_i (fun h => ?_) (fun h => ?_)
            | with_reducible refine both_i ?_ ?_
            | ((with_reducible refine alike_i ?_); exact ⟨rfl, rfl, rfl⟩)
            | ((with_reducible refine fin_i ?_); (conv => whnf); refine ⟨rfl, ?_⟩)
            | refine ⟨of_decide_eq_true rfl, ?_⟩
            | refine ⟨fun _ => of_decide_eq_true rfl, ?_⟩
            | ((with_reducible refine ⟨?_, ?_⟩); (focus (intros; simp_all; done)))
            | ((with_reducible refine ⟨?_, ?_⟩); (focus (intros; omega)))) <;> (try (conv => whnf)))
          refine next_i (true, th.set i (true, ()), out ++ [((i : Int), ())]) ⟨by simpa using hl, fun _ => ?_, fun h => Bool.noConfusion h, ?_⟩ ?_ rfl rfl ?_
          · dsimp only
            rw [← h1 rfl, hc]
            conv => rhs; unfold ordN
            rw [← hn]
          · simp only [List.length_append, List.length_cons, List.length_nil]; omega
          · dsimp only; simp only [if_true]; omega
          · conv => whnf
            refine ⟨rfl, leaf_i ?_⟩
            repeat' ((with_reducible refine And.intro ?_ ?_) <;> (try (conv => whnf)))
            all_goals (try (first | with_reducible rfl | exact True.intro | rfl | exact id | exact fun h => h | exact fun _ => rfl))
            all_goals (try (first | rfl | exact wrapS (by omega)))
        · have hi' : i < g.length := lt_t (by assumption)
          have hr : ¬ readyB th i (getE tN g i) = true := fun hh => Bool.noConfusion (h.symm.trans hh)
          rw [drop_get g hi', nextR, if_neg hr] at hn
          refine next_i (i + 1) ⟨hi', hn⟩ (by omega) rfl rfl ?_
          conv => whnf
          refine ⟨rfl, leaf_i ?_⟩
          repeat' ((with_reducible refine And.intro ?_ ?_) <;> (try (conv => whnf)))
          all_goals (try (first | with_reducible rfl | exact True.intro | rfl | exact id | exact fun h => h | exact fun _ => rfl))
          all_goals (try (first | rfl | exact wrapS (by omega)))
        · have hi' := lt_f h
          rw [List.drop_eq_nil_of_le hi', nextR] at hn
          refine next_i (false, th, out) ⟨hl, fun h => Bool.noConfusion h, fun _ => ?_, h3⟩ (by dsimp only; simp) rfl rfl ?_
          · dsimp only
            rw [← h1 rfl]
            conv => rhs; unfold ordN
            rw [← hn]
          · conv => whnf
            refine ⟨rfl, leaf_i ?_⟩
            repeat' ((with_reducible refine And.intro ?_ ?_) <;> (try (conv => whnf)))
            all_goals (try (first | with_reducible rfl | exact True.intro | rfl | exact id | exact fun h => h | exact fun _ => rfl))
            all_goals (try (first | rfl | exact wrapS (by omega)))
    · have h2 := h2 h
      all_goals ((with_reducible refine leaf_i ?_); (conv => whnf))
      repeat' ((with_reducible refine And.intro ?_ ?_) <;> (try (conv => whnf)))
      all_goals (try (first | with_reducible rfl | exact True.intro | rfl | exact id | exact fun h => h | exact fun _ => rfl))
      all_goals (first | exact h2 | trace_state)
end Go.Proofs.Ytbgcgokikekmoaa

/- Layer 10, the document: stuck. -/
namespace Go.Proofs.Ytbgcgokikekmoaa
set_option maxRecDepth 100000
open Go Go.RowKit Go.Proofs.Ytbgcgokikekmoaa.Eng
theorem few_fit {g : List Nd} (h : few g) : fitG g := ⟨by have := h.1; omega, fun x hx => by have := h.2 x hx; omega⟩
def inQ (g : List Nd) (q : List (El tI)) : Prop := ∀ t ∈ q, 0 ≤ t.1 ∧ t.1 < 2 * (g.length : Int)
theorem nxt_in {g : List Nd} {least p t : Int} (hg : g.length ≤ 32) (hp : 0 ≤ p ∧ p < (g.length : Int)) (ht : 0 ≤ t) : 0 ≤ nxt g least p t ∧ nxt g least p t < 2 * (g.length : Int) := by
  have hd : dbl p = 2 * p := wrapI (by omega) (by omega)
  have hm : t.tmod 2 = t % 2 := Int.tmod_eq_emod_of_nonneg ht
  unfold nxt nx1 nx2
  rw [hd, hm]
  split
  · rw [wrapI (by omega) (by omega)]; omega
  · rw [wrapI (by omega) (by omega)]; omega
theorem nx2_eq (p : Int) : nx2 p = IntKind.i64.wrap (IntKind.i64.wrap (2 * p) + 1) := rfl
theorem nx1_eq (p t : Int) : nx1 p t = IntKind.i64.wrap (IntKind.i64.wrap (2 * p) + t.tmod 2) := rfl
theorem half_eq (t : Int) : half t = IntKind.i64.wrap (t.tdiv 2) := rfl
theorem dbl_eq (t : Int) : dbl t = IntKind.i64.wrap (2 * t) := rfl
theorem rstuck_y {g : List Nd} {fr least : Int} (h : stayB least (nd g fr) = true) : rstuckB g fr least = bfsO g fr least (2 * g.length + 2) 0 (falseR (2 * g.length)) [(if (nd g fr).dep = least then nx2 fr else dbl fr, ())] := by unfold rstuckB; rw [if_pos h]
theorem rstuck_n {g : List Nd} {fr least : Int} (h : ¬ stayB least (nd g fr) = true) : rstuckB g fr least = false := by unfold rstuckB; rw [if_neg h]
theorem not_stay {a : Bool} (h : (!a) = false) : a = true := by cases a; cases h; rfl
theorem not_stay2 {a : Bool} (h : (!a) = true) : ¬ a = true := by cases a; simp; cases h
abbrev lsT (g : List Nd) (q : List (El tI)) (i : Nat) : List (El tP) := toG g (IntKind.i64.wrap ((getE tI q i).1.tdiv 2))
abbrev ptN (g : List Nd) (q : List (El tI)) (i k : Nat) : Int := (getE tP (lsT g q i) k).1
theorem seen_in {s : List (El tB)} {n m : Nat} {x : Int} (h : 0 ≤ x ∧ x < 2 * (n : Int)) (hm : m = 2 * n) : 0 ≤ x ∧ x < (m : Int) := by omega
theorem inQ_snoc {g : List Nd} {q : List (El tI)} (h : inQ g q) {x : Int} (hx : 0 ≤ x ∧ x < 2 * (g.length : Int)) : inQ g (q ++ [(x, ())]) := fun t ht => by
  rcases List.mem_append.1 ht with ht | ht
  · exact h t ht
  · have e := List.mem_singleton.1 ht
    rw [e]; exact hx
theorem get_snoc {q : List (El tI)} {i : Nat} (h : i < q.length) (x : El tI) : getE tI (q ++ [x]) i = getE tI q i := by
  unfold getE
  simp [List.getD_eq_getElem?_getD, List.getElem?_append_left h]
attribute [local irreducible] nxt nx1 nx2 dbl half bfsI bfsO rstuckB stayB
def k_rstuck : Sig := .arg (shR tN) fun g => .arg shI fun fr => .arg shI fun least => .done { pre := few g ∧ 0 ≤ fr ∧ fr < (g.length : Int), res := B (rstuckB g fr least) }
set_option maxHeartbeats 4000000 in
theorem c_rstuck : FnOk Try.prog 33 k_rstuck.con := by
  refine fnOkS mixed tys_ok (cs := [(49, k_rstays.con), (50, k_rto.con)]) ⟨c_rstays, c_rto, trivial⟩ Try.func33 rfl (by kernel_rfl) Try.ntmps33 _ (h := ?_)
  intro g fr least
  refine ⟨rfl, fun hp => ?_⟩
  obtain ⟨hp, hfr⟩ := hp
  have hg := hp.1
  have hmk : 0 ≤ IntKind.i64.wrap (2 * (g.length : Int)) ∧ IntKind.i64.wrap (2 * (g.length : Int)) ≤ IntKind.i64.wrap (2 * (g.length : Int)) ∧ IntKind.i64.wrap (2 * (g.length : Int)) ≤ 1000000000 := by
    rw [wrapI (by omega) (by omega)]; omega
  conv => whnf
  repeat' ((first
    | with_reducible refine ⟨fun h => h, ?_⟩
    | with_reducible refine ⟨pk1, ?_⟩
    | with_reducible refine ⟨pk2, ?_⟩
    | with_reducible refine ⟨pk3, ?_⟩
    | with_reducible refine ⟨pk4, ?_⟩
    | with_reducible refine ⟨pk5, ?_⟩
    | with_reducible refine ⟨pk6, ?_⟩
    | with_reducible refine ⟨trivial, ?_⟩
    | with_reducible refine ⟨fun _ => trivial, ?_⟩
    | with_reducible refine ⟨rfl, ?_⟩
    | with_reducible refine every_i (fun hd => ?_)
    | with_reducible refine everyN_i (fun k hk => ?_)
    | with_reducible refine everyD_i (fun d hd => ?_)
    | with_reducible refine fork_t (by assumption) ?_
    | with_reducible refine fork_f (by assumption) ?_
    | refine fork_t rfl ?_
    | refine fork_f rfl ?_
    | with_reducible refine fork_i (fun h => ?_) (fun h => ?_)
    | with_reducible refine both_i ?_ ?_
    | ((with_reducible refine alike_i ?_); exact ⟨rfl, rfl, rfl⟩)
    | ((with_reducible refine fin_i ?_); (conv => whnf); refine ⟨rfl, ?_⟩)
    | refine ⟨hfr, ?_⟩
    | refine ⟨hmk, ?_⟩
    | refine ⟨of_decide_eq_true rfl, ?_⟩
    | refine ⟨fun _ => of_decide_eq_true rfl, ?_⟩
    | ((with_reducible refine ⟨?_, ?_⟩); (focus (intros; simp_all; done)))
    | ((with_reducible refine ⟨?_, ?_⟩); (focus (intros; omega)))) <;> (try (conv => whnf)))
  · have hn : ¬ stayB least (nd g fr) = true := fun hh => by
      have h' : (!stayB least (nd g fr)) = true := h
      rw [hh] at h'; cases h'
    rw [rstuck_n hn]
    all_goals ((with_reducible refine leaf_i ?_); (conv => whnf))
    repeat' ((with_reducible refine And.intro ?_ ?_) <;> (try (conv => whnf)))
    all_goals (try (first | with_reducible rfl | exact True.intro | rfl | exact id | exact fun h => h | exact fun _ => rfl))
    all_goals (first | rfl | trace_state)
  all_goals
    have hy : stayB least (nd g fr) = true := by
      have h' : (!stayB least (nd g fr)) = false := by assumption
      simpa using h'
    have hy2 := rstuck_y hy
    rw [hy2]
    clear hy2
    have hN : (IntKind.i64.wrap (2 * (g.length : Int))).toNat = 2 * g.length := by rw [wrapI (by omega) (by omega)]; omega
    generalize hq0 : (if (nd g fr).dep = least then nx2 fr else dbl fr) = t0
    have ht0 : 0 ≤ t0 ∧ t0 < 2 * (g.length : Int) := by
      rw [← hq0]
      split
      · rw [nx2_eq, wrapI (x := 2 * fr) (by omega) (by omega), wrapI (by omega) (by omega)]; omega
      · rw [dbl_eq, wrapI (x := 2 * fr) (by omega) (by omega)]; omega
    generalize hR : bfsO g fr least (2 * g.length + 2) 0 (falseR (2 * g.length)) [(t0, ())] = R0
    have hini : inQ g [(t0, ())] := fun t ht => by
      have e := List.mem_singleton.1 ht
      rw [e]; exact ht0
    have hcn : 1 + cntF (falseR (2 * g.length)) ≤ 2 * g.length + 1 := by rw [cntF_rep]; omega
    refine only [0, 1, 2, 6, 7] ?_
    (conv => whnf)
    refine looped (σ := Nat × List (El tB) × List (El tI)) (fun x => [(10, I x.1), (9, .ow 1 1 x.2.2.length)]) (fun x => [.row true tB 4 x.2.1, .row true tI 3 x.2.2]) (fun x => x.2.1.length = 2 * g.length ∧ inQ g x.2.2 ∧ x.1 ≤ x.2.2.length ∧ x.2.2.length + cntF x.2.1 ≤ 2 * g.length + 1 ∧ bfsO g fr least (2 * g.length + 2 - x.1) x.1 x.2.1 x.2.2 = R0) (fun x => 2 * g.length + 2 - x.1) (0, falseR (2 * g.length), [(t0, ())]) ⟨List.length_replicate, hini, Nat.zero_le _, hcn, hR⟩ ?_ ?_
    · conv => whnf
      refine ⟨rfl, leaf_i ?_⟩
      repeat' ((with_reducible refine And.intro ?_ ?_) <;> (try (conv => whnf)))
      all_goals (try (first | with_reducible rfl | exact True.intro | rfl | exact id | exact fun h => h | exact fun _ => rfl))
      all_goals (first | (show List.replicate _ _ = falseR _; rw [hN]; rfl) | (rw [if_pos (show (nd g fr).dep = least from eq_of_beq h), nx2_eq] at hq0; rw [hq0]) | (rw [if_neg (show ¬ (nd g fr).dep = least from ne_of_beq_false h), dbl_eq] at hq0; rw [hq0]))
    · rintro ⟨i, s, q⟩ ⟨hs, hq, hi, hc, hb⟩
      dsimp only at hs hq hi hc hb ⊢
      have hii : decide ((i : Int) < (q.length : Int)) = true → 0 ≤ (i : Int) ∧ (i : Int) < (q.length : Int) := fun h => by have := lt_t h; omega
      have hto := few_to hp (half (getE tI q i).1)
      have hpr : (toG g (half (getE tI q i).1)).length ≤ 1000000000 ∧ fitG g := ⟨by omega, few_fit hp⟩
      rw [half_eq] at hpr hto
      conv => whnf
      repeat' ((first
        | with_reducible refine ⟨fun h => h, ?_⟩
        | with_reducible refine ⟨pk1, ?_⟩
        | with_reducible refine ⟨pk2, ?_⟩
        | with_reducible refine ⟨pk3, ?_⟩
        | with_reducible refine ⟨pk4, ?_⟩
        | with_reducible refine ⟨pk5, ?_⟩
        | with_reducible refine ⟨pk6, ?_⟩
        | with_reducible refine ⟨trivial, ?_⟩
        | with_reducible refine ⟨fun _ => trivial, ?_⟩
        | with_reducible refine ⟨rfl, ?_⟩
        | with_reducible refine every_i (fun hd => ?_)
        | with_reducible refine everyN_i (fun k hk => ?_)
        | with_reducible refine everyD_i (fun d hd => ?_)
        | with_reducible refine fork_t (by assumption) ?_
        | with_reducible refine fork_f (by assumption) ?_
        | refine fork_t rfl ?_
        | refine fork_f rfl ?_
        | with_reducible refine fork_i (fun h => ?_) (fun h => ?_)
        | with_reducible refine both_i ?_ ?_
        | ((with_reducible refine alike_i ?_); exact ⟨rfl, rfl, rfl⟩)
        | ((with_reducible refine fin_i ?_); (conv => whnf); refine ⟨rfl, ?_⟩)
        | refine ⟨hii (by assumption), ?_⟩
        | refine ⟨hpr, ?_⟩
        | refine ⟨of_decide_eq_true rfl, ?_⟩
        | refine ⟨fun _ => of_decide_eq_true rfl, ?_⟩
        | ((with_reducible refine ⟨?_, ?_⟩); (focus (intros; simp_all; done)))
        | ((with_reducible refine ⟨?_, ?_⟩); (focus (intros; omega)))) <;> (try (conv => whnf)))
      · have hi' : i < q.length := lt_t (by assumption)
        rw [show 2 * g.length + 2 - i = (2 * g.length + 1 - i) + 1 by omega, bfsO_s, if_pos hi'] at hb
        generalize hX : bfsI g fr least (getE tI q i).1 (toG g (half (getE tI q i).1)) s q = X0 at hb
        rw [half_eq] at hX
        refine only [0, 1, 2, 6, 7, 10, 11] ?_
        (conv => whnf)
        have hq1 := hq _ (getE_mem q hi')
        refine looped (σ := Nat × List (El tB) × List (El tI)) (fun x => [(12, I x.1), (9, .ow 1 1 x.2.2.length)]) (fun x => [.row true tB 4 x.2.1, .row true tI 3 x.2.2]) (fun x => x.1 ≤ (lsT g q i).length ∧ x.2.1.length = 2 * g.length ∧ inQ g x.2.2 ∧ i < x.2.2.length ∧ getE tI x.2.2 i = getE tI q i ∧ x.2.2.length + cntF x.2.1 ≤ 2 * g.length + 1 ∧ bfsI g fr least (getE tI q i).1 ((lsT g q i).drop x.1) x.2.1 x.2.2 = X0) (fun x => (lsT g q i).length - x.1) (0, s, q) ⟨Nat.zero_le _, hs, hq, hi', rfl, hc, hX⟩ ?_ ?_
        · conv => whnf
          refine ⟨rfl, leaf_i ?_⟩
          repeat' ((with_reducible refine And.intro ?_ ?_) <;> (try (conv => whnf)))
          all_goals (try (first | with_reducible rfl | exact True.intro | rfl | exact id | exact fun h => h | exact fun _ => rfl))
        · rintro ⟨k, s2, q2⟩ ⟨hk, hs2, hq2, hi2, ht2, hc2, hX2⟩
          dsimp only at hk hs2 hq2 hi2 ht2 hc2 hX2 ⊢
          have hpo : decide ((k : Int) < ((lsT g q i).length : Int)) = true → 0 ≤ ptN g q i k ∧ ptN g q i k < (g.length : Int) := fun h => by
            obtain ⟨j, e, hj⟩ := toG_at (lt_t h)
            unfold ptN lsT
            rw [e]; omega
          have hi3 : 0 ≤ (i : Int) ∧ (i : Int) < (q2.length : Int) := by omega
          have hn2 : decide ((k : Int) < ((lsT g q i).length : Int)) = true → 0 ≤ nx2 (ptN g q i k) ∧ nx2 (ptN g q i k) < 2 * (g.length : Int) := fun h => by
            have := hpo h
            rw [nx2_eq, wrapI (x := 2 * ptN g q i k) (by omega) (by omega), wrapI (by omega) (by omega)]; omega
          have hn1 : decide ((k : Int) < ((lsT g q i).length : Int)) = true → 0 ≤ nx1 (ptN g q i k) (getE tI q2 i).1 ∧ nx1 (ptN g q i k) (getE tI q2 i).1 < 2 * (g.length : Int) := fun h => by
            have := hpo h
            rw [ht2, nx1_eq, Int.tmod_eq_emod_of_nonneg hq1.1, wrapI (x := 2 * ptN g q i k) (by omega) (by omega), wrapI (by omega) (by omega)]; omega
          have hx2 := fun h => seen_in (s := s2) (hn2 h) hN
          have hx1 := fun h => seen_in (s := s2) (hn1 h) hN
          rw [nx2_eq] at hx2
          rw [nx1_eq] at hx1
          have happ : ∀ x : El tI, (q2 ++ [x]).length ≤ 1000000000 := fun x => by simp only [List.length_append, List.length_cons, List.length_nil]; omega
          conv => whnf
          repeat' ((first
            | with_reducible refine ⟨fun h => h, ?_⟩
            | with_reducible refine ⟨pk1, ?_⟩
            | with_reducible refine ⟨pk2, ?_⟩
            | with_reducible refine ⟨pk3, ?_⟩
            | with_reducible refine ⟨pk4, ?_⟩
            | with_reducible refine ⟨pk5, ?_⟩
            | with_reducible refine ⟨pk6, ?_⟩
            | with_reducible refine ⟨trivial, ?_⟩
            | with_reducible refine ⟨fun _ => trivial, ?_⟩
            | with_reducible refine ⟨rfl, ?_⟩
            | with_reducible refine every_i (fun hd => ?_)
            | with_reducible refine everyN_i (fun k hk => ?_)
            | with_reducible refine everyD_i (fun d hd => ?_)
            | with_reducible refine fork_t (by assumption) ?_
            | with_reducible refine fork_f (by assumption) ?_
            | refine fork_t rfl ?_
            | refine fork_f rfl ?_
            | with_reducible refine fork_i (fun h => ?_) (fun h => ?_)
            | with_reducible refine both_i ?_ ?_
            | ((with_reducible refine alike_i ?_); exact ⟨rfl, rfl, rfl⟩)
            | ((with_reducible refine fin_i ?_); (conv => whnf); refine ⟨rfl, ?_⟩)
            | refine ⟨hpo (by assumption), ?_⟩
            | refine ⟨hi3, ?_⟩
            | refine ⟨hx2 (by assumption), ?_⟩
            | refine ⟨hx1 (by assumption), ?_⟩
            | refine ⟨happ _, ?_⟩
            | refine ⟨of_decide_eq_true rfl, ?_⟩
            | refine ⟨fun _ => of_decide_eq_true rfl, ?_⟩
            | ((with_reducible refine ⟨?_, ?_⟩); (focus (intros; simp_all; done)))
            | ((with_reducible refine ⟨?_, ?_⟩); (focus (intros; omega)))) <;> (try (conv => whnf)))
          · have hk' : k < (lsT g q i).length := lt_t (by assumption)
            have hkb : k < 64 := by have h64 : (lsT g q i).length ≤ 64 := hto; omega
            have hst : ¬ stayB least (nd g (ptN g q i k)) = true := not_stay2 (by assumption)
            rw [drop_get _ hk', bfsI_cons, if_neg hst] at hX2
            refine next_i (k + 1, s2, q2) ⟨hk', hs2, hq2, hi2, ht2, hc2, hX2⟩ (by dsimp only; omega) rfl rfl ?_
            conv => whnf
            refine ⟨rfl, leaf_i ?_⟩
            repeat' ((with_reducible refine And.intro ?_ ?_) <;> (try (conv => whnf)))
            all_goals (try (first | with_reducible rfl | exact True.intro | rfl | exact id | exact fun h => h | exact fun _ => rfl))
            all_goals (try (first | rfl | exact wrapS (by omega)))
          · have hk' : k < (lsT g q i).length := lt_t (by assumption)
            have hkb : k < 64 := by have h64 : (lsT g q i).length ≤ 64 := hto; omega
            have hst : stayB least (nd g (ptN g q i k)) = true := not_stay (by assumption)
            have hd : nxt g least (ptN g q i k) (getE tI q i).1 = IntKind.i64.wrap (IntKind.i64.wrap (2 * ptN g q i k) + 1) := by
              rw [nxt_t (eq_of_beq (show ((nd g (ptN g q i k)).dep == least) = true by assumption)), nx2_eq]
            rw [drop_get _ hk', bfsI_cons, if_pos hst, hd] at hX2
            have he : ((IntKind.i64.wrap (IntKind.i64.wrap (2 * ptN g q i k) + 1)) == IntKind.i64.wrap (IntKind.i64.wrap (2 * fr) + 1)) = true := by assumption
            rw [if_pos (by rw [nx2_eq]; exact eq_of_beq he)] at hX2
            rw [← hX2] at hb
            all_goals ((with_reducible refine leaf_i ?_); (conv => whnf))
            repeat' ((with_reducible refine And.intro ?_ ?_) <;> (try (conv => whnf)))
            all_goals (try (first | with_reducible rfl | exact True.intro | rfl | exact id | exact fun h => h | exact fun _ => rfl))
            all_goals exact hb
          · have hk' : k < (lsT g q i).length := lt_t (by assumption)
            have hkb : k < 64 := by have h64 : (lsT g q i).length ≤ 64 := hto; omega
            have hst : stayB least (nd g (ptN g q i k)) = true := not_stay (by assumption)
            have hd : nxt g least (ptN g q i k) (getE tI q i).1 = IntKind.i64.wrap (IntKind.i64.wrap (2 * ptN g q i k) + 1) := by
              rw [nxt_t (eq_of_beq (show ((nd g (ptN g q i k)).dep == least) = true by assumption)), nx2_eq]
            rw [drop_get _ hk', bfsI_cons, if_pos hst, hd] at hX2
            have he : ((IntKind.i64.wrap (IntKind.i64.wrap (2 * ptN g q i k) + 1)) == IntKind.i64.wrap (IntKind.i64.wrap (2 * fr) + 1)) = false := by assumption
            have hsn : (!(getE tB s2 (IntKind.i64.wrap (IntKind.i64.wrap (2 * ptN g q i k) + 1)).toNat).1) = true := by assumption
            have hin : 0 ≤ (IntKind.i64.wrap (IntKind.i64.wrap (2 * ptN g q i k) + 1)) ∧ (IntKind.i64.wrap (IntKind.i64.wrap (2 * ptN g q i k) + 1)) < 2 * (g.length : Int) := by have := hn2 (by assumption); rw [nx2_eq] at this; exact this
            have hfs : (getE tB s2 (IntKind.i64.wrap (IntKind.i64.wrap (2 * ptN g q i k) + 1)).toNat).1 = false := by simpa using hsn
            have hcs := cntF_set s2 (IntKind.i64.wrap (IntKind.i64.wrap (2 * ptN g q i k) + 1)).toNat (by omega) hfs
            rw [if_neg (by rw [nx2_eq]; exact ne_of_beq_false he), if_neg (by rw [hfs]; simp)] at hX2
            refine next_i (k + 1, s2.set (IntKind.i64.wrap (IntKind.i64.wrap (2 * ptN g q i k) + 1)).toNat (true, ()), q2 ++ [((IntKind.i64.wrap (IntKind.i64.wrap (2 * ptN g q i k) + 1)), ())]) ⟨hk', by rw [List.length_set]; exact hs2, inQ_snoc hq2 hin, by simp only [List.length_append, List.length_cons, List.length_nil]; omega, by rw [get_snoc hi2]; exact ht2, by simp only [List.length_append, List.length_cons, List.length_nil]; omega, hX2⟩ (by dsimp only; omega) rfl rfl ?_
            conv => whnf
            refine ⟨rfl, leaf_i ?_⟩
            repeat' ((with_reducible refine And.intro ?_ ?_) <;> (try (conv => whnf)))
            all_goals (try (first | with_reducible rfl | exact True.intro | rfl | exact id | exact fun h => h | exact fun _ => rfl))
            all_goals (try (first | rfl | exact wrapS (by omega)))
          · have hk' : k < (lsT g q i).length := lt_t (by assumption)
            have hkb : k < 64 := by have h64 : (lsT g q i).length ≤ 64 := hto; omega
            have hst : stayB least (nd g (ptN g q i k)) = true := not_stay (by assumption)
            have hd : nxt g least (ptN g q i k) (getE tI q i).1 = IntKind.i64.wrap (IntKind.i64.wrap (2 * ptN g q i k) + 1) := by
              rw [nxt_t (eq_of_beq (show ((nd g (ptN g q i k)).dep == least) = true by assumption)), nx2_eq]
            rw [drop_get _ hk', bfsI_cons, if_pos hst, hd] at hX2
            have he : ((IntKind.i64.wrap (IntKind.i64.wrap (2 * ptN g q i k) + 1)) == IntKind.i64.wrap (IntKind.i64.wrap (2 * fr) + 1)) = false := by assumption
            have hsn : (!(getE tB s2 (IntKind.i64.wrap (IntKind.i64.wrap (2 * ptN g q i k) + 1)).toNat).1) = false := by assumption
            rw [if_neg (by rw [nx2_eq]; exact ne_of_beq_false he), if_pos (by simpa using hsn)] at hX2
            refine next_i (k + 1, s2, q2) ⟨hk', hs2, hq2, hi2, ht2, hc2, hX2⟩ (by dsimp only; omega) rfl rfl ?_
            conv => whnf
            refine ⟨rfl, leaf_i ?_⟩
            repeat' ((with_reducible refine And.intro ?_ ?_) <;> (try (conv => whnf)))
            all_goals (try (first | with_reducible rfl | exact True.intro | rfl | exact id | exact fun h => h | exact fun _ => rfl))
            all_goals (try (first | rfl | exact wrapS (by omega)))
          · have hk' : k < (lsT g q i).length := lt_t (by assumption)
            have hkb : k < 64 := by have h64 : (lsT g q i).length ≤ 64 := hto; omega
            have hst : stayB least (nd g (ptN g q i k)) = true := not_stay (by assumption)
            have hd : nxt g least (ptN g q i k) (getE tI q i).1 = IntKind.i64.wrap (IntKind.i64.wrap (2 * ptN g q i k) + (getE tI q i).1.tmod 2) := by
              rw [nxt_f (ne_of_beq_false (show ((nd g (ptN g q i k)).dep == least) = false by assumption)), nx1_eq]
            rw [drop_get _ hk', bfsI_cons, if_pos hst, hd] at hX2
            have ht3 : (getE tI q2 ((i : Nat) : Int).toNat).1 = (getE tI q i).1 := by rw [← ht2]; rfl
            have he : ((IntKind.i64.wrap (IntKind.i64.wrap (2 * ptN g q i k) + (getE tI q i).1.tmod 2)) == IntKind.i64.wrap (IntKind.i64.wrap (2 * fr) + 1)) = true := by rw [← ht3]; assumption
            rw [if_pos (by rw [nx2_eq]; exact eq_of_beq he)] at hX2
            rw [← hX2] at hb
            all_goals ((with_reducible refine leaf_i ?_); (conv => whnf))
            repeat' ((with_reducible refine And.intro ?_ ?_) <;> (try (conv => whnf)))
            all_goals (try (first | with_reducible rfl | exact True.intro | rfl | exact id | exact fun h => h | exact fun _ => rfl))
            all_goals exact hb
          · have hk' : k < (lsT g q i).length := lt_t (by assumption)
            have hkb : k < 64 := by have h64 : (lsT g q i).length ≤ 64 := hto; omega
            have hst : stayB least (nd g (ptN g q i k)) = true := not_stay (by assumption)
            have hd : nxt g least (ptN g q i k) (getE tI q i).1 = IntKind.i64.wrap (IntKind.i64.wrap (2 * ptN g q i k) + (getE tI q i).1.tmod 2) := by
              rw [nxt_f (ne_of_beq_false (show ((nd g (ptN g q i k)).dep == least) = false by assumption)), nx1_eq]
            rw [drop_get _ hk', bfsI_cons, if_pos hst, hd] at hX2
            have ht3 : (getE tI q2 ((i : Nat) : Int).toNat).1 = (getE tI q i).1 := by rw [← ht2]; rfl
            have he : ((IntKind.i64.wrap (IntKind.i64.wrap (2 * ptN g q i k) + (getE tI q i).1.tmod 2)) == IntKind.i64.wrap (IntKind.i64.wrap (2 * fr) + 1)) = false := by rw [← ht3]; assumption
            have hsn : (!(getE tB s2 (IntKind.i64.wrap (IntKind.i64.wrap (2 * ptN g q i k) + (getE tI q i).1.tmod 2)).toNat).1) = true := by rw [← ht3]; assumption
            have hin : 0 ≤ (IntKind.i64.wrap (IntKind.i64.wrap (2 * ptN g q i k) + (getE tI q i).1.tmod 2)) ∧ (IntKind.i64.wrap (IntKind.i64.wrap (2 * ptN g q i k) + (getE tI q i).1.tmod 2)) < 2 * (g.length : Int) := by have := hn1 (by assumption); rw [ht2, nx1_eq] at this; exact this
            have hfs : (getE tB s2 (IntKind.i64.wrap (IntKind.i64.wrap (2 * ptN g q i k) + (getE tI q i).1.tmod 2)).toNat).1 = false := by simpa using hsn
            have hcs := cntF_set s2 (IntKind.i64.wrap (IntKind.i64.wrap (2 * ptN g q i k) + (getE tI q i).1.tmod 2)).toNat (by omega) hfs
            rw [if_neg (by rw [nx2_eq]; exact ne_of_beq_false he), if_neg (by rw [hfs]; simp)] at hX2
            refine next_i (k + 1, s2.set (IntKind.i64.wrap (IntKind.i64.wrap (2 * ptN g q i k) + (getE tI q i).1.tmod 2)).toNat (true, ()), q2 ++ [((IntKind.i64.wrap (IntKind.i64.wrap (2 * ptN g q i k) + (getE tI q i).1.tmod 2)), ())]) ⟨hk', by rw [List.length_set]; exact hs2, inQ_snoc hq2 hin, by simp only [List.length_append, List.length_cons, List.length_nil]; omega, by rw [get_snoc hi2]; exact ht2, by simp only [List.length_append, List.length_cons, List.length_nil]; omega, hX2⟩ (by dsimp only; omega) rfl rfl ?_
            conv => whnf
            refine ⟨rfl, leaf_i ?_⟩
            repeat' ((with_reducible refine And.intro ?_ ?_) <;> (try (conv => whnf)))
            all_goals (try (first | with_reducible rfl | exact True.intro | rfl | exact id | exact fun h => h | exact fun _ => rfl))
            all_goals (try (first | rfl | exact wrapS (by omega)))
            all_goals (try (first | exact congrArg (fun z : Int => s2.set (IntKind.i64.wrap (IntKind.i64.wrap (2 * ptN g q i k) + z.tmod 2)).toNat (true, ())) ht3 | exact congrArg (fun z : Int => q2 ++ [(IntKind.i64.wrap (IntKind.i64.wrap (2 * ptN g q i k) + z.tmod 2), ())]) ht3 | (show (q2 ++ [_]).length = (q2 ++ [_]).length; rw [List.length_append, List.length_append]; rfl)))
          · have hk' : k < (lsT g q i).length := lt_t (by assumption)
            have hkb : k < 64 := by have h64 : (lsT g q i).length ≤ 64 := hto; omega
            have hst : stayB least (nd g (ptN g q i k)) = true := not_stay (by assumption)
            have hd : nxt g least (ptN g q i k) (getE tI q i).1 = IntKind.i64.wrap (IntKind.i64.wrap (2 * ptN g q i k) + (getE tI q i).1.tmod 2) := by
              rw [nxt_f (ne_of_beq_false (show ((nd g (ptN g q i k)).dep == least) = false by assumption)), nx1_eq]
            rw [drop_get _ hk', bfsI_cons, if_pos hst, hd] at hX2
            have ht3 : (getE tI q2 ((i : Nat) : Int).toNat).1 = (getE tI q i).1 := by rw [← ht2]; rfl
            have he : ((IntKind.i64.wrap (IntKind.i64.wrap (2 * ptN g q i k) + (getE tI q i).1.tmod 2)) == IntKind.i64.wrap (IntKind.i64.wrap (2 * fr) + 1)) = false := by rw [← ht3]; assumption
            have hsn : (!(getE tB s2 (IntKind.i64.wrap (IntKind.i64.wrap (2 * ptN g q i k) + (getE tI q i).1.tmod 2)).toNat).1) = false := by rw [← ht3]; assumption
            rw [if_neg (by rw [nx2_eq]; exact ne_of_beq_false he), if_pos (by simpa using hsn)] at hX2
            refine next_i (k + 1, s2, q2) ⟨hk', hs2, hq2, hi2, ht2, hc2, hX2⟩ (by dsimp only; omega) rfl rfl ?_
            conv => whnf
            refine ⟨rfl, leaf_i ?_⟩
            repeat' ((with_reducible refine And.intro ?_ ?_) <;> (try (conv => whnf)))
            all_goals (try (first | with_reducible rfl | exact True.intro | rfl | exact id | exact fun h => h | exact fun _ => rfl))
            all_goals (try (first | rfl | exact wrapS (by omega)))
          · have hk' : (lsT g q i).length ≤ k := lt_f (by assumption)
            rw [List.drop_eq_nil_of_le hk', bfsI_nil] at hX2
            rw [← hX2] at hb
            refine next_i (i + 1, s2, q2) ⟨hs2, hq2, hi2, hc2, by rw [show 2 * g.length + 2 - (i + 1) = 2 * g.length + 1 - i by omega]; exact hb⟩ (by dsimp only; omega) rfl rfl ?_
            conv => whnf
            refine ⟨rfl, leaf_i ?_⟩
            repeat' ((with_reducible refine And.intro ?_ ?_) <;> (try (conv => whnf)))
            all_goals (try (first | with_reducible rfl | exact True.intro | rfl | exact id | exact fun h => h | exact fun _ => rfl))
            all_goals (try (first | rfl | exact wrapS (by omega)))
      · have hi' : q.length ≤ i := lt_f h
        rw [show 2 * g.length + 2 - i = (2 * g.length + 1 - i) + 1 by omega, bfsO_s, if_neg (by omega)] at hb
        all_goals ((with_reducible refine leaf_i ?_); (conv => whnf))
        repeat' ((with_reducible refine And.intro ?_ ?_) <;> (try (conv => whnf)))
        all_goals (try (first | with_reducible rfl | exact True.intro | rfl | exact id | exact fun h => h | exact fun _ => rfl))
        all_goals exact hb
end Go.Proofs.Ytbgcgokikekmoaa

/- Layer 9's functions: which inputs a node feeds. -/
namespace Go.Proofs.Ytbgcgokikekmoaa
open Go Go.RowKit Go.Proofs.Ytbgcgokikekmoaa.Eng
def k_to : Sig := .arg (shR tN) fun g => .arg shI fun i => .done { pre := (toG g i).length ≤ 1000000000 ∧ g.length < 4611686018427387904 ∧ ∀ x : Nd, x ∈ g → (Nd.ins x).length < 4611686018427387904, res := .rl true tP (toG g i) }
set_option maxHeartbeats 4000000 in
theorem c_to : FnOk Try.prog 55 k_to.con := by
  refine fnOkS mixed tys_ok (cs := []) trivial Try.func55 rfl (by kernel_rfl) Try.ntmps55 _ (h := ?_)
  intro g i
  refine ⟨rfl, fun hp => ?_⟩
  obtain ⟨hp1, hp2, hp3⟩ := hp
  conv => whnf
  repeat' ((first
    | with_reducible refine ⟨fun h => h, ?_⟩
    | with_reducible refine ⟨pk1, ?_⟩
    | with_reducible refine ⟨pk2, ?_⟩
    | with_reducible refine ⟨pk3, ?_⟩
    | with_reducible refine ⟨pk4, ?_⟩
    | with_reducible refine ⟨pk5, ?_⟩
    | with_reducible refine ⟨pk6, ?_⟩
    | with_reducible refine ⟨trivial, ?_⟩
    | with_reducible refine ⟨fun _ => trivial, ?_⟩
    | with_reducible refine ⟨rfl, ?_⟩
    | with_reducible refine every_i (fun hd => ?_)
    | with_reducible refine everyN_i (fun k hk => ?_)
    | with_reducible refine everyD_i (fun d hd => ?_)
    | with_reducible refine fork_t (by assumption) ?_
    | with_reducible refine fork_f (by assumption) ?_
    | refine fork_t rfl ?_
    | refine fork_f rfl ?_
    | with_reducible refine fork_i (fun h => ?_) (fun h => ?_)
    | with_reducible refine both_i ?_ ?_
    | ((with_reducible refine alike_i ?_); exact ⟨rfl, rfl, rfl⟩)
    | ((with_reducible refine fin_i ?_); (conv => whnf); refine ⟨rfl, ?_⟩)
    | refine ⟨of_decide_eq_true rfl, ?_⟩
    | refine ⟨fun _ => of_decide_eq_true rfl, ?_⟩
    | ((with_reducible refine ⟨?_, ?_⟩); (focus (intros; simp_all; done)))
    | ((with_reducible refine ⟨?_, ?_⟩); (focus (intros; omega)))) <;> (try (conv => whnf)))
  refine looped (σ := Nat × List (El tP)) (fun x => [(12, I x.1), (5, .ow 0 2 x.2.length)]) (fun x => [.row true tP 69 x.2]) (fun x => x.1 ≤ g.length ∧ x.2 ++ toOut i x.1 (g.drop x.1) = toG g i) (fun x => g.length - x.1) (0, []) ⟨Nat.zero_le _, rfl⟩ ?_ ?_
  · conv => whnf
    refine ⟨rfl, leaf_i ?_⟩
    repeat' ((with_reducible refine And.intro ?_ ?_) <;> (try (conv => whnf)))
    all_goals (try (first | with_reducible rfl | exact True.intro | rfl | exact id | exact fun h => h | exact fun _ => rfl))
  · rintro ⟨j, l⟩ ⟨hj, hl⟩
    dsimp only at hj hl
    conv => whnf
    repeat' ((first
      | with_reducible refine ⟨fun h => h, ?_⟩
      | with_reducible refine ⟨pk1, ?_⟩
      | with_reducible refine ⟨pk2, ?_⟩
      | with_reducible refine ⟨pk3, ?_⟩
      | with_reducible refine ⟨pk4, ?_⟩
      | with_reducible refine ⟨pk5, ?_⟩
      | with_reducible refine ⟨pk6, ?_⟩
      | with_reducible refine ⟨trivial, ?_⟩
      | with_reducible refine ⟨fun _ => trivial, ?_⟩
      | with_reducible refine ⟨rfl, ?_⟩
      | with_reducible refine every_i (fun hd => ?_)
      | with_reducible refine everyN_i (fun k hk => ?_)
      | with_reducible refine everyD_i (fun d hd => ?_)
      | with_reducible refine fork_t (by assumption) ?_
      | with_reducible refine fork_f (by assumption) ?_
      | refine fork_t rfl ?_
      | refine fork_f rfl ?_
      | with_reducible refine fork_i (fun h => ?_) (fun h => ?_)
      | with_reducible refine both_i ?_ ?_
      | ((with_reducible refine alike_i ?_); exact ⟨rfl, rfl, rfl⟩)
      | ((with_reducible refine fin_i ?_); (conv => whnf); refine ⟨rfl, ?_⟩)
      | refine ⟨of_decide_eq_true rfl, ?_⟩
      | refine ⟨fun _ => of_decide_eq_true rfl, ?_⟩
      | ((with_reducible refine ⟨?_, ?_⟩); (focus (intros; simp_all; done)))
      | ((with_reducible refine ⟨?_, ?_⟩); (focus (intros; omega)))) <;> (try (conv => whnf)))
    · have hj' : j < g.length := by simpa using h
      have hm := getE_mem g hj'
      have hn := hp3 _ hm
      rw [drop_get g hj'] at hl
      refine looped (σ := Nat × List (El tP)) (fun x => [(20, I x.1), (5, .ow 0 2 x.2.length)]) (fun x => [.row true tP 69 x.2, .cells (ndC false (getE tN g j))]) (fun x => x.1 ≤ (Nd.ins (getE tN g j)).length ∧ x.2 ++ (toIn j i x.1 ((Nd.ins (getE tN g j)).drop x.1) ++ toOut i (j + 1) (g.drop (j + 1))) = toG g i) (fun x => (Nd.ins (getE tN g j)).length - x.1) (0, l) ⟨Nat.zero_le _, hl⟩ ?_ ?_
      · conv => whnf
        refine ⟨rfl, leaf_i ?_⟩
        repeat' ((with_reducible refine And.intro ?_ ?_) <;> (try (conv => whnf)))
        all_goals (try (first | with_reducible rfl | exact True.intro | rfl | exact id | exact fun h => h | exact fun _ => rfl))
      · rintro ⟨k, l⟩ ⟨hk, hl⟩
        dsimp only at hk hl
        conv => whnf
        repeat' ((first
          | with_reducible refine ⟨fun h => h, ?_⟩
          | with_reducible refine ⟨pk1, ?_⟩
          | with_reducible refine ⟨pk2, ?_⟩
          | with_reducible refine ⟨pk3, ?_⟩
          | with_reducible refine ⟨pk4, ?_⟩
          | with_reducible refine ⟨pk5, ?_⟩
          | with_reducible refine ⟨pk6, ?_⟩
          | with_reducible refine ⟨trivial, ?_⟩
          | with_reducible refine ⟨fun _ => trivial, ?_⟩
          | with_reducible refine ⟨rfl, ?_⟩
          | with_reducible refine every_i (fun hd => ?_)
          | with_reducible refine everyN_i (fun k hk => ?_)
          | with_reducible refine everyD_i (fun d hd => ?_)
          | with_reducible refine fork_t (by assumption) ?_
          | with_reducible refine fork_f (by assumption) ?_
          | refine fork_t rfl ?_
          | refine fork_f rfl ?_
          | with_reducible refine fork_i (fun h => ?_) (fun h => ?_)
          | with_reducible refine both_i ?_ ?_
          | ((with_reducible refine alike_i ?_); exact ⟨rfl, rfl, rfl⟩)
          | ((with_reducible refine fin_i ?_); (conv => whnf); refine ⟨rfl, ?_⟩)
          | refine ⟨of_decide_eq_true rfl, ?_⟩
          | refine ⟨fun _ => of_decide_eq_true rfl, ?_⟩
          | ((with_reducible refine ⟨?_, ?_⟩); (focus (intros; simp_all; done)))
          | ((with_reducible refine ⟨?_, ?_⟩); (focus (intros; omega)))) <;> (try (conv => whnf)))
        · rename_i hk'
          have hk' : k < (Nd.ins (getE tN g j)).length := of_decide_eq_true hk' |> Int.ofNat_lt.1
          have hx : (getE tI (Nd.ins (getE tN g j)) k).1 = i := eq_of_beq h
          rw [drop_get _ hk', toIn, if_pos hx] at hl
          refine ⟨?_, ?_⟩
          · have := congrArg List.length hl
            simp only [List.length_append, List.length_cons, List.length_nil] at this ⊢
            omega
          (conv => whnf)
          conv => whnf
          repeat' ((first
            | with_reducible refine ⟨fun h => h, ?_⟩
            | with_reducible refine ⟨pk1, ?_⟩
            | with_reducible refine ⟨pk2, ?_⟩
            | with_reducible refine ⟨pk3, ?_⟩
            | with_reducible refine ⟨pk4, ?_⟩
            | with_reducible refine ⟨pk5, ?_⟩
            | with_reducible refine ⟨pk6, ?_⟩
            | with_reducible refine ⟨trivial, ?_⟩
            | with_reducible refine ⟨fun _ => trivial, ?_⟩
            | with_reducible refine ⟨rfl, ?_⟩
            | with_reducible refine every_i (fun hd => ?_)
            | with_reducible refine everyN_i (fun k hk => ?_)
            | with_reducible refine everyD_i (fun d hd => ?_)
            | with_reducible refine fork_t (by assumption) ?_
            | with_reducible refine fork_f (by assumption) ?_
            | refine fork_t rfl ?_
            | refine fork_f rfl ?_
            | with_reducible refine fork_i (fun h => ?_) (fun h => ?_)
            | with_reducible refine both_i ?_ ?_
            | ((with_reducible refine alike_i ?_); exact ⟨rfl, rfl, rfl⟩)
            | ((with_reducible refine fin_i ?_); (conv => whnf); refine ⟨rfl, ?_⟩)
            | refine ⟨of_decide_eq_true rfl, ?_⟩
            | refine ⟨fun _ => of_decide_eq_true rfl, ?_⟩
            | ((with_reducible refine ⟨?_, ?_⟩); (focus (intros; simp_all; done)))
            | ((with_reducible refine ⟨?_, ?_⟩); (focus (intros; omega)))) <;> (try (conv => whnf)))
          refine next_i (k + 1, l ++ [((j : Int), (k : Int), ())]) ⟨hk', by simpa using hl⟩ (by dsimp only; omega) rfl rfl ?_
          conv => whnf
          refine ⟨rfl, leaf_i ?_⟩
          repeat' ((with_reducible refine And.intro ?_ ?_) <;> (try (conv => whnf)))
          all_goals (try (first | with_reducible rfl | exact True.intro | rfl | exact id | exact fun h => h | exact fun _ => rfl))
          all_goals (try (first | rfl | exact wrapS (by dsimp only; omega)))
        · rename_i hk'
          have hk' : k < (Nd.ins (getE tN g j)).length := of_decide_eq_true hk' |> Int.ofNat_lt.1
          have hx : ¬ (getE tI (Nd.ins (getE tN g j)) k).1 = i := ne_of_beq_false h
          rw [drop_get _ hk', toIn, if_neg hx] at hl
          refine next_i (k + 1, l) ⟨hk', by simpa using hl⟩ (by dsimp only; omega) rfl rfl ?_
          conv => whnf
          refine ⟨rfl, leaf_i ?_⟩
          repeat' ((with_reducible refine And.intro ?_ ?_) <;> (try (conv => whnf)))
          all_goals (try (first | with_reducible rfl | exact True.intro | rfl | exact id | exact fun h => h | exact fun _ => rfl))
          all_goals (try (first | rfl | exact wrapS (by dsimp only; omega)))
        · have hk' : (Nd.ins (getE tN g j)).length ≤ k := by have := of_decide_eq_false h; exact Nat.le_of_not_lt fun hh => this (Int.ofNat_lt.2 hh)
          rw [List.drop_eq_nil_of_le hk', toIn, List.nil_append] at hl
          refine next_i (j + 1, l) ⟨hj', hl⟩ (by dsimp only; omega) rfl rfl ?_
          conv => whnf
          refine ⟨rfl, leaf_i ?_⟩
          repeat' ((with_reducible refine And.intro ?_ ?_) <;> (try (conv => whnf)))
          all_goals (try (first | with_reducible rfl | exact True.intro | rfl | exact id | exact fun h => h | exact fun _ => rfl))
          all_goals (try (first | rfl | exact wrapS (by dsimp only; omega)))
    · have hj' : g.length ≤ j := by have := of_decide_eq_false h; exact Nat.le_of_not_lt fun hh => this (Int.ofNat_lt.2 hh)
      rw [List.drop_eq_nil_of_le hj', toOut, List.append_nil] at hl
      all_goals ((with_reducible refine leaf_i ?_); (conv => whnf))
      repeat' ((with_reducible refine And.intro ?_ ?_) <;> (try (conv => whnf)))
      all_goals (try (first | with_reducible rfl | exact True.intro | rfl | exact id | exact fun h => h | exact fun _ => rfl))
      all_goals exact hl
end Go.Proofs.Ytbgcgokikekmoaa

/- Layer 10: from which node one comes to which. -/
namespace Go.Proofs.Ytbgcgokikekmoaa
set_option maxRecDepth 100000
open Go Go.RowKit Go.Proofs.Ytbgcgokikekmoaa.Eng
def rpI (x : El tI) : AV := .rp 1 (fun y => nthD (encC false tI x) y) 0
def gIx : AV → Option Int
  | .v (.int .i64 n) => some n
  | _ => none
theorem gIx_ok {v : AV} {n : Int} (h : gIx v = some n) : v = I n := by
  unfold gIx at h
  split at h
  · injection h with h; subst h; rfl
  · cases h
def gRpI : AV → Option (El tI)
  | .rp 1 e 0 => match gIx (e 0) with
    | some f => some (f, ())
    | _ => none
  | _ => none
theorem gRpI_ok {v : AV} {x : El tI} (h : gRpI v = some x) (c : Cx) (vs : List Value) (hs : sat v c vs) : sat (rpI x) c vs := by
  unfold gRpI at h
  split at h
  · rename_i e
    split at h
    · rename_i f h0
      injection h with h; subst h
      obtain ⟨bl, q, hv, hO, hb, hc⟩ := hs
      refine ⟨bl, q, hv, hO, hb, fun j hj => ?_⟩
      obtain ⟨y, hy, hsy⟩ := hc j hj
      refine ⟨y, hy, ?_⟩
      have : j = 0 := by omega
      subst this
      rw [gIx_ok h0] at hsy; exact hsy
    · cases h
  · cases h
def shRpI : Sh (El tI) := ⟨gRpI, rpI, fun _ _ h c vs hs => gRpI_ok h c vs hs⟩
def k_ways1 : Sig := .arg (shT tN) fun n => .arg shRpI fun s => .done { pre := True, res := B (stayB s.1 n) }
set_option maxHeartbeats 4000000 in
theorem c_ways1 : FnOk Try.prog 54 k_ways1.con := by
  refine fnOkS mixed tys_ok (cs := []) trivial Try.func54 rfl (by kernel_rfl) Try.ntmps54 _ (h := ?_)
  rintro n s
  refine ⟨rfl, fun _ => ?_⟩
  conv => whnf
  repeat' ((first
    | with_reducible refine ⟨fun h => h, ?_⟩
    | with_reducible refine ⟨pk1, ?_⟩
    | with_reducible refine ⟨pk2, ?_⟩
    | with_reducible refine ⟨pk3, ?_⟩
    | with_reducible refine ⟨pk4, ?_⟩
    | with_reducible refine ⟨pk5, ?_⟩
    | with_reducible refine ⟨pk6, ?_⟩
    | with_reducible refine ⟨trivial, ?_⟩
    | with_reducible refine ⟨fun _ => trivial, ?_⟩
    | with_reducible refine ⟨rfl, ?_⟩
    | with_reducible refine every_i (fun hd => ?_)
    | with_reducible refine everyN_i (fun k hk => ?_)
    | with_reducible refine everyD_i (fun d hd => ?_)
    | with_reducible refine fork_t (by assumption) ?_
    | with_reducible refine fork_f (by assumption) ?_
    | refine fork_t rfl ?_
    | refine fork_f rfl ?_
    | with_reducible refine fork_i (fun h => ?_) (fun h => ?_)
    | with_reducible refine both_i ?_ ?_
    | ((with_reducible refine alike_i ?_); exact ⟨rfl, rfl, rfl⟩)
    | ((with_reducible refine fin_i ?_); (conv => whnf); refine ⟨rfl, ?_⟩)
    | refine ⟨of_decide_eq_true rfl, ?_⟩
    | refine ⟨fun _ => of_decide_eq_true rfl, ?_⟩
    | ((with_reducible refine ⟨?_, ?_⟩); (focus (intros; simp_all; done)))
    | ((with_reducible refine ⟨?_, ?_⟩); (focus (intros; omega)))) <;> (try (conv => whnf)))
  all_goals ((with_reducible refine leaf_i ?_); (conv => whnf))
  repeat' ((with_reducible refine And.intro ?_ ?_) <;> (try (conv => whnf)))
  all_goals (try (first | with_reducible rfl | exact True.intro | rfl | exact id | exact fun h => h | exact fun _ => rfl))
abbrev tBBt : Ty := tBB
def k_ways : Sig := .arg (shR tN) fun g => .arg shI fun least => .done { pre := few g, res := .rl true tBB (waysG g least) }
set_option maxHeartbeats 4000000 in
theorem c_ways : FnOk Try.prog 45 k_ways.con := by
  refine fnOkS mixed tys_ok (cs := [(54, k_ways1.con), (55, k_to.con)]) ⟨c_ways1, c_to, trivial⟩ Try.func45 rfl (by kernel_rfl) Try.ntmps45 _ (h := ?_)
  rintro g least
  refine ⟨rfl, fun hp => ?_⟩
  have hp : few g := hp
  have hg := hp.1
  conv => whnf
  repeat' ((first
    | with_reducible refine ⟨fun h => h, ?_⟩
    | with_reducible refine ⟨pk1, ?_⟩
    | with_reducible refine ⟨pk2, ?_⟩
    | with_reducible refine ⟨pk3, ?_⟩
    | with_reducible refine ⟨pk4, ?_⟩
    | with_reducible refine ⟨pk5, ?_⟩
    | with_reducible refine ⟨pk6, ?_⟩
    | with_reducible refine ⟨trivial, ?_⟩
    | with_reducible refine ⟨fun _ => trivial, ?_⟩
    | with_reducible refine ⟨rfl, ?_⟩
    | with_reducible refine every_i (fun hd => ?_)
    | with_reducible refine everyN_i (fun k hk => ?_)
    | with_reducible refine everyD_i (fun d hd => ?_)
    | with_reducible refine fork_t (by assumption) ?_
    | with_reducible refine fork_f (by assumption) ?_
    | refine fork_t rfl ?_
    | refine fork_f rfl ?_
    | with_reducible refine fork_i (fun h => ?_) (fun h => ?_)
    | with_reducible refine both_i ?_ ?_
    | ((with_reducible refine alike_i ?_); exact ⟨rfl, rfl, rfl⟩)
    | ((with_reducible refine fin_i ?_); (conv => whnf); refine ⟨rfl, ?_⟩)
    | refine ⟨of_decide_eq_true rfl, ?_⟩
    | refine ⟨fun _ => of_decide_eq_true rfl, ?_⟩
    | ((with_reducible refine ⟨?_, ?_⟩); (focus (intros; simp_all; done)))
    | ((with_reducible refine ⟨?_, ?_⟩); (focus (intros; omega)))) <;> (try (conv => whnf)))
  refine only [18, 6, 5, 4, 3, 0, 1] ?_
  (conv => whnf)
  refine looped (σ := Nat × (Nat → Nat → Value) × Mx) (fun x => [(19, I x.1)]) (fun x => [.cells (.cons (I least) .nil), .mt true x.2.1 tBB [some 4] 37 x.2.2]) (fun x => x.1 ≤ g.length ∧ x.2.2 = wA g least x.1) (fun x => g.length - x.1) (0, nilH, wA g least 0) ⟨Nat.zero_le _, rfl⟩ ?_ ?_
  · conv => whnf
    refine ⟨rfl, leaf_i ?_⟩
    repeat' ((with_reducible refine And.intro ?_ ?_) <;> (try (conv => whnf)))
    all_goals (try (first | with_reducible rfl | exact True.intro | rfl | exact id | exact fun h => h | exact fun _ => rfl))
  · rintro ⟨i, H, m⟩ ⟨hi, hm⟩
    dsimp only at hi hm ⊢
    conv => whnf
    repeat' ((first
      | with_reducible refine ⟨fun h => h, ?_⟩
      | with_reducible refine ⟨pk1, ?_⟩
      | with_reducible refine ⟨pk2, ?_⟩
      | with_reducible refine ⟨pk3, ?_⟩
      | with_reducible refine ⟨pk4, ?_⟩
      | with_reducible refine ⟨pk5, ?_⟩
      | with_reducible refine ⟨pk6, ?_⟩
      | with_reducible refine ⟨trivial, ?_⟩
      | with_reducible refine ⟨fun _ => trivial, ?_⟩
      | with_reducible refine ⟨rfl, ?_⟩
      | with_reducible refine every_i (fun hd => ?_)
      | with_reducible refine everyN_i (fun k hk => ?_)
      | with_reducible refine everyD_i (fun d hd => ?_)
      | with_reducible refine fork_t (by assumption) ?_
      | with_reducible refine fork_f (by assumption) ?_
      | refine fork_t rfl ?_
      | refine fork_f rfl ?_
      | with_reducible refine fork_i (fun h => ?_) (fun h => ?_)
      | with_reducible refine both_i ?_ ?_
      | ((with_reducible refine alike_i ?_); exact ⟨rfl, rfl, rfl⟩)
      | ((with_reducible refine fin_i ?_); (conv => whnf); refine ⟨rfl, ?_⟩)
      | refine ⟨of_decide_eq_true rfl, ?_⟩
      | refine ⟨fun _ => of_decide_eq_true rfl, ?_⟩
      | ((with_reducible refine ⟨?_, ?_⟩); (focus (intros; simp_all; done)))
      | ((with_reducible refine ⟨?_, ?_⟩); (focus (intros; omega)))) <;> (try (conv => whnf)))
    have ht := few_to hp (i : Int)
    refine ⟨⟨by omega, by omega, fun x hx => by have := hp.2 x hx; omega⟩, ?_⟩
    (conv => whnf)
    conv => whnf
    repeat' ((first
      | with_reducible refine ⟨fun h => h, ?_⟩
      | with_reducible refine ⟨pk1, ?_⟩
      | with_reducible refine ⟨pk2, ?_⟩
      | with_reducible refine ⟨pk3, ?_⟩
      | with_reducible refine ⟨pk4, ?_⟩
      | with_reducible refine ⟨pk5, ?_⟩
      | with_reducible refine ⟨pk6, ?_⟩
      | with_reducible refine ⟨trivial, ?_⟩
      | with_reducible refine ⟨fun _ => trivial, ?_⟩
      | with_reducible refine ⟨rfl, ?_⟩
      | with_reducible refine every_i (fun hd => ?_)
      | with_reducible refine everyN_i (fun k hk => ?_)
      | with_reducible refine everyD_i (fun d hd => ?_)
      | with_reducible refine fork_t (by assumption) ?_
      | with_reducible refine fork_f (by assumption) ?_
      | refine fork_t rfl ?_
      | refine fork_f rfl ?_
      | with_reducible refine fork_i (fun h => ?_) (fun h => ?_)
      | with_reducible refine both_i ?_ ?_
      | ((with_reducible refine alike_i ?_); exact ⟨rfl, rfl, rfl⟩)
      | ((with_reducible refine fin_i ?_); (conv => whnf); refine ⟨rfl, ?_⟩)
      | refine ⟨of_decide_eq_true rfl, ?_⟩
      | refine ⟨fun _ => of_decide_eq_true rfl, ?_⟩
      | ((with_reducible refine ⟨?_, ?_⟩); (focus (intros; simp_all; done)))
      | ((with_reducible refine ⟨?_, ?_⟩); (focus (intros; omega)))) <;> (try (conv => whnf)))
    · have hi' := lt_t h
      subst hm
      have hs := sqU_row (sqU_wA (least := least) i hi) hi'
      refine only [31, 30, 19, 7, 18, 6, 5, 4, 3, 0, 1] ?_
      (conv => whnf)
      refine looped (σ := Nat × Mx) (fun x => [(32, I x.1)]) (fun x => [.cells (.cons (I least) .nil), .mt true (updH H i 0 hd) tBB [some 4] 37 x.2]) (fun x => x.1 ≤ (toG g i).length ∧ x.2 = pK g least i (toG g i) ((wA g least i).set i (falseR g.length, ())) x.1) (fun x => (toG g i).length - x.1) (0, (wA g least i).set i (falseR g.length, ())) ⟨Nat.zero_le _, rfl⟩ ?_ ?_
      · conv => whnf
        refine ⟨rfl, leaf_i ?_⟩
        repeat' ((with_reducible refine And.intro ?_ ?_) <;> (try (conv => whnf)))
        all_goals (try (first | with_reducible rfl | exact True.intro | rfl | exact id | exact fun h => h | exact fun _ => rfl))
      · rintro ⟨k, m⟩ ⟨hk, hm⟩
        dsimp only at hk hm ⊢
        have hs' : sqU g.length (i + 1) m := by rw [hm]; exact sqU_pK hs k
        have hpb : decide ((k : Int) < ((toG g i).length : Int)) = true → 0 ≤ (getE tP (toG g i) k).1 ∧ (getE tP (toG g i) k).1 < (g.length : Int) := fun h => by
          obtain ⟨j, e, hj⟩ := toG_at (lt_t h)
          rw [e]; omega
        have hpc : decide ((k : Int) < ((toG g i).length : Int)) = true → 0 ≤ (getE tP (toG g i) k).1 ∧ (getE tP (toG g i) k).1 < ((rowM m i).length : Int) := fun h => by
          rw [hs'.2 i (by omega)]; exact hpb h
        conv => whnf
        repeat' ((first
          | with_reducible refine ⟨fun h => h, ?_⟩
          | with_reducible refine ⟨pk1, ?_⟩
          | with_reducible refine ⟨pk2, ?_⟩
          | with_reducible refine ⟨pk3, ?_⟩
          | with_reducible refine ⟨pk4, ?_⟩
          | with_reducible refine ⟨pk5, ?_⟩
          | with_reducible refine ⟨pk6, ?_⟩
          | with_reducible refine ⟨trivial, ?_⟩
          | with_reducible refine ⟨fun _ => trivial, ?_⟩
          | with_reducible refine ⟨rfl, ?_⟩
          | with_reducible refine every_i (fun hd => ?_)
          | with_reducible refine everyN_i (fun k hk => ?_)
          | with_reducible refine everyD_i (fun d hd => ?_)
          | with_reducible refine fork_t (by assumption) ?_
          | with_reducible refine fork_f (by assumption) ?_
          | refine fork_t rfl ?_
          | refine fork_f rfl ?_
          | with_reducible refine fork_i (fun h => ?_) (fun h => ?_)
          | with_reducible refine both_i ?_ ?_
          | ((with_reducible refine alike_i ?_); exact ⟨rfl, rfl, rfl⟩)
          | ((with_reducible refine fin_i ?_); (conv => whnf); refine ⟨rfl, ?_⟩)
          | refine ⟨fun _ => hpb (by assumption), ?_⟩
          | refine ⟨hpc (by assumption), ?_⟩
          | refine ⟨of_decide_eq_true rfl, ?_⟩
          | refine ⟨fun _ => of_decide_eq_true rfl, ?_⟩
          | ((with_reducible refine ⟨?_, ?_⟩); (focus (intros; simp_all; done)))
          | ((with_reducible refine ⟨?_, ?_⟩); (focus (intros; omega)))) <;> (try (conv => whnf)))
        · refine next_i (k + 1, pB g least i (getE tP (toG g i) k) m) ⟨lt_t h, by rw [hm]; rfl⟩ (by have := lt_t h; dsimp only; omega) rfl rfl ?_
          conv => whnf
          refine ⟨rfl, leaf_i ?_⟩
          repeat' ((with_reducible refine And.intro ?_ ?_) <;> (try (conv => whnf)))
          all_goals (try (first | with_reducible rfl | exact True.intro | rfl | exact id | exact fun h => h | exact fun _ => rfl))
          all_goals (try (first | rfl | exact wrapS (by have := lt_t h; omega)))
        · refine next_i (i + 1, updH H i 0 hd, m) ⟨hi', by rw [hm, show k = (toG g i).length from Nat.le_antisymm hk (lt_f h)]; rfl⟩ (by dsimp only; omega) rfl rfl ?_
          conv => whnf
          refine ⟨rfl, leaf_i ?_⟩
          repeat' ((with_reducible refine And.intro ?_ ?_) <;> (try (conv => whnf)))
          all_goals (try (first | with_reducible rfl | exact True.intro | rfl | exact id | exact fun h => h | exact fun _ => rfl))
          all_goals (try (first | rfl | exact wrapS (by omega)))
    · have hi' := lt_f h
      have hs := sqU_wA (g := g) (least := least) g.length (Nat.le_refl _)
      rw [show i = g.length from Nat.le_antisymm hi hi'] at hm
      rw [← hm] at hs
      refine only [61, 6, 4, 3, 0] ?_
      (conv => whnf)
      refine looped (σ := Nat × Mx) (fun x => [(62, I x.1)]) (fun x => [.cells (.cons (I least) .nil), .mt true H tBB [some 4] 37 x.2]) (fun x => x.1 ≤ g.length ∧ x.2 = stK m g.length x.1) (fun x => g.length - x.1) (0, m) ⟨Nat.zero_le _, rfl⟩ ?_ ?_
      · conv => whnf
        refine ⟨rfl, leaf_i ?_⟩
        repeat' ((with_reducible refine And.intro ?_ ?_) <;> (try (conv => whnf)))
        all_goals (try (first | with_reducible rfl | exact True.intro | rfl | exact id | exact fun h => h | exact fun _ => rfl))
      · rintro ⟨k, m'⟩ ⟨hk, hm'⟩
        dsimp only at hk hm' ⊢
        have hsk : sqU g.length g.length m' := by rw [hm']; exact sqU_stK hs k
        conv => whnf
        repeat' ((first
          | with_reducible refine ⟨fun h => h, ?_⟩
          | with_reducible refine ⟨pk1, ?_⟩
          | with_reducible refine ⟨pk2, ?_⟩
          | with_reducible refine ⟨pk3, ?_⟩
          | with_reducible refine ⟨pk4, ?_⟩
          | with_reducible refine ⟨pk5, ?_⟩
          | with_reducible refine ⟨pk6, ?_⟩
          | with_reducible refine ⟨trivial, ?_⟩
          | with_reducible refine ⟨fun _ => trivial, ?_⟩
          | with_reducible refine ⟨rfl, ?_⟩
          | with_reducible refine every_i (fun hd => ?_)
          | with_reducible refine everyN_i (fun k hk => ?_)
          | with_reducible refine everyD_i (fun d hd => ?_)
          | with_reducible refine fork_t (by assumption) ?_
          | with_reducible refine fork_f (by assumption) ?_
          | refine fork_t rfl ?_
          | refine fork_f rfl ?_
          | with_reducible refine fork_i (fun h => ?_) (fun h => ?_)
          | with_reducible refine both_i ?_ ?_
          | ((with_reducible refine alike_i ?_); exact ⟨rfl, rfl, rfl⟩)
          | ((with_reducible refine fin_i ?_); (conv => whnf); refine ⟨rfl, ?_⟩)
          | refine ⟨of_decide_eq_true rfl, ?_⟩
          | refine ⟨fun _ => of_decide_eq_true rfl, ?_⟩
          | ((with_reducible refine ⟨?_, ?_⟩); (focus (intros; simp_all; done)))
          | ((with_reducible refine ⟨?_, ?_⟩); (focus (intros; omega)))) <;> (try (conv => whnf)))
        · have hk' := lt_t h
          refine only [67, 66, 62, 10, 61, 6, 4, 3, 0] ?_
          (conv => whnf)
          refine looped (σ := Nat × Mx) (fun x => [(67, I x.1)]) (fun x => [.cells (.cons (I least) .nil), .mt true H tBB [some 4] 37 x.2]) (fun x => x.1 ≤ g.length ∧ x.2 = stI m' g.length k x.1) (fun x => g.length - x.1) (0, m') ⟨Nat.zero_le _, rfl⟩ ?_ ?_
          · conv => whnf
            refine ⟨rfl, leaf_i ?_⟩
            repeat' ((with_reducible refine And.intro ?_ ?_) <;> (try (conv => whnf)))
            all_goals (try (first | with_reducible rfl | exact True.intro | rfl | exact id | exact fun h => h | exact fun _ => rfl))
          · rintro ⟨ii, m2⟩ ⟨hii, hm2⟩
            dsimp only at hii hm2 ⊢
            have hsi : sqU g.length g.length m2 := by rw [hm2]; exact sqU_stI hsk k ii
            conv => whnf
            repeat' ((first
              | with_reducible refine ⟨fun h => h, ?_⟩
              | with_reducible refine ⟨pk1, ?_⟩
              | with_reducible refine ⟨pk2, ?_⟩
              | with_reducible refine ⟨pk3, ?_⟩
              | with_reducible refine ⟨pk4, ?_⟩
              | with_reducible refine ⟨pk5, ?_⟩
              | with_reducible refine ⟨pk6, ?_⟩
              | with_reducible refine ⟨trivial, ?_⟩
              | with_reducible refine ⟨fun _ => trivial, ?_⟩
              | with_reducible refine ⟨rfl, ?_⟩
              | with_reducible refine every_i (fun hd => ?_)
              | with_reducible refine everyN_i (fun k hk => ?_)
              | with_reducible refine everyD_i (fun d hd => ?_)
              | with_reducible refine fork_t (by assumption) ?_
              | with_reducible refine fork_f (by assumption) ?_
              | refine fork_t rfl ?_
              | refine fork_f rfl ?_
              | with_reducible refine fork_i (fun h => ?_) (fun h => ?_)
              | with_reducible refine both_i ?_ ?_
              | ((with_reducible refine alike_i ?_); exact ⟨rfl, rfl, rfl⟩)
              | ((with_reducible refine fin_i ?_); (conv => whnf); refine ⟨rfl, ?_⟩)
              | refine ⟨of_decide_eq_true rfl, ?_⟩
              | refine ⟨fun _ => of_decide_eq_true rfl, ?_⟩
              | ((with_reducible refine ⟨?_, ?_⟩); (focus (intros; simp_all; done)))
              | ((with_reducible refine ⟨?_, ?_⟩); (focus (intros; omega)))) <;> (try (conv => whnf)))
            · have hii' := lt_t h
              refine only [72, 71, 67, 66, 62, 11, 10, 61, 6, 4, 3, 0] ?_
              (conv => whnf)
              refine looped (σ := Nat × Mx) (fun x => [(72, I x.1)]) (fun x => [.cells (.cons (I least) .nil), .mt true H tBB [some 4] 37 x.2]) (fun x => x.1 ≤ g.length ∧ x.2 = stJ m2 k ii x.1) (fun x => g.length - x.1) (0, m2) ⟨Nat.zero_le _, rfl⟩ ?_ ?_
              · conv => whnf
                refine ⟨rfl, leaf_i ?_⟩
                repeat' ((with_reducible refine And.intro ?_ ?_) <;> (try (conv => whnf)))
                all_goals (try (first | with_reducible rfl | exact True.intro | rfl | exact id | exact fun h => h | exact fun _ => rfl))
              · rintro ⟨j, m3⟩ ⟨hj, hm3⟩
                dsimp only at hj hm3 ⊢
                have hsj : sqU g.length g.length m3 := by rw [hm3]; exact sqU_stJ hsi k ii j
                have q1 : decide ((j : Int) < (g.length : Int)) = true → 0 ≤ (j : Int) ∧ (j : Int) < ((rowM m3 ii).length : Int) := fun h => by rw [hsj.2 ii hii']; have := lt_t h; omega
                have q2 : decide ((j : Int) < (g.length : Int)) = true → 0 ≤ (j : Int) ∧ (j : Int) < ((rowM m3 k).length : Int) := fun h => by rw [hsj.2 k hk']; have := lt_t h; omega
                have q3 : 0 ≤ (k : Int) ∧ (k : Int) < ((rowM m3 ii).length : Int) := by rw [hsj.2 ii hii']; omega
                conv => whnf
                repeat' ((first
                  | with_reducible refine ⟨fun h => h, ?_⟩
                  | with_reducible refine ⟨pk1, ?_⟩
                  | with_reducible refine ⟨pk2, ?_⟩
                  | with_reducible refine ⟨pk3, ?_⟩
                  | with_reducible refine ⟨pk4, ?_⟩
                  | with_reducible refine ⟨pk5, ?_⟩
                  | with_reducible refine ⟨pk6, ?_⟩
                  | with_reducible refine ⟨trivial, ?_⟩
                  | with_reducible refine ⟨fun _ => trivial, ?_⟩
                  | with_reducible refine ⟨rfl, ?_⟩
                  | with_reducible refine every_i (fun hd => ?_)
                  | with_reducible refine everyN_i (fun k hk => ?_)
                  | with_reducible refine everyD_i (fun d hd => ?_)
                  | with_reducible refine fork_t (by assumption) ?_
                  | with_reducible refine fork_f (by assumption) ?_
                  | refine fork_t rfl ?_
                  | refine fork_f rfl ?_
                  | with_reducible refine fork_i (fun h => ?_) (fun h => ?_)
                  | with_reducible refine both_i ?_ ?_
                  | ((with_reducible refine alike_i ?_); exact ⟨rfl, rfl, rfl⟩)
                  | ((with_reducible refine fin_i ?_); (conv => whnf); refine ⟨rfl, ?_⟩)
                  | refine ⟨q1 (by assumption), ?_⟩
                  | refine ⟨fun _ => q1 (by assumption), ?_⟩
                  | refine ⟨fun _ => q2 (by assumption), ?_⟩
                  | refine ⟨fun _ => q3, ?_⟩
                  | refine ⟨of_decide_eq_true rfl, ?_⟩
                  | refine ⟨fun _ => of_decide_eq_true rfl, ?_⟩
                  | ((with_reducible refine ⟨?_, ?_⟩); (focus (intros; simp_all; done)))
                  | ((with_reducible refine ⟨?_, ?_⟩); (focus (intros; omega)))) <;> (try (conv => whnf)))
                · have hj' := lt_t h
                  refine next_i (j + 1, stJ m2 k ii (j + 1)) ⟨hj', rfl⟩ (by dsimp only; omega) rfl rfl ?_
                  conv => whnf
                  refine ⟨rfl, leaf_i ?_⟩
                  repeat' ((with_reducible refine And.intro ?_ ?_) <;> (try (conv => whnf)))
                  all_goals (try (first | with_reducible rfl | exact True.intro | rfl | exact id | exact fun h => h | exact fun _ => rfl))
                  all_goals (try (first | rfl | exact wrapS (by omega)))
                  all_goals (rw [hm3]; rfl)
                · refine next_i (ii + 1, m3) ⟨hii', by rw [hm3, show j = g.length from Nat.le_antisymm hj (lt_f h), hm2]; rfl⟩ (by dsimp only; omega) rfl rfl ?_
                  conv => whnf
                  refine ⟨rfl, leaf_i ?_⟩
                  repeat' ((with_reducible refine And.intro ?_ ?_) <;> (try (conv => whnf)))
                  all_goals (try (first | with_reducible rfl | exact True.intro | rfl | exact id | exact fun h => h | exact fun _ => rfl))
                  all_goals (try (first | rfl | exact wrapS (by omega)))
            · refine next_i (k + 1, m2) ⟨hk', by rw [hm2, show ii = g.length from Nat.le_antisymm hii (lt_f h), hm']; rfl⟩ (by dsimp only; omega) rfl rfl ?_
              conv => whnf
              refine ⟨rfl, leaf_i ?_⟩
              repeat' ((with_reducible refine And.intro ?_ ?_) <;> (try (conv => whnf)))
              all_goals (try (first | with_reducible rfl | exact True.intro | rfl | exact id | exact fun h => h | exact fun _ => rfl))
              all_goals (try (first | rfl | exact wrapS (by omega)))
        · have hk' := lt_f h
          all_goals ((with_reducible refine leaf_i ?_); (conv => whnf))
          repeat' ((with_reducible refine And.intro ?_ ?_) <;> (try (conv => whnf)))
          all_goals (try (first | with_reducible rfl | exact True.intro | rfl | exact id | exact fun h => h | exact fun _ => rfl))
          all_goals (rw [hm', show k = g.length from Nat.le_antisymm hk hk', hm]; rfl)
end Go.Proofs.Ytbgcgokikekmoaa

/- Layer 10: the least node that is stuck. -/
namespace Go.Proofs.Ytbgcgokikekmoaa
set_option maxRecDepth 100000
open Go Go.RowKit Go.Proofs.Ytbgcgokikekmoaa.Eng
theorem sq_ways {g : List Nd} {least : Int} : sqU g.length g.length (waysG g least) := sqU_stK (sqU_wA g.length (Nat.le_refl _)) g.length
theorem stuckG_eq (g : List Nd) : stuckG g = stW g 4 := rfl
theorem stW_s (g : List Nd) (k : Nat) : stW g (k + 1) = stL g k (stW g k) (stW g k) 0 := rfl
theorem stL_s (g : List Nd) (k a f i : Nat) : stL g k a (f + 1) i = if backI g k i = true then i else stL g k a f (i + 1) := rfl
theorem stL_0 (g : List Nd) (k a i : Nat) : stL g k a 0 i = a := rfl
theorem stW_0 (g : List Nd) : stW g 0 = g.length := rfl
theorem backI_eq (g : List Nd) (least i : Nat) : backI g least i = hasP (backB g least (waysG g least) i) (plN g.length) := rfl
attribute [local irreducible] stuckG stW stL backI waysG
def k_stuck : Sig := .arg (shR tN) fun g => .done { pre := few g, res := I (stuckG g : Nat) }
set_option maxHeartbeats 4000000 in
theorem c_stuck : FnOk Try.prog 31 k_stuck.con := by
  refine fnOkS mixed tys_ok (cs := [(45, k_ways.con), (47, k_places.con), (42, k_hstuck1.con)]) ⟨c_ways, c_places, c_hstuck1, trivial⟩ Try.func31 rfl (by kernel_rfl) Try.ntmps31 _ (h := ?_)
  intro g
  refine ⟨rfl, fun hp => ?_⟩
  have hp : few g := hp
  have hg := hp.1
  conv => whnf
  repeat' ((first
    | with_reducible refine ⟨fun h => h, ?_⟩
    | with_reducible refine ⟨pk1, ?_⟩
    | with_reducible refine ⟨pk2, ?_⟩
    | with_reducible refine ⟨pk3, ?_⟩
    | with_reducible refine ⟨pk4, ?_⟩
    | with_reducible refine ⟨pk5, ?_⟩
    | with_reducible refine ⟨pk6, ?_⟩
    | with_reducible refine ⟨trivial, ?_⟩
    | with_reducible refine ⟨fun _ => trivial, ?_⟩
    | with_reducible refine ⟨rfl, ?_⟩
    | with_reducible refine every_i (fun hd => ?_)
    | with_reducible refine everyN_i (fun k hk => ?_)
    | with_reducible refine everyD_i (fun d hd => ?_)
    | with_reducible refine fork_t (by assumption) ?_
    | with_reducible refine fork_f (by assumption) ?_
    | refine fork_t rfl ?_
    | refine fork_f rfl ?_
    | with_reducible refine fork_i (fun h => ?_) (fun h => ?_)
    | with_reducible refine both_i ?_ ?_
    | ((with_reducible refine alike_i ?_); exact ⟨rfl, rfl, rfl⟩)
    | ((with_reducible refine fin_i ?_); (conv => whnf); refine ⟨rfl, ?_⟩)
    | refine ⟨of_decide_eq_true rfl, ?_⟩
    | refine ⟨fun _ => of_decide_eq_true rfl, ?_⟩
    | ((with_reducible refine ⟨?_, ?_⟩); (focus (intros; simp_all; done)))
    | ((with_reducible refine ⟨?_, ?_⟩); (focus (intros; omega)))) <;> (try (conv => whnf)))
  refine looped (σ := Nat × Nat) (fun x => [(10, I x.1), (3, I x.2)]) (fun x => [.cells (.cons (.rl false tN g) .nil)]) (fun x => x.1 ≤ 4 ∧ x.2 = stW g x.1) (fun x => 4 - x.1) (0, g.length) ⟨Nat.zero_le _, (stW_0 g).symm⟩ ?_ ?_
  · conv => whnf
    refine ⟨rfl, leaf_i ?_⟩
    repeat' ((with_reducible refine And.intro ?_ ?_) <;> (try (conv => whnf)))
    all_goals (try (first | with_reducible rfl | exact True.intro | rfl | exact id | exact fun h => h | exact fun _ => rfl))
  · rintro ⟨k, at_⟩ ⟨hk, ha⟩
    dsimp only at hk ha ⊢
    have hal : at_ ≤ g.length := by rw [ha]; exact stW_le k
    conv => whnf
    repeat' ((first
      | with_reducible refine ⟨fun h => h, ?_⟩
      | with_reducible refine ⟨pk1, ?_⟩
      | with_reducible refine ⟨pk2, ?_⟩
      | with_reducible refine ⟨pk3, ?_⟩
      | with_reducible refine ⟨pk4, ?_⟩
      | with_reducible refine ⟨pk5, ?_⟩
      | with_reducible refine ⟨pk6, ?_⟩
      | with_reducible refine ⟨trivial, ?_⟩
      | with_reducible refine ⟨fun _ => trivial, ?_⟩
      | with_reducible refine ⟨rfl, ?_⟩
      | with_reducible refine every_i (fun hd => ?_)
      | with_reducible refine everyN_i (fun k hk => ?_)
      | with_reducible refine everyD_i (fun d hd => ?_)
      | with_reducible refine fork_t (by assumption) ?_
      | with_reducible refine fork_f (by assumption) ?_
      | refine fork_t rfl ?_
      | refine fork_f rfl ?_
      | with_reducible refine fork_i (fun h => ?_) (fun h => ?_)
      | with_reducible refine both_i ?_ ?_
      | ((with_reducible refine alike_i ?_); exact ⟨rfl, rfl, rfl⟩)
      | ((with_reducible refine fin_i ?_); (conv => whnf); refine ⟨rfl, ?_⟩)
      | refine ⟨hp, ?_⟩
      | refine ⟨of_decide_eq_true rfl, ?_⟩
      | refine ⟨fun _ => of_decide_eq_true rfl, ?_⟩
      | ((with_reducible refine ⟨?_, ?_⟩); (focus (intros; simp_all; done)))
      | ((with_reducible refine ⟨?_, ?_⟩); (focus (intros; omega)))) <;> (try (conv => whnf)))
    · have hk' : k < 4 := by have := of_decide_eq_true h; omega
      have hs := sq_ways (g := g) (least := k)
      refine looped (σ := Nat) (fun i => [(17, I i), (3, I at_)]) (fun x => [.cells (.cons (.rl false tN g) .nil), .cells (.cons (I k) .nil), .cells (.cons (.rl true tBB (waysG g k)) .nil)]) (fun i => i ≤ at_ ∧ stL g k at_ (at_ - i) i = stL g k at_ at_ 0) (fun i => at_ - i) 0 ⟨Nat.zero_le _, rfl⟩ ?_ ?_
      · conv => whnf
        refine ⟨rfl, leaf_i ?_⟩
        repeat' ((with_reducible refine And.intro ?_ ?_) <;> (try (conv => whnf)))
        all_goals (try (first | with_reducible rfl | exact True.intro | rfl | exact id | exact fun h => h | exact fun _ => rfl))
      · rintro i ⟨hi, hst⟩
        dsimp only at hi hst ⊢
        have hpl : g.length < 1000000000 := by omega
        have hbk : decide ((i : Int) < (at_ : Int)) = true → (plN g.length).length < 4611686018427387904 ∧ ∀ x ∈ plN g.length, backP g (waysG g k) i x.1 := fun h => by
          have hi' := lt_t h
          refine ⟨by rw [plN_len]; omega, fun x hx => ?_⟩
          obtain ⟨j, hj, e⟩ := plN_mem hx
          have r1 := hs.2 i (by omega)
          have r2 := hs.2 j hj
          unfold rowM at r1 r2
          rw [e]
          refine ⟨by omega, by omega, ⟨by omega, by rw [hs.1]; omega⟩, ⟨by omega, ?_⟩, ⟨by omega, by rw [hs.1]; omega⟩, ⟨by omega, ?_⟩, trivial⟩
          · rw [show ((i : Nat) : Int).toNat = i from rfl, r1]; omega
          · rw [show ((j : Nat) : Int).toNat = j from rfl, r2]; omega
        conv => whnf
        repeat' ((first
          | with_reducible refine ⟨fun h => h, ?_⟩
          | with_reducible refine ⟨pk1, ?_⟩
          | with_reducible refine ⟨pk2, ?_⟩
          | with_reducible refine ⟨pk3, ?_⟩
          | with_reducible refine ⟨pk4, ?_⟩
          | with_reducible refine ⟨pk5, ?_⟩
          | with_reducible refine ⟨pk6, ?_⟩
          | with_reducible refine ⟨trivial, ?_⟩
          | with_reducible refine ⟨fun _ => trivial, ?_⟩
          | with_reducible refine ⟨rfl, ?_⟩
          | with_reducible refine every_i (fun hd => ?_)
          | with_reducible refine everyN_i (fun k hk => ?_)
          | with_reducible refine everyD_i (fun d hd => ?_)
          | with_reducible refine fork_t (by assumption) ?_
          | with_reducible refine fork_f (by assumption) ?_
          | refine fork_t rfl ?_
          | refine fork_f rfl ?_
          | with_reducible refine fork_i (fun h => ?_) (fun h => ?_)
          | with_reducible refine both_i ?_ ?_
          | ((with_reducible refine alike_i ?_); exact ⟨rfl, rfl, rfl⟩)
          | ((with_reducible refine fin_i ?_); (conv => whnf); refine ⟨rfl, ?_⟩)
          | refine ⟨hpl, ?_⟩
          | refine ⟨hbk (by assumption), ?_⟩
          | refine ⟨of_decide_eq_true rfl, ?_⟩
          | refine ⟨fun _ => of_decide_eq_true rfl, ?_⟩
          | ((with_reducible refine ⟨?_, ?_⟩); (focus (intros; simp_all; done)))
          | ((with_reducible refine ⟨?_, ?_⟩); (focus (intros; omega)))) <;> (try (conv => whnf)))
        · have hi' : i < at_ := lt_t (by assumption)
          have hb : backI g k i = true := by rw [backI_eq]; exact h
          have hst2 : stL g k at_ (at_ - i) i = i := by
            rw [show at_ - i = (at_ - i - 1) + 1 by omega, stL_s, if_pos hb]
          refine next_i (k + 1, i) ⟨hk', by show i = stW g (k + 1); rw [stW_s, ← ha, ← hst, hst2]⟩ (by dsimp only; omega) rfl rfl ?_
          conv => whnf
          refine ⟨rfl, leaf_i ?_⟩
          repeat' ((with_reducible refine And.intro ?_ ?_) <;> (try (conv => whnf)))
          all_goals (try (first | with_reducible rfl | exact True.intro | rfl | exact id | exact fun h => h | exact fun _ => rfl))
          all_goals (try (first | rfl | exact wrapS (by omega)))
        · have hi' : i < at_ := lt_t (by assumption)
          have hb : ¬ backI g k i = true := fun hh => by rw [backI_eq] at hh; exact Bool.noConfusion (h.symm.trans hh)
          have hst2 : stL g k at_ (at_ - i) i = stL g k at_ (at_ - (i + 1)) (i + 1) := by
            rw [show at_ - i = (at_ - (i + 1)) + 1 by omega, stL_s, if_neg hb]
          refine next_i (i + 1) ⟨hi', by rw [← hst2, hst]⟩ (by omega) rfl rfl ?_
          conv => whnf
          refine ⟨rfl, leaf_i ?_⟩
          repeat' ((with_reducible refine And.intro ?_ ?_) <;> (try (conv => whnf)))
          all_goals (try (first | with_reducible rfl | exact True.intro | rfl | exact id | exact fun h => h | exact fun _ => rfl))
          all_goals (try (first | rfl | exact wrapS (by omega)))
        · have hi' := lt_f h
          rw [show at_ - i = 0 by omega] at hst
          refine next_i (k + 1, at_) ⟨hk', by show at_ = stW g (k + 1); rw [stW_s, ← ha, ← hst, stL_0]⟩ (by dsimp only; omega) rfl rfl ?_
          conv => whnf
          refine ⟨rfl, leaf_i ?_⟩
          repeat' ((with_reducible refine And.intro ?_ ?_) <;> (try (conv => whnf)))
          all_goals (try (first | with_reducible rfl | exact True.intro | rfl | exact id | exact fun h => h | exact fun _ => rfl))
          all_goals (try (first | rfl | exact wrapS (by omega)))
    · have hk' : k = 4 := by have := of_decide_eq_false h; omega
      subst hk'
      all_goals ((with_reducible refine leaf_i ?_); (conv => whnf))
      repeat' ((with_reducible refine And.intro ?_ ?_) <;> (try (conv => whnf)))
      all_goals (try (first | with_reducible rfl | exact True.intro | rfl | exact id | exact fun h => h | exact fun _ => rfl))
      all_goals (first | (rw [ha, stuckG_eq]; done) | trace_state)
end Go.Proofs.Ytbgcgokikekmoaa

/- Layer 9's functions: may a node be written? -/
namespace Go.Proofs.Ytbgcgokikekmoaa
open Go Go.RowKit Go.Proofs.Ytbgcgokikekmoaa.Eng
def k_wrong : Sig := .arg shI fun i => .done { pre := True, res := B (wrongI i) }
set_option maxHeartbeats 4000000 in
theorem c_wrong : FnOk Try.prog 53 k_wrong.con := by
  refine fnOkS mixed tys_ok (cs := []) trivial Try.func53 rfl (by kernel_rfl) Try.ntmps53 _ (h := ?_)
  intro i
  refine ⟨rfl, fun _ => ?_⟩
  conv => whnf
  repeat' ((first
    | with_reducible refine ⟨fun h => h, ?_⟩
    | with_reducible refine ⟨pk1, ?_⟩
    | with_reducible refine ⟨pk2, ?_⟩
    | with_reducible refine ⟨pk3, ?_⟩
    | with_reducible refine ⟨pk4, ?_⟩
    | with_reducible refine ⟨pk5, ?_⟩
    | with_reducible refine ⟨pk6, ?_⟩
    | with_reducible refine ⟨trivial, ?_⟩
    | with_reducible refine ⟨fun _ => trivial, ?_⟩
    | with_reducible refine ⟨rfl, ?_⟩
    | with_reducible refine every_i (fun hd => ?_)
    | with_reducible refine everyN_i (fun k hk => ?_)
    | with_reducible refine everyD_i (fun d hd => ?_)
    | with_reducible refine fork_t (by assumption) ?_
    | with_reducible refine fork_f (by assumption) ?_
    | refine fork_t rfl ?_
    | refine fork_f rfl ?_
    | with_reducible refine fork_i (fun h => ?_) (fun h => ?_)
    | with_reducible refine both_i ?_ ?_
    | ((with_reducible refine alike_i ?_); exact ⟨rfl, rfl, rfl⟩)
    | ((with_reducible refine fin_i ?_); (conv => whnf); refine ⟨rfl, ?_⟩)
    | refine ⟨of_decide_eq_true rfl, ?_⟩
    | refine ⟨fun _ => of_decide_eq_true rfl, ?_⟩
    | ((with_reducible refine ⟨?_, ?_⟩); (focus (intros; simp_all; done)))
    | ((with_reducible refine ⟨?_, ?_⟩); (focus (intros; omega)))) <;> (try (conv => whnf)))
  all_goals ((with_reducible refine leaf_i ?_); (conv => whnf))
  repeat' ((with_reducible refine And.intro ?_ ?_) <;> (try (conv => whnf)))
  all_goals (try (first | with_reducible rfl | exact True.intro | rfl | exact id | exact fun h => h | exact fun _ => rfl))
  all_goals (unfold wrongI; cases decide (i < 0) <;> rfl)
def k_idxW : Sig := .arg (shR tI) fun l => .arg (shF 53) fun _ => .done { pre := l.length < 4611686018427387904, res := I (idxW 0 l) }
set_option maxHeartbeats 4000000 in
theorem c_idxW : FnOk Try.prog 52 k_idxW.con := by
  refine fnOkS mixed tys_ok (cs := [(53, k_wrong.con)]) ⟨c_wrong, trivial⟩ Try.func52 rfl (by kernel_rfl) Try.ntmps52 _ (h := ?_)
  intro g _
  refine ⟨rfl, fun hp => ?_⟩
  conv => whnf
  repeat' ((first
    | with_reducible refine ⟨fun h => h, ?_⟩
    | with_reducible refine ⟨pk1, ?_⟩
    | with_reducible refine ⟨pk2, ?_⟩
    | with_reducible refine ⟨pk3, ?_⟩
    | with_reducible refine ⟨pk4, ?_⟩
    | with_reducible refine ⟨pk5, ?_⟩
    | with_reducible refine ⟨pk6, ?_⟩
    | with_reducible refine ⟨trivial, ?_⟩
    | with_reducible refine ⟨fun _ => trivial, ?_⟩
    | with_reducible refine ⟨rfl, ?_⟩
    | with_reducible refine every_i (fun hd => ?_)
    | with_reducible refine everyN_i (fun k hk => ?_)
    | with_reducible refine everyD_i (fun d hd => ?_)
    | with_reducible refine fork_t (by assumption) ?_
    | with_reducible refine fork_f (by assumption) ?_
    | refine fork_t rfl ?_
    | refine fork_f rfl ?_
    | with_reducible refine fork_i (fun h => ?_) (fun h => ?_)
    | with_reducible refine both_i ?_ ?_
    | ((with_reducible refine alike_i ?_); exact ⟨rfl, rfl, rfl⟩)
    | ((with_reducible refine fin_i ?_); (conv => whnf); refine ⟨rfl, ?_⟩)
    | refine ⟨of_decide_eq_true rfl, ?_⟩
    | refine ⟨fun _ => of_decide_eq_true rfl, ?_⟩
    | ((with_reducible refine ⟨?_, ?_⟩); (focus (intros; simp_all; done)))
    | ((with_reducible refine ⟨?_, ?_⟩); (focus (intros; omega)))) <;> (try (conv => whnf)))
  refine looped (σ := Nat) (fun j => [(8, I j)]) (fun _ => []) (fun j => j ≤ g.length ∧ idxW j (g.drop j) = idxW 0 g) (fun j => g.length - j) 0 ⟨Nat.zero_le _, rfl⟩ ?_ ?_
  · conv => whnf
    refine ⟨rfl, leaf_i ?_⟩
    repeat' ((with_reducible refine And.intro ?_ ?_) <;> (try (conv => whnf)))
    all_goals (try (first | with_reducible rfl | exact True.intro | rfl | exact id | exact fun h => h | exact fun _ => rfl))
  · rintro j ⟨hj, hl⟩
    conv => whnf
    repeat' ((first
      | with_reducible refine ⟨fun h => h, ?_⟩
      | with_reducible refine ⟨pk1, ?_⟩
      | with_reducible refine ⟨pk2, ?_⟩
      | with_reducible refine ⟨pk3, ?_⟩
      | with_reducible refine ⟨pk4, ?_⟩
      | with_reducible refine ⟨pk5, ?_⟩
      | with_reducible refine ⟨pk6, ?_⟩
      | with_reducible refine ⟨trivial, ?_⟩
      | with_reducible refine ⟨fun _ => trivial, ?_⟩
      | with_reducible refine ⟨rfl, ?_⟩
      | with_reducible refine every_i (fun hd => ?_)
      | with_reducible refine everyN_i (fun k hk => ?_)
      | with_reducible refine everyD_i (fun d hd => ?_)
      | with_reducible refine fork_t (by assumption) ?_
      | with_reducible refine fork_f (by assumption) ?_
      | refine fork_t rfl ?_
      | refine fork_f rfl ?_
      | with_reducible refine fork_i (fun h => ?_) (fun h => ?_)
      | with_reducible refine both_i ?_ ?_
      | ((with_reducible refine alike_i ?_); exact ⟨rfl, rfl, rfl⟩)
      | ((with_reducible refine fin_i ?_); (conv => whnf); refine ⟨rfl, ?_⟩)
      | refine ⟨of_decide_eq_true rfl, ?_⟩
      | refine ⟨fun _ => of_decide_eq_true rfl, ?_⟩
      | ((with_reducible refine ⟨?_, ?_⟩); (focus (intros; simp_all; done)))
      | ((with_reducible refine ⟨?_, ?_⟩); (focus (intros; omega)))) <;> (try (conv => whnf)))
    · rename_i hj'
      have hj' := lt_t hj'
      have h : wrongI (getE tI g j).1 = true := h
      rw [drop_get _ hj', idxW, if_pos h] at hl
      all_goals ((with_reducible refine leaf_i ?_); (conv => whnf))
      repeat' ((with_reducible refine And.intro ?_ ?_) <;> (try (conv => whnf)))
      all_goals (try (first | with_reducible rfl | exact True.intro | rfl | exact id | exact fun h => h | exact fun _ => rfl))
      all_goals exact hl
    · rename_i hj'
      have hj' := lt_t hj'
      have h' : ¬ wrongI (getE tI g j).1 = true := fun hh => Bool.noConfusion (h.symm.trans hh)
      rw [drop_get _ hj', idxW, if_neg h'] at hl
      refine next_i (j + 1) ⟨hj', hl⟩ (by omega) rfl rfl ?_
      conv => whnf
      refine ⟨rfl, leaf_i ?_⟩
      repeat' ((with_reducible refine And.intro ?_ ?_) <;> (try (conv => whnf)))
      all_goals (try (first | with_reducible rfl | exact True.intro | rfl | exact id | exact fun h => h | exact fun _ => rfl))
      all_goals exact wrapS (Nat.lt_trans hj' hp)
    · have hj' := lt_f h
      rw [List.drop_eq_nil_of_le hj', idxW] at hl
      all_goals ((with_reducible refine leaf_i ?_); (conv => whnf))
      repeat' ((with_reducible refine And.intro ?_ ?_) <;> (try (conv => whnf)))
      all_goals (try (first | with_reducible rfl | exact True.intro | rfl | exact id | exact fun h => h | exact fun _ => rfl))
      all_goals exact hl
def k_hasW : Sig := .arg (shR tI) fun l => .arg (shF 53) fun _ => .done { pre := l.length < 4611686018427387904, res := B (hasW l) }
set_option maxHeartbeats 4000000 in
theorem c_hasW : FnOk Try.prog 42 k_hasW.con := by
  refine fnOkS mixed tys_ok (cs := [(52, k_idxW.con)]) ⟨c_idxW, trivial⟩ Try.func42 rfl (by kernel_rfl) Try.ntmps42 _ (h := ?_)
  intro g _
  refine ⟨rfl, fun hp => ?_⟩
  conv => whnf
  repeat' ((first
    | with_reducible refine ⟨fun h => h, ?_⟩
    | with_reducible refine ⟨pk1, ?_⟩
    | with_reducible refine ⟨pk2, ?_⟩
    | with_reducible refine ⟨pk3, ?_⟩
    | with_reducible refine ⟨pk4, ?_⟩
    | with_reducible refine ⟨pk5, ?_⟩
    | with_reducible refine ⟨pk6, ?_⟩
    | with_reducible refine ⟨trivial, ?_⟩
    | with_reducible refine ⟨fun _ => trivial, ?_⟩
    | with_reducible refine ⟨rfl, ?_⟩
    | with_reducible refine every_i (fun hd => ?_)
    | with_reducible refine everyN_i (fun k hk => ?_)
    | with_reducible refine everyD_i (fun d hd => ?_)
    | with_reducible refine fork_t (by assumption) ?_
    | with_reducible refine fork_f (by assumption) ?_
    | refine fork_t rfl ?_
    | refine fork_f rfl ?_
    | with_reducible refine fork_i (fun h => ?_) (fun h => ?_)
    | with_reducible refine both_i ?_ ?_
    | ((with_reducible refine alike_i ?_); exact ⟨rfl, rfl, rfl⟩)
    | ((with_reducible refine fin_i ?_); (conv => whnf); refine ⟨rfl, ?_⟩)
    | refine ⟨of_decide_eq_true rfl, ?_⟩
    | refine ⟨fun _ => of_decide_eq_true rfl, ?_⟩
    | ((with_reducible refine ⟨?_, ?_⟩); (focus (intros; simp_all; done)))
    | ((with_reducible refine ⟨?_, ?_⟩); (focus (intros; omega)))) <;> (try (conv => whnf)))
  all_goals ((with_reducible refine leaf_i ?_); (conv => whnf))
  repeat' ((with_reducible refine And.intro ?_ ?_) <;> (try (conv => whnf)))
  all_goals (try (first | with_reducible rfl | exact True.intro | rfl | exact id | exact fun h => h | exact fun _ => rfl))
def k_may : Sig := .arg (shT tN) fun n => .done { pre := n.2.2.2.2.1.length < 4611686018427387904, res := B (mayN n) }
set_option maxHeartbeats 4000000 in
theorem c_may : FnOk Try.prog 44 k_may.con := by
  refine fnOkS mixed tys_ok (cs := [(42, k_hasW.con)]) ⟨c_hasW, trivial⟩ Try.func44 rfl (by kernel_rfl) Try.ntmps44 _ (h := ?_)
  intro n
  refine ⟨rfl, fun hp => ?_⟩
  conv => whnf
  repeat' ((first
    | with_reducible refine ⟨fun h => h, ?_⟩
    | with_reducible refine ⟨pk1, ?_⟩
    | with_reducible refine ⟨pk2, ?_⟩
    | with_reducible refine ⟨pk3, ?_⟩
    | with_reducible refine ⟨pk4, ?_⟩
    | with_reducible refine ⟨pk5, ?_⟩
    | with_reducible refine ⟨pk6, ?_⟩
    | with_reducible refine ⟨trivial, ?_⟩
    | with_reducible refine ⟨fun _ => trivial, ?_⟩
    | with_reducible refine ⟨rfl, ?_⟩
    | with_reducible refine every_i (fun hd => ?_)
    | with_reducible refine everyN_i (fun k hk => ?_)
    | with_reducible refine everyD_i (fun d hd => ?_)
    | with_reducible refine fork_t (by assumption) ?_
    | with_reducible refine fork_f (by assumption) ?_
    | refine fork_t rfl ?_
    | refine fork_f rfl ?_
    | with_reducible refine fork_i (fun h => ?_) (fun h => ?_)
    | with_reducible refine both_i ?_ ?_
    | ((with_reducible refine alike_i ?_); exact ⟨rfl, rfl, rfl⟩)
    | ((with_reducible refine fin_i ?_); (conv => whnf); refine ⟨rfl, ?_⟩)
    | refine ⟨of_decide_eq_true rfl, ?_⟩
    | refine ⟨fun _ => of_decide_eq_true rfl, ?_⟩
    | ((with_reducible refine ⟨?_, ?_⟩); (focus (intros; simp_all; done)))
    | ((with_reducible refine ⟨?_, ?_⟩); (focus (intros; omega)))) <;> (try (conv => whnf)))
  all_goals ((with_reducible refine leaf_i ?_); (conv => whnf))
  repeat' ((with_reducible refine And.intro ?_ ?_) <;> (try (conv => whnf)))
  all_goals (try (first | with_reducible rfl | exact True.intro | rfl | exact id | exact fun h => h | exact fun _ => rfl))
  all_goals (simp only [Bool.cond_false_right, Bool.cond_true_left, mayN, Nd.dep, Nd.ins]; rfl)
end Go.Proofs.Ytbgcgokikekmoaa

/- Layer 9's functions: a graph's bytes. -/
namespace Go.Proofs.Ytbgcgokikekmoaa
open Go Go.RowKit Go.Proofs.Ytbgcgokikekmoaa.Eng
def k_put : Sig := .arg (shR tN) fun g => .done { pre := g.length < 4611686018427387904 ∧ ∀ x : Nd, x ∈ g → (Nd.ins x).length < 4611686018427387904, res := .tup (.cons (.rl true tU (putG g).1) (.cons (I (putG g).2) .nil)) }
set_option maxRecDepth 100000 in
set_option maxHeartbeats 4000000 in
theorem c_put : FnOk Try.prog 30 k_put.con := by
  refine fnOkS mixed tys_ok (cs := [(44, k_may.con)]) ⟨c_may, trivial⟩ Try.func30 rfl (by kernel_rfl) Try.ntmps30 _ (h := ?_)
  intro g
  refine ⟨rfl, fun hp => ?_⟩
  obtain ⟨hp1, hp2⟩ := hp
  conv => whnf
  repeat' ((first
    | with_reducible refine ⟨fun h => h, ?_⟩
    | with_reducible refine ⟨pk1, ?_⟩
    | with_reducible refine ⟨pk2, ?_⟩
    | with_reducible refine ⟨pk3, ?_⟩
    | with_reducible refine ⟨pk4, ?_⟩
    | with_reducible refine ⟨pk5, ?_⟩
    | with_reducible refine ⟨pk6, ?_⟩
    | with_reducible refine ⟨trivial, ?_⟩
    | with_reducible refine ⟨fun _ => trivial, ?_⟩
    | with_reducible refine ⟨rfl, ?_⟩
    | with_reducible refine every_i (fun hd => ?_)
    | with_reducible refine everyN_i (fun k hk => ?_)
    | with_reducible refine everyD_i (fun d hd => ?_)
    | with_reducible refine fork_t (by assumption) ?_
    | with_reducible refine fork_f (by assumption) ?_
    | refine fork_t rfl ?_
    | refine fork_f rfl ?_
    | with_reducible refine fork_i (fun h => ?_) (fun h => ?_)
    | with_reducible refine both_i ?_ ?_
    | ((with_reducible refine alike_i ?_); exact ⟨rfl, rfl, rfl⟩)
    | ((with_reducible refine fin_i ?_); (conv => whnf); refine ⟨rfl, ?_⟩)
    | refine ⟨of_decide_eq_true rfl, ?_⟩
    | refine ⟨fun _ => of_decide_eq_true rfl, ?_⟩
    | ((with_reducible refine ⟨?_, ?_⟩); (focus (intros; simp_all; done)))
    | ((with_reducible refine ⟨?_, ?_⟩); (focus (intros; omega)))) <;> (try (conv => whnf)))
  · have hg : g.length < 1 ∨ 32 < g.length := by
      rw [Bool.cond_true_left, Bool.or_eq_true] at h
      rcases h with h | h <;> have := of_decide_eq_true h <;> omega
    all_goals ((with_reducible refine leaf_i ?_); (conv => whnf))
    repeat' ((with_reducible refine And.intro ?_ ?_) <;> (try (conv => whnf)))
    all_goals (try (first | with_reducible rfl | exact True.intro | rfl | exact id | exact fun h => h | exact fun _ => rfl))
    all_goals (unfold putG; rw [if_pos hg])
  · have hg : ¬ (g.length < 1 ∨ 32 < g.length) := by
      rw [Bool.cond_true_left, Bool.or_eq_false_iff] at h
      have h1 := of_decide_eq_false h.1
      have h2 := of_decide_eq_false h.2
      omega
    refine kept [] ?_
    (conv => whnf)
    refine looped (σ := Nat × List (El tU)) (fun x => [(24, I x.1), (4, .ow 0 1 x.2.length)]) (fun x => [.row true tU 5 x.2]) (fun x => x.1 ≤ g.length ∧ x.2.length ≤ 1 + 14 * x.1 ∧ (putF (g.drop x.1)).map (x.2 ++ ·) = (putF g).map (u8 g.length :: ·)) (fun x => g.length - x.1) (0, [u8 g.length]) ⟨Nat.zero_le _, Nat.le_refl _, rfl⟩ ?_ ?_
    · conv => whnf
      refine ⟨rfl, leaf_i ?_⟩
      repeat' ((with_reducible refine And.intro ?_ ?_) <;> (try (conv => whnf)))
      all_goals (try (first | with_reducible rfl | exact True.intro | rfl | exact id | exact fun h => h | exact fun _ => rfl))
    · rintro ⟨j, l⟩ ⟨hj, hs, hl⟩
      dsimp only at hj hs hl
      conv => whnf
      repeat' ((first
        | with_reducible refine ⟨fun h => h, ?_⟩
        | with_reducible refine ⟨pk1, ?_⟩
        | with_reducible refine ⟨pk2, ?_⟩
        | with_reducible refine ⟨pk3, ?_⟩
        | with_reducible refine ⟨pk4, ?_⟩
        | with_reducible refine ⟨pk5, ?_⟩
        | with_reducible refine ⟨pk6, ?_⟩
        | with_reducible refine ⟨trivial, ?_⟩
        | with_reducible refine ⟨fun _ => trivial, ?_⟩
        | with_reducible refine ⟨rfl, ?_⟩
        | with_reducible refine every_i (fun hd => ?_)
        | with_reducible refine everyN_i (fun k hk => ?_)
        | with_reducible refine everyD_i (fun d hd => ?_)
        | with_reducible refine fork_t (by assumption) ?_
        | with_reducible refine fork_f (by assumption) ?_
        | refine fork_t rfl ?_
        | refine fork_f rfl ?_
        | with_reducible refine fork_i (fun h => ?_) (fun h => ?_)
        | with_reducible refine both_i ?_ ?_
        | ((with_reducible refine alike_i ?_); exact ⟨rfl, rfl, rfl⟩)
        | ((with_reducible refine fin_i ?_); (conv => whnf); refine ⟨rfl, ?_⟩)
        | refine ⟨of_decide_eq_true rfl, ?_⟩
        | refine ⟨fun _ => of_decide_eq_true rfl, ?_⟩
        | ((with_reducible refine ⟨?_, ?_⟩); (focus (intros; simp_all; done)))
        | ((with_reducible refine ⟨?_, ?_⟩); (focus (intros; omega)))) <;> (try (conv => whnf)))
      · have hj' := lt_t h
        have hm := getE_mem g hj'
        have hn := hp2 _ hm
        rw [drop_get g hj', putF] at hl
        refine ⟨hn, ?_⟩
        (conv => whnf)
        conv => whnf
        repeat' ((first
          | with_reducible refine ⟨fun h => h, ?_⟩
          | with_reducible refine ⟨pk1, ?_⟩
          | with_reducible refine ⟨pk2, ?_⟩
          | with_reducible refine ⟨pk3, ?_⟩
          | with_reducible refine ⟨pk4, ?_⟩
          | with_reducible refine ⟨pk5, ?_⟩
          | with_reducible refine ⟨pk6, ?_⟩
          | with_reducible refine ⟨trivial, ?_⟩
          | with_reducible refine ⟨fun _ => trivial, ?_⟩
          | with_reducible refine ⟨rfl, ?_⟩
          | with_reducible refine every_i (fun hd => ?_)
          | with_reducible refine everyN_i (fun k hk => ?_)
          | with_reducible refine everyD_i (fun d hd => ?_)
          | with_reducible refine fork_t (by assumption) ?_
          | with_reducible refine fork_f (by assumption) ?_
          | refine fork_t rfl ?_
          | refine fork_f rfl ?_
          | with_reducible refine fork_i (fun h => ?_) (fun h => ?_)
          | with_reducible refine both_i ?_ ?_
          | ((with_reducible refine alike_i ?_); exact ⟨rfl, rfl, rfl⟩)
          | ((with_reducible refine fin_i ?_); (conv => whnf); refine ⟨rfl, ?_⟩)
          | ((with_reducible refine ⟨?_, ?_⟩); (focus (simp only [List.length_append, List.length_cons, List.length_nil]; omega)))
          | refine ⟨of_decide_eq_true rfl, ?_⟩
          | refine ⟨fun _ => of_decide_eq_true rfl, ?_⟩
          | ((with_reducible refine ⟨?_, ?_⟩); (focus (intros; simp_all; done)))
          | ((with_reducible refine ⟨?_, ?_⟩); (focus (intros; omega)))) <;> (try (conv => whnf)))
        · have hy : ¬ mayN (getE tN g j) = true := by
            have h : (!mayN (getE tN g j)) = true := h
            simpa using h
          rw [if_neg hy] at hl
          have hq : putF g = none := by
            cases hf : putF g with
            | none => rfl
            | some y => rw [hf] at hl; cases hl
          all_goals ((with_reducible refine leaf_i ?_); (conv => whnf))
          repeat' ((with_reducible refine And.intro ?_ ?_) <;> (try (conv => whnf)))
          all_goals (try (first | with_reducible rfl | exact True.intro | rfl | exact id | exact fun h => h | exact fun _ => rfl))
          all_goals (unfold putG; rw [if_neg hg, hq])
        · have hy : mayN (getE tN g j) = true := by
            have h : (!mayN (getE tN g j)) = false := h
            simpa using h
          rw [if_pos hy] at hl
          refine unroll 9 ?_
          (conv => whnf)
          conv => whnf
          repeat' ((first
            | with_reducible refine ⟨fun h => h, ?_⟩
            | with_reducible refine ⟨pk1, ?_⟩
            | with_reducible refine ⟨pk2, ?_⟩
            | with_reducible refine ⟨pk3, ?_⟩
            | with_reducible refine ⟨pk4, ?_⟩
            | with_reducible refine ⟨pk5, ?_⟩
            | with_reducible refine ⟨pk6, ?_⟩
            | with_reducible refine ⟨trivial, ?_⟩
            | with_reducible refine ⟨fun _ => trivial, ?_⟩
            | with_reducible refine ⟨rfl, ?_⟩
            | with_reducible refine every_i (fun hd => ?_)
            | with_reducible refine everyN_i (fun k hk => ?_)
            | with_reducible refine everyD_i (fun d hd => ?_)
            | with_reducible refine fork_t (by assumption) ?_
            | with_reducible refine fork_f (by assumption) ?_
            | refine fork_t rfl ?_
            | refine fork_f rfl ?_
            | with_reducible refine fork_i (fun h => ?_) (fun h => ?_)
            | with_reducible refine both_i ?_ ?_
            | ((with_reducible refine alike_i ?_); exact ⟨rfl, rfl, rfl⟩)
            | ((with_reducible refine fin_i ?_); (conv => whnf); refine ⟨rfl, ?_⟩)
            | ((with_reducible refine ⟨?_, ?_⟩); (focus (simp only [List.length_append, List.length_cons, List.length_nil]; omega)))
            | refine ⟨of_decide_eq_true rfl, ?_⟩
            | refine ⟨fun _ => of_decide_eq_true rfl, ?_⟩
            | ((with_reducible refine ⟨?_, ?_⟩); (focus (intros; simp_all; done)))
            | ((with_reducible refine ⟨?_, ?_⟩); (focus (intros; omega)))) <;> (try (conv => whnf)))
          refine kept [6] ?_
          (conv => whnf)
          refine looped (σ := Nat × List (El tU)) (fun x => [(63, I x.1), (4, .ow 0 1 x.2.length)]) (fun x => [.row true tU 5 x.2, .cells (ndC false (getE tN g j))]) (fun x => x.1 ≤ (Nd.ins (getE tN g j)).length ∧ x.2 ++ (((Nd.ins (getE tN g j)).drop x.1).map fun x => u8 x.1) = l ++ putN (getE tN g j)) (fun x => (Nd.ins (getE tN g j)).length - x.1) (0, l ++ (putN (getE tN g j)).take 12) ⟨Nat.zero_le _, by rw [List.append_assoc]; rfl⟩ ?_ ?_
          · conv => whnf
            refine ⟨rfl, leaf_i ?_⟩
            repeat' ((with_reducible refine And.intro ?_ ?_) <;> (try (conv => whnf)))
            all_goals (try (first | with_reducible rfl | exact True.intro | rfl | exact id | exact fun h => h | exact fun _ => rfl))
            · refine congrArg List.length (?_ : _ = l ++ (putN (getE tN g j)).take 12)
              simp only [List.append_assoc, List.cons_append, List.nil_append]
              rfl
            · show _ = l ++ (putN (getE tN g j)).take 12
              simp only [List.append_assoc, List.cons_append, List.nil_append]
              rfl
          · rintro ⟨k, l2⟩ ⟨hk, hl2⟩
            dsimp only at hk hl2
            have hb2 := may_len hy
            have hb3 : l2.length + ((Nd.ins (getE tN g j)).length - k) = l.length + (12 + (Nd.ins (getE tN g j)).length) := by
              have := congrArg List.length hl2
              simp only [List.length_append, List.length_map, List.length_drop] at this
              exact this.trans (congrArg (l.length + ·) (putN_len _))
            conv => whnf
            repeat' ((first
              | with_reducible refine ⟨fun h => h, ?_⟩
              | with_reducible refine ⟨pk1, ?_⟩
              | with_reducible refine ⟨pk2, ?_⟩
              | with_reducible refine ⟨pk3, ?_⟩
              | with_reducible refine ⟨pk4, ?_⟩
              | with_reducible refine ⟨pk5, ?_⟩
              | with_reducible refine ⟨pk6, ?_⟩
              | with_reducible refine ⟨trivial, ?_⟩
              | with_reducible refine ⟨fun _ => trivial, ?_⟩
              | with_reducible refine ⟨rfl, ?_⟩
              | with_reducible refine every_i (fun hd => ?_)
              | with_reducible refine everyN_i (fun k hk => ?_)
              | with_reducible refine everyD_i (fun d hd => ?_)
              | with_reducible refine fork_t (by assumption) ?_
              | with_reducible refine fork_f (by assumption) ?_
              | refine fork_t rfl ?_
              | refine fork_f rfl ?_
              | with_reducible refine fork_i (fun h => ?_) (fun h => ?_)
              | with_reducible refine both_i ?_ ?_
              | ((with_reducible refine alike_i ?_); exact ⟨rfl, rfl, rfl⟩)
              | ((with_reducible refine fin_i ?_); (conv => whnf); refine ⟨rfl, ?_⟩)
              | ((with_reducible refine ⟨?_, ?_⟩); (focus (simp only [List.length_append, List.length_cons, List.length_nil]; omega)))
              | refine ⟨of_decide_eq_true rfl, ?_⟩
              | refine ⟨fun _ => of_decide_eq_true rfl, ?_⟩
              | ((with_reducible refine ⟨?_, ?_⟩); (focus (intros; simp_all; done)))
              | ((with_reducible refine ⟨?_, ?_⟩); (focus (intros; omega)))) <;> (try (conv => whnf)))
            · have hk' : k < (Nd.ins (getE tN g j)).length := lt_t h
              rw [drop_get _ hk', List.map_cons] at hl2
              refine next_i (k + 1, l2 ++ [u8 (getE tI (Nd.ins (getE tN g j)) k).1]) ⟨hk', by simpa using hl2⟩ (by dsimp only; omega) rfl rfl ?_
              conv => whnf
              refine ⟨rfl, leaf_i ?_⟩
              repeat' ((with_reducible refine And.intro ?_ ?_) <;> (try (conv => whnf)))
              all_goals (try (first | with_reducible rfl | exact True.intro | rfl | exact id | exact fun h => h | exact fun _ => rfl))
              all_goals (exact wrapS (by dsimp only; omega))
            · have hk' : (Nd.ins (getE tN g j)).length ≤ k := lt_f h
              rw [List.drop_eq_nil_of_le hk', List.map_nil, List.append_nil] at hl2
              refine next_i (j + 1, l ++ putN (getE tN g j)) ⟨hj', by have := putN_len (getE tN g j); show (l ++ putN (getE tN g j)).length ≤ 1 + 14 * (j + 1); rw [List.length_append]; omega, ?_⟩ (by dsimp only; omega) rfl rfl ?_
              · rw [← hl]
                cases putF (List.drop (j + 1) g) with
                | none => rfl
                | some y => simp
              subst hl2
              conv => whnf
              refine ⟨rfl, leaf_i ?_⟩
              repeat' ((with_reducible refine And.intro ?_ ?_) <;> (try (conv => whnf)))
              all_goals (try (first | with_reducible rfl | exact True.intro | rfl | exact id | exact fun h => h | exact fun _ => rfl))
              all_goals (exact wrapS (by dsimp only; omega))
      · have hj' := lt_f h
        rw [List.drop_eq_nil_of_le hj', putF] at hl
        have hl : putG g = (l, 0) := by
          unfold putG
          rw [if_neg hg]
          cases hf : putF g with
          | none => rw [hf] at hl; cases hl
          | some y => 
            rw [hf] at hl
            have : l ++ [] = u8 g.length :: y := by injection hl
            rw [List.append_nil] at this
            rw [this]
        all_goals ((with_reducible refine leaf_i ?_); (conv => whnf))
        repeat' ((with_reducible refine And.intro ?_ ?_) <;> (try (conv => whnf)))
        all_goals (try (first | with_reducible rfl | exact True.intro | rfl | exact id | exact fun h => h | exact fun _ => rfl))
        all_goals (rw [hl])
end Go.Proofs.Ytbgcgokikekmoaa

/- Layer 10: Check. -/
namespace Go.Proofs.Ytbgcgokikekmoaa
set_option maxRecDepth 100000
open Go Go.RowKit Go.Proofs.Ytbgcgokikekmoaa.Eng
theorem put_few {g : List Nd} (h : (putG g).2 = 0) : few g := by
  unfold putG at h
  split at h
  · cases h
  · rename_i h1
    rw [putF_all] at h
    by_cases ha : g.all mayN = true
    · refine ⟨by omega, fun x hx => ?_⟩
      have := List.all_eq_true.1 ha x hx
      simp only [mayN, Bool.and_eq_true, decide_eq_true_eq] at this
      omega
    · rw [if_neg ha] at h
      cases h
def wide (g : List Nd) : Prop := g.length < 4611686018427387904 ∧ ∀ x : Nd, x ∈ g → (Nd.ins x).length < 4611686018427387904
theorem check_put {g : List Nd} (h : (putG g).2 ≠ 0) : checkG g = (0, (putG g).2) := by unfold checkG; rw [if_pos h]
theorem check_bad {g : List Nd} (h : ¬ (putG g).2 ≠ 0) {i : Nat} (hb : badL g 0 g = some i) : checkG g = ((i : Int), nodeE g i) := by unfold checkG; rw [if_neg h, hb]
theorem check_cyc {g : List Nd} (h : ¬ (putG g).2 ≠ 0) (hb : badL g 0 g = none) (hs : stuckG g < g.length) : checkG g = ((stuckG g : Int), 102) := by unfold checkG; rw [if_neg h, hb]; simp only; rw [if_pos hs]
theorem check_ok {g : List Nd} (h : ¬ (putG g).2 ≠ 0) (hb : badL g 0 g = none) (hs : ¬ stuckG g < g.length) : checkG g = ((g.length : Int), 0) := by unfold checkG; rw [if_neg h, hb]; simp only; rw [if_neg hs]
theorem badL_s (g : List Nd) (i : Nat) (n : Nd) (r : List Nd) : badL g i (n :: r) = if nodeE g (i : Int) ≠ 0 then some i else badL g (i + 1) r := rfl
theorem badL_n (g : List Nd) (i : Nat) : badL g i [] = none := rfl
attribute [local irreducible] checkG putG nodeE stuckG badL
def k_check : Sig := .arg (shR tN) fun g => .done { pre := wide g, res := .tup (.cons (I (checkG g).1) (.cons (I (checkG g).2) .nil)) }
set_option maxHeartbeats 4000000 in
theorem c_check : FnOk Try.prog 15 k_check.con := by
  refine fnOkS mixed tys_ok (cs := [(30, k_put.con), (12, k_node.con), (31, k_stuck.con)]) ⟨c_put, c_node, c_stuck, trivial⟩ Try.func15 rfl (by kernel_rfl) Try.ntmps15 _ (h := ?_)
  intro g
  refine ⟨rfl, fun hp => ?_⟩
  have hp : wide g := hp
  conv => whnf
  repeat' ((first
    | with_reducible refine ⟨fun h => h, ?_⟩
    | with_reducible refine ⟨pk1, ?_⟩
    | with_reducible refine ⟨pk2, ?_⟩
    | with_reducible refine ⟨pk3, ?_⟩
    | with_reducible refine ⟨pk4, ?_⟩
    | with_reducible refine ⟨pk5, ?_⟩
    | with_reducible refine ⟨pk6, ?_⟩
    | with_reducible refine ⟨trivial, ?_⟩
    | with_reducible refine ⟨fun _ => trivial, ?_⟩
    | with_reducible refine ⟨rfl, ?_⟩
    | with_reducible refine every_i (fun hd => ?_)
    | with_reducible refine everyN_i (fun k hk => ?_)
    | with_reducible refine everyD_i (fun d hd => ?_)
    | with_reducible refine fork_t (by assumption) ?_
    | with_reducible refine fork_f (by assumption) ?_
    | refine fork_t rfl ?_
    | refine fork_f rfl ?_
    | with_reducible refine fork_i (fun h => ?_) (fun h => ?_)
    | with_reducible refine both_i ?_ ?_
    | ((with_reducible refine alike_i ?_); exact ⟨rfl, rfl, rfl⟩)
    | ((with_reducible refine fin_i ?_); (conv => whnf); refine ⟨rfl, ?_⟩)
    | refine ⟨hp, ?_⟩
    | refine ⟨of_decide_eq_true rfl, ?_⟩
    | refine ⟨fun _ => of_decide_eq_true rfl, ?_⟩
    | ((with_reducible refine ⟨?_, ?_⟩); (focus (intros; simp_all; done)))
    | ((with_reducible refine ⟨?_, ?_⟩); (focus (intros; omega)))) <;> (try (conv => whnf)))
  · have hne : (putG g).2 ≠ 0 := by simpa using h
    all_goals ((with_reducible refine leaf_i ?_); (conv => whnf))
    repeat' ((with_reducible refine And.intro ?_ ?_) <;> (try (conv => whnf)))
    all_goals (try (first | with_reducible rfl | exact True.intro | rfl | exact id | exact fun h => h | exact fun _ => rfl))
    all_goals (first | (rw [check_put hne]; done) | trace_state)
  · have hne : ¬ (putG g).2 ≠ 0 := by simpa using h
    have hf := put_few (Decidable.not_not.1 hne)
    have hg := hf.1
    refine looped (σ := Nat) (fun i => [(19, I i)]) (fun _ => []) (fun i => i ≤ g.length ∧ badL g i (g.drop i) = badL g 0 g) (fun i => g.length - i) 0 ⟨Nat.zero_le _, rfl⟩ ?_ ?_
    · conv => whnf
      refine ⟨rfl, leaf_i ?_⟩
      repeat' ((with_reducible refine And.intro ?_ ?_) <;> (try (conv => whnf)))
      all_goals (try (first | with_reducible rfl | exact True.intro | rfl | exact id | exact fun h => h | exact fun _ => rfl))
    · rintro i ⟨hi, hb⟩
      dsimp only at hi hb ⊢
      conv => whnf
      repeat' ((first
        | with_reducible refine ⟨fun h => h, ?_⟩
        | with_reducible refine ⟨pk1, ?_⟩
        | with_reducible refine ⟨pk2, ?_⟩
        | with_reducible refine ⟨pk3, ?_⟩
        | with_reducible refine ⟨pk4, ?_⟩
        | with_reducible refine ⟨pk5, ?_⟩
        | with_reducible refine ⟨pk6, ?_⟩
        | with_reducible refine ⟨trivial, ?_⟩
        | with_reducible refine ⟨fun _ => trivial, ?_⟩
        | with_reducible refine ⟨rfl, ?_⟩
        | with_reducible refine every_i (fun hd => ?_)
        | with_reducible refine everyN_i (fun k hk => ?_)
        | with_reducible refine everyD_i (fun d hd => ?_)
        | with_reducible refine fork_t (by assumption) ?_
        | with_reducible refine fork_f (by assumption) ?_
        | refine fork_t rfl ?_
        | refine fork_f rfl ?_
        | with_reducible refine fork_i (fun h => ?_) (fun h => ?_)
        | with_reducible refine both_i ?_ ?_
        | ((with_reducible refine alike_i ?_); exact ⟨rfl, rfl, rfl⟩)
        | ((with_reducible refine fin_i ?_); (conv => whnf); refine ⟨rfl, ?_⟩)
        | refine ⟨hp, ?_⟩
        | refine ⟨hf, ?_⟩
        | refine ⟨of_decide_eq_true rfl, ?_⟩
        | refine ⟨fun _ => of_decide_eq_true rfl, ?_⟩
        | ((with_reducible refine ⟨?_, ?_⟩); (focus (intros; simp_all; done)))
        | ((with_reducible refine ⟨?_, ?_⟩); (focus (intros; omega)))) <;> (try (conv => whnf)))
      · have hi' : i < g.length := lt_t (by assumption)
        have hn : nodeE g (i : Int) ≠ 0 := by simpa using h
        rw [drop_get g hi', badL_s, if_pos hn] at hb
        all_goals ((with_reducible refine leaf_i ?_); (conv => whnf))
        repeat' ((with_reducible refine And.intro ?_ ?_) <;> (try (conv => whnf)))
        all_goals (try (first | with_reducible rfl | exact True.intro | rfl | exact id | exact fun h => h | exact fun _ => rfl))
        all_goals (first | (rw [check_bad hne hb.symm]; done) | trace_state)
      · have hi' : i < g.length := lt_t (by assumption)
        have hn : ¬ nodeE g (i : Int) ≠ 0 := by simpa using h
        rw [drop_get g hi', badL_s, if_neg hn] at hb
        refine next_i (i + 1) ⟨hi', hb⟩ (by omega) rfl rfl ?_
        conv => whnf
        refine ⟨rfl, leaf_i ?_⟩
        repeat' ((with_reducible refine And.intro ?_ ?_) <;> (try (conv => whnf)))
        all_goals (try (first | with_reducible rfl | exact True.intro | rfl | exact id | exact fun h => h | exact fun _ => rfl))
        all_goals (try (first | rfl | exact wrapS (by omega)))
      · have hi' : g.length ≤ i := lt_f (by assumption)
        rw [List.drop_eq_nil_of_le hi', badL_n] at hb
        have hs : stuckG g < g.length := lt_t h
        all_goals ((with_reducible refine leaf_i ?_); (conv => whnf))
        repeat' ((with_reducible refine And.intro ?_ ?_) <;> (try (conv => whnf)))
        all_goals (try (first | with_reducible rfl | exact True.intro | rfl | exact id | exact fun h => h | exact fun _ => rfl))
        all_goals (first | (rw [check_cyc hne hb.symm hs]; done) | trace_state)
      · have hi' : g.length ≤ i := lt_f (by assumption)
        rw [List.drop_eq_nil_of_le hi', badL_n] at hb
        have hs : ¬ stuckG g < g.length := by have := lt_f h; omega
        all_goals ((with_reducible refine leaf_i ?_); (conv => whnf))
        repeat' ((with_reducible refine And.intro ?_ ?_) <;> (try (conv => whnf)))
        all_goals (try (first | with_reducible rfl | exact True.intro | rfl | exact id | exact fun h => h | exact fun _ => rfl))
        all_goals (first | (rw [check_ok hne hb.symm hs]; done) | trace_state)
theorem badL_all {g : List Nd} : ∀ (i : Nat), badL g i (g.drop i) = none → ∀ j, i ≤ j → j < g.length → nodeE g (j : Int) = 0 := by
  intro i
  generalize hk : g.length - i = k
  induction k generalizing i with
  | zero => intro _ j h1 h2; omega
  | succ k ih =>
    intro h j h1 h2
    have hi : i < g.length := by omega
    rw [drop_get g hi, badL_s] at h
    by_cases hn : nodeE g (i : Int) ≠ 0
    · rw [if_pos hn] at h; cases h
    · rw [if_neg hn] at h
      by_cases e : i = j
      · subst e; exact Decidable.not_not.1 hn
      · exact ih (i + 1) (by omega) h j (by omega) h2
theorem check_parts {g : List Nd} (h : (checkG g).2 = 0) : few g ∧ (∀ j, j < g.length → nodeE g (j : Int) = 0) ∧ ¬ stuckG g < g.length := by
  by_cases h0 : (putG g).2 ≠ 0
  · rw [check_put h0] at h; exact absurd h h0
  · refine ⟨put_few (Decidable.not_not.1 h0), ?_⟩
    cases hb : badL g 0 g with
    | some i =>
      rw [check_bad h0 hb] at h
      exfalso
      have key : ∀ (k : Nat) (l : List Nd), badL g k l = some i → nodeE g (i : Int) ≠ 0 := by
        intro k l
        induction l generalizing k with
        | nil => intro hh; rw [badL_n] at hh; cases hh
        | cons n r ih =>
          intro hh
          rw [badL_s] at hh
          by_cases hn : nodeE g (k : Int) ≠ 0
          · rw [if_pos hn] at hh; injection hh with hh; subst hh; exact hn
          · rw [if_neg hn] at hh; exact ih _ hh
      exact key 0 g hb h
    | none =>
      refine ⟨fun j hj => badL_all 0 (by simpa using hb) j (Nat.zero_le _) hj, fun hs => ?_⟩
      rw [check_cyc h0 hb hs] at h
      cases h
end Go.Proofs.Ytbgcgokikekmoaa

/- The document's Put of layer 9. -/
namespace Go.Proofs.Ytbgcgokikekmoaa
open Go Go.RowKit Go.Proofs.Ytbgcgokikekmoaa.Eng
def k_rput : Sig := .arg (shR tN) fun g => .done { pre := fitG g, res := .tup (.cons (.rl true tU (putG g).1) (.cons (I (putG g).2) .nil)) }
theorem cs_rput : AllFn Try.prog [(48, k_rmay.con)] := ⟨c_rmay, trivial⟩
theorem flat_snoc {g : List Nd} {j : Nat} (h : j < g.length) : (g.take (j + 1)).flatMap putN = (g.take j).flatMap putN ++ putN (getE tN g j) := by
  rw [take_get g h, List.flatMap_append]; simp
theorem flat_len {g : List Nd} (h : ∀ n ∈ g, mayN n = true) : ∀ j, j ≤ g.length → ((g.take j).flatMap putN).length ≤ 14 * j
  | 0, _ => by simp
  | j + 1, hj => by
    rw [flat_snoc hj, List.length_append]
    have h1 := flat_len h j (by omega)
    have h2 := putN_len (getE tN g j)
    have h3 := may_len (h _ (getE_mem g hj))
    omega
set_option maxRecDepth 100000 in
set_option maxHeartbeats 8000000 in
theorem c_rput : FnOk Try.prog 32 k_rput.con := by
  refine fnOkS mixed tys_ok (cs := [(48, k_rmay.con)]) cs_rput Try.func32 rfl (by kernel_rfl) Try.ntmps32 _ (h := ?_)
  intro g
  refine ⟨rfl, fun hp => ?_⟩
  obtain ⟨hp1, hp2⟩ := hp
  conv => whnf
  repeat' ((first
    | with_reducible refine ⟨fun h => h, ?_⟩
    | with_reducible refine ⟨pk1, ?_⟩
    | with_reducible refine ⟨pk2, ?_⟩
    | with_reducible refine ⟨pk3, ?_⟩
    | with_reducible refine ⟨pk4, ?_⟩
    | with_reducible refine ⟨pk5, ?_⟩
    | with_reducible refine ⟨pk6, ?_⟩
    | with_reducible refine ⟨trivial, ?_⟩
    | with_reducible refine ⟨fun _ => trivial, ?_⟩
    | with_reducible refine ⟨rfl, ?_⟩
    | with_reducible refine every_i (fun hd => ?_)
    | with_reducible refine everyN_i (fun k hk => ?_)
    | with_reducible refine everyD_i (fun d hd => ?_)
    | with_reducible refine fork_t (by assumption) ?_
    | with_reducible refine fork_f (by assumption) ?_
    | refine fork_t rfl ?_
    | refine fork_f rfl ?_
    | with_reducible refine fork_i (fun h => ?_) (fun h => ?_)
    | with_reducible refine both_i ?_ ?_
    | ((with_reducible refine alike_i ?_); exact ⟨rfl, rfl, rfl⟩)
    | ((with_reducible refine fin_i ?_); (conv => whnf); refine ⟨rfl, ?_⟩)
    | refine ⟨of_decide_eq_true rfl, ?_⟩
    | refine ⟨fun _ => of_decide_eq_true rfl, ?_⟩
    | ((with_reducible refine ⟨?_, ?_⟩); (focus (intros; simp_all; done)))
    | ((with_reducible refine ⟨?_, ?_⟩); (focus (intros; omega)))) <;> (try (conv => whnf)))
  · have hg : g.length < 1 ∨ 32 < g.length := by
      rw [Bool.cond_true_left, Bool.or_eq_true] at h
      rcases h with h | h <;> have := of_decide_eq_true h <;> omega
    all_goals ((with_reducible refine leaf_i ?_); (conv => whnf))
    repeat' ((with_reducible refine And.intro ?_ ?_) <;> (try (conv => whnf)))
    all_goals (try (first | with_reducible rfl | exact True.intro | rfl | exact id | exact fun h => h | exact fun _ => rfl))
    all_goals (unfold putG; rw [if_pos hg])
  · have hg : ¬ (g.length < 1 ∨ 32 < g.length) := by
      rw [Bool.cond_true_left, Bool.or_eq_false_iff] at h
      have h1 := of_decide_eq_false h.1
      have h2 := of_decide_eq_false h.2
      omega
    refine ⟨⟨hp1, hp2⟩, ?_⟩
    (conv => whnf)
    conv => whnf
    repeat' ((first
      | with_reducible refine ⟨fun h => h, ?_⟩
      | with_reducible refine ⟨pk1, ?_⟩
      | with_reducible refine ⟨pk2, ?_⟩
      | with_reducible refine ⟨pk3, ?_⟩
      | with_reducible refine ⟨pk4, ?_⟩
      | with_reducible refine ⟨pk5, ?_⟩
      | with_reducible refine ⟨pk6, ?_⟩
      | with_reducible refine ⟨trivial, ?_⟩
      | with_reducible refine ⟨fun _ => trivial, ?_⟩
      | with_reducible refine ⟨rfl, ?_⟩
      | with_reducible refine every_i (fun hd => ?_)
      | with_reducible refine everyN_i (fun k hk => ?_)
      | with_reducible refine everyD_i (fun d hd => ?_)
      | with_reducible refine fork_t (by assumption) ?_
      | with_reducible refine fork_f (by assumption) ?_
      | refine fork_t rfl ?_
      | refine fork_f rfl ?_
      | with_reducible refine fork_i (fun h => ?_) (fun h => ?_)
      | with_reducible refine both_i ?_ ?_
      | ((with_reducible refine alike_i ?_); exact ⟨rfl, rfl, rfl⟩)
      | ((with_reducible refine fin_i ?_); (conv => whnf); refine ⟨rfl, ?_⟩)
      | refine ⟨of_decide_eq_true rfl, ?_⟩
      | refine ⟨fun _ => of_decide_eq_true rfl, ?_⟩
      | ((with_reducible refine ⟨?_, ?_⟩); (focus (intros; simp_all; done)))
      | ((with_reducible refine ⟨?_, ?_⟩); (focus (intros; omega)))) <;> (try (conv => whnf)))
    · have hm : g.all mayN = false := by
        have h : mayG g = false := not_t h
        unfold mayG at h
        rw [decide_eq_true (by omega), decide_eq_true (by omega)] at h
        simpa using h
      have hG : putG g = ([], 90) := by unfold putG; rw [if_neg hg, putF_all, hm]; rfl
      all_goals ((with_reducible refine leaf_i ?_); (conv => whnf))
      repeat' ((with_reducible refine And.intro ?_ ?_) <;> (try (conv => whnf)))
      all_goals (try (first | with_reducible rfl | exact True.intro | rfl | exact id | exact fun h => h | exact fun _ => rfl))
      all_goals (rw [hG])
    · have hm : g.all mayN = true := by
        have h : mayG g = true := not_f h
        unfold mayG at h
        rw [Bool.and_eq_true] at h
        exact h.1
      have hG : putG g = (u8 g.length :: g.flatMap putN, 0) := by unfold putG; rw [if_neg hg, putF_all, hm]; rfl
      have hma : ∀ n ∈ g, mayN n = true := fun n hn => List.all_eq_true.1 hm n hn
      refine kept [] ?_
      (conv => whnf)
      refine looped (σ := Nat × List (El tU)) (fun x => [(5, I x.1), (4, .ow 0 1 x.2.length)]) (fun x => [.row true tU 5 x.2]) (fun x => x.1 ≤ g.length ∧ x.2 = u8 g.length :: (g.take x.1).flatMap putN) (fun x => g.length - x.1) (0, [u8 g.length]) ⟨Nat.zero_le _, rfl⟩ ?_ ?_
      · conv => whnf
        refine ⟨rfl, leaf_i ?_⟩
        repeat' ((with_reducible refine And.intro ?_ ?_) <;> (try (conv => whnf)))
        all_goals (try (first | with_reducible rfl | exact True.intro | rfl | exact id | exact fun h => h | exact fun _ => rfl))
      · rintro ⟨j, l⟩ ⟨hj, hl⟩
        dsimp only at hj hl
        have hs : l.length ≤ 1 + 14 * j := by rw [hl, List.length_cons]; have := flat_len hma j hj; omega
        conv => whnf
        repeat' ((first
          | with_reducible refine ⟨fun h => h, ?_⟩
          | with_reducible refine ⟨pk1, ?_⟩
          | with_reducible refine ⟨pk2, ?_⟩
          | with_reducible refine ⟨pk3, ?_⟩
          | with_reducible refine ⟨pk4, ?_⟩
          | with_reducible refine ⟨pk5, ?_⟩
          | with_reducible refine ⟨pk6, ?_⟩
          | with_reducible refine ⟨trivial, ?_⟩
          | with_reducible refine ⟨fun _ => trivial, ?_⟩
          | with_reducible refine ⟨rfl, ?_⟩
          | with_reducible refine every_i (fun hd => ?_)
          | with_reducible refine everyN_i (fun k hk => ?_)
          | with_reducible refine everyD_i (fun d hd => ?_)
          | with_reducible refine fork_t (by assumption) ?_
          | with_reducible refine fork_f (by assumption) ?_
          | refine fork_t rfl ?_
          | refine fork_f rfl ?_
          | with_reducible refine fork_i (fun h => ?_) (fun h => ?_)
          | with_reducible refine both_i ?_ ?_
          | ((with_reducible refine alike_i ?_); exact ⟨rfl, rfl, rfl⟩)
          | ((with_reducible refine fin_i ?_); (conv => whnf); refine ⟨rfl, ?_⟩)
          | ((with_reducible refine ⟨?_, ?_⟩); (focus (simp only [List.length_append, List.length_cons, List.length_nil]; omega)))
          | refine ⟨of_decide_eq_true rfl, ?_⟩
          | refine ⟨fun _ => of_decide_eq_true rfl, ?_⟩
          | ((with_reducible refine ⟨?_, ?_⟩); (focus (intros; simp_all; done)))
          | ((with_reducible refine ⟨?_, ?_⟩); (focus (intros; omega)))) <;> (try (conv => whnf)))
        · have hj' : j < g.length := lt_t (by assumption)
          have hy := hma _ (getE_mem g hj')
          have hb2 := may_len hy
          refine unroll 9 ?_
          (conv => whnf)
          conv => whnf
          repeat' ((first
            | with_reducible refine ⟨fun h => h, ?_⟩
            | with_reducible refine ⟨pk1, ?_⟩
            | with_reducible refine ⟨pk2, ?_⟩
            | with_reducible refine ⟨pk3, ?_⟩
            | with_reducible refine ⟨pk4, ?_⟩
            | with_reducible refine ⟨pk5, ?_⟩
            | with_reducible refine ⟨pk6, ?_⟩
            | with_reducible refine ⟨trivial, ?_⟩
            | with_reducible refine ⟨fun _ => trivial, ?_⟩
            | with_reducible refine ⟨rfl, ?_⟩
            | with_reducible refine every_i (fun hd => ?_)
            | with_reducible refine everyN_i (fun k hk => ?_)
            | with_reducible refine everyD_i (fun d hd => ?_)
            | with_reducible refine fork_t (by assumption) ?_
            | with_reducible refine fork_f (by assumption) ?_
            | refine fork_t rfl ?_
            | refine fork_f rfl ?_
            | with_reducible refine fork_i (fun h => ?_) (fun h => ?_)
            | with_reducible refine both_i ?_ ?_
            | ((with_reducible refine alike_i ?_); exact ⟨rfl, rfl, rfl⟩)
            | ((with_reducible refine fin_i ?_); (conv => whnf); refine ⟨rfl, ?_⟩)
            | ((with_reducible refine ⟨?_, ?_⟩); (focus (simp only [List.length_append, List.length_cons, List.length_nil]; omega)))
            | refine ⟨of_decide_eq_true rfl, ?_⟩
            | refine ⟨fun _ => of_decide_eq_true rfl, ?_⟩
            | ((with_reducible refine ⟨?_, ?_⟩); (focus (intros; simp_all; done)))
            | ((with_reducible refine ⟨?_, ?_⟩); (focus (intros; omega)))) <;> (try (conv => whnf)))
          refine kept [6] ?_
          (conv => whnf)
          refine looped (σ := Nat × List (El tU)) (fun x => [(8, I x.1), (4, .ow 0 1 x.2.length)]) (fun x => [.row true tU 5 x.2, .cells (ndC false (getE tN g j))]) (fun x => x.1 ≤ (Nd.ins (getE tN g j)).length ∧ x.2 ++ (((Nd.ins (getE tN g j)).drop x.1).map fun x => u8 x.1) = l ++ putN (getE tN g j)) (fun x => (Nd.ins (getE tN g j)).length - x.1) (0, l ++ (putR (getE tN g j)).take 12) ⟨Nat.zero_le _, by rw [List.append_assoc, ← putR_eq]; rfl⟩ ?_ ?_
          · conv => whnf
            refine ⟨rfl, leaf_i ?_⟩
            repeat' ((with_reducible refine And.intro ?_ ?_) <;> (try (conv => whnf)))
            all_goals (try (first | with_reducible rfl | exact True.intro | rfl | exact id | exact fun h => h | exact fun _ => rfl))
            · refine congrArg List.length (?_ : _ = l ++ (putR (getE tN g j)).take 12)
              simp only [List.append_assoc, List.cons_append, List.nil_append]
              rfl
            · show _ = l ++ (putR (getE tN g j)).take 12
              simp only [List.append_assoc, List.cons_append, List.nil_append]
              rfl
          · rintro ⟨k, l2⟩ ⟨hk, hl2⟩
            dsimp only at hk hl2
            have hb3 : l2.length + ((Nd.ins (getE tN g j)).length - k) = l.length + (12 + (Nd.ins (getE tN g j)).length) := by
              have := congrArg List.length hl2
              simp only [List.length_append, List.length_map, List.length_drop] at this
              exact this.trans (congrArg (l.length + ·) (putN_len _))
            conv => whnf
            repeat' ((first
              | with_reducible refine ⟨fun h => h, ?_⟩
              | with_reducible refine ⟨pk1, ?_⟩
              | with_reducible refine ⟨pk2, ?_⟩
              | with_reducible refine ⟨pk3, ?_⟩
              | with_reducible refine ⟨pk4, ?_⟩
              | with_reducible refine ⟨pk5, ?_⟩
              | with_reducible refine ⟨pk6, ?_⟩
              | with_reducible refine ⟨trivial, ?_⟩
              | with_reducible refine ⟨fun _ => trivial, ?_⟩
              | with_reducible refine ⟨rfl, ?_⟩
              | with_reducible refine every_i (fun hd => ?_)
              | with_reducible refine everyN_i (fun k hk => ?_)
              | with_reducible refine everyD_i (fun d hd => ?_)
              | with_reducible refine fork_t (by assumption) ?_
              | with_reducible refine fork_f (by assumption) ?_
              | refine fork_t rfl ?_
              | refine fork_f rfl ?_
              | with_reducible refine fork_i (fun h => ?_) (fun h => ?_)
              | with_reducible refine both_i ?_ ?_
              | ((with_reducible refine alike_i ?_); exact ⟨rfl, rfl, rfl⟩)
              | ((with_reducible refine fin_i ?_); (conv => whnf); refine ⟨rfl, ?_⟩)
              | ((with_reducible refine ⟨?_, ?_⟩); (focus (simp only [List.length_append, List.length_cons, List.length_nil]; omega)))
              | refine ⟨of_decide_eq_true rfl, ?_⟩
              | refine ⟨fun _ => of_decide_eq_true rfl, ?_⟩
              | ((with_reducible refine ⟨?_, ?_⟩); (focus (intros; simp_all; done)))
              | ((with_reducible refine ⟨?_, ?_⟩); (focus (intros; omega)))) <;> (try (conv => whnf)))
            · have hk' : k < (Nd.ins (getE tN g j)).length := lt_t (by assumption)
              rw [drop_get _ hk', List.map_cons] at hl2
              refine next_i (k + 1, l2 ++ [u8 (getE tI (Nd.ins (getE tN g j)) k).1]) ⟨hk', by simpa using hl2⟩ (by dsimp only; omega) rfl rfl ?_
              conv => whnf
              refine ⟨rfl, leaf_i ?_⟩
              repeat' ((with_reducible refine And.intro ?_ ?_) <;> (try (conv => whnf)))
              all_goals (try (first | with_reducible rfl | exact True.intro | rfl | exact id | exact fun h => h | exact fun _ => rfl))
              all_goals (exact wrapS (by (try dsimp only); omega))
            · have hk' : (Nd.ins (getE tN g j)).length ≤ k := lt_f (by assumption)
              rw [List.drop_eq_nil_of_le hk', List.map_nil, List.append_nil] at hl2
              refine next_i (j + 1, l ++ putN (getE tN g j)) ⟨hj', by dsimp only; rw [flat_snoc hj', hl]; rfl⟩ (by dsimp only; omega) rfl rfl ?_
              subst hl2
              conv => whnf
              refine ⟨rfl, leaf_i ?_⟩
              repeat' ((with_reducible refine And.intro ?_ ?_) <;> (try (conv => whnf)))
              all_goals (try (first | with_reducible rfl | exact True.intro | rfl | exact id | exact fun h => h | exact fun _ => rfl))
              all_goals first | rfl | (exact wrapS (by (try dsimp only); omega))
        · have hj' : g.length ≤ j := lt_f (by assumption)
          rw [List.take_of_length_le hj'] at hl
          all_goals ((with_reducible refine leaf_i ?_); (conv => whnf))
          repeat' ((with_reducible refine And.intro ?_ ?_) <;> (try (conv => whnf)))
          all_goals (try (first | with_reducible rfl | exact True.intro | rfl | exact id | exact fun h => h | exact fun _ => rfl))
          all_goals (rw [hG]; try exact hl)
end Go.Proofs.Ytbgcgokikekmoaa

/- Layer 10, the document: Check. -/
namespace Go.Proofs.Ytbgcgokikekmoaa
set_option maxRecDepth 100000
open Go Go.RowKit Go.Proofs.Ytbgcgokikekmoaa.Eng
def rsL (g : List Nd) (i : Nat) : Nat → Nat → Bool
  | 0, _ => false
  | f + 1, l => if rstuckB g (i : Int) (l : Int) = true then true else rsL g i f (l + 1)
def rsI (g : List Nd) : Nat → List Nd → Option Nat
  | _, [] => none
  | i, n :: r => if rsL g i (n.dep + 1).toNat 0 = true then some i else rsI g (i + 1) r
def rcheckG (g : List Nd) : Int × Int :=
  if (putG g).2 ≠ 0 then (0, (putG g).2) else match badL g 0 g with
    | some i => ((i : Int), nodeE g (i : Int))
    | none => match rsI g 0 g with
      | some i => ((i : Int), 102)
      | none => ((g.length : Int), 0)
theorem rsL_s (g : List Nd) (i f l : Nat) : rsL g i (f + 1) l = if rstuckB g (i : Int) (l : Int) = true then true else rsL g i f (l + 1) := rfl
theorem rsL_0 (g : List Nd) (i l : Nat) : rsL g i 0 l = false := rfl
theorem rsI_s (g : List Nd) (i : Nat) (n : Nd) (r : List Nd) : rsI g i (n :: r) = if rsL g i (n.dep + 1).toNat 0 = true then some i else rsI g (i + 1) r := rfl
theorem rsI_n (g : List Nd) (i : Nat) : rsI g i [] = none := rfl
theorem rck_put {g : List Nd} (h : (putG g).2 ≠ 0) : rcheckG g = (0, (putG g).2) := by unfold rcheckG; rw [if_pos h]
theorem rck_bad {g : List Nd} (h : ¬ (putG g).2 ≠ 0) {i : Nat} (hb : badL g 0 g = some i) : rcheckG g = ((i : Int), nodeE g i) := by unfold rcheckG; rw [if_neg h, hb]
theorem rck_cyc {g : List Nd} (h : ¬ (putG g).2 ≠ 0) (hb : badL g 0 g = none) {i : Nat} (hs : rsI g 0 g = some i) : rcheckG g = ((i : Int), 102) := by unfold rcheckG; rw [if_neg h, hb]; simp only; rw [hs]
theorem rck_ok {g : List Nd} (h : ¬ (putG g).2 ≠ 0) (hb : badL g 0 g = none) (hs : rsI g 0 g = none) : rcheckG g = ((g.length : Int), 0) := by unfold rcheckG; rw [if_neg h, hb]; simp only; rw [hs]
theorem put_dep {g : List Nd} (h : (putG g).2 = 0) : ∀ x : Nd, x ∈ g → 0 ≤ Nd.dep x ∧ Nd.dep x ≤ 3 := fun x hx => by
  unfold putG at h
  split at h
  · cases h
  · rw [putF_all] at h
    by_cases ha : g.all mayN = true
    · have := List.all_eq_true.1 ha x hx
      simp only [mayN, Bool.and_eq_true, decide_eq_true_eq] at this
      omega
    · rw [if_neg ha] at h
      cases h
attribute [local irreducible] rcheckG putG nodeE badL rsI rsL rstuckB
def k_rcheck : Sig := .arg (shR tN) fun g => .done { pre := fitG g, res := .tup (.cons (I (rcheckG g).1) (.cons (I (rcheckG g).2) .nil)) }
set_option maxHeartbeats 4000000 in
theorem c_rcheck : FnOk Try.prog 16 k_rcheck.con := by
  refine fnOkS mixed tys_ok (cs := [(32, k_rput.con), (13, k_rnode.con), (33, k_rstuck.con)]) ⟨c_rput, c_rnode, c_rstuck, trivial⟩ Try.func16 rfl (by kernel_rfl) Try.ntmps16 _ (h := ?_)
  intro g
  refine ⟨rfl, fun hp => ?_⟩
  have hp : fitG g := hp
  have hp' : g.length < 4611686018427387904 ∧ ∀ x : Nd, x ∈ g → (Nd.ins x).length < 4611686018427387904 := hp
  conv => whnf
  repeat' ((first
    | with_reducible refine ⟨fun h => h, ?_⟩
    | with_reducible refine ⟨pk1, ?_⟩
    | with_reducible refine ⟨pk2, ?_⟩
    | with_reducible refine ⟨pk3, ?_⟩
    | with_reducible refine ⟨pk4, ?_⟩
    | with_reducible refine ⟨pk5, ?_⟩
    | with_reducible refine ⟨pk6, ?_⟩
    | with_reducible refine ⟨trivial, ?_⟩
    | with_reducible refine ⟨fun _ => trivial, ?_⟩
    | with_reducible refine ⟨rfl, ?_⟩
    | with_reducible refine every_i (fun hd => ?_)
    | with_reducible refine everyN_i (fun k hk => ?_)
    | with_reducible refine everyD_i (fun d hd => ?_)
    | with_reducible refine fork_t (by assumption) ?_
    | with_reducible refine fork_f (by assumption) ?_
    | refine fork_t rfl ?_
    | refine fork_f rfl ?_
    | with_reducible refine fork_i (fun h => ?_) (fun h => ?_)
    | with_reducible refine both_i ?_ ?_
    | ((with_reducible refine alike_i ?_); exact ⟨rfl, rfl, rfl⟩)
    | ((with_reducible refine fin_i ?_); (conv => whnf); refine ⟨rfl, ?_⟩)
    | refine ⟨hp, ?_⟩
    | refine ⟨of_decide_eq_true rfl, ?_⟩
    | refine ⟨fun _ => of_decide_eq_true rfl, ?_⟩
    | ((with_reducible refine ⟨?_, ?_⟩); (focus (intros; simp_all; done)))
    | ((with_reducible refine ⟨?_, ?_⟩); (focus (intros; omega)))) <;> (try (conv => whnf)))
  · have hne : (putG g).2 ≠ 0 := by simpa using h
    all_goals ((with_reducible refine leaf_i ?_); (conv => whnf))
    repeat' ((with_reducible refine And.intro ?_ ?_) <;> (try (conv => whnf)))
    all_goals (try (first | with_reducible rfl | exact True.intro | rfl | exact id | exact fun h => h | exact fun _ => rfl))
    all_goals (first | (rw [rck_put hne]; done) | trace_state)
  · have hne : ¬ (putG g).2 ≠ 0 := by simpa using h
    have hf := put_few (Decidable.not_not.1 hne)
    have hg := hf.1
    refine looped (σ := Nat) (fun i => [(6, I i)]) (fun _ => []) (fun i => i ≤ g.length ∧ badL g i (g.drop i) = badL g 0 g) (fun i => g.length - i) 0 ⟨Nat.zero_le _, rfl⟩ ?_ ?_
    · conv => whnf
      refine ⟨rfl, leaf_i ?_⟩
      repeat' ((with_reducible refine And.intro ?_ ?_) <;> (try (conv => whnf)))
      all_goals (try (first | with_reducible rfl | exact True.intro | rfl | exact id | exact fun h => h | exact fun _ => rfl))
    · rintro i ⟨hi, hb⟩
      dsimp only at hi hb ⊢
      conv => whnf
      repeat' ((first
        | with_reducible refine ⟨fun h => h, ?_⟩
        | with_reducible refine ⟨pk1, ?_⟩
        | with_reducible refine ⟨pk2, ?_⟩
        | with_reducible refine ⟨pk3, ?_⟩
        | with_reducible refine ⟨pk4, ?_⟩
        | with_reducible refine ⟨pk5, ?_⟩
        | with_reducible refine ⟨pk6, ?_⟩
        | with_reducible refine ⟨trivial, ?_⟩
        | with_reducible refine ⟨fun _ => trivial, ?_⟩
        | with_reducible refine ⟨rfl, ?_⟩
        | with_reducible refine every_i (fun hd => ?_)
        | with_reducible refine everyN_i (fun k hk => ?_)
        | with_reducible refine everyD_i (fun d hd => ?_)
        | with_reducible refine fork_t (by assumption) ?_
        | with_reducible refine fork_f (by assumption) ?_
        | refine fork_t rfl ?_
        | refine fork_f rfl ?_
        | with_reducible refine fork_i (fun h => ?_) (fun h => ?_)
        | with_reducible refine both_i ?_ ?_
        | ((with_reducible refine alike_i ?_); exact ⟨rfl, rfl, rfl⟩)
        | ((with_reducible refine fin_i ?_); (conv => whnf); refine ⟨rfl, ?_⟩)
        | refine ⟨hp', ?_⟩
        | refine ⟨of_decide_eq_true rfl, ?_⟩
        | refine ⟨fun _ => of_decide_eq_true rfl, ?_⟩
        | ((with_reducible refine ⟨?_, ?_⟩); (focus (intros; simp_all; done)))
        | ((with_reducible refine ⟨?_, ?_⟩); (focus (intros; omega)))) <;> (try (conv => whnf)))
      · have hi' : i < g.length := lt_t (by assumption)
        have hn : nodeE g (i : Int) ≠ 0 := by simpa using h
        rw [drop_get g hi', badL_s, if_pos hn] at hb
        all_goals ((with_reducible refine leaf_i ?_); (conv => whnf))
        repeat' ((with_reducible refine And.intro ?_ ?_) <;> (try (conv => whnf)))
        all_goals (try (first | with_reducible rfl | exact True.intro | rfl | exact id | exact fun h => h | exact fun _ => rfl))
        all_goals (first | (rw [rck_bad hne hb.symm]; done) | trace_state)
      · have hi' : i < g.length := lt_t (by assumption)
        have hn : ¬ nodeE g (i : Int) ≠ 0 := by simpa using h
        rw [drop_get g hi', badL_s, if_neg hn] at hb
        refine next_i (i + 1) ⟨hi', hb⟩ (by omega) rfl rfl ?_
        conv => whnf
        refine ⟨rfl, leaf_i ?_⟩
        repeat' ((with_reducible refine And.intro ?_ ?_) <;> (try (conv => whnf)))
        all_goals (try (first | with_reducible rfl | exact True.intro | rfl | exact id | exact fun h => h | exact fun _ => rfl))
        all_goals (try (first | rfl | exact wrapS (by omega)))
      · have hi' : g.length ≤ i := lt_f (by assumption)
        rw [List.drop_eq_nil_of_le hi', badL_n] at hb
        refine only [0] ?_
        (conv => whnf)
        refine looped (σ := Nat) (fun i => [(8, I i)]) (fun _ => []) (fun i => i ≤ g.length ∧ rsI g i (g.drop i) = rsI g 0 g) (fun i => g.length - i) 0 ⟨Nat.zero_le _, rfl⟩ ?_ ?_
        · conv => whnf
          refine ⟨rfl, leaf_i ?_⟩
          repeat' ((with_reducible refine And.intro ?_ ?_) <;> (try (conv => whnf)))
          all_goals (try (first | with_reducible rfl | exact True.intro | rfl | exact id | exact fun h => h | exact fun _ => rfl))
        · rintro i2 ⟨hi2, hb2⟩
          dsimp only at hi2 hb2 ⊢
          conv => whnf
          repeat' ((first
            | with_reducible refine ⟨fun h => h, ?_⟩
            | with_reducible refine ⟨pk1, ?_⟩
            | with_reducible refine ⟨pk2, ?_⟩
            | with_reducible refine ⟨pk3, ?_⟩
            | with_reducible refine ⟨pk4, ?_⟩
            | with_reducible refine ⟨pk5, ?_⟩
            | with_reducible refine ⟨pk6, ?_⟩
            | with_reducible refine ⟨trivial, ?_⟩
            | with_reducible refine ⟨fun _ => trivial, ?_⟩
            | with_reducible refine ⟨rfl, ?_⟩
            | with_reducible refine every_i (fun hd => ?_)
            | with_reducible refine everyN_i (fun k hk => ?_)
            | with_reducible refine everyD_i (fun d hd => ?_)
            | with_reducible refine fork_t (by assumption) ?_
            | with_reducible refine fork_f (by assumption) ?_
            | refine fork_t rfl ?_
            | refine fork_f rfl ?_
            | with_reducible refine fork_i (fun h => ?_) (fun h => ?_)
            | with_reducible refine both_i ?_ ?_
            | ((with_reducible refine alike_i ?_); exact ⟨rfl, rfl, rfl⟩)
            | ((with_reducible refine fin_i ?_); (conv => whnf); refine ⟨rfl, ?_⟩)
            | refine ⟨of_decide_eq_true rfl, ?_⟩
            | refine ⟨fun _ => of_decide_eq_true rfl, ?_⟩
            | ((with_reducible refine ⟨?_, ?_⟩); (focus (intros; simp_all; done)))
            | ((with_reducible refine ⟨?_, ?_⟩); (focus (intros; omega)))) <;> (try (conv => whnf)))
          · have hi3 : i2 < g.length := lt_t h
            have hdp := put_dep (Decidable.not_not.1 hne) _ (getE_mem g hi3)
            rw [drop_get g hi3, rsI_s] at hb2
            have hstk : few g ∧ 0 ≤ (i2 : Int) ∧ (i2 : Int) < (g.length : Int) := ⟨hf, by omega, by omega⟩
            have hix : 0 ≤ (i2 : Int) ∧ (i2 : Int) < (g.length : Int) := hstk.2
            refine only [8, 0] ?_
            (conv => whnf)
            refine looped (σ := Nat) (fun l => [(9, I l)]) (fun _ => []) (fun l => l ≤ (Nd.dep (getE tN g i2) + 1).toNat ∧ rsL g i2 ((Nd.dep (getE tN g i2) + 1).toNat - l) l = rsL g i2 (Nd.dep (getE tN g i2) + 1).toNat 0) (fun l => 4 - l) 0 ⟨Nat.zero_le _, rfl⟩ ?_ ?_
            · conv => whnf
              refine ⟨rfl, leaf_i ?_⟩
              repeat' ((with_reducible refine And.intro ?_ ?_) <;> (try (conv => whnf)))
              all_goals (try (first | with_reducible rfl | exact True.intro | rfl | exact id | exact fun h => h | exact fun _ => rfl))
            · rintro l ⟨hl, hr⟩
              dsimp only at hl hr ⊢
              conv => whnf
              repeat' ((first
                | with_reducible refine ⟨fun h => h, ?_⟩
                | with_reducible refine ⟨pk1, ?_⟩
                | with_reducible refine ⟨pk2, ?_⟩
                | with_reducible refine ⟨pk3, ?_⟩
                | with_reducible refine ⟨pk4, ?_⟩
                | with_reducible refine ⟨pk5, ?_⟩
                | with_reducible refine ⟨pk6, ?_⟩
                | with_reducible refine ⟨trivial, ?_⟩
                | with_reducible refine ⟨fun _ => trivial, ?_⟩
                | with_reducible refine ⟨rfl, ?_⟩
                | with_reducible refine every_i (fun hd => ?_)
                | with_reducible refine everyN_i (fun k hk => ?_)
                | with_reducible refine everyD_i (fun d hd => ?_)
                | with_reducible refine fork_t (by assumption) ?_
                | with_reducible refine fork_f (by assumption) ?_
                | refine fork_t rfl ?_
                | refine fork_f rfl ?_
                | with_reducible refine fork_i (fun h => ?_) (fun h => ?_)
                | with_reducible refine both_i ?_ ?_
                | ((with_reducible refine alike_i ?_); exact ⟨rfl, rfl, rfl⟩)
                | ((with_reducible refine fin_i ?_); (conv => whnf); refine ⟨rfl, ?_⟩)
                | refine ⟨hix, ?_⟩
                | refine ⟨hstk, ?_⟩
                | refine ⟨of_decide_eq_true rfl, ?_⟩
                | refine ⟨fun _ => of_decide_eq_true rfl, ?_⟩
                | ((with_reducible refine ⟨?_, ?_⟩); (focus (intros; simp_all; done)))
                | ((with_reducible refine ⟨?_, ?_⟩); (focus (intros; omega)))) <;> (try (conv => whnf)))
              · have hle : (l : Int) ≤ Nd.dep (getE tN g i2) := of_decide_eq_true (by assumption)
                have hst : rstuckB g (i2 : Int) (l : Int) = true := h
                rw [show (Nd.dep (getE tN g i2) + 1).toNat - l = ((Nd.dep (getE tN g i2) + 1).toNat - l - 1) + 1 by omega, rsL_s, if_pos hst] at hr
                rw [if_pos hr.symm] at hb2
                all_goals ((with_reducible refine leaf_i ?_); (conv => whnf))
                repeat' ((with_reducible refine And.intro ?_ ?_) <;> (try (conv => whnf)))
                all_goals (try (first | with_reducible rfl | exact True.intro | rfl | exact id | exact fun h => h | exact fun _ => rfl))
                all_goals (first | (rw [rck_cyc hne hb.symm hb2.symm]; done) | trace_state)
              · have hle : (l : Int) ≤ Nd.dep (getE tN g i2) := of_decide_eq_true (by assumption)
                have hst : ¬ rstuckB g (i2 : Int) (l : Int) = true := fun hh => Bool.noConfusion (h.symm.trans hh)
                rw [show (Nd.dep (getE tN g i2) + 1).toNat - l = ((Nd.dep (getE tN g i2) + 1).toNat - (l + 1)) + 1 by omega, rsL_s, if_neg hst] at hr
                refine next_i (l + 1) ⟨by omega, hr⟩ (by omega) rfl rfl ?_
                conv => whnf
                refine ⟨rfl, leaf_i ?_⟩
                repeat' ((with_reducible refine And.intro ?_ ?_) <;> (try (conv => whnf)))
                all_goals (try (first | with_reducible rfl | exact True.intro | rfl | exact id | exact fun h => h | exact fun _ => rfl))
                all_goals (try (first | rfl | exact wrapS (by omega)))
              · have hle : ¬ (l : Int) ≤ Nd.dep (getE tN g i2) := of_decide_eq_false (by assumption)
                rw [show (Nd.dep (getE tN g i2) + 1).toNat - l = 0 by omega, rsL_0] at hr
                rw [if_neg (by rw [← hr]; simp)] at hb2
                refine next_i (i2 + 1) ⟨hi3, hb2⟩ (by omega) rfl rfl ?_
                conv => whnf
                refine ⟨rfl, leaf_i ?_⟩
                repeat' ((with_reducible refine And.intro ?_ ?_) <;> (try (conv => whnf)))
                all_goals (try (first | with_reducible rfl | exact True.intro | rfl | exact id | exact fun h => h | exact fun _ => rfl))
                all_goals (try (first | rfl | exact wrapS (by omega)))
          · have hi3 : g.length ≤ i2 := lt_f h
            rw [List.drop_eq_nil_of_le hi3, rsI_n] at hb2
            all_goals ((with_reducible refine leaf_i ?_); (conv => whnf))
            repeat' ((with_reducible refine And.intro ?_ ?_) <;> (try (conv => whnf)))
            all_goals (try (first | with_reducible rfl | exact True.intro | rfl | exact id | exact fun h => h | exact fun _ => rfl))
            all_goals (first | (rw [rck_ok hne hb.symm hb2.symm]; done) | trace_state)
end Go.Proofs.Ytbgcgokikekmoaa

/- Layer 10: Order. -/
namespace Go.Proofs.Ytbgcgokikekmoaa
set_option maxRecDepth 100000
open Go Go.RowKit Go.Proofs.Ytbgcgokikekmoaa.Eng
theorem nodeE_0 {g : List Nd} {i : Nat} (hi : i < g.length) (h : nodeE g (i : Int) = 0) : numB (getE tN g i) = true ∧ portsB g (getE tN g i) = true ∧ depthB g (getE tN g i) = true := by
  unfold nodeE nd at h
  rw [if_neg (by omega)] at h
  rw [show ((i : Nat) : Int).toNat = i from rfl] at h
  cases h1 : numB (getE tN g i) with
  | false => rw [h1] at h; simp at h
  | true =>
    cases h2 : portsB g (getE tN g i) with
    | false => rw [h1, h2] at h; simp at h
    | true =>
      cases h3 : depthB g (getE tN g i) with
      | false => rw [h1, h2, h3] at h; simp at h
      | true => exact ⟨rfl, rfl, rfl⟩
theorem check_inAll {g : List Nd} (h : (checkG g).2 = 0) : inAll g := fun n hn => by
  obtain ⟨hf, hj, _⟩ := check_parts h
  obtain ⟨j, hjl, e⟩ := List.getElem_of_mem hn
  have e2 : getE tN g j = n := by unfold getE; simp [hjl, e]
  have := nodeE_0 hjl (hj j hjl)
  rw [e2] at this
  exact ⟨by have := hf.2 n hn; omega, portsB_in this.2.1⟩
theorem orderC_no {g : List Nd} (h : (checkG g).2 ≠ 0) : orderC g = ([], (checkG g).2) := by unfold orderC; rw [if_pos h]
theorem orderC_ok {g : List Nd} (h : ¬ (checkG g).2 ≠ 0) : orderC g = (orderG g, 0) := by unfold orderC; rw [if_neg h]
attribute [local irreducible] checkG orderG orderC
def k_Order : Sig := .arg (shR tN) fun g => .done { pre := wide g, res := .tup (.cons (.rl true tI (orderC g).1) (.cons (I (orderC g).2) .nil)) }
set_option maxHeartbeats 4000000 in
theorem c_Order : FnOk Try.prog 17 k_Order.con := by
  refine fnOkS mixed tys_ok (cs := [(15, k_check.con), (34, k_order.con)]) ⟨c_check, c_order, trivial⟩ Try.func17 rfl (by kernel_rfl) Try.ntmps17 _ (h := ?_)
  intro g
  refine ⟨rfl, fun hp => ?_⟩
  have hp : wide g := hp
  have ho : ((checkG g).2 != 0) = false → g.length < 1000000 ∧ inAll g := fun h => by
    have h0 : (checkG g).2 = 0 := by simpa using h
    have := (check_parts h0).1.1
    exact ⟨by omega, check_inAll h0⟩
  conv => whnf
  repeat' ((first
    | with_reducible refine ⟨fun h => h, ?_⟩
    | with_reducible refine ⟨pk1, ?_⟩
    | with_reducible refine ⟨pk2, ?_⟩
    | with_reducible refine ⟨pk3, ?_⟩
    | with_reducible refine ⟨pk4, ?_⟩
    | with_reducible refine ⟨pk5, ?_⟩
    | with_reducible refine ⟨pk6, ?_⟩
    | with_reducible refine ⟨trivial, ?_⟩
    | with_reducible refine ⟨fun _ => trivial, ?_⟩
    | with_reducible refine ⟨rfl, ?_⟩
    | with_reducible refine every_i (fun hd => ?_)
    | with_reducible refine everyN_i (fun k hk => ?_)
    | with_reducible refine everyD_i (fun d hd => ?_)
    | with_reducible refine fork_t (by assumption) ?_
    | with_reducible refine fork_f (by assumption) ?_
    | refine fork_t rfl ?_
    | refine fork_f rfl ?_
    | with_reducible refine fork_i (fun h => ?_) (fun h => ?_)
    | with_reducible refine both_i ?_ ?_
    | ((with_reducible refine alike_i ?_); exact ⟨rfl, rfl, rfl⟩)
    | ((with_reducible refine fin_i ?_); (conv => whnf); refine ⟨rfl, ?_⟩)
    | refine ⟨hp, ?_⟩
    | refine ⟨ho (by assumption), ?_⟩
    | refine ⟨of_decide_eq_true rfl, ?_⟩
    | refine ⟨fun _ => of_decide_eq_true rfl, ?_⟩
    | ((with_reducible refine ⟨?_, ?_⟩); (focus (intros; simp_all; done)))
    | ((with_reducible refine ⟨?_, ?_⟩); (focus (intros; omega)))) <;> (try (conv => whnf)))
  · have hn : (checkG g).2 ≠ 0 := by simpa using h
    rw [orderC_no hn]
    all_goals ((with_reducible refine leaf_i ?_); (conv => whnf))
    repeat' ((with_reducible refine And.intro ?_ ?_) <;> (try (conv => whnf)))
    all_goals (try (first | with_reducible rfl | exact True.intro | rfl | exact id | exact fun h => h | exact fun _ => rfl))
    all_goals (first | rfl | trace_state)
  · have hn : ¬ (checkG g).2 ≠ 0 := by simpa using h
    rw [orderC_ok hn]
    all_goals ((with_reducible refine leaf_i ?_); (conv => whnf))
    repeat' ((with_reducible refine And.intro ?_ ?_) <;> (try (conv => whnf)))
    all_goals (try (first | with_reducible rfl | exact True.intro | rfl | exact id | exact fun h => h | exact fun _ => rfl))
    all_goals (first | rfl | trace_state)
end Go.Proofs.Ytbgcgokikekmoaa

/- The kit's functions that layer 9's statements use. -/
namespace Go.Proofs.Ytbgcgokikekmoaa
open Go Go.RowKit Go.Proofs.Ytbgcgokikekmoaa.Eng
def k_ins : Sig := .arg (shR tN) fun g => .arg shI fun top => .done { pre := top < 4611686018427387904, res := B (insG g top) }
set_option maxHeartbeats 4000000 in
theorem c_ins : FnOk Try.prog 9 k_ins.con := by
  refine fnOkS mixed tys_ok (cs := []) trivial Try.func9 rfl (by kernel_rfl) Try.ntmps9 _ (h := ?_)
  intro g top
  refine ⟨rfl, fun hp => ?_⟩
  have hp1 : top < 4611686018427387904 := hp
  conv => whnf
  repeat' ((first
    | with_reducible refine ⟨fun h => h, ?_⟩
    | with_reducible refine ⟨pk1, ?_⟩
    | with_reducible refine ⟨pk2, ?_⟩
    | with_reducible refine ⟨pk3, ?_⟩
    | with_reducible refine ⟨pk4, ?_⟩
    | with_reducible refine ⟨pk5, ?_⟩
    | with_reducible refine ⟨pk6, ?_⟩
    | with_reducible refine ⟨trivial, ?_⟩
    | with_reducible refine ⟨fun _ => trivial, ?_⟩
    | with_reducible refine ⟨rfl, ?_⟩
    | with_reducible refine every_i (fun hd => ?_)
    | with_reducible refine everyN_i (fun k hk => ?_)
    | with_reducible refine everyD_i (fun d hd => ?_)
    | with_reducible refine fork_t (by assumption) ?_
    | with_reducible refine fork_f (by assumption) ?_
    | refine fork_t rfl ?_
    | refine fork_f rfl ?_
    | with_reducible refine fork_i (fun h => ?_) (fun h => ?_)
    | with_reducible refine both_i ?_ ?_
    | ((with_reducible refine alike_i ?_); exact ⟨rfl, rfl, rfl⟩)
    | ((with_reducible refine fin_i ?_); (conv => whnf); refine ⟨rfl, ?_⟩)
    | refine ⟨of_decide_eq_true rfl, ?_⟩
    | refine ⟨fun _ => of_decide_eq_true rfl, ?_⟩
    | ((with_reducible refine ⟨?_, ?_⟩); (focus (intros; simp_all; done)))
    | ((with_reducible refine ⟨?_, ?_⟩); (focus (intros; omega)))) <;> (try (conv => whnf)))
  · have h := of_decide_eq_true h
    have hn : insG g top = false := by unfold insG; rw [decide_eq_false (by omega)]; rfl
    all_goals ((with_reducible refine leaf_i ?_); (conv => whnf))
    repeat' ((with_reducible refine And.intro ?_ ?_) <;> (try (conv => whnf)))
    all_goals (try (first | with_reducible rfl | exact True.intro | rfl | exact id | exact fun h => h | exact fun _ => rfl))
    all_goals (rw [hn])
  · have h := of_decide_eq_false h
    have hn : insG g top = g.all fun n : Nd => decide (((Nd.ins n).length : Int) ≤ top) := by unfold insG; rw [decide_eq_true (by omega), Bool.true_and]
    refine looped (σ := Nat) (fun j => [(5, I j)]) (fun _ => []) (fun j => j ≤ g.length ∧ ((g.drop j).all fun n : Nd => decide (((Nd.ins n).length : Int) ≤ top)) = insG g top) (fun j => g.length - j) 0 ⟨Nat.zero_le _, hn.symm⟩ ?_ ?_
    · conv => whnf
      refine ⟨rfl, leaf_i ?_⟩
      repeat' ((with_reducible refine And.intro ?_ ?_) <;> (try (conv => whnf)))
      all_goals (try (first | with_reducible rfl | exact True.intro | rfl | exact id | exact fun h => h | exact fun _ => rfl))
    · rintro j ⟨hj, hl⟩
      conv => whnf
      repeat' ((first
        | with_reducible refine ⟨fun h => h, ?_⟩
        | with_reducible refine ⟨pk1, ?_⟩
        | with_reducible refine ⟨pk2, ?_⟩
        | with_reducible refine ⟨pk3, ?_⟩
        | with_reducible refine ⟨pk4, ?_⟩
        | with_reducible refine ⟨pk5, ?_⟩
        | with_reducible refine ⟨pk6, ?_⟩
        | with_reducible refine ⟨trivial, ?_⟩
        | with_reducible refine ⟨fun _ => trivial, ?_⟩
        | with_reducible refine ⟨rfl, ?_⟩
        | with_reducible refine every_i (fun hd => ?_)
        | with_reducible refine everyN_i (fun k hk => ?_)
        | with_reducible refine everyD_i (fun d hd => ?_)
        | with_reducible refine fork_t (by assumption) ?_
        | with_reducible refine fork_f (by assumption) ?_
        | refine fork_t rfl ?_
        | refine fork_f rfl ?_
        | with_reducible refine fork_i (fun h => ?_) (fun h => ?_)
        | with_reducible refine both_i ?_ ?_
        | ((with_reducible refine alike_i ?_); exact ⟨rfl, rfl, rfl⟩)
        | ((with_reducible refine fin_i ?_); (conv => whnf); refine ⟨rfl, ?_⟩)
        | refine ⟨of_decide_eq_true rfl, ?_⟩
        | refine ⟨fun _ => of_decide_eq_true rfl, ?_⟩
        | ((with_reducible refine ⟨?_, ?_⟩); (focus (intros; simp_all; done)))
        | ((with_reducible refine ⟨?_, ?_⟩); (focus (intros; omega)))) <;> (try (conv => whnf)))
      · have hj' : j < g.length := lt_t (by assumption)
        have hx : ¬ ((Nd.ins (getE tN g j)).length : Int) ≤ top := fun hh => by have hh2 := of_decide_eq_true h; have hh2 : ((Nd.ins (getE tN g j)).length : Int) > top := hh2; omega
        rw [drop_get g hj', List.all_cons, decide_eq_false hx, Bool.false_and] at hl
        all_goals ((with_reducible refine leaf_i ?_); (conv => whnf))
        repeat' ((with_reducible refine And.intro ?_ ?_) <;> (try (conv => whnf)))
        all_goals (try (first | with_reducible rfl | exact True.intro | rfl | exact id | exact fun h => h | exact fun _ => rfl))
        all_goals (rw [← hl])
      · have hj' : j < g.length := lt_t (by assumption)
        have hx : ((Nd.ins (getE tN g j)).length : Int) ≤ top := by have hh2 := of_decide_eq_false h; have hh2 : ¬ ((Nd.ins (getE tN g j)).length : Int) > top := hh2; omega
        rw [drop_get g hj', List.all_cons, decide_eq_true hx, Bool.true_and] at hl
        refine next_i (j + 1) ⟨hj', hl⟩ (by omega) rfl rfl ?_
        conv => whnf
        refine ⟨rfl, leaf_i ?_⟩
        repeat' ((with_reducible refine And.intro ?_ ?_) <;> (try (conv => whnf)))
        all_goals (try (first | with_reducible rfl | exact True.intro | rfl | exact id | exact fun h => h | exact fun _ => rfl))
        all_goals exact wrapS (by omega)
      · have hj' : g.length ≤ j := lt_f (by assumption)
        rw [List.drop_eq_nil_of_le hj', List.all_nil] at hl
        all_goals ((with_reducible refine leaf_i ?_); (conv => whnf))
        repeat' ((with_reducible refine And.intro ?_ ?_) <;> (try (conv => whnf)))
        all_goals (try (first | with_reducible rfl | exact True.intro | rfl | exact id | exact fun h => h | exact fun _ => rfl))
        all_goals (rw [← hl])
def k_own : Sig := .arg (shR tN) fun g => .done { pre := g.length ≤ 1000000000 ∧ ∀ x : Nd, x ∈ g → (Nd.ins x).length ≤ 1000000000, res := .rl true tN g }
set_option maxRecDepth 100000 in
set_option maxHeartbeats 4000000 in
theorem c_own : FnOk Try.prog 11 k_own.con := by
  refine fnOkS mixed tys_ok (cs := []) trivial Try.func11 rfl (by kernel_rfl) Try.ntmps11 _ (h := ?_)
  intro g
  refine ⟨rfl, fun hp => ?_⟩
  obtain ⟨hp1, hp2⟩ := hp
  conv => whnf
  repeat' ((first
    | with_reducible refine ⟨fun h => h, ?_⟩
    | with_reducible refine ⟨pk1, ?_⟩
    | with_reducible refine ⟨pk2, ?_⟩
    | with_reducible refine ⟨pk3, ?_⟩
    | with_reducible refine ⟨pk4, ?_⟩
    | with_reducible refine ⟨pk5, ?_⟩
    | with_reducible refine ⟨pk6, ?_⟩
    | with_reducible refine ⟨trivial, ?_⟩
    | with_reducible refine ⟨fun _ => trivial, ?_⟩
    | with_reducible refine ⟨rfl, ?_⟩
    | with_reducible refine every_i (fun hd => ?_)
    | with_reducible refine everyN_i (fun k hk => ?_)
    | with_reducible refine everyD_i (fun d hd => ?_)
    | with_reducible refine fork_t (by assumption) ?_
    | with_reducible refine fork_f (by assumption) ?_
    | refine fork_t rfl ?_
    | refine fork_f rfl ?_
    | with_reducible refine fork_i (fun h => ?_) (fun h => ?_)
    | with_reducible refine both_i ?_ ?_
    | ((with_reducible refine alike_i ?_); exact ⟨rfl, rfl, rfl⟩)
    | ((with_reducible refine fin_i ?_); (conv => whnf); refine ⟨rfl, ?_⟩)
    | refine ⟨of_decide_eq_true rfl, ?_⟩
    | refine ⟨fun _ => of_decide_eq_true rfl, ?_⟩
    | ((with_reducible refine ⟨?_, ?_⟩); (focus (intros; simp_all; done)))
    | ((with_reducible refine ⟨?_, ?_⟩); (focus (intros; omega)))) <;> (try (conv => whnf)))
  refine looped (σ := Nat × List (El tN)) (fun x => [(4, I x.1), (3, .ow 0 5 x.2.length)]) (fun x => [.row true tN 39 x.2]) (fun x => x.1 ≤ g.length ∧ x.2 = g.take x.1) (fun x => g.length - x.1) (0, []) ⟨Nat.zero_le _, rfl⟩ ?_ ?_
  · conv => whnf
    refine ⟨rfl, leaf_i ?_⟩
    repeat' ((with_reducible refine And.intro ?_ ?_) <;> (try (conv => whnf)))
    all_goals (try (first | with_reducible rfl | exact True.intro | rfl | exact id | exact fun h => h | exact fun _ => rfl))
  · rintro ⟨j, l⟩ ⟨hj, hl⟩
    dsimp only at hj hl
    conv => whnf
    repeat' ((first
      | with_reducible refine ⟨fun h => h, ?_⟩
      | with_reducible refine ⟨pk1, ?_⟩
      | with_reducible refine ⟨pk2, ?_⟩
      | with_reducible refine ⟨pk3, ?_⟩
      | with_reducible refine ⟨pk4, ?_⟩
      | with_reducible refine ⟨pk5, ?_⟩
      | with_reducible refine ⟨pk6, ?_⟩
      | with_reducible refine ⟨trivial, ?_⟩
      | with_reducible refine ⟨fun _ => trivial, ?_⟩
      | with_reducible refine ⟨rfl, ?_⟩
      | with_reducible refine every_i (fun hd => ?_)
      | with_reducible refine everyN_i (fun k hk => ?_)
      | with_reducible refine everyD_i (fun d hd => ?_)
      | with_reducible refine fork_t (by assumption) ?_
      | with_reducible refine fork_f (by assumption) ?_
      | refine fork_t rfl ?_
      | refine fork_f rfl ?_
      | with_reducible refine fork_i (fun h => ?_) (fun h => ?_)
      | with_reducible refine both_i ?_ ?_
      | ((with_reducible refine alike_i ?_); exact ⟨rfl, rfl, rfl⟩)
      | ((with_reducible refine fin_i ?_); (conv => whnf); refine ⟨rfl, ?_⟩)
      | refine ⟨of_decide_eq_true rfl, ?_⟩
      | refine ⟨fun _ => of_decide_eq_true rfl, ?_⟩
      | ((with_reducible refine ⟨?_, ?_⟩); (focus (intros; simp_all; done)))
      | ((with_reducible refine ⟨?_, ?_⟩); (focus (intros; omega)))) <;> (try (conv => whnf)))
    · have hj' : j < g.length := lt_t (by assumption)
      have hlen : l.length = j := by rw [hl, List.length_take]; omega
      refine ⟨hp2 _ (getE_mem g hj'), ?_⟩
      (conv => whnf)
      conv => whnf
      repeat' ((first
        | with_reducible refine ⟨fun h => h, ?_⟩
        | with_reducible refine ⟨pk1, ?_⟩
        | with_reducible refine ⟨pk2, ?_⟩
        | with_reducible refine ⟨pk3, ?_⟩
        | with_reducible refine ⟨pk4, ?_⟩
        | with_reducible refine ⟨pk5, ?_⟩
        | with_reducible refine ⟨pk6, ?_⟩
        | with_reducible refine ⟨trivial, ?_⟩
        | with_reducible refine ⟨fun _ => trivial, ?_⟩
        | with_reducible refine ⟨rfl, ?_⟩
        | with_reducible refine every_i (fun hd => ?_)
        | with_reducible refine everyN_i (fun k hk => ?_)
        | with_reducible refine everyD_i (fun d hd => ?_)
        | with_reducible refine fork_t (by assumption) ?_
        | with_reducible refine fork_f (by assumption) ?_
        | refine fork_t rfl ?_
        | refine fork_f rfl ?_
        | with_reducible refine fork_i (fun h => ?_) (fun h => ?_)
        | with_reducible refine both_i ?_ ?_
        | ((with_reducible refine alike_i ?_); exact ⟨rfl, rfl, rfl⟩)
        | ((with_reducible refine fin_i ?_); (conv => whnf); refine ⟨rfl, ?_⟩)
        | ((with_reducible refine ⟨?_, ?_⟩); (focus (simp only [List.length_append, List.length_cons, List.length_nil]; omega)))
        | refine ⟨of_decide_eq_true rfl, ?_⟩
        | refine ⟨fun _ => of_decide_eq_true rfl, ?_⟩
        | ((with_reducible refine ⟨?_, ?_⟩); (focus (intros; simp_all; done)))
        | ((with_reducible refine ⟨?_, ?_⟩); (focus (intros; omega)))) <;> (try (conv => whnf)))
      refine next_i (j + 1, l ++ [getE tN g j]) ⟨hj', by rw [hl]; exact (take_get g hj').symm⟩ (by dsimp only; omega) rfl rfl ?_
      conv => whnf
      refine ⟨rfl, leaf_i ?_⟩
      repeat' ((with_reducible refine And.intro ?_ ?_) <;> (try (conv => whnf)))
      all_goals (try (first | with_reducible rfl | exact True.intro | rfl | exact id | exact fun h => h | exact fun _ => rfl))
      all_goals first | rfl | exact wrapS (j := j) (by omega) | trace_state
    · have hj' : g.length ≤ j := lt_f (by assumption)
      have hl : l = g := by rw [hl, List.take_of_length_le hj']
      all_goals ((with_reducible refine leaf_i ?_); (conv => whnf))
      repeat' ((with_reducible refine And.intro ?_ ?_) <;> (try (conv => whnf)))
      all_goals (try (first | with_reducible rfl | exact True.intro | rfl | exact id | exact fun h => h | exact fun _ => rfl))
      all_goals exact hl
end Go.Proofs.Ytbgcgokikekmoaa

/- Layer 10: graphs that are written out. -/
namespace Go.Proofs.Ytbgcgokikekmoaa
set_option maxRecDepth 100000
open Go Go.RowKit Go.Proofs.Ytbgcgokikekmoaa.Eng
def mkN (k a b d : Int) (l : List Int) : Nd := (k, a, b, d, l.map (fun x => (x, ())), ())
def gStraight : List Nd := [mkN 1 0 0 0 [], mkN 10 0 0 0 [0]]
def gMeeting : List Nd := [mkN 1 0 0 0 [], mkN 1 0 0 0 [], mkN 6 0 0 0 [0, 1], mkN 10 0 0 0 [2]]
def gRace : List Nd := [mkN 1 0 0 0 [], mkN 2 0 1 0 [0], mkN 7 0 0 1 [1], mkN 4 0 0 1 [2, 6], mkN 2 0 2 1 [3], mkN 3 0 9 1 [4], mkN 9 0 3 1 [5], mkN 8 0 0 0 [4], mkN 5 0 0 0 [7], mkN 10 0 0 0 [8]]
def gDeeper : List Nd := [mkN 1 0 0 0 [], mkN 4 0 0 0 [0, 4], mkN 7 0 0 1 [1], mkN 9 0 2 1 [2], mkN 8 0 0 0 [3]]
def k_straight : Sig := .done { pre := True, res := .rl true tN gStraight }
def k_meeting : Sig := .done { pre := True, res := .rl true tN gMeeting }
def k_race : Sig := .done { pre := True, res := .rl true tN gRace }
def k_deeper : Sig := .done { pre := True, res := .rl true tN gDeeper }
set_option maxHeartbeats 4000000 in
theorem c_straight : FnOk Try.prog 22 k_straight.con := by
  refine fnOkS mixed tys_ok (cs := []) trivial Try.func22 rfl (by kernel_rfl) Try.ntmps22 _ (h := ?_)
  refine ⟨rfl, fun _ => ?_⟩
  conv => whnf
  repeat' ((first
    | with_reducible refine ⟨fun h => h, ?_⟩
    | with_reducible refine ⟨pk1, ?_⟩
    | with_reducible refine ⟨pk2, ?_⟩
    | with_reducible refine ⟨pk3, ?_⟩
    | with_reducible refine ⟨pk4, ?_⟩
    | with_reducible refine ⟨pk5, ?_⟩
    | with_reducible refine ⟨pk6, ?_⟩
    | with_reducible refine ⟨trivial, ?_⟩
    | with_reducible refine ⟨fun _ => trivial, ?_⟩
    | with_reducible refine ⟨rfl, ?_⟩
    | with_reducible refine every_i (fun hd => ?_)
    | with_reducible refine everyN_i (fun k hk => ?_)
    | with_reducible refine everyD_i (fun d hd => ?_)
    | with_reducible refine fork_t (by assumption) ?_
    | with_reducible refine fork_f (by assumption) ?_
    | refine fork_t rfl ?_
    | refine fork_f rfl ?_
    | with_reducible refine fork_i (fun h => ?_) (fun h => ?_)
    | with_reducible refine both_i ?_ ?_
    | ((with_reducible refine alike_i ?_); exact ⟨rfl, rfl, rfl⟩)
    | ((with_reducible refine fin_i ?_); (conv => whnf); refine ⟨rfl, ?_⟩)
    | refine ⟨of_decide_eq_true rfl, ?_⟩
    | refine ⟨fun _ => of_decide_eq_true rfl, ?_⟩
    | ((with_reducible refine ⟨?_, ?_⟩); (focus (intros; simp_all; done)))
    | ((with_reducible refine ⟨?_, ?_⟩); (focus (intros; omega)))) <;> (try (conv => whnf)))
  all_goals ((with_reducible refine leaf_i ?_); (conv => whnf))
  repeat' ((with_reducible refine And.intro ?_ ?_) <;> (try (conv => whnf)))
  all_goals (try (first | with_reducible rfl | exact True.intro | rfl | exact id | exact fun h => h | exact fun _ => rfl))
  all_goals (first | rfl | trace_state)
set_option maxHeartbeats 4000000 in
theorem c_meeting : FnOk Try.prog 21 k_meeting.con := by
  refine fnOkS mixed tys_ok (cs := []) trivial Try.func21 rfl (by kernel_rfl) Try.ntmps21 _ (h := ?_)
  refine ⟨rfl, fun _ => ?_⟩
  conv => whnf
  repeat' ((first
    | with_reducible refine ⟨fun h => h, ?_⟩
    | with_reducible refine ⟨pk1, ?_⟩
    | with_reducible refine ⟨pk2, ?_⟩
    | with_reducible refine ⟨pk3, ?_⟩
    | with_reducible refine ⟨pk4, ?_⟩
    | with_reducible refine ⟨pk5, ?_⟩
    | with_reducible refine ⟨pk6, ?_⟩
    | with_reducible refine ⟨trivial, ?_⟩
    | with_reducible refine ⟨fun _ => trivial, ?_⟩
    | with_reducible refine ⟨rfl, ?_⟩
    | with_reducible refine every_i (fun hd => ?_)
    | with_reducible refine everyN_i (fun k hk => ?_)
    | with_reducible refine everyD_i (fun d hd => ?_)
    | with_reducible refine fork_t (by assumption) ?_
    | with_reducible refine fork_f (by assumption) ?_
    | refine fork_t rfl ?_
    | refine fork_f rfl ?_
    | with_reducible refine fork_i (fun h => ?_) (fun h => ?_)
    | with_reducible refine both_i ?_ ?_
    | ((with_reducible refine alike_i ?_); exact ⟨rfl, rfl, rfl⟩)
    | ((with_reducible refine fin_i ?_); (conv => whnf); refine ⟨rfl, ?_⟩)
    | refine ⟨of_decide_eq_true rfl, ?_⟩
    | refine ⟨fun _ => of_decide_eq_true rfl, ?_⟩
    | ((with_reducible refine ⟨?_, ?_⟩); (focus (intros; simp_all; done)))
    | ((with_reducible refine ⟨?_, ?_⟩); (focus (intros; omega)))) <;> (try (conv => whnf)))
  all_goals ((with_reducible refine leaf_i ?_); (conv => whnf))
  repeat' ((with_reducible refine And.intro ?_ ?_) <;> (try (conv => whnf)))
  all_goals (try (first | with_reducible rfl | exact True.intro | rfl | exact id | exact fun h => h | exact fun _ => rfl))
  all_goals (first | rfl | trace_state)
set_option maxHeartbeats 4000000 in
theorem c_race : FnOk Try.prog 20 k_race.con := by
  refine fnOkS mixed tys_ok (cs := []) trivial Try.func20 rfl (by kernel_rfl) Try.ntmps20 _ (h := ?_)
  refine ⟨rfl, fun _ => ?_⟩
  conv => whnf
  repeat' ((first
    | with_reducible refine ⟨fun h => h, ?_⟩
    | with_reducible refine ⟨pk1, ?_⟩
    | with_reducible refine ⟨pk2, ?_⟩
    | with_reducible refine ⟨pk3, ?_⟩
    | with_reducible refine ⟨pk4, ?_⟩
    | with_reducible refine ⟨pk5, ?_⟩
    | with_reducible refine ⟨pk6, ?_⟩
    | with_reducible refine ⟨trivial, ?_⟩
    | with_reducible refine ⟨fun _ => trivial, ?_⟩
    | with_reducible refine ⟨rfl, ?_⟩
    | with_reducible refine every_i (fun hd => ?_)
    | with_reducible refine everyN_i (fun k hk => ?_)
    | with_reducible refine everyD_i (fun d hd => ?_)
    | with_reducible refine fork_t (by assumption) ?_
    | with_reducible refine fork_f (by assumption) ?_
    | refine fork_t rfl ?_
    | refine fork_f rfl ?_
    | with_reducible refine fork_i (fun h => ?_) (fun h => ?_)
    | with_reducible refine both_i ?_ ?_
    | ((with_reducible refine alike_i ?_); exact ⟨rfl, rfl, rfl⟩)
    | ((with_reducible refine fin_i ?_); (conv => whnf); refine ⟨rfl, ?_⟩)
    | refine ⟨of_decide_eq_true rfl, ?_⟩
    | refine ⟨fun _ => of_decide_eq_true rfl, ?_⟩
    | ((with_reducible refine ⟨?_, ?_⟩); (focus (intros; simp_all; done)))
    | ((with_reducible refine ⟨?_, ?_⟩); (focus (intros; omega)))) <;> (try (conv => whnf)))
  all_goals ((with_reducible refine leaf_i ?_); (conv => whnf))
  repeat' ((with_reducible refine And.intro ?_ ?_) <;> (try (conv => whnf)))
  all_goals (try (first | with_reducible rfl | exact True.intro | rfl | exact id | exact fun h => h | exact fun _ => rfl))
  all_goals (first | rfl | trace_state)
set_option maxHeartbeats 4000000 in
theorem c_deeper : FnOk Try.prog 23 k_deeper.con := by
  refine fnOkS mixed tys_ok (cs := []) trivial Try.func23 rfl (by kernel_rfl) Try.ntmps23 _ (h := ?_)
  refine ⟨rfl, fun _ => ?_⟩
  conv => whnf
  repeat' ((first
    | with_reducible refine ⟨fun h => h, ?_⟩
    | with_reducible refine ⟨pk1, ?_⟩
    | with_reducible refine ⟨pk2, ?_⟩
    | with_reducible refine ⟨pk3, ?_⟩
    | with_reducible refine ⟨pk4, ?_⟩
    | with_reducible refine ⟨pk5, ?_⟩
    | with_reducible refine ⟨pk6, ?_⟩
    | with_reducible refine ⟨trivial, ?_⟩
    | with_reducible refine ⟨fun _ => trivial, ?_⟩
    | with_reducible refine ⟨rfl, ?_⟩
    | with_reducible refine every_i (fun hd => ?_)
    | with_reducible refine everyN_i (fun k hk => ?_)
    | with_reducible refine everyD_i (fun d hd => ?_)
    | with_reducible refine fork_t (by assumption) ?_
    | with_reducible refine fork_f (by assumption) ?_
    | refine fork_t rfl ?_
    | refine fork_f rfl ?_
    | with_reducible refine fork_i (fun h => ?_) (fun h => ?_)
    | with_reducible refine both_i ?_ ?_
    | ((with_reducible refine alike_i ?_); exact ⟨rfl, rfl, rfl⟩)
    | ((with_reducible refine fin_i ?_); (conv => whnf); refine ⟨rfl, ?_⟩)
    | refine ⟨of_decide_eq_true rfl, ?_⟩
    | refine ⟨fun _ => of_decide_eq_true rfl, ?_⟩
    | ((with_reducible refine ⟨?_, ?_⟩); (focus (intros; simp_all; done)))
    | ((with_reducible refine ⟨?_, ?_⟩); (focus (intros; omega)))) <;> (try (conv => whnf)))
  all_goals ((with_reducible refine leaf_i ?_); (conv => whnf))
  repeat' ((with_reducible refine And.intro ?_ ?_) <;> (try (conv => whnf)))
  all_goals (try (first | with_reducible rfl | exact True.intro | rfl | exact id | exact fun h => h | exact fun _ => rfl))
  all_goals (first | rfl | trace_state)
theorem chk_straight : checkG gStraight = (2, 0) := by kernel_rfl
theorem chk_1 : checkG [mkN 10 0 0 0 [0]] = (0, 100) := by kernel_rfl
theorem chk_2 : checkG [mkN 1 0 0 0 [], mkN 7 0 0 0 [0]] = (1, 101) := by kernel_rfl
theorem chk_3 : checkG [mkN 1 0 0 0 [], mkN 4 0 0 0 [0, 2], mkN 2 0 0 0 [1]] = (1, 102) := by kernel_rfl
theorem chk_4 : checkG [mkN 2 4 0 0 []] = (0, 130) := by kernel_rfl
theorem chk_deeper : checkG gDeeper = (1, 102) := by kernel_rfl
theorem ord_race : (orderC gRace).2 = 0 ∧ (orderC gRace).1.length = 10 := ⟨by kernel_rfl, by kernel_rfl⟩
end Go.Proofs.Ytbgcgokikekmoaa

/- Layer 10: works. -/
namespace Go.Proofs.Ytbgcgokikekmoaa
set_option maxRecDepth 100000
open Go Go.RowKit Go.Proofs.Ytbgcgokikekmoaa.Eng
def fewB (g : List Nd) : Bool := decide (g.length ≤ 1000) && g.all fun x => decide ((Nd.ins x).length ≤ 1000)
theorem wide_of {g : List Nd} (h : fewB g = true) : wide g := by
  simp only [fewB, Bool.and_eq_true, decide_eq_true_eq, List.all_eq_true] at h
  exact ⟨by omega, fun x hx => by have := h.2 x hx; omega⟩
attribute [local irreducible] checkG orderC
def k_works : Sig := .done { pre := True, res := B true }
set_option maxHeartbeats 4000000 in
theorem c_works : FnOk Try.prog 10 k_works.con := by
  refine fnOkS mixed tys_ok (cs := [(22, k_straight.con), (15, k_check.con), (20, k_race.con), (17, k_Order.con), (23, k_deeper.con)]) ⟨c_straight, c_check, c_race, c_Order, c_deeper, trivial⟩ Try.func10 rfl (by kernel_rfl) Try.ntmps10 _ (h := ?_)
  refine ⟨rfl, fun _ => ?_⟩
  conv => whnf
  repeat' ((first
    | with_reducible refine ⟨fun h => h, ?_⟩
    | with_reducible refine ⟨pk1, ?_⟩
    | with_reducible refine ⟨pk2, ?_⟩
    | with_reducible refine ⟨pk3, ?_⟩
    | with_reducible refine ⟨pk4, ?_⟩
    | with_reducible refine ⟨pk5, ?_⟩
    | with_reducible refine ⟨pk6, ?_⟩
    | with_reducible refine ⟨trivial, ?_⟩
    | with_reducible refine ⟨fun _ => trivial, ?_⟩
    | with_reducible refine ⟨rfl, ?_⟩
    | with_reducible refine every_i (fun hd => ?_)
    | with_reducible refine everyN_i (fun k hk => ?_)
    | with_reducible refine everyD_i (fun d hd => ?_)
    | with_reducible refine fork_t (by assumption) ?_
    | with_reducible refine fork_f (by assumption) ?_
    | refine fork_t rfl ?_
    | refine fork_f rfl ?_
    | with_reducible refine fork_i (fun h => ?_) (fun h => ?_)
    | with_reducible refine both_i ?_ ?_
    | ((with_reducible refine alike_i ?_); exact ⟨rfl, rfl, rfl⟩)
    | ((with_reducible refine fin_i ?_); (conv => whnf); refine ⟨rfl, ?_⟩)
    | refine ⟨wide_of (by kernel_rfl), ?_⟩
    | refine ⟨of_decide_eq_true rfl, ?_⟩
    | refine ⟨fun _ => of_decide_eq_true rfl, ?_⟩
    | ((with_reducible refine ⟨?_, ?_⟩); (focus (intros; simp_all; done)))
    | ((with_reducible refine ⟨?_, ?_⟩); (focus (intros; omega)))) <;> (try (conv => whnf)))
  all_goals ((with_reducible refine leaf_i ?_); (conv => whnf))
  repeat' ((with_reducible refine And.intro ?_ ?_) <;> (try (conv => whnf)))
  all_goals (try (first | with_reducible rfl | exact True.intro | rfl | exact id | exact fun h => h | exact fun _ => rfl))
  all_goals kernel_rfl
end Go.Proofs.Ytbgcgokikekmoaa
